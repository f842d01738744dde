/-
  PROVED: headwaterlaw20.VoteOrders returns true for every three votes, and its arguments read as they did. No condition.
-/
import Derived.Test.YtdnnojblneccdaaRows
import Derived.Test.YtdnnojblneccdaaC4
import Derived.Test.YtdnnojblneccdaaE29
namespace Go.Proofs.Ytdnnojblneccdaa
open Go Go.ChangeShapes Go.WideShapes Go.ChangeAt Go.RowKit
open Enc (enc)
set_option maxRecDepth 100000

theorem Try.own : ownKnob Try.prog.godebug = none := by kernel_rfl
theorem Try.laidOut : laidOutB Try.prog = true := by kernel_rfl

theorem vote_of {W : World} {base : Nat} {v : Value} (h : Value.okWide Try.prog W .any base 29 v) : ∃ a : Vote, v = enc a := by
  obtain ⟨c, rfl, hc⟩ := fits_of_wide (ts := [22] ++ ([22] ++ ([3] ++ (List.replicate 32 5 ++ ([22] ++ (List.replicate 32 5 ++ List.replicate 64 5)))))) Try.underlying29 rfl (by kernel_rfl) (by kernel_rfl) h
  obtain ⟨c1, c, rfl, h1, hc⟩ := fits_append hc
  obtain ⟨c2, c, rfl, h2, hc⟩ := fits_append hc
  obtain ⟨c3, c, rfl, h3, hc⟩ := fits_append hc
  obtain ⟨c4, c, rfl, h4, hc⟩ := fits_append hc
  obtain ⟨c5, c, rfl, h5, hc⟩ := fits_append hc
  obtain ⟨c6, c7, rfl, h6, h7⟩ := fits_append hc
  obtain ⟨a1, rfl⟩ := fits_one (cellIs_u64 Try.underlying22) h1
  obtain ⟨a2, rfl⟩ := fits_one (cellIs_u64 Try.underlying22) h2
  obtain ⟨a3, rfl⟩ := fits_one (cellIs_i64 Try.underlying3) h3
  obtain ⟨a4, rfl⟩ := fits_many (cellIs_u8 Try.underlying5) 32 h4
  obtain ⟨a5, rfl⟩ := fits_one (cellIs_u64 Try.underlying22) h5
  obtain ⟨a6, rfl⟩ := fits_many (cellIs_u8 Try.underlying5) 32 h6
  obtain ⟨a7, rfl⟩ := fits_many (cellIs_u8 Try.underlying5) 64 h7
  exact ⟨⟨a1, a2, a3, a4, a5, a6, a7⟩, rfl⟩

theorem vr_enc_vote {ρ : Ren} (a : Vote) : VR ρ (enc a) (enc a) := by
  refine .agg rfl fun i x y hx hy => ?_
  rw [hx] at hy; cases hy
  refine VR.clo1 ρ ?_
  have hm : x ∈ a.cells := by simpa using Array.mem_of_getElem? hx
  have hall : a.cells.all clo1 = true := by
    have he : ∀ l : List UInt8, (encs l).all clo1 = true := fun l => by
      simp only [encs, List.all_map, List.all_eq_true]; intro _ _; rfl
    simp only [Vote.cells, List.all_append, he, Bool.and_true, List.all_cons, List.all_nil]
    rfl
  exact List.all_eq_true.1 hall x hm

theorem voteOrders_lifted (os : Os) (started : os.Started) (T : Type) (en : TypeId × Value → T) :
    ReturnsInHanded {} Try.checked os 3 .any (Rows.voteOrdersSpec.pre6 en Try.prog Try.f3 Rows.voteOrdersRow.domain false) (Rows.voteOrdersSpec.post en Try.prog Try.f3 false true false false) := by
  refine law_true (C := Try.checked) (tb := 4) Try.own started (by kernel_rfl) Try.func3
    (ChangeSpec.witness6 (enc := en) (C := Try.checked) false ⟨#[], #[enc Vote.zero, enc Vote.zero, enc Vote.zero], []⟩ 8 (by kernel_rfl) (by kernel_rfl) (by kernel_rfl) (by kernel_rfl))
    Try.laidOut (by kernel_rfl) rfl Try.underlying4 rfl (fun ds hds => ?_) ?_
  · match ds, hds with
    | [d1, d2, d3], _ => exact ⟨rfl, rfl, rfl⟩
  · intro W base args hsz hval ds p _
    have hsz : args.size = 3 := hsz
    obtain ⟨a, ha⟩ := vote_of (hval 0 29 (args[0]'(by omega)) rfl (by simp [hsz]))
    obtain ⟨b, hb⟩ := vote_of (hval 1 29 (args[1]'(by omega)) rfl (by simp [hsz]))
    obtain ⟨c, hc⟩ := vote_of (hval 2 29 (args[2]'(by omega)) rfl (by simp [hsz]))
    refine calls_of_ref (ρ := fun _ => none) (H := fun _ => none) (n := 0) (args := [enc a, enc b, enc c]) Try.func3 rfl (by kernel_rfl) R3 (fn3_ev _ a b c _ _) (fun _ _ => rfl) ⟨fun id o h => (by cases h), fun i j o p r κ κ' h => (by cases h)⟩ ⟨by simp [hsz], fun i x hx => ?_⟩
    have hi : i < 3 := (List.getElem?_eq_some_iff.1 hx).1
    match i, hi, hx with
    | 0, _, hx => cases hx; exact ⟨enc a, by rw [← ha]; simp [hsz], vr_enc_vote a⟩
    | 1, _, hx => cases hx; exact ⟨enc b, by rw [← hb]; simp [hsz], vr_enc_vote b⟩
    | 2, _, hx => cases hx; exact ⟨enc c, by rw [← hc]; simp [hsz], vr_enc_vote c⟩

theorem voteOrders_holds : Rows.VoteOrdersSaid :=
  OpenClaim.holds_of_wide 3 Try.f3 rfl rfl rfl rfl rfl rfl rfl ⟨rfl, rfl, rfl, rfl, rfl⟩ rfl rfl rfl rfl rfl (by kernel_rfl) Try.func3 (by kernel_rfl)
    (of_decide_eq_true (by kernel_rfl)) (by unfold Func.isWrapper; first | (rw [if_pos (by decide +kernel)]; kernel_rfl) | (rw [if_neg (by decide +kernel)]; exact ⟨rfl, rfl⟩))
    (fun os started T en _ => voteOrders_lifted os started T en)
#print axioms voteOrders_holds
end Go.Proofs.Ytdnnojblneccdaa
