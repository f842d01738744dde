import Derived.Test.YtdnnojblneccdaaJI
import Derived.Test.YtdnnojblneccdaaJK
/-
  PROVED: headwaterlaw02.ShaCalls returns true for every input. No condition.
-/
namespace Go.Proofs.Ytdnnojblneccdaa
set_option linter.unusedSimpArgs false
set_option linter.unusedVariables false
open Go Go.ChangeShapes Go.WideShapes Go.ChangeAt Go.RowKit
open Enc (enc)
set_option maxRecDepth 100000

theorem shaCalls_lifted (os : Os) (started : os.Started) (T : Type) (en : TypeId × Value → T) :
    ReturnsInHanded {} Try.checked os 9 .any (Rows.shaCallsSpec.pre6 en Try.prog Try.f9 Rows.shaCallsRow.domain false) (Rows.shaCallsSpec.post en Try.prog Try.f9 false true false false) := by
  refine law_true (C := Try.checked) (tb := 4) Try.own started (by kernel_rfl) Try.func9
    (ChangeSpec.witness6 (enc := en) (C := Try.checked) false ⟨#[], #[.slice none 0 0, .slice none 0 0, enc (Vector.replicate 8 (0 : UInt64)), enc (Vector.replicate 128 (0 : UInt8))], []⟩ 8 (by kernel_rfl) (by kernel_rfl) (by kernel_rfl) (by kernel_rfl))
    Try.laidOut (by kernel_rfl) rfl Try.underlying4 rfl (fun ds hds => ?_) ?_
  · match ds, hds with
    | [d0, d1, d2, d3], _ => exact ⟨rfl, rfl, rfl⟩
  · intro W base args hsz hval ds p htr
    have hsz : args.size = 4 := hsz
    obtain ⟨a0, ha0, ka0⟩ := bytes_of (hval 0 35 (args[0]'(by omega)) rfl (by simp [hsz]))
    obtain ⟨a1, ha1, ka1⟩ := bytes_of (hval 1 35 (args[1]'(by omega)) rfl (by simp [hsz]))
    obtain ⟨a2, ha2⟩ := u64s_of (k := 8) Try.underlying50 (by kernel_rfl) (by kernel_rfl) (hval 2 50 (args[2]'(by omega)) rfl (by simp [hsz]))
    obtain ⟨a3, ha3⟩ := u8s_of (k := 128) Try.underlying63 (by kernel_rfl) (by kernel_rfl) (hval 3 63 (args[3]'(by omega)) rfl (by simp [hsz]))
    have hargs : args = #[enc a0, enc a1, enc a2, enc a3] := by
      apply Array.ext (by simp [hsz])
      intro i h1 h2
      have hi : i < 4 := by omega
      match i, hi with
      | 0, _ => exact ha0
      | 1, _ => exact ha1
      | 2, _ => exact ha2
      | 3, _ => exact ha3
    subst hargs
    obtain ⟨_, _, d0, ds0, p0, q0, e0, _, _, ht0, htr⟩ := trodAll_cons (t := 35) htr
    cases e0
    obtain ⟨l0, hl0⟩ := bytes_mem ka0 ht0
    obtain ⟨_, _, d1, ds1, p1, q1, e1, _, _, ht1, htr⟩ := trodAll_cons (t := 35) htr
    cases e1
    obtain ⟨l1, hl1⟩ := bytes_mem ka1 ht1
    obtain ⟨_, _, d2, ds2, p2, q2, e2, _, _, ht2, htr⟩ := trodAll_cons (t := 50) htr
    cases e2
    obtain ⟨_, _, d3, ds3, p3, q3, e3, _, _, ht3, htr⟩ := trodAll_cons (t := 63) htr
    cases e3
    refine calls_of_ref (ρ := ρW W) (H := HW W) (n := W.heap.size) (args := [enc a0, enc a1, enc a2, enc a3]) Try.func9 rfl (by kernel_rfl) R9 (F9_ev hl0 hl1) (ρW_below W) (HW_hr W) ⟨rfl, fun i v hv => ?_⟩
    have hi : i < 4 := (List.getElem?_eq_some_iff.1 hv).1
    match i, hi, hv with
    | 0, _, hv => cases hv; exact ⟨_, rfl, slOk_vr ka0⟩
    | 1, _, hv => cases hv; exact ⟨_, rfl, slOk_vr ka1⟩
    | 2, _, hv => cases hv; exact ⟨_, rfl, vr_agg vr_u64s⟩
    | 3, _, hv => cases hv; exact ⟨_, rfl, vr_agg vr_u8s⟩

theorem shaCalls_holds : Rows.ShaCallsSaid :=
  OpenClaim.holds_of_wide 9 Try.f9 rfl rfl rfl rfl rfl rfl rfl ⟨rfl, rfl, rfl, rfl, rfl⟩ rfl rfl rfl rfl rfl (by kernel_rfl) Try.func9 (by kernel_rfl)
    (of_decide_eq_true (by kernel_rfl)) (by unfold Func.isWrapper; first | (rw [if_pos (by decide +kernel)]; kernel_rfl) | (rw [if_neg (by decide +kernel)]; exact ⟨rfl, rfl⟩))
    (fun os started T en _ => shaCalls_lifted os started T en)
end Go.Proofs.Ytdnnojblneccdaa
