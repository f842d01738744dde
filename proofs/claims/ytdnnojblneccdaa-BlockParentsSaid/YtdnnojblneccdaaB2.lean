/-
  Lists of blocks: LightBlocks.
-/
import Derived.Test.YtdnnojblneccdaaB1
namespace Go.Proofs.Ytdnnojblneccdaa
set_option linter.unusedSimpArgs false
set_option linter.unusedVariables false
open Go
open Enc (enc)
set_option maxRecDepth 100000

def heavyB (b : Block) : Bool := decide ((40 : Int) < b.links.len) || decide ((2000 : Int) < b.data.len)
def lightL (l : List Block) (m : Int) : Bool := !decide (m < l.length) && l.all fun b => !heavyB b
noncomputable def F18 : FnI := fun args H n => match args with
  | [x, .int .i64 m] => (rdC H x).bind fun (l : List Block) => if l.length ≤ 2 ^ 47 then some ⟨.bool (lightL l m), [], n⟩ else none
  | _ => none
theorem F18_inv {args : List Value} {H : IHeap} {n : Nat} {e : Eff} (h : F18 args H n = some e) : ∃ xa xc m, ∃ l : List Block, args = [.slice xa l.length xc, .int .i64 m] ∧ rdC H (.slice xa l.length xc) = some l ∧ l.length ≤ 2 ^ 47 ∧ e = ⟨.bool (lightL l m), [], n⟩ := by
  unfold F18 at h; split at h
  · simp only [Option.bind_eq_some_iff] at h
    obtain ⟨l, hl, h⟩ := h
    split at h
    · rename_i hle
      cases h
      obtain ⟨xa, xc, rfl⟩ := rdC_len hl
      exact ⟨xa, xc, _, l, rfl, hl, hle, rfl⟩
    · cases h
  · cases h
theorem F18_ev {x : Value} {H : IHeap} {n : Nat} {m : Int} {l : List Block} (hl : rdC H x = some l) (hle : l.length ≤ 2 ^ 47) : F18 [x, .int .i64 m] H n = some ⟨.bool (lightL l m), [], n⟩ := by
  simp only [F18, hl, Option.bind_some, if_pos hle]
theorem light1 {l : List Block} {m : Int} (h : m < l.length) : lightL l m = false := by simp [lightL, h]
theorem light2 {l : List Block} {m : Int} {s : Nat} (hs : s < l.length) (h : heavyB l[s] = true) : lightL l m = false := by
  have : l.all (fun b => !heavyB b) = false := by
    rw [List.all_eq_false]
    exact ⟨l[s], List.getElem_mem hs, by simp [h]⟩
  simp [lightL, this]
theorem light3 {l : List Block} {m : Int} {s : Nat} (hs : l.length ≤ s) (hm : ¬ m < l.length) (h : ∀ b ∈ l.take s, heavyB b = false) : lightL l m = true := by
  rw [List.take_of_length_le hs] at h
  simp only [lightL, Bool.and_eq_true, Bool.not_eq_true', decide_eq_false_iff_not, List.all_eq_true]
  exact ⟨hm, h⟩
theorem light_next {l : List Block} {s : Nat} (hs : s < l.length) (h : ∀ b ∈ l.take s, heavyB b = false) (h1 : heavyB l[s] = false) : ∀ b ∈ l.take (s + 1), heavyB b = false := by
  intro b hb
  rw [List.take_succ_eq_append_getElem hs] at hb
  rcases List.mem_append.1 hb with h2 | h2
  · exact h b h2
  · simp only [List.mem_singleton] at h2; rw [h2, h1]
-- headwater/headwaterkit.LightBlocks ['Sl', 'Int'] -> ['Bool'], results [4]
theorem R18 : Ref Try.prog 18 F18 := by
  refine Ref.of_iw dok Try.func18 rfl (by kernel_rfl) fun args H n e hF => ?_
  obtain ⟨xa, xc, m, l, rfl, ha, hle, rfl⟩ := F18_inv hF
  refine ⟨Nat.le_of_ble_eq_true rfl, ?_⟩
  simp only [idxL]
  have hE : Env Try.prog [] D K := env fnsOk_nil
  refine IW.seq ?_
  refine IW.reg hE ?_
  refine vcS_val rfl rfl (ox_assign (pl rfl)) ?_
  refine vcS_nil ?_
  refine IW.seq ?_
  refine IW.seq ?_
  refine IW.reg hE ?_
  refine vcS_val rfl rfl (ox_move (pl rfl)) ?_
  refine vcS_val rfl rfl (ox_len (pl rfl) D_39 rfl) ?_
  refine vcS_val rfl rfl (ox_move (pl rfl)) ?_
  refine vcS_val rfl rfl (ox_bin (pl rfl) (pl rfl) (bo_i64_gtr _ _)) ?_
  refine vcS_nil ?_
  refine IW.cond rfl (fun hc1 => ?_) (fun hc1 => ?_)
  · replace hc1 := of_decide_eq_true hc1
    refine IW.seq ?_
    refine IW.reg hE ?_
    refine vcS_val rfl rfl (ox_assign (pl rfl)) ?_
    refine vcS_nil ?_
    refine IW.ret ?_
    exact RetP.ret (.inr rfl) rfl rfl trivial (by rw [light1 hc1])
  · replace hc1 := of_decide_eq_false hc1
    refine IW.skip ?_
    refine IW.seq ?_
    refine IW.seq ?_
    refine IW.reg hE ?_
    refine vcS_val rfl rfl (ox_assign (pl rfl)) ?_
    refine vcS_nil ?_
    refine IW.block ?_
    refine IW.loop (S := Nat) (fun s => [(0, .slice xa l.length xc), (5, .int .i64 s)]) (fun s => []) (fun s => n) (fun s => s ≤ l.length ∧ ∀ b ∈ l.take s, heavyB b = false) (fun s => l.length - s) (0) (by simp) (⟨rfl, ⟨rfl, trivial⟩⟩) (fun _ _ h => h) (Nat.le_refl _) (fun s hs => ?_)
    obtain ⟨hs1, hs2⟩ := hs
    refine IW.seq ?_
    refine IW.seq ?_
    refine IW.reg hE ?_
    refine vcS_val rfl rfl (ox_move (pl rfl)) ?_
    refine vcS_val rfl rfl (ox_move (pl rfl)) ?_
    refine vcS_val rfl rfl (ox_len (pl rfl) D_39 rfl) ?_
    refine vcS_val rfl rfl (ox_bin (pl rfl) (pl rfl) (bo_i64_lss _ _)) ?_
    refine vcS_nil ?_
    refine IW.cond rfl (fun hc2 => ?_) (fun hc2 => ?_)
    · replace hc2 := of_decide_eq_true hc2
      have hc2 : s < l.length := by omega
      obtain ⟨i1, o1, p1, c1, r1, e1, m1, l1⟩ := rdC_at ha hc2
      subst e1
      refine IW.skip ?_
      refine IW.seq ?_
      refine IW.block ?_
      refine IW.seq ?_
      refine IW.reg hE ?_
      refine vcS_val rfl rfl (ox_move (pl rfl)) ?_
      refine vcS_val rfl rfl (ox_move (pl rfl)) ?_
      refine vcS_val rfl rfl (ox_iaS (pl rfl) (pl rfl) D_39 rfl D_37 (by omega) (by omega)) ?_
      refine vcS_val rfl rfl (ox_fieldAddr (pl rfl) D_37 rfl rfl D_34 (by decide)) ?_
      refine vcS_val rfl rfl (ox_load (pl rfl) D_34 m1 (rd_celIn l1 hc2 (rd_37_3 _ rfl) rfl)) ?_
      refine vcS_val rfl rfl (ox_len (pl rfl) D_34 rfl) ?_
      refine vcS_val rfl rfl (ox_bin (pl rfl) (pl rfl) (bo_i64_gtr _ _)) ?_
      refine vcS_val rfl rfl (ox_move (pl rfl)) ?_
      refine vcS_opt rfl (wgF rfl rfl rfl) (fun hb => ox_move (pl rfl)) ?_
      refine vcS_opt rfl (wgF rfl rfl rfl) (fun hb => ox_move (pl rfl)) ?_
      refine vcS_opt rfl (wgF rfl rfl rfl) (fun hb => ox_iaS (gd hb rfl) (gd hb rfl) D_39 rfl D_37 (by omega) (by omega)) ?_
      refine vcS_opt rfl (wgF rfl rfl rfl) (fun hb => ox_fieldAddr (gd hb rfl) D_37 rfl rfl D_35 (by decide)) ?_
      refine vcS_opt rfl (wgF rfl rfl rfl) (fun hb => ox_load (gd hb rfl) D_35 m1 (rd_celIn l1 hc2 (rd_37_4 _ rfl) rfl)) ?_
      refine vcS_opt rfl (wgF rfl rfl rfl) (fun hb => ox_len (gd hb rfl) D_35 rfl) ?_
      refine vcS_opt rfl (wgF rfl rfl rfl) (fun hb => ox_bin (gd hb rfl) (pl rfl) (bo_i64_gtr _ _)) ?_
      refine vcS_val rfl rfl (ox_or (pl rfl) (pl rfl) (fun hc => gd (by rw [hc]; rfl) rfl)) ?_
      refine vcS_nil ?_
      refine IW.cond rfl (fun hc3 => ?_) (fun hc3 => ?_)
      · refine IW.seq ?_
        refine IW.reg hE ?_
        refine vcS_val rfl rfl (ox_assign (pl rfl)) ?_
        refine vcS_nil ?_
        refine IW.ret ?_
        refine retB ?_
        refine retS (retS ?_)
        refine retB ?_
        exact RetP.ret (.inr rfl) rfl rfl trivial (by rw [light2 hc2 hc3])
      · refine IW.skip ?_
        refine IW.nilB ?_
        refine IW.reg hE ?_
        refine vcS_val rfl rfl (ox_move (pl rfl)) ?_
        refine vcS_val rfl rfl (ox_bin (pl rfl) (pl rfl) (bo_i64_add (by omega))) ?_
        refine vcS_val rfl rfl (ox_assign (pl rfl)) ?_
        refine vcS_nil ?_
        refine IW.nilS ?_
        exact ⟨s + 1, _, _, ⟨by omega, light_next hc2 hs2 hc3⟩, by omega, rfl, ⟨rfl, ⟨rfl, trivial⟩⟩, rfl, fun _ _ h => h, Nat.le_refl _⟩
    · replace hc2 := of_decide_eq_false hc2
      refine IW.exit ?_
      refine exS (exS ?_)
      refine blkQ_exit ?_
      refine IW.seq ?_
      refine IW.reg hE ?_
      refine vcS_val rfl rfl (ox_assign (pl rfl)) ?_
      refine vcS_nil ?_
      refine IW.ret ?_
      exact RetP.ret (.inr rfl) rfl rfl trivial (by rw [light3 (by omega) hc1 hs2])
end Go.Proofs.Ytdnnojblneccdaa
