/-
  Copies: Own, Names, slices.Clone.
-/
import Derived.Test.YtdnnojblneccdaaB2
import Derived.Test.YtdnnojblneccdaaE31
namespace Go.Proofs.Ytdnnojblneccdaa
set_option linter.unusedSimpArgs false
set_option linter.unusedVariables false
open Go
open Enc (enc)
set_option maxRecDepth 100000

/-- a new slice with these members: what append makes of an empty literal -/
def freshV (sz n k : Nat) : Value := if k = 0 then .slice (some ⟨n, 0, none⟩) 0 0 else .slice (some ⟨n, 0, some sz⟩) k k
def freshE {α : Type} [Row α] (n : Nat) (l : List α) : Eff := ⟨freshV (Row.sz α) n l.length, [(n, some (.cells (cels l) false))], n + 1⟩
noncomputable def copyF (α : Type) [Row α] (bytes : Nat) : FnI := fun args H n => match args with
  | [x] => (rdC H x).bind fun (l : List α) => if l.length * bytes ≤ most then some (freshE n l) else none
  | _ => none
theorem copyF_inv {α : Type} [Row α] {bytes : Nat} {args : List Value} {H : IHeap} {n : Nat} {e : Eff} (h : copyF α bytes args H n = some e) : ∃ x, ∃ l : List α, args = [x] ∧ rdC H x = some l ∧ l.length * bytes ≤ most ∧ e = freshE n l := by
  unfold copyF at h; split at h
  · simp only [Option.bind_eq_some_iff] at h
    obtain ⟨l, hl, h⟩ := h
    split at h
    · rename_i hle; cases h; exact ⟨_, l, rfl, hl, hle, rfl⟩
    · cases h
  · cases h
theorem copyF_ev {α : Type} [Row α] {bytes : Nat} {x : Value} {H : IHeap} {n : Nat} {l : List α} (hl : rdC H x = some l) (hle : l.length * bytes ≤ most) : copyF α bytes [x] H n = some (freshE n l) := by
  simp only [copyF, hl, Option.bind_some, if_pos hle]
theorem u8_plain (l : List UInt8) : (cels l).all plain = true := by
  simp only [cels, List.all_flatMap, List.all_eq_true]
  intro a _ x hx
  simp only [Row.cel, List.mem_singleton] at hx
  subst hx; rfl
noncomputable def F36 : FnI := copyF UInt8 1
theorem R36 : Ref Try.prog 36 F36 := by
  refine Ref.of_iw dok Try.func36 rfl (by kernel_rfl) fun args H n e hF => ?_
  obtain ⟨x, l, rfl, hl, hle, rfl⟩ := copyF_inv hF
  refine ⟨Nat.le_of_ble_eq_true rfl, ?_⟩
  simp only [idxL]
  have hE : Env Try.prog [] D K := env fnsOk_nil
  refine IW.seq ?_
  refine IW.reg hE ?_
  refine vcS_val rfl rfl (ox_assign (pl rfl)) ?_
  refine vcS_nil ?_
  refine IW.ltC (by simp) hl (fun hlt => ?_)
  refine IW.seq ?_
  refine IW.reg hE ?_
  refine vcS_new rfl rfl (ox_bs0 D_35 rfl D_5) (.inl (by omega)) ?_
  refine vcS_val rfl rfl (ox_move (pl rfl)) ?_
  have hl1 := rdC_hp (H := H) (M := []) (o := some (.cells [] false)) (m := n) hl hlt (Nat.le_refl _)
  by_cases h0 : l = []
  · subst h0
    refine vcS_val rfl rfl (ox_app0 (α := UInt8) (pl rfl) (pl rfl) D_35 rfl D_5 D_35 rfl rfl hl1 rfl (Nat.le_refl _)) ?_
    refine vcS_val rfl rfl (ox_assign (pl rfl)) ?_
    refine vcS_nil ?_
    refine IW.ret ?_
    exact RetP.new1 (.inr rfl) (ires_tmp rfl) (Nat.le_refl _) (hp_eq _ _ _ _) rfl
  · refine vcS_new rfl rfl (ox_app1 (pl rfl) (pl rfl) D_35 rfl D_5 D_35 rfl rfl hl1 h0 rfl (fun b hb => by cases hb; exact ⟨false, hp_eq _ _ _ _, rfl⟩) hle (by decide)) (.inl (by omega)) ?_
    refine vcS_val rfl rfl (ox_assign (pl rfl)) ?_
    refine vcS_nil ?_
    refine IW.ret ?_
    have e0 : l.length ≠ 0 := by simpa using h0
    simp only [freshE, freshV, if_neg e0]
    exact RetP.new1 (.inr rfl) (ires_tmp rfl) (Nat.le_succ _) (hp_eq _ _ _ _) (u8_plain l)
theorem dig_plain (l : List Dig) : (cels l).all plain = true := by
  simp only [cels, List.all_flatMap, List.all_eq_true]
  intro a _ x hx
  have hx : x ∈ encs a.toList := hx
  simp only [encs, List.mem_map] at hx
  obtain ⟨b, _, rfl⟩ := hx
  rfl
noncomputable def F66 : FnI := copyF Dig 32
theorem R66 : Ref Try.prog 66 F66 := by
  refine Ref.of_iw dok Try.func66 rfl (by kernel_rfl) fun args H n e hF => ?_
  obtain ⟨x, l, rfl, hl, hle, rfl⟩ := copyF_inv hF
  refine ⟨Nat.le_of_ble_eq_true rfl, ?_⟩
  simp only [idxL]
  have hE : Env Try.prog [] D K := env fnsOk_nil
  refine IW.seq ?_
  refine IW.reg hE ?_
  refine vcS_val rfl rfl (ox_assign (pl rfl)) ?_
  refine vcS_nil ?_
  refine IW.ltC (by simp) hl (fun hlt => ?_)
  refine IW.seq ?_
  refine IW.reg hE ?_
  refine vcS_new rfl rfl (ox_bs0 D_34 rfl D_24) (.inl (by omega)) ?_
  refine vcS_val rfl rfl (ox_move (pl rfl)) ?_
  have hl1 := rdC_hp (H := H) (M := []) (o := some (.cells [] false)) (m := n) hl hlt (Nat.le_refl _)
  by_cases h0 : l = []
  · subst h0
    refine vcS_val rfl rfl (ox_app0 (α := Dig) (pl rfl) (pl rfl) D_34 rfl D_24 D_34 rfl rfl hl1 rfl (Nat.le_refl _)) ?_
    refine vcS_val rfl rfl (ox_assign (pl rfl)) ?_
    refine vcS_nil ?_
    refine IW.ret ?_
    exact RetP.new1 (.inr rfl) (ires_tmp rfl) (Nat.le_refl _) (hp_eq _ _ _ _) rfl
  · refine vcS_new rfl rfl (ox_app1 (pl rfl) (pl rfl) D_34 rfl D_24 D_34 rfl rfl hl1 h0 rfl (fun b hb => by cases hb; exact ⟨false, hp_eq _ _ _ _, rfl⟩) hle (by decide)) (.inl (by omega)) ?_
    refine vcS_val rfl rfl (ox_assign (pl rfl)) ?_
    refine vcS_nil ?_
    refine IW.ret ?_
    have e0 : l.length ≠ 0 := by simpa using h0
    simp only [freshE, freshV, if_neg e0]
    exact RetP.new1 (.inr rfl) (ires_tmp rfl) (Nat.le_succ _) (hp_eq _ _ _ _) (dig_plain l)
end Go.Proofs.Ytdnnojblneccdaa
