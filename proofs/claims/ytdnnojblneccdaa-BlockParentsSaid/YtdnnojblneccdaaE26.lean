/-
  Functions of plain values; returns.
-/
import Derived.Test.YtdnnojblneccdaaE25
namespace Go.Proofs.Ytdnnojblneccdaa
set_option linter.unusedSimpArgs false
set_option linter.unusedVariables false
open Go
open Enc (enc)

section
variable {α β γ δ : Type} [Enc α] [Enc β] [Enc γ] [Enc δ]
noncomputable def fn0 (f : Value) : FnI := fun args _ n => match args with
  | [] => some ⟨f, [], n⟩
  | _ => none
noncomputable def fn1 (f : α → Value) : FnI := fun args _ n => match args with
  | [x] => (dec x).bind fun a => some ⟨f a, [], n⟩
  | _ => none
noncomputable def fn2 (f : α → β → Value) : FnI := fun args _ n => match args with
  | [x, y] => (dec x).bind fun a => (dec y).bind fun b => some ⟨f a b, [], n⟩
  | _ => none
noncomputable def fn3 (f : α → β → γ → Value) : FnI := fun args _ n => match args with
  | [x, y, z] => (dec x).bind fun a => (dec y).bind fun b => (dec z).bind fun c => some ⟨f a b c, [], n⟩
  | _ => none
theorem fn0_inv {f : Value} {args : List Value} {H : IHeap} {n : Nat} {e : Eff} (h : fn0 f args H n = some e) : args = [] ∧ e = ⟨f, [], n⟩ := by
  unfold fn0 at h; split at h
  · cases h; exact ⟨rfl, rfl⟩
  · cases h
theorem fn1_inv {f : α → Value} {args : List Value} {H : IHeap} {n : Nat} {e : Eff} (h : fn1 f args H n = some e) : ∃ a, args = [enc a] ∧ e = ⟨f a, [], n⟩ := by
  unfold fn1 at h; split at h
  · simp only [Option.bind_eq_some_iff] at h
    obtain ⟨a, ha, h⟩ := h
    cases h; exact ⟨a, by rw [dec_some ha], rfl⟩
  · cases h
theorem fn2_inv {f : α → β → Value} {args : List Value} {H : IHeap} {n : Nat} {e : Eff} (h : fn2 f args H n = some e) : ∃ a b, args = [enc a, enc b] ∧ e = ⟨f a b, [], n⟩ := by
  unfold fn2 at h; split at h
  · simp only [Option.bind_eq_some_iff] at h
    obtain ⟨a, ha, b, hb, h⟩ := h
    cases h; exact ⟨a, b, by rw [dec_some ha, dec_some hb], rfl⟩
  · cases h
theorem fn3_inv {f : α → β → γ → Value} {args : List Value} {H : IHeap} {n : Nat} {e : Eff} (h : fn3 f args H n = some e) : ∃ a b c, args = [enc a, enc b, enc c] ∧ e = ⟨f a b c, [], n⟩ := by
  unfold fn3 at h; split at h
  · simp only [Option.bind_eq_some_iff] at h
    obtain ⟨a, ha, b, hb, c, hc, h⟩ := h
    cases h; exact ⟨a, b, c, by rw [dec_some ha, dec_some hb, dec_some hc], rfl⟩
  · cases h
theorem fn0_ev (f : Value) (H : IHeap) (n : Nat) : fn0 f [] H n = some ⟨f, [], n⟩ := rfl
theorem fn1_ev (f : α → Value) (a : α) (H : IHeap) (n : Nat) : fn1 f [enc a] H n = some ⟨f a, [], n⟩ := by simp only [fn1, dec_enc, Option.bind_some]
theorem fn2_ev (f : α → β → Value) (a : α) (b : β) (H : IHeap) (n : Nat) : fn2 f [enc a, enc b] H n = some ⟨f a b, [], n⟩ := by simp only [fn2, dec_enc, Option.bind_some]
theorem fn3_ev (f : α → β → γ → Value) (a : α) (b : β) (c : γ) (H : IHeap) (n : Nat) : fn3 f [enc a, enc b, enc c] H n = some ⟨f a b c, [], n⟩ := by simp only [fn3, dec_enc, Option.bind_some]
end

theorem ires_tmp {D : Ty} {N u : Nat} {L : List (Nat × Value)} {v : Value} {H : IHeap} (h : opd N L (.tmp u) = some v) : ires D (dense N L) H [.tmp u] = some v := by
  have : ev (dense N L) (.tmp u) = v := pl h
  simp only [ev] at this
  simp only [ires, ires1, this]
/-- a value is returned, nothing of the caller's was written -/
theorem RetP.one {D : Ty} {rs : List ResultVar} {N u n n' : Nat} {L : List (Nat × Value)} {v : Value} {H H' : IHeap} {ex : Exit} (hx : ex = .normal ∨ ex = .ret) (hrs : rs = [.tmp u]) (h : opd N L (.tmp u) = some v) (hv : okN (fun id => id < n) v) :
    RetP D rs n H ⟨v, [], n⟩ ex (dense N L) H' n' := by
  subst hrs
  exact RetP.pure hx (ires_tmp h) hv (Nat.le_refl _)
theorem RetP.ret {D : Ty} {rs : List ResultVar} {N u n n' : Nat} {L : List (Nat × Value)} {v v' : Value} {H H' : IHeap} {ex : Exit} (hx : ex = .normal ∨ ex = .ret) (hrs : rs = [.tmp u]) (h : opd N L (.tmp u) = some v') (hv : okN (fun id => id < n) v) (hw : v' = v) :
    RetP D rs n H ⟨v, [], n⟩ ex (dense N L) H' n' := by
  subst hw; exact RetP.one hx hrs h hv
end Go.Proofs.Ytdnnojblneccdaa
