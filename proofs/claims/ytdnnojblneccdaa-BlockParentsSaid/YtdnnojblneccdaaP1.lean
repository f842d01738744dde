/-
  Orders: how comparisons that are made of comparisons stand. No program in sight.
-/
import Derived.Test.YtdnnojblneccdaaC3
namespace Go.Proofs.Ytdnnojblneccdaa
set_option linter.unusedSimpArgs false
set_option linter.unusedVariables false
open Enc (enc)

structure IsCmp {α : Type} (C : α → α → Int) : Prop where
  anti : ∀ a b, C a b = - C b a
  rng : ∀ a b, C a b = -1 ∨ C a b = 0 ∨ C a b = 1
  tr : ∀ a b c, C a b ≤ 0 → C b c ≤ 0 → C a c ≤ 0
theorem IsCmp.lt {α : Type} {C : α → α → Int} (h : IsCmp C) {a b c : α} (h1 : C a b < 0) (h2 : C b c ≤ 0) : C a c < 0 := by
  have h3 := h.tr a b c (by omega) h2
  rcases Int.lt_or_eq_of_le h3 with h4 | h4
  · exact h4
  · have h5 := h.anti a c
    have h6 := h.tr b c a h2 (by omega)
    have h7 := h.anti a b
    omega
theorem IsCmp.lt' {α : Type} {C : α → α → Int} (h : IsCmp C) {a b c : α} (h1 : C a b ≤ 0) (h2 : C b c < 0) : C a c < 0 := by
  have h3 := h.tr a b c h1 (by omega)
  rcases Int.lt_or_eq_of_le h3 with h4 | h4
  · exact h4
  · have h5 := h.anti a c
    have h6 := h.tr c a b (by omega) h1
    have h7 := h.anti c b
    omega
def lex {α : Type} (C E : α → α → Int) (a b : α) : Int := if C a b ≠ 0 then C a b else E a b
theorem IsCmp.lex {α : Type} {C E : α → α → Int} (h : IsCmp C) (k : IsCmp E) : IsCmp (lex C E) := by
  refine ⟨fun a b => ?_, fun a b => ?_, fun a b c h1 h2 => ?_⟩
  · have := h.anti a b
    have := k.anti a b
    unfold Ytdnnojblneccdaa.lex
    split <;> split <;> omega
  · have := h.rng a b
    have := k.rng a b
    unfold Ytdnnojblneccdaa.lex
    split <;> omega
  · have a1 := h.anti a b
    have a2 := h.anti b c
    have a3 := h.anti a c
    have t1 := h.tr a b c
    have t5 := h.tr c b a
    have t6 := h.tr b a c
    have t7 := h.tr a c b
    have t8 := h.tr c a b
    have t9 := h.tr b c a
    have t2 := k.tr a b c
    unfold Ytdnnojblneccdaa.lex at h1 h2 ⊢
    split at h1 <;> split at h2 <;> split <;> omega
theorem IsCmp.on {α β : Type} {C : β → β → Int} (h : IsCmp C) (f : α → β) : IsCmp fun a b => C (f a) (f b) := ⟨fun a b => h.anti _ _, fun a b => h.rng _ _, fun a b c => h.tr _ _ _⟩
theorem isCmp64 : IsCmp cmp64 := by
  refine ⟨fun a b => ?_, fun a b => ?_, fun a b c h1 h2 => ?_⟩
  · unfold cmp64; simp only [UInt64.lt_iff_toNat_lt]; (repeat' split) <;> omega
  · unfold cmp64; split
    · simp
    · split <;> simp
  · unfold cmp64 at *; simp only [UInt64.lt_iff_toNat_lt] at *
    split at h1 <;> split at h2 <;> (try split at h1) <;> (try split at h2) <;> split <;> (try split) <;> omega
theorem isCmpI : IsCmp cmpI := by
  refine ⟨fun a b => ?_, fun a b => ?_, fun a b c h1 h2 => ?_⟩
  · unfold cmpI; (repeat' split) <;> omega
  · unfold cmpI; split
    · simp
    · split <;> simp
  · unfold cmpI at *
    split at h1 <;> split at h2 <;> (try split at h1) <;> (try split at h2) <;> split <;> (try split) <;> omega
theorem cmp64_zero {a b : UInt64} : cmp64 a b = 0 ↔ a = b := by
  unfold cmp64; rw [← UInt64.toNat_inj]; simp only [UInt64.lt_iff_toNat_lt]
  split
  · constructor <;> intro h <;> omega
  · split
    · constructor <;> intro h <;> omega
    · constructor <;> intro h <;> omega
theorem cmpI_zero {a b : Int} : cmpI a b = 0 ↔ a = b := by
  unfold cmpI
  split
  · constructor <;> intro h <;> omega
  · split
    · constructor <;> intro h <;> omega
    · constructor <;> intro h <;> omega
theorem cmpL_anti : ∀ a b, cmpL a b = - cmpL b a
  | [], [] => rfl
  | [], _ :: _ => rfl
  | _ :: _, [] => rfl
  | a :: us, b :: ws => by
    simp only [cmpL]
    by_cases h : a = b
    · subst h; simp only [if_true]; exact cmpL_anti us ws
    · have h' : ¬ b = a := fun e => h e.symm
      have h2 : a.toNat ≠ b.toNat := fun e => h (UInt8.toNat_inj.1 e)
      simp only [if_neg h, if_neg h', UInt8.lt_iff_toNat_lt]
      split <;> split <;> omega
theorem cmpL_rng : ∀ a b, cmpL a b = -1 ∨ cmpL a b = 0 ∨ cmpL a b = 1
  | [], [] => by simp [cmpL]
  | [], _ :: _ => by simp [cmpL]
  | _ :: _, [] => by simp [cmpL]
  | a :: us, b :: ws => by
    simp only [cmpL]
    split
    · exact cmpL_rng us ws
    · split <;> simp
theorem cmpL_tr : ∀ a b c, cmpL a b ≤ 0 → cmpL b c ≤ 0 → cmpL a c ≤ 0
  | [], _, [], _, _ => by simp [cmpL]
  | [], _, _ :: _, _, _ => by simp [cmpL]
  | _ :: _, [], _, h, _ => by simp [cmpL] at h
  | _ :: _, _ :: _, [], _, h => by simp [cmpL] at h
  | a :: us, b :: ws, c :: cs, h1, h2 => by
    simp only [cmpL] at *
    by_cases e1 : a = b
    · subst e1
      simp only [if_true] at h1
      by_cases e2 : a = c
      · subst e2; simp only [if_true] at *; exact cmpL_tr us ws cs h1 h2
      · simp only [if_neg e2] at *; exact h2
    · simp only [if_neg e1] at h1
      have l1 : a.toNat < b.toNat := by
        simp only [UInt8.lt_iff_toNat_lt] at h1
        split at h1
        · assumption
        · omega
      by_cases e2 : b = c
      · subst e2; simp only [if_neg e1, UInt8.lt_iff_toNat_lt, if_pos l1]; omega
      · simp only [if_neg e2] at h2
        have l2 : b.toNat < c.toNat := by
          simp only [UInt8.lt_iff_toNat_lt] at h2
          split at h2
          · assumption
          · omega
        have e3 : ¬ a = c := fun e => by subst e; omega
        simp only [if_neg e3, UInt8.lt_iff_toNat_lt, if_pos (Nat.lt_trans l1 l2)]; omega
theorem isCmpL : IsCmp cmpL := ⟨cmpL_anti, cmpL_rng, cmpL_tr⟩
theorem cmpL_zero : ∀ {a b : List UInt8}, cmpL a b = 0 ↔ a = b
  | [], [] => by simp [cmpL]
  | [], _ :: _ => by simp [cmpL]
  | _ :: _, [] => by simp [cmpL]
  | a :: us, b :: ws => by
    simp only [cmpL]
    by_cases h : a = b
    · subst h; simp only [if_true, List.cons.injEq, true_and]; exact cmpL_zero
    · rw [if_neg h]
      simp only [List.cons.injEq, h, false_and, iff_false]
      split <;> decide
theorem isCmpV : IsCmp cmpV := by
  have h := ((isCmp64.on Vote.height).lex ((isCmp64.on Vote.round).lex ((isCmpI.on Vote.phase).lex ((isCmpL.on fun v => v.voter.toList).lex ((isCmpL.on fun v => v.value.toList).lex (isCmp64.on Vote.proof))))))
  have e : cmpV = lex (fun a b => cmp64 a.height b.height) (lex (fun a b => cmp64 a.round b.round) (lex (fun a b => cmpI a.phase b.phase) (lex (fun a b => cmpL a.voter.toList b.voter.toList) (lex (fun a b => cmpL a.value.toList b.value.toList) fun a b => cmp64 a.proof b.proof)))) := by
    funext a b
    have h0 : ∀ c : Int, (if c ≠ 0 then c else 0) = c := fun c => by split <;> omega
    simp only [cmpV, cmpVs, orL, lex, h0]
  rw [e]; exact h
theorem cmpV_zero {a b : Vote} : cmpV a b = 0 ↔ a.height = b.height ∧ a.round = b.round ∧ a.phase = b.phase ∧ a.voter = b.voter ∧ a.value = b.value ∧ a.proof = b.proof := by
  rw [← @cmp64_zero a.height, ← @cmp64_zero a.round, ← @cmpI_zero a.phase, ← Vector.toList_inj (xs := a.voter), ← Vector.toList_inj (xs := a.value), ← @cmpL_zero a.voter.toList, ← @cmpL_zero a.value.toList, ← @cmp64_zero a.proof]
  simp only [cmpV, cmpVs, orL]
  repeat' split
  all_goals simp_all
end Go.Proofs.Ytdnnojblneccdaa
