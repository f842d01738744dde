/-
  Blocks: what Check lets in, and orders of names. No program in sight.
-/
import Derived.Test.YtdnnojblneccdaaP1
import Derived.Test.YtdnnojblneccdaaB8
namespace Go.Proofs.Ytdnnojblneccdaa
set_option linter.unusedSimpArgs false
set_option linter.unusedVariables false
open Enc (enc)

theorem bytesLess_cmp : ∀ a b : List UInt8, Go.Op.bytesLess a b = decide (cmpL a b < 0)
  | [], [] => rfl
  | [], _ :: _ => rfl
  | _ :: _, [] => rfl
  | a :: us, b :: ws => by
    simp only [Go.Op.bytesLess, cmpL, bytesLess_cmp us ws]
    by_cases h : a = b
    · subst h
      have : ¬ a < a := UInt8.lt_irrefl a
      simp [this]
    · simp only [h, beq_iff_eq, if_false]
      by_cases h2 : a < b <;> simp [h2, h]
def want1 (x y : Dig) : Int := if Go.Op.bytesLess x.toList y.toList = true then -1 else 0
def want2 (x y : Dig) : Int := if (!(Go.Op.bytesLess x.toList y.toList || x.toList == y.toList)) = true then 1 else want1 x y
theorem want_eq (x y : Dig) : want2 x y = cmpL x.toList y.toList := by
  unfold want2 want1
  rw [bytesLess_cmp]
  have hz : (x.toList == y.toList) = decide (cmpL x.toList y.toList = 0) := by
    rw [Bool.eq_iff_iff, beq_iff_eq, decide_eq_true_iff, cmpL_zero]
  rw [hz]
  rcases cmpL_rng x.toList y.toList with h | h | h <;> simp [h]
theorem want_rng (x y : Dig) : -1 ≤ want2 x y ∧ want2 x y ≤ 1 := by
  rw [want_eq]
  rcases cmpL_rng x.toList y.toList with h | h | h <;> omega
theorem lawB5 (x y z : Dig) : (((cmpL x.toList y.toList != want2 x y) || (cmpL y.toList x.toList != -want2 x y)) || ((decide (cmpL x.toList y.toList ≤ 0) && decide (cmpL y.toList z.toList ≤ 0)) && decide (0 < cmpL x.toList z.toList))) = false := by
  rw [want_eq]
  have h1 := cmpL_anti x.toList y.toList
  have h2 := cmpL_tr x.toList y.toList z.toList
  have h3 : (cmpL y.toList x.toList != -cmpL x.toList y.toList) = false := by rw [bne_eq_false_iff_eq]; omega
  rw [h3]
  simp only [bne_self_eq_false, Bool.or_false, Bool.false_or, Bool.and_eq_false_iff, decide_eq_false_iff_not]
  by_cases h4 : cmpL x.toList y.toList ≤ 0
  · by_cases h5 : cmpL y.toList z.toList ≤ 0
    · right; have := h2 h4 h5; omega
    · left; right; exact h5
  · left; left; exact h4
theorem light_of {b : Block} (h : (!lightL [b] 1) = false) : b.links.len ≤ 40 ∧ b.data.len ≤ 2000 := by
  simp only [Bool.not_eq_false', lightL, heavyB, List.all_cons, List.all_nil, Bool.and_true, Bool.and_eq_true, Bool.not_eq_true', Bool.or_eq_false_iff, decide_eq_false_iff_not] at h
  omega
theorem okL_spec {p : Dig} : ∀ {l : List Dig} {last : Dig}, okL p last l = true → (∀ x ∈ l, x ≠ p ∧ cmpL last.toList x.toList < 0) ∧ l.Pairwise (· ≠ ·)
  | [], last, _ => ⟨fun x h => (by cases h), .nil⟩
  | x :: l, last, h => by
    simp only [okL, Bool.and_eq_true, Bool.not_eq_true', Bool.or_eq_false_iff, beq_eq_false_iff_ne, decide_eq_false_iff_not] at h
    obtain ⟨⟨h1, h2⟩, h3⟩ := h
    obtain ⟨g1, g2⟩ := okL_spec h3
    have lt : ∀ y ∈ l, cmpL last.toList y.toList < 0 := fun y hy => isCmpL.lt (a := last.toList) (b := x.toList) (c := y.toList) (by omega) (by have := (g1 y hy).2; omega)
    refine ⟨fun y hy => ?_, .cons (fun y hy e => ?_) g2⟩
    · rcases List.mem_cons.1 hy with rfl | hy
      · exact ⟨h1, by omega⟩
      · exact ⟨(g1 y hy).1, lt y hy⟩
    · subst e
      have := (g1 _ hy).2
      rw [(cmpL_zero (a := x.toList) (b := x.toList)).2 rfl] at this
      omega
theorem par_nodup {b : Block} {l : List Dig} (h : (checkB b l != 0) = false) : (parL b l).Pairwise (· ≠ ·) := by
  rw [bne_eq_false_iff_eq] at h
  unfold checkB at h
  split at h
  · simp at h
  · split at h
    · rename_i hk
      obtain ⟨g1, g2⟩ := okL_spec hk
      unfold parL
      split
      · exact g2
      · exact .cons (fun y hy e => (g1 y hy).1 e.symm) g2
    · simp at h
theorem par_ne {b : Block} {l : List Dig} (h : (checkB b l != 0) = false) {i j : Nat} (hj : j < i) (hi : i < (parL b l).length) : ((parL b l)[i] == (parL b l)[j]) = false := by
  have := List.pairwise_iff_getElem.1 (par_nodup h) j i (by omega) hi hj
  rw [beq_eq_false_iff_ne]
  exact fun e => this e.symm
def kB (b : Block) : Nat := if (b.seq == 0) = true then 0 else 1
theorem kB_par (b : Block) (l : List Dig) : (parL b l).length = kB b + l.length := by
  unfold parL kB; split <;> simp <;> omega
theorem kB_drop (b : Block) (l : List Dig) : (parL b l).drop (kB b) = l := by
  unfold parL kB; split <;> rfl
theorem kB_head {b : Block} {l : List Dig} (h : kB b = 1) : (parL b l).getD 0 zD = b.prev := by
  unfold parL; unfold kB at h
  split
  · rename_i h2; rw [if_pos h2] at h; omega
  · rfl
theorem kB_one {b : Block} (h : decide ((0 : UInt64) < b.seq) = true) : kB b = 1 := by
  unfold kB
  rw [decide_eq_true_iff] at h
  rw [if_neg]
  intro e
  rw [beq_iff_eq] at e
  rw [e] at h
  exact absurd h (by decide)
theorem kB_zero {b : Block} (h : decide ((0 : UInt64) < b.seq) = false) : kB b = 0 := by
  unfold kB
  rw [decide_eq_false_iff_not] at h
  rw [if_pos]
  rw [beq_iff_eq]
  rw [UInt64.lt_iff_toNat_lt] at h
  apply UInt64.toNat_inj.1
  have : (0 : UInt64).toNat = 0 := rfl
  omega
theorem lawB8 (b : Block) (l : List Dig) (hl : b.links.len = l.length) : ((((parL b l).length : Int) != (kB b : Int) + (b.links.len : Int)) || (((kB b : Int) == 1) && !((parL b l).getD 0 zD == b.prev)) || !(((parL b l).take (parL b l).length).drop (kB b) == l)) = false := by
  rw [List.take_length, kB_drop]
  have h1 : (((parL b l).length : Int) != (kB b : Int) + (b.links.len : Int)) = false := by
    rw [bne_eq_false_iff_eq, kB_par, hl]; simp
  rw [h1]
  by_cases h : kB b = 1
  · rw [kB_head h]; simp
  · have : ((kB b : Int) == 1) = false := by rw [beq_eq_false_iff_ne]; omega
    rw [this]; simp
end Go.Proofs.Ytdnnojblneccdaa
