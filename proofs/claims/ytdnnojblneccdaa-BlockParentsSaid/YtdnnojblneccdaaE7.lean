/-
  append, copy, make.
-/
import Derived.Test.YtdnnojblneccdaaE6
namespace Go.Proofs.Ytdnnojblneccdaa
set_option linter.unusedSimpArgs false
set_option linter.unusedVariables false
open Go

theorem wrap_i64 {n : Int} (h1 : -9223372036854775808 ≤ n) (h2 : n ≤ 9223372036854775807) : IntKind.i64.wrap n = n := by
  simp only [IntKind.wrap, IntKind.bits, IntKind.signed, Bool.true_and]
  split
  · rename_i h; have := of_decide_eq_true h; omega
  · rename_i h; have := of_decide_eq_false (Bool.eq_false_iff.2 h); omega
theorem wrap_u64 {n : Int} (h1 : 0 ≤ n) (h2 : n ≤ 18446744073709551615) : IntKind.u64.wrap n = n := by
  simp only [IntKind.wrap, IntKind.bits, IntKind.signed, Bool.false_and, Bool.false_eq_true, if_false]
  omega
theorem wrap_u32 {n : Int} (h1 : 0 ≤ n) (h2 : n ≤ 4294967295) : IntKind.u32.wrap n = n := by
  simp only [IntKind.wrap, IntKind.bits, IntKind.signed, Bool.false_and, Bool.false_eq_true, if_false]
  omega
theorem wrap_u8 {n : Int} (h1 : 0 ≤ n) (h2 : n ≤ 255) : IntKind.u8.wrap n = n := by
  simp only [IntKind.wrap, IntKind.bits, IntKind.signed, Bool.false_and, Bool.false_eq_true, if_false]
  omega

section
variable {P : Program} {D : Ty} {K : Kinds} {ρ : Ren} {H : IHeap} {w : World} {n : Nat}

def putAt (base : Option Addr) (off : Nat) (arr : Array Value) : Sem Unit :=
  match base with
  | some a => storeCells (a.add off) arr.toList
  | none => pure ()

theorem append_fits (hD : DOk P D) {t t2 el : TypeId} {d de : TD} (hd : D t = some d) (hk : d.k = .slice el) (hde : D el = some de) {base : Option Addr} {sLen sCap : Nat} {x' : Value} {k : Nat} {xs : List Value} (ty : TypeId)
    (ts : Array TypeId) (h0 : ts[0]? = some t) (h1 : ts[1]? = some t2) (hs : Src P ρ w t2 el de x' k xs) (hle : sLen + k ≤ sCap) :
    ∃ arr : Array Value, arr.size = xs.length ∧ xs.length = k * de.size ∧ (∀ (i : Nat) v, xs[i]? = some v → ∃ v', arr[i]? = some v' ∧ VR ρ v v') ∧
      (Builtin.append_ ts ty #[.slice base sLen sCap, x']).run P w = ((putAt base (sLen * de.size) arr).run P w).andThen fun _ w' => .ok (.slice base (sLen + k) sCap) w' := by
  obtain ⟨⟨zeros, arr, u, u1, u2, u3, u4, u5, u6, u7, u8⟩⟩ := hs
  refine ⟨arr, u6, u7, u8, ?_⟩
  have hw := u5 w (fun _ => rfl)
  cases zeros with
  | false =>
    simp only [Bool.not_false, if_true] at hw
    cases u
    case int => simp at u2
    all_goals
      cases base <;>
      simp only [Builtin.append_, h0, h1, Sem.run_bind, und_slice hD hd hk, Result.andThen_ok, run_size hD hde, u1, Sem.run_pure, List.getElem?_toArray, List.getElem?_cons_zero, List.getElem?_cons_succ,
        Bool.false_eq_true, if_false, u3 rfl, if_pos hle, Bool.not_false, if_true, hw, putAt]
  | true =>
    simp only [Bool.not_true, Bool.false_eq_true, if_false] at hw
    obtain ⟨l, rfl, l1, l2, l3, l4⟩ := u4 rfl
    have hwr : IntKind.i64.wrap l = l := by
      have : (most : Int) = 140737488355328 := rfl
      exact wrap_i64 (by omega) (by omega)
    obtain ⟨i, z, i1, i2, i3, _⟩ := run_info hD hde w
    cases u
    case int =>
      cases base <;>
      simp only [Builtin.append_, h0, h1, Sem.run_bind, und_slice hD hd hk, Result.andThen_ok, run_size hD hde, u1, Sem.run_pure, List.getElem?_toArray, List.getElem?_cons_zero, List.getElem?_cons_succ,
        if_true, asInt, asIntOf, hwr, i1, i3, Bool.not_true, Bool.false_eq_true, if_false, if_neg (show ¬ l < 0 by omega), if_neg (show ¬ (l * (de.bytes : Int) > 2 ^ 48) by omega), l4, if_pos hle, hw, putAt]
    all_goals simp at u2

theorem append_grows (hD : DOk P D) {t t2 el : TypeId} {d de : TD} (hd : D t = some d) (hk : d.k = .slice el) (hde : D el = some de) {base : Option Addr} {sLen sCap : Nat} {x' : Value} {k : Nat} {xs : List Value} (ty : TypeId)
    (ts : Array TypeId) (h0 : ts[0]? = some t) (h1 : ts[1]? = some t2) (hs : Src P ρ w t2 el de x' k xs) (hlt : sCap < sLen + k) (hm : (sLen + k) * de.bytes ≤ most) (hb1 : 1 ≤ de.bytes) {old : Array Value}
    (hold : ∀ w1 : World, (∀ r : Nat, w1.heap[r]? = w.heap[r]?) → (Builtin.firstCells de.size sLen (.slice base sLen sCap)).run P w1 = .ok old w1) :
    ∃ (arr : Array Value) (rest : Array Value) (newCap : Nat), arr.size = xs.length ∧ xs.length = k * de.size ∧ (∀ (i : Nat) v, xs[i]? = some v → ∃ v', arr[i]? = some v' ∧ VR ρ v v') ∧
      sLen + k ≤ newCap ∧ rest.size = (newCap - (sLen + k)) * de.size ∧
      (Builtin.append_ ts ty #[.slice base sLen sCap, x']).run P w = .ok (.slice (some ⟨w.heap.size, 0, none⟩) (sLen + k) newCap) ({ w with drawn := w.drawn + 1 }.alloc (.cells (old ++ arr ++ rest) el)) := by
  obtain ⟨⟨zeros, arr, u, u1, u2, u3, u4, u5, u6, u7, u8⟩⟩ := hs
  obtain ⟨i, z, i1, i2, i3, _⟩ := run_info hD hde w
  have hmost : most = 140737488355328 := rfl
  have hgrow := growslice_fits hlt (bytes := de.bytes) (by omega)
  have hneed : sLen + k ≤ 140737488355328 := Nat.le_trans (by have := Nat.mul_le_mul_left (sLen + k) hb1; omega) (hmost ▸ hm)
  let q : Question := .appendCap (sLen + k) sCap el
  let nc := q.cut (w.tape w.drawn q)
  have hnc : sLen + k ≤ nc := by simp only [nc, q, Question.cut]; omega
  let w1 : World := { w with drawn := w.drawn + 1 }
  obtain ⟨z1, y1, y2, y3, y4⟩ := zeroCells_run (P := P) hD hde (nc - (sLen + k)) w1
  have hz1 : (zeroValue el).run P w1 = .ok z1 w1 := y1
  have hrest : (Builtin.zeroCells z1.cells (nc - (sLen + k))).size = (nc - (sLen + k)) * de.size := by
    rw [← Array.length_toList, y3]; simp [(hD _ _ hde).zlen]
  refine ⟨arr, Builtin.zeroCells z1.cells (nc - (sLen + k)), nc, u6, u7, u8, hnc, hrest, ?_⟩
  have hch : (choose q).run P w = .ok nc w1 := by simp [choose, Sem.run, Question.forced, q, nc, w1]
  have hask : ∀ b w, (askRoom b).run P w = .ok () w := by
    intro b w; unfold askRoom; split <;> simp [mark, Sem.run]
  have hnew : ∀ c : Array Value, (newRow el c).run P w1 = .ok ⟨w.heap.size, 0, none⟩ (w1.alloc (.cells c el)) := by
    intro c; simp [newRow, newObj]; rfl
  obtain ⟨j, zj, j1, _⟩ := run_info hD hde w1
  have hw := u5 w1 (fun _ => rfl)
  have ho := hold w1 (fun _ => rfl)
  cases zeros with
  | false =>
    simp only [Bool.not_false, if_true] at hw
    cases u
    case int => simp at u2
    all_goals
      simp only [Builtin.append_, h0, h1, Sem.run_bind, und_slice hD hd hk, Result.andThen_ok, run_size hD hde, u1, Sem.run_pure, List.getElem?_toArray, List.getElem?_cons_zero, List.getElem?_cons_succ,
        Bool.false_eq_true, if_false, u3 rfl, if_neg (show ¬ sLen + k ≤ sCap by omega), Bool.not_false, if_true, hw, i1, i3, false_or]
      rw [if_neg (by omega)]
      simp only [Sem.run_bind, i1, i3, Result.andThen_ok]
      rw [if_neg (by omega)]
      simp only [Sem.run_bind, hch, Result.andThen_ok, hask, ho, hz1, hnew, j1, Sem.run_pure, hw, q]
      rfl
  | true =>
    simp only [Bool.not_true, Bool.false_eq_true, if_false] at hw
    obtain ⟨l, rfl, l1, l2, l3, l4⟩ := u4 rfl
    have hwr : IntKind.i64.wrap l = l := by
      have : (most : Int) = 140737488355328 := rfl
      exact wrap_i64 (by omega) (by omega)
    cases u
    case int =>
      simp only [Builtin.append_, h0, h1, Sem.run_bind, und_slice hD hd hk, Result.andThen_ok, run_size hD hde, u1, Sem.run_pure, List.getElem?_toArray, List.getElem?_cons_zero, List.getElem?_cons_succ,
        if_true, asInt, asIntOf, hwr, i1, i3, Bool.not_true, Bool.false_eq_true, if_false, if_neg (show ¬ l < 0 by omega), if_neg (show ¬ (l * (de.bytes : Int) > 2 ^ 48) by omega), l4, if_neg (show ¬ sLen + k ≤ sCap by omega), true_or, and_true]
      rw [if_neg (by simp only [IntKind.max, IntKind.signed, IntKind.bits, if_true]; omega)]
      simp only [Sem.run_bind, i1, i3, Result.andThen_ok]
      rw [if_neg (by omega)]
      simp only [Sem.run_bind, hch, Result.andThen_ok, hask, ho, hz1, hnew, j1, Sem.run_pure, hw, q]
      rfl
    all_goals simp at u2
end
end Go.Proofs.Ytdnnojblneccdaa
