/-
  Slices: made, appended to, copied.
-/
import Derived.Test.YtdnnojblneccdaaE5
namespace Go.Proofs.Ytdnnojblneccdaa
set_option linter.unusedSimpArgs false
set_option linter.unusedVariables false
open Go

section
variable {P : Program} {D : Ty} {K : Kinds} {ρ : Ren} {H : IHeap} {w : World} {n : Nat}

theorem slice_inv {a : Option Addr} {len cap : Nat} {x : Value} (h : VR ρ (.slice a len cap) x) :
    (a = none ∧ len = 0 ∧ cap = 0 ∧ x = .slice none 0 0) ∨
    (∃ id off r κ, a = some ⟨id, off, none⟩ ∧ ρ id = some (r, κ) ∧ x = .slice (some ⟨r, off, none⟩) len cap) ∨
    (∃ id off sz r κ cap', a = some ⟨id, off, some sz⟩ ∧ ρ id = some (r, κ) ∧ cap ≤ cap' ∧ len ≤ cap ∧ off + cap' * sz = κ ∧ x = .slice (some ⟨r, off, none⟩) len cap') := by
  cases h with
  | nilSlice => exact .inl ⟨rfl, rfl, rfl, rfl⟩
  | slice off len cap h => exact .inr (.inl ⟨_, _, _, _, rfl, h, rfl⟩)
  | oslice h h2 h3 h4 => exact .inr (.inr ⟨_, _, _, _, _, _, rfl, h, h2, h3, h4, rfl⟩)

theorem src_ok (hh : HR ρ H w) {sz k : Nat} {x x' : Value} {xs : List Value} (h : srcCells H sz x = some xs) (hk : srcLen x = some k) (hx : VR ρ x x') :
    ∃ arr : Array Value, (Builtin.lenOf x').run P w = .ok k w ∧ (∀ w1 : World, (∀ r : Nat, w1.heap[r]? = w.heap[r]?) → (Builtin.firstCells sz k x').run P w1 = .ok arr w1) ∧ arr.size = xs.length ∧ xs.length = k * sz ∧
      ∀ (i : Nat) v, xs[i]? = some v → ∃ v', arr[i]? = some v' ∧ VR ρ v v' := by
  have row : ∀ {id off len r κ : Nat} {cap' : Nat} {c : List Value} {ro : Bool}, H id = some (.cells c ro) → ρ id = some (r, κ) → off + len * sz ≤ c.length → xs = (c.drop off).take (len * sz) →
      ∃ arr : Array Value, (Builtin.lenOf (.slice (some ⟨r, off, none⟩) len cap')).run P w = .ok len w ∧
        (∀ w1 : World, (∀ r : Nat, w1.heap[r]? = w.heap[r]?) → (Builtin.firstCells sz len (.slice (some ⟨r, off, none⟩) len cap')).run P w1 = .ok arr w1) ∧ arr.size = xs.length ∧ xs.length = len * sz ∧
        ∀ (i : Nat) v, xs[i]? = some v → ∃ v', arr[i]? = some v' ∧ VR ρ v v' := by
    intro id off len r κ cap' c ro ho hr hle hxs
    obtain ⟨r', κ', c', T, fz, g1, g2, g3, g4, _, g6⟩ := hh.row ho
    rw [hr] at g1; cases g1
    have hlen : xs.length = len * sz := by rw [hxs]; simp; omega
    refine ⟨c'.extract off (off + len * sz), by simp [Builtin.lenOf], fun w1 hw => ?_, by simp; omega, hlen, fun i v hv => ?_⟩
    · simp only [Builtin.firstCells]
      exact run_loadCells_row (by rw [hw]; exact g2) off (len * sz) (by omega)
    · rw [hxs] at hv
      simp only [List.getElem?_take, List.getElem?_drop] at hv
      split at hv
      · rename_i hi
        obtain ⟨v', e1, e2⟩ := g6 _ _ hv
        exact ⟨v', by rw [Array.getElem?_extract, if_pos (by omega)]; exact e1, e2⟩
      · cases hv
  unfold srcCells at h
  split at h
  · cases h
    simp only [srcLen, Option.some.injEq] at hk; subst hk
    rcases slice_inv hx with ⟨_, rfl, rfl, rfl⟩ | ⟨_, _, _, _, h, _⟩ | ⟨_, _, _, _, _, _, h, _⟩
    · exact ⟨#[], by simp [Builtin.lenOf], fun w1 _ => by simp [Builtin.firstCells], rfl, by simp, fun i v hv => by simp at hv⟩
    · cases h
    · cases h
  · rename_i a len cap
    simp only [srcLen, Option.some.injEq] at hk; subst hk
    split at h
    · rename_i c ro ho
      split at h
      · rename_i hle
        cases h
        rcases slice_inv hx with ⟨h, _⟩ | ⟨id, off, r, κ, e, hr, rfl⟩ | ⟨id, off, sz', r, κ, cap', e, hr, _, _, _, rfl⟩
        · cases h
        · cases e; exact row ho hr hle rfl
        · cases e; exact row ho hr hle rfl
      · cases h
    · cases h
  · rename_i s
    simp only [srcLen, Option.some.injEq] at hk; subst hk
    split at h
    · rename_i hsz; subst hsz
      cases h
      rw [str_inv hx]
      have hex : s.extract 0 s.size = s := by
        apply ByteArray.ext; simp [ByteArray.data_extract]
      refine ⟨s.data.map fun b => .int .u8 b.toNat, by simp [Builtin.lenOf], fun w1 _ => ?_, by simp, by simp only [List.length_map, Array.length_toList, Nat.mul_one]; rfl, fun i v hv => ?_⟩
      · simp only [Builtin.firstCells, hex]; rfl
      · simp only [List.getElem?_map, Option.map_eq_some_iff, Array.getElem?_toList] at hv
        obtain ⟨b, hb, rfl⟩ := hv
        exact ⟨.int .u8 b.toNat, by simp [hb], .int _ _⟩
    · cases h
  · cases h

/-- the zero values of an element, k times -/
theorem zeroCells_run (hD : DOk P D) {el : TypeId} {de : TD} (hde : D el = some de) (k : Nat) (w : World) :
    ∃ z : Value, (zeroValue el).run P w = .ok z w ∧ z.cells.size = de.size ∧ (Builtin.zeroCells z.cells k).toList = (List.replicate k de.zero).flatten ∧ ((List.replicate k de.zero).flatten).all clo1 = true := by
  obtain ⟨z, h1, h2, h3, h4⟩ := run_zero hD hde w
  have hlen : de.zero.length = de.size := (hD _ _ hde).zlen
  have hz : z.cells.size = de.size := by rw [← hlen, ← h2]; simp
  refine ⟨z, h1, hz, ?_, mem_rep (by rw [← h2]; exact h3) k⟩
  unfold Builtin.zeroCells
  rw [zeros_eq, h2]

/-- what is appended -/
structure Src (P : Program) (ρ : Ren) (w : World) (t2 el : TypeId) (de : TD) (x' : Value) (k : Nat) (xs : List Value) : Prop where
  ex : ∃ (zeros : Bool) (arr : Array Value) (u : TypeDesc), (underlying t2).run P w = .ok u w ∧ (u matches .int _) = zeros ∧
    (zeros = false → (Builtin.lenOf x').run P w = .ok k w) ∧
    (zeros = true → ∃ l : Int, x' = .int .i64 l ∧ 0 ≤ l ∧ l ≤ most ∧ l * de.bytes ≤ (2 : Int) ^ 48 ∧ l.toNat = k) ∧
    (∀ w1 : World, (∀ r : Nat, w1.heap[r]? = w.heap[r]?) →
      (if (!zeros) = true then Builtin.firstCells de.size k x' else if k * de.size = 0 then pure #[] else do pure (Builtin.zeroCells (← zeroValue el).cells k) : Sem (Array Value)).run P w1 = .ok arr w1) ∧
    arr.size = xs.length ∧ xs.length = k * de.size ∧ ∀ (i : Nat) v, xs[i]? = some v → ∃ v', arr[i]? = some v' ∧ VR ρ v v'

theorem srcArg_ok (hD : DOk P D) (hh : HR ρ H w) {t2 el : TypeId} {de : TD} (hde : D el = some de) {x x' : Value} {k : Nat} {xs : List Value} (h : srcArg D H t2 de x = some (k, xs)) (hx : VR ρ x x') :
    Src P ρ w t2 el de x' k xs := by
  simp only [srcArg, Option.bind_eq_some_iff] at h
  obtain ⟨d2, hd2, h⟩ := h
  obtain ⟨u, u1, u2, u3⟩ := run_und hD hd2 w
  split at h
  · rename_i q l hk
    split at h
    · rename_i hc
      obtain ⟨c1, c2, c3⟩ := hc
      cases h
      rw [hk] at u3; simp only [TK.fits] at u3; subst u3
      obtain ⟨z, z1, z2, z3, z4⟩ := zeroCells_run (P := P) hD hde l.toNat w
      have hlen : ((List.replicate l.toNat de.zero).flatten).length = l.toNat * de.size := by simp [(hD _ _ hde).zlen]
      refine ⟨⟨true, (Builtin.zeroCells z.cells l.toNat), .int q, u1, rfl, by simp, fun _ => ⟨l, int_inv hx, c1, c2, c3, rfl⟩, fun w1 hw => ?_, ?_, hlen, fun i v hv => ?_⟩⟩
      · simp only [Bool.not_true, Bool.false_eq_true, if_false]
        obtain ⟨z', y1, y2, y3, y4⟩ := zeroCells_run (P := P) hD hde l.toNat w1
        have hzz : Builtin.zeroCells z'.cells l.toNat = Builtin.zeroCells z.cells l.toNat := by
          apply Array.ext'; rw [y3, z3]
        split
        · rename_i h0
          have : Builtin.zeroCells z.cells l.toNat = #[] := by
            apply Array.eq_empty_of_size_eq_zero
            rw [← Array.length_toList, z3, hlen]; exact h0
          rw [this]; rfl
        · simp [y1, hzz]
      · rw [← Array.length_toList, z3]
      · exact ⟨v, by rw [← z3, Array.getElem?_toList] at hv; exact hv, clo_list z4 ρ i v hv⟩
    · cases h
  · cases h
  · rename_i hn1 hn2
    simp only [Option.bind_eq_some_iff, Option.map_eq_some_iff] at h
    obtain ⟨k', hk', xs', hxs', e⟩ := h
    cases e
    obtain ⟨arr, a1, a2, a3, a4, a5⟩ := src_ok (P := P) hh hxs' hk' hx
    refine ⟨⟨false, arr, u, u1, ?_, fun _ => a1, by simp, fun w1 hw => by simpa using a2 w1 hw, a3, a4, a5⟩⟩
    cases hk : d2.k <;> rw [hk] at u3 <;> simp only [TK.fits] at u3
    case int q => first | exact (hn1 q hk).elim | exact (hn2 q hk).elim | exact (‹∀ k, d2.k = TK.int k → False› q hk).elim
    case struct fs => obtain ⟨a, rfl, _⟩ := u3; rfl
    case func => obtain ⟨a, b, c, rfl⟩ := u3; rfl
    case iface => obtain ⟨m, rfl⟩ := u3; rfl
    case other => obtain ⟨_, _, h6⟩ := u3; cases u <;> first | rfl | exact absurd rfl (h6 _)
    all_goals (subst u3; rfl)
end
end Go.Proofs.Ytdnnojblneccdaa
