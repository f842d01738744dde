/-
  A world as ideal memory: every block under its own number; arguments that lead into it.
-/
import Derived.Test.YtdnnojblneccdaaE34
import Derived.OpenShut
namespace Go.Proofs.Ytdnnojblneccdaa
set_option linter.unusedSimpArgs false
set_option linter.unusedVariables false
open Go
open Enc (enc)
open Row (cel)

def ρW (W : World) : Ren := fun id => match W.heap[id]? with
  | some (.cells c _ _) => some (id, c.size)
  | _ => none
/-- what of a cell is known -/
def conv (W : World) (v : Value) : Value := match v with
  | .slice (some ⟨r, _, none⟩) _ _ => if (ρW W r).isSome then v else .tuple #[]
  | .pointer (some ⟨r, _, none⟩) => if (ρW W r).isSome then v else .tuple #[]
  | v => if clo1 v then v else .tuple #[]
def HW (W : World) : IHeap := fun id => match W.heap[id]? with
  | some (.cells c _ _) => some (.cells (c.toList.map (conv W)) true)
  | _ => none
theorem conv_vr (W : World) (v : Value) : VR (ρW W) (conv W v) v := by
  unfold conv
  split
  · rename_i r off l c
    split
    · rename_i h
      obtain ⟨x, hx⟩ := Option.isSome_iff_exists.1 h
      have : x = (r, x.2) := by
        unfold ρW at hx; split at hx <;> cases hx; rfl
      rw [this] at hx
      exact .slice _ _ _ hx
    · exact .unk _
  · rename_i r off
    split
    · rename_i h
      obtain ⟨x, hx⟩ := Option.isSome_iff_exists.1 h
      have : x = (r, x.2) := by
        unfold ρW at hx; split at hx <;> cases hx; rfl
      rw [this] at hx
      exact .ptr _ hx
    · exact .unk _
  · split
    · rename_i h; exact VR.clo1 _ h
    · exact .unk _
theorem ρW_below (W : World) : Below W.heap.size (ρW W) := fun id h => by
  unfold ρW
  rw [Array.getElem?_eq_none h]
theorem HW_hr (W : World) : HR (ρW W) (HW W) W := by
  refine ⟨fun id o h => ?_, fun i j o p r κ κ' _ _ h1 h2 => ?_⟩
  · unfold HW at h
    split at h
    · rename_i c T fz hc
      cases h
      refine ⟨id, c.size, by simp only [ρW, hc], c, T, fz, hc, rfl, by simp, (fun h => by cases h), fun i v hv => ?_⟩
      rw [List.getElem?_map, Option.map_eq_some_iff] at hv
      obtain ⟨v', h1, rfl⟩ := hv
      exact ⟨v', by simpa using h1, conv_vr W v'⟩
    · cases h
  · unfold ρW at h1 h2
    split at h1 <;> cases h1
    split at h2 <;> cases h2
    rfl

section
variable {P : Program} {W : World}
theorem rowAt_le {fits : TypeId → Bool} : ∀ {d : Nat} {e : TypeId} {count off n : Nat}, Go.rowAt P fits d e count off n = true → off ≤ count * P.cellsOf e
  | 0, _, _, _, _, h => by simp [Go.rowAt] at h
  | d + 1, e, count, off, n, h => by
    simp only [Go.rowAt] at h
    by_cases hs : P.cellsOf e = 0
    · rw [if_pos hs] at h; cases h
    · rw [if_neg hs] at h
      simp only [Bool.or_eq_true, Bool.and_eq_true, beq_iff_eq, decide_eq_true_iff] at h
      have hdm := Nat.div_add_mod off (P.cellsOf e)
      rcases h with ⟨⟨h1, h2⟩, _⟩ | ⟨h1, _⟩
      · rw [h1, Nat.add_zero] at hdm
        rw [← hdm, Nat.mul_comm]
        exact Nat.mul_le_mul_right _ (by omega)
      · have h3 := Nat.mod_lt off (Nat.pos_of_ne_zero hs)
        have h4 : (off / P.cellsOf e + 1) * P.cellsOf e ≤ count * P.cellsOf e := Nat.mul_le_mul_right _ h1
        rw [Nat.add_mul, Nat.one_mul, Nat.mul_comm] at h4
        omega
theorem liesAt_le : ∀ {d : Nat} {e : TypeId} {count off u n : Nat}, Go.liesAt P d e count off u n = true → off ≤ count * P.cellsOf e
  | 0, _, _, _, _, _, h => by simp [Go.liesAt] at h
  | d + 1, e, count, off, u, n, h => by
    unfold Go.liesAt at h
    rw [Bool.or_eq_true] at h
    rcases h with h | h
    · exact rowAt_le h
    · split at h
      · exact liesAt_le h
      · cases h
/-- a slice's header: where it lies -/
def SlOk (W : World) (s : Sl) : Prop := (s.a = none ∧ s.len = 0 ∧ s.cap = 0) ∨ ∃ r off c T fz, s.a = some ⟨r, off, none⟩ ∧ W.heap[r]? = some (.cells c T fz) ∧ off ≤ c.size
theorem slOk_of {base : Nat} {t e : TypeId} {v : Value} (ht : P.underlying t = some (.slice e)) (h : Cell.okWide P W .any base t v) : ∃ s : Sl, v = enc s ∧ SlOk W s := by
  cases v <;> simp only [Cell.okWide, ht, Cell.ok] at h
  rename_i a len cap
  cases a with
  | none =>
    cases len with
    | zero => cases cap with
      | zero => exact ⟨⟨none, 0, 0⟩, rfl, .inl ⟨rfl, rfl, rfl⟩⟩
      | succ c => exact False.elim h
    | succ l => exact False.elim h
  | some a =>
    simp only at h
    obtain ⟨_, _, _, h1, row, cells, h2, h3⟩ := h
    obtain ⟨r, off, sp⟩ := a
    simp only at h1; subst h1
    unfold World.shape? at h2
    split at h2
    · rename_i c T fz hc
      cases h2
      refine ⟨⟨some ⟨r, off, none⟩, len, cap⟩, rfl, .inr ⟨r, off, c, _, fz, rfl, hc, ?_⟩⟩
      exact Nat.le_trans (liesAt_le h3) (Nat.div_mul_le_self _ _)
    · cases h2
theorem fits_sl {base : Nat} {t e : TypeId} {c : List Value} (ht : P.underlying t = some (.slice e)) (h : Fits P W base c [t]) : ∃ s : Sl, c = [enc s] ∧ SlOk W s := by
  obtain ⟨h1, h2⟩ := h
  obtain ⟨x, rfl⟩ := List.length_eq_one_iff.1 h1
  obtain ⟨u, e1, e2⟩ := h2 0 x rfl
  cases e1
  obtain ⟨s, rfl, hs⟩ := slOk_of ht e2
  exact ⟨s, rfl, hs⟩
theorem slOk_vr {s : Sl} (h : SlOk W s) : VR (ρW W) (enc s) (enc s) := by
  obtain ⟨a, len, cap⟩ := s
  rcases h with ⟨h1, h2, h3⟩ | ⟨r, off, c, T, fz, h1, h2, h3⟩
  · simp only at h1 h2 h3; subst h1; subst h2; subst h3; exact .nilSlice
  · simp only at h1; subst h1
    exact .slice (κ := c.size) _ _ _ (by simp only [ρW, h2])

variable {H : Type} {en : TypeId × Value → H} {spare : Nat → Bool} {held : Bool}
/-- the cells of such an element are those of a member of that Lean type, and known -/
def ElemOk (H : Type) (P : Program) (W : World) (e : TypeId) (α : Type) [Row α] : Prop :=
  P.cellsOf e = Row.sz α ∧ ∀ (en : TypeId × Value → H) (spare : Nat → Bool) (held : Bool) (fuel : Nat) (cs : List Value) x, DataW.trod en P W 0 spare held fuel e cs = some x → ∃ a : α, cs = cel a ∧ cs.map (conv W) = cs
theorem trod_int_inv {base fuel : Nat} {t : TypeId} {k : IntKind} {cs : List Value} {x : DataW H × List MemPlace} (ht : P.underlying t = some (.int k)) (h : DataW.trod en P W base spare held fuel t cs = some x) : ∃ n, cs = [.int k n] ∧ k.min ≤ n ∧ n ≤ k.max := by
  obtain ⟨n, h1, _, h2⟩ := DataW.trod_int ht h
  simp only [Lit.wf, Bool.and_eq_true, decide_eq_true_iff] at h2
  exact ⟨n, h1, h2⟩
theorem elemOk_u8 {t : TypeId} (ht : P.underlying t = some (.int .u8)) (hc : P.cellsOf t = 1) : ElemOk H P W t UInt8 := by
  refine ⟨hc, fun en spare held fuel cs x h => ?_⟩
  obtain ⟨n, rfl, h1, h2⟩ := trod_int_inv ht h
  have h1 : 0 ≤ n := h1
  have h2 : n ≤ 255 := h2
  refine ⟨UInt8.ofNat n.toNat, ?_, rfl⟩
  have : (UInt8.ofNat n.toNat).toNat = n.toNat := UInt8.toNat_ofNat_of_lt' (by simp [UInt8.size]; omega)
  show [Value.int .u8 n] = [Value.int .u8 ((UInt8.ofNat n.toNat).toNat : Int)]
  rw [this, Int.toNat_of_nonneg h1]
/-- lists, taken apart in pieces of one size -/
theorem chunks {α : Type} [Row α] : ∀ (k : Nat) (cs : List Value), cs.length = k * Row.sz α → (∀ i, i < k → ∃ a : α, (cs.drop (i * Row.sz α)).take (Row.sz α) = cel a) → ∃ l : List α, l.length = k ∧ cs = cels l
  | 0, cs, h, _ => ⟨[], rfl, by
    have : cs = [] := List.length_eq_zero_iff.1 (by omega)
    rw [this]; rfl⟩
  | k + 1, cs, h, hk => by
    obtain ⟨a, ha⟩ := hk 0 (by omega)
    rw [Nat.zero_mul, List.drop_zero] at ha
    obtain ⟨l, hl, hc⟩ := chunks (α := α) k (cs.drop (Row.sz α)) (by rw [List.length_drop, h, Nat.add_mul, Nat.one_mul, Nat.add_sub_cancel]) (fun i hi => by
      obtain ⟨a, ha⟩ := hk (i + 1) (by omega)
      refine ⟨a, ?_⟩
      rw [List.drop_drop]
      rw [Nat.add_mul, Nat.one_mul, Nat.add_comm] at ha
      exact ha)
    refine ⟨a :: l, by simp [hl], ?_⟩
    rw [cels_cons, ← ha, ← hc, List.take_append_drop]
theorem chunks_map {f : Value → Value} {sz : Nat} : ∀ (k : Nat) (cs : List Value), cs.length = k * sz → (∀ i, i < k → ((cs.drop (i * sz)).take sz).map f = (cs.drop (i * sz)).take sz) → cs.map f = cs
  | 0, cs, h, _ => by
    have : cs = [] := List.length_eq_zero_iff.1 (by omega)
    rw [this]; rfl
  | k + 1, cs, h, hk => by
    have h0 := hk 0 (by omega)
    rw [Nat.zero_mul, List.drop_zero] at h0
    have h1 := chunks_map (f := f) (sz := sz) k (cs.drop sz) (by rw [List.length_drop, h, Nat.add_mul, Nat.one_mul, Nat.add_sub_cancel]) (fun i hi => by
      have := hk (i + 1) (by omega)
      rw [Nat.add_mul, Nat.one_mul, Nat.add_comm] at this
      rw [List.drop_drop]; exact this)
    conv => lhs; rw [← List.take_append_drop sz cs]
    rw [List.map_append, h0, h1, List.take_append_drop]
theorem elemOk_arr {t e k : Nat} [NeZero k] (ht : P.underlying t = some (.array k e)) (hc : P.cellsOf t = k) (he : ElemOk H P W e UInt8) : ElemOk H P W t (Vector UInt8 k) := by
  refine ⟨hc, fun en spare held fuel cs x h => ?_⟩
  obtain ⟨xs, m, _, _, h1, h2, h3⟩ := DataW.trod_array ht h
  obtain ⟨he1, he2⟩ := he
  have hs : Row.sz UInt8 = 1 := rfl
  rw [hs] at he1
  have h4 : ∀ i, i < k → ∃ a : UInt8, (cs.drop (i * 1)).take 1 = cel a ∧ ((cs.drop (i * 1)).take 1).map (conv W) = (cs.drop (i * 1)).take 1 := by
    intro i hi
    have h5 := h3 i hi
    rw [he1, List.getElem?_eq_getElem (by omega)] at h5
    exact he2 en spare held m _ _ h5
  rw [hc] at h1
  obtain ⟨l, hl, hcs⟩ := chunks (α := UInt8) k cs (by rw [h1]; exact (Nat.mul_one k).symm) (fun i hi => let ⟨a, h, _⟩ := h4 i hi; ⟨a, h⟩)
  refine ⟨⟨l.toArray, by simp [hl]⟩, ?_, chunks_map (sz := 1) k cs (by omega) (fun i hi => let ⟨_, _, h⟩ := h4 i hi; h)⟩
  rw [hcs, cels_u8]
  show encs l = encs (Vector.toList _)
  simp
theorem drop_take_map (f : Value → Value) (c : List Value) (a b : Nat) : ((c.map f).drop a).take b = ((c.drop a).take b).map f := by
  rw [List.map_take, List.map_drop]
/-- a slice that leads into the world, as a list -/
theorem rdC_world {α : Type} [Row α] {t e fuel : Nat} {s : Sl} {x : DataW H × List MemPlace} (ht : P.underlying t = some (.slice e)) (he : ElemOk H P W e α) (hs : SlOk W s) (h : DataW.trod en P W 0 spare held fuel t [enc s] = some x) : ∃ l : List α, rdC (HW W) (enc s) = some l := by
  rcases DataW.trod_slice ht h with ⟨h1, _⟩ | ⟨a, len, cap, elems, rest, m, _, h1, _, _, h2, h3, h4, h5, _, _⟩
  · simp only [List.cons.injEq, and_true] at h1
    rw [h1]; exact ⟨[], rfl⟩
  · simp only [List.cons.injEq, and_true] at h1
    rw [h1]
    obtain ⟨he1, he2⟩ := he
    obtain ⟨sa, sl, sc⟩ := s
    have h1 : Value.slice sa sl sc = .slice (some a) len cap := h1
    cases h1
    rcases hs with ⟨h6, _, _⟩ | ⟨r, off, c, T, fz, h6, h7, h8⟩
    · cases h6
    cases h6
    have hH : HW W r = some (.cells (c.toList.map (conv W)) true) := by simp only [HW, h7]
    have h9 : ∀ i, i < len → ∃ cs, cs.length = Row.sz α ∧ (∀ j, j < Row.sz α → c.toList[off + i * Row.sz α + j]? = cs[j]?) ∧ ∃ a : α, cs = cel a ∧ cs.map (conv W) = cs := by
      intro i hi
      have h10 := h5 i hi
      rw [he1, List.getElem?_eq_getElem (by omega), Option.bind_eq_some_iff] at h10
      obtain ⟨cs, h11, h12⟩ := h10
      obtain ⟨_, h13, h14⟩ := World.cells?_some h11
      refine ⟨cs, h13, fun j hj => ?_, he2 en spare held m cs _ h12⟩
      rw [← h14 j hj]
      have hadd : ∀ (o k : Nat), Addr.add ⟨r, o, none⟩ k = ⟨r, o + k, none⟩ := by
        intro o k; unfold Addr.add; split
        · rename_i h0; rw [h0]; rfl
        · rfl
      rw [hadd, hadd]
      simp [World.cell?, h7]
    have hsz := Row.pos (α := α)
    have hlen : off + len * Row.sz α ≤ c.toList.length := by
      by_cases h0 : len = 0
      · subst h0; simpa using h8
      · obtain ⟨cs, g1, g2, _⟩ := h9 (len - 1) (by omega)
        have g3 := g2 (Row.sz α - 1) (by omega)
        have g4 : cs[Row.sz α - 1]? = some (cs[Row.sz α - 1]'(by omega)) := List.getElem?_eq_getElem _
        rw [g4] at g3
        have g5 := (List.getElem?_eq_some_iff.1 g3).1
        have g6 : (len - 1) * Row.sz α + Row.sz α = len * Row.sz α := by
          rw [← Nat.succ_mul]; congr 1; omega
        omega
    have hseg : ((c.toList.drop off).take (len * Row.sz α)).length = len * Row.sz α := by
      rw [List.length_take, List.length_drop]; omega
    have hpiece : ∀ i, i < len → ∃ cs, (((c.toList.drop off).take (len * Row.sz α)).drop (i * Row.sz α)).take (Row.sz α) = cs ∧ ∃ a : α, cs = cel a ∧ cs.map (conv W) = cs := by
      intro i hi
      obtain ⟨cs, g1, g2, g3⟩ := h9 i hi
      refine ⟨cs, ?_, g3⟩
      have g6 : i * Row.sz α + Row.sz α ≤ len * Row.sz α := by
        rw [← Nat.succ_mul]; exact Nat.mul_le_mul_right _ hi
      apply List.ext_getElem?
      intro j
      by_cases hj : j < Row.sz α
      · rw [List.getElem?_take, if_pos hj, List.getElem?_drop, List.getElem?_take, if_pos (by omega), List.getElem?_drop, ← g2 j hj]
        congr 1; omega
      · rw [List.getElem?_take, if_neg hj, List.getElem?_eq_none (by omega)]
    obtain ⟨l, hl, hcs⟩ := chunks (α := α) len _ hseg (fun i hi => let ⟨cs, g, a, ga, _⟩ := hpiece i hi; ⟨a, g.trans ga⟩)
    have hfix : ((c.toList.drop off).take (len * Row.sz α)).map (conv W) = (c.toList.drop off).take (len * Row.sz α) :=
      chunks_map (sz := Row.sz α) len _ hseg (fun i hi => let ⟨cs, g, a, _, gm⟩ := hpiece i hi; by rw [g]; exact gm)
    refine ⟨l, rdC_mk hH (by rw [hl]; simpa using hlen) ?_ hl⟩
    rw [drop_take_map, hl, hfix, hcs]
end
end Go.Proofs.Ytdnnojblneccdaa
