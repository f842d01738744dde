/-
  One operation on ideal memory: types, loads, stores, new blocks.
-/
import Derived.Test.YtdnnojblneccdaaE0
namespace Go.Proofs.Ytdnnojblneccdaa
set_option linter.unusedSimpArgs false
set_option linter.unusedVariables false
open Go

/-- what the engine knows of a type -/
inductive TK where
  | bool | int (k : IntKind) | str | ptr (e : Nat) | slice (e : Nat) | arr (len e : Nat) | struct (fs : List (Nat × Nat)) | map (k e : Nat) | func | iface | other
  deriving DecidableEq, Inhabited

structure TD where
  k : TK
  size : Nat
  bytes : Nat
  zero : List Value
  deriving Inhabited

def TK.isAgg : TK → Bool
  | .arr .. | .struct _ => true
  | _ => false

/-- the type's description fits -/
def TK.fits : TK → TypeDesc → Prop
  | .bool, d => d = .bool
  | .int k, d => d = .int k
  | .str, d => d = .string
  | .ptr e, d => d = .pointer e
  | .slice e, d => d = .slice e
  | .arr n e, d => d = .array n e
  | .struct fs, d => ∃ a : Array Field, d = .struct a ∧ a.toList.map (fun f => (f.offset, f.type)) = fs
  | .map k e, d => d = .map k e
  | .func, d => ∃ a b c, d = .func a b c
  | .iface, d => ∃ m, d = .interface m
  | .other, d => (∀ x, d ≠ .struct x) ∧ (∀ x y, d ≠ .array x y) ∧ ∀ k, d ≠ .int k

structure TyOk (P : Program) (t : TypeId) (d : TD) : Prop where
  und : ∃ u, P.underlying t = some u ∧ d.k.fits u
  info : ∃ i z, P.info? t = some i ∧ i.size = d.size ∧ i.bytes = d.bytes ∧ i.zero = some z ∧ z.cells.toList = d.zero ∧ z.cells.toList.all clo1 = true ∧ (∀ a, z ≠ .tuple a) ∧ (d.k.isAgg = false → clo1 z = true)
  zlen : d.zero.length = d.size

abbrev Ty := TypeId → Option TD
def DOk (P : Program) (D : Ty) : Prop := ∀ t d, D t = some d → TyOk P t d

section
variable {P : Program} {D : Ty} (hD : DOk P D)
include hD

theorem run_und {t : TypeId} {d : TD} (h : D t = some d) (w : World) : ∃ u, (underlying t).run P w = .ok u w ∧ P.underlying t = some u ∧ d.k.fits u := by
  obtain ⟨u, h1, h2⟩ := (hD t d h).und
  exact ⟨u, run_underlying h1 w, h1, h2⟩
theorem run_info {t : TypeId} {d : TD} (h : D t = some d) (w : World) : ∃ i z, (typeInfo t).run P w = .ok i w ∧ i.size = d.size ∧ i.bytes = d.bytes ∧ i.zero = some z ∧ z.cells.toList = d.zero ∧ z.cells.toList.all clo1 = true ∧ (∀ a, z ≠ .tuple a) := by
  obtain ⟨i, z, h1, h2, h3, h4, h5, h6, h7, _⟩ := (hD t d h).info
  exact ⟨i, z, by simp [typeInfo, h1], h2, h3, h4, h5, h6, h7⟩
theorem run_size {t : TypeId} {d : TD} (h : D t = some d) (w : World) : (sizeOf t).run P w = .ok d.size w := by
  obtain ⟨i, z, h1, h2, _⟩ := run_info hD h w
  simp [sizeOf, h1, h2]
theorem run_zero {t : TypeId} {d : TD} (h : D t = some d) (w : World) : ∃ z, (zeroValue t).run P w = .ok z w ∧ z.cells.toList = d.zero ∧ z.cells.toList.all clo1 = true ∧ (∀ a, z ≠ .tuple a) := by
  obtain ⟨i, z, h1, h2, h3, h4, h5, h6, h7⟩ := run_info hD h w
  exact ⟨z, by simp [zeroValue, h1, h4], h5, h6, h7⟩
theorem run_isAgg {t : TypeId} {d : TD} (h : D t = some d) (w : World) : (isAgg t).run P w = .ok d.k.isAgg w := by
  obtain ⟨u, h1, h2, h3⟩ := run_und hD h w
  cases hk : d.k <;> rw [hk] at h3 <;> simp only [TK.fits] at h3
  case struct fs => obtain ⟨a, rfl, _⟩ := h3; simp [isAgg, h1, TK.isAgg]
  case func => obtain ⟨a, b, c, rfl⟩ := h3; simp [isAgg, h1, TK.isAgg]
  case iface => obtain ⟨m, rfl⟩ := h3; simp [isAgg, h1, TK.isAgg]
  case other =>
    obtain ⟨h4, h5, _⟩ := h3
    cases u <;> first | (exact absurd rfl (h4 _)) | (exact absurd rfl (h5 _ _)) | simp [isAgg, h1, TK.isAgg]
  all_goals (subst h3; simp [isAgg, h1, TK.isAgg])
end

/-- the cells of a value: none, if it is not known -/
def cellsOf : Value → Option (List Value)
  | .agg cs => some cs.toList
  | .tuple _ => none
  | .chan _ => none
  | v => some [v]
/-- a cell that is known -/
def known : Value → Bool
  | .agg _ | .tuple _ | .chan _ => false
  | _ => true

theorem VR.known {ρ : Ren} {v w : Value} (h : VR ρ v w) (k : known v = true) : Ytdnnojblneccdaa.known w = true := by
  cases h <;> simp_all [Ytdnnojblneccdaa.known]

theorem VR.cells {ρ : Ren} {v w : Value} (h : VR ρ v w) {cs : List Value} (hc : cellsOf v = some cs) :
    w.cells.size = cs.length ∧ ∀ (i : Nat) x, cs[i]? = some x → ∃ y, w.cells[i]? = some y ∧ VR ρ x y := by
  have one : ∀ {v w : Value}, VR ρ v w → w.cells = #[w] → cs = [v] → w.cells.size = cs.length ∧ ∀ (i : Nat) x, cs[i]? = some x → ∃ y, w.cells[i]? = some y ∧ VR ρ x y := by
    intro v w hv hw hcs
    subst hcs
    rw [hw]
    refine ⟨rfl, fun i x hx => ?_⟩
    cases i with
    | zero => cases hx; exact ⟨w, rfl, hv⟩
    | succ i => simp at hx
  cases h with
  | agg hs h =>
    rename_i a b
    simp only [cellsOf, Option.some.injEq] at hc
    subst hc
    refine ⟨by simp [Value.cells, hs], fun i x hx => ?_⟩
    have hi : i < a.size := by
      rcases Nat.lt_or_ge i a.size with h | h
      · exact h
      · simp [Array.getElem?_toList, Array.getElem?_eq_none h] at hx
    have hx' : a[i]? = some x := by simpa using hx
    have hy : b[i]? = some b[i] := by simp
    exact ⟨b[i], hy, h i _ _ hx' hy⟩
  | unk v => simp [cellsOf] at hc
  | skip => simp [cellsOf] at hc
  | tuple => simp [cellsOf] at hc
  | bool b => exact one (.bool b) rfl (by simpa [cellsOf] using hc.symm)
  | int k n => exact one (.int k n) rfl (by simpa [cellsOf] using hc.symm)
  | str s => exact one (.str s) rfl (by simpa [cellsOf] using hc.symm)
  | nilPtr => exact one .nilPtr rfl (by simpa [cellsOf] using hc.symm)
  | ptr off h => exact one (.ptr off h) rfl (by simpa [cellsOf] using hc.symm)
  | nilSlice => exact one .nilSlice rfl (by simpa [cellsOf] using hc.symm)
  | slice off len cap h => exact one (.slice off len cap h) rfl (by simpa [cellsOf] using hc.symm)
  | oslice h h2 h3 h4 => exact one (.oslice h h2 h3 h4) rfl (by simpa [cellsOf] using hc.symm)
  | func fn h1 h2 h3 h4 => exact one (.func fn h1 h2 h3 h4) rfl (by simpa [cellsOf] using hc.symm)
  | nilFunc => exact one .nilFunc rfl (by simpa [cellsOf] using hc.symm)
  | nilIface => exact one .nilIface rfl (by simpa [cellsOf] using hc.symm)
  | iface t h => exact one (.iface t h) rfl (by simpa [cellsOf] using hc.symm)
  | nilMap => exact one .nilMap rfl (by simpa [cellsOf] using hc.symm)
  | map h => exact one (.map h) rfl (by simpa [cellsOf] using hc.symm)

/-- what a value is that has these cells -/
def shut (agg : Bool) (cs : List Value) : Value := if agg then .agg cs.toArray else cs.headD (.tuple #[])

/-- a variable as it is read: the cells from off on -/
def rdVar (d : TD) (c : List Value) (off : Nat) : Option Value :=
  if d.k.isAgg then (if off + d.size ≤ c.length then some (.agg ((c.drop off).take d.size).toArray) else none) else c[off]?

/-- cells put over others, from off on -/
def splice (c : List Value) (off : Nat) (vs : List Value) : List Value := c.take off ++ vs ++ c.drop (off + vs.length)
def wrCells (c : List Value) (off : Nat) : List Value → List Value
  | [v] => c.set off v
  | vs => splice c off vs

theorem getElem?_splice (c : List Value) (off : Nat) (vs : List Value) (h : off + vs.length ≤ c.length) (i : Nat) :
    (splice c off vs)[i]? = if off ≤ i ∧ i < off + vs.length then vs[i - off]? else c[i]? := by
  unfold splice
  have h1 : (c.take off).length = off := by simp; omega
  by_cases ha : i < off
  · rw [if_neg (by omega), List.append_assoc, List.getElem?_append_left (by omega), List.getElem?_take_of_lt ha]
  · by_cases hb : i < off + vs.length
    · rw [if_pos (by omega), List.append_assoc, List.getElem?_append_right (by omega), h1, List.getElem?_append_left (by omega)]
    · rw [if_neg (by omega), List.getElem?_append_right (by simp; omega)]
      simp only [List.length_append, h1, List.getElem?_drop]
      congr 1; omega
theorem length_splice (c : List Value) (off : Nat) (vs : List Value) (h : off + vs.length ≤ c.length) : (splice c off vs).length = c.length := by
  simp [splice]; omega
theorem wrCells_eq (c : List Value) (off : Nat) (vs : List Value) (h : off + vs.length ≤ c.length) : wrCells c off vs = splice c off vs := by
  unfold wrCells
  split
  · rename_i v
    refine List.ext_getElem? fun i => ?_
    rw [getElem?_splice _ _ _ h, List.getElem?_set]
    simp only [List.length_singleton] at h ⊢
    by_cases hi : off = i
    · subst hi; rw [if_pos rfl, if_pos (by omega), if_pos ⟨Nat.le_refl _, Nat.lt_succ_self _⟩]; simp
    · rw [if_neg hi, if_neg (by omega)]
  · rfl

section
variable {P : Program} {ρ : Ren} {H : IHeap} {w : World} {n : Nat}

/-- a cell of a known row -/
theorem HR.row (hh : HR ρ H w) {id : Nat} {c : List Value} {ro : Bool} (ho : H id = some (.cells c ro)) :
    ∃ r κ c' T fz, ρ id = some (r, κ) ∧ w.heap[r]? = some (.cells c' T fz) ∧ c'.size = κ ∧ c.length ≤ κ ∧ (ro = false → Free fz κ) ∧
      ∀ (i : Nat) v, c[i]? = some v → ∃ v', c'[i]? = some v' ∧ VR ρ v v' := by
  obtain ⟨r, κ, h1, c', T, fz, h2⟩ := hh.obj _ _ ho
  exact ⟨r, κ, c', T, fz, h1, h2⟩

theorem cell_row {w : World} {r : Nat} {c : Array Value} {T : TypeId} {fz : Nat × Nat} (h : w.heap[r]? = some (.cells c T fz)) (off : Nat) :
    w.cell? ⟨r, off, none⟩ = c[off]? := by
  simp [World.cell?, h]

theorem addr_add (r off j : Nat) : (⟨r, off, none⟩ : Addr).add j = ⟨r, off + j, none⟩ := by
  unfold Addr.add
  split
  · subst_vars; rfl
  · rfl

theorem run_loadCells_row {r : Nat} {c : Array Value} {T : TypeId} {fz : Nat × Nat} (h : w.heap[r]? = some (.cells c T fz)) (off k : Nat) (hk : off + k ≤ c.size) :
    (loadCells ⟨r, off, none⟩ k).run P w = .ok (c.extract off (off + k)) w := by
  have hl : (c.extract off (off + k)).toList.length = k := by simp; omega
  have := run_loadCells_list (P := P) (w := w) (a := ⟨r, off, none⟩) (cs := (c.extract off (off + k)).toList) (by
    intro j v hv
    rw [addr_add, cell_row h]
    simp only [Array.getElem?_toList, Array.getElem?_extract] at hv
    split at hv
    · exact hv
    · cases hv)
  rw [hl] at this
  rw [this]

/-- reading a variable -/
theorem run_rdVar {D : Ty} (hD : DOk P D) (hh : HR ρ H w) {id : Nat} {c : List Value} {ro : Bool} (ho : H id = some (.cells c ro)) {t : TypeId} {d : TD} (hd : D t = some d)
    {off : Nat} {v : Value} (hv : rdVar d c off = some v) {a' : Addr} (ha : VR ρ (.pointer (some ⟨id, off, none⟩)) (.pointer (some a'))) :
    ∃ v', (loadVar t a').run P w = .ok v' w ∧ VR ρ v v' := by
  obtain ⟨r, κ, c', T, fz, h1, h2, h3, h4, _, h6⟩ := hh.row ho
  have ha' : a' = ⟨r, off, none⟩ := by
    cases ha with | ptr _ h => rw [h1] at h; cases h; rfl
  subst ha'
  unfold rdVar at hv
  cases hg : d.k.isAgg with
  | true =>
    simp only [hg, if_true] at hv
    split at hv
    · rename_i hle
      cases hv
      refine ⟨.agg (c'.extract off (off + d.size)), ?_, ?_⟩
      · simp [loadVar, run_isAgg hD hd, hg, run_size hD hd, run_loadCells_row h2 off d.size (by omega)]
      · refine .agg (by simp; omega) fun i x y hx hy => ?_
        simp only [List.getElem?_toArray, List.getElem?_take, List.getElem?_drop] at hx
        simp only [Array.getElem?_extract] at hy
        split at hx
        · obtain ⟨y', e, hr⟩ := h6 _ _ hx
          split at hy
          · rw [hy] at e; cases e; exact hr
          · cases hy
        · cases hx
    · cases hv
  | false =>
    simp only [hg, Bool.false_eq_true, if_false] at hv
    obtain ⟨v', e, hr⟩ := h6 _ _ hv
    refine ⟨v', ?_, hr⟩
    have hc : w.cell? ⟨r, off, none⟩ = some v' := by rw [cell_row h2]; exact e
    simp [loadVar, run_isAgg hD hd, hg, load, Sem.run, hc]

/-- storing cells into a row -/
theorem run_storeCells_row : ∀ (vs : List Value) (i : Nat) (w : World) (r off : Nat) (c : Array Value) (T : TypeId) (fz : Nat × Nat), w.heap[r]? = some (.cells c T fz) → Free fz c.size → off + i + vs.length ≤ c.size →
    (∀ v ∈ vs, known v = true) →
    ∃ w' c'', (storeCells ⟨r, off, none⟩ vs i).run P w = .ok () w' ∧ w'.heap[r]? = some (.cells c'' T fz) ∧ c''.size = c.size ∧
      (∀ j : Nat, c''[j]? = if off + i ≤ j ∧ j < off + i + vs.length then vs[j - (off + i)]? else c[j]?) ∧
      (∀ k, k ≠ r → w'.heap[k]? = w.heap[k]?) ∧ w'.heap.size = w.heap.size ∧ w'.os = w.os ∧ w'.tape = w.tape ∧ w'.output = w.output
  | [], i, w, r, off, c, T, fz, h, hf, hle, _ => by
    refine ⟨w, c, rfl, h, rfl, fun j => ?_, fun _ _ => rfl, rfl, rfl, rfl, rfl⟩
    rw [if_neg (by simp only [List.length_nil]; omega)]
  | v :: vs, i, w, r, off, c, T, fz, h, hf, hle, hone => by
    have hlen : off + i + (vs.length + 1) ≤ c.size := by simpa using hle
    have hcell : w.cell? ⟨r, off + i, none⟩ = some c[off + i] := by rw [cell_row h]; simp
    have hfz : w.frozen? ⟨r, off + i, none⟩ = false := by simpa [World.frozen?, h] using hf (off + i) (by omega)
    have hr : r < w.heap.size := by
      rcases Nat.lt_or_ge r w.heap.size with hl | hl
      · exact hl
      · rw [Array.getElem?_eq_none hl] at h; cases h
    let w1 : World := w.setCell ⟨r, off + i, none⟩ v
    have h1 : w1.heap[r]? = some (.cells (c.setIfInBounds (off + i) v) T fz) := by
      simp [w1, World.setCell, Array.getElem?_modify, h]
    obtain ⟨w', c'', e1, e2, e3, e4, e5, e6, e7, e8, e9⟩ := run_storeCells_row vs (i + 1) w1 r off (c.setIfInBounds (off + i) v) T fz h1 (by simpa using hf) (by simp; omega) (fun v hv => hone v (List.mem_cons_of_mem _ hv))
    have hvone : known v = true := hone v (List.mem_cons_self)
    refine ⟨w', c'', ?_, e2, by simpa using e3, ?_, ?_, by rw [e6]; simp [w1, World.setCell], e7, e8, e9⟩
    · have hst : (Go.store ((⟨r, off, none⟩ : Addr).add i) v).run P w = .ok () w1 := by
        rw [addr_add]
        cases v <;> first | (simp [known] at hvone; done) | (simp [Go.store, Sem.run, hcell, hfz, w1])
      simp [storeCells, hst, e1]
    · intro j
      rw [e4 j]
      by_cases hj : off + (i + 1) ≤ j ∧ j < off + (i + 1) + vs.length
      · rw [if_pos hj, if_pos (by simp; omega), show j - (off + i) = (j - (off + (i + 1))) + 1 from by omega, List.getElem?_cons_succ]
      · rw [if_neg hj, Array.getElem?_setIfInBounds]
        by_cases hji : off + i = j
        · rw [if_pos hji, if_pos (by omega), if_pos (by simp; omega), show j - (off + i) = 0 from by omega]; rfl
        · rw [if_neg hji, if_neg (by simp; omega)]
    · intro k hk
      rw [e5 k hk]
      simp [w1, World.setCell, Array.getElem?_modify, Ne.symm hk]

/-- a row is written in place -/
theorem Post.store (hb : Below n ρ) (hh : HR ρ H w) {id : Nat} {c c2 : List Value} {ro : Bool} (ho : H id = some (.cells c ro)) {r κ : Nat} (hr : ρ id = some (r, κ))
    {w' : World} {c'' : Array Value} {T : TypeId} {fz : Nat × Nat} (hf : Free fz κ) (hw : w'.heap[r]? = some (.cells c'' T fz)) (hs : c''.size = κ) (hl : c2.length ≤ κ)
    (hc : ∀ (i : Nat) v, c2[i]? = some v → ∃ v', c''[i]? = some v' ∧ VR ρ v v')
    (hk : ∀ k, k ≠ r → w'.heap[k]? = w.heap[k]?) (hz : w'.heap.size = w.heap.size) (h7 : w'.os = w.os) (h8 : w'.tape = w.tape) (h9 : w'.output = w.output)
    {v v' : Value} (hv : VR ρ v v') :
    Post ρ H n ⟨v, [(id, some (.cells c2 false))], n⟩ v' ρ w w' := by
  refine ⟨hb, ⟨ρ.le_refl, fun _ _ _ h k => absurd (h.symm.trans k) (by simp), by omega, ?_, h7, h8, h9⟩, hv, ⟨?_, ?_⟩, ?_, Nat.le_refl _, fun _ _ h => .inl h⟩
  · intro q _ hn
    exact hk q fun e => hn id κ (e ▸ hr) (by simp)
  · intro j o hj
    simp only [upds, upd] at hj
    split at hj
    · cases hj; subst_vars
      exact ⟨r, _, hr, c'', T, fz, hw, rfl, hl, fun _ => hf, hc⟩
    · rename_i hne
      obtain ⟨r', κ', h1, h2⟩ := hh.obj j o hj
      refine ⟨r', κ', h1, ?_⟩
      rw [hk r' fun e => hne (hh.inj j id o _ r' κ' κ hj ho h1 (e ▸ hr))]
      exact h2
  · intro i j o p q κ1 κ2 hi hj hri hrj
    have pick : ∀ {i o}, upds H [(id, some (.cells c2 false))] i = some o → ∃ o', H i = some o' := by
      intro i o h
      simp only [upds, upd] at h
      split at h
      · subst_vars; exact ⟨_, ho⟩
      · exact ⟨_, h⟩
    obtain ⟨o', hi'⟩ := pick hi
    obtain ⟨p', hj'⟩ := pick hj
    exact hh.inj i j o' p' q κ1 κ2 hi' hj' hri hrj
  · intro j hj
    simp only [Eff.ids, List.map_cons, List.map_nil, List.mem_singleton] at hj
    subst hj
    exact ⟨.inr (by rw [ho]; rfl), hb.lt hr⟩
end
end Go.Proofs.Ytdnnojblneccdaa
