import Derived.WalkKit
import Derived.RangeFuncKeeps
/-
  Values and memory under other names: an ideal memory (a partial map from ideal numbers to lists of cells) and a renaming to the blocks of a world.
-/
namespace Go.Proofs.Ytdnnojblneccdaa
set_option linter.unusedSimpArgs false
set_option linter.unusedVariables false
open Go
/-- ideal number ↦ the block, and how many cells it has -/
abbrev Ren := Nat → Option (Nat × Nat)
inductive VR (ρ : Ren) : Value → Value → Prop
  | unk (v : Value) : VR ρ (.tuple #[]) v
  | skip : VR ρ (.chan none) (.tuple #[])
  | bool (b : Bool) : VR ρ (.bool b) (.bool b)
  | int (k : IntKind) (n : Int) : VR ρ (.int k n) (.int k n)
  | str (s : ByteArray) : VR ρ (.string s) (.string s)
  | nilPtr : VR ρ (.pointer none) (.pointer none)
  | ptr {id r κ : Nat} (off : Nat) (h : ρ id = some (r, κ)) : VR ρ (.pointer (some ⟨id, off, none⟩)) (.pointer (some ⟨r, off, none⟩))
  | nilSlice : VR ρ (.slice none 0 0) (.slice none 0 0)
  | slice {id r κ : Nat} (off len cap : Nat) (h : ρ id = some (r, κ)) : VR ρ (.slice (some ⟨id, off, none⟩) len cap) (.slice (some ⟨r, off, none⟩) len cap)
  | void {id off : Nat} (a : Addr) : VR ρ (.slice (some ⟨id, off, none⟩) 0 0) (.slice (some a) 0 0)
  | oslice {id r κ off sz len cap cap' : Nat} (h : ρ id = some (r, κ)) (hc : cap ≤ cap') (hl : len ≤ cap) (hk : off + cap' * sz = κ) :
      VR ρ (.slice (some ⟨id, off, some sz⟩) len cap) (.slice (some ⟨r, off, none⟩) len cap')
  | func (fn : Fn) {a b c d : Array Value} (h1 : a.size = b.size) (h2 : ∀ (i : Nat) (x y : Value), a[i]? = some x → b[i]? = some y → VR ρ x y)
      (h3 : c.size = d.size) (h4 : ∀ (i : Nat) (x y : Value), c[i]? = some x → d[i]? = some y → VR ρ x y) : VR ρ (.func fn a c) (.func fn b d)
  | nilFunc : VR ρ .nilFunc .nilFunc
  | nilIface : VR ρ .nilIface .nilIface
  | iface (t : TypeId) {v w : Value} (h : VR ρ v w) : VR ρ (.iface t v) (.iface t w)
  | nilMap : VR ρ (.map none) (.map none)
  | map {id r κ : Nat} (h : ρ id = some (r, κ)) : VR ρ (.map (some id)) (.map (some r))
  | agg {a b : Array Value} (hs : a.size = b.size) (h : ∀ (i : Nat) (x y : Value), a[i]? = some x → b[i]? = some y → VR ρ x y) : VR ρ (.agg a) (.agg b)
  | tuple {a b : Array Value} (hs : a.size = b.size) (h : ∀ (i : Nat) (x y : Value), a[i]? = some x → b[i]? = some y → VR ρ x y) : VR ρ (.tuple a) (.tuple b)
/-- one renaming goes on from another -/
def Ren.le (ρ ρ' : Ren) : Prop := ∀ id x, ρ id = some x → ρ' id = some x
theorem Ren.le_refl (ρ : Ren) : ρ.le ρ := fun _ _ h => h
theorem Ren.le_trans {a b c : Ren} (h : a.le b) (k : b.le c) : a.le c := fun i x e => k i x (h i x e)
theorem VR.mono {ρ ρ' : Ren} (hr : ρ.le ρ') {v w : Value} (h : VR ρ v w) : VR ρ' v w := by
  induction h with
  | unk v => exact .unk v
  | skip => exact .skip
  | bool b => exact .bool b
  | int k n => exact .int k n
  | str s => exact .str s
  | nilPtr => exact .nilPtr
  | ptr off h => exact .ptr off (hr _ _ h)
  | nilSlice => exact .nilSlice
  | void a => exact .void a
  | slice off len cap h => exact .slice off len cap (hr _ _ h)
  | oslice h hc hl hk => exact .oslice (hr _ _ h) hc hl hk
  | func fn h1 h2 h3 h4 i2 i4 => exact .func fn h1 i2 h3 i4
  | nilFunc => exact .nilFunc
  | nilIface => exact .nilIface
  | iface t h ih => exact .iface t ih
  | nilMap => exact .nilMap
  | map h => exact .map (hr _ _ h)
  | agg hs h ih => exact .agg hs ih
  | tuple hs h ih => exact .tuple hs ih
/-- values without an address -/
def clo1 : Value → Bool
  | .bool _ | .int _ _ | .string _ | .pointer none | .nilFunc | .nilIface | .slice none 0 0 | .map none => true
  | _ => false
def clo : Value → Bool
  | .agg cs => cs.all clo1
  | .func _ a b => a.isEmpty && b.isEmpty
  | v => clo1 v
theorem VR.clo1 (ρ : Ren) {v : Value} (h : clo1 v = true) : VR ρ v v := by
  unfold Ytdnnojblneccdaa.clo1 at h
  split at h
  · exact .bool _
  · exact .int _ _
  · exact .str _
  · exact .nilPtr
  · exact .nilFunc
  · exact .nilIface
  · exact .nilSlice
  · exact .nilMap
  · cases h
theorem VR.clo (ρ : Ren) {v : Value} (h : clo v = true) : VR ρ v v := by
  unfold Ytdnnojblneccdaa.clo at h
  split at h
  · refine .agg rfl fun i x y hx hy => ?_
    rw [hx] at hy; cases hy
    exact VR.clo1 ρ (by simpa using (Array.all_eq_true_iff_forall_mem.1 h) x (Array.mem_of_getElem? hx))
  · rename_i fn a b
    simp only [Bool.and_eq_true, Array.isEmpty_iff] at h
    obtain ⟨rfl, rfl⟩ := h
    exact .func fn rfl (by simp) rfl (by simp)
  · exact VR.clo1 ρ h
/-- the ideal objects: rows of cells ('ro': nobody may write them), and maps -/
inductive IObj where
  | cells (c : List Value) (ro : Bool)
  | map (es : List (Value × Value))
  deriving Inhabited
abbrev IHeap := Nat → Option IObj
/-- no cell below κ is frozen -/
def Free (fz : Nat × Nat) (κ : Nat) : Prop := fz.1 = fz.2 ∨ κ ≤ fz.1
theorem Free.zero (κ : Nat) : Free (0, 0) κ := .inl rfl
theorem Free.at {fz : Nat × Nat} {κ off : Nat} (h : Free fz κ) (ho : off < κ) : (decide (fz.1 ≤ off) && decide (off < fz.2)) = false := by
  unfold Free at h; simp; omega
/-- a mark behind the last cell -/
theorem Free.mark {fz : Nat × Nat} {κ : Nat} (h : Free fz κ) : Free (if fz.1 == fz.2 then (κ, κ + 1) else (min fz.1 κ, max fz.2 (κ + 1))) κ := by
  unfold Free at *
  by_cases e : fz.1 = fz.2
  · simp [e]
  · simp only [beq_iff_eq, e, if_false]; omega
def OR (ρ : Ren) (κ : Nat) : IObj → Option Obj → Prop
  | .cells c ro, o => ∃ c' T fz, o = some (.cells c' T fz) ∧ c'.size = κ ∧ c.length ≤ κ ∧ (ro = false → Free fz κ) ∧
      ∀ (i : Nat) v, c[i]? = some v → ∃ v', c'[i]? = some v' ∧ VR ρ v v'
  | .map es, o => ∃ es' clock, o = some (.map es' clock) ∧ es'.size = es.length ∧ (∀ (i : Nat) e, es'[i]? = some e → e.born < clock) ∧
      (∀ (i j : Nat) e f, es'[i]? = some e → es'[j]? = some f → e.born = f.born → i = j) ∧
      ∀ (i : Nat) e, es[i]? = some e → ∃ e', es'[i]? = some e' ∧ VR ρ e.1 e'.key ∧ VR ρ e.2 e'.val
theorem OR.mono {ρ ρ' : Ren} (hr : ρ.le ρ') {κ : Nat} {o : IObj} {x : Option Obj} (h : OR ρ κ o x) : OR ρ' κ o x := by
  cases o with
  | cells c ro =>
    obtain ⟨c', T, fz, h1, h2, h3, h4, h5⟩ := h
    exact ⟨c', T, fz, h1, h2, h3, h4, fun i v hv => let ⟨v', a, b⟩ := h5 i v hv; ⟨v', a, b.mono hr⟩⟩
  | map es =>
    obtain ⟨es', clock, h1, h2, h3, h3', h4⟩ := h
    exact ⟨es', clock, h1, h2, h3, h3', fun i v hv => let ⟨v', a, b, c⟩ := h4 i v hv; ⟨v', a, b.mono hr, c.mono hr⟩⟩
structure HR (ρ : Ren) (H : IHeap) (w : World) : Prop where
  obj : ∀ id o, H id = some o → ∃ r κ, ρ id = some (r, κ) ∧ OR ρ κ o w.heap[r]?
  inj : ∀ i j o p r κ κ', H i = some o → H j = some p → ρ i = some (r, κ) → ρ j = some (r, κ') → i = j
/-- a smaller memory -/
def IHeap.le (H K : IHeap) : Prop := ∀ id o, H id = some o → K id = some o
theorem HR.sub {ρ : Ren} {H K : IHeap} {w : World} (h : HR ρ K w) (hs : H.le K) : HR ρ H w :=
  ⟨fun id o e => h.obj id o (hs _ _ e), fun i j o p r κ κ' a b c d => h.inj i j o p r κ κ' (hs _ _ a) (hs _ _ b) c d⟩
/-- from n on no number is in use -/
def Below (n : Nat) (ρ : Ren) : Prop := ∀ id, n ≤ id → ρ id = none
theorem Below.mono {n m : Nat} {ρ : Ren} (h : Below n ρ) (hm : n ≤ m) : Below m ρ := fun id hi => h id (Nat.le_trans hm hi)
theorem Below.lt {n : Nat} {ρ : Ren} (h : Below n ρ) {id : Nat} {x : Nat × Nat} (e : ρ id = some x) : id < n := by
  rcases Nat.lt_or_ge id n with hl | hl
  · exact hl
  · rw [h id hl] at e; cases e
/-- a step of a world, that writes no block but new ones and those of the numbers in W -/
structure Step (W : Nat → Prop) (ρ ρ' : Ren) (w w' : World) : Prop where
  le : ρ.le ρ'
  new : ∀ id r κ, ρ id = none → ρ' id = some (r, κ) → w.heap.size ≤ r ∨ ∃ i κ', ρ i = some (r, κ') ∧ W i
  size : w.heap.size ≤ w'.heap.size
  keep : ∀ r, r < w.heap.size → (∀ id κ, ρ id = some (r, κ) → ¬ W id) → w'.heap[r]? = w.heap[r]?
  os : w'.os = w.os
  tape : w'.tape = w.tape
  output : w'.output = w.output
  others : ∀ (k : Nat) (o : Obj), w.heap[k]? = some o → o.isCells = false → w'.heap[k]? = some o
theorem Step.refl (W : Nat → Prop) (ρ : Ren) (w : World) : Step W ρ ρ w w :=
  ⟨ρ.le_refl, fun _ _ _ h k => absurd (h.symm.trans k) (by simp), Nat.le_refl _, fun _ _ _ => rfl, rfl, rfl, rfl, fun _ _ h _ => h⟩
theorem Step.mono {W W' : Nat → Prop} {ρ ρ' : Ren} {w w' : World} (h : Step W ρ ρ' w w') (hw : ∀ id, W id → W' id) : Step W' ρ ρ' w w' :=
  ⟨h.le, fun j r κ a b => (h.new j r κ a b).imp (fun x => x) fun ⟨i, κ', c, d⟩ => ⟨i, κ', c, hw _ d⟩, h.size,
    fun r hr hn => h.keep r hr fun id κ e hW => hn id κ e (hw _ hW), h.os, h.tape, h.output, h.others⟩
/-- what is new behind the first step may be written in the second one -/
theorem Step.trans {W V : Nat → Prop} {ρ ρ₁ ρ₂ : Ren} {w w₁ w₂ : World} (h : Step W ρ ρ₁ w w₁) (k : Step V ρ₁ ρ₂ w₁ w₂)
    (hv : ∀ id x, ρ id = some x → V id → W id) : Step W ρ ρ₂ w w₂ := by
  refine ⟨Ren.le_trans h.le k.le, ?_, Nat.le_trans h.size k.size, ?_, k.os.trans h.os, k.tape.trans h.tape, k.output.trans h.output, fun i o hi ho => k.others i o (h.others i o hi ho) ho⟩
  · intro id r κ hn hs
    cases h1 : ρ₁ id with
    | some x =>
      have := k.le _ _ h1
      rw [hs] at this; cases this
      exact h.new id r κ hn h1
    | none =>
      rcases k.new id r κ h1 hs with hl | ⟨i, κ', hi, hVi⟩
      · exact .inl (Nat.le_trans h.size hl)
      · cases h0 : ρ i with
        | some y =>
          have := h.le _ _ h0
          rw [hi] at this; cases this
          exact .inr ⟨i, κ', h0, hv _ _ h0 hVi⟩
        | none => exact h.new i r κ' h0 hi
  · intro r hr hn
    rw [k.keep r (Nat.lt_of_lt_of_le hr h.size) ?_, h.keep r hr hn]
    intro id κ hid hVid
    cases h0 : ρ id with
    | some y =>
      have := h.le _ _ h0
      rw [hid] at this; cases this
      exact hn id κ h0 (hv _ _ h0 hVid)
    | none =>
      rcases h.new id r κ h0 hid with hl | ⟨i, κ', hi, hWi⟩
      · omega
      · exact hn i κ' hi hWi
/-- updates of the memory -/
def upd (H : IHeap) (id : Nat) (o : Option IObj) : IHeap := fun j => if j = id then o else H j
abbrev Ups := List (Nat × Option IObj)
def upds (H : IHeap) : Ups → IHeap
  | [] => H
  | (id, o) :: l => upds (upd H id o) l
theorem upds_append (H : IHeap) (a b : Ups) : upds H (a ++ b) = upds (upds H a) b := by
  induction a generalizing H with
  | nil => rfl
  | cons x a ih => obtain ⟨id, o⟩ := x; simp only [List.cons_append, upds]; exact ih _
theorem upds_not_mem {H : IHeap} {l : Ups} {id : Nat} (h : id ∉ l.map (·.1)) : upds H l id = H id := by
  induction l generalizing H with
  | nil => rfl
  | cons x l ih =>
    obtain ⟨j, o⟩ := x
    simp only [List.map_cons, List.mem_cons, not_or] at h
    simp only [upds]
    rw [ih h.2]
    simp [upd, h.1]
theorem upds_congr {H K : IHeap} {l : Ups} {id : Nat} (h : H id = K id) : upds H l id = upds K l id := by
  induction l generalizing H K with
  | nil => exact h
  | cons x l ih =>
    obtain ⟨j, o⟩ := x
    simp only [upds]
    refine ih ?_
    simp only [upd]; split
    · rfl
    · exact h
theorem upds_mem {H K : IHeap} {l : Ups} {id : Nat} (h : id ∈ l.map (·.1)) : upds H l id = upds K l id := by
  induction l generalizing H K with
  | nil => cases h
  | cons x l ih =>
    obtain ⟨j, o⟩ := x
    simp only [upds]
    by_cases hm : id ∈ l.map (·.1)
    · exact ih hm
    · simp only [List.map_cons, List.mem_cons, hm, or_false] at h
      subst h
      exact upds_congr (by simp [upd])
/-- what a step comes to: its value, what it writes, the next free number -/
structure Eff where
  v : Value
  up : Ups
  n : Nat
abbrev Eff.ids (e : Eff) : List Nat := e.up.map (·.1)
structure Post (ρ : Ren) (H : IHeap) (n : Nat) (e : Eff) (v' : Value) (ρ' : Ren) (w w' : World) : Prop where
  below : Below e.n ρ'
  step : Step (fun id => id ∈ e.ids) ρ ρ' w w'
  val : VR ρ' e.v v'
  heap : HR ρ' (upds H e.up) w'
  ids : ∀ id, id ∈ e.ids → (n ≤ id ∨ (H id).isSome) ∧ id < e.n
  le : n ≤ e.n
  fresh : ∀ id x, ρ' id = some x → ρ id = some x ∨ n ≤ id
/-- the run of an operation comes to the effect -/
def Runs (P : Program) (s : Sem Value) (ρ : Ren) (H : IHeap) (n : Nat) (e : Eff) (w : World) : Prop :=
  ∃ v' w' ρ', s.run P w = .ok v' w' ∧ Post ρ H n e v' ρ' w w'
theorem Post.pure {ρ : Ren} {H : IHeap} {n : Nat} {w : World} (hb : Below n ρ) (hh : HR ρ H w) {v v' : Value} (hv : VR ρ v v') :
    Post ρ H n ⟨v, [], n⟩ v' ρ w w :=
  ⟨hb, Step.refl _ _ _, hv, hh, fun _ h => absurd h (by simp), Nat.le_refl _, fun _ _ h => .inl h⟩
/-- the world with another count of draws -/
theorem HR.drawn {ρ : Ren} {H : IHeap} {w : World} (h : HR ρ H w) (d : Nat) : HR ρ H { w with drawn := d } := ⟨h.obj, h.inj⟩
theorem Step.drawn {W : Nat → Prop} {ρ ρ' : Ren} {w w' : World} (h : Step W ρ ρ' w w') (d : Nat) : Step W ρ ρ' w { w' with drawn := d } :=
  ⟨h.le, h.new, h.size, h.keep, h.os, h.tape, h.output, h.others⟩
theorem Step.drawnL {W : Nat → Prop} {ρ ρ' : Ren} {w w' : World} (d : Nat) (h : Step W ρ ρ' { w with drawn := d } w') : Step W ρ ρ' w w' :=
  ⟨h.le, h.new, h.size, h.keep, h.os, h.tape, h.output, h.others⟩
def Ren.set (ρ : Ren) (n r κ : Nat) : Ren := fun id => if id = n then some (r, κ) else ρ id
theorem Ren.set_le {ρ : Ren} {n r κ : Nat} (h : ρ n = none) : ρ.le (ρ.set n r κ) := by
  intro id x e
  simp only [Ren.set]; split
  · subst_vars; rw [h] at e; cases e
  · exact e
/-- a new block -/
theorem Post.newRow {ρ : Ren} {H : IHeap} {n : Nat} {w w' : World} (hb : Below n ρ) (hh : HR ρ H w) {c : List Value} {c' : Array Value} {T : TypeId} {fz : Nat × Nat}
    (hheap : w'.heap = w.heap.push (.cells c' T fz)) (hfz : Free fz c'.size) (h7 : w'.os = w.os) (h8 : w'.tape = w.tape) (h9 : w'.output = w.output)
    (hs : c.length ≤ c'.size) (hc : ∀ (i : Nat) v, c[i]? = some v → ∃ v', c'[i]? = some v' ∧ VR ρ v v') {v v' : Value}
    (hv : VR (ρ.set n w.heap.size c'.size) v v') :
    Post ρ H n ⟨v, [(n, some (.cells c false))], n + 1⟩ v' (ρ.set n w.heap.size c'.size) w w' := by
  have hle : ρ.le (ρ.set n w.heap.size c'.size) := Ren.set_le (hb n (Nat.le_refl _))
  have hold : ∀ r, r < w.heap.size → w'.heap[r]? = w.heap[r]? := by
    intro r hr
    rw [hheap, Array.getElem?_push, if_neg (by omega)]
  have hlt : ∀ {id o r κ}, H id = some o → ρ id = some (r, κ) → r < w.heap.size := by
    intro id o r κ ho hr
    obtain ⟨r', κ', h1, h2⟩ := hh.obj id o ho
    rw [hr] at h1; cases h1
    have : w.heap[r]? ≠ none := by
      cases o with
      | cells c ro => obtain ⟨c', T, fz, h1, _⟩ := h2; rw [h1]; exact fun h => by cases h
      | map es => obtain ⟨es', clock, h1, _⟩ := h2; rw [h1]; exact fun h => by cases h
    rcases Nat.lt_or_ge r w.heap.size with h | h
    · exact h
    · exact absurd (Array.getElem?_eq_none h) this
  refine ⟨?_, ⟨hle, ?_, ?_, fun r hr _ => hold r hr, h7, h8, h9, fun k o hk _ => (hold k (Array.getElem?_eq_some_iff.1 hk).1).trans hk⟩, hv, ⟨?_, ?_⟩, ?_, Nat.le_succ _, fun id x h => by
      simp only [Ren.set] at h
      split at h
      · exact .inr (by omega)
      · exact .inl h⟩
  · intro id hid
    simp only [Ren.set]; rw [if_neg (by have : n + 1 ≤ id := hid; omega)]
    exact hb id (by have : n + 1 ≤ id := hid; omega)
  · intro id r κ h1 h2
    simp only [Ren.set] at h2
    split at h2
    · cases h2; exact .inl (Nat.le_refl _)
    · rw [h1] at h2; cases h2
  · rw [hheap]; simp
  · intro id o ho
    simp only [upds, upd] at ho
    split at ho
    · cases ho
      subst_vars
      refine ⟨w.heap.size, c'.size, by simp [Ren.set], c', T, fz, ?_, rfl, hs, fun _ => hfz, ?_⟩
      · rw [hheap]; simp
      · intro i v hv
        obtain ⟨v', h1, h2⟩ := hc i v hv
        exact ⟨v', h1, h2.mono hle⟩
    · obtain ⟨r, κ, h1, h2⟩ := hh.obj id o ho
      refine ⟨r, κ, hle _ _ h1, ?_⟩
      rw [hold r (hlt ho h1)]
      exact h2.mono hle
  · intro i j o p r κ κ' hi hj hri hrj
    simp only [upds, upd] at hi hj
    simp only [Ren.set] at hri hrj
    split at hi
    · rename_i hin
      rw [if_pos hin] at hri; cases hri
      split at hj
      · rename_i hjn; rw [hin, hjn]
      · rename_i hjn
        rw [if_neg hjn] at hrj
        have := hlt hj hrj; omega
    · rename_i hin
      rw [if_neg hin] at hri
      split at hj
      · rename_i hjn
        rw [if_pos hjn] at hrj; cases hrj
        have := hlt hi hri; omega
      · rename_i hjn
        rw [if_neg hjn] at hrj
        exact hh.inj i j o p r κ κ' hi hj hri hrj
  · intro id hid
    simp only [Eff.ids, List.map_cons, List.map_nil, List.mem_singleton] at hid
    subst hid
    exact ⟨.inl (Nat.le_refl _), Nat.lt_succ_self _⟩
theorem Post.alloc {ρ : Ren} {H : IHeap} {n : Nat} {w : World} (hb : Below n ρ) (hh : HR ρ H w) {c : List Value} {c' : Array Value} {T : TypeId}
    (hs : c.length ≤ c'.size) (hc : ∀ (i : Nat) v, c[i]? = some v → ∃ v', c'[i]? = some v' ∧ VR ρ v v') {v v' : Value}
    (hv : VR (ρ.set n w.heap.size c'.size) v v') :
    Post ρ H n ⟨v, [(n, some (.cells c false))], n + 1⟩ v' (ρ.set n w.heap.size c'.size) w (w.alloc (.cells c' T)) :=
  Post.newRow (w' := w.alloc (.cells c' T)) (T := T) (fz := (0, 0)) hb hh rfl (Free.zero _) rfl rfl rfl hs hc hv
end Go.Proofs.Ytdnnojblneccdaa
/-
  One operation on ideal memory: types, loads, stores, new blocks.
-/
namespace Go.Proofs.Ytdnnojblneccdaa
set_option linter.unusedSimpArgs false
set_option linter.unusedVariables false
open Go
/-- what the engine knows of a type -/
inductive TK where
  | bool | int (k : IntKind) | str | ptr (e : Nat) | slice (e : Nat) | arr (len e : Nat) | struct (fs : List (Nat × Nat)) | map (k e : Nat) | func | iface | other
  deriving DecidableEq, Inhabited
structure TD where
  k : TK
  size : Nat
  bytes : Nat
  zero : List Value
  deriving Inhabited
def TK.isAgg : TK → Bool
  | .arr .. | .struct _ => true
  | _ => false
/-- the type's description fits -/
def TK.fits : TK → TypeDesc → Prop
  | .bool, d => d = .bool
  | .int k, d => d = .int k
  | .str, d => d = .string
  | .ptr e, d => d = .pointer e
  | .slice e, d => d = .slice e
  | .arr n e, d => d = .array n e
  | .struct fs, d => ∃ a : Array Field, d = .struct a ∧ a.toList.map (fun f => (f.offset, f.type)) = fs
  | .map k e, d => d = .map k e
  | .func, d => ∃ a b c, d = .func a b c
  | .iface, d => ∃ m, d = .interface m
  | .other, d => (∀ x, d ≠ .struct x) ∧ (∀ x y, d ≠ .array x y) ∧ ∀ k, d ≠ .int k
structure TyOk (P : Program) (t : TypeId) (d : TD) : Prop where
  und : ∃ u, P.underlying t = some u ∧ d.k.fits u
  info : ∃ i z, P.info? t = some i ∧ i.size = d.size ∧ i.bytes = d.bytes ∧ i.zero = some z ∧ z.cells.toList = d.zero ∧ z.cells.toList.all clo1 = true ∧ (∀ a, z ≠ .tuple a) ∧ (d.k.isAgg = false → clo1 z = true)
  zlen : d.zero.length = d.size
abbrev Ty := TypeId → Option TD
def DOk (P : Program) (D : Ty) : Prop := ∀ t d, D t = some d → TyOk P t d
section
variable {P : Program} {D : Ty} (hD : DOk P D)
include hD
theorem run_und {t : TypeId} {d : TD} (h : D t = some d) (w : World) : ∃ u, (underlying t).run P w = .ok u w ∧ P.underlying t = some u ∧ d.k.fits u := by
  obtain ⟨u, h1, h2⟩ := (hD t d h).und
  exact ⟨u, run_underlying h1 w, h1, h2⟩
theorem run_info {t : TypeId} {d : TD} (h : D t = some d) (w : World) : ∃ i z, (typeInfo t).run P w = .ok i w ∧ i.size = d.size ∧ i.bytes = d.bytes ∧ i.zero = some z ∧ z.cells.toList = d.zero ∧ z.cells.toList.all clo1 = true ∧ (∀ a, z ≠ .tuple a) := by
  obtain ⟨i, z, h1, h2, h3, h4, h5, h6, h7, _⟩ := (hD t d h).info
  exact ⟨i, z, by simp [typeInfo, h1], h2, h3, h4, h5, h6, h7⟩
theorem run_size {t : TypeId} {d : TD} (h : D t = some d) (w : World) : (sizeOf t).run P w = .ok d.size w := by
  obtain ⟨i, z, h1, h2, _⟩ := run_info hD h w
  simp [sizeOf, h1, h2]
theorem run_zero {t : TypeId} {d : TD} (h : D t = some d) (w : World) : ∃ z, (zeroValue t).run P w = .ok z w ∧ z.cells.toList = d.zero ∧ z.cells.toList.all clo1 = true ∧ (∀ a, z ≠ .tuple a) := by
  obtain ⟨i, z, h1, h2, h3, h4, h5, h6, h7⟩ := run_info hD h w
  exact ⟨z, by simp [zeroValue, h1, h4], h5, h6, h7⟩
theorem run_isAgg {t : TypeId} {d : TD} (h : D t = some d) (w : World) : (isAgg t).run P w = .ok d.k.isAgg w := by
  obtain ⟨u, h1, h2, h3⟩ := run_und hD h w
  cases hk : d.k <;> rw [hk] at h3 <;> simp only [TK.fits] at h3
  case struct fs => obtain ⟨a, rfl, _⟩ := h3; simp [isAgg, h1, TK.isAgg]
  case func => obtain ⟨a, b, c, rfl⟩ := h3; simp [isAgg, h1, TK.isAgg]
  case iface => obtain ⟨m, rfl⟩ := h3; simp [isAgg, h1, TK.isAgg]
  case other =>
    obtain ⟨h4, h5, _⟩ := h3
    cases u <;> first | (exact absurd rfl (h4 _)) | (exact absurd rfl (h5 _ _)) | simp [isAgg, h1, TK.isAgg]
  all_goals (subst h3; simp [isAgg, h1, TK.isAgg])
end
/-- the cells of a value: none, if it is not known -/
def cellsOf : Value → Option (List Value)
  | .agg cs => some cs.toList
  | .tuple _ => none
  | .chan _ => none
  | v => some [v]
/-- a cell that is known -/
def known : Value → Bool
  | .agg _ | .tuple _ | .chan _ => false
  | _ => true
theorem VR.known {ρ : Ren} {v w : Value} (h : VR ρ v w) (k : known v = true) : Ytdnnojblneccdaa.known w = true := by
  cases h <;> simp_all [Ytdnnojblneccdaa.known]
theorem VR.cells {ρ : Ren} {v w : Value} (h : VR ρ v w) {cs : List Value} (hc : cellsOf v = some cs) :
    w.cells.size = cs.length ∧ ∀ (i : Nat) x, cs[i]? = some x → ∃ y, w.cells[i]? = some y ∧ VR ρ x y := by
  have one : ∀ {v w : Value}, VR ρ v w → w.cells = #[w] → cs = [v] → w.cells.size = cs.length ∧ ∀ (i : Nat) x, cs[i]? = some x → ∃ y, w.cells[i]? = some y ∧ VR ρ x y := by
    intro v w hv hw hcs
    subst hcs
    rw [hw]
    refine ⟨rfl, fun i x hx => ?_⟩
    cases i with
    | zero => cases hx; exact ⟨w, rfl, hv⟩
    | succ i => simp at hx
  cases h with
  | agg hs h =>
    rename_i a b
    simp only [cellsOf, Option.some.injEq] at hc
    subst hc
    refine ⟨by simp [Value.cells, hs], fun i x hx => ?_⟩
    have hi : i < a.size := by
      rcases Nat.lt_or_ge i a.size with h | h
      · exact h
      · simp [Array.getElem?_toList, Array.getElem?_eq_none h] at hx
    have hx' : a[i]? = some x := by simpa using hx
    have hy : b[i]? = some b[i] := by simp
    exact ⟨b[i], hy, h i _ _ hx' hy⟩
  | unk v => simp [cellsOf] at hc
  | skip => simp [cellsOf] at hc
  | tuple => simp [cellsOf] at hc
  | bool b => exact one (.bool b) rfl (by simpa [cellsOf] using hc.symm)
  | int k n => exact one (.int k n) rfl (by simpa [cellsOf] using hc.symm)
  | str s => exact one (.str s) rfl (by simpa [cellsOf] using hc.symm)
  | nilPtr => exact one .nilPtr rfl (by simpa [cellsOf] using hc.symm)
  | ptr off h => exact one (.ptr off h) rfl (by simpa [cellsOf] using hc.symm)
  | void a => exact one (.void a) rfl (by simpa [cellsOf] using hc.symm)
  | nilSlice => exact one .nilSlice rfl (by simpa [cellsOf] using hc.symm)
  | slice off len cap h => exact one (.slice off len cap h) rfl (by simpa [cellsOf] using hc.symm)
  | oslice h h2 h3 h4 => exact one (.oslice h h2 h3 h4) rfl (by simpa [cellsOf] using hc.symm)
  | func fn h1 h2 h3 h4 => exact one (.func fn h1 h2 h3 h4) rfl (by simpa [cellsOf] using hc.symm)
  | nilFunc => exact one .nilFunc rfl (by simpa [cellsOf] using hc.symm)
  | nilIface => exact one .nilIface rfl (by simpa [cellsOf] using hc.symm)
  | iface t h => exact one (.iface t h) rfl (by simpa [cellsOf] using hc.symm)
  | nilMap => exact one .nilMap rfl (by simpa [cellsOf] using hc.symm)
  | map h => exact one (.map h) rfl (by simpa [cellsOf] using hc.symm)
/-- a variable as it is read: the cells from off on -/
def rdVar (d : TD) (c : List Value) (off : Nat) : Option Value :=
  if d.k.isAgg then (if off + d.size ≤ c.length then some (.agg ((c.drop off).take d.size).toArray) else none) else c[off]?
/-- cells put over others, from off on -/
def splice (c : List Value) (off : Nat) (vs : List Value) : List Value := c.take off ++ vs ++ c.drop (off + vs.length)
def wrCells (c : List Value) (off : Nat) : List Value → List Value
  | [v] => c.set off v
  | vs => splice c off vs
theorem getElem?_splice (c : List Value) (off : Nat) (vs : List Value) (h : off + vs.length ≤ c.length) (i : Nat) :
    (splice c off vs)[i]? = if off ≤ i ∧ i < off + vs.length then vs[i - off]? else c[i]? := by
  unfold splice
  have h1 : (c.take off).length = off := by simp; omega
  by_cases ha : i < off
  · rw [if_neg (by omega), List.append_assoc, List.getElem?_append_left (by omega), List.getElem?_take_of_lt ha]
  · by_cases hb : i < off + vs.length
    · rw [if_pos (by omega), List.append_assoc, List.getElem?_append_right (by omega), h1, List.getElem?_append_left (by omega)]
    · rw [if_neg (by omega), List.getElem?_append_right (by simp; omega)]
      simp only [List.length_append, h1, List.getElem?_drop]
      congr 1; omega
theorem length_splice (c : List Value) (off : Nat) (vs : List Value) (h : off + vs.length ≤ c.length) : (splice c off vs).length = c.length := by
  simp [splice]; omega
theorem wrCells_eq (c : List Value) (off : Nat) (vs : List Value) (h : off + vs.length ≤ c.length) : wrCells c off vs = splice c off vs := by
  unfold wrCells
  split
  · rename_i v
    refine List.ext_getElem? fun i => ?_
    rw [getElem?_splice _ _ _ h, List.getElem?_set]
    simp only [List.length_singleton] at h ⊢
    by_cases hi : off = i
    · subst hi; rw [if_pos rfl, if_pos (by omega), if_pos ⟨Nat.le_refl _, Nat.lt_succ_self _⟩]; simp
    · rw [if_neg hi, if_neg (by omega)]
  · rfl
section
variable {P : Program} {ρ : Ren} {H : IHeap} {w : World} {n : Nat}
/-- a cell of a known row -/
theorem HR.row (hh : HR ρ H w) {id : Nat} {c : List Value} {ro : Bool} (ho : H id = some (.cells c ro)) :
    ∃ r κ c' T fz, ρ id = some (r, κ) ∧ w.heap[r]? = some (.cells c' T fz) ∧ c'.size = κ ∧ c.length ≤ κ ∧ (ro = false → Free fz κ) ∧
      ∀ (i : Nat) v, c[i]? = some v → ∃ v', c'[i]? = some v' ∧ VR ρ v v' := by
  obtain ⟨r, κ, h1, c', T, fz, h2⟩ := hh.obj _ _ ho
  exact ⟨r, κ, c', T, fz, h1, h2⟩
theorem cell_row {w : World} {r : Nat} {c : Array Value} {T : TypeId} {fz : Nat × Nat} (h : w.heap[r]? = some (.cells c T fz)) (off : Nat) :
    w.cell? ⟨r, off, none⟩ = c[off]? := by
  simp [World.cell?, h]
theorem addr_add (r off j : Nat) : (⟨r, off, none⟩ : Addr).add j = ⟨r, off + j, none⟩ := by
  unfold Addr.add
  split
  · subst_vars; rfl
  · rfl
theorem run_loadCells_row {r : Nat} {c : Array Value} {T : TypeId} {fz : Nat × Nat} (h : w.heap[r]? = some (.cells c T fz)) (off k : Nat) (hk : off + k ≤ c.size) :
    (loadCells ⟨r, off, none⟩ k).run P w = .ok (c.extract off (off + k)) w := by
  have hl : (c.extract off (off + k)).toList.length = k := by simp; omega
  have := run_loadCells_list (P := P) (w := w) (a := ⟨r, off, none⟩) (cs := (c.extract off (off + k)).toList) (by
    intro j v hv
    rw [addr_add, cell_row h]
    simp only [Array.getElem?_toList, Array.getElem?_extract] at hv
    split at hv
    · exact hv
    · cases hv)
  rw [hl] at this
  rw [this]
/-- reading a variable -/
theorem run_rdVar {D : Ty} (hD : DOk P D) (hh : HR ρ H w) {id : Nat} {c : List Value} {ro : Bool} (ho : H id = some (.cells c ro)) {t : TypeId} {d : TD} (hd : D t = some d)
    {off : Nat} {v : Value} (hv : rdVar d c off = some v) {a' : Addr} (ha : VR ρ (.pointer (some ⟨id, off, none⟩)) (.pointer (some a'))) :
    ∃ v', (loadVar t a').run P w = .ok v' w ∧ VR ρ v v' := by
  obtain ⟨r, κ, c', T, fz, h1, h2, h3, h4, _, h6⟩ := hh.row ho
  have ha' : a' = ⟨r, off, none⟩ := by
    cases ha with | ptr _ h => rw [h1] at h; cases h; rfl
  subst ha'
  unfold rdVar at hv
  cases hg : d.k.isAgg with
  | true =>
    simp only [hg, if_true] at hv
    split at hv
    · rename_i hle
      cases hv
      refine ⟨.agg (c'.extract off (off + d.size)), ?_, ?_⟩
      · simp [loadVar, run_isAgg hD hd, hg, run_size hD hd, run_loadCells_row h2 off d.size (by omega)]
      · refine .agg (by simp; omega) fun i x y hx hy => ?_
        simp only [List.getElem?_toArray, List.getElem?_take, List.getElem?_drop] at hx
        simp only [Array.getElem?_extract] at hy
        split at hx
        · obtain ⟨y', e, hr⟩ := h6 _ _ hx
          split at hy
          · rw [hy] at e; cases e; exact hr
          · cases hy
        · cases hx
    · cases hv
  | false =>
    simp only [hg, Bool.false_eq_true, if_false] at hv
    obtain ⟨v', e, hr⟩ := h6 _ _ hv
    refine ⟨v', ?_, hr⟩
    have hc : w.cell? ⟨r, off, none⟩ = some v' := by rw [cell_row h2]; exact e
    simp [loadVar, run_isAgg hD hd, hg, load, Sem.run, hc]
/-- storing cells into a row -/
theorem run_storeCells_row : ∀ (vs : List Value) (i : Nat) (w : World) (r off : Nat) (c : Array Value) (T : TypeId) (fz : Nat × Nat), w.heap[r]? = some (.cells c T fz) → Free fz c.size → off + i + vs.length ≤ c.size →
    (∀ v ∈ vs, known v = true) →
    ∃ w' c'', (storeCells ⟨r, off, none⟩ vs i).run P w = .ok () w' ∧ w'.heap[r]? = some (.cells c'' T fz) ∧ c''.size = c.size ∧
      (∀ j : Nat, c''[j]? = if off + i ≤ j ∧ j < off + i + vs.length then vs[j - (off + i)]? else c[j]?) ∧
      (∀ k, k ≠ r → w'.heap[k]? = w.heap[k]?) ∧ w'.heap.size = w.heap.size ∧ w'.os = w.os ∧ w'.tape = w.tape ∧ w'.output = w.output
  | [], i, w, r, off, c, T, fz, h, hf, hle, _ => by
    refine ⟨w, c, rfl, h, rfl, fun j => ?_, fun _ _ => rfl, rfl, rfl, rfl, rfl⟩
    rw [if_neg (by simp only [List.length_nil]; omega)]
  | v :: vs, i, w, r, off, c, T, fz, h, hf, hle, hone => by
    have hlen : off + i + (vs.length + 1) ≤ c.size := by simpa using hle
    have hcell : w.cell? ⟨r, off + i, none⟩ = some c[off + i] := by rw [cell_row h]; simp
    have hfz : w.frozen? ⟨r, off + i, none⟩ = false := by simpa [World.frozen?, h] using hf.at (off := off + i) (by omega)
    have hr : r < w.heap.size := by
      rcases Nat.lt_or_ge r w.heap.size with hl | hl
      · exact hl
      · rw [Array.getElem?_eq_none hl] at h; cases h
    let w1 : World := w.setCell ⟨r, off + i, none⟩ v
    have h1 : w1.heap[r]? = some (.cells (c.setIfInBounds (off + i) v) T fz) := by
      simp [w1, World.setCell, Array.getElem?_modify, h]
    obtain ⟨w', c'', e1, e2, e3, e4, e5, e6, e7, e8, e9⟩ := run_storeCells_row vs (i + 1) w1 r off (c.setIfInBounds (off + i) v) T fz h1 (by simpa using hf) (by simp; omega) (fun v hv => hone v (List.mem_cons_of_mem _ hv))
    have hvone : known v = true := hone v (List.mem_cons_self)
    refine ⟨w', c'', ?_, e2, by simpa using e3, ?_, ?_, by rw [e6]; simp [w1, World.setCell], e7, e8, e9⟩
    · have hst : (Go.store ((⟨r, off, none⟩ : Addr).add i) v).run P w = .ok () w1 := by
        rw [addr_add]
        cases v <;> first | (simp [known] at hvone; done) | (simp [Go.store, Sem.run, hcell, hfz, w1])
      simp [storeCells, hst, e1]
    · intro j
      rw [e4 j]
      by_cases hj : off + (i + 1) ≤ j ∧ j < off + (i + 1) + vs.length
      · rw [if_pos hj, if_pos (by simp; omega), show j - (off + i) = (j - (off + (i + 1))) + 1 from by omega, List.getElem?_cons_succ]
      · rw [if_neg hj, Array.getElem?_setIfInBounds]
        by_cases hji : off + i = j
        · rw [if_pos hji, if_pos (by omega), if_pos (by simp; omega), show j - (off + i) = 0 from by omega]; rfl
        · rw [if_neg hji, if_neg (by simp; omega)]
    · intro k hk
      rw [e5 k hk]
      simp [w1, World.setCell, Array.getElem?_modify, Ne.symm hk]
theorem row_cells (hh : HR ρ H w) {id : Nat} {c : List Value} {ro : Bool} (ho : H id = some (.cells c ro)) {r κ : Nat} (hr : ρ id = some (r, κ)) {o : Obj} (h : w.heap[r]? = some o) : o.isCells = true := by
  obtain ⟨r', κ', h1, h2⟩ := hh.obj id _ ho
  rw [hr] at h1; cases h1
  obtain ⟨c', T, fz, h3, _⟩ := h2
  rw [h] at h3; cases h3; rfl
theorem others_of (hh : HR ρ H w) {id : Nat} {c : List Value} {ro : Bool} (ho : H id = some (.cells c ro)) {r κ : Nat} (hr : ρ id = some (r, κ)) {w' : World} (hk : ∀ k, k ≠ r → w'.heap[k]? = w.heap[k]?) :
    ∀ (k : Nat) (o : Obj), w.heap[k]? = some o → o.isCells = false → w'.heap[k]? = some o := fun k o h1 h2 =>
  (hk k fun e => by subst e; rw [row_cells hh ho hr h1] at h2; cases h2).trans h1
/-- a row is written in place -/
theorem Post.store (hb : Below n ρ) (hh : HR ρ H w) {id : Nat} {c c2 : List Value} {ro : Bool} (ho : H id = some (.cells c ro)) {r κ : Nat} (hr : ρ id = some (r, κ))
    {w' : World} {c'' : Array Value} {T : TypeId} {fz : Nat × Nat} (hf : Free fz κ) (hw : w'.heap[r]? = some (.cells c'' T fz)) (hs : c''.size = κ) (hl : c2.length ≤ κ)
    (hc : ∀ (i : Nat) v, c2[i]? = some v → ∃ v', c''[i]? = some v' ∧ VR ρ v v')
    (hk : ∀ k, k ≠ r → w'.heap[k]? = w.heap[k]?) (hz : w'.heap.size = w.heap.size) (h7 : w'.os = w.os) (h8 : w'.tape = w.tape) (h9 : w'.output = w.output)
    {v v' : Value} (hv : VR ρ v v') :
    Post ρ H n ⟨v, [(id, some (.cells c2 false))], n⟩ v' ρ w w' := by
  refine ⟨hb, ⟨ρ.le_refl, fun _ _ _ h k => absurd (h.symm.trans k) (by simp), by omega, ?_, h7, h8, h9, others_of hh ho hr hk⟩, hv, ⟨?_, ?_⟩, ?_, Nat.le_refl _, fun _ _ h => .inl h⟩
  · intro q _ hn
    exact hk q fun e => hn id κ (e ▸ hr) (by simp)
  · intro j o hj
    simp only [upds, upd] at hj
    split at hj
    · cases hj; subst_vars
      exact ⟨r, _, hr, c'', T, fz, hw, rfl, hl, fun _ => hf, hc⟩
    · rename_i hne
      obtain ⟨r', κ', h1, h2⟩ := hh.obj j o hj
      refine ⟨r', κ', h1, ?_⟩
      rw [hk r' fun e => hne (hh.inj j id o _ r' κ' κ hj ho h1 (e ▸ hr))]
      exact h2
  · intro i j o p q κ1 κ2 hi hj hri hrj
    have pick : ∀ {i o}, upds H [(id, some (.cells c2 false))] i = some o → ∃ o', H i = some o' := by
      intro i o h
      simp only [upds, upd] at h
      split at h
      · subst_vars; exact ⟨_, ho⟩
      · exact ⟨_, h⟩
    obtain ⟨o', hi'⟩ := pick hi
    obtain ⟨p', hj'⟩ := pick hj
    exact hh.inj i j o' p' q κ1 κ2 hi' hj' hri hrj
  · intro j hj
    simp only [Eff.ids, List.map_cons, List.map_nil, List.mem_singleton] at hj
    subst hj
    exact ⟨.inr (by rw [ho]; rfl), hb.lt hr⟩
end
end Go.Proofs.Ytdnnojblneccdaa
/-
  The operations on ideal memory, as a function.
-/
namespace Go.Proofs.Ytdnnojblneccdaa
set_option linter.unusedSimpArgs false
set_option linter.unusedVariables false
open Go
def intOp (op : BinOp) (k : IntKind) (a b : Int) : Option Value :=
  match op with
  | .add => some (.int k (k.wrap (a + b)))
  | .sub => some (.int k (k.wrap (a - b)))
  | .mul => some (.int k (k.wrap (a * b)))
  | .quo => if b = 0 then none else some (.int k (k.wrap (a.tdiv b)))
  | .rem => if b = 0 then none else some (.int k (a.tmod b))
  | .and => some (.int k (k.wrap (BitVec.ofInt k.bits a &&& BitVec.ofInt k.bits b).toNat))
  | .or => some (.int k (k.wrap (BitVec.ofInt k.bits a ||| BitVec.ofInt k.bits b).toNat))
  | .xor => some (.int k (k.wrap (BitVec.ofInt k.bits a ^^^ BitVec.ofInt k.bits b).toNat))
  | .andNot => some (.int k (k.wrap (BitVec.ofInt k.bits a &&& ~~~(BitVec.ofInt k.bits b)).toNat))
  | .eql => some (.bool (a == b))
  | .neq => some (.bool (a != b))
  | .lss => some (.bool (decide (a < b)))
  | .leq => some (.bool (decide (a ≤ b)))
  | .gtr => some (.bool (decide (b < a)))
  | .geq => some (.bool (decide (b ≤ a)))
  | .shl | .shr => none
def strOp (op : BinOp) (x y : ByteArray) : Option Value :=
  match op with
  | .add => if ((x.size + y.size : Nat) : Int) > IntKind.i64.max then none else some (.string (x ++ y))
  | .eql => some (.bool (x.toList == y.toList))
  | .neq => some (.bool !(x.toList == y.toList))
  | .lss => some (.bool (Op.bytesLess x.toList y.toList))
  | .leq => some (.bool (Op.bytesLess x.toList y.toList || x.toList == y.toList))
  | .gtr => some (.bool !(Op.bytesLess x.toList y.toList || x.toList == y.toList))
  | .geq => some (.bool !(Op.bytesLess x.toList y.toList))
  | _ => none
/-- two cells, held against each other as the type tells -/
def cellEq : TK → Value → Value → Option Bool
  | .bool, .bool a, .bool b => some (a == b)
  | .int _, .int k a, .int k' b => if k = k' then some (a == b) else none
  | .str, .string a, .string b => some (a == b)
  | _, _, _ => none
def cellsEq : List TK → List Value → List Value → Option Bool
  | [], [], [] => some true
  | k :: ks, x :: xs, y :: ys => (cellEq k x y).bind fun a => (cellsEq ks xs ys).map (a && ·)
  | _, _, _ => none
/-- the kinds of a type's cells, where its values may be held against each other: else none -/
abbrev Kinds := TypeId → Option (List TK)
def eqOp (D : Ty) (K : Kinds) (t : TypeId) (x y : Value) : Option Bool :=
  match x, y with
  | .agg a, .agg b => (K t).bind fun ks => cellsEq ks a.toList b.toList
  | .bool a, .bool b => (D t).bind fun d => if d.k = .bool then some (a == b) else none
  | .pointer none, .pointer b => (D t).bind fun d => match d.k with | .ptr _ => some b.isNone | _ => none
  | .pointer a, .pointer none => (D t).bind fun d => match d.k with | .ptr _ => some a.isNone | _ => none
  | .slice none _ _, .slice b _ _ => (D t).bind fun d => match d.k with | .slice _ => some b.isNone | _ => none
  | .slice a _ _, .slice none _ _ => (D t).bind fun d => match d.k with | .slice _ => some a.isNone | _ => none
  | .map none, .map b => (D t).bind fun d => match d.k with | .map _ _ => some b.isNone | _ => none
  | .map a, .map none => (D t).bind fun d => match d.k with | .map _ _ => some a.isNone | _ => none
  | _, _ => none
def binOp' (D : Ty) (K : Kinds) (op : BinOp) (t : TypeId) (x y : Value) : Option Value :=
  match x, y with
  | .int k a, .int k' b =>
    match op with
    | .shl => if b < 0 then none else some (.int k (k.wrap (a * 2 ^ (min b.toNat k.bits))))
    | .shr => if b < 0 then none else some (.int k (a.fdiv (2 ^ (min b.toNat k.bits))))
    | op => if k = k' then intOp op k a b else none
  | .string a, .string b => strOp op a b
  | x, y =>
    match op with
    | .eql => (eqOp D K t x y).map .bool
    | .neq => (eqOp D K t x y).map fun b => .bool !b
    | _ => none
def unOp' (op : UnOp) (x : Value) : Option Value :=
  match op, x with
  | .neg, .int k n => some (.int k (k.wrap (0 - n)))
  | .xor, .int k n => some (.int k (k.wrap (BitVec.ofInt k.bits (if k.signed then -1 else k.max) ^^^ BitVec.ofInt k.bits n).toNat))
  | .not, .bool b => some (.bool !b)
  | _, _ => none
/-- a place further on -/
def goOn (a : Addr) (k : Nat) : Addr := if k = 0 then a else { a with off := a.off + k }
def bnd : Option Value → Nat → Option Nat := fun v d => match v with | none => some d | some (.int _ i) => if 0 ≤ i then some i.toNat else none | _ => none
/-- x[lo:hi:mx] of a row (of an array: its length as len and cap, not open) -/
def sliceIt (a : Addr) (len cap sz : Nat) (lo hi mx : Option Value) : Option Value :=
  match bnd lo 0, bnd hi len, bnd mx cap with
  | some l, some h, some m =>
    if l ≤ h ∧ h ≤ m ∧ m ≤ cap ∧ (hi.isSome || mx.isNone) = true then
      match a.spot, mx with
      | none, _ => some (.slice (some (if m = l then a else goOn a (l * sz))) (h - l) (m - l))
      | some s, none => if (l < cap ∨ l = 0) ∧ s = sz then some (.slice (some (goOn a (l * sz))) (h - l) (cap - l)) else none
      | some s, some _ => if s = sz then some (.slice (some (if m = l then { a with spot := none } else { goOn a (l * sz) with spot := none })) (h - l) (m - l)) else none
    else none
  | _, _, _ => none
/-- the cells of a slice (or of a string, as bytes) -/
def srcCells (H : IHeap) (sz : Nat) : Value → Option (List Value)
  | .slice none _ _ => some []
  | .slice (some a) len _ =>
    match H a.block with
    | some (.cells c _) => if a.off + len * sz ≤ c.length then some ((c.drop a.off).take (len * sz)) else none
    | _ => none
  | .string s => if sz = 1 then some (s.data.toList.map fun b => .int .u8 b.toNat) else none
  | _ => none
def srcLen : Value → Option Nat
  | .slice _ len _ => some len
  | .string s => some s.size
  | _ => none
/-- what an append may come to: 2^47 bytes -/
def most : Nat := 2 ^ 47
/-- parts put into cells -/
def fillIn (place : Nat → Option (Nat × Nat)) (cells : List Value) : List (Nat × Value) → Option (List Value)
  | [] => some cells
  | (i, v) :: rest =>
    match place i, cellsOf v with
    | some (off, size), some vs => if vs.length = size ∧ off + size ≤ cells.length then fillIn place (wrCells cells off vs) rest else none
    | _, _ => none
section
variable (D : Ty) (K : Kinds) (e : Operand → Value) (H : IHeap) (n : Nat)
def val (v : Value) : Option Eff := some ⟨v, [], n⟩
def new (c : List Value) (v : Value) : Option Eff := some ⟨v, [(n, some (.cells c false))], n + 1⟩
def doLoad (t : TypeId) : Value → Option Eff
  | .pointer (some ⟨id, off, none⟩) => (D t).bind fun d => match H id with
    | some (.cells c _) => (rdVar d c off).bind fun v => val n v
    | _ => none
  | _ => none
def doStore (t : TypeId) (x : Value) : Value → Option Eff
  | .pointer (some ⟨id, off, none⟩) => (D t).bind fun d => match H id with
    | some (.cells c false) => (cellsOf x).bind fun vs =>
      if vs.length = d.size ∧ off + d.size ≤ c.length ∧ vs.all known = true then some ⟨.tuple #[], [(id, some (.cells (wrCells c off vs) false))], n⟩ else none
    | _ => none
  | _ => none
/-- what is appended: how many, and their cells (a number: so many zero values) -/
def srcArg (t2 : TypeId) (de : TD) (x : Value) : Option (Nat × List Value) :=
  (D t2).bind fun d2 =>
    match d2.k, x with
    | .int _, .int .i64 l => if 0 ≤ l ∧ l ≤ most ∧ l * de.bytes ≤ (2 : Int) ^ 48 then some (l.toNat, (List.replicate l.toNat de.zero).flatten) else none
    | .int _, _ => none
    | _, x => (srcLen x).bind fun k => (srcCells H de.size x).map fun xs => (k, xs)
/-- not of open capacity -/
def closed : Option Addr → Bool
  | some ⟨_, _, some _⟩ => false
  | _ => true
def doAppend (t t2 : TypeId) (s x : Value) : Option Eff :=
  match s, D t with
  | .slice base len cap, some d =>
    match d.k with
    | .slice el => (D el).bind fun de => (srcArg D H t2 de x).bind fun p =>
      if len + p.1 ≤ cap ∧ closed base = true then
        match base with
        | none => val n (.slice none (len + p.1) cap)
        | some a =>
          if p.2 = [] then val n (.slice (some a) (len + p.1) cap) else
          match H a.block with
          | some (.cells c false) => if a.off + len * de.size + p.2.length ≤ c.length ∧ p.2.all known = true then
              some ⟨.slice (some a) (len + p.1) cap, [(a.block, some (.cells (splice c (a.off + len * de.size) p.2) false))], n⟩ else none
          | _ => none
      else if (len + p.1) * de.bytes ≤ most ∧ 1 ≤ de.bytes then
        match base with
        | none => new n p.2 (.slice (some ⟨n, 0, some de.size⟩) (len + p.1) (len + p.1))
        | some ⟨_, _, none⟩ => (srcCells H de.size s).bind fun ys => new n (ys ++ p.2) (.slice (some ⟨n, 0, some de.size⟩) (len + p.1) (len + p.1))
        | some ⟨id, off, some sz⟩ =>
          match H id with
          | some (.cells c false) =>
            if len * de.size ≤ c.length ∧ p.2.all known = true ∧ sz = de.size ∧ off = 0 then
              some ⟨.slice (some ⟨n, 0, some sz⟩) (len + p.1) (len + p.1), [(id, none), (n, some (.cells (c.take (len * de.size) ++ p.2) false))], n + 1⟩ else none
          | _ => none
      else none
    | _ => none
  | _, _ => none
def doCopy (t : TypeId) (s x : Value) : Option Eff :=
  match s, D t with
  | .slice base len _, some d =>
    match d.k with
    | .slice el =>
      match D el, srcLen x with
      | some de, some k =>
        (srcCells H de.size x).bind fun xs =>
          match base with
          | none => val n (.int .i64 0)
          | some a => match H a.block with
            | some (.cells c false) =>
              if a.off + len * de.size ≤ c.length ∧ xs.all known = true then
                some ⟨.int .i64 (min k len : Nat), [(a.block, some (.cells (splice c a.off (xs.take (min k len * de.size))) false))], n⟩ else none
            | _ => none
      | _, _ => none
    | _ => none
  | _, _ => none
def doBuiltin (b : Builtin) (ts : Array TypeId) (xs : List Value) : Option Eff :=
  match b, xs with
  | .len, [x] => (ts[0]?.bind D).bind fun d => match d.k, x with
    | .str, .string s => val n (.int .i64 s.size)
    | .slice _, .slice _ k _ => val n (.int .i64 k)
    | .arr k _, _ => val n (.int .i64 k)
    | .map _ _, .map none => val n (.int .i64 0)
    | .map _ _, .map (some id) => (match H id with | some (.map es) => val n (.int .i64 es.length) | _ => none)
    | _, _ => none
  | .cap, [x] => (ts[0]?.bind D).bind fun d => match d.k, x with
    | .slice _, .slice (some ⟨_, _, none⟩) _ k => val n (.int .i64 k)
    | .slice _, .slice none _ k => val n (.int .i64 k)
    | _, _ => none
  | .min, [.int k a, .int _ b] => val n (.int k (if b < a then b else a))
  | .max, [.int k a, .int _ b] => val n (.int k (if b > a then b else a))
  | .append, [s, x] => (ts[0]?).bind fun t => (ts[1]?).bind fun t2 => doAppend D H n t t2 s x
  | .copy, [s, x] => (ts[0]?).bind fun t => doCopy D H n t s x
  | _, _ => none
def doMake (t : TypeId) (len cap : Value) : Option Eff :=
  match len, cap, D t with
  | .int .i64 l, .int .i64 c, some d =>
    match d.k with
    | .slice el => (D el).bind fun de =>
      if 0 ≤ l ∧ l ≤ c ∧ c ≤ most ∧ de.bytes * c ≤ (2 : Int) ^ 48 then
        new n ((List.replicate c.toNat de.zero).flatten) (.slice (some ⟨n, 0, none⟩) l.toNat c.toNat) else none
    | _ => none
  | _, _, _ => none
def doConvert (src dst : TypeId) (x : Value) : Option Eff :=
  match D src, D dst with
  | some s, some d =>
    match d.k, x with
    | .int k, .int _ a => val n (.int k (k.wrap a))
    | .str, .string b => val n (.string b)
    | .slice el, .string b => (D el).bind fun de => if de.k = .int .u8 then
        (if b.size ≤ most then new n (b.data.toList.map fun c => .int .u8 c.toNat) (.slice (some ⟨n, 0, some 1⟩) b.size b.size) else none) else none
    | .slice el, .slice (some ⟨id, off, none⟩) len cap => (D el).bind fun de => if de.k = .int .u8 ∧ src = dst ∧ cap ≠ 0 then (match H id with
        | some (.cells c false) => some ⟨.slice (some ⟨id, off, none⟩) len cap, [(id, some (.cells c false))], n⟩
        | _ => none) else none
    | .str, .slice _ _ _ => (match s.k with
      | .slice el => (D el).bind fun de => if de.k = .int .u8 then (srcCells H 1 x).bind fun xs =>
          if xs.all (fun v => match v with | .int .u8 _ => true | _ => false) then
            val n (.string ⟨(xs.map fun v => match v with | .int _ i => UInt8.ofNat i.toNat | _ => 0).toArray⟩) else none else none
      | _ => none)
    | _, _ => none
  | _, _ => none
def doField (t : TypeId) (f : Nat) : Option (Nat × Nat) := (D t).bind fun d => match d.k with | .struct fs => fs[f]? | _ => none
def iop (op : Op) : Option Eff :=
  match op with
  | .move x | .assign x => val n (e x)
  | .pick c a b => match e c with | .bool c => val n (if c then e a else e b) | _ => none
  | .alloc t => (D t).bind fun d => new n d.zero (.pointer (some ⟨n, 0, none⟩))
  | .box _ x => (cellsOf (e x)).bind fun cs => new n cs (.pointer (some ⟨n, 0, none⟩))
  | .build t parts => (D t).bind fun d =>
    match d.k with
    | .struct fs => (fillIn (fun i => fs[i]?.bind fun f => (D f.2).map fun df => (f.1, df.size)) d.zero (parts.toList.map fun p => (p.1, e p.2))).bind fun cs => val n (.agg cs.toArray)
    | .arr _ el => (D el).bind fun de => (fillIn (fun i => some (i * de.size, de.size)) d.zero (parts.toList.map fun p => (p.1, e p.2))).bind fun cs => val n (.agg cs.toArray)
    | _ => none
  | .buildSlice t len parts => (D t).bind fun d =>
    match d.k with
    | .slice el => (D el).bind fun de => if len * de.size ≤ 2 ^ 24 then
        (fillIn (fun i => some (i * de.size, de.size)) ((List.replicate len de.zero).flatten) (parts.toList.map fun p => (p.1, e p.2))).bind fun cs =>
          new n cs (.slice (some ⟨n, 0, none⟩) len len) else none
    | _ => none
  | .load t a => doLoad D H n t (e a)
  | .store t a x => doStore D H n t (e x) (e a)
  | .nilCheck x => match e x with
    | .pointer (some ⟨id, off, none⟩) => val n (.pointer (some ⟨id, off, none⟩))
    | .func (.func f) a b => val n (.func (.func f) a b)
    | _ => none
  | .binOp op t x y _ => (binOp' D K op t (e x) (e y)).bind fun v => val n v
  | .unOp op _ x => (unOp' op (e x)).bind fun v => val n v
  | .convert s d x => doConvert D H n s d (e x)
  | .sliceToArrayPointer t x => (D t).bind fun d => match d.k, e x with
    | .arr k _, .slice (some a) len _ => if k ≤ len ∧ k ≠ 0 then val n (.pointer (some { a with spot := none })) else none
    | _, _ => none
  | .makeFunc fn first captured => val n (.func fn (first.map e) (captured.map e))
  | .makeSlice t l c => doMake D n t (e l) (e c)
  | .slice t x lo hi mx => (D t).bind fun d => match d.k, e x with
    | .arr k el, .pointer (some ⟨id, off, none⟩) => (D el).bind fun de => (sliceIt ⟨id, off, none⟩ k k de.size (lo.map e) (hi.map e) (mx.map e)).bind fun v => val n v
    | .slice el, .slice (some a) len cap => (D el).bind fun de => (sliceIt a len cap de.size (lo.map e) (hi.map e) (mx.map e)).bind fun v => val n v
    | .slice el, .slice none _ _ => (D el).bind fun de => (sliceIt ⟨0, 0, none⟩ 0 0 de.size (lo.map e) (hi.map e) (mx.map e)).bind fun _ => val n (.slice none 0 0)
    | _, _ => none
  | .fieldAddr t x f => match e x, doField D t f with
    | .pointer (some ⟨id, off, none⟩), some (o, ft) => (D ft).bind fun df => if df.size = 0 then none else val n (.pointer (some ⟨id, off + o, none⟩))
    | _, _ => none
  | .field t x f => match e x, doField D t f with
    | .agg cs, some (o, ft) => (D ft).bind fun df => (rdVar df cs.toList o).bind fun v => val n v
    | _, _ => none
  | .indexAddr t x i => (D t).bind fun d => match d.k, e x, e i with
    | .arr k el, .pointer (some ⟨id, off, none⟩), .int _ i => (D el).bind fun de => if 0 ≤ i ∧ i < k then val n (.pointer (some ⟨id, off + i.toNat * de.size, none⟩)) else none
    | .slice el, .slice (some ⟨id, off, _⟩) len _, .int _ i => (D el).bind fun de => if 0 ≤ i ∧ i < len then val n (.pointer (some ⟨id, off + i.toNat * de.size, none⟩)) else none
    | _, _, _ => none
  | .index t x i => (D t).bind fun d => match d.k, e x, e i with
    | .arr k el, .agg cs, .int _ i => (D el).bind fun de => if 0 ≤ i ∧ i < k then (rdVar de cs.toList (i.toNat * de.size)).bind fun v => val n v else none
    | .str, .string s, .int _ i => if 0 ≤ i then (s.data[i.toNat]?).bind fun b => val n (.int .u8 b.toNat) else none
    | _, _, _ => none
  | .extract x i => match e x with | .tuple vs => (vs[i]?).bind fun v => if vs.isEmpty then none else val n v | _ => none
  | .call c => match c.callee with
    | .builtin b => doBuiltin D H n b c.argTypes (c.args.toList.map e)
    | _ => none
  | _ => none
end
end Go.Proofs.Ytdnnojblneccdaa
/-
  Each operation of the model does what its function on ideal memory says: loads, stores, places, new blocks, numbers.
-/
namespace Go.Proofs.Ytdnnojblneccdaa
set_option linter.unusedSimpArgs false
set_option linter.unusedVariables false
open Go
section
variable {P : Program} {D : Ty} {ρ : Ren} {H : IHeap} {w : World} {n : Nat}
theorem Runs.val (hb : Below n ρ) (hh : HR ρ H w) {s : Sem Value} {v v' : Value} {e : Eff} (he : val n v = some e) (hv : VR ρ v v') (hs : s.run P w = .ok v' w) : Runs P s ρ H n e w := by
  cases he
  exact ⟨v', w, ρ, hs, Post.pure hb hh hv⟩
theorem ptr_inv {id off : Nat} {x : Value} (h : VR ρ (.pointer (some ⟨id, off, none⟩)) x) : ∃ r κ, ρ id = some (r, κ) ∧ x = .pointer (some ⟨r, off, none⟩) := by
  cases h with | ptr _ h => exact ⟨_, _, h, rfl⟩
theorem int_inv {k : IntKind} {i : Int} {x : Value} (h : VR ρ (.int k i) x) : x = .int k i := by cases h; rfl
theorem bool_inv {b : Bool} {x : Value} (h : VR ρ (.bool b) x) : x = .bool b := by cases h; rfl
theorem str_inv {s : ByteArray} {x : Value} (h : VR ρ (.string s) x) : x = .string s := by cases h; rfl
theorem ok_load (hD : DOk P D) (hb : Below n ρ) (hh : HR ρ H w) {t : TypeId} {x x' : Value} {ef : Eff} (h : doLoad D H n t x = some ef) (hx : VR ρ x x') :
    Runs P (Instr.loadAt t x') ρ H n ef w := by
  unfold doLoad at h
  split at h
  · rename_i id off
    simp only [Option.bind_eq_some_iff] at h
    obtain ⟨d, hd, h⟩ := h
    split at h
    · rename_i c ro ho
      simp only [Option.bind_eq_some_iff] at h
      obtain ⟨v, hv, he⟩ := h
      obtain ⟨r, κ, h1, rfl⟩ := ptr_inv hx
      obtain ⟨v', e1, e2⟩ := run_rdVar hD hh ho hd hv hx
      exact Runs.val hb hh he e2 (by simp [Instr.loadAt, Instr.sureAddr, e1])
    · cases h
  · cases h
theorem ok_store (hD : DOk P D) (hb : Below n ρ) (hh : HR ρ H w) {t : TypeId} {x x' y y' : Value} {ef : Eff} (h : doStore D H n t y x = some ef) (hx : VR ρ x x') (hy : VR ρ y y') :
    ∃ w' ρ', (Instr.storeAt t x' y').run P w = .ok () w' ∧ Post ρ H n ef undef ρ' w w' := by
  unfold doStore at h
  split at h
  · rename_i id off
    simp only [Option.bind_eq_some_iff] at h
    obtain ⟨d, hd, h⟩ := h
    split at h
    · rename_i c ho
      simp only [Option.bind_eq_some_iff] at h
      obtain ⟨vs, hvs, h⟩ := h
      split at h
      · rename_i hc
        obtain ⟨c1, c2, c3⟩ := hc
        cases h
        obtain ⟨r, κ, h1, rfl⟩ := ptr_inv hx
        obtain ⟨r', κ', c', T, fz, g1, g2, g3, g4, g5, g6⟩ := hh.row ho
        rw [h1] at g1; cases g1
        obtain ⟨z1, z2⟩ := hy.cells hvs
        have hone : ∀ v ∈ y'.cells.toList, known v = true := by
          intro v hv
          obtain ⟨i, hi⟩ := List.getElem?_of_mem hv
          have hlt : i < vs.length := by
            have : i < y'.cells.toList.length := (List.getElem?_eq_some_iff.1 hi).1
            simp at this; omega
          obtain ⟨y2, e1, e2⟩ := z2 i vs[i] (by simp)
          have : v = y2 := by
            have hi' : y'.cells[i]? = some v := by simpa using hi
            rw [hi'] at e1; cases e1; rfl
          subst this
          exact e2.known ((List.all_eq_true.1 c3) _ (List.getElem_mem _))
        obtain ⟨w', c'', e1, e2, e3, e4, e5, e6, e7, e8, e9⟩ := run_storeCells_row (P := P) y'.cells.toList 0 w r off c' T fz g2 (by rw [g3]; exact g5 rfl) (by simp; omega) hone
        refine ⟨w', ρ, ?_, ?_⟩
        · simp [Instr.storeAt, Instr.sureAddr, storeVar, run_size hD hd, z1, c1, e1]
        · refine Post.store hb hh ho h1 (T := T) (fz := fz) (g5 rfl) e2 (by rw [e3, g3]) ?_ ?_ e5 e6 e7 e8 e9 (.unk _)
          · rw [wrCells_eq _ _ _ (by omega), length_splice _ _ _ (by omega)]; exact g4
          · intro i v hv
            rw [wrCells_eq _ _ _ (by omega), getElem?_splice _ _ _ (by omega)] at hv
            rw [e4 i]
            simp only [Nat.add_zero, Array.length_toList, z1]
            split at hv
            · rename_i hc; rw [if_pos hc]
              obtain ⟨y2, a, b⟩ := z2 _ _ hv
              exact ⟨y2, by simpa using a, b⟩
            · rename_i hc; rw [if_neg hc]
              exact g6 i v hv
      · cases h
    · cases h
  · cases h
/-- a new row out of related cells -/
theorem ok_newRow (hb : Below n ρ) (hh : HR ρ H w) {c : List Value} {c' : Array Value} (T : TypeId) (hs : c.length = c'.size)
    (hc : ∀ (i : Nat) v, c[i]? = some v → ∃ v', c'[i]? = some v' ∧ VR ρ v v') :
    (newRow T c').run P w = .ok ⟨w.heap.size, 0, none⟩ (w.alloc (.cells c' T)) ∧
      ∀ v v', VR (ρ.set n w.heap.size c'.size) v v' → Post ρ H n ⟨v, [(n, some (.cells c false))], n + 1⟩ v' (ρ.set n w.heap.size c'.size) w (w.alloc (.cells c' T)) :=
  ⟨by simp [newRow, newObj]; rfl, fun _ _ hv => Post.alloc hb hh (Nat.le_of_eq hs) hc hv⟩
theorem clo_list {l : List Value} (h : l.all clo1 = true) (ρ : Ren) (i : Nat) (v : Value) (hv : l[i]? = some v) : VR ρ v v :=
  VR.clo1 ρ ((List.all_eq_true.1 h) v (List.mem_of_getElem? hv))
theorem ok_alloc (hD : DOk P D) (hb : Below n ρ) (hh : HR ρ H w) {t : TypeId} {ef : Eff} (h : ((D t).bind fun d => new n d.zero (.pointer (some ⟨n, 0, none⟩))) = some ef) :
    Runs P (Instr.alloc t true (.tuple #[])) ρ H n ef w := by
  simp only [Option.bind_eq_some_iff] at h
  obtain ⟨d, hd, h⟩ := h
  cases h
  obtain ⟨z, h1, h2, h3, h4⟩ := run_zero hD hd w
  obtain ⟨e1, e2⟩ := ok_newRow (P := P) (c := d.zero) (c' := z.cells) (T := t) hb hh (by rw [← h2]; simp) (by
    intro i v hv
    rw [← h2] at hv
    exact ⟨v, by simpa using hv, clo_list h3 ρ i v hv⟩)
  exact ⟨.pointer (some ⟨w.heap.size, 0, none⟩), _, _, by simp [Instr.alloc, h1, newVar, e1], e2 _ _ (.ptr 0 (κ := z.cells.size) (by simp [Ren.set]))⟩
theorem ok_box (hb : Below n ρ) (hh : HR ρ H w) {t : TypeId} {x x' : Value} {ef : Eff} (h : ((cellsOf x).bind fun cs => new n cs (.pointer (some ⟨n, 0, none⟩))) = some ef) (hx : VR ρ x x') :
    Runs P (Instr.box t x') ρ H n ef w := by
  simp only [Option.bind_eq_some_iff] at h
  obtain ⟨cs, hcs, h⟩ := h
  cases h
  obtain ⟨z1, z2⟩ := hx.cells hcs
  obtain ⟨e1, e2⟩ := ok_newRow (P := P) (c := cs) (c' := x'.cells) (T := t) hb hh z1.symm z2
  exact ⟨.pointer (some ⟨w.heap.size, 0, none⟩), _, _, by simp [Instr.box, newVar, e1], e2 _ _ (.ptr 0 (κ := x'.cells.size) (by simp [Ren.set]))⟩
/-- parts put into cells -/
theorem fill_ok {place : Nat → Option (Nat × Nat)} : ∀ (parts : List (Nat × Value)) (parts' : List (Nat × Value)) (c out : List Value) (c' : Array Value),
    fillIn place c parts = some out → parts.length = parts'.length → (∀ (j : Nat) p q, parts[j]? = some p → parts'[j]? = some q → p.1 = q.1 ∧ VR ρ p.2 q.2) →
    c.length = c'.size → (∀ (i : Nat) v, c[i]? = some v → ∃ v', c'[i]? = some v' ∧ VR ρ v v') →
    ∃ out', Instr.fill place c' parts' = some out' ∧ out.length = out'.size ∧ ∀ (i : Nat) v, out[i]? = some v → ∃ v', out'[i]? = some v' ∧ VR ρ v v'
  | [], [], c, out, c', h, _, _, hs, hc => by
    simp only [fillIn, Option.some.injEq] at h; subst h
    exact ⟨c', rfl, hs, hc⟩
  | [], _ :: _, _, _, _, _, h, _, _, _ => by simp at h
  | _ :: _, [], _, _, _, _, h, _, _, _ => by simp at h
  | (i, v) :: parts, (i', v') :: parts', c, out, c', h, hl, hp, hs, hc => by
    obtain ⟨hi, hv⟩ := hp 0 (i, v) (i', v') rfl rfl
    simp only at hi hv
    subst hi
    simp only [fillIn] at h
    split at h
    · rename_i off size vs e1 e2
      split at h
      · rename_i hcond
        obtain ⟨z1, z2⟩ := hv.cells e2
        have hfold : ∀ (l : List Value) (k : Nat) (a : Array Value), off + k + l.length ≤ a.size →
            ((l.zipIdx k).foldl (fun cs (p : Value × Nat) => cs.setIfInBounds (off + p.2) p.1) a).size = a.size ∧
            ∀ j : Nat, ((l.zipIdx k).foldl (fun cs (p : Value × Nat) => cs.setIfInBounds (off + p.2) p.1) a)[j]? = if off + k ≤ j ∧ j < off + k + l.length then l[j - (off + k)]? else a[j]? := by
          intro l
          induction l with
          | nil => intro k a _; refine ⟨by simp, fun j => ?_⟩; rw [if_neg (by simp only [List.length_nil]; omega)]; simp
          | cons x l ih =>
            intro k a hle
            have hle' : off + k + (l.length + 1) ≤ a.size := by simpa using hle
            have hz : ((x :: l).zipIdx k).foldl (fun cs (p : Value × Nat) => cs.setIfInBounds (off + p.2) p.1) a =
                (l.zipIdx (k + 1)).foldl (fun cs (p : Value × Nat) => cs.setIfInBounds (off + p.2) p.1) (a.setIfInBounds (off + k) x) := by
              simp [List.zipIdx_cons]
            obtain ⟨s1, s2⟩ := ih (k + 1) (a.setIfInBounds (off + k) x) (by simp; omega)
            rw [hz]
            refine ⟨by simpa using s1, fun j => ?_⟩
            rw [s2 j]
            by_cases hj : off + (k + 1) ≤ j ∧ j < off + (k + 1) + l.length
            · rw [if_pos hj, if_pos (by simp; omega), show j - (off + k) = (j - (off + (k + 1))) + 1 from by omega, List.getElem?_cons_succ]
            · rw [if_neg hj, Array.getElem?_setIfInBounds]
              by_cases hji : off + k = j
              · rw [if_pos hji, if_pos (by omega), if_pos (by simp; omega), show j - (off + k) = 0 from by omega]; rfl
              · rw [if_neg hji, if_neg (by simp; omega)]
        obtain ⟨s1, s2⟩ := hfold v'.cells.toList 0 c' (by simp; omega)
        have hsz : v'.cells.size = size := by omega
        obtain ⟨out', g1, g2, g3⟩ := fill_ok parts parts' (wrCells c off vs) out ((v'.cells.toList.zipIdx 0).foldl (fun cs (p : Value × Nat) => cs.setIfInBounds (off + p.2) p.1) c') h (by simpa using hl)
          (fun j p q hj hq => hp (j + 1) p q (by simpa using hj) (by simpa using hq))
          (by rw [s1, wrCells_eq _ _ _ (by omega), length_splice _ _ _ (by omega)]; exact hs)
          (by
            intro j x hx
            rw [wrCells_eq _ _ _ (by omega), getElem?_splice _ _ _ (by omega)] at hx
            rw [s2 j]
            simp only [Nat.add_zero, Array.length_toList, z1]
            split at hx
            · rename_i hc2; rw [if_pos hc2]
              obtain ⟨y2, a, b⟩ := z2 _ _ hx
              exact ⟨y2, by simpa using a, b⟩
            · rename_i hc2; rw [if_neg hc2]
              exact hc j x hx)
        refine ⟨out', ?_, g2, g3⟩
        simp only [Instr.fill, e1]
        rw [if_neg (by simp only [ne_eq, decide_not, Bool.or_eq_true, Bool.not_eq_true', decide_eq_false_iff_not, decide_eq_true_eq, not_or, Decidable.not_not]; exact ⟨by omega, by omega⟩)]
        rw [← Array.foldl_toList, Array.toList_zipIdx]
        exact g1
      · cases h
    · cases h
end
end Go.Proofs.Ytdnnojblneccdaa
/-
  Each operation of the model does what its function on ideal memory says: structs, arrays, slices, numbers, conversions.
-/
namespace Go.Proofs.Ytdnnojblneccdaa
set_option linter.unusedSimpArgs false
set_option linter.unusedVariables false
open Go
section
variable {P : Program} {D : Ty} {ρ : Ren} {H : IHeap} {w : World} {n : Nat}
theorem und_struct (hD : DOk P D) {t : TypeId} {d : TD} {fs : List (Nat × Nat)} (hd : D t = some d) (hk : d.k = .struct fs) (w : World) :
    ∃ a : Array Field, P.underlying t = some (.struct a) ∧ (underlying t).run P w = .ok (.struct a) w ∧ a.toList.map (fun f => (f.offset, f.type)) = fs := by
  obtain ⟨u, h1, h2, h3⟩ := run_und hD hd w
  rw [hk] at h3
  obtain ⟨a, rfl, h4⟩ := h3
  exact ⟨a, h2, h1, h4⟩
theorem und_arr (hD : DOk P D) {t : TypeId} {d : TD} {k e : Nat} (hd : D t = some d) (hk : d.k = .arr k e) (w : World) : (underlying t).run P w = .ok (.array k e) w := by
  obtain ⟨u, h1, h2, h3⟩ := run_und hD hd w
  rw [hk] at h3; simp only [TK.fits] at h3; subst h3; exact h1
theorem und_slice (hD : DOk P D) {t : TypeId} {d : TD} {e : Nat} (hd : D t = some d) (hk : d.k = .slice e) (w : World) : (underlying t).run P w = .ok (.slice e) w := by
  obtain ⟨u, h1, h2, h3⟩ := run_und hD hd w
  rw [hk] at h3; simp only [TK.fits] at h3; subst h3; exact h1
theorem und_map (hD : DOk P D) {t : TypeId} {d : TD} {k e : Nat} (hd : D t = some d) (hk : d.k = .map k e) (w : World) : (underlying t).run P w = .ok (.map k e) w := by
  obtain ⟨u, h1, h2, h3⟩ := run_und hD hd w
  rw [hk] at h3; simp only [TK.fits] at h3; subst h3; exact h1
theorem und_str (hD : DOk P D) {t : TypeId} {d : TD} (hd : D t = some d) (hk : d.k = .str) (w : World) : (underlying t).run P w = .ok .string w := by
  obtain ⟨u, h1, h2, h3⟩ := run_und hD hd w
  rw [hk] at h3; simp only [TK.fits] at h3; subst h3; exact h1
theorem und_int (hD : DOk P D) {t : TypeId} {d : TD} {k : IntKind} (hd : D t = some d) (hk : d.k = .int k) (w : World) : (underlying t).run P w = .ok (.int k) w := by
  obtain ⟨u, h1, h2, h3⟩ := run_und hD hd w
  rw [hk] at h3; simp only [TK.fits] at h3; subst h3; exact h1
theorem rel_fill {e e' : Operand → Value} {parts : Array (Nat × Operand)} (hv : ∀ x ∈ parts.toList.map (·.2), VR ρ (e x) (e' x)) :
    (parts.toList.map fun p => (p.1, e p.2)).length = (parts.map fun (i, x) => (i, e' x)).toList.length ∧
    ∀ (j : Nat) p q, (parts.toList.map fun p => (p.1, e p.2))[j]? = some p → (parts.map fun (i, x) => (i, e' x)).toList[j]? = some q → p.1 = q.1 ∧ VR ρ p.2 q.2 := by
  refine ⟨by simp, fun j p q hp hq => ?_⟩
  simp only [List.getElem?_map, Option.map_eq_some_iff, Array.getElem?_toList] at hp
  obtain ⟨⟨i, x⟩, hi, rfl⟩ := hp
  simp only [Array.toList_map, List.getElem?_map, Array.getElem?_toList, hi, Option.map_some, Option.some.injEq] at hq
  subst hq
  exact ⟨rfl, hv x (List.mem_map.2 ⟨(i, x), List.mem_of_getElem? (by simpa using hi), rfl⟩)⟩
theorem run_places (hD : DOk P D) : ∀ (l : List Field) (w : World) (_ : ∀ f ∈ l, (D f.type).isSome),
    ∃ ps : List (Nat × Nat), (l.mapM fun (f : Field) => (do pure (f.offset, ← sizeOf f.type) : Sem (Nat × Nat))).run P w = .ok ps w ∧ ps = l.map fun f => (f.offset, ((D f.type).map (·.size)).getD 0)
  | [], w, _ => ⟨[], by simp, rfl⟩
  | f :: l, w, h => by
    obtain ⟨ps, h1, h2⟩ := run_places hD l w (fun g hg => h g (List.mem_cons_of_mem _ hg))
    obtain ⟨d, hd⟩ := Option.isSome_iff_exists.1 (h f List.mem_cons_self)
    exact ⟨(f.offset, d.size) :: ps, by simp only [List.mapM_cons, Sem.run_bind, run_size hD hd, Result.andThen_ok, Sem.run_pure, h1], by simp [h2, hd]⟩
/-- all fields' types are known -/
def fieldsKnown (D : Ty) (t : TypeId) : Bool := match D t with | some d => (match d.k with | .struct fs => fs.all fun f => (D f.2).isSome | _ => true) | none => true
theorem ok_build (hD : DOk P D) (hF : ∀ t, fieldsKnown D t = true) (hb : Below n ρ) (hh : HR ρ H w) {t : TypeId} {e e' : Operand → Value} {parts : Array (Nat × Operand)} {ef : Eff}
    (hp : iop D (fun _ => none) e H n (.build t parts) = some ef) (hv : ∀ x ∈ parts.toList.map (·.2), VR ρ (e x) (e' x)) :
    Runs P (Instr.build t (parts.map fun (i, x) => (i, e' x))) ρ H n ef w := by
  simp only [iop, Option.bind_eq_some_iff] at hp
  obtain ⟨d, hd, hp⟩ := hp
  obtain ⟨z, h1, h2, h3, h4⟩ := run_zero hD hd w
  obtain ⟨f1, f2⟩ := rel_fill (ρ := ρ) hv
  split at hp
  · rename_i fs hk
    simp only [Option.bind_eq_some_iff] at hp
    obtain ⟨cs, hcs, he⟩ := hp
    obtain ⟨a, u1, u2, u3⟩ := und_struct hD hd hk w
    have hall : ∀ f ∈ a.toList, (D f.type).isSome := by
      intro f hf
      have := hF t
      simp only [fieldsKnown, hd, hk, ← u3, List.all_map, List.all_eq_true, Function.comp] at this
      exact this f hf
    obtain ⟨ps, p1, p2⟩ := run_places hD a.toList w hall
    have hps : (a.mapM fun (f : Field) => (do pure (f.offset, ← sizeOf f.type) : Sem (Nat × Nat))).run P w = .ok ps.toArray w := by
      rw [Array.mapM_eq_mapM_toList]
      simp only [Sem.run_map, p1]; rfl
    obtain ⟨out', g1, g2, g3⟩ := fill_ok (ρ := ρ) (place := fun (i : Nat) => fs[i]?.bind fun (f : Nat × Nat) => (D f.2).map fun df => (f.1, df.size)) _ (parts.map fun (i, x) => (i, e' x)).toList d.zero cs z.cells hcs f1 f2
      (by rw [← h2]; simp) (by intro i v hv; rw [← h2] at hv; exact ⟨v, by simpa using hv, clo_list h3 ρ i v hv⟩)
    have hpl : (fun i => ps.toArray[i]?) = fun (i : Nat) => fs[i]?.bind fun (f : Nat × Nat) => (D f.2).map fun df => (f.1, df.size) := by
      funext i
      rw [p2, ← u3]
      simp only [List.getElem?_toArray, List.getElem?_map]
      cases ha : a.toList[i]? with
      | none => simp
      | some f =>
        obtain ⟨df, hdf⟩ := Option.isSome_iff_exists.1 (hall f (List.mem_of_getElem? ha))
        simp [hdf]
    refine Runs.val (v' := .agg out') hb hh he (.agg (by simpa using g2) fun i x y hx hy => ?_) ?_
    · obtain ⟨y', q1, q2⟩ := g3 i x (by simpa using hx)
      rw [hy] at q1; cases q1; exact q2
    · rw [← hpl] at g1
      simp only [Instr.build, Sem.run_bind, h1, Result.andThen_ok, u2, hps]
      simp only [g1]; rfl
  · rename_i len el hk
    simp only [Option.bind_eq_some_iff] at hp
    obtain ⟨de, hde, cs, hcs, he⟩ := hp
    obtain ⟨out', g1, g2, g3⟩ := fill_ok (ρ := ρ) (place := fun i => some (i * de.size, de.size)) _ (parts.map fun (i, x) => (i, e' x)).toList d.zero cs z.cells hcs f1 f2
      (by rw [← h2]; simp) (by intro i v hv; rw [← h2] at hv; exact ⟨v, by simpa using hv, clo_list h3 ρ i v hv⟩)
    refine Runs.val (v' := .agg out') hb hh he (.agg (by simpa using g2) fun i x y hx hy => ?_) ?_
    · obtain ⟨y', q1, q2⟩ := g3 i x (by simpa using hx)
      rw [hy] at q1; cases q1; exact q2
    · simp only [Instr.build, Sem.run_bind, h1, Result.andThen_ok, und_arr hD hd hk, run_size hD hde]
      simp only [g1]; rfl
  · cases hp
theorem zeros_eq (z : Array Value) (k : Nat) : ((Array.range (k * z.size)).map (fun i => z[i % z.size]!)).toList = (List.replicate k z.toList).flatten := by
  rcases Nat.eq_zero_or_pos z.size with h0 | h0
  · have : z = #[] := Array.eq_empty_of_size_eq_zero h0
    subst this; simp
  refine List.ext_getElem (by simp) fun i h1 h2 => ?_
  have hi : i < k * z.size := by simpa using h1
  simp only [Array.toList_map, Array.toList_range, List.getElem_map, List.getElem_range]
  have key : ∀ (k i : Nat) (hi : i < (List.replicate k z.toList).flatten.length), ((List.replicate k z.toList).flatten)[i]? = z.toList[i % z.size]? := by
    intro k
    induction k with
    | zero => intro i hi; simp at hi
    | succ k ih =>
      intro i hi
      simp only [List.replicate_succ, List.flatten_cons] at hi ⊢
      by_cases hlt : i < z.size
      · rw [List.getElem?_append_left (by simpa using hlt), Nat.mod_eq_of_lt hlt]
      · rw [List.getElem?_append_right (by simp; omega)]
        rw [ih (i - z.toList.length) (by simp at hi ⊢; omega)]
        congr 1
        simp only [Array.length_toList]
        exact (Nat.mod_eq_sub_mod (by omega)).symm
  have hm : i % z.size < z.size := Nat.mod_lt _ h0
  have e := key k i h2
  rw [List.getElem?_eq_getElem h2] at e
  simp only [Array.getElem?_toList, Array.getElem?_eq_getElem hm, Option.some.injEq] at e
  rw [e, getElem!_pos z (i % z.size) hm]
theorem mem_rep {z : List Value} (hz : z.all clo1 = true) (k : Nat) : ((List.replicate k z).flatten).all clo1 = true := by
  simp only [List.all_eq_true, List.mem_flatten, List.mem_replicate] at hz ⊢
  rintro x ⟨l, ⟨_, rfl⟩, hx⟩
  exact hz x hx
theorem zeroRow (hD : DOk P D) {el : TypeId} {de : TD} (hde : D el = some de) (k : Nat) (w : World) :
    ∃ z : Value, (zeroValue el).run P w = .ok z w ∧ ((Array.range (k * de.size)).map (fun i => z.cells[i % z.cells.size]!)).toList = (List.replicate k de.zero).flatten ∧
      (k * de.size = 0 → (List.replicate k de.zero).flatten = []) ∧ de.zero.all clo1 = true := by
  obtain ⟨z, h1, h2, h3, h4⟩ := run_zero hD hde w
  have hlen : de.zero.length = de.size := (hD _ _ hde).zlen
  have hz : z.cells.size = de.size := by rw [← hlen, ← h2]; simp
  refine ⟨z, h1, ?_, ?_, by rw [← h2]; exact h3⟩
  · rw [← hz, zeros_eq, h2]
  · intro hk
    rcases Nat.mul_eq_zero.1 hk with h | h
    · subst h; simp
    · have : de.zero = [] := List.eq_nil_of_length_eq_zero (hlen.trans h)
      rw [this]; simp
theorem ok_buildSlice (hD : DOk P D) (hb : Below n ρ) (hh : HR ρ H w) {t : TypeId} {len : Nat} {e e' : Operand → Value} {parts : Array (Nat × Operand)} {ef : Eff}
    (hp : iop D (fun _ => none) e H n (.buildSlice t len parts) = some ef) (hv : ∀ x ∈ parts.toList.map (·.2), VR ρ (e x) (e' x)) :
    Runs P (Instr.buildSlice t len (parts.map fun (i, x) => (i, e' x))) ρ H n ef w := by
  simp only [iop, Option.bind_eq_some_iff] at hp
  obtain ⟨d, hd, hp⟩ := hp
  obtain ⟨f1, f2⟩ := rel_fill (ρ := ρ) hv
  split at hp
  · rename_i el hk
    simp only [Option.bind_eq_some_iff] at hp
    obtain ⟨de, hde, hp⟩ := hp
    split at hp
    · rename_i hle
      simp only [Option.bind_eq_some_iff] at hp
      obtain ⟨cs, hcs, he⟩ := hp
      cases he
      obtain ⟨z, r1, r2, r3, r4⟩ := zeroRow (P := P) hD hde len w
      by_cases hz : len * de.size = 0
      · obtain ⟨out', g1, g2, g3⟩ := fill_ok (ρ := ρ) (place := fun i => some (i * de.size, de.size)) _ (parts.map fun (i, x) => (i, e' x)).toList _ cs #[] hcs f1 f2
          (by rw [r3 hz]; rfl) (by intro i v hv; rw [r3 hz] at hv; simp at hv)
        obtain ⟨e1, e2⟩ := ok_newRow (P := P) (T := el) hb hh g2 g3
        refine ⟨.slice (some ⟨w.heap.size, 0, none⟩) len len, _, _, ?_, e2 _ _ (.slice 0 len len (κ := out'.size) (by simp [Ren.set]))⟩
        simp only [Instr.buildSlice, Sem.run_bind, und_slice hD hd hk, Result.andThen_ok, run_size hD hde]
        rw [if_neg (by omega), if_pos hz]
        simp only [Sem.run_bind, Result.andThen_ok, Sem.run_pure, hz]
        have : (Array.range 0).map (fun x => (#[] : Array Value)[x % (#[] : Array Value).size]!) = #[] := by simp
        rw [this]
        simp only [g1, Sem.run_bind, e1, Result.andThen_ok]; rfl
      · obtain ⟨out', g1, g2, g3⟩ := fill_ok (ρ := ρ) (place := fun i => some (i * de.size, de.size)) _ (parts.map fun (i, x) => (i, e' x)).toList _ cs
          ((Array.range (len * de.size)).map (fun i => z.cells[i % z.cells.size]!)) hcs f1 f2
          (by rw [← r2]; simp) (by intro i v hv; exact ⟨v, by rw [← r2, Array.getElem?_toList] at hv; exact hv, clo_list (mem_rep r4 len) ρ i v hv⟩)
        obtain ⟨e1, e2⟩ := ok_newRow (P := P) (T := el) hb hh g2 g3
        refine ⟨.slice (some ⟨w.heap.size, 0, none⟩) len len, _, _, ?_, e2 _ _ (.slice 0 len len (κ := out'.size) (by simp [Ren.set]))⟩
        simp only [Instr.buildSlice, Sem.run_bind, und_slice hD hd hk, Result.andThen_ok, run_size hD hde]
        rw [if_neg (by omega), if_neg hz]
        simp only [Sem.run_bind, r1, Result.andThen_ok, Sem.run_pure]
        simp only [g1, Sem.run_bind, e1, Result.andThen_ok]; rfl
    · cases hp
  · cases hp
theorem part_run (hD : DOk P D) {ft : TypeId} {df : TD} (hd : D ft = some df) {a b : Array Value} (hs : a.size = b.size) (hr : ∀ (i : Nat) x y, a[i]? = some x → b[i]? = some y → VR ρ x y) {off : Nat} {v : Value}
    (hv : rdVar df a.toList off = some v) (w : World) : ∃ v', (part ft b off).run P w = .ok v' w ∧ VR ρ v v' := by
  unfold rdVar at hv
  cases hg : df.k.isAgg with
  | true =>
    simp only [hg, if_true] at hv
    split at hv
    · rename_i hle
      cases hv
      refine ⟨.agg (b.extract off (off + df.size)), by simp [part, run_isAgg hD hd, hg, run_size hD hd], .agg (by simp at hle ⊢; omega) fun i x y hx hy => ?_⟩
      simp only [List.getElem?_toArray, List.getElem?_take, List.getElem?_drop, Array.getElem?_toList] at hx
      simp only [Array.getElem?_extract] at hy
      split at hx
      · split at hy
        · exact hr _ _ _ hx hy
        · cases hy
      · cases hx
    · cases hv
  | false =>
    simp only [hg, Bool.false_eq_true, if_false, Array.getElem?_toList] at hv
    have hlt : off < a.size := by
      rcases Nat.lt_or_ge off a.size with h | h
      · exact h
      · rw [Array.getElem?_eq_none h] at hv; cases hv
    have hb : b[off]? = some b[off] := by simp
    exact ⟨b[off], by simp [part, run_isAgg hD hd, hg, hb], hr _ _ _ hv hb⟩
theorem field_at (hD : DOk P D) {t : TypeId} {f o ft : Nat} (h : doField D t f = some (o, ft)) (w : World) :
    ∃ (a : Array Field) (g : Field), (underlying t).run P w = .ok (.struct a) w ∧ a[f]? = some g ∧ g.offset = o ∧ g.type = ft := by
  simp only [doField, Option.bind_eq_some_iff] at h
  obtain ⟨d, hd, h⟩ := h
  split at h
  · rename_i fs hk
    obtain ⟨a, u1, u2, u3⟩ := und_struct hD hd hk w
    rw [← u3] at h
    simp only [List.getElem?_map, Option.map_eq_some_iff, Array.getElem?_toList] at h
    obtain ⟨g, hg, e⟩ := h
    cases e
    exact ⟨a, g, u2, hg, rfl, rfl⟩
  · cases h
theorem agg_inv {a : Array Value} {x : Value} (h : VR ρ (.agg a) x) : ∃ b, x = .agg b ∧ a.size = b.size ∧ ∀ (i : Nat) x y, a[i]? = some x → b[i]? = some y → VR ρ x y := by
  cases h with | agg hs h => exact ⟨_, rfl, hs, h⟩
theorem ok_fieldAddr (hD : DOk P D) (hb : Below n ρ) (hh : HR ρ H w) {t : TypeId} {f : Nat} {x x' : Value} {ef : Eff}
    (h : (match x, doField D t f with
      | .pointer (some ⟨id, off, none⟩), some (o, ft) => (D ft).bind fun df => if df.size = 0 then none else val n (.pointer (some ⟨id, off + o, none⟩))
      | _, _ => none) = some ef) (hx : VR ρ x x') : Runs P (Instr.fieldAt t x' f) ρ H n ef w := by
  split at h
  · rename_i id off o ft hf
    have hx := ‹VR ρ _ x'›
    simp only [Option.bind_eq_some_iff] at h
    obtain ⟨df, hdf, h⟩ := h
    split at h
    · cases h
    · rename_i hne
      obtain ⟨r, κ, h1, rfl⟩ := ptr_inv hx
      obtain ⟨a, g, u1, u2, u3, u4⟩ := field_at (P := P) hD hf w
      subst u4
      exact Runs.val hb hh h (.ptr (off + o) h1) (by simp [Instr.fieldAt, u1, u2, Instr.sureAddr, fieldPlace, run_size hD hdf, hne, u3, addr_add])
  · cases h
theorem ok_field (hD : DOk P D) (hb : Below n ρ) (hh : HR ρ H w) {t : TypeId} {f : Nat} {x x' : Value} {ef : Eff}
    (h : (match x, doField D t f with
      | .agg cs, some (o, ft) => (D ft).bind fun df => (rdVar df cs.toList o).bind fun v => val n v
      | _, _ => none) = some ef) (hx : VR ρ x x') : Runs P (Instr.field t x' f) ρ H n ef w := by
  split at h
  · rename_i cs o ft hf
    have hx := ‹VR ρ _ x'›
    simp only [Option.bind_eq_some_iff] at h
    obtain ⟨df, hdf, v, hv, h⟩ := h
    obtain ⟨b, rfl, hs, hr⟩ := agg_inv hx
    obtain ⟨a, g, u1, u2, u3, u4⟩ := field_at (P := P) hD hf w
    subst u4; subst u3
    obtain ⟨v', p1, p2⟩ := part_run (P := P) hD hdf hs hr hv w
    exact Runs.val hb hh h p2 (by simp [Instr.field, u1, u2, asAgg, p1])
  · cases h
end
end Go.Proofs.Ytdnnojblneccdaa
/-
  Numbers, comparisons, slices, places in rows.
-/
namespace Go.Proofs.Ytdnnojblneccdaa
set_option linter.unusedSimpArgs false
set_option linter.unusedVariables false
open Go
/-- values of this type may be held against each other, cell by cell -/
structure EqT (P : Program) (t : TypeId) (ks : List TK) : Prop where
  guard : P.eqGuardType P.depth t = false
  run : ∀ (dd : Nat) (w : World) (xs ys : Array Value) (b : Bool), 30 ≤ dd → cellsEq ks xs.toList ys.toList = some b → (Op.equalIn dd t (.agg xs) (.agg ys)).run P w = .ok b w
def KOk (P : Program) (K : Kinds) : Prop := ∀ t ks, K t = some ks → EqT P t ks
theorem cellEq_rel {ρ : Ren} {k : TK} {x y x' y' : Value} {b : Bool} (h : cellEq k x y = some b) (hx : VR ρ x x') (hy : VR ρ y y') : cellEq k x' y' = some b := by
  unfold cellEq at h
  split at h
  · cases hx; cases hy; exact h
  · cases hx; cases hy; exact h
  · cases hx; cases hy; exact h
  · cases h
theorem cellsEq_rel {ρ : Ren} : ∀ {ks : List TK} {xs ys xs' ys' : List Value} {b : Bool}, cellsEq ks xs ys = some b → xs.length = xs'.length → ys.length = ys'.length →
    (∀ (i : Nat) x y, xs[i]? = some x → xs'[i]? = some y → VR ρ x y) → (∀ (i : Nat) x y, ys[i]? = some x → ys'[i]? = some y → VR ρ x y) → cellsEq ks xs' ys' = some b
  | [], [], [], [], [], _, h, _, _, _, _ => h
  | k :: ks, x :: xs, y :: ys, x' :: xs', y' :: ys', b, h, h1, h2, h3, h4 => by
    simp only [cellsEq, Option.bind_eq_some_iff, Option.map_eq_some_iff] at h ⊢
    obtain ⟨a, ha, c, hc, rfl⟩ := h
    exact ⟨a, cellEq_rel ha (h3 0 _ _ rfl rfl) (h4 0 _ _ rfl rfl), c,
      cellsEq_rel hc (by simpa using h1) (by simpa using h2) (fun i x y e f => h3 (i + 1) x y (by simpa using e) (by simpa using f)) (fun i x y e f => h4 (i + 1) x y (by simpa using e) (by simpa using f)), rfl⟩
  | [], [], [], _ :: _, _, _, _, h, _, _, _ => by simp at h
  | [], [], [], _, _ :: _, _, _, _, h, _, _ => by simp at h
  | [], _ :: _, _, _, _, _, h, _, _, _, _ => by simp [cellsEq] at h
  | [], [], _ :: _, _, _, _, h, _, _, _, _ => by simp [cellsEq] at h
  | _ :: _, [], _, _, _, _, h, _, _, _, _ => by simp [cellsEq] at h
  | _ :: _, _ :: _, [], _, _, _, h, _, _, _, _ => by simp [cellsEq] at h
  | _ :: _, _ :: _, _ :: _, [], _, _, _, h, _, _, _ => by simp at h
  | _ :: _, _ :: _, _ :: _, _ :: _, [], _, _, _, h, _, _ => by simp at h
section
variable {P : Program} {D : Ty} {K : Kinds} {ρ : Ren} {H : IHeap} {w : World} {n : Nat}
theorem eqIn_ptrL (d : Nat) {t e : TypeId} (h : P.underlying t = some (.pointer e)) (b : Option Addr) : (Op.equalIn (d + 1) t (.pointer none) (.pointer b)).run P w = .ok b.isNone w := by
  simp [Op.equalIn, run_underlying h]
theorem eqIn_ptrR (d : Nat) {t e : TypeId} (h : P.underlying t = some (.pointer e)) (b : Option Addr) : (Op.equalIn (d + 1) t (.pointer b) (.pointer none)).run P w = .ok b.isNone w := by
  cases b <;> simp [Op.equalIn, run_underlying h]
theorem eqIn_sliceL (d : Nat) {t e : TypeId} (h : P.underlying t = some (.slice e)) (b : Option Addr) (l c l' c' : Nat) : (Op.equalIn (d + 1) t (.slice none l c) (.slice b l' c')).run P w = .ok b.isNone w := by
  simp [Op.equalIn, run_underlying h]
theorem eqIn_sliceR (d : Nat) {t e : TypeId} (h : P.underlying t = some (.slice e)) (b : Option Addr) (l c l' c' : Nat) : (Op.equalIn (d + 1) t (.slice b l c) (.slice none l' c')).run P w = .ok b.isNone w := by
  cases b <;> simp [Op.equalIn, run_underlying h]
theorem eqIn_mapL (d : Nat) {t k e : TypeId} (h : P.underlying t = some (.map k e)) (b : Option Nat) : (Op.equalIn (d + 1) t (.map none) (.map b)).run P w = .ok b.isNone w := by
  simp [Op.equalIn, run_underlying h]
theorem eqIn_mapR (d : Nat) {t k e : TypeId} (h : P.underlying t = some (.map k e)) (b : Option Nat) : (Op.equalIn (d + 1) t (.map b) (.map none)).run P w = .ok b.isNone w := by
  cases b <;> simp [Op.equalIn, run_underlying h]
theorem equal_succ (t : TypeId) (x y : Value) : Op.equal t x y = Op.equalIn (9999 + 1) t x y := rfl
theorem ok_eq (hD : DOk P D) (hK : KOk P K) {t : TypeId} {x y x' y' : Value} {b : Bool} (h : eqOp D K t x y = some b) (hx : VR ρ x x') (hy : VR ρ y y') (op : BinOp) (o1 o2 : Operand) :
    (eqGuard op t o1 o2 x' y').run P w = .ok () w ∧ (Op.equal t x' y').run P w = .ok b w := by
  unfold eqOp at h
  split at h
  · simp only [Option.bind_eq_some_iff] at h
    obtain ⟨ks, hks, h⟩ := h
    obtain ⟨a', rfl, h1, h2⟩ := agg_inv hx
    obtain ⟨b', rfl, h3, h4⟩ := agg_inv hy
    have hE := hK t ks hks
    refine ⟨run_eqGuard_agg w op t o1 o2 a' b' hE.guard, ?_⟩
    exact hE.run 10000 w a' b' b (by omega) (cellsEq_rel h (by simpa using h1) (by simpa using h3) (fun i x y e f => h2 i x y (by simpa using e) (by simpa using f)) (fun i x y e f => h4 i x y (by simpa using e) (by simpa using f)))
  · simp only [Option.bind_eq_some_iff] at h
    obtain ⟨d, hd, h⟩ := h
    split at h
    · rename_i hk
      cases h
      cases hx; cases hy
      obtain ⟨u, u1, u2, u3⟩ := run_und hD hd w
      rw [hk] at u3; simp only [TK.fits] at u3; subst u3
      exact ⟨by cases op <;> simp [eqGuard], by rw [equal_succ]; exact run_equalIn_bool' w _ t _ _ u2⟩
    · cases h
  all_goals first
    | (cases h; done)
    | skip
  all_goals
    simp only [Option.bind_eq_some_iff] at h
    obtain ⟨d, hd, h⟩ := h
    split at h
    · rename_i hk
      cases h
      obtain ⟨u, u1, u2, u3⟩ := run_und hD hd w
      rw [hk] at u3; simp only [TK.fits] at u3; subst u3
      cases hx <;> cases hy <;>
        exact ⟨by cases op <;> simp [eqGuard], by
          rw [equal_succ]
          first
            | exact eqIn_ptrL _ u2 _
            | exact eqIn_ptrR _ u2 _
            | exact eqIn_sliceL _ u2 _ _ _ _ _
            | exact eqIn_sliceR _ u2 _ _ _ _ _
            | exact eqIn_mapL _ u2 _
            | exact eqIn_mapR _ u2 _⟩
    · cases h
theorem ok_intOp {op : BinOp} {k : IntKind} {a b : Int} {v : Value} (h : intOp op k a b = some v) (t : TypeId) : (binOp op t (.int k a) (.int k b)).run P w = .ok v w := by
  unfold intOp at h
  split at h <;> first
    | (cases h; done)
    | (cases h; simp [binOp, Op.intArith, Op.intBits, Op.intCmp]; done)
    | (split at h <;> first | (cases h; done) | (rename_i hne; cases h; simp [binOp, Op.intDiv, hne]))
theorem ok_strOp {op : BinOp} {a b : ByteArray} {v : Value} (h : strOp op a b = some v) (t : TypeId) : (binOp op t (.string a) (.string b)).run P w = .ok v w := by
  unfold strOp at h
  split at h
  · split at h
    · cases h
    · rename_i hn
      cases h
      simp only [binOp, Op.stringOp]
      rw [if_neg hn]; rfl
  all_goals first
    | (cases h; done)
    | (cases h; simp [binOp, Op.stringOp])
theorem ok_binOp (hD : DOk P D) (hK : KOk P K) {op : BinOp} {t : TypeId} {x y x' y' v : Value} (h : binOp' D K op t x y = some v) (hx : VR ρ x x') (hy : VR ρ y y') (o1 o2 : Operand) :
    (do eqGuard op t o1 o2 x' y'; binOp op t x' y' : Sem Value).run P w = .ok v w ∧ VR ρ v v := by
  unfold binOp' at h
  split at h
  · rename_i k a k' b
    cases hx; cases hy
    have hg : (eqGuard op t o1 o2 (.int k a) (.int k' b)).run P w = .ok () w := by cases op <;> simp [eqGuard]
    simp only [Sem.run_bind, hg, Result.andThen_ok]
    split at h
    · split at h
      · cases h
      · rename_i hb
        cases h
        exact ⟨by simp [binOp, Op.shift, hb], .int _ _⟩
    · split at h
      · cases h
      · rename_i hb
        cases h
        exact ⟨by simp [binOp, Op.shift, hb], .int _ _⟩
    · split at h
      · rename_i hk; subst hk
        refine ⟨ok_intOp h t, ?_⟩
        unfold intOp at h
        split at h <;> first
          | (cases h; done)
          | (cases h; first | exact .int _ _ | exact .bool _)
          | (split at h <;> cases h; exact .int _ _)
      · cases h
  · rename_i a b
    cases hx; cases hy
    have hg : (eqGuard op t o1 o2 (.string a) (.string b)).run P w = .ok () w := by cases op <;> simp [eqGuard]
    simp only [Sem.run_bind, hg, Result.andThen_ok]
    refine ⟨ok_strOp h t, ?_⟩
    unfold strOp at h
    split at h
    · split at h
      · cases h
      · cases h; exact .str _
    all_goals first
      | (cases h; done)
      | (cases h; exact .bool _)
  · rename_i hn1 hn2
    have ep : ∀ b, eqOp D K t x y = some b → (do eqGuard .eql t o1 o2 x' y'; binOp .eql t x' y' : Sem Value).run P w = .ok (.bool b) w := by
      intro b hb
      obtain ⟨g1, g2⟩ := ok_eq (P := P) (w := w) hD hK hb hx hy .eql o1 o2
      have ep : (do pure (.bool (← Op.equal t x' y')) : Sem Value).run P w = .ok (.bool b) w := by simp [g2]
      rw [Sem.run_bind, g1]
      unfold eqOp at hb
      split at hb <;> first
        | (cases hb; done)
        | (cases hx <;> cases hy <;> exact ep)
    have en : ∀ b, eqOp D K t x y = some b → (do eqGuard .neq t o1 o2 x' y'; binOp .neq t x' y' : Sem Value).run P w = .ok (.bool !b) w := by
      intro b hb
      obtain ⟨g1, g2⟩ := ok_eq (P := P) (w := w) hD hK hb hx hy .neq o1 o2
      have en : (do pure (.bool (!(← Op.equal t x' y'))) : Sem Value).run P w = .ok (.bool !b) w := by simp [g2]
      rw [Sem.run_bind, g1]
      unfold eqOp at hb
      split at hb <;> first
        | (cases hb; done)
        | (cases hx <;> cases hy <;> exact en)
    split at h
    · simp only [Option.map_eq_some_iff] at h
      obtain ⟨b, hb, rfl⟩ := h
      exact ⟨ep b hb, .bool _⟩
    · simp only [Option.map_eq_some_iff] at h
      obtain ⟨b, hb, rfl⟩ := h
      exact ⟨en b hb, .bool _⟩
    · cases h
end
end Go.Proofs.Ytdnnojblneccdaa
/-
  Slices: made, appended to, copied.
-/
namespace Go.Proofs.Ytdnnojblneccdaa
set_option linter.unusedSimpArgs false
set_option linter.unusedVariables false
open Go
section
variable {P : Program} {D : Ty} {K : Kinds} {ρ : Ren} {H : IHeap} {w : World} {n : Nat}
theorem slice_inv {a : Option Addr} {len cap : Nat} {x : Value} (h : VR ρ (.slice a len cap) x) :
    (a = none ∧ len = 0 ∧ cap = 0 ∧ x = .slice none 0 0) ∨
    (∃ id off r κ, a = some ⟨id, off, none⟩ ∧ ρ id = some (r, κ) ∧ x = .slice (some ⟨r, off, none⟩) len cap) ∨
    (∃ id off sz r κ cap', a = some ⟨id, off, some sz⟩ ∧ ρ id = some (r, κ) ∧ cap ≤ cap' ∧ len ≤ cap ∧ off + cap' * sz = κ ∧ x = .slice (some ⟨r, off, none⟩) len cap') ∨
    (∃ id off a', a = some ⟨id, off, none⟩ ∧ len = 0 ∧ cap = 0 ∧ x = .slice (some a') 0 0) := by
  cases h with
  | nilSlice => exact .inl ⟨rfl, rfl, rfl, rfl⟩
  | slice off len cap h => exact .inr (.inl ⟨_, _, _, _, rfl, h, rfl⟩)
  | oslice h h2 h3 h4 => exact .inr (.inr (.inl ⟨_, _, _, _, _, _, rfl, h, h2, h3, h4, rfl⟩))
  | void a' => exact .inr (.inr (.inr ⟨_, _, a', rfl, rfl, rfl, rfl⟩))
theorem src_ok (hh : HR ρ H w) {sz k : Nat} {x x' : Value} {xs : List Value} (h : srcCells H sz x = some xs) (hk : srcLen x = some k) (hx : VR ρ x x') :
    ∃ arr : Array Value, (Builtin.lenOf x').run P w = .ok k w ∧ (∀ w1 : World, (∀ r : Nat, w1.heap[r]? = w.heap[r]?) → (Builtin.firstCells sz k x').run P w1 = .ok arr w1) ∧ arr.size = xs.length ∧ xs.length = k * sz ∧
      ∀ (i : Nat) v, xs[i]? = some v → ∃ v', arr[i]? = some v' ∧ VR ρ v v' := by
  have row : ∀ {id off len r κ : Nat} {cap' : Nat} {c : List Value} {ro : Bool}, H id = some (.cells c ro) → ρ id = some (r, κ) → off + len * sz ≤ c.length → xs = (c.drop off).take (len * sz) →
      ∃ arr : Array Value, (Builtin.lenOf (.slice (some ⟨r, off, none⟩) len cap')).run P w = .ok len w ∧
        (∀ w1 : World, (∀ r : Nat, w1.heap[r]? = w.heap[r]?) → (Builtin.firstCells sz len (.slice (some ⟨r, off, none⟩) len cap')).run P w1 = .ok arr w1) ∧ arr.size = xs.length ∧ xs.length = len * sz ∧
        ∀ (i : Nat) v, xs[i]? = some v → ∃ v', arr[i]? = some v' ∧ VR ρ v v' := by
    intro id off len r κ cap' c ro ho hr hle hxs
    obtain ⟨r', κ', c', T, fz, g1, g2, g3, g4, _, g6⟩ := hh.row ho
    rw [hr] at g1; cases g1
    have hlen : xs.length = len * sz := by rw [hxs]; simp; omega
    refine ⟨c'.extract off (off + len * sz), by simp [Builtin.lenOf], fun w1 hw => ?_, by simp; omega, hlen, fun i v hv => ?_⟩
    · simp only [Builtin.firstCells]
      exact run_loadCells_row (by rw [hw]; exact g2) off (len * sz) (by omega)
    · rw [hxs] at hv
      simp only [List.getElem?_take, List.getElem?_drop] at hv
      split at hv
      · rename_i hi
        obtain ⟨v', e1, e2⟩ := g6 _ _ hv
        exact ⟨v', by rw [Array.getElem?_extract, if_pos (by omega)]; exact e1, e2⟩
      · cases hv
  unfold srcCells at h
  split at h
  · cases h
    simp only [srcLen, Option.some.injEq] at hk; subst hk
    rcases slice_inv hx with ⟨_, rfl, rfl, rfl⟩ | ⟨_, _, _, _, h, _⟩ | ⟨_, _, _, _, _, _, h, _⟩ | ⟨_, _, _, h, _⟩
    · exact ⟨#[], by simp [Builtin.lenOf], fun w1 _ => by simp [Builtin.firstCells], rfl, by simp, fun i v hv => by simp at hv⟩
    · cases h
    · cases h
    · cases h
  · rename_i a len cap
    simp only [srcLen, Option.some.injEq] at hk; subst hk
    split at h
    · rename_i c ro ho
      split at h
      · rename_i hle
        cases h
        rcases slice_inv hx with ⟨h, _⟩ | ⟨id, off, r, κ, e, hr, rfl⟩ | ⟨id, off, sz', r, κ, cap', e, hr, _, _, _, rfl⟩ | ⟨id, off, a', e, rfl, rfl, rfl⟩
        · cases h
        · cases e; exact row ho hr hle rfl
        · cases e; exact row ho hr hle rfl
        · exact ⟨#[], by simp [Builtin.lenOf], fun w1 _ => by simp [Builtin.firstCells, loadCells, loadCellsFrom], by simp, by simp, fun i v hv => by simp at hv⟩
      · cases h
    · cases h
  · rename_i s
    simp only [srcLen, Option.some.injEq] at hk; subst hk
    split at h
    · rename_i hsz; subst hsz
      cases h
      rw [str_inv hx]
      have hex : s.extract 0 s.size = s := by
        apply ByteArray.ext; simp [ByteArray.data_extract]
      refine ⟨s.data.map fun b => .int .u8 b.toNat, by simp [Builtin.lenOf], fun w1 _ => ?_, by simp, by simp only [List.length_map, Array.length_toList, Nat.mul_one]; rfl, fun i v hv => ?_⟩
      · simp only [Builtin.firstCells, hex]; rfl
      · simp only [List.getElem?_map, Option.map_eq_some_iff, Array.getElem?_toList] at hv
        obtain ⟨b, hb, rfl⟩ := hv
        exact ⟨.int .u8 b.toNat, by simp [hb], .int _ _⟩
    · cases h
  · cases h
/-- the zero values of an element, k times -/
theorem zeroCells_run (hD : DOk P D) {el : TypeId} {de : TD} (hde : D el = some de) (k : Nat) (w : World) :
    ∃ z : Value, (zeroValue el).run P w = .ok z w ∧ z.cells.size = de.size ∧ (Builtin.zeroCells z.cells k).toList = (List.replicate k de.zero).flatten ∧ ((List.replicate k de.zero).flatten).all clo1 = true := by
  obtain ⟨z, h1, h2, h3, h4⟩ := run_zero hD hde w
  have hlen : de.zero.length = de.size := (hD _ _ hde).zlen
  have hz : z.cells.size = de.size := by rw [← hlen, ← h2]; simp
  refine ⟨z, h1, hz, ?_, mem_rep (by rw [← h2]; exact h3) k⟩
  unfold Builtin.zeroCells
  rw [zeros_eq, h2]
/-- what is appended -/
structure Src (P : Program) (ρ : Ren) (w : World) (t2 el : TypeId) (de : TD) (x' : Value) (k : Nat) (xs : List Value) : Prop where
  ex : ∃ (zeros : Bool) (arr : Array Value) (u : TypeDesc), (underlying t2).run P w = .ok u w ∧ (u matches .int _) = zeros ∧
    (zeros = false → (Builtin.lenOf x').run P w = .ok k w) ∧
    (zeros = true → ∃ l : Int, x' = .int .i64 l ∧ 0 ≤ l ∧ l ≤ most ∧ l * de.bytes ≤ (2 : Int) ^ 48 ∧ l.toNat = k) ∧
    (∀ w1 : World, (∀ r : Nat, w1.heap[r]? = w.heap[r]?) →
      (if (!zeros) = true then Builtin.firstCells de.size k x' else if k * de.size = 0 then pure #[] else do pure (Builtin.zeroCells (← zeroValue el).cells k) : Sem (Array Value)).run P w1 = .ok arr w1) ∧
    arr.size = xs.length ∧ xs.length = k * de.size ∧ ∀ (i : Nat) v, xs[i]? = some v → ∃ v', arr[i]? = some v' ∧ VR ρ v v'
theorem srcArg_ok (hD : DOk P D) (hh : HR ρ H w) {t2 el : TypeId} {de : TD} (hde : D el = some de) {x x' : Value} {k : Nat} {xs : List Value} (h : srcArg D H t2 de x = some (k, xs)) (hx : VR ρ x x') :
    Src P ρ w t2 el de x' k xs := by
  simp only [srcArg, Option.bind_eq_some_iff] at h
  obtain ⟨d2, hd2, h⟩ := h
  obtain ⟨u, u1, u2, u3⟩ := run_und hD hd2 w
  split at h
  · rename_i q l hk
    split at h
    · rename_i hc
      obtain ⟨c1, c2, c3⟩ := hc
      cases h
      rw [hk] at u3; simp only [TK.fits] at u3; subst u3
      obtain ⟨z, z1, z2, z3, z4⟩ := zeroCells_run (P := P) hD hde l.toNat w
      have hlen : ((List.replicate l.toNat de.zero).flatten).length = l.toNat * de.size := by simp [(hD _ _ hde).zlen]
      refine ⟨⟨true, (Builtin.zeroCells z.cells l.toNat), .int q, u1, rfl, by simp, fun _ => ⟨l, int_inv hx, c1, c2, c3, rfl⟩, fun w1 hw => ?_, ?_, hlen, fun i v hv => ?_⟩⟩
      · simp only [Bool.not_true, Bool.false_eq_true, if_false]
        obtain ⟨z', y1, y2, y3, y4⟩ := zeroCells_run (P := P) hD hde l.toNat w1
        have hzz : Builtin.zeroCells z'.cells l.toNat = Builtin.zeroCells z.cells l.toNat := by
          apply Array.ext'; rw [y3, z3]
        split
        · rename_i h0
          have : Builtin.zeroCells z.cells l.toNat = #[] := by
            apply Array.eq_empty_of_size_eq_zero
            rw [← Array.length_toList, z3, hlen]; exact h0
          rw [this]; rfl
        · simp [y1, hzz]
      · rw [← Array.length_toList, z3]
      · exact ⟨v, by rw [← z3, Array.getElem?_toList] at hv; exact hv, clo_list z4 ρ i v hv⟩
    · cases h
  · cases h
  · rename_i hn1 hn2
    simp only [Option.bind_eq_some_iff, Option.map_eq_some_iff] at h
    obtain ⟨k', hk', xs', hxs', e⟩ := h
    cases e
    obtain ⟨arr, a1, a2, a3, a4, a5⟩ := src_ok (P := P) hh hxs' hk' hx
    refine ⟨⟨false, arr, u, u1, ?_, fun _ => a1, by simp, fun w1 hw => by simpa using a2 w1 hw, a3, a4, a5⟩⟩
    cases hk : d2.k <;> rw [hk] at u3 <;> simp only [TK.fits] at u3
    case int q => first | exact (hn1 q hk).elim | exact (hn2 q hk).elim | exact (‹∀ k, d2.k = TK.int k → False› q hk).elim
    case struct fs => obtain ⟨a, rfl, _⟩ := u3; rfl
    case func => obtain ⟨a, b, c, rfl⟩ := u3; rfl
    case iface => obtain ⟨m, rfl⟩ := u3; rfl
    case other => obtain ⟨_, _, h6⟩ := u3; cases u <;> first | rfl | exact absurd rfl (h6 _)
    all_goals (subst u3; rfl)
end
end Go.Proofs.Ytdnnojblneccdaa
/-
  append, copy, make.
-/
namespace Go.Proofs.Ytdnnojblneccdaa
set_option linter.unusedSimpArgs false
set_option linter.unusedVariables false
open Go
theorem wrap_i64 {n : Int} (h1 : -9223372036854775808 ≤ n) (h2 : n ≤ 9223372036854775807) : IntKind.i64.wrap n = n := by
  simp only [IntKind.wrap, IntKind.bits, IntKind.signed, Bool.true_and]
  split
  · rename_i h; have := of_decide_eq_true h; omega
  · rename_i h; have := of_decide_eq_false (Bool.eq_false_iff.2 h); omega
section
variable {P : Program} {D : Ty} {K : Kinds} {ρ : Ren} {H : IHeap} {w : World} {n : Nat}
def putAt (base : Option Addr) (off : Nat) (arr : Array Value) : Sem Unit :=
  match base with
  | some a => storeCells (a.add off) arr.toList
  | none => pure ()
theorem append_fits (hD : DOk P D) {t t2 el : TypeId} {d de : TD} (hd : D t = some d) (hk : d.k = .slice el) (hde : D el = some de) {base : Option Addr} {sLen sCap : Nat} {x' : Value} {k : Nat} {xs : List Value} (ty : TypeId)
    (ts : Array TypeId) (h0 : ts[0]? = some t) (h1 : ts[1]? = some t2) (hs : Src P ρ w t2 el de x' k xs) (hle : sLen + k ≤ sCap) :
    ∃ arr : Array Value, arr.size = xs.length ∧ xs.length = k * de.size ∧ (∀ (i : Nat) v, xs[i]? = some v → ∃ v', arr[i]? = some v' ∧ VR ρ v v') ∧
      (Builtin.append_ ts ty #[.slice base sLen sCap, x']).run P w = ((putAt base (sLen * de.size) arr).run P w).andThen fun _ w' => .ok (.slice base (sLen + k) sCap) w' := by
  obtain ⟨⟨zeros, arr, u, u1, u2, u3, u4, u5, u6, u7, u8⟩⟩ := hs
  refine ⟨arr, u6, u7, u8, ?_⟩
  have hw := u5 w (fun _ => rfl)
  cases zeros with
  | false =>
    simp only [Bool.not_false, if_true] at hw
    cases u
    case int => simp at u2
    all_goals
      cases base <;>
      simp only [Builtin.append_, h0, h1, Sem.run_bind, und_slice hD hd hk, Result.andThen_ok, run_size hD hde, u1, Sem.run_pure, List.getElem?_toArray, List.getElem?_cons_zero, List.getElem?_cons_succ,
        Bool.false_eq_true, if_false, u3 rfl, if_pos hle, Bool.not_false, if_true, hw, putAt]
  | true =>
    simp only [Bool.not_true, Bool.false_eq_true, if_false] at hw
    obtain ⟨l, rfl, l1, l2, l3, l4⟩ := u4 rfl
    have hwr : IntKind.i64.wrap l = l := by
      have : (most : Int) = 140737488355328 := rfl
      exact wrap_i64 (by omega) (by omega)
    obtain ⟨i, z, i1, i2, i3, _⟩ := run_info hD hde w
    cases u
    case int =>
      cases base <;>
      simp only [Builtin.append_, h0, h1, Sem.run_bind, und_slice hD hd hk, Result.andThen_ok, run_size hD hde, u1, Sem.run_pure, List.getElem?_toArray, List.getElem?_cons_zero, List.getElem?_cons_succ,
        if_true, asInt, asIntOf, hwr, i1, i3, Bool.not_true, Bool.false_eq_true, if_false, if_neg (show ¬ l < 0 by omega), if_neg (show ¬ (l * (de.bytes : Int) > 2 ^ 48) by omega), l4, if_pos hle, hw, putAt]
    all_goals simp at u2
theorem append_grows (hD : DOk P D) {t t2 el : TypeId} {d de : TD} (hd : D t = some d) (hk : d.k = .slice el) (hde : D el = some de) {base : Option Addr} {sLen sCap : Nat} {x' : Value} {k : Nat} {xs : List Value} (ty : TypeId)
    (ts : Array TypeId) (h0 : ts[0]? = some t) (h1 : ts[1]? = some t2) (hs : Src P ρ w t2 el de x' k xs) (hlt : sCap < sLen + k) (hm : (sLen + k) * de.bytes ≤ most) (hb1 : 1 ≤ de.bytes) {old : Array Value}
    (hold : ∀ w1 : World, (∀ r : Nat, w1.heap[r]? = w.heap[r]?) → (Builtin.firstCells de.size sLen (.slice base sLen sCap)).run P w1 = .ok old w1) :
    ∃ (arr : Array Value) (rest : Array Value) (newCap : Nat), arr.size = xs.length ∧ xs.length = k * de.size ∧ (∀ (i : Nat) v, xs[i]? = some v → ∃ v', arr[i]? = some v' ∧ VR ρ v v') ∧
      sLen + k ≤ newCap ∧ rest.size = (newCap - (sLen + k)) * de.size ∧
      (Builtin.append_ ts ty #[.slice base sLen sCap, x']).run P w = .ok (.slice (some ⟨w.heap.size, 0, none⟩) (sLen + k) newCap) ({ w with drawn := w.drawn + 1 }.alloc (.cells (old ++ arr ++ rest) el)) := by
  obtain ⟨⟨zeros, arr, u, u1, u2, u3, u4, u5, u6, u7, u8⟩⟩ := hs
  obtain ⟨i, z, i1, i2, i3, _⟩ := run_info hD hde w
  have hmost : most = 140737488355328 := rfl
  have hgrow := growslice_fits hlt (bytes := de.bytes) (by omega)
  have hneed : sLen + k ≤ 140737488355328 := Nat.le_trans (by have := Nat.mul_le_mul_left (sLen + k) hb1; omega) (hmost ▸ hm)
  let q : Question := .appendCap (sLen + k) sCap el
  let nc := q.cut (w.tape w.drawn q)
  have hnc : sLen + k ≤ nc := by simp only [nc, q, Question.cut]; omega
  let w1 : World := { w with drawn := w.drawn + 1 }
  obtain ⟨z1, y1, y2, y3, y4⟩ := zeroCells_run (P := P) hD hde (nc - (sLen + k)) w1
  have hz1 : (zeroValue el).run P w1 = .ok z1 w1 := y1
  have hrest : (Builtin.zeroCells z1.cells (nc - (sLen + k))).size = (nc - (sLen + k)) * de.size := by
    rw [← Array.length_toList, y3]; simp [(hD _ _ hde).zlen]
  refine ⟨arr, Builtin.zeroCells z1.cells (nc - (sLen + k)), nc, u6, u7, u8, hnc, hrest, ?_⟩
  have hch : (choose q).run P w = .ok nc w1 := by simp [choose, Sem.run, Question.forced, q, nc, w1]
  have hask : ∀ b w, (askRoom b).run P w = .ok () w := by
    intro b w; unfold askRoom; split <;> simp [mark, Sem.run]
  have hnew : ∀ c : Array Value, (newRow el c).run P w1 = .ok ⟨w.heap.size, 0, none⟩ (w1.alloc (.cells c el)) := by
    intro c; simp [newRow, newObj]; rfl
  obtain ⟨j, zj, j1, _⟩ := run_info hD hde w1
  have hw := u5 w1 (fun _ => rfl)
  have ho := hold w1 (fun _ => rfl)
  cases zeros with
  | false =>
    simp only [Bool.not_false, if_true] at hw
    cases u
    case int => simp at u2
    all_goals
      simp only [Builtin.append_, h0, h1, Sem.run_bind, und_slice hD hd hk, Result.andThen_ok, run_size hD hde, u1, Sem.run_pure, List.getElem?_toArray, List.getElem?_cons_zero, List.getElem?_cons_succ,
        Bool.false_eq_true, if_false, u3 rfl, if_neg (show ¬ sLen + k ≤ sCap by omega), Bool.not_false, if_true, hw, i1, i3, false_or]
      rw [if_neg (by omega)]
      simp only [Sem.run_bind, i1, i3, Result.andThen_ok]
      rw [if_neg (by omega)]
      simp only [Sem.run_bind, hch, Result.andThen_ok, hask, ho, hz1, hnew, j1, Sem.run_pure, hw, q]
      rfl
  | true =>
    simp only [Bool.not_true, Bool.false_eq_true, if_false] at hw
    obtain ⟨l, rfl, l1, l2, l3, l4⟩ := u4 rfl
    have hwr : IntKind.i64.wrap l = l := by
      have : (most : Int) = 140737488355328 := rfl
      exact wrap_i64 (by omega) (by omega)
    cases u
    case int =>
      simp only [Builtin.append_, h0, h1, Sem.run_bind, und_slice hD hd hk, Result.andThen_ok, run_size hD hde, u1, Sem.run_pure, List.getElem?_toArray, List.getElem?_cons_zero, List.getElem?_cons_succ,
        if_true, asInt, asIntOf, hwr, i1, i3, Bool.not_true, Bool.false_eq_true, if_false, if_neg (show ¬ l < 0 by omega), if_neg (show ¬ (l * (de.bytes : Int) > 2 ^ 48) by omega), l4, if_neg (show ¬ sLen + k ≤ sCap by omega), true_or, and_true]
      rw [if_neg (by simp only [IntKind.max, IntKind.signed, IntKind.bits, if_true]; omega)]
      simp only [Sem.run_bind, i1, i3, Result.andThen_ok]
      rw [if_neg (by omega)]
      simp only [Sem.run_bind, hch, Result.andThen_ok, hask, ho, hz1, hnew, j1, Sem.run_pure, hw, q]
      rfl
    all_goals simp at u2
end
end Go.Proofs.Ytdnnojblneccdaa
/-
  append, copy, make on ideal memory.
-/
namespace Go.Proofs.Ytdnnojblneccdaa
set_option linter.unusedSimpArgs false
set_option linter.unusedVariables false
open Go
section
variable {P : Program} {D : Ty} {K : Kinds} {ρ : Ren} {H : IHeap} {w : World} {n : Nat}
theorem all_known {xs : List Value} {arr : Array Value} (hs : arr.size = xs.length) (hr : ∀ (i : Nat) v, xs[i]? = some v → ∃ v', arr[i]? = some v' ∧ VR ρ v v') (hk : xs.all known = true) :
    ∀ v ∈ arr.toList, known v = true := by
  intro v hv
  obtain ⟨i, hi⟩ := List.getElem?_of_mem hv
  have hlt : i < xs.length := by
    have : i < arr.toList.length := (List.getElem?_eq_some_iff.1 hi).1
    simp at this; omega
  obtain ⟨y2, e1, e2⟩ := hr i xs[i] (by simp)
  have : v = y2 := by
    have hi' : arr[i]? = some v := by simpa using hi
    rw [hi'] at e1; cases e1; rfl
  subst this
  exact e2.known ((List.all_eq_true.1 hk) _ (List.getElem_mem _))
/-- cells put into a known row of ideal memory -/
theorem put_row (hb : Below n ρ) (hh : HR ρ H w) {id : Nat} {c : List Value} (ho : H id = some (.cells c false)) {r κ : Nat} (hr : ρ id = some (r, κ)) {off : Nat} {xs : List Value} {arr : Array Value}
    (hs : arr.size = xs.length) (hx : ∀ (i : Nat) v, xs[i]? = some v → ∃ v', arr[i]? = some v' ∧ VR ρ v v') (hk : xs.all known = true) (hle : off + xs.length ≤ c.length) :
    ∃ w', (storeCells ⟨r, off, none⟩ arr.toList).run P w = .ok () w' ∧ ∀ v v', VR ρ v v' → Post ρ H n ⟨v, [(id, some (.cells (splice c off xs) false))], n⟩ v' ρ w w' := by
  obtain ⟨r', κ', c', T, fz, g1, g2, g3, g4, g5, g6⟩ := hh.row ho
  rw [hr] at g1; cases g1
  obtain ⟨w', c'', e1, e2, e3, e4, e5, e6, e7, e8, e9⟩ := run_storeCells_row (P := P) arr.toList 0 w r off c' T fz g2 (by rw [g3]; exact g5 rfl) (by simp; omega) (all_known hs hx hk)
  refine ⟨w', e1, fun v v' hv => Post.store hb hh ho hr (T := T) (fz := fz) (g5 rfl) e2 (by rw [e3, g3]) (by rw [length_splice _ _ _ hle]; exact g4) ?_ e5 e6 e7 e8 e9 hv⟩
  intro i v hv
  rw [getElem?_splice _ _ _ hle] at hv
  rw [e4 i]
  simp only [Nat.add_zero, Array.length_toList, hs]
  split at hv
  · rename_i hc; rw [if_pos hc]
    obtain ⟨y2, a, b⟩ := hx _ _ hv
    exact ⟨y2, by simpa using a, b⟩
  · rename_i hc; rw [if_neg hc]
    exact g6 i v hv
theorem splice_nil (c : List Value) (off : Nat) : splice c off [] = c := by simp [splice]
theorem rel_append {a b : List Value} {a' b' : Array Value} (ha : a'.size = a.length) (hb : b'.size = b.length)
    (h1 : ∀ (i : Nat) v, a[i]? = some v → ∃ v', a'[i]? = some v' ∧ VR ρ v v') (h2 : ∀ (i : Nat) v, b[i]? = some v → ∃ v', b'[i]? = some v' ∧ VR ρ v v') :
    ∀ (i : Nat) v, (a ++ b)[i]? = some v → ∃ v', (a' ++ b')[i]? = some v' ∧ VR ρ v v' := by
  intro i v hv
  by_cases hi : i < a.length
  · rw [List.getElem?_append_left hi] at hv
    obtain ⟨v', e1, e2⟩ := h1 i v hv
    exact ⟨v', by rw [Array.getElem?_append_left (by omega)]; exact e1, e2⟩
  · rw [List.getElem?_append_right (by omega)] at hv
    obtain ⟨v', e1, e2⟩ := h2 _ v hv
    exact ⟨v', by rw [Array.getElem?_append_right (by omega), ha]; exact e1, e2⟩
theorem rel_more {a : List Value} {a' b' : Array Value} (ha : a'.size = a.length)
    (h1 : ∀ (i : Nat) v, a[i]? = some v → ∃ v', a'[i]? = some v' ∧ VR ρ v v') :
    ∀ (i : Nat) v, a[i]? = some v → ∃ v', (a' ++ b')[i]? = some v' ∧ VR ρ v v' := by
  intro i v hv
  have hi : i < a.length := (List.getElem?_eq_some_iff.1 hv).1
  obtain ⟨v', e1, e2⟩ := h1 i v hv
  exact ⟨v', by rw [Array.getElem?_append_left (by omega)]; exact e1, e2⟩
/-- a row that goes on under a new number -/
theorem Post.regrow (hb : Below n ρ) (hh : HR ρ H w) {id : Nat} {c c2 : List Value} {ro : Bool} (ho : H id = some (.cells c ro)) {r κ : Nat} (hr : ρ id = some (r, κ))
    {w' : World} {c'' : Array Value} {T : TypeId} {fz : Nat × Nat} (hf : Free fz κ) (hw : w'.heap[r]? = some (.cells c'' T fz)) (hs : c''.size = κ) (hl : c2.length ≤ κ)
    (hc : ∀ (i : Nat) v, c2[i]? = some v → ∃ v', c''[i]? = some v' ∧ VR ρ v v')
    (hk : ∀ k, k ≠ r → w'.heap[k]? = w.heap[k]?) (hz : w'.heap.size = w.heap.size) (h7 : w'.os = w.os) (h8 : w'.tape = w.tape) (h9 : w'.output = w.output)
    {v v' : Value} (hv : VR (ρ.set n r κ) v v') :
    Post ρ H n ⟨v, [(id, none), (n, some (.cells c2 false))], n + 1⟩ v' (ρ.set n r κ) w w' := by
  have hle : ρ.le (ρ.set n r κ) := Ren.set_le (hb n (Nat.le_refl _))
  have hid : id < n := hb.lt hr
  refine ⟨?_, ⟨hle, ?_, by omega, ?_, h7, h8, h9, others_of hh ho hr hk⟩, hv, ⟨?_, ?_⟩, ?_, Nat.le_succ _, fun id x h => by
      simp only [Ren.set] at h
      split at h
      · exact .inr (by omega)
      · exact .inl h⟩
  · intro j hj
    simp only [Ren.set]; rw [if_neg (by have : n + 1 ≤ j := hj; omega)]
    exact hb j (by have : n + 1 ≤ j := hj; omega)
  · intro j q κ2 h1 h2
    simp only [Ren.set] at h2
    split at h2
    · cases h2; exact .inr ⟨id, κ, hr, by simp⟩
    · rw [h1] at h2; cases h2
  · intro q _ hn
    exact hk q fun e => hn id κ (e ▸ hr) (by simp)
  · intro j o hj
    simp only [upds, upd] at hj
    split at hj
    · cases hj; subst_vars
      exact ⟨r, _, by simp [Ren.set], c'', T, fz, hw, rfl, hl, fun _ => hf, fun i v hv => let ⟨v', a, b⟩ := hc i v hv; ⟨v', a, b.mono hle⟩⟩
    · rename_i hne
      split at hj
      · cases hj
      · rename_i hne2
        obtain ⟨r', κ', h1, h2⟩ := hh.obj j o hj
        refine ⟨r', κ', hle _ _ h1, ?_⟩
        rw [hk r' fun e => hne2 (hh.inj j id o _ r' κ' κ hj ho h1 (e ▸ hr))]
        exact h2.mono hle
  · have pick : ∀ {i o q κ1}, upds H [(id, none), (n, some (.cells c2 false))] i = some o → (ρ.set n r κ) i = some (q, κ1) → (i = n ∧ q = r) ∨ (i ≠ n ∧ i ≠ id ∧ H i = some o ∧ ρ i = some (q, κ1)) := by
      intro i o q κ1 h1 h2
      simp only [upds, upd] at h1
      simp only [Ren.set] at h2
      split at h1
      · rename_i hi; rw [if_pos hi] at h2; cases h2; exact .inl ⟨hi, rfl⟩
      · rename_i hi; rw [if_neg hi] at h2
        split at h1
        · cases h1
        · exact .inr ⟨hi, by assumption, h1, h2⟩
    intro i j o p q κ1 κ2 hi hj hri hrj
    rcases pick hi hri with ⟨rfl, rfl⟩ | ⟨a1, a2, a3, a4⟩
    · rcases pick hj hrj with ⟨rfl, _⟩ | ⟨b1, b2, b3, b4⟩
      · rfl
      · exact absurd (hh.inj j id p _ q κ2 κ b3 ho b4 hr) b2
    · rcases pick hj hrj with ⟨rfl, rfl⟩ | ⟨b1, b2, b3, b4⟩
      · exact absurd (hh.inj i id o _ q κ1 κ a3 ho a4 hr) a2
      · exact hh.inj i j o p q κ1 κ2 a3 b3 a4 b4
  · intro j hj
    simp only [Eff.ids, List.map_cons, List.map_nil, List.mem_cons, List.not_mem_nil, or_false] at hj
    rcases hj with rfl | rfl
    · exact ⟨.inr (by rw [ho]; rfl), Nat.lt_succ_of_lt hid⟩
    · exact ⟨.inl (Nat.le_refl _), Nat.lt_succ_self _⟩
/-- a number is given up beside a new block -/
theorem Post.dropNew {id : Nat} {c : List Value} {v v' : Value} {ρ' : Ren} {w' : World} (h : Post ρ H n ⟨v, [(n, some (.cells c false))], n + 1⟩ v' ρ' w w') (ho : (H id).isSome) (hid : id < n) :
    Post ρ H n ⟨v, [(id, none), (n, some (.cells c false))], n + 1⟩ v' ρ' w w' := by
  refine ⟨h.below, h.step.mono (fun j hj => by simp only [Eff.ids, List.map_cons, List.map_nil, List.mem_cons, List.not_mem_nil, or_false] at hj ⊢; exact .inr hj), h.val, h.heap.sub ?_, ?_, h.le, h.fresh⟩
  · intro j o hj
    simp only [upds, upd] at hj ⊢
    split at hj
    · rename_i hjn; rw [if_pos hjn]; exact hj
    · rename_i hjn; rw [if_neg hjn]
      split at hj
      · cases hj
      · exact hj
  · intro j hj
    simp only [Eff.ids, List.map_cons, List.map_nil, List.mem_cons, List.not_mem_nil, or_false] at hj
    rcases hj with rfl | rfl
    · exact ⟨.inr ho, Nat.lt_succ_of_lt hid⟩
    · exact ⟨.inl (Nat.le_refl _), Nat.lt_succ_self _⟩
theorem Post.drawnL {e : Eff} {v' : Value} {ρ' : Ren} {w' : World} (d : Nat) (h : Post ρ H n e v' ρ' { w with drawn := d } w') : Post ρ H n e v' ρ' w w' :=
  ⟨h.below, h.step.drawnL d, h.val, h.heap, h.ids, h.le, h.fresh⟩
theorem ok_append (hD : DOk P D) (hb : Below n ρ) (hh : HR ρ H w) {ts : Array TypeId} {ty : TypeId} {s x s' x' : Value} {ef : Eff}
    (h : ((ts[0]?).bind fun t => (ts[1]?).bind fun t2 => doAppend D H n t t2 s x) = some ef) (hs : VR ρ s s') (hx : VR ρ x x') :
    Runs P (Builtin.append_ ts ty #[s', x']) ρ H n ef w := by
  simp only [Option.bind_eq_some_iff] at h
  obtain ⟨t, ht, t2, ht2, h⟩ := h
  unfold doAppend at h
  split at h
  · rename_i base len cap d hd
    split at h
    · rename_i el hk
      simp only [Option.bind_eq_some_iff] at h
      obtain ⟨de, hde, ⟨k, xs⟩, hsrc, h⟩ := h
      have hS := srcArg_ok (P := P) hD hh hde hsrc hx
      simp only at h
      split at h
      · rename_i hle
        rcases slice_inv hs with ⟨rfl, rfl, rfl, rfl⟩ | ⟨id, off, r, κ, rfl, hr, rfl⟩ | ⟨id, off, sz, r, κ, cap', rfl, hr, q1, q2, q3, rfl⟩ | ⟨id, off, a', rfl, rfl, rfl, rfl⟩
        · obtain ⟨arr, a1, a2, a3, a4⟩ := append_fits (P := P) (base := none) (sLen := 0) (sCap := 0) hD hd hk hde ty ts ht ht2 hS hle.1
          have hk0 : k = 0 := by have := hle.1; omega
          subst hk0
          exact Runs.val hb hh h .nilSlice (by rw [a4]; simp [putAt])
        · obtain ⟨arr, a1, a2, a3, a4⟩ := append_fits (P := P) (base := some ⟨r, off, none⟩) (sLen := len) (sCap := cap) hD hd hk hde ty ts ht ht2 hS hle.1
          simp only at h
          split at h
          · rename_i hnil
            subst hnil
            refine Runs.val hb hh h (.slice off (len + k) cap hr) ?_
            have : arr = #[] := Array.eq_empty_of_size_eq_zero (by simpa using a1)
            rw [a4]; subst this; simp [putAt, storeCells]
          · split at h
            · rename_i c ho
              split at h
              · rename_i hc
                cases h
                obtain ⟨w', e1, e2⟩ := put_row (P := P) hb hh ho hr a1 a3 hc.2 hc.1
                exact ⟨_, w', ρ, by rw [a4]; simp [putAt, addr_add, e1], e2 _ _ (.slice off (len + k) cap hr)⟩
              · cases h
            · cases h
        · have := hle.2; simp [closed] at this
        · obtain ⟨arr, a1, a2, a3, a4⟩ := append_fits (P := P) (base := some a') (sLen := 0) (sCap := 0) hD hd hk hde ty ts ht ht2 hS hle.1
          have hk0 : k = 0 := by have := hle.1; omega
          subst hk0
          have hx0 : xs = [] := List.length_eq_zero_iff.1 (by rw [a2]; simp)
          subst hx0
          simp only [if_true] at h
          have : arr = #[] := Array.eq_empty_of_size_eq_zero (by simpa using a1)
          exact Runs.val hb hh h (.void a') (by rw [a4]; subst this; simp [putAt, storeCells])
      · rename_i hgt
        split at h
        · rename_i hm
          obtain ⟨hm, hb1⟩ := hm
          rcases slice_inv hs with ⟨rfl, rfl, rfl, rfl⟩ | ⟨id, off, r, κ, rfl, hr, rfl⟩ | ⟨id, off, sz, r, κ, cap', rfl, hr, q1, q2, q3, rfl⟩ | ⟨id, off, a', rfl, rfl, rfl, rfl⟩
          · obtain ⟨arr, rest, nc, a1, a2, a3, a4, a5, a6⟩ := append_grows (P := P) (base := none) (sLen := 0) (sCap := 0) hD hd hk hde ty ts ht ht2 hS (by simp [closed] at hgt; omega) hm hb1 (old := #[]) (fun w1 _ => by simp [Builtin.firstCells])
            cases h
            refine ⟨_, _, _, a6, Post.drawnL (w.drawn + 1) (Post.alloc (w := { w with drawn := w.drawn + 1 }) hb (hh.drawn _) (c' := #[] ++ arr ++ rest) (by simp; omega) ?_ (.oslice (κ := (#[] ++ arr ++ rest).size) (by simp [Ren.set]) a4 (Nat.le_refl _) ?_))⟩
            · simpa using rel_more (b' := rest) a1 a3
            · simp only [Array.size_append, a1, a2, a5, List.size_toArray, List.length_nil]
              simp only [Nat.zero_add] at a4 ⊢
              rw [← Nat.add_mul]; congr 1; omega
          · simp only [Option.bind_eq_some_iff] at h
            obtain ⟨ys, hys, h⟩ := h
            obtain ⟨old, o1, o2, o3, o4, o5⟩ := src_ok (P := P) (k := len) hh hys rfl hs
            obtain ⟨arr, rest, nc, a1, a2, a3, a4, a5, a6⟩ := append_grows (P := P) (base := some ⟨r, off, none⟩) (sLen := len) (sCap := cap) hD hd hk hde ty ts ht ht2 hS (by simp [closed] at hgt; omega) hm hb1 (old := old) o2
            cases h
            refine ⟨_, _, _, a6, Post.drawnL (w.drawn + 1) (Post.alloc (w := { w with drawn := w.drawn + 1 }) hb (hh.drawn _) (c' := old ++ arr ++ rest) (by simp; omega) ?_ (.oslice (κ := (old ++ arr ++ rest).size) (by simp [Ren.set]) a4 (Nat.le_refl _) ?_))⟩
            · exact rel_more (by simp; omega) (rel_append o3 a1 o5 a3)
            · simp only [Array.size_append, a1, a2, a5, o3, o4, Nat.zero_add]
              rw [← Nat.add_mul, ← Nat.add_mul]; congr 1; omega
          · simp only at h
            split at h
            · rename_i c ho
              split at h
              · rename_i hc
                obtain ⟨c1, c2, rfl, rfl⟩ := hc
                cases h
                simp only [Nat.zero_add] at q3
                by_cases hfit : len + k ≤ cap'
                · obtain ⟨arr, a1, a2, a3, a4⟩ := append_fits (P := P) (base := some ⟨r, 0, none⟩) (sLen := len) (sCap := cap') hD hd hk hde ty ts ht ht2 hS hfit
                  obtain ⟨r', κ', c', T, fz, g1, g2, g3, g4, g5, g6⟩ := hh.row ho
                  rw [hr] at g1; cases g1
                  have hin : (len + k) * de.size ≤ κ := by rw [← q3]; exact Nat.mul_le_mul_right _ hfit
                  have hin' : len * de.size + xs.length ≤ κ := by rw [a2, ← Nat.add_mul]; exact hin
                  obtain ⟨w', c'', e1, e2, e3, e4, e5, e6, e7, e8, e9⟩ := run_storeCells_row (P := P) arr.toList 0 w r (len * de.size) c' T fz g2 (by rw [g3]; exact g5 rfl) (by simp; omega) (all_known a1 a3 c2)
                  refine ⟨_, w', _, by rw [a4]; simp [putAt, addr_add, e1], Post.regrow hb hh ho hr (T := T) (fz := fz) (g5 rfl) e2 (by rw [e3, g3]) (by rw [List.length_append, List.length_take]; omega) ?_ e5 e6 e7 e8 e9 (VR.oslice (id := n) (r := r) (κ := κ) (by simp [Ren.set]) hfit (Nat.le_refl _) (by omega))⟩
                  intro i v hv
                  rw [e4 i]
                  simp only [Nat.add_zero, Array.length_toList, a1]
                  by_cases hi : i < len * de.size
                  · rw [if_neg (by omega)]
                    rw [List.getElem?_append_left (by simp; omega), List.getElem?_take_of_lt hi] at hv
                    exact g6 i v hv
                  · rw [List.getElem?_append_right (by simp; omega)] at hv
                    have hl : (c.take (len * de.size)).length = len * de.size := by simp; omega
                    rw [hl] at hv
                    have : i - len * de.size < xs.length := (List.getElem?_eq_some_iff.1 hv).1
                    rw [if_pos (by omega)]
                    obtain ⟨y2, a, b⟩ := a3 _ _ hv
                    exact ⟨y2, by simpa using a, b⟩
                · obtain ⟨old, o1, o2, o3, o4, o5⟩ := src_ok (P := P) (k := len) (sz := de.size) (xs := c.take (len * de.size)) hh (by simp only [srcCells, ho, Nat.zero_add]; rw [if_pos c1, List.drop_zero]) rfl hs
                  obtain ⟨arr, rest, nc, a1, a2, a3, a4, a5, a6⟩ := append_grows (P := P) (base := some ⟨r, 0, none⟩) (sLen := len) (sCap := cap') hD hd hk hde ty ts ht ht2 hS (by omega) hm hb1 (old := old) o2
                  refine ⟨_, _, _, a6, Post.dropNew (Post.drawnL (w.drawn + 1) (Post.alloc (w := { w with drawn := w.drawn + 1 }) hb (hh.drawn _) (c' := old ++ arr ++ rest) (by simp only [Array.size_append, List.length_append]; omega) ?_ (.oslice (κ := (old ++ arr ++ rest).size) (by simp [Ren.set]) a4 (Nat.le_refl _) ?_))) (by rw [ho]; rfl) (hb.lt hr)⟩
                  · exact rel_more (by rw [Array.size_append, List.length_append]; omega) (rel_append o3 a1 o5 a3)
                  · simp only [Array.size_append, a1, a2, a5, o3, o4, Nat.zero_add]
                    rw [← Nat.add_mul, ← Nat.add_mul]; congr 1; omega
              · cases h
            · cases h
          · simp only [Option.bind_eq_some_iff] at h
            obtain ⟨ys, hys, h⟩ := h
            obtain ⟨old, o1, o2, o3, o4, o5⟩ := src_ok (P := P) (k := 0) hh hys rfl hs
            obtain ⟨arr, rest, nc, a1, a2, a3, a4, a5, a6⟩ := append_grows (P := P) (base := some a') (sLen := 0) (sCap := 0) hD hd hk hde ty ts ht ht2 hS (by simp [closed] at hgt; omega) hm hb1 (old := old) o2
            cases h
            refine ⟨_, _, _, a6, Post.drawnL (w.drawn + 1) (Post.alloc (w := { w with drawn := w.drawn + 1 }) hb (hh.drawn _) (c' := old ++ arr ++ rest) (by simp; omega) ?_ (.oslice (κ := (old ++ arr ++ rest).size) (by simp [Ren.set]) a4 (Nat.le_refl _) ?_))⟩
            · exact rel_more (by simp; omega) (rel_append o3 a1 o5 a3)
            · simp only [Array.size_append, a1, a2, a5, o3, o4, Nat.zero_add]
              rw [← Nat.add_mul, ← Nat.add_mul]; congr 1; omega
        · cases h
    · cases h
  · cases h
end
end Go.Proofs.Ytdnnojblneccdaa
/-
  The other operations; all operations.
-/
namespace Go.Proofs.Ytdnnojblneccdaa
set_option linter.unusedSimpArgs false
set_option linter.unusedVariables false
open Go
section
variable {P : Program} {D : Ty} {K : Kinds} {ρ : Ren} {H : IHeap} {w : World} {n : Nat}
theorem ok_copy (hD : DOk P D) (hb : Below n ρ) (hh : HR ρ H w) {ts : Array TypeId} {ty : TypeId} {s x s' x' : Value} {ef : Eff}
    (h : ((ts[0]?).bind fun t => doCopy D H n t s x) = some ef) (hs : VR ρ s s') (hx : VR ρ x x') :
    Runs P (Builtin.copy_ ts ty #[s', x']) ρ H n ef w := by
  simp only [Option.bind_eq_some_iff] at h
  obtain ⟨t, ht, h⟩ := h
  unfold doCopy at h
  split at h
  · rename_i base len cap d hd
    split at h
    · rename_i el hk
      split at h
      · rename_i de k hde hk2
        simp only [Option.bind_eq_some_iff] at h
        obtain ⟨xs, hxs, h⟩ := h
        obtain ⟨arr, a1, a2, a3, a4, a5⟩ := src_ok (P := P) hh hxs hk2 hx
        have key : ∀ (r off cap' id κ : Nat) (c : List Value), H id = some (.cells c false) → ρ id = some (r, κ) → off + len * de.size ≤ c.length → xs.all known = true →
            s' = .slice (some ⟨r, off, none⟩) len cap' →
            Runs P (Builtin.copy_ ts ty #[s', x']) ρ H n ⟨.int .i64 (min k len : Nat), [(id, some (.cells (splice c off (xs.take (min k len * de.size))) false))], n⟩ w := by
          intro r off cap' id κ c ho hr hle hkn e
          have hmin : Nat.min k len * de.size ≤ k * de.size := Nat.mul_le_mul_right _ (Nat.min_le_left _ _)
          have hmin2 : Nat.min k len * de.size ≤ len * de.size := Nat.mul_le_mul_right _ (Nat.min_le_right _ _)
          -- the first cells alone
          have hfc : ∃ arr2 : Array Value, (Builtin.firstCells de.size (Nat.min k len) x').run P w = .ok arr2 w ∧ arr2.size = (xs.take (Nat.min k len * de.size)).length ∧
              ∀ (i : Nat) v, (xs.take (Nat.min k len * de.size))[i]? = some v → ∃ v', arr2[i]? = some v' ∧ VR ρ v v' := by
            have hlen2 : (xs.take (Nat.min k len * de.size)).length = Nat.min k len * de.size := by rw [List.length_take]; omega
            unfold srcCells at hxs
            split at hxs
            · rcases slice_inv hx with ⟨_, rfl, rfl, rfl⟩ | ⟨_, _, _, _, h, _⟩ | ⟨_, _, _, _, _, _, h, _⟩ | ⟨_, _, _, h, _⟩
              · cases hxs
                exact ⟨#[], by simp [Builtin.firstCells], by simp, fun i v hv => by simp at hv⟩
              · cases h
              · cases h
              · cases h
            · rename_i a len2 cap2
              simp only [srcLen, Option.some.injEq] at hk2; subst hk2
              split at hxs
              · rename_i c2 ro2 ho2
                split at hxs
                · rename_i hle2
                  cases hxs
                  have row : ∀ {id2 off2 r2 κ2 cap3 : Nat}, H id2 = some (.cells c2 ro2) → ρ id2 = some (r2, κ2) → off2 + len2 * de.size ≤ c2.length → off2 = a.off →
                      ∃ arr2 : Array Value, (Builtin.firstCells de.size (Nat.min len2 len) (.slice (some ⟨r2, off2, none⟩) len2 cap3)).run P w = .ok arr2 w ∧ arr2.size = (((c2.drop a.off).take (len2 * de.size)).take (Nat.min len2 len * de.size)).length ∧
                        ∀ (i : Nat) v, (((c2.drop a.off).take (len2 * de.size)).take (Nat.min len2 len * de.size))[i]? = some v → ∃ v', arr2[i]? = some v' ∧ VR ρ v v' := by
                    intro id2 off2 r2 κ2 cap3 ho2 hr2 hle2 hoff
                    subst hoff
                    obtain ⟨r', κ', c', T, fz, g1, g2, g3, g4, _, g6⟩ := hh.row ho2
                    rw [hr2] at g1; cases g1
                    refine ⟨c'.extract a.off (a.off + Nat.min len2 len * de.size), ?_, by rw [hlen2]; simp; omega, fun i v hv => ?_⟩
                    · simp only [Builtin.firstCells]
                      exact run_loadCells_row g2 a.off _ (by omega)
                    · simp only [List.getElem?_take, List.getElem?_drop] at hv
                      split at hv
                      · split at hv
                        · obtain ⟨v', e1, e2⟩ := g6 _ _ hv
                          exact ⟨v', by rw [Array.getElem?_extract, if_pos (by omega)]; exact e1, e2⟩
                        · cases hv
                      · cases hv
                  rcases slice_inv hx with ⟨h, _⟩ | ⟨id2, off2, r2, κ2, e, hr2, rfl⟩ | ⟨id2, off2, sz', r2, κ2, cap3, e, hr2, _, _, _, rfl⟩ | ⟨id2, off2, a', e, rfl, rfl, rfl⟩
                  · cases h
                  · cases e; exact row ho2 hr2 hle2 rfl
                  · cases e; exact row ho2 hr2 hle2 rfl
                  · exact ⟨#[], by simp [Builtin.firstCells, loadCells, loadCellsFrom], by simp, fun i v hv => by simp at hv⟩
                · cases hxs
              · cases hxs
            · rename_i str
              split at hxs
              · rename_i hsz
                cases hxs
                rw [str_inv hx]
                simp only [srcLen, Option.some.injEq] at hk2; subst hk2
                refine ⟨(str.extract 0 (Nat.min str.size len)).data.map fun b => .int .u8 b.toNat, by simp [Builtin.firstCells], ?_, fun i v hv => ?_⟩
                · rw [hlen2, hsz, Nat.mul_one]
                  simp only [Array.size_map, ByteArray.data_extract, Array.size_extract]
                  have : str.data.size = str.size := rfl
                  have h2 : str.size.min len ≤ str.size := Nat.min_le_left str.size len
                  omega
                · simp only [hsz, Nat.mul_one, List.getElem?_take, List.getElem?_map, Array.getElem?_toList] at hv
                  split at hv
                  · rename_i hi
                    simp only [Option.map_eq_some_iff] at hv
                    obtain ⟨b, hb, rfl⟩ := hv
                    refine ⟨.int .u8 b.toNat, ?_, .int _ _⟩
                    simp only [Array.getElem?_map, ByteArray.data_extract, Array.getElem?_extract, Nat.zero_add]
                    have hi2 : i < str.data.size := (Array.getElem?_eq_some_iff.1 hb).1
                    rw [if_pos (by omega), hb]; rfl
                  · cases hv
              · cases hxs
            · cases hxs
          obtain ⟨arr2, b1, b2, b3⟩ := hfc
          have hall : (xs.take (Nat.min k len * de.size)).all known = true := by
            rw [List.all_eq_true] at hkn ⊢
            exact fun x hx => hkn x (List.mem_of_mem_take hx)
          obtain ⟨w', e1, e2⟩ := put_row (P := P) hb hh ho hr b2 b3 hall (off := off) (by rw [List.length_take]; omega)
          refine ⟨.int .i64 (min k len : Nat), w', ρ, ?_, e2 _ _ (.int _ _)⟩
          subst e
          simp only [Builtin.copy_, ht, Sem.run_bind, und_slice hD hd hk, Result.andThen_ok, run_size hD hde, Sem.run_pure, List.getElem?_toArray, List.getElem?_cons_zero, List.getElem?_cons_succ, a1, b1, e1]
          rfl
        rcases slice_inv hs with ⟨rfl, rfl, rfl, rfl⟩ | ⟨id, off, r, κ, rfl, hr, rfl⟩ | ⟨id, off, sz, r, κ, cap', rfl, hr, q1, q2, q3, rfl⟩ | ⟨id, off, a', rfl, rfl, rfl, rfl⟩
        · refine Runs.val hb hh h (.int _ _) ?_
          have hf : ∃ arr2 : Array Value, (Builtin.firstCells de.size 0 x').run P w = .ok arr2 w := by
            have z0 : ∀ s : Sem (Array Value), s = pure #[] → s.run P w = .ok #[] w := by rintro s rfl; rfl
            refine ⟨#[], ?_⟩
            unfold srcCells at hxs
            split at hxs
            · cases hx; simp [Builtin.firstCells]
            · cases hx <;> simp [Builtin.firstCells, loadCells, loadCellsFrom]
            · cases hx
              simp only [Builtin.firstCells, Sem.run_pure]
              congr 1
              apply Array.eq_empty_of_size_eq_zero
              simp [ByteArray.data_extract]
            · cases hxs
          obtain ⟨arr2, b1⟩ := hf
          have hm : k.min 0 = 0 := Nat.min_zero k
          simp only [Builtin.copy_, ht, Sem.run_bind, und_slice hD hd hk, Result.andThen_ok, run_size hD hde, Sem.run_pure, List.getElem?_toArray, List.getElem?_cons_zero, List.getElem?_cons_succ, a1, hm, b1]
          rfl
        · simp only at h
          split at h
          · rename_i c ho
            split at h
            · rename_i hc
              cases h
              exact key r off cap id κ c ho hr hc.1 hc.2 rfl
            · cases h
          · cases h
        · simp only at h
          split at h
          · rename_i c ho
            split at h
            · rename_i hc
              cases h
              exact key r off cap' id κ c ho hr hc.1 hc.2 rfl
            · cases h
          · cases h
        · have b1 : (Builtin.firstCells de.size 0 x').run P w = .ok #[] w := by
            unfold srcCells at hxs
            split at hxs
            · cases hx; simp [Builtin.firstCells]
            · cases hx <;> simp [Builtin.firstCells, loadCells, loadCellsFrom]
            · cases hx
              simp only [Builtin.firstCells, Sem.run_pure]
              congr 1
              apply Array.eq_empty_of_size_eq_zero
              simp [ByteArray.data_extract]
            · cases hxs
          have hm : k.min 0 = 0 := Nat.min_zero k
          have hm2 : min k 0 = 0 := Nat.min_zero k
          simp only at h
          split at h
          · rename_i c ho
            split at h
            · rename_i hc
              cases h
              obtain ⟨r', κ', c', T, fz, g1, _⟩ := hh.row ho
              obtain ⟨w', e1, e2⟩ := put_row (P := P) hb hh ho g1 (arr := #[]) (xs := []) (off := off) rfl (fun i v hv => by simp at hv) rfl (by simpa using hc.1)
              have hw : w = w' := by simpa [storeCells] using e1
              have hx0 : List.take (min k 0 * de.size) xs = [] := by rw [hm2, Nat.zero_mul, List.take_zero]
              rw [hx0, hm2]
              refine ⟨.int .i64 ((0 : Nat) : Int), w', ρ, ?_, e2 _ _ (.int _ _)⟩
              rw [← hw]
              simp only [Builtin.copy_, ht, Sem.run_bind, und_slice hD hd hk, Result.andThen_ok, run_size hD hde, Sem.run_pure, List.getElem?_toArray, List.getElem?_cons_zero, List.getElem?_cons_succ, a1, hm, b1, storeCells]
              try rfl
            · cases h
          · cases h
      · cases h
    · cases h
  · cases h
theorem ok_make (hD : DOk P D) (hb : Below n ρ) (hh : HR ρ H w) {t : TypeId} {l c l' c' : Value} {ef : Eff} (h : doMake D n t l c = some ef) (hl : VR ρ l l') (hc : VR ρ c c') :
    Runs P (Instr.makeSlice t l' c') ρ H n ef w := by
  unfold doMake at h
  split at h
  · rename_i l c d hd
    rw [int_inv hl, int_inv hc]
    split at h
    · rename_i el hk
      simp only [Option.bind_eq_some_iff] at h
      obtain ⟨de, hde, h⟩ := h
      split at h
      · rename_i hc
        obtain ⟨c1, c2, c3, c4⟩ := hc
        cases h
        have hmost : (most : Int) = 140737488355328 := rfl
        obtain ⟨i, zz, i1, i2, i3, _⟩ := run_info hD hde w
        obtain ⟨z, r1, r2, r3, r4⟩ := zeroRow (P := P) hD hde c.toNat w
        have hask : ∀ b w, (askRoom b).run P w = .ok () w := by
          intro b w; unfold askRoom; split <;> simp [mark, Sem.run]
        have wl : IntKind.i64.wrap l = l := wrap_i64 (by omega) (by omega)
        have wc : IntKind.i64.wrap c = c := wrap_i64 (by omega) (by omega)
        have hz2 : (if c.toNat * de.size = 0 then (pure #[] : Sem (Array Value)) else do pure (← zeroValue el).cells).run P w = .ok (if c.toNat * de.size = 0 then #[] else z.cells) w := by
          split <;> simp [r1]
        have hrow : ((Array.range (c.toNat * de.size)).map (fun x => (if c.toNat * de.size = 0 then #[] else z.cells)[x % (if c.toNat * de.size = 0 then #[] else z.cells).size]!)).toList = (List.replicate c.toNat de.zero).flatten := by
          by_cases h0 : c.toNat * de.size = 0
          · rw [r3 h0, h0]; simp
          · simp only [if_neg h0]; exact r2
        obtain ⟨e1, e2⟩ := ok_newRow (P := P) (T := el) (c := (List.replicate c.toNat de.zero).flatten) hb hh (c' := ((Array.range (c.toNat * de.size)).map (fun x => (if c.toNat * de.size = 0 then #[] else z.cells)[x % (if c.toNat * de.size = 0 then #[] else z.cells).size]!)))
          (by rw [← hrow]; simp) (by intro i v hv; exact ⟨v, by rw [← hrow, Array.getElem?_toList] at hv; exact hv, clo_list (mem_rep r4 _) ρ i v hv⟩)
        refine ⟨.slice (some ⟨w.heap.size, 0, none⟩) l.toNat c.toNat, _, _, ?_, e2 _ _ (.slice 0 _ _ (κ := (c.toNat * de.size)) (by simp [Ren.set]))⟩
        simp only [Instr.makeSlice, Sem.run_bind, und_slice hD hd hk, Result.andThen_ok, asInt, asIntOf, Sem.run_pure, i1, i3, wl, wc]
        rw [if_neg (by simp only [Bool.or_eq_true, decide_eq_true_eq, not_or]; omega)]
        simp only [Sem.run_bind, hask, Result.andThen_ok, run_size hD hde, Sem.run_ite, Sem.run_pure, r1]
        by_cases h0 : c.toNat * de.size = 0
        · simp only [if_pos h0] at e1 ⊢; simp only [Result.andThen_ok, e1]
        · simp only [if_neg h0] at e1 ⊢; simp only [Result.andThen_ok, e1]
      · cases h
    · cases h
  · cases h
end
end Go.Proofs.Ytdnnojblneccdaa
/-
  Slicing, places, conversions; and all operations together.
-/
namespace Go.Proofs.Ytdnnojblneccdaa
set_option linter.unusedSimpArgs false
set_option linter.unusedVariables false
open Go
section
variable {P : Program} {D : Ty} {K : Kinds} {ρ : Ren} {H : IHeap} {w : World} {n : Nat}
theorem bound_run {v : Value} {i d : Nat} (h : bnd (some v) d = some i) (y : Nat) (hy : i ≤ y) (code : BoundsCode) {v' : Value} (hv : VR ρ v v') : (Instr.sliceBound v' y code).run P w = .ok i w := by
  unfold bnd at h
  split at h
  · cases ‹some v = none›
  · rename_i k j e
    cases e
    split at h
    · rename_i h0
      cases h
      rw [int_inv hv]
      rw [run_sliceBound w k j y code h0 (by omega)]
    · cases h
  · cases h
inductive VRO (ρ : Ren) : Option Value → Option Value → Prop
  | none : VRO ρ none none
  | some {v w : Value} (h : VR ρ v w) : VRO ρ (some v) (some w)
theorem bounds_run {isSlice : Bool} {len cap m' : Nat} {lo hi mx lo' hi' mx' : Option Value} {l h m : Nat} (e1 : bnd lo 0 = some l) (e2 : bnd hi len = some h) (e3 : bnd mx cap = some m)
    (c1 : l ≤ h) (c2 : h ≤ m) (c3 : m ≤ m') (c4 : (hi.isSome || mx.isNone) = true) (r1 : VRO ρ lo lo') (r2 : VRO ρ hi hi') (r3 : VRO ρ mx mx') :
    (Instr.sliceBounds isSlice len m' lo' hi' mx').run P w = .ok (l, h, if mx.isSome then m else m') w := by
  cases r3 with
  | none =>
    cases r2 with
    | none =>
      cases e2
      cases r1 with
      | none => cases e1; simp [Instr.sliceBounds]
      | some q =>
        have := fun code => bound_run (P := P) (w := w) (y := len) e1 c1 code q
        simp [Instr.sliceBounds, this]
    | some p =>
      have h2 := fun code => bound_run (P := P) (w := w) (y := m') e2 (by omega) code p
      cases r1 with
      | none => cases e1; simp [Instr.sliceBounds, h2]
      | some q =>
        have := fun code => bound_run (P := P) (w := w) (y := h) e1 c1 code q
        simp [Instr.sliceBounds, this, h2]
  | some z =>
    have h3 := fun code => bound_run (P := P) (w := w) (y := m') e3 (by omega) code z
    cases r2 with
    | none => simp at c4
    | some p =>
      have h2 := fun code => bound_run (P := P) (w := w) (y := m) e2 (by omega) code p
      cases r1 with
      | none => cases e1; simp [Instr.sliceBounds, h2, h3]
      | some q =>
        have := fun code => bound_run (P := P) (w := w) (y := h) e1 c1 code q
        simp [Instr.sliceBounds, this, h2, h3]
theorem goOn_add (r off k : Nat) : goOn ⟨r, off, none⟩ k = (⟨r, off, none⟩ : Addr).add k := by
  unfold goOn Addr.add; split <;> rfl
/-- slicing a row, or an array -/
theorem ok_sliceIt {id off r κ len cap sz cap' : Nat} {sp : Option Nat} {lo hi mx lo' hi' mx' : Option Value} {v : Value} (h : sliceIt ⟨id, off, sp⟩ len cap sz lo hi mx = some v) (hr : ρ id = some (r, κ))
    (hc : (sp = none ∧ cap' = cap) ∨ (∃ s, sp = some s ∧ cap ≤ cap' ∧ off + cap' * s = κ)) (r1 : VRO ρ lo lo') (r2 : VRO ρ hi hi') (r3 : VRO ρ mx mx') (isSlice : Bool) :
    ∃ l h m : Nat, (Instr.sliceBounds isSlice len cap' lo' hi' mx').run P w = .ok (l, h, m) w ∧
      VR ρ v (.slice (some (if m = l then ⟨r, off, none⟩ else (⟨r, off, none⟩ : Addr).add (l * sz))) (h - l) (m - l)) := by
  unfold sliceIt at h
  split at h
  · rename_i l hh m e1 e2 e3
    split at h
    · rename_i hcond
      obtain ⟨c1, c2, c3, c4⟩ := hcond
      refine ⟨l, hh, if mx.isSome then m else cap', bounds_run (P := P) (w := w) (isSlice := isSlice) e1 e2 e3 c1 c2 (by rcases hc with ⟨_, rfl⟩ | ⟨_, _, h, _⟩ <;> omega) c4 r1 r2 r3, ?_⟩
      cases sp with
      | none =>
        simp only [Option.some.injEq] at h
        have hcap : cap' = cap := by
          rcases hc with ⟨_, h⟩ | ⟨s, hs, _⟩
          · exact h
          · cases hs
        subst hcap
        have hm : (if mx.isSome then m else cap') = m := by
          cases mx with
          | none => cases e3; simp
          | some x => simp
        rw [hm]
        subst h
        split
        · exact .slice off _ _ hr
        · rw [goOn_add, addr_add, addr_add]
          exact .slice _ _ _ hr
      | some s =>
        obtain ⟨c6, c7⟩ : cap ≤ cap' ∧ off + cap' * s = κ := by
          rcases hc with ⟨h, _⟩ | ⟨s', hs, c6, c7⟩
          · cases h
          · cases hs; exact ⟨c6, c7⟩
        have hgo : goOn ⟨id, off, some s⟩ (l * sz) = ⟨id, off + l * sz, some s⟩ := by unfold goOn; split <;> simp_all
        cases mx with
        | none =>
          simp only at h
          split at h
          · rename_i hc2
            obtain ⟨c5, rfl⟩ := hc2
            cases h
            simp only [Option.isSome_none, Bool.false_eq_true, if_false]
            have hm2 : cap = m := by cases e3; rfl
            rw [hgo]
            by_cases hl : cap' = l
            · have hl0 : l = 0 := by omega
              subst hl0
              rw [if_pos hl]
              rw [Nat.zero_mul, Nat.add_zero]
              exact .oslice (κ := κ) hr (by omega) (by omega) (by simpa using c7)
            · rw [if_neg hl, addr_add]
              refine .oslice hr (by omega) (by omega) ?_
              rw [← c7, Nat.add_assoc, ← Nat.add_mul]
              congr 2; omega
          · cases h
        | some x =>
          simp only at h
          split at h
          · rename_i hs
            subst hs
            cases h
            simp only [Option.isSome_some, if_true]
            split
            · exact .slice off _ _ hr
            · rw [addr_add, hgo]
              exact .slice _ _ _ hr
          · cases h
    · cases h
  · cases h
theorem foldl_push (ns : List Int) : ∀ s : ByteArray, ns.foldl (fun r n => r.push (UInt8.ofNat n.toNat)) s = ⟨s.data ++ (ns.map fun n => UInt8.ofNat n.toNat).toArray⟩ := by
  induction ns with
  | nil => intro s; apply ByteArray.ext; simp
  | cons n ns ih =>
    intro s
    simp only [List.foldl_cons, ih, List.map_cons]
    congr 1
    simp [ByteArray.data_push]
theorem ok_convert (hD : DOk P D) (hb : Below n ρ) (hh : HR ρ H w) {src dst : TypeId} {x x' : Value} {ef : Eff} (h : doConvert D H n src dst x = some ef) (hx : VR ρ x x') :
    Runs P (convert src dst x') ρ H n ef w := by
  unfold doConvert at h
  split at h
  · rename_i s d hs hd
    obtain ⟨us, s1, s2, s3⟩ := run_und hD hs w
    obtain ⟨ud, d1, d2, d3⟩ := run_und hD hd w
    split at h
    · rename_i k k2 a hk
      rw [hk] at d3; simp only [TK.fits] at d3; subst d3
      rw [int_inv hx]
      refine Runs.val hb hh h (.int _ _) ?_
      simp only [convert, Sem.run_bind, s1, d1, Result.andThen_ok]
      rfl
    · rename_i b hk
      rw [hk] at d3; simp only [TK.fits] at d3; subst d3
      rw [str_inv hx]
      refine Runs.val hb hh h (.str _) ?_
      simp only [convert, Sem.run_bind, s1, d1, Result.andThen_ok]
      cases us <;> rfl
    · rename_i el b hk
      rw [hk] at d3; simp only [TK.fits] at d3; subst d3
      simp only [Option.bind_eq_some_iff] at h
      obtain ⟨de, hde, h⟩ := h
      split at h
      · rename_i hk2
        split at h
        · rename_i hle
          cases h
          rw [str_inv hx]
          let q : Question := .appendCap b.size 0 el
          let cp := q.cut (w.tape w.drawn q)
          have hcp : b.size ≤ cp := by simp only [cp, q, Question.cut]; omega
          let w1 : World := { w with drawn := w.drawn + 1 }
          have hch : (choose q).run P w = .ok cp w1 := by simp [choose, Sem.run, Question.forced, q, cp, w1]
          let cells : Array Value := (b.data.map fun b => .int .u8 b.toNat) ++ Array.replicate (cp - b.size) (.int .u8 0)
          have hsz : cells.size = cp := by simp [cells]; have : b.data.size = b.size := rfl; omega
          let w2 : World := w1.alloc (.cells cells el)
          let w3 : World := w2.freeze ⟨w.heap.size, cells.size, none⟩ 1
          have hheap : w3.heap = w.heap.push (.cells cells el (cells.size, cells.size + 1)) := by
            simp only [w3, World.freeze, w2, w1, World.alloc]
            rw [if_neg (by omega)]
            simp only
            apply Array.ext
            · simp
            · intro i h1 h2
              simp only [Array.getElem_modify, Array.getElem_push]
              by_cases hi : i = w.heap.size
              · subst hi; simp
              · have : i < w.heap.size := by simp at h1; omega
                rw [if_neg (fun e => hi e.symm), dif_pos this, dif_pos this]
          have hrun : (convert src dst (.string b)).run P w = .ok (.slice (some ⟨w.heap.size, 0, none⟩) b.size cp) w3 := by
            have hnew : (newRow el cells).run P w1 = .ok ⟨w.heap.size, 0, none⟩ w2 := by simp [newRow, newObj]; rfl
            have hms : (markStringish ⟨w.heap.size, 0, none⟩).run P w2 = .ok () w3 := by
              have hsh : w2.shape? w.heap.size = some (el, cells.size) := by simp [World.shape?, w2, w1, World.alloc]
              simp [markStringish, shape, freeze, Sem.run, hsh, w3]
            have hcv : (Conv.stringToBytes el b).run P w = .ok (.slice (some ⟨w.heap.size, 0, none⟩) b.size cp) w3 := by
              simp only [Conv.stringToBytes, Sem.run_bind]
              have := hch; simp only [q] at this
              simp only [this, Result.andThen_ok, hnew, hms, Sem.run_pure, cells]
            have hu8 := und_int (P := P) hD hde hk2 w
            have hk3 : (do match (← underlying el) with
                | .int .u8 => Conv.stringToBytes el b
                | .int .i32 => Conv.stringToRunes el b
                | _ => stuck "Convert: string to a slice of what?" : Sem Value).run P w = .ok (.slice (some ⟨w.heap.size, 0, none⟩) b.size cp) w3 := by
              simp only [Sem.run_bind, hu8, Result.andThen_ok, hcv]
            simp only [convert, Sem.run_bind, s1, d1, Result.andThen_ok]
            rw [Sem.run_bind] at hk3
            cases us <;> exact hk3
          refine ⟨_, w3, _, hrun, Post.newRow (w := w) (w' := w3) (T := el) (fz := (cells.size, cells.size + 1)) (c' := cells) hb hh hheap ?_ rfl rfl rfl ?_ ?_ (VR.oslice (id := n) (r := w.heap.size) (κ := cells.size) (by simp [Ren.set]) hcp (Nat.le_refl _) (by omega))⟩
          · exact .inr (by simp)
          · simp only [List.length_map, Array.length_toList]; have : b.data.size = b.size := rfl; omega
          · intro i v hv
            simp only [List.getElem?_map, Option.map_eq_some_iff, Array.getElem?_toList] at hv
            obtain ⟨c, hc, rfl⟩ := hv
            have hi := (Array.getElem?_eq_some_iff.1 hc).1
            refine ⟨.int .u8 c.toNat, ?_, .int _ _⟩
            simp only [cells]
            rw [Array.getElem?_append_left (by simpa using hi)]
            simp [hc]
        · cases h
      · cases h
    · rename_i el id off len cap hk
      rw [hk] at d3; simp only [TK.fits] at d3; subst d3
      simp only [Option.bind_eq_some_iff] at h
      obtain ⟨de, hde, h⟩ := h
      split at h
      · rename_i hc
        obtain ⟨hk2, rfl, hcap⟩ := hc
        split at h
        · rename_i c ho
          cases h
          obtain ⟨r', κ', c', T, fz, g1, g2, g3, g4, g5, g6⟩ := hh.row ho
          have hu8 := und_int (P := P) hD hde hk2 w
          cases hx with
          | void a => exact absurd rfl hcap
          | slice _ _ _ hr =>
            rw [g1] at hr
            cases hr
            let w1 : World := w.freeze ⟨r', c'.size, none⟩ 1
            have hms : (markStringish ⟨r', off, none⟩).run P w = .ok () w1 := by
              have hsh : w.shape? r' = some (T, c'.size) := by simp [World.shape?, g2]
              simp [markStringish, shape, freeze, Sem.run, hsh, w1]
            have hus : us = .slice el := by
              rw [s2] at d2; cases d2; rfl
            subst hus
            have hrun : (convert src src (.slice (some ⟨r', off, none⟩) len cap)).run P w = .ok (.slice (some ⟨r', off, none⟩) len cap) w1 := by
              simp only [convert, Sem.run_bind, s1, Result.andThen_ok, beq_self_eq_true, hu8, hms, Sem.run_pure]
            have hheap : w1.heap = w.heap.modify r' fun
                | .cells c elem (lo, hi) => .cells c elem (if lo == hi then (c'.size, c'.size + 1) else (min lo c'.size, max hi (c'.size + 1)))
                | o => o := by
              simp only [w1, World.freeze]
              rw [if_neg (by omega)]
              rfl
            have hlt : r' < w.heap.size := (Array.getElem?_eq_some_iff.1 g2).1
            have hat : w1.heap[r']? = some (.cells c' T (if fz.1 == fz.2 then (c'.size, c'.size + 1) else (min fz.1 c'.size, max fz.2 (c'.size + 1)))) := by
              rw [hheap, Array.getElem?_modify, if_pos rfl, g2]
              obtain ⟨lo, hi⟩ := fz
              rfl
            refine ⟨_, w1, ρ, hrun, Post.store hb hh ho g1 (T := T) ?_ hat g3 g4 g6 ?_ ?_ rfl rfl rfl (.slice _ _ _ g1)⟩
            · rw [← g3]; exact Free.mark (by rw [g3]; exact g5 rfl)
            · intro k hk'
              rw [hheap, Array.getElem?_modify, if_neg (fun e => hk' e.symm)]
            · rw [hheap, Array.size_modify]
        · cases h
      · cases h
    · rename_i a len cap hk
      rw [hk] at d3; simp only [TK.fits] at d3; subst d3
      split at h
      · rename_i el hks
        rw [hks] at s3; simp only [TK.fits] at s3; subst s3
        simp only [Option.bind_eq_some_iff] at h
        obtain ⟨de, hde, h⟩ := h
        split at h
        · rename_i hk2
          simp only [Option.bind_eq_some_iff] at h
          obtain ⟨xs, hxs, h⟩ := h
          split at h
          · rename_i hall
            obtain ⟨ue, e1, e2, e3⟩ := run_und hD hde w
            rw [hk2] at e3; simp only [TK.fits] at e3; subst e3
            obtain ⟨arr, a1, a2, a3, a4, a5⟩ := src_ok (P := P) (k := len) hh hxs rfl hx
            have hns : ∃ ns : List Int, xs = ns.map (Value.int .u8) := by
              clear h a5 a4 a3 hxs
              induction xs with
              | nil => exact ⟨[], rfl⟩
              | cons x xs ih =>
                simp only [List.all_cons, Bool.and_eq_true] at hall
                obtain ⟨ns, rfl⟩ := ih hall.2
                have h1 := hall.1
                split at h1
                · rename_i i; exact ⟨i :: ns, rfl⟩
                · cases h1
            obtain ⟨ns, rfl⟩ := hns
            have harr : arr = (ns.map (Value.int .u8)).toArray := by
              apply Array.ext_getElem?
              intro i
              by_cases hi : i < ns.length
              · obtain ⟨v', f1, f2⟩ := a5 i (.int .u8 ns[i]) (by simp [hi])
                rw [f1]; cases f2; simp [hi]
              · have : arr.size = ns.length := by simpa using a3
                have h1 : arr[i]? = none := Array.getElem?_eq_none (by omega)
                have h2 : ((ns.map (Value.int .u8)).toArray)[i]? = none := by
                  apply Array.getElem?_eq_none; simp; omega
                rw [h1, h2]
            refine Runs.val (v' := .string ⟨(ns.map fun n => UInt8.ofNat n.toNat).toArray⟩) hb hh h ?_ ?_
            · simp only [List.map_map, Function.comp_def]; exact .str _
            · cases hx with
              | nilSlice =>
                simp only [srcCells, Option.some.injEq] at hxs
                have : ns = [] := by simpa using hxs.symm
                subst this
                rw [run_convert_bytes_string w src dst el none 0 0 s2 e2 d2]
                simp [Conv.bytesToString]; rfl
              | void a' =>
                have hn : ns = [] := by
                  have : (ns.map (Value.int .u8)).length = 0 := by rw [a4]
                  simpa using this
                subst hn
                rw [run_convert_bytes_string w src dst el _ _ _ s2 e2 d2]
                have hl := a2 w (fun _ => rfl)
                simp only [Builtin.firstCells, Nat.mul_one] at hl
                rw [run_bytesToString w _ _ _ [] (by rw [← harr]; exact hl), foldl_push]
                try simp
              | slice off len cap hr =>
                rw [run_convert_bytes_string w src dst el _ _ _ s2 e2 d2]
                have hl := a2 w (fun _ => rfl)
                simp only [Builtin.firstCells, Nat.mul_one] at hl
                rw [run_bytesToString w _ _ _ ns (by rw [← harr]; exact hl), foldl_push]
                simp
              | oslice hr q1 q2 q3 =>
                rw [run_convert_bytes_string w src dst el _ _ _ s2 e2 d2]
                have hl := a2 w (fun _ => rfl)
                simp only [Builtin.firstCells, Nat.mul_one] at hl
                rw [run_bytesToString w _ _ _ ns (by rw [← harr]; exact hl), foldl_push]
                simp
          · cases h
        · cases h
      · cases h
    · cases h
  · cases h
end
end Go.Proofs.Ytdnnojblneccdaa
/-
  All operations together.
-/
namespace Go.Proofs.Ytdnnojblneccdaa
set_option linter.unusedSimpArgs false
set_option linter.unusedVariables false
open Go
section
variable {P : Program} {D : Ty} {K : Kinds} {ρ : Ren} {H : IHeap} {w : World} {n : Nat}
/-- the operation's run, from related operands, comes to the effect -/
def OpRuns (P : Program) (o : Oper) (e' : Operand → Value) (ρ : Ren) (H : IHeap) (n : Nat) (ef : Eff) (w : World) : Prop :=
  ∃ nx v' w' ρ', (execOp e' o).run P w = .ok nx w' ∧ (nx = .value v' ∨ nx = .skip ∧ v' = undef) ∧ Post ρ H n ef v' ρ' w w'
theorem Runs.op {o : Oper} {e' : Operand → Value} {s : Sem Value} {ef : Eff} (h : Runs P s ρ H n ef w) (ho : execOp e' o = (do pure (.value (← s)) : Sem Next)) : OpRuns P o e' ρ H n ef w := by
  obtain ⟨v', w', ρ', h1, h2⟩ := h
  exact ⟨.value v', v', w', ρ', by rw [ho]; simp [h1], .inl rfl, h2⟩
theorem ok_sliceNil {sz : Nat} {lo hi mx lo' hi' mx' : Option Value} {v : Value} (h : sliceIt ⟨0, 0, none⟩ 0 0 sz lo hi mx = some v) (r1 : VRO ρ lo lo') (r2 : VRO ρ hi hi') (r3 : VRO ρ mx mx') :
    ∃ l h m : Nat, (Instr.sliceBounds true 0 0 lo' hi' mx').run P w = .ok (l, h, m) w ∧ h - l = 0 ∧ m - l = 0 := by
  unfold sliceIt at h
  split at h
  · rename_i l hh m e1 e2 e3
    split at h
    · rename_i hcond
      obtain ⟨c1, c2, c3, c4⟩ := hcond
      refine ⟨l, hh, if mx.isSome then m else 0, bounds_run (P := P) (w := w) (isSlice := true) e1 e2 e3 c1 c2 c3 c4 r1 r2 r3, by omega, ?_⟩
      split <;> omega
    · cases h
  · cases h
theorem ok_sliceVoid {id off sz : Nat} {lo hi mx lo' hi' mx' : Option Value} {v : Value} (h : sliceIt ⟨id, off, none⟩ 0 0 sz lo hi mx = some v) (r1 : VRO ρ lo lo') (r2 : VRO ρ hi hi') (r3 : VRO ρ mx mx') :
    (Instr.sliceBounds true 0 0 lo' hi' mx').run P w = .ok (0, 0, 0) w ∧ v = .slice (some ⟨id, off, none⟩) 0 0 := by
  unfold sliceIt at h
  split at h
  · rename_i l hh m e1 e2 e3
    split at h
    · rename_i hcond
      obtain ⟨c1, c2, c3, c4⟩ := hcond
      obtain rfl : m = 0 := by omega
      obtain rfl : hh = 0 := by omega
      obtain rfl : l = 0 := by omega
      have := bounds_run (P := P) (w := w) (isSlice := true) e1 e2 e3 c1 c2 c3 c4 r1 r2 r3
      refine ⟨?_, by simpa using h.symm⟩
      rw [this]; split <;> rfl
    · cases h
  · cases h
theorem vro {e e' : Operand → Value} {x : Option Operand} (h : ∀ y, x = some y → VR ρ (e y) (e' y)) : VRO ρ (x.map e) (x.map e') := by
  cases x with
  | none => exact .none
  | some y => exact .some (h y rfl)
theorem iop_ok (hD : DOk P D) (hK : KOk P K) (hF : ∀ t, fieldsKnown D t = true) (hb : Below n ρ) (hh : HR ρ H w) {o : Oper} {e e' : Operand → Value} {ef : Eff}
    (h : iop D K e H n o.op = some ef) (hv : ∀ x ∈ o.op.operands, VR ρ (e x) (e' x)) : OpRuns P o e' ρ H n ef w := by
  obtain ⟨dst, op, type, pos, after, guard⟩ := o
  simp only at h hv
  have gen : ∀ {v v' : Value} {s : Sem Value}, val n v = some ef → VR ρ v v' → s.run P w = .ok v' w → execOp e' ⟨dst, op, type, pos, after, guard⟩ = (do pure (.value (← s)) : Sem Next) → OpRuns P ⟨dst, op, type, pos, after, guard⟩ e' ρ H n ef w :=
    fun h1 h2 h3 h4 => (Runs.val hb hh h1 h2 h3).op h4
  cases op with
  | move x => cases h; exact ⟨.value (e' x), e' x, w, ρ, by simp [execOp], .inl rfl, Post.pure hb hh (hv x (by simp [Op.operands]))⟩
  | assign x => cases h; exact ⟨.value (e' x), e' x, w, ρ, by simp [execOp], .inl rfl, Post.pure hb hh (hv x (by simp [Op.operands]))⟩
  | pick c a b =>
    simp only [iop] at h
    have hc := hv c (by simp [Op.operands])
    split at h
    · rename_i cb hcb
      rw [hcb] at hc
      cases h
      refine ⟨.value (if cb then e' a else e' b), _, w, ρ, by simp [execOp, bool_inv hc, asBool], .inl rfl, Post.pure hb hh ?_⟩
      cases cb
      · simpa using hv b (by simp [Op.operands])
      · simpa using hv a (by simp [Op.operands])
    · cases h
  | alloc t => exact (ok_alloc hD hb hh h).op rfl
  | box t x => exact (ok_box (t := t) hb hh h (hv x (by simp [Op.operands]))).op rfl
  | build t parts => exact (ok_build (e' := e') hD hF hb hh (by simpa only [iop] using h) (fun x hx => hv x (by simpa [Op.operands] using hx))).op rfl
  | buildSlice t len parts => exact (ok_buildSlice (e' := e') hD hb hh (by simpa only [iop] using h) (fun x hx => hv x (by simpa [Op.operands] using hx))).op rfl
  | load t a => exact (ok_load hD hb hh h (hv a (by simp [Op.operands]))).op rfl
  | store t a x =>
    obtain ⟨w', ρ', h1, h2⟩ := ok_store hD hb hh h (hv a (by simp [Op.operands])) (hv x (by simp [Op.operands]))
    exact ⟨.skip, undef, w', ρ', by simp [execOp, h1], .inr ⟨rfl, rfl⟩, h2⟩
  | nilCheck x =>
    simp only [iop] at h
    have hx := hv x (by simp [Op.operands])
    split at h
    · rename_i id off hex
      rw [hex] at hx
      cases h
      obtain ⟨r, κ, h1, h2⟩ := ptr_inv hx
      refine ⟨.value (e' x), e' x, w, ρ, ?_, .inl rfl, Post.pure hb hh hx⟩
      rw [h2]; simp [execOp, h2]
    · rename_i f a b hex
      rw [hex] at hx
      cases h
      refine ⟨.value (e' x), e' x, w, ρ, ?_, .inl rfl, Post.pure hb hh hx⟩
      generalize he : e' x = y at *
      cases hx
      simp [execOp, he]
    · cases h
  | binOp op t x y ty =>
    simp only [iop, Option.bind_eq_some_iff] at h
    obtain ⟨v, hv1, h⟩ := h
    obtain ⟨h1, h2⟩ := ok_binOp (P := P) (w := w) hD hK hv1 (hv x (by simp [Op.operands])) (hv y (by simp [Op.operands])) x y
    exact gen h h2 h1 rfl
  | unOp op t x =>
    simp only [iop, Option.bind_eq_some_iff] at h
    obtain ⟨v, hv1, h⟩ := h
    have hx := hv x (by simp [Op.operands])
    generalize e x = ex at *
    generalize he : e' x = ex' at *
    have : (Op.unary op ex').run P w = .ok v w ∧ VR ρ v v := by
      unfold unOp' at hv1
      split at hv1
      · cases hx; cases hv1; exact ⟨by simp [Op.unary, Op.intArith], .int _ _⟩
      · cases hx; cases hv1; exact ⟨by simp [Op.unary, Op.intBits], .int _ _⟩
      · cases hx; cases hv1; exact ⟨by simp [Op.unary], .bool _⟩
      · cases hv1
    exact gen h this.2 this.1 (by simp only [execOp, he])
  | convert s d x => exact (ok_convert hD hb hh h (hv x (by simp [Op.operands]))).op rfl
  | sliceToArrayPointer t x =>
    simp only [iop, Option.bind_eq_some_iff] at h
    obtain ⟨d, hd, h⟩ := h
    have hx := hv x (by simp [Op.operands])
    generalize e x = ex at *
    generalize he : e' x = ex' at *
    split at h
    · rename_i k el a len cap hk
      split at h
      · rename_i hle
        have hu := und_arr (P := P) hD hd hk w
        obtain ⟨hle, hk0⟩ := hle
        cases hx with
        | void a' => exact absurd (Nat.le_zero.1 hle) hk0
        | slice off len cap hr =>
          rename_i id r κ
          exact gen h (.ptr off hr) (s := Instr.arrayAt t (.slice (some ⟨r, off, none⟩) len cap)) (by simp [Instr.arrayAt, hu, Nat.not_lt.2 hle]) (by simp only [execOp, he])
        | oslice hr q1 q2 q3 =>
          rename_i id r κ off sz cap'
          exact gen h (.ptr off hr) (s := Instr.arrayAt t (.slice (some ⟨r, off, none⟩) len cap')) (by simp [Instr.arrayAt, hu, Nat.not_lt.2 hle]) (by simp only [execOp, he])
      · cases h
    · cases h
  | makeFunc fn first captured =>
    simp only [iop] at h
    have hrel : ∀ (xs : Array Operand), (∀ x ∈ xs, x ∈ (Op.makeFunc fn first captured).operands) → ∀ (i : Nat) (x y : Value), (xs.map e)[i]? = some x → (xs.map e')[i]? = some y → VR ρ x y := by
      intro xs hxs i x y h1 h2
      simp only [Array.getElem?_map, Option.map_eq_some_iff] at h1 h2
      obtain ⟨o, ho, rfl⟩ := h1
      obtain ⟨o', ho', rfl⟩ := h2
      rw [ho] at ho'; cases ho'
      exact hv o (hxs o (Array.mem_of_getElem? ho))
    exact gen h (.func fn (by simp) (hrel first (fun x hx => by simp [Op.operands, hx])) (by simp) (hrel captured (fun x hx => by simp [Op.operands, hx]))) (s := Instr.makeFunc fn (first.map e') (captured.map e')) rfl rfl
  | makeSlice t l c => exact (ok_make hD hb hh h (hv l (by simp [Op.operands])) (hv c (by simp [Op.operands]))).op rfl
  | slice t x lo hi mx =>
    simp only [iop, Option.bind_eq_some_iff] at h
    obtain ⟨d, hd, h⟩ := h
    have hx := hv x (by simp [Op.operands])
    have r1 : VRO ρ (lo.map e) (lo.map e') := vro fun y hy => hv y (by simp [Op.operands, hy])
    have r2 : VRO ρ (hi.map e) (hi.map e') := vro fun y hy => hv y (by simp [Op.operands, hy])
    have r3 : VRO ρ (mx.map e) (mx.map e') := vro fun y hy => hv y (by simp [Op.operands, hy])
    generalize e x = ex at *
    generalize he : e' x = ex' at *
    split at h
    · rename_i k el id off hk
      simp only [Option.bind_eq_some_iff] at h
      obtain ⟨de, hde, v, hv1, h⟩ := h
      obtain ⟨r, κ, h1, rfl⟩ := ptr_inv hx
      obtain ⟨l, hh', m, b1, b2⟩ := ok_sliceIt (P := P) (w := w) (cap' := k) hv1 h1 (.inl ⟨rfl, rfl⟩) r1 r2 r3 false
      exact gen h b2 (s := Instr.sliceAt t (.pointer (some ⟨r, off, none⟩)) (lo.map e') (hi.map e') (mx.map e')) (by simp [Instr.sliceAt, und_arr (P := P) hD hd hk, Instr.sureAddr, b1, run_size hD hde]) (by simp only [execOp, he])
    · rename_i el a len cap hk
      simp only [Option.bind_eq_some_iff] at h
      obtain ⟨de, hde, v, hv1, h⟩ := h
      have hu := und_slice (P := P) hD hd hk w
      cases hx with
      | void a' =>
        obtain ⟨b1, rfl⟩ := ok_sliceVoid (P := P) (w := w) hv1 r1 r2 r3
        refine gen h (.void a') (s := Instr.sliceAt t (.slice (some a') 0 0) (lo.map e') (hi.map e') (mx.map e')) ?_ (by simp only [execOp, he])
        simp only [Instr.sliceAt, Sem.run_bind, hu, Result.andThen_ok, Instr.slice, b1, run_size hD hde, Sem.run_pure]
        simp
      | slice off len cap hr =>
        rename_i id r κ
        obtain ⟨l, hh', m, b1, b2⟩ := ok_sliceIt (P := P) (w := w) (cap' := cap) hv1 hr (.inl ⟨rfl, rfl⟩) r1 r2 r3 true
        refine gen h b2 (s := Instr.sliceAt t (.slice (some ⟨r, off, none⟩) len cap) (lo.map e') (hi.map e') (mx.map e')) ?_ (by simp only [execOp, he])
        simp only [Instr.sliceAt, Sem.run_bind, hu, Result.andThen_ok, Instr.slice, b1, run_size hD hde, Sem.run_pure]
        split <;> simp
      | oslice hr q1 q2 q3 =>
        rename_i id r κ off sz' cap'
        obtain ⟨l, hh', m, b1, b2⟩ := ok_sliceIt (P := P) (w := w) hv1 hr (.inr ⟨_, rfl, q1, q3⟩) r1 r2 r3 true
        refine gen h b2 (s := Instr.sliceAt t (.slice (some ⟨r, off, none⟩) len cap') (lo.map e') (hi.map e') (mx.map e')) ?_ (by simp only [execOp, he])
        simp only [Instr.sliceAt, Sem.run_bind, hu, Result.andThen_ok, Instr.slice, b1, run_size hD hde, Sem.run_pure]
        split <;> simp
    · rename_i el len cap hk
      simp only [Option.bind_eq_some_iff] at h
      obtain ⟨de, hde, v, hv1, h⟩ := h
      have hu := und_slice (P := P) hD hd hk w
      cases hx
      obtain ⟨l, h', m, b1, b2, b3⟩ := ok_sliceNil (P := P) (w := w) hv1 r1 r2 r3
      refine gen h .nilSlice (s := Instr.sliceAt t (.slice none 0 0) (lo.map e') (hi.map e') (mx.map e')) ?_ (by simp only [execOp, he])
      simp only [Instr.sliceAt, Sem.run_bind, hu, Result.andThen_ok, Instr.slice, b1, run_size hD hde, Sem.run_pure, b2, b3]
      split <;> simp
    · cases h
  | fieldAddr t x f => exact (ok_fieldAddr hD hb hh h (hv x (by simp [Op.operands]))).op rfl
  | field t x f => exact (ok_field hD hb hh h (hv x (by simp [Op.operands]))).op rfl
  | indexAddr t x i =>
    simp only [iop, Option.bind_eq_some_iff] at h
    obtain ⟨d, hd, h⟩ := h
    have hx := hv x (by simp [Op.operands])
    have hi := hv i (by simp [Op.operands])
    generalize e x = ex at *
    generalize e i = ei at *
    generalize he : e' x = ex' at *
    generalize he2 : e' i = ei' at *
    split at h
    · rename_i k el id off ki iv hk
      simp only [Option.bind_eq_some_iff] at h
      obtain ⟨de, hde, h⟩ := h
      split at h
      · rename_i hc
        obtain ⟨r, κ, h1, rfl⟩ := ptr_inv hx
        rw [int_inv hi] at he2
        refine gen h (.ptr (off + iv.toNat * de.size) h1) (s := Instr.indexAt t (.pointer (some ⟨r, off, none⟩)) (.int ki iv)) ?_ (by simp only [execOp, he, he2])
        simp [Instr.indexAt, asIntOf, und_arr (P := P) hD hd hk, Instr.sureAddr, hc.1, hc.2, run_size hD hde, addr_add]
      · cases h
    · rename_i el id off sp len cap ki iv hk
      simp only [Option.bind_eq_some_iff] at h
      obtain ⟨de, hde, h⟩ := h
      split at h
      · rename_i hc
        rw [int_inv hi] at he2
        cases hx with
        | void a' => exact absurd hc.2 (by have := hc.1; omega)
        | slice off len cap hr =>
          rename_i r κ
          refine gen h (.ptr (off + iv.toNat * de.size) hr) (s := Instr.indexAt t (.slice (some ⟨r, off, none⟩) len cap) (.int ki iv)) ?_ (by simp only [execOp, he, he2])
          simp [Instr.indexAt, asIntOf, und_slice (P := P) hD hd hk, hc.1, hc.2, run_size hD hde, addr_add]
        | oslice hr q1 q2 q3 =>
          rename_i r κ sz' cap'
          refine gen h (.ptr (off + iv.toNat * de.size) hr) (s := Instr.indexAt t (.slice (some ⟨r, off, none⟩) len cap') (.int ki iv)) ?_ (by simp only [execOp, he, he2])
          simp [Instr.indexAt, asIntOf, und_slice (P := P) hD hd hk, hc.1, hc.2, run_size hD hde, addr_add]
      · cases h
    · cases h
  | index t x i =>
    simp only [iop, Option.bind_eq_some_iff] at h
    obtain ⟨d, hd, h⟩ := h
    have hx := hv x (by simp [Op.operands])
    have hi := hv i (by simp [Op.operands])
    generalize e x = ex at *
    generalize e i = ei at *
    generalize he : e' x = ex' at *
    generalize he2 : e' i = ei' at *
    split at h
    · rename_i k el cs ki iv hk
      simp only [Option.bind_eq_some_iff] at h
      obtain ⟨de, hde, h⟩ := h
      split at h
      · rename_i hc
        simp only [Option.bind_eq_some_iff] at h
        obtain ⟨v, hv1, h⟩ := h
        obtain ⟨b, rfl, hs, hr⟩ := agg_inv hx
        rw [int_inv hi] at he2
        obtain ⟨v', p1, p2⟩ := part_run (P := P) hD hde hs hr hv1 w
        refine gen h p2 (s := Instr.index t (.agg b) (.int ki iv)) ?_ (by simp only [execOp, he, he2])
        simp [Instr.index, asIntOf, und_arr (P := P) hD hd hk, hc.1, hc.2, run_size hD hde, p1]
      · cases h
    · rename_i s ki iv hk
      split at h
      · rename_i hc
        simp only [Option.bind_eq_some_iff] at h
        obtain ⟨b, hb1, h⟩ := h
        rw [int_inv hi] at he2
        rw [str_inv hx] at he
        refine gen h (.int _ _) (s := Instr.index t (.string s) (.int ki iv)) ?_ (by simp only [execOp, he, he2])
        have : s[iv.toNat]? = some b := by
          obtain ⟨hi, hb2⟩ := Array.getElem?_eq_some_iff.1 hb1
          rw [getElem?_pos s iv.toNat hi]
          exact congrArg some hb2
        simp [Instr.index, asIntOf, und_str (P := P) hD hd hk, hc, this]
      · cases h
    · cases h
  | extract x i =>
    simp only [iop] at h
    have hx := hv x (by simp [Op.operands])
    generalize e x = ex at *
    generalize he : e' x = ex' at *
    split at h
    · rename_i vs
      simp only [Option.bind_eq_some_iff] at h
      obtain ⟨v, hv1, h⟩ := h
      split at h
      · cases h
      · rename_i hne
        cases hx with
        | unk => simp at hne
        | tuple hs hr =>
          rename_i b
          have hi : i < vs.size := (Array.getElem?_eq_some_iff.1 hv1).1
          have hb2 : b[i]? = some b[i] := by simp
          refine gen h (hr i _ _ hv1 hb2) (s := Instr.extract (.tuple b) i) (by simp [Instr.extract, hb2]) (by simp only [execOp, he])
    · cases h
  | call c =>
    obtain ⟨callee, args, argTypes⟩ := c
    cases callee with
    | value f => simp [iop] at h
    | invoke r m => simp [iop] at h
    | builtin b =>
      simp only [iop] at h
      have hargs : ∀ x ∈ args.toList, VR ρ (e x) (e' x) := fun x hx => hv x (by simp [Op.operands, Call.operands]; simpa using hx)
      have hex : ∀ (s : Sem Value), builtin b argTypes type (args.map fun | .const _ => true | _ => false) (args.map e') = (do pure (.value (← s)) : Sem Next) →
          execOp e' ⟨dst, .call ⟨.builtin b, args, argTypes⟩, type, pos, after, guard⟩ = (do pure (.value (← s)) : Sem Next) := by
        intro s hs
        rw [← hs]; rfl
      have run : ∀ (s : Sem Value), Runs P s ρ H n ef w → builtin b argTypes type (args.map fun | .const _ => true | _ => false) (args.map e') = (do pure (.value (← s)) : Sem Next) →
          OpRuns P ⟨dst, .call ⟨.builtin b, args, argTypes⟩, type, pos, after, guard⟩ e' ρ H n ef w := fun s h1 h2 => h1.op (hex s h2)
      have one : ∀ {x : Value}, args.toList.map e = [x] → ∃ x', args.map e' = #[x'] ∧ VR ρ x x' := by
        intro x hx
        obtain ⟨l⟩ := args
        simp only [List.map_eq_cons_iff, List.map_eq_nil_iff] at hx
        obtain ⟨a, l2, rfl, rfl, rfl⟩ := hx
        exact ⟨e' a, by simp, hargs a (by simp)⟩
      have two : ∀ {x y : Value}, args.toList.map e = [x, y] → ∃ x' y', args.map e' = #[x', y'] ∧ VR ρ x x' ∧ VR ρ y y' := by
        intro x y hx
        obtain ⟨l⟩ := args
        simp only [List.map_eq_cons_iff, List.map_eq_nil_iff] at hx
        obtain ⟨a, l2, rfl, rfl, b, l3, rfl, rfl, rfl⟩ := hx
        exact ⟨e' a, e' b, by simp, hargs a (by simp), hargs b (by simp)⟩
      unfold doBuiltin at h
      split at h
      · rename_i xs x hx
        obtain ⟨x', hx1, hx2⟩ := one hx
        simp only [Option.bind_eq_some_iff] at h
        obtain ⟨d, ⟨t, ht, hd⟩, h⟩ := h
        refine run (Builtin.len_ argTypes type #[x']) ?_ (by simp only [builtin, hx1])
        split at h
        · rename_i s hk
          exact Runs.val hb hh h (.int _ _) (by simp [Builtin.len_, ht, und_str (P := P) hD hd hk, str_inv hx2, goInt])
        · rename_i el a k c hk
          refine Runs.val hb hh h (.int _ _) ?_
          cases hx2 <;> simp [Builtin.len_, ht, und_slice (P := P) hD hd hk, goInt]
        · rename_i k el hk
          exact Runs.val hb hh h (.int _ _) (by simp [Builtin.len_, ht, und_arr (P := P) hD hd hk, goInt])
        · rename_i kk el hk
          cases hx2
          exact Runs.val hb hh h (.int _ _) (by simp [Builtin.len_, ht, und_map (P := P) hD hd hk, goInt])
        · rename_i kk el id hk
          split at h
          · rename_i es ho
            cases hx2 with
            | map hr =>
              obtain ⟨r, κ, h1, es', clock, h2, h3, _⟩ := hh.obj _ _ ho
              rw [hr] at h1; cases h1
              refine Runs.val hb hh h (.int _ _) ?_
              simp [Builtin.len_, ht, und_map (P := P) hD hd hk, goInt, getObj, Sem.run, h2, h3]
          · cases h
        · cases h
      · rename_i xs x hx
        obtain ⟨x', hx1, hx2⟩ := one hx
        simp only [Option.bind_eq_some_iff] at h
        obtain ⟨d, ⟨t, ht, hd⟩, h⟩ := h
        refine run (Builtin.cap_ argTypes type #[x']) ?_ (by simp only [builtin, hx1])
        split at h
        · rename_i el blk off k c hk
          refine Runs.val hb hh h (.int _ _) ?_
          cases hx2 <;> simp [Builtin.cap_, ht, und_slice (P := P) hD hd hk, goInt]
        · rename_i el k c hk
          refine Runs.val hb hh h (.int _ _) ?_
          cases hx2 <;> simp [Builtin.cap_, ht, und_slice (P := P) hD hd hk, goInt]
        · cases h
      · rename_i xs k a k2 b2 hx
        obtain ⟨x', y', hx1, hx2, hx3⟩ := two hx
        rw [int_inv hx2, int_inv hx3] at hx1
        refine run (Builtin.min_ argTypes type #[.int k a, .int k2 b2]) ?_ (by simp only [builtin, hx1])
        exact Runs.val hb hh h (.int _ _) (by simp [Builtin.min_, Builtin.min2])
      · rename_i xs k a k2 b2 hx
        obtain ⟨x', y', hx1, hx2, hx3⟩ := two hx
        rw [int_inv hx2, int_inv hx3] at hx1
        refine run (Builtin.max_ argTypes type #[.int k a, .int k2 b2]) ?_ (by simp only [builtin, hx1])
        exact Runs.val hb hh h (.int _ _) (by simp [Builtin.max_, Builtin.max2])
      · rename_i xs s x hx
        obtain ⟨x', y', hx1, hx2, hx3⟩ := two hx
        exact run _ (ok_append (ty := type) hD hb hh h hx2 hx3) (by simp only [builtin, hx1])
      · rename_i xs s x hx
        obtain ⟨x', y', hx1, hx2, hx3⟩ := two hx
        exact run _ (ok_copy (ty := type) hD hb hh h hx2 hx3) (by simp only [builtin, hx1])
      · cases h
  | _ => simp [iop] at h
end
end Go.Proofs.Ytdnnojblneccdaa
