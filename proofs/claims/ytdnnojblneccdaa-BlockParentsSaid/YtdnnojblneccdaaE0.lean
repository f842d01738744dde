/-
  Values and memory under other names: an ideal memory (a partial map from ideal numbers to lists of cells) and a renaming to the blocks of a world.
-/
import Derived.WalkKit
namespace Go.Proofs.Ytdnnojblneccdaa
set_option linter.unusedSimpArgs false
set_option linter.unusedVariables false
open Go

/-- ideal number ↦ the block, and how many cells it has -/
abbrev Ren := Nat → Option (Nat × Nat)

inductive VR (ρ : Ren) : Value → Value → Prop
  | unk (v : Value) : VR ρ (.tuple #[]) v
  | skip : VR ρ (.chan none) (.tuple #[])
  | bool (b : Bool) : VR ρ (.bool b) (.bool b)
  | int (k : IntKind) (n : Int) : VR ρ (.int k n) (.int k n)
  | str (s : ByteArray) : VR ρ (.string s) (.string s)
  | nilPtr : VR ρ (.pointer none) (.pointer none)
  | ptr {id r κ : Nat} (off : Nat) (h : ρ id = some (r, κ)) : VR ρ (.pointer (some ⟨id, off, none⟩)) (.pointer (some ⟨r, off, none⟩))
  | nilSlice : VR ρ (.slice none 0 0) (.slice none 0 0)
  | slice {id r κ : Nat} (off len cap : Nat) (h : ρ id = some (r, κ)) : VR ρ (.slice (some ⟨id, off, none⟩) len cap) (.slice (some ⟨r, off, none⟩) len cap)
  | oslice {id r κ off sz len cap cap' : Nat} (h : ρ id = some (r, κ)) (hc : cap ≤ cap') (hl : len ≤ cap) (hk : off + cap' * sz = κ) :
      VR ρ (.slice (some ⟨id, off, some sz⟩) len cap) (.slice (some ⟨r, off, none⟩) len cap')
  | func (fn : Fn) {a b c d : Array Value} (h1 : a.size = b.size) (h2 : ∀ (i : Nat) (x y : Value), a[i]? = some x → b[i]? = some y → VR ρ x y)
      (h3 : c.size = d.size) (h4 : ∀ (i : Nat) (x y : Value), c[i]? = some x → d[i]? = some y → VR ρ x y) : VR ρ (.func fn a c) (.func fn b d)
  | nilFunc : VR ρ .nilFunc .nilFunc
  | nilIface : VR ρ .nilIface .nilIface
  | iface (t : TypeId) {v w : Value} (h : VR ρ v w) : VR ρ (.iface t v) (.iface t w)
  | nilMap : VR ρ (.map none) (.map none)
  | map {id r κ : Nat} (h : ρ id = some (r, κ)) : VR ρ (.map (some id)) (.map (some r))
  | agg {a b : Array Value} (hs : a.size = b.size) (h : ∀ (i : Nat) (x y : Value), a[i]? = some x → b[i]? = some y → VR ρ x y) : VR ρ (.agg a) (.agg b)
  | tuple {a b : Array Value} (hs : a.size = b.size) (h : ∀ (i : Nat) (x y : Value), a[i]? = some x → b[i]? = some y → VR ρ x y) : VR ρ (.tuple a) (.tuple b)

/-- one renaming goes on from another -/
def Ren.le (ρ ρ' : Ren) : Prop := ∀ id x, ρ id = some x → ρ' id = some x
theorem Ren.le_refl (ρ : Ren) : ρ.le ρ := fun _ _ h => h
theorem Ren.le_trans {a b c : Ren} (h : a.le b) (k : b.le c) : a.le c := fun i x e => k i x (h i x e)

theorem VR.mono {ρ ρ' : Ren} (hr : ρ.le ρ') {v w : Value} (h : VR ρ v w) : VR ρ' v w := by
  induction h with
  | unk v => exact .unk v
  | skip => exact .skip
  | bool b => exact .bool b
  | int k n => exact .int k n
  | str s => exact .str s
  | nilPtr => exact .nilPtr
  | ptr off h => exact .ptr off (hr _ _ h)
  | nilSlice => exact .nilSlice
  | slice off len cap h => exact .slice off len cap (hr _ _ h)
  | oslice h hc hl hk => exact .oslice (hr _ _ h) hc hl hk
  | func fn h1 h2 h3 h4 i2 i4 => exact .func fn h1 i2 h3 i4
  | nilFunc => exact .nilFunc
  | nilIface => exact .nilIface
  | iface t h ih => exact .iface t ih
  | nilMap => exact .nilMap
  | map h => exact .map (hr _ _ h)
  | agg hs h ih => exact .agg hs ih
  | tuple hs h ih => exact .tuple hs ih

/-- values without an address -/
def clo1 : Value → Bool
  | .bool _ | .int _ _ | .string _ | .pointer none | .nilFunc | .nilIface | .slice none 0 0 | .map none => true
  | _ => false
def clo : Value → Bool
  | .agg cs => cs.all clo1
  | .func _ a b => a.isEmpty && b.isEmpty
  | v => clo1 v
theorem VR.clo1 (ρ : Ren) {v : Value} (h : clo1 v = true) : VR ρ v v := by
  unfold Ytdnnojblneccdaa.clo1 at h
  split at h
  · exact .bool _
  · exact .int _ _
  · exact .str _
  · exact .nilPtr
  · exact .nilFunc
  · exact .nilIface
  · exact .nilSlice
  · exact .nilMap
  · cases h
theorem VR.clo (ρ : Ren) {v : Value} (h : clo v = true) : VR ρ v v := by
  unfold Ytdnnojblneccdaa.clo at h
  split at h
  · refine .agg rfl fun i x y hx hy => ?_
    rw [hx] at hy; cases hy
    exact VR.clo1 ρ (by simpa using (Array.all_eq_true_iff_forall_mem.1 h) x (Array.mem_of_getElem? hx))
  · rename_i fn a b
    simp only [Bool.and_eq_true, Array.isEmpty_iff] at h
    obtain ⟨rfl, rfl⟩ := h
    exact .func fn rfl (by simp) rfl (by simp)
  · exact VR.clo1 ρ h

/-- the ideal objects: rows of cells ('ro': nobody may write them), and maps -/
inductive IObj where
  | cells (c : List Value) (ro : Bool)
  | map (es : List (Value × Value))
  deriving Inhabited

abbrev IHeap := Nat → Option IObj

/-- no cell below κ is frozen -/
def Free (fz : Nat × Nat) (κ : Nat) : Prop := ∀ off, off < κ → (decide (fz.1 ≤ off) && decide (off < fz.2)) = false
theorem Free.zero (κ : Nat) : Free (0, 0) κ := fun off _ => by simp

def OR (ρ : Ren) (κ : Nat) : IObj → Option Obj → Prop
  | .cells c ro, o => ∃ c' T fz, o = some (.cells c' T fz) ∧ c'.size = κ ∧ c.length ≤ κ ∧ (ro = false → Free fz κ) ∧
      ∀ (i : Nat) v, c[i]? = some v → ∃ v', c'[i]? = some v' ∧ VR ρ v v'
  | .map es, o => ∃ es' clock, o = some (.map es' clock) ∧ es'.size = es.length ∧ (∀ (i : Nat) e, es'[i]? = some e → e.born < clock) ∧
      (∀ (i j : Nat) e f, es'[i]? = some e → es'[j]? = some f → e.born = f.born → i = j) ∧
      ∀ (i : Nat) e, es[i]? = some e → ∃ e', es'[i]? = some e' ∧ VR ρ e.1 e'.key ∧ VR ρ e.2 e'.val

theorem OR.mono {ρ ρ' : Ren} (hr : ρ.le ρ') {κ : Nat} {o : IObj} {x : Option Obj} (h : OR ρ κ o x) : OR ρ' κ o x := by
  cases o with
  | cells c ro =>
    obtain ⟨c', T, fz, h1, h2, h3, h4, h5⟩ := h
    exact ⟨c', T, fz, h1, h2, h3, h4, fun i v hv => let ⟨v', a, b⟩ := h5 i v hv; ⟨v', a, b.mono hr⟩⟩
  | map es =>
    obtain ⟨es', clock, h1, h2, h3, h3', h4⟩ := h
    exact ⟨es', clock, h1, h2, h3, h3', fun i v hv => let ⟨v', a, b, c⟩ := h4 i v hv; ⟨v', a, b.mono hr, c.mono hr⟩⟩

structure HR (ρ : Ren) (H : IHeap) (w : World) : Prop where
  obj : ∀ id o, H id = some o → ∃ r κ, ρ id = some (r, κ) ∧ OR ρ κ o w.heap[r]?
  inj : ∀ i j o p r κ κ', H i = some o → H j = some p → ρ i = some (r, κ) → ρ j = some (r, κ') → i = j

/-- a smaller memory -/
def IHeap.le (H K : IHeap) : Prop := ∀ id o, H id = some o → K id = some o
theorem HR.sub {ρ : Ren} {H K : IHeap} {w : World} (h : HR ρ K w) (hs : H.le K) : HR ρ H w :=
  ⟨fun id o e => h.obj id o (hs _ _ e), fun i j o p r κ κ' a b c d => h.inj i j o p r κ κ' (hs _ _ a) (hs _ _ b) c d⟩

/-- from n on no number is in use -/
def Below (n : Nat) (ρ : Ren) : Prop := ∀ id, n ≤ id → ρ id = none
theorem Below.mono {n m : Nat} {ρ : Ren} (h : Below n ρ) (hm : n ≤ m) : Below m ρ := fun id hi => h id (Nat.le_trans hm hi)
theorem Below.lt {n : Nat} {ρ : Ren} (h : Below n ρ) {id : Nat} {x : Nat × Nat} (e : ρ id = some x) : id < n := by
  rcases Nat.lt_or_ge id n with hl | hl
  · exact hl
  · rw [h id hl] at e; cases e

/-- a step of a world, that writes no block but new ones and those of the numbers in W -/
structure Step (W : Nat → Prop) (ρ ρ' : Ren) (w w' : World) : Prop where
  le : ρ.le ρ'
  new : ∀ id r κ, ρ id = none → ρ' id = some (r, κ) → w.heap.size ≤ r ∨ ∃ i κ', ρ i = some (r, κ') ∧ W i
  size : w.heap.size ≤ w'.heap.size
  keep : ∀ r, r < w.heap.size → (∀ id κ, ρ id = some (r, κ) → ¬ W id) → w'.heap[r]? = w.heap[r]?
  os : w'.os = w.os
  tape : w'.tape = w.tape
  output : w'.output = w.output

theorem Step.refl (W : Nat → Prop) (ρ : Ren) (w : World) : Step W ρ ρ w w :=
  ⟨ρ.le_refl, fun _ _ _ h k => absurd (h.symm.trans k) (by simp), Nat.le_refl _, fun _ _ _ => rfl, rfl, rfl, rfl⟩
theorem Step.mono {W W' : Nat → Prop} {ρ ρ' : Ren} {w w' : World} (h : Step W ρ ρ' w w') (hw : ∀ id, W id → W' id) : Step W' ρ ρ' w w' :=
  ⟨h.le, fun j r κ a b => (h.new j r κ a b).imp (fun x => x) fun ⟨i, κ', c, d⟩ => ⟨i, κ', c, hw _ d⟩, h.size,
    fun r hr hn => h.keep r hr fun id κ e hW => hn id κ e (hw _ hW), h.os, h.tape, h.output⟩
/-- what is new behind the first step may be written in the second one -/
theorem Step.trans {W V : Nat → Prop} {ρ ρ₁ ρ₂ : Ren} {w w₁ w₂ : World} (h : Step W ρ ρ₁ w w₁) (k : Step V ρ₁ ρ₂ w₁ w₂)
    (hv : ∀ id x, ρ id = some x → V id → W id) : Step W ρ ρ₂ w w₂ := by
  refine ⟨Ren.le_trans h.le k.le, ?_, Nat.le_trans h.size k.size, ?_, k.os.trans h.os, k.tape.trans h.tape, k.output.trans h.output⟩
  · intro id r κ hn hs
    cases h1 : ρ₁ id with
    | some x =>
      have := k.le _ _ h1
      rw [hs] at this; cases this
      exact h.new id r κ hn h1
    | none =>
      rcases k.new id r κ h1 hs with hl | ⟨i, κ', hi, hVi⟩
      · exact .inl (Nat.le_trans h.size hl)
      · cases h0 : ρ i with
        | some y =>
          have := h.le _ _ h0
          rw [hi] at this; cases this
          exact .inr ⟨i, κ', h0, hv _ _ h0 hVi⟩
        | none => exact h.new i r κ' h0 hi
  · intro r hr hn
    rw [k.keep r (Nat.lt_of_lt_of_le hr h.size) ?_, h.keep r hr hn]
    intro id κ hid hVid
    cases h0 : ρ id with
    | some y =>
      have := h.le _ _ h0
      rw [hid] at this; cases this
      exact hn id κ h0 (hv _ _ h0 hVid)
    | none =>
      rcases h.new id r κ h0 hid with hl | ⟨i, κ', hi, hWi⟩
      · omega
      · exact hn i κ' hi hWi

/-- updates of the memory -/
def upd (H : IHeap) (id : Nat) (o : Option IObj) : IHeap := fun j => if j = id then o else H j
abbrev Ups := List (Nat × Option IObj)
def upds (H : IHeap) : Ups → IHeap
  | [] => H
  | (id, o) :: l => upds (upd H id o) l
theorem upds_append (H : IHeap) (a b : Ups) : upds H (a ++ b) = upds (upds H a) b := by
  induction a generalizing H with
  | nil => rfl
  | cons x a ih => obtain ⟨id, o⟩ := x; simp only [List.cons_append, upds]; exact ih _
theorem upds_not_mem {H : IHeap} {l : Ups} {id : Nat} (h : id ∉ l.map (·.1)) : upds H l id = H id := by
  induction l generalizing H with
  | nil => rfl
  | cons x l ih =>
    obtain ⟨j, o⟩ := x
    simp only [List.map_cons, List.mem_cons, not_or] at h
    simp only [upds]
    rw [ih h.2]
    simp [upd, h.1]
theorem upds_congr {H K : IHeap} {l : Ups} {id : Nat} (h : H id = K id) : upds H l id = upds K l id := by
  induction l generalizing H K with
  | nil => exact h
  | cons x l ih =>
    obtain ⟨j, o⟩ := x
    simp only [upds]
    refine ih ?_
    simp only [upd]; split
    · rfl
    · exact h
theorem upds_mem {H K : IHeap} {l : Ups} {id : Nat} (h : id ∈ l.map (·.1)) : upds H l id = upds K l id := by
  induction l generalizing H K with
  | nil => cases h
  | cons x l ih =>
    obtain ⟨j, o⟩ := x
    simp only [upds]
    by_cases hm : id ∈ l.map (·.1)
    · exact ih hm
    · simp only [List.map_cons, List.mem_cons, hm, or_false] at h
      subst h
      exact upds_congr (by simp [upd])

/-- what a step comes to: its value, what it writes, the next free number -/
structure Eff where
  v : Value
  up : Ups
  n : Nat

abbrev Eff.ids (e : Eff) : List Nat := e.up.map (·.1)

structure Post (ρ : Ren) (H : IHeap) (n : Nat) (e : Eff) (v' : Value) (ρ' : Ren) (w w' : World) : Prop where
  below : Below e.n ρ'
  step : Step (fun id => id ∈ e.ids) ρ ρ' w w'
  val : VR ρ' e.v v'
  heap : HR ρ' (upds H e.up) w'
  ids : ∀ id, id ∈ e.ids → (n ≤ id ∨ (H id).isSome) ∧ id < e.n
  le : n ≤ e.n
  fresh : ∀ id x, ρ' id = some x → ρ id = some x ∨ n ≤ id

/-- the run of an operation comes to the effect -/
def Runs (P : Program) (s : Sem Value) (ρ : Ren) (H : IHeap) (n : Nat) (e : Eff) (w : World) : Prop :=
  ∃ v' w' ρ', s.run P w = .ok v' w' ∧ Post ρ H n e v' ρ' w w'

theorem Post.pure {ρ : Ren} {H : IHeap} {n : Nat} {w : World} (hb : Below n ρ) (hh : HR ρ H w) {v v' : Value} (hv : VR ρ v v') :
    Post ρ H n ⟨v, [], n⟩ v' ρ w w :=
  ⟨hb, Step.refl _ _ _, hv, hh, fun _ h => absurd h (by simp), Nat.le_refl _, fun _ _ h => .inl h⟩

/-- the world with another count of draws -/
theorem HR.drawn {ρ : Ren} {H : IHeap} {w : World} (h : HR ρ H w) (d : Nat) : HR ρ H { w with drawn := d } := ⟨h.obj, h.inj⟩
theorem Step.drawn {W : Nat → Prop} {ρ ρ' : Ren} {w w' : World} (h : Step W ρ ρ' w w') (d : Nat) : Step W ρ ρ' w { w' with drawn := d } :=
  ⟨h.le, h.new, h.size, h.keep, h.os, h.tape, h.output⟩
theorem Step.drawnL {W : Nat → Prop} {ρ ρ' : Ren} {w w' : World} (d : Nat) (h : Step W ρ ρ' { w with drawn := d } w') : Step W ρ ρ' w w' :=
  ⟨h.le, h.new, h.size, h.keep, h.os, h.tape, h.output⟩

def Ren.set (ρ : Ren) (n r κ : Nat) : Ren := fun id => if id = n then some (r, κ) else ρ id
theorem Ren.set_le {ρ : Ren} {n r κ : Nat} (h : ρ n = none) : ρ.le (ρ.set n r κ) := by
  intro id x e
  simp only [Ren.set]; split
  · subst_vars; rw [h] at e; cases e
  · exact e

/-- a new block -/
theorem Post.newRow {ρ : Ren} {H : IHeap} {n : Nat} {w w' : World} (hb : Below n ρ) (hh : HR ρ H w) {c : List Value} {c' : Array Value} {T : TypeId} {fz : Nat × Nat}
    (hheap : w'.heap = w.heap.push (.cells c' T fz)) (hfz : Free fz c'.size) (h7 : w'.os = w.os) (h8 : w'.tape = w.tape) (h9 : w'.output = w.output)
    (hs : c.length ≤ c'.size) (hc : ∀ (i : Nat) v, c[i]? = some v → ∃ v', c'[i]? = some v' ∧ VR ρ v v') {v v' : Value}
    (hv : VR (ρ.set n w.heap.size c'.size) v v') :
    Post ρ H n ⟨v, [(n, some (.cells c false))], n + 1⟩ v' (ρ.set n w.heap.size c'.size) w w' := by
  have hle : ρ.le (ρ.set n w.heap.size c'.size) := Ren.set_le (hb n (Nat.le_refl _))
  have hold : ∀ r, r < w.heap.size → w'.heap[r]? = w.heap[r]? := by
    intro r hr
    rw [hheap, Array.getElem?_push, if_neg (by omega)]
  have hlt : ∀ {id o r κ}, H id = some o → ρ id = some (r, κ) → r < w.heap.size := by
    intro id o r κ ho hr
    obtain ⟨r', κ', h1, h2⟩ := hh.obj id o ho
    rw [hr] at h1; cases h1
    have : w.heap[r]? ≠ none := by
      cases o with
      | cells c ro => obtain ⟨c', T, fz, h1, _⟩ := h2; rw [h1]; exact fun h => by cases h
      | map es => obtain ⟨es', clock, h1, _⟩ := h2; rw [h1]; exact fun h => by cases h
    rcases Nat.lt_or_ge r w.heap.size with h | h
    · exact h
    · exact absurd (Array.getElem?_eq_none h) this
  refine ⟨?_, ⟨hle, ?_, ?_, fun r hr _ => hold r hr, h7, h8, h9⟩, hv, ⟨?_, ?_⟩, ?_, Nat.le_succ _, fun id x h => by
      simp only [Ren.set] at h
      split at h
      · exact .inr (by omega)
      · exact .inl h⟩
  · intro id hid
    simp only [Ren.set]; rw [if_neg (by have : n + 1 ≤ id := hid; omega)]
    exact hb id (by have : n + 1 ≤ id := hid; omega)
  · intro id r κ h1 h2
    simp only [Ren.set] at h2
    split at h2
    · cases h2; exact .inl (Nat.le_refl _)
    · rw [h1] at h2; cases h2
  · rw [hheap]; simp
  · intro id o ho
    simp only [upds, upd] at ho
    split at ho
    · cases ho
      subst_vars
      refine ⟨w.heap.size, c'.size, by simp [Ren.set], c', T, fz, ?_, rfl, hs, fun _ => hfz, ?_⟩
      · rw [hheap]; simp
      · intro i v hv
        obtain ⟨v', h1, h2⟩ := hc i v hv
        exact ⟨v', h1, h2.mono hle⟩
    · obtain ⟨r, κ, h1, h2⟩ := hh.obj id o ho
      refine ⟨r, κ, hle _ _ h1, ?_⟩
      rw [hold r (hlt ho h1)]
      exact h2.mono hle
  · intro i j o p r κ κ' hi hj hri hrj
    simp only [upds, upd] at hi hj
    simp only [Ren.set] at hri hrj
    split at hi
    · rename_i hin
      rw [if_pos hin] at hri; cases hri
      split at hj
      · rename_i hjn; rw [hin, hjn]
      · rename_i hjn
        rw [if_neg hjn] at hrj
        have := hlt hj hrj; omega
    · rename_i hin
      rw [if_neg hin] at hri
      split at hj
      · rename_i hjn
        rw [if_pos hjn] at hrj; cases hrj
        have := hlt hi hri; omega
      · rename_i hjn
        rw [if_neg hjn] at hrj
        exact hh.inj i j o p r κ κ' hi hj hri hrj
  · intro id hid
    simp only [Eff.ids, List.map_cons, List.map_nil, List.mem_singleton] at hid
    subst hid
    exact ⟨.inl (Nat.le_refl _), Nat.lt_succ_self _⟩

theorem Post.alloc {ρ : Ren} {H : IHeap} {n : Nat} {w : World} (hb : Below n ρ) (hh : HR ρ H w) {c : List Value} {c' : Array Value} {T : TypeId}
    (hs : c.length ≤ c'.size) (hc : ∀ (i : Nat) v, c[i]? = some v → ∃ v', c'[i]? = some v' ∧ VR ρ v v') {v v' : Value}
    (hv : VR (ρ.set n w.heap.size c'.size) v v') :
    Post ρ H n ⟨v, [(n, some (.cells c false))], n + 1⟩ v' (ρ.set n w.heap.size c'.size) w (w.alloc (.cells c' T)) :=
  Post.newRow (w' := w.alloc (.cells c' T)) (T := T) (fz := (0, 0)) hb hh rfl (Free.zero _) rfl rfl rfl hs hc hv

end Go.Proofs.Ytdnnojblneccdaa
