/-
  Structs: parts of rows read and written.
-/
import Derived.Test.YtdnnojblneccdaaE23
namespace Go.Proofs.Ytdnnojblneccdaa
set_option linter.unusedSimpArgs false
set_option linter.unusedVariables false
open Go
open Enc (enc)

/-- a slice's header -/
structure Sl where
  a : Option Addr
  len : Nat
  cap : Nat
instance : Enc Sl := ⟨fun s => .slice s.a s.len s.cap, fun a b h => by
  cases a; cases b; simp only [Value.slice.injEq] at h; obtain ⟨rfl, rfl, rfl⟩ := h; rfl⟩
instance : Enc1 Sl := ⟨fun _ => rfl⟩

theorem rd_part {d : TD} {c A B C : List Value} {off : Nat} (hk : d.k.isAgg = true) (hc : c = A ++ (B ++ C)) (h1 : A.length = off) (h2 : B.length = d.size) : rdVar d c off = some (.agg B.toArray) := by
  subst hc
  unfold rdVar
  rw [if_pos hk, if_pos (by simp; omega), ← h1, ← h2]
  simp
theorem rd_one {d : TD} {c A C : List Value} {x : Value} {off : Nat} (hk : d.k.isAgg = false) (hc : c = A ++ ([x] ++ C)) (h1 : A.length = off) : rdVar d c off = some x := by
  subst hc
  unfold rdVar
  rw [if_neg (by rw [hk]; simp), ← h1]
  simp
theorem rd_all {d : TD} {c : List Value} (hk : d.k.isAgg = true) (h : c.length = d.size) : rdVar d c 0 = some (.agg c.toArray) := by
  have := rd_part (d := d) (c := c) (A := []) (B := c) (C := []) hk (by simp) rfl h
  exact this
theorem wr_part {c A B C vs : List Value} {off : Nat} (hc : c = A ++ (B ++ C)) (h1 : A.length = off) (h2 : B.length = vs.length) : wrCells c off vs = A ++ (vs ++ C) := by
  have gen : splice c off vs = A ++ (vs ++ C) := by
    subst hc
    unfold splice
    subst h1
    rw [← h2]
    simp
  unfold wrCells
  split
  · rename_i v
    subst hc
    have hb : ∃ b, B = [b] := List.length_eq_one_iff.1 (by simpa using h2)
    obtain ⟨b, rfl⟩ := hb
    subst h1
    simp
  · exact gen
theorem agg_inj {A B : List Value} (h : Value.agg A.toArray = .agg B.toArray) : A = B := by
  simp only [Value.agg.injEq] at h
  simpa using congrArg Array.toList h
theorem app_inj {A B C E : List Value} (h : A ++ B = C ++ E) (hl : A.length = C.length) : A = C ∧ B = E := List.append_inj h hl
theorem encs_vec_inj {α : Type} [Enc α] {k : Nat} {a b : Vector α k} (h : encs a.toList = encs b.toList) : a = b := Vector.toList_inj.1 (encs_inj h)
theorem encs_vec_length {α : Type} [Enc α] {k : Nat} (a : Vector α k) : (encs a.toList).length = k := by simp [encs]
theorem encs_rep {α : Type} [Enc α] {k : Nat} (x : α) : encs (Vector.replicate k x).toList = List.replicate k (enc x) := by simp [encs]
theorem wr_all {c vs : List Value} (h : c.length = vs.length) : wrCells c 0 vs = vs := by
  have := wr_part (c := c) (A := []) (B := c) (C := []) (vs := vs) (off := 0) (by simp) rfl h
  simpa using this
theorem fill_cons {place : Nat → Option (Nat × Nat)} {cells cells' r vs : List Value} {i off size : Nat} {v : Value} {rest : List (Nat × Value)} (hp : place i = some (off, size)) (hv : cellsOf v = some vs) (h1 : vs.length = size) (h2 : off + size ≤ cells.length)
    (hw : wrCells cells off vs = cells') (k : fillIn place cells' rest = some r) : fillIn place cells ((i, v) :: rest) = some r := by
  simp only [fillIn, hp, hv]
  rw [if_pos ⟨h1, h2⟩, hw]; exact k
theorem fill_nil {place : Nat → Option (Nat × Nat)} {cells : List Value} : fillIn place cells [] = some cells := rfl
theorem pl_mk {D : Ty} {fs : List (Nat × Nat)} {i o ft : Nat} {df : TD} (hf : fs[i]? = some (o, ft)) (hd : D ft = some df) : (fs[i]?.bind fun f => (D f.2).map fun df => (f.1, df.size)) = some (o, df.size) := by
  simp only [hf, Option.bind_some, hd, Option.map_some]
theorem ox_allocZ {Γ : Fns} {D : Ty} {K : Kinds} {e : Operand → Value} {H : IHeap} {n : Nat} {t : TypeId} {d : TD} {cs : List Value} (hd : D t = some d) (hz : d.zero = cs) : iopC Γ D K e H n (.alloc t) = some ⟨.pointer (some ⟨n, 0, none⟩), [(n, some (.cells cs false))], n + 1⟩ := by
  subst hz; exact ox_alloc hd
theorem ox_buildZ {Γ : Fns} {D : Ty} {K : Kinds} {H : IHeap} {n N : Nat} {L : List (Nat × Value)} {t : TypeId} {parts : Array (Nat × Operand)} {fs : List (Nat × Nat)} {d : TD} {vs : List (Nat × Value)} {zs cs : List Value} (hd : D t = some d) (hz : d.zero = zs) (hk : d.k = .struct fs) (hp : opp N L parts.toList = some vs)
    (hf : fillIn (fun i => fs[i]?.bind fun f => (D f.2).map fun df => (f.1, df.size)) zs vs = some cs) : iopC Γ D K (ev (dense N L)) H n (.build t parts) = some ⟨.agg cs.toArray, [], n⟩ := by
  subst hz; exact ox_buildS hd hk hp hf
theorem ox_buildA0 {Γ : Fns} {D : Ty} {K : Kinds} {H : IHeap} {n N : Nat} {L : List (Nat × Value)} {t : TypeId} {len el : Nat} {d de : TD} {cs : List Value} (hd : D t = some d) (hk : d.k = .arr len el) (hde : D el = some de) (hz : d.zero = cs) :
    iopC Γ D K (ev (dense N L)) H n (.build t #[]) = some ⟨.agg cs.toArray, [], n⟩ := by
  subst hz; exact ox_buildA hd hk hde rfl rfl
theorem mp_nil {e : Operand → Value} : ([] : List Operand).map e = [] := rfl
theorem mp_cons {e : Operand → Value} {x : Operand} {xs : List Operand} {v : Value} {vs : List Value} (h : e x = v) (k : xs.map e = vs) : (x :: xs).map e = v :: vs := by rw [List.map_cons, h, k]
theorem mq_nil {e : Operand → Value} : ([] : List (Nat × Operand)).map (fun p => (p.1, e p.2)) = [] := rfl
theorem mq_cons {e : Operand → Value} {i : Nat} {x : Operand} {xs : List (Nat × Operand)} {v : Value} {vs : List (Nat × Value)} (h : e x = v) (k : xs.map (fun p => (p.1, e p.2)) = vs) : ((i, x) :: xs).map (fun p => (p.1, e p.2)) = (i, v) :: vs := by
  rw [List.map_cons, h, k]
theorem ox_fnG {Γ : Fns} {D : Ty} {K : Kinds} {H : IHeap} {n : Nat} {t : List Value} {f : FuncId} {args : Array Operand} {ats : Array TypeId} {F : FnI} {ef : Eff} {vs : List Value} (hF : Γ.lookup f = some F) (ha : args.toList.map (ev t) = vs) (h : F vs H n = some ef) :
    iopC Γ D K (ev t) H n (.call ⟨.value (.func f), args, ats⟩) = some ef := ox_calls hF (by rw [ha]; exact h)
theorem ox_buildZG {Γ : Fns} {D : Ty} {K : Kinds} {H : IHeap} {n : Nat} {e : Operand → Value} {t : TypeId} {parts : Array (Nat × Operand)} {fs : List (Nat × Nat)} {d : TD} {vs : List (Nat × Value)} {zs cs : List Value} (hd : D t = some d) (hz : d.zero = zs) (hk : d.k = .struct fs) (hp : parts.toList.map (fun p => (p.1, e p.2)) = vs)
    (hf : fillIn (fun i => fs[i]?.bind fun f => (D f.2).map fun df => (f.1, df.size)) zs vs = some cs) : iopC Γ D K e H n (.build t parts) = some ⟨.agg cs.toArray, [], n⟩ := by
  subst hz
  simp only [iopC, iop, hd, hk, Option.bind_some, hp, hf, val]
theorem ox_buildAG {Γ : Fns} {D : Ty} {K : Kinds} {H : IHeap} {n : Nat} {e : Operand → Value} {t : TypeId} {parts : Array (Nat × Operand)} {len el : Nat} {d de : TD} {vs : List (Nat × Value)} {cs : List Value} (hd : D t = some d) (hk : d.k = .arr len el) (hde : D el = some de) (hp : parts.toList.map (fun p => (p.1, e p.2)) = vs)
    (hf : fillIn (fun i => some (i * de.size, de.size)) d.zero vs = some cs) : iopC Γ D K e H n (.build t parts) = some ⟨.agg cs.toArray, [], n⟩ := by
  simp only [iopC, iop, hd, hk, hde, Option.bind_some, hp, hf, val]
/-- a cell of those that a slice spans -/
theorem rd_el {α : Type} [Enc α] {d : TD} {c : List Value} {off i j : Nat} {l : List α} (hl : (c.drop off).take l.length = encs l) (h : i < l.length) (hk : d.k.isAgg = false) (hj : off + i * 1 = j) : rdVar d c j = some (enc l[i]) := by
  unfold rdVar
  rw [if_neg (by rw [hk]; simp), ← hj, Nat.mul_one]
  have h1 : ((c.drop off).take l.length)[i]? = some (enc l[i]) := by rw [hl, encs_get]; simp [h]
  rw [List.getElem?_take, if_pos h, List.getElem?_drop] at h1
  exact h1
/-- part of a row of cells, as a slice -/
theorem rs_part {α : Type} [Enc α] {H : IHeap} {id off len cap : Nat} {s : Option Nat} {c A C : List Value} {l : List α} {ro : Bool} (hH : H id = some (.cells c ro)) (hc : c = A ++ (encs l ++ C)) (h1 : A.length = off) (h2 : l.length = len) :
    rdS H (.slice (some ⟨id, off, s⟩) len cap) = some l := by
  subst hc
  simp only [rdS, hH]
  rw [if_pos (by simp [encs_length]; omega)]
  subst h1; subst h2
  have : ((A ++ (encs l ++ C)).drop A.length).take l.length = encs l := by
    rw [List.drop_left]
    rw [List.take_append_of_le_length (by rw [encs_length]; exact Nat.le_refl _), List.take_of_length_le (by rw [encs_length]; exact Nat.le_refl _)]
  rw [this]; exact decs_encs l
theorem rs_all {α : Type} [Enc α] {H : IHeap} {id len cap : Nat} {s : Option Nat} {c : List Value} {l : List α} {ro : Bool} (hH : H id = some (.cells c ro)) (hc : c = encs l) (h2 : l.length = len) :
    rdS H (.slice (some ⟨id, 0, s⟩) len cap) = some l := rs_part (A := []) (C := []) hH (by simp [hc]) rfl h2
end Go.Proofs.Ytdnnojblneccdaa
