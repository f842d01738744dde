import Derived.Test.YtdnnojblneccdaaJB
import Derived.Laws.Externs
import Derived.ProofKit
/-
  Go values as Lean values.
-/
namespace Go.Proofs.Ytdnnojblneccdaa
set_option linter.unusedSimpArgs false
set_option linter.unusedVariables false
open Go

/-- a Lean type whose members stand for values -/
class Enc (α : Type) where
  enc : α → Value
  inj : ∀ a b, enc a = enc b → a = b
open Enc (enc)
open Classical in
noncomputable def dec {α : Type} [Enc α] (x : Value) : Option α := if h : ∃ a : α, x = enc a then some h.choose else none
theorem dec_enc {α : Type} [Enc α] (a : α) : dec (enc a) = some a := by
  unfold dec
  have h : ∃ b : α, enc a = enc b := ⟨a, rfl⟩
  rw [dif_pos h]
  exact congrArg some (Enc.inj _ _ h.choose_spec.symm)
theorem dec_some {α : Type} [Enc α] {x : Value} {a : α} (h : dec x = some a) : x = enc a := by
  unfold dec at h
  split at h
  · rename_i h'; cases h; exact h'.choose_spec
  · cases h

instance : Enc Bool := ⟨.bool, fun a b h => by cases h; rfl⟩
instance : Enc Int := ⟨.int .i64, fun a b h => by cases h; rfl⟩
instance : Enc UInt64 := ⟨fun x => .int .u64 (x.toNat : Int), fun a b h => by
  simp only [Value.int.injEq, true_and] at h
  exact UInt64.toNat_inj.1 (by omega)⟩
instance : Enc UInt32 := ⟨fun x => .int .u32 (x.toNat : Int), fun a b h => by
  simp only [Value.int.injEq, true_and] at h
  exact UInt32.toNat_inj.1 (by omega)⟩
instance : Enc UInt8 := ⟨fun x => .int .u8 (x.toNat : Int), fun a b h => by
  simp only [Value.int.injEq, true_and] at h
  exact UInt8.toNat_inj.1 (by omega)⟩

/-- cells of one kind -/
def encs {α : Type} [Enc α] (l : List α) : List Value := l.map enc
theorem encs_length {α : Type} [Enc α] (l : List α) : (encs l).length = l.length := by simp [encs]
theorem encs_inj {α : Type} [Enc α] : ∀ {a b : List α}, encs a = encs b → a = b
  | [], [], _ => rfl
  | x :: a, y :: b, h => by
    simp only [encs, List.map_cons, List.cons.injEq] at h
    rw [Enc.inj _ _ h.1, encs_inj h.2]
  | [], _ :: _, h => by simp [encs] at h
  | _ :: _, [], h => by simp [encs] at h
theorem encs_get {α : Type} [Enc α] (l : List α) (i : Nat) : (encs l)[i]? = (l[i]?).map enc := by simp [encs]
theorem encs_append {α : Type} [Enc α] (a b : List α) : encs (a ++ b) = encs a ++ encs b := by simp [encs]
theorem encs_drop {α : Type} [Enc α] (a : List α) (k : Nat) : encs (a.drop k) = (encs a).drop k := by simp [encs]
theorem encs_take {α : Type} [Enc α] (a : List α) (k : Nat) : encs (a.take k) = (encs a).take k := by simp [encs]
theorem encs_set {α : Type} [Enc α] (a : List α) (k : Nat) (x : α) : encs (a.set k x) = (encs a).set k (enc x) := by simp [encs]
open Classical in
noncomputable def decs {α : Type} [Enc α] (x : List Value) : Option (List α) := if h : ∃ a : List α, x = encs a then some h.choose else none
theorem decs_encs {α : Type} [Enc α] (a : List α) : decs (encs a) = some a := by
  unfold decs
  have h : ∃ b : List α, encs a = encs b := ⟨a, rfl⟩
  rw [dif_pos h]
  exact congrArg some (encs_inj h.choose_spec.symm)
theorem decs_some {α : Type} [Enc α] {x : List Value} {a : List α} (h : decs x = some a) : x = encs a := by
  unfold decs at h
  split at h
  · rename_i h'; cases h; exact h'.choose_spec
  · cases h

/-- a type of one cell, of a known kind -/
class Enc1 (α : Type) extends Enc α where
  agg1 : ∀ a : α, known (enc a) = true
instance : Enc1 Bool := ⟨fun _ => rfl⟩
instance : Enc1 Int := ⟨fun _ => rfl⟩
instance : Enc1 UInt64 := ⟨fun _ => rfl⟩
instance : Enc1 UInt32 := ⟨fun _ => rfl⟩
instance : Enc1 UInt8 := ⟨fun _ => rfl⟩
theorem encs_known {α : Type} [Enc1 α] (l : List α) : (encs l).all known = true := by
  simp only [encs, List.all_map, List.all_eq_true]
  intro x _
  exact Enc1.agg1 x
theorem encs_known' {α : Type} [Enc1 α] (l : List α) : ∀ x ∈ encs l, known x = true := List.all_eq_true.1 (encs_known l)

/-- arrays -/
instance {α : Type} [Enc α] {k : Nat} : Enc (Vector α k) := ⟨fun v => .agg (encs v.toList).toArray, fun a b h => by
  simp only [Value.agg.injEq] at h
  have : encs a.toList = encs b.toList := by simpa using congrArg Array.toList h
  exact Vector.toList_inj.1 (encs_inj this)⟩
theorem enc_vec {α : Type} [Enc α] {k : Nat} (v : Vector α k) : enc v = .agg (encs v.toList).toArray := rfl

theorem cellEq_u8 (a b : UInt8) : cellEq (.int .u8) (enc a) (enc b) = some (a == b) := by
  show (if IntKind.u8 = IntKind.u8 then some ((a.toNat : Int) == (b.toNat : Int)) else none) = _
  rw [if_pos rfl]
  refine congrArg some ?_
  rw [Bool.eq_iff_iff, beq_iff_eq, beq_iff_eq]
  exact ⟨fun e => UInt8.toNat_inj.1 (by omega), fun e => by rw [e]⟩
theorem cellEq_u64 (a b : UInt64) : cellEq (.int .u64) (enc a) (enc b) = some (a == b) := by
  show (if IntKind.u64 = IntKind.u64 then some ((a.toNat : Int) == (b.toNat : Int)) else none) = _
  rw [if_pos rfl]
  refine congrArg some ?_
  rw [Bool.eq_iff_iff, beq_iff_eq, beq_iff_eq]
  exact ⟨fun e => UInt64.toNat_inj.1 (by omega), fun e => by rw [e]⟩
theorem cellEq_i64 (a b : Int) : cellEq (.int .i64) (enc a) (enc b) = some (a == b) := rfl

theorem cellsEq_encs {α : Type} [Enc α] [BEq α] {k : TK} (hk : ∀ a b : α, cellEq k (enc a) (enc b) = some (a == b)) : ∀ (a b : List α) (m : Nat), a.length = m → b.length = m → cellsEq (List.replicate m k) (encs a) (encs b) = some (a == b)
  | [], [], 0, _, _ => rfl
  | x :: a, y :: b, m + 1, h1, h2 => by
    simp only [List.replicate_succ, encs, List.map_cons, cellsEq, hk, Option.bind_some]
    have := cellsEq_encs hk a b m (by simpa using h1) (by simpa using h2)
    simp only [encs] at this
    rw [this]
    rfl
  | [], _ :: _, 0, _, h => by simp at h
  | _ :: _, _, 0, h, _ => by simp at h
  | [], _, _ + 1, h, _ => by simp at h
  | _ :: _, [], _ + 1, _, h => by simp at h
theorem cellsEq_mk : ∀ {ks ls : List TK} {xs xs2 ys ys2 : List Value} {a b : Bool}, cellsEq ks xs ys = some a → cellsEq ls xs2 ys2 = some b → cellsEq (ks ++ ls) (xs ++ xs2) (ys ++ ys2) = some (a && b)
  | [], ls, [], xs2, [], ys2, a, b, h1, h2 => by cases h1; simpa using h2
  | k :: ks, ls, x :: xs, xs2, y :: ys, ys2, a, b, h1, h2 => by
    simp only [cellsEq, Option.bind_eq_some_iff, Option.map_eq_some_iff] at h1
    obtain ⟨c, hc, d, hd, rfl⟩ := h1
    have := cellsEq_mk hd h2
    simp only [List.cons_append, cellsEq, hc, Option.bind_some, this, Option.map_some, Bool.and_assoc]
  | [], _, [], _, _ :: _, _, _, _, h, _ => by simp [cellsEq] at h
  | [], _, _ :: _, _, _, _, _, _, h, _ => by simp [cellsEq] at h
  | _ :: _, _, [], _, _, _, _, _, h, _ => by simp [cellsEq] at h
  | _ :: _, _, _ :: _, _, [], _, _, _, h, _ => by simp [cellsEq] at h

theorem cellsEq_one {k : TK} {x y : Value} {b : Bool} (h : cellEq k x y = some b) : cellsEq [k] [x] [y] = some b := by simp [cellsEq, h]
/-- arrays of one kind of cells, held against each other -/
theorem eq_vec {α : Type} [Enc α] [BEq α] {D : Ty} {K : Kinds} {k : TK} {t : TypeId} {m : Nat} (hK : K t = some (List.replicate m k)) (hk : ∀ a b : α, cellEq k (enc a) (enc b) = some (a == b)) (x y : Vector α m) :
    binOp' D K .eql t (enc x) (enc y) = some (.bool (x == y)) := by
  have := cellsEq_encs hk x.toList y.toList m (by simp) (by simp)
  simp only [enc_vec, binOp', eqOp, hK, Option.bind_some, this, Option.map_some]
  rw [Vector.toList_beq_toList]
theorem ne_vec {α : Type} [Enc α] [BEq α] {D : Ty} {K : Kinds} {k : TK} {t : TypeId} {m : Nat} (hK : K t = some (List.replicate m k)) (hk : ∀ a b : α, cellEq k (enc a) (enc b) = some (a == b)) (x y : Vector α m) :
    binOp' D K .neq t (enc x) (enc y) = some (.bool !(x == y)) := by
  have := cellsEq_encs hk x.toList y.toList m (by simp) (by simp)
  simp only [enc_vec, binOp', eqOp, hK, Option.bind_some, this, Option.map_some]
  rw [Vector.toList_beq_toList]

/-- the cells that a slice spans, as Lean values -/
noncomputable def rdS {α : Type} [Enc α] (H : IHeap) : Value → Option (List α)
  | .slice none _ _ => some []
  | .slice (some a) len _ =>
    match H a.block with
    | some (.cells c _) => if a.off + len ≤ c.length then decs ((c.drop a.off).take len) else none
    | _ => none
  | _ => none
end Go.Proofs.Ytdnnojblneccdaa
/-
  Structs: parts of rows read and written.
-/
namespace Go.Proofs.Ytdnnojblneccdaa
set_option linter.unusedSimpArgs false
set_option linter.unusedVariables false
open Go
open Enc (enc)

/-- a slice's header -/
structure Sl where
  a : Option Addr
  len : Nat
  cap : Nat
instance : Enc Sl := ⟨fun s => .slice s.a s.len s.cap, fun a b h => by
  cases a; cases b; simp only [Value.slice.injEq] at h; obtain ⟨rfl, rfl, rfl⟩ := h; rfl⟩
instance : Enc1 Sl := ⟨fun _ => rfl⟩

theorem rd_part {d : TD} {c A B C : List Value} {off : Nat} (hk : d.k.isAgg = true) (hc : c = A ++ (B ++ C)) (h1 : A.length = off) (h2 : B.length = d.size) : rdVar d c off = some (.agg B.toArray) := by
  subst hc
  unfold rdVar
  rw [if_pos hk, if_pos (by simp; omega), ← h1, ← h2]
  simp
theorem rd_one {d : TD} {c A C : List Value} {x : Value} {off : Nat} (hk : d.k.isAgg = false) (hc : c = A ++ ([x] ++ C)) (h1 : A.length = off) : rdVar d c off = some x := by
  subst hc
  unfold rdVar
  rw [if_neg (by rw [hk]; simp), ← h1]
  simp
theorem rd_all {d : TD} {c : List Value} (hk : d.k.isAgg = true) (h : c.length = d.size) : rdVar d c 0 = some (.agg c.toArray) := by
  have := rd_part (d := d) (c := c) (A := []) (B := c) (C := []) hk (by simp) rfl h
  exact this
theorem wr_part {c A B C vs : List Value} {off : Nat} (hc : c = A ++ (B ++ C)) (h1 : A.length = off) (h2 : B.length = vs.length) : wrCells c off vs = A ++ (vs ++ C) := by
  have gen : splice c off vs = A ++ (vs ++ C) := by
    subst hc
    unfold splice
    subst h1
    rw [← h2]
    simp
  unfold wrCells
  split
  · rename_i v
    subst hc
    have hb : ∃ b, B = [b] := List.length_eq_one_iff.1 (by simpa using h2)
    obtain ⟨b, rfl⟩ := hb
    subst h1
    simp
  · exact gen
theorem agg_inj {A B : List Value} (h : Value.agg A.toArray = .agg B.toArray) : A = B := by
  simp only [Value.agg.injEq] at h
  simpa using congrArg Array.toList h
theorem app_inj {A B C E : List Value} (h : A ++ B = C ++ E) (hl : A.length = C.length) : A = C ∧ B = E := List.append_inj h hl
theorem encs_vec_inj {α : Type} [Enc α] {k : Nat} {a b : Vector α k} (h : encs a.toList = encs b.toList) : a = b := Vector.toList_inj.1 (encs_inj h)
theorem encs_vec_length {α : Type} [Enc α] {k : Nat} (a : Vector α k) : (encs a.toList).length = k := by simp [encs]
theorem encs_rep {α : Type} [Enc α] {k : Nat} (x : α) : encs (Vector.replicate k x).toList = List.replicate k (enc x) := by simp [encs]
theorem wr_all {c vs : List Value} (h : c.length = vs.length) : wrCells c 0 vs = vs := by
  have := wr_part (c := c) (A := []) (B := c) (C := []) (vs := vs) (off := 0) (by simp) rfl h
  simpa using this
theorem fill_cons {place : Nat → Option (Nat × Nat)} {cells cells' r vs : List Value} {i off size : Nat} {v : Value} {rest : List (Nat × Value)} (hp : place i = some (off, size)) (hv : cellsOf v = some vs) (h1 : vs.length = size) (h2 : off + size ≤ cells.length)
    (hw : wrCells cells off vs = cells') (k : fillIn place cells' rest = some r) : fillIn place cells ((i, v) :: rest) = some r := by
  simp only [fillIn, hp, hv]
  rw [if_pos ⟨h1, h2⟩, hw]; exact k
theorem fill_nil {place : Nat → Option (Nat × Nat)} {cells : List Value} : fillIn place cells [] = some cells := rfl
theorem pl_mk {D : Ty} {fs : List (Nat × Nat)} {i o ft : Nat} {df : TD} (hf : fs[i]? = some (o, ft)) (hd : D ft = some df) : (fs[i]?.bind fun f => (D f.2).map fun df => (f.1, df.size)) = some (o, df.size) := by
  simp only [hf, Option.bind_some, hd, Option.map_some]
theorem ox_allocZ {Γ : Fns} {D : Ty} {K : Kinds} {e : Operand → Value} {H : IHeap} {n : Nat} {t : TypeId} {d : TD} {cs : List Value} (hd : D t = some d) (hz : d.zero = cs) : iopC Γ D K e H n (.alloc t) = some ⟨.pointer (some ⟨n, 0, none⟩), [(n, some (.cells cs false))], n + 1⟩ := by
  subst hz; exact ox_alloc hd
theorem ox_buildZ {Γ : Fns} {D : Ty} {K : Kinds} {H : IHeap} {n N : Nat} {L : List (Nat × Value)} {t : TypeId} {parts : Array (Nat × Operand)} {fs : List (Nat × Nat)} {d : TD} {vs : List (Nat × Value)} {zs cs : List Value} (hd : D t = some d) (hz : d.zero = zs) (hk : d.k = .struct fs) (hp : opp N L parts.toList = some vs)
    (hf : fillIn (fun i => fs[i]?.bind fun f => (D f.2).map fun df => (f.1, df.size)) zs vs = some cs) : iopC Γ D K (ev (dense N L)) H n (.build t parts) = some ⟨.agg cs.toArray, [], n⟩ := by
  subst hz; exact ox_buildS hd hk hp hf
theorem ox_buildA0 {Γ : Fns} {D : Ty} {K : Kinds} {H : IHeap} {n N : Nat} {L : List (Nat × Value)} {t : TypeId} {len el : Nat} {d de : TD} {cs : List Value} (hd : D t = some d) (hk : d.k = .arr len el) (hde : D el = some de) (hz : d.zero = cs) :
    iopC Γ D K (ev (dense N L)) H n (.build t #[]) = some ⟨.agg cs.toArray, [], n⟩ := by
  subst hz; exact ox_buildA hd hk hde rfl rfl
theorem mp_nil {e : Operand → Value} : ([] : List Operand).map e = [] := rfl
theorem mp_cons {e : Operand → Value} {x : Operand} {xs : List Operand} {v : Value} {vs : List Value} (h : e x = v) (k : xs.map e = vs) : (x :: xs).map e = v :: vs := by rw [List.map_cons, h, k]
theorem mq_nil {e : Operand → Value} : ([] : List (Nat × Operand)).map (fun p => (p.1, e p.2)) = [] := rfl
theorem mq_cons {e : Operand → Value} {i : Nat} {x : Operand} {xs : List (Nat × Operand)} {v : Value} {vs : List (Nat × Value)} (h : e x = v) (k : xs.map (fun p => (p.1, e p.2)) = vs) : ((i, x) :: xs).map (fun p => (p.1, e p.2)) = (i, v) :: vs := by
  rw [List.map_cons, h, k]
theorem ox_fnG {Γ : Fns} {D : Ty} {K : Kinds} {H : IHeap} {n : Nat} {t : List Value} {f : FuncId} {args : Array Operand} {ats : Array TypeId} {F : FnI} {ef : Eff} {vs : List Value} (hF : Γ.lookup f = some F) (ha : args.toList.map (ev t) = vs) (h : F vs H n = some ef) :
    iopC Γ D K (ev t) H n (.call ⟨.value (.func f), args, ats⟩) = some ef := ox_calls hF (by rw [ha]; exact h)
theorem ox_buildZG {Γ : Fns} {D : Ty} {K : Kinds} {H : IHeap} {n : Nat} {e : Operand → Value} {t : TypeId} {parts : Array (Nat × Operand)} {fs : List (Nat × Nat)} {d : TD} {vs : List (Nat × Value)} {zs cs : List Value} (hd : D t = some d) (hz : d.zero = zs) (hk : d.k = .struct fs) (hp : parts.toList.map (fun p => (p.1, e p.2)) = vs)
    (hf : fillIn (fun i => fs[i]?.bind fun f => (D f.2).map fun df => (f.1, df.size)) zs vs = some cs) : iopC Γ D K e H n (.build t parts) = some ⟨.agg cs.toArray, [], n⟩ := by
  subst hz
  simp only [iopC, iop, hd, hk, Option.bind_some, hp, hf, val]
theorem ox_buildAG {Γ : Fns} {D : Ty} {K : Kinds} {H : IHeap} {n : Nat} {e : Operand → Value} {t : TypeId} {parts : Array (Nat × Operand)} {len el : Nat} {d de : TD} {vs : List (Nat × Value)} {cs : List Value} (hd : D t = some d) (hk : d.k = .arr len el) (hde : D el = some de) (hp : parts.toList.map (fun p => (p.1, e p.2)) = vs)
    (hf : fillIn (fun i => some (i * de.size, de.size)) d.zero vs = some cs) : iopC Γ D K e H n (.build t parts) = some ⟨.agg cs.toArray, [], n⟩ := by
  simp only [iopC, iop, hd, hk, hde, Option.bind_some, hp, hf, val]
/-- a cell of those that a slice spans -/
theorem rd_el {α : Type} [Enc α] {d : TD} {c : List Value} {off i j : Nat} {l : List α} (hl : (c.drop off).take l.length = encs l) (h : i < l.length) (hk : d.k.isAgg = false) (hj : off + i * 1 = j) : rdVar d c j = some (enc l[i]) := by
  unfold rdVar
  rw [if_neg (by rw [hk]; simp), ← hj, Nat.mul_one]
  have h1 : ((c.drop off).take l.length)[i]? = some (enc l[i]) := by rw [hl, encs_get]; simp [h]
  rw [List.getElem?_take, if_pos h, List.getElem?_drop] at h1
  exact h1
/-- part of a row of cells, as a slice -/
theorem rs_part {α : Type} [Enc α] {H : IHeap} {id off len cap : Nat} {s : Option Nat} {c A C : List Value} {l : List α} {ro : Bool} (hH : H id = some (.cells c ro)) (hc : c = A ++ (encs l ++ C)) (h1 : A.length = off) (h2 : l.length = len) :
    rdS H (.slice (some ⟨id, off, s⟩) len cap) = some l := by
  subst hc
  simp only [rdS, hH]
  rw [if_pos (by simp [encs_length]; omega)]
  subst h1; subst h2
  have : ((A ++ (encs l ++ C)).drop A.length).take l.length = encs l := by
    rw [List.drop_left]
    rw [List.take_append_of_le_length (by rw [encs_length]; exact Nat.le_refl _), List.take_of_length_le (by rw [encs_length]; exact Nat.le_refl _)]
  rw [this]; exact decs_encs l
theorem rs_all {α : Type} [Enc α] {H : IHeap} {id len cap : Nat} {s : Option Nat} {c : List Value} {l : List α} {ro : Bool} (hH : H id = some (.cells c ro)) (hc : c = encs l) (h2 : l.length = len) :
    rdS H (.slice (some ⟨id, 0, s⟩) len cap) = some l := rs_part (A := []) (C := []) hH (by simp [hc]) rfl h2
end Go.Proofs.Ytdnnojblneccdaa
/-
  The structs of this program.
-/
namespace Go.Proofs.Ytdnnojblneccdaa
set_option linter.unusedSimpArgs false
set_option linter.unusedVariables false
open Go
open Enc (enc)

@[ext] structure Vote where
  height : UInt64
  round : UInt64
  phase : Int
  value : Vector UInt8 32
  proof : UInt64
  voter : Vector UInt8 32
  sig : Vector UInt8 64
  deriving DecidableEq
def Vote.cells (v : Vote) : List Value := [enc v.height] ++ ([enc v.round] ++ ([enc v.phase] ++ (encs v.value.toList ++ ([enc v.proof] ++ (encs v.voter.toList ++ (encs v.sig.toList))))))
theorem Vote.cells_length (v : Vote) : v.cells.length = 132 := by simp only [Vote.cells, List.length_append, encs_vec_length, List.length_singleton, List.length_nil, List.length_cons]
theorem Vote.cells_inj {a b : Vote} (h : a.cells = b.cells) : a = b := by
  simp only [Vote.cells] at h
  obtain ⟨h0, h⟩ := app_inj h (by simp only [List.length_append, encs_vec_length, List.length_singleton, List.length_nil, List.length_cons])
  obtain ⟨h1, h⟩ := app_inj h (by simp only [List.length_append, encs_vec_length, List.length_singleton, List.length_nil, List.length_cons])
  obtain ⟨h2, h⟩ := app_inj h (by simp only [List.length_append, encs_vec_length, List.length_singleton, List.length_nil, List.length_cons])
  obtain ⟨h3, h⟩ := app_inj h (by simp only [List.length_append, encs_vec_length, List.length_singleton, List.length_nil, List.length_cons])
  obtain ⟨h4, h⟩ := app_inj h (by simp only [List.length_append, encs_vec_length, List.length_singleton, List.length_nil, List.length_cons])
  obtain ⟨h5, h⟩ := app_inj h (by simp only [List.length_append, encs_vec_length, List.length_singleton, List.length_nil, List.length_cons])
  have h6 := h
  ext1
  · exact Enc.inj _ _ (by simpa using h0)
  · exact Enc.inj _ _ (by simpa using h1)
  · exact Enc.inj _ _ (by simpa using h2)
  · exact encs_vec_inj h3
  · exact Enc.inj _ _ (by simpa using h4)
  · exact encs_vec_inj h5
  · exact encs_vec_inj h6
instance : Enc Vote := ⟨fun v => .agg v.cells.toArray, fun _ _ h => Vote.cells_inj (agg_inj h)⟩
theorem enc_Vote (v : Vote) : enc v = .agg v.cells.toArray := rfl
theorem cellsOf_Vote (v : Vote) : cellsOf (enc v) = some v.cells := rfl
def Vote.zero : Vote := ⟨0, 0, 0, Vector.replicate 32 0, 0, Vector.replicate 32 0, Vector.replicate 64 0⟩
theorem zero_29 {d : TD} (h : D 29 = some d) : d.zero = Vote.zero.cells := by
  rw [D_29] at h; cases h; kernel_rfl
theorem zero_28 {d : TD} (h : D 28 = some d) : d.zero = Vote.zero.cells := by
  rw [D_28] at h; cases h; kernel_rfl
theorem Vote.le (v : Vote) {k : Nat} (h : Nat.ble k 132 = true) : k ≤ v.cells.length := by rw [v.cells_length]; exact Nat.le_of_ble_eq_true h
theorem cells_Vote_eq (a b : Vote) {ks : List TK} (hk : K 29 = some ks) : cellsEq ks a.cells b.cells = some (decide (a = b)) := by
  have hk2 := hk
  rw [K_29] at hk2
  cases hk2
  simp only [List.flatten_cons, List.flatten_nil, List.append_nil]
  refine ((cellsEq_mk (cellsEq_one (cellEq_u64 a.height b.height)) (cellsEq_mk (cellsEq_one (cellEq_u64 a.round b.round)) (cellsEq_mk (cellsEq_one (cellEq_i64 a.phase b.phase)) (cellsEq_mk (cellsEq_encs cellEq_u8 a.value.toList b.value.toList 32 (by simp) (by simp)) (cellsEq_mk (cellsEq_one (cellEq_u64 a.proof b.proof)) (cellsEq_mk (cellsEq_encs cellEq_u8 a.voter.toList b.voter.toList 32 (by simp) (by simp)) (cellsEq_encs cellEq_u8 a.sig.toList b.sig.toList 64 (by simp) (by simp))))))))).trans ?_
  refine congrArg some ?_
  rw [Bool.eq_iff_iff, decide_eq_true_iff, Vote.ext_iff]
  simp only [Bool.and_eq_true, beq_iff_eq, Vector.toList_inj]
theorem bo_Vote_eql29 (a b : Vote) : binOp' D K .eql 29 (enc a) (enc b) = some (.bool (decide (a = b))) := by
  have := cells_Vote_eq a b K_29
  simp only [enc_Vote, binOp', eqOp, K_29, Option.bind_some] at this ⊢
  rw [this]; rfl
theorem bo_Vote_neq29 (a b : Vote) : binOp' D K .neq 29 (enc a) (enc b) = some (.bool (!decide (a = b))) := by
  have := cells_Vote_eq a b K_29
  simp only [enc_Vote, binOp', eqOp, K_29, Option.bind_some] at this ⊢
  rw [this]; rfl
theorem bo_Vote_eql28 (a b : Vote) : binOp' D K .eql 28 (enc a) (enc b) = some (.bool (decide (a = b))) := by
  have := cells_Vote_eq a b K_29
  simp only [enc_Vote, binOp', eqOp, K_28, Option.bind_some] at this ⊢
  rw [this]; rfl
theorem bo_Vote_neq28 (a b : Vote) : binOp' D K .neq 28 (enc a) (enc b) = some (.bool (!decide (a = b))) := by
  have := cells_Vote_eq a b K_29
  simp only [enc_Vote, binOp', eqOp, K_28, Option.bind_some] at this ⊢
  rw [this]; rfl
theorem Vote.cells_known (v : Vote) : v.cells.all known = true := by simp only [Vote.cells, List.all_append, encs_known, List.all_cons, List.all_nil, Enc1.agg1, Bool.and_self]
theorem rd_29 (v : Vote) {d : TD} (hd : d.k.isAgg = true) (hs : d.size = 132) : rdVar d v.cells 0 = some (enc v) := rd_all hd (by rw [hs]; exact v.cells_length)
theorem rd_28 (v : Vote) {d : TD} (hd : d.k.isAgg = true) (hs : d.size = 132) : rdVar d v.cells 0 = some (enc v) := rd_all hd (by rw [hs]; exact v.cells_length)
theorem rd_29_0 (v : Vote) {d : TD} (hd : d.k.isAgg = false) : rdVar d v.cells 0 = some (enc v.height) :=
  rd_one (A := []) (C := [enc v.round] ++ ([enc v.phase] ++ (encs v.value.toList ++ ([enc v.proof] ++ (encs v.voter.toList ++ (encs v.sig.toList)))))) hd (by simp only [Vote.cells, List.append_assoc, List.nil_append, List.append_nil]) (by simp only [List.length_append, encs_vec_length, List.length_singleton, List.length_nil, List.length_cons])
theorem wr_29_0 (v : Vote) (x : UInt64) : wrCells v.cells 0 ([enc x]) = ({ v with height := x } : Vote).cells := by
  rw [wr_part (A := []) (B := [enc v.height]) (C := [enc v.round] ++ ([enc v.phase] ++ (encs v.value.toList ++ ([enc v.proof] ++ (encs v.voter.toList ++ (encs v.sig.toList)))))) (c := v.cells) (by simp only [Vote.cells, List.append_assoc, List.nil_append, List.append_nil]) (by simp only [List.length_append, encs_vec_length, List.length_singleton, List.length_nil, List.length_cons]) (by simp only [List.length_append, encs_vec_length, List.length_singleton, List.length_nil, List.length_cons])]
  simp only [Vote.cells, List.append_assoc, List.nil_append, List.append_nil]
theorem rd_28_0 (v : Vote) {d : TD} (hd : d.k.isAgg = false) : rdVar d v.cells 0 = some (enc v.height) :=
  rd_one (A := []) (C := [enc v.round] ++ ([enc v.phase] ++ (encs v.value.toList ++ ([enc v.proof] ++ (encs v.voter.toList ++ (encs v.sig.toList)))))) hd (by simp only [Vote.cells, List.append_assoc, List.nil_append, List.append_nil]) (by simp only [List.length_append, encs_vec_length, List.length_singleton, List.length_nil, List.length_cons])
theorem wr_28_0 (v : Vote) (x : UInt64) : wrCells v.cells 0 ([enc x]) = ({ v with height := x } : Vote).cells := by
  rw [wr_part (A := []) (B := [enc v.height]) (C := [enc v.round] ++ ([enc v.phase] ++ (encs v.value.toList ++ ([enc v.proof] ++ (encs v.voter.toList ++ (encs v.sig.toList)))))) (c := v.cells) (by simp only [Vote.cells, List.append_assoc, List.nil_append, List.append_nil]) (by simp only [List.length_append, encs_vec_length, List.length_singleton, List.length_nil, List.length_cons]) (by simp only [List.length_append, encs_vec_length, List.length_singleton, List.length_nil, List.length_cons])]
  simp only [Vote.cells, List.append_assoc, List.nil_append, List.append_nil]
theorem rd_29_1 (v : Vote) {d : TD} (hd : d.k.isAgg = false) : rdVar d v.cells 1 = some (enc v.round) :=
  rd_one (A := [enc v.height]) (C := [enc v.phase] ++ (encs v.value.toList ++ ([enc v.proof] ++ (encs v.voter.toList ++ (encs v.sig.toList))))) hd (by simp only [Vote.cells, List.append_assoc, List.nil_append, List.append_nil]) (by simp only [List.length_append, encs_vec_length, List.length_singleton, List.length_nil, List.length_cons])
theorem wr_29_1 (v : Vote) (x : UInt64) : wrCells v.cells 1 ([enc x]) = ({ v with round := x } : Vote).cells := by
  rw [wr_part (A := [enc v.height]) (B := [enc v.round]) (C := [enc v.phase] ++ (encs v.value.toList ++ ([enc v.proof] ++ (encs v.voter.toList ++ (encs v.sig.toList))))) (c := v.cells) (by simp only [Vote.cells, List.append_assoc, List.nil_append, List.append_nil]) (by simp only [List.length_append, encs_vec_length, List.length_singleton, List.length_nil, List.length_cons]) (by simp only [List.length_append, encs_vec_length, List.length_singleton, List.length_nil, List.length_cons])]
  simp only [Vote.cells, List.append_assoc, List.nil_append, List.append_nil]
theorem rd_28_1 (v : Vote) {d : TD} (hd : d.k.isAgg = false) : rdVar d v.cells 1 = some (enc v.round) :=
  rd_one (A := [enc v.height]) (C := [enc v.phase] ++ (encs v.value.toList ++ ([enc v.proof] ++ (encs v.voter.toList ++ (encs v.sig.toList))))) hd (by simp only [Vote.cells, List.append_assoc, List.nil_append, List.append_nil]) (by simp only [List.length_append, encs_vec_length, List.length_singleton, List.length_nil, List.length_cons])
theorem wr_28_1 (v : Vote) (x : UInt64) : wrCells v.cells 1 ([enc x]) = ({ v with round := x } : Vote).cells := by
  rw [wr_part (A := [enc v.height]) (B := [enc v.round]) (C := [enc v.phase] ++ (encs v.value.toList ++ ([enc v.proof] ++ (encs v.voter.toList ++ (encs v.sig.toList))))) (c := v.cells) (by simp only [Vote.cells, List.append_assoc, List.nil_append, List.append_nil]) (by simp only [List.length_append, encs_vec_length, List.length_singleton, List.length_nil, List.length_cons]) (by simp only [List.length_append, encs_vec_length, List.length_singleton, List.length_nil, List.length_cons])]
  simp only [Vote.cells, List.append_assoc, List.nil_append, List.append_nil]
theorem rd_29_2 (v : Vote) {d : TD} (hd : d.k.isAgg = false) : rdVar d v.cells 2 = some (enc v.phase) :=
  rd_one (A := [enc v.height] ++ ([enc v.round])) (C := encs v.value.toList ++ ([enc v.proof] ++ (encs v.voter.toList ++ (encs v.sig.toList)))) hd (by simp only [Vote.cells, List.append_assoc, List.nil_append, List.append_nil]) (by simp only [List.length_append, encs_vec_length, List.length_singleton, List.length_nil, List.length_cons])
theorem wr_29_2 (v : Vote) (x : Int) : wrCells v.cells 2 ([enc x]) = ({ v with phase := x } : Vote).cells := by
  rw [wr_part (A := [enc v.height] ++ ([enc v.round])) (B := [enc v.phase]) (C := encs v.value.toList ++ ([enc v.proof] ++ (encs v.voter.toList ++ (encs v.sig.toList)))) (c := v.cells) (by simp only [Vote.cells, List.append_assoc, List.nil_append, List.append_nil]) (by simp only [List.length_append, encs_vec_length, List.length_singleton, List.length_nil, List.length_cons]) (by simp only [List.length_append, encs_vec_length, List.length_singleton, List.length_nil, List.length_cons])]
  simp only [Vote.cells, List.append_assoc, List.nil_append, List.append_nil]
theorem rd_28_2 (v : Vote) {d : TD} (hd : d.k.isAgg = false) : rdVar d v.cells 2 = some (enc v.phase) :=
  rd_one (A := [enc v.height] ++ ([enc v.round])) (C := encs v.value.toList ++ ([enc v.proof] ++ (encs v.voter.toList ++ (encs v.sig.toList)))) hd (by simp only [Vote.cells, List.append_assoc, List.nil_append, List.append_nil]) (by simp only [List.length_append, encs_vec_length, List.length_singleton, List.length_nil, List.length_cons])
theorem wr_28_2 (v : Vote) (x : Int) : wrCells v.cells 2 ([enc x]) = ({ v with phase := x } : Vote).cells := by
  rw [wr_part (A := [enc v.height] ++ ([enc v.round])) (B := [enc v.phase]) (C := encs v.value.toList ++ ([enc v.proof] ++ (encs v.voter.toList ++ (encs v.sig.toList)))) (c := v.cells) (by simp only [Vote.cells, List.append_assoc, List.nil_append, List.append_nil]) (by simp only [List.length_append, encs_vec_length, List.length_singleton, List.length_nil, List.length_cons]) (by simp only [List.length_append, encs_vec_length, List.length_singleton, List.length_nil, List.length_cons])]
  simp only [Vote.cells, List.append_assoc, List.nil_append, List.append_nil]
theorem rd_29_3 (v : Vote) {d : TD} (hd : d.k.isAgg = true) (hs : d.size = 32) : rdVar d v.cells 3 = some (enc v.value) :=
  rd_part (A := [enc v.height] ++ ([enc v.round] ++ ([enc v.phase]))) (B := encs v.value.toList) (C := [enc v.proof] ++ (encs v.voter.toList ++ (encs v.sig.toList))) hd (by simp only [Vote.cells, List.append_assoc, List.nil_append, List.append_nil]) (by simp only [List.length_append, encs_vec_length, List.length_singleton, List.length_nil, List.length_cons]) (by rw [hs]; simp only [List.length_append, encs_vec_length, List.length_singleton, List.length_nil, List.length_cons])
theorem rs_29_3 {v : Vote} {H : IHeap} {id cap : Nat} {s : Option Nat} {ro : Bool} (hH : H id = some (.cells v.cells ro)) : rdS H (.slice (some ⟨id, 3, s⟩) 32 cap) = some v.value.toList :=
  rs_part (A := [enc v.height] ++ ([enc v.round] ++ ([enc v.phase]))) (C := [enc v.proof] ++ (encs v.voter.toList ++ (encs v.sig.toList))) hH (by simp only [Vote.cells, List.append_assoc, List.nil_append, List.append_nil]) (by simp only [List.length_append, encs_vec_length, List.length_singleton, List.length_nil, List.length_cons]) (by simp)
theorem wr_29_3 (v : Vote) (x : Vector UInt8 32) : wrCells v.cells 3 (encs x.toList) = ({ v with value := x } : Vote).cells := by
  rw [wr_part (A := [enc v.height] ++ ([enc v.round] ++ ([enc v.phase]))) (B := encs v.value.toList) (C := [enc v.proof] ++ (encs v.voter.toList ++ (encs v.sig.toList))) (c := v.cells) (by simp only [Vote.cells, List.append_assoc, List.nil_append, List.append_nil]) (by simp only [List.length_append, encs_vec_length, List.length_singleton, List.length_nil, List.length_cons]) (by simp only [List.length_append, encs_vec_length, List.length_singleton, List.length_nil, List.length_cons])]
  simp only [Vote.cells, List.append_assoc, List.nil_append, List.append_nil]
theorem rd_28_3 (v : Vote) {d : TD} (hd : d.k.isAgg = true) (hs : d.size = 32) : rdVar d v.cells 3 = some (enc v.value) :=
  rd_part (A := [enc v.height] ++ ([enc v.round] ++ ([enc v.phase]))) (B := encs v.value.toList) (C := [enc v.proof] ++ (encs v.voter.toList ++ (encs v.sig.toList))) hd (by simp only [Vote.cells, List.append_assoc, List.nil_append, List.append_nil]) (by simp only [List.length_append, encs_vec_length, List.length_singleton, List.length_nil, List.length_cons]) (by rw [hs]; simp only [List.length_append, encs_vec_length, List.length_singleton, List.length_nil, List.length_cons])
theorem rs_28_3 {v : Vote} {H : IHeap} {id cap : Nat} {s : Option Nat} {ro : Bool} (hH : H id = some (.cells v.cells ro)) : rdS H (.slice (some ⟨id, 3, s⟩) 32 cap) = some v.value.toList :=
  rs_part (A := [enc v.height] ++ ([enc v.round] ++ ([enc v.phase]))) (C := [enc v.proof] ++ (encs v.voter.toList ++ (encs v.sig.toList))) hH (by simp only [Vote.cells, List.append_assoc, List.nil_append, List.append_nil]) (by simp only [List.length_append, encs_vec_length, List.length_singleton, List.length_nil, List.length_cons]) (by simp)
theorem wr_28_3 (v : Vote) (x : Vector UInt8 32) : wrCells v.cells 3 (encs x.toList) = ({ v with value := x } : Vote).cells := by
  rw [wr_part (A := [enc v.height] ++ ([enc v.round] ++ ([enc v.phase]))) (B := encs v.value.toList) (C := [enc v.proof] ++ (encs v.voter.toList ++ (encs v.sig.toList))) (c := v.cells) (by simp only [Vote.cells, List.append_assoc, List.nil_append, List.append_nil]) (by simp only [List.length_append, encs_vec_length, List.length_singleton, List.length_nil, List.length_cons]) (by simp only [List.length_append, encs_vec_length, List.length_singleton, List.length_nil, List.length_cons])]
  simp only [Vote.cells, List.append_assoc, List.nil_append, List.append_nil]
theorem rd_29_4 (v : Vote) {d : TD} (hd : d.k.isAgg = false) : rdVar d v.cells 35 = some (enc v.proof) :=
  rd_one (A := [enc v.height] ++ ([enc v.round] ++ ([enc v.phase] ++ (encs v.value.toList)))) (C := encs v.voter.toList ++ (encs v.sig.toList)) hd (by simp only [Vote.cells, List.append_assoc, List.nil_append, List.append_nil]) (by simp only [List.length_append, encs_vec_length, List.length_singleton, List.length_nil, List.length_cons])
theorem wr_29_4 (v : Vote) (x : UInt64) : wrCells v.cells 35 ([enc x]) = ({ v with proof := x } : Vote).cells := by
  rw [wr_part (A := [enc v.height] ++ ([enc v.round] ++ ([enc v.phase] ++ (encs v.value.toList)))) (B := [enc v.proof]) (C := encs v.voter.toList ++ (encs v.sig.toList)) (c := v.cells) (by simp only [Vote.cells, List.append_assoc, List.nil_append, List.append_nil]) (by simp only [List.length_append, encs_vec_length, List.length_singleton, List.length_nil, List.length_cons]) (by simp only [List.length_append, encs_vec_length, List.length_singleton, List.length_nil, List.length_cons])]
  simp only [Vote.cells, List.append_assoc, List.nil_append, List.append_nil]
theorem rd_28_4 (v : Vote) {d : TD} (hd : d.k.isAgg = false) : rdVar d v.cells 35 = some (enc v.proof) :=
  rd_one (A := [enc v.height] ++ ([enc v.round] ++ ([enc v.phase] ++ (encs v.value.toList)))) (C := encs v.voter.toList ++ (encs v.sig.toList)) hd (by simp only [Vote.cells, List.append_assoc, List.nil_append, List.append_nil]) (by simp only [List.length_append, encs_vec_length, List.length_singleton, List.length_nil, List.length_cons])
theorem wr_28_4 (v : Vote) (x : UInt64) : wrCells v.cells 35 ([enc x]) = ({ v with proof := x } : Vote).cells := by
  rw [wr_part (A := [enc v.height] ++ ([enc v.round] ++ ([enc v.phase] ++ (encs v.value.toList)))) (B := [enc v.proof]) (C := encs v.voter.toList ++ (encs v.sig.toList)) (c := v.cells) (by simp only [Vote.cells, List.append_assoc, List.nil_append, List.append_nil]) (by simp only [List.length_append, encs_vec_length, List.length_singleton, List.length_nil, List.length_cons]) (by simp only [List.length_append, encs_vec_length, List.length_singleton, List.length_nil, List.length_cons])]
  simp only [Vote.cells, List.append_assoc, List.nil_append, List.append_nil]
theorem rd_29_5 (v : Vote) {d : TD} (hd : d.k.isAgg = true) (hs : d.size = 32) : rdVar d v.cells 36 = some (enc v.voter) :=
  rd_part (A := [enc v.height] ++ ([enc v.round] ++ ([enc v.phase] ++ (encs v.value.toList ++ ([enc v.proof]))))) (B := encs v.voter.toList) (C := encs v.sig.toList) hd (by simp only [Vote.cells, List.append_assoc, List.nil_append, List.append_nil]) (by simp only [List.length_append, encs_vec_length, List.length_singleton, List.length_nil, List.length_cons]) (by rw [hs]; simp only [List.length_append, encs_vec_length, List.length_singleton, List.length_nil, List.length_cons])
theorem rs_29_5 {v : Vote} {H : IHeap} {id cap : Nat} {s : Option Nat} {ro : Bool} (hH : H id = some (.cells v.cells ro)) : rdS H (.slice (some ⟨id, 36, s⟩) 32 cap) = some v.voter.toList :=
  rs_part (A := [enc v.height] ++ ([enc v.round] ++ ([enc v.phase] ++ (encs v.value.toList ++ ([enc v.proof]))))) (C := encs v.sig.toList) hH (by simp only [Vote.cells, List.append_assoc, List.nil_append, List.append_nil]) (by simp only [List.length_append, encs_vec_length, List.length_singleton, List.length_nil, List.length_cons]) (by simp)
theorem wr_29_5 (v : Vote) (x : Vector UInt8 32) : wrCells v.cells 36 (encs x.toList) = ({ v with voter := x } : Vote).cells := by
  rw [wr_part (A := [enc v.height] ++ ([enc v.round] ++ ([enc v.phase] ++ (encs v.value.toList ++ ([enc v.proof]))))) (B := encs v.voter.toList) (C := encs v.sig.toList) (c := v.cells) (by simp only [Vote.cells, List.append_assoc, List.nil_append, List.append_nil]) (by simp only [List.length_append, encs_vec_length, List.length_singleton, List.length_nil, List.length_cons]) (by simp only [List.length_append, encs_vec_length, List.length_singleton, List.length_nil, List.length_cons])]
  simp only [Vote.cells, List.append_assoc, List.nil_append, List.append_nil]
theorem rd_28_5 (v : Vote) {d : TD} (hd : d.k.isAgg = true) (hs : d.size = 32) : rdVar d v.cells 36 = some (enc v.voter) :=
  rd_part (A := [enc v.height] ++ ([enc v.round] ++ ([enc v.phase] ++ (encs v.value.toList ++ ([enc v.proof]))))) (B := encs v.voter.toList) (C := encs v.sig.toList) hd (by simp only [Vote.cells, List.append_assoc, List.nil_append, List.append_nil]) (by simp only [List.length_append, encs_vec_length, List.length_singleton, List.length_nil, List.length_cons]) (by rw [hs]; simp only [List.length_append, encs_vec_length, List.length_singleton, List.length_nil, List.length_cons])
theorem rs_28_5 {v : Vote} {H : IHeap} {id cap : Nat} {s : Option Nat} {ro : Bool} (hH : H id = some (.cells v.cells ro)) : rdS H (.slice (some ⟨id, 36, s⟩) 32 cap) = some v.voter.toList :=
  rs_part (A := [enc v.height] ++ ([enc v.round] ++ ([enc v.phase] ++ (encs v.value.toList ++ ([enc v.proof]))))) (C := encs v.sig.toList) hH (by simp only [Vote.cells, List.append_assoc, List.nil_append, List.append_nil]) (by simp only [List.length_append, encs_vec_length, List.length_singleton, List.length_nil, List.length_cons]) (by simp)
theorem wr_28_5 (v : Vote) (x : Vector UInt8 32) : wrCells v.cells 36 (encs x.toList) = ({ v with voter := x } : Vote).cells := by
  rw [wr_part (A := [enc v.height] ++ ([enc v.round] ++ ([enc v.phase] ++ (encs v.value.toList ++ ([enc v.proof]))))) (B := encs v.voter.toList) (C := encs v.sig.toList) (c := v.cells) (by simp only [Vote.cells, List.append_assoc, List.nil_append, List.append_nil]) (by simp only [List.length_append, encs_vec_length, List.length_singleton, List.length_nil, List.length_cons]) (by simp only [List.length_append, encs_vec_length, List.length_singleton, List.length_nil, List.length_cons])]
  simp only [Vote.cells, List.append_assoc, List.nil_append, List.append_nil]
theorem rd_29_6 (v : Vote) {d : TD} (hd : d.k.isAgg = true) (hs : d.size = 64) : rdVar d v.cells 68 = some (enc v.sig) :=
  rd_part (A := [enc v.height] ++ ([enc v.round] ++ ([enc v.phase] ++ (encs v.value.toList ++ ([enc v.proof] ++ (encs v.voter.toList)))))) (B := encs v.sig.toList) (C := []) hd (by simp only [Vote.cells, List.append_assoc, List.nil_append, List.append_nil]) (by simp only [List.length_append, encs_vec_length, List.length_singleton, List.length_nil, List.length_cons]) (by rw [hs]; simp only [List.length_append, encs_vec_length, List.length_singleton, List.length_nil, List.length_cons])
theorem rs_29_6 {v : Vote} {H : IHeap} {id cap : Nat} {s : Option Nat} {ro : Bool} (hH : H id = some (.cells v.cells ro)) : rdS H (.slice (some ⟨id, 68, s⟩) 64 cap) = some v.sig.toList :=
  rs_part (A := [enc v.height] ++ ([enc v.round] ++ ([enc v.phase] ++ (encs v.value.toList ++ ([enc v.proof] ++ (encs v.voter.toList)))))) (C := []) hH (by simp only [Vote.cells, List.append_assoc, List.nil_append, List.append_nil]) (by simp only [List.length_append, encs_vec_length, List.length_singleton, List.length_nil, List.length_cons]) (by simp)
theorem wr_29_6 (v : Vote) (x : Vector UInt8 64) : wrCells v.cells 68 (encs x.toList) = ({ v with sig := x } : Vote).cells := by
  rw [wr_part (A := [enc v.height] ++ ([enc v.round] ++ ([enc v.phase] ++ (encs v.value.toList ++ ([enc v.proof] ++ (encs v.voter.toList)))))) (B := encs v.sig.toList) (C := []) (c := v.cells) (by simp only [Vote.cells, List.append_assoc, List.nil_append, List.append_nil]) (by simp only [List.length_append, encs_vec_length, List.length_singleton, List.length_nil, List.length_cons]) (by simp only [List.length_append, encs_vec_length, List.length_singleton, List.length_nil, List.length_cons])]
  simp only [Vote.cells, List.append_assoc, List.nil_append, List.append_nil]
theorem rd_28_6 (v : Vote) {d : TD} (hd : d.k.isAgg = true) (hs : d.size = 64) : rdVar d v.cells 68 = some (enc v.sig) :=
  rd_part (A := [enc v.height] ++ ([enc v.round] ++ ([enc v.phase] ++ (encs v.value.toList ++ ([enc v.proof] ++ (encs v.voter.toList)))))) (B := encs v.sig.toList) (C := []) hd (by simp only [Vote.cells, List.append_assoc, List.nil_append, List.append_nil]) (by simp only [List.length_append, encs_vec_length, List.length_singleton, List.length_nil, List.length_cons]) (by rw [hs]; simp only [List.length_append, encs_vec_length, List.length_singleton, List.length_nil, List.length_cons])
theorem rs_28_6 {v : Vote} {H : IHeap} {id cap : Nat} {s : Option Nat} {ro : Bool} (hH : H id = some (.cells v.cells ro)) : rdS H (.slice (some ⟨id, 68, s⟩) 64 cap) = some v.sig.toList :=
  rs_part (A := [enc v.height] ++ ([enc v.round] ++ ([enc v.phase] ++ (encs v.value.toList ++ ([enc v.proof] ++ (encs v.voter.toList)))))) (C := []) hH (by simp only [Vote.cells, List.append_assoc, List.nil_append, List.append_nil]) (by simp only [List.length_append, encs_vec_length, List.length_singleton, List.length_nil, List.length_cons]) (by simp)
theorem wr_28_6 (v : Vote) (x : Vector UInt8 64) : wrCells v.cells 68 (encs x.toList) = ({ v with sig := x } : Vote).cells := by
  rw [wr_part (A := [enc v.height] ++ ([enc v.round] ++ ([enc v.phase] ++ (encs v.value.toList ++ ([enc v.proof] ++ (encs v.voter.toList)))))) (B := encs v.sig.toList) (C := []) (c := v.cells) (by simp only [Vote.cells, List.append_assoc, List.nil_append, List.append_nil]) (by simp only [List.length_append, encs_vec_length, List.length_singleton, List.length_nil, List.length_cons]) (by simp only [List.length_append, encs_vec_length, List.length_singleton, List.length_nil, List.length_cons])]
  simp only [Vote.cells, List.append_assoc, List.nil_append, List.append_nil]
@[ext] structure Block where
  writer : Vector UInt8 32
  seq : UInt64
  prev : Vector UInt8 32
  links : Sl
  data : Sl
  sig : Vector UInt8 64
def Block.cells (v : Block) : List Value := encs v.writer.toList ++ ([enc v.seq] ++ (encs v.prev.toList ++ ([enc v.links] ++ ([enc v.data] ++ (encs v.sig.toList)))))
theorem Block.cells_length (v : Block) : v.cells.length = 131 := by simp only [Block.cells, List.length_append, encs_vec_length, List.length_singleton, List.length_nil, List.length_cons]
theorem Block.cells_inj {a b : Block} (h : a.cells = b.cells) : a = b := by
  simp only [Block.cells] at h
  obtain ⟨h0, h⟩ := app_inj h (by simp only [List.length_append, encs_vec_length, List.length_singleton, List.length_nil, List.length_cons])
  obtain ⟨h1, h⟩ := app_inj h (by simp only [List.length_append, encs_vec_length, List.length_singleton, List.length_nil, List.length_cons])
  obtain ⟨h2, h⟩ := app_inj h (by simp only [List.length_append, encs_vec_length, List.length_singleton, List.length_nil, List.length_cons])
  obtain ⟨h3, h⟩ := app_inj h (by simp only [List.length_append, encs_vec_length, List.length_singleton, List.length_nil, List.length_cons])
  obtain ⟨h4, h⟩ := app_inj h (by simp only [List.length_append, encs_vec_length, List.length_singleton, List.length_nil, List.length_cons])
  have h5 := h
  ext1
  · exact encs_vec_inj h0
  · exact Enc.inj _ _ (by simpa using h1)
  · exact encs_vec_inj h2
  · exact Enc.inj _ _ (by simpa using h3)
  · exact Enc.inj _ _ (by simpa using h4)
  · exact encs_vec_inj h5
instance : Enc Block := ⟨fun v => .agg v.cells.toArray, fun _ _ h => Block.cells_inj (agg_inj h)⟩
theorem enc_Block (v : Block) : enc v = .agg v.cells.toArray := rfl
theorem cellsOf_Block (v : Block) : cellsOf (enc v) = some v.cells := rfl
def Block.zero : Block := ⟨Vector.replicate 32 0, 0, Vector.replicate 32 0, ⟨none, 0, 0⟩, ⟨none, 0, 0⟩, Vector.replicate 64 0⟩
theorem zero_37 {d : TD} (h : D 37 = some d) : d.zero = Block.zero.cells := by
  rw [D_37] at h; cases h; kernel_rfl
theorem zero_36 {d : TD} (h : D 36 = some d) : d.zero = Block.zero.cells := by
  rw [D_36] at h; cases h; kernel_rfl
theorem Block.le (v : Block) {k : Nat} (h : Nat.ble k 131 = true) : k ≤ v.cells.length := by rw [v.cells_length]; exact Nat.le_of_ble_eq_true h
theorem Block.cells_known (v : Block) : v.cells.all known = true := by simp only [Block.cells, List.all_append, encs_known, List.all_cons, List.all_nil, Enc1.agg1, Bool.and_self]
theorem rd_37 (v : Block) {d : TD} (hd : d.k.isAgg = true) (hs : d.size = 131) : rdVar d v.cells 0 = some (enc v) := rd_all hd (by rw [hs]; exact v.cells_length)
theorem rd_36 (v : Block) {d : TD} (hd : d.k.isAgg = true) (hs : d.size = 131) : rdVar d v.cells 0 = some (enc v) := rd_all hd (by rw [hs]; exact v.cells_length)
theorem rd_37_0 (v : Block) {d : TD} (hd : d.k.isAgg = true) (hs : d.size = 32) : rdVar d v.cells 0 = some (enc v.writer) :=
  rd_part (A := []) (B := encs v.writer.toList) (C := [enc v.seq] ++ (encs v.prev.toList ++ ([enc v.links] ++ ([enc v.data] ++ (encs v.sig.toList))))) hd (by simp only [Block.cells, List.append_assoc, List.nil_append, List.append_nil]) (by simp only [List.length_append, encs_vec_length, List.length_singleton, List.length_nil, List.length_cons]) (by rw [hs]; simp only [List.length_append, encs_vec_length, List.length_singleton, List.length_nil, List.length_cons])
theorem rs_37_0 {v : Block} {H : IHeap} {id cap : Nat} {s : Option Nat} {ro : Bool} (hH : H id = some (.cells v.cells ro)) : rdS H (.slice (some ⟨id, 0, s⟩) 32 cap) = some v.writer.toList :=
  rs_part (A := []) (C := [enc v.seq] ++ (encs v.prev.toList ++ ([enc v.links] ++ ([enc v.data] ++ (encs v.sig.toList))))) hH (by simp only [Block.cells, List.append_assoc, List.nil_append, List.append_nil]) (by simp only [List.length_append, encs_vec_length, List.length_singleton, List.length_nil, List.length_cons]) (by simp)
theorem wr_37_0 (v : Block) (x : Vector UInt8 32) : wrCells v.cells 0 (encs x.toList) = ({ v with writer := x } : Block).cells := by
  rw [wr_part (A := []) (B := encs v.writer.toList) (C := [enc v.seq] ++ (encs v.prev.toList ++ ([enc v.links] ++ ([enc v.data] ++ (encs v.sig.toList))))) (c := v.cells) (by simp only [Block.cells, List.append_assoc, List.nil_append, List.append_nil]) (by simp only [List.length_append, encs_vec_length, List.length_singleton, List.length_nil, List.length_cons]) (by simp only [List.length_append, encs_vec_length, List.length_singleton, List.length_nil, List.length_cons])]
  simp only [Block.cells, List.append_assoc, List.nil_append, List.append_nil]
theorem rd_36_0 (v : Block) {d : TD} (hd : d.k.isAgg = true) (hs : d.size = 32) : rdVar d v.cells 0 = some (enc v.writer) :=
  rd_part (A := []) (B := encs v.writer.toList) (C := [enc v.seq] ++ (encs v.prev.toList ++ ([enc v.links] ++ ([enc v.data] ++ (encs v.sig.toList))))) hd (by simp only [Block.cells, List.append_assoc, List.nil_append, List.append_nil]) (by simp only [List.length_append, encs_vec_length, List.length_singleton, List.length_nil, List.length_cons]) (by rw [hs]; simp only [List.length_append, encs_vec_length, List.length_singleton, List.length_nil, List.length_cons])
theorem rs_36_0 {v : Block} {H : IHeap} {id cap : Nat} {s : Option Nat} {ro : Bool} (hH : H id = some (.cells v.cells ro)) : rdS H (.slice (some ⟨id, 0, s⟩) 32 cap) = some v.writer.toList :=
  rs_part (A := []) (C := [enc v.seq] ++ (encs v.prev.toList ++ ([enc v.links] ++ ([enc v.data] ++ (encs v.sig.toList))))) hH (by simp only [Block.cells, List.append_assoc, List.nil_append, List.append_nil]) (by simp only [List.length_append, encs_vec_length, List.length_singleton, List.length_nil, List.length_cons]) (by simp)
theorem wr_36_0 (v : Block) (x : Vector UInt8 32) : wrCells v.cells 0 (encs x.toList) = ({ v with writer := x } : Block).cells := by
  rw [wr_part (A := []) (B := encs v.writer.toList) (C := [enc v.seq] ++ (encs v.prev.toList ++ ([enc v.links] ++ ([enc v.data] ++ (encs v.sig.toList))))) (c := v.cells) (by simp only [Block.cells, List.append_assoc, List.nil_append, List.append_nil]) (by simp only [List.length_append, encs_vec_length, List.length_singleton, List.length_nil, List.length_cons]) (by simp only [List.length_append, encs_vec_length, List.length_singleton, List.length_nil, List.length_cons])]
  simp only [Block.cells, List.append_assoc, List.nil_append, List.append_nil]
theorem rd_37_1 (v : Block) {d : TD} (hd : d.k.isAgg = false) : rdVar d v.cells 32 = some (enc v.seq) :=
  rd_one (A := encs v.writer.toList) (C := encs v.prev.toList ++ ([enc v.links] ++ ([enc v.data] ++ (encs v.sig.toList)))) hd (by simp only [Block.cells, List.append_assoc, List.nil_append, List.append_nil]) (by simp only [List.length_append, encs_vec_length, List.length_singleton, List.length_nil, List.length_cons])
theorem wr_37_1 (v : Block) (x : UInt64) : wrCells v.cells 32 ([enc x]) = ({ v with seq := x } : Block).cells := by
  rw [wr_part (A := encs v.writer.toList) (B := [enc v.seq]) (C := encs v.prev.toList ++ ([enc v.links] ++ ([enc v.data] ++ (encs v.sig.toList)))) (c := v.cells) (by simp only [Block.cells, List.append_assoc, List.nil_append, List.append_nil]) (by simp only [List.length_append, encs_vec_length, List.length_singleton, List.length_nil, List.length_cons]) (by simp only [List.length_append, encs_vec_length, List.length_singleton, List.length_nil, List.length_cons])]
  simp only [Block.cells, List.append_assoc, List.nil_append, List.append_nil]
theorem rd_36_1 (v : Block) {d : TD} (hd : d.k.isAgg = false) : rdVar d v.cells 32 = some (enc v.seq) :=
  rd_one (A := encs v.writer.toList) (C := encs v.prev.toList ++ ([enc v.links] ++ ([enc v.data] ++ (encs v.sig.toList)))) hd (by simp only [Block.cells, List.append_assoc, List.nil_append, List.append_nil]) (by simp only [List.length_append, encs_vec_length, List.length_singleton, List.length_nil, List.length_cons])
theorem wr_36_1 (v : Block) (x : UInt64) : wrCells v.cells 32 ([enc x]) = ({ v with seq := x } : Block).cells := by
  rw [wr_part (A := encs v.writer.toList) (B := [enc v.seq]) (C := encs v.prev.toList ++ ([enc v.links] ++ ([enc v.data] ++ (encs v.sig.toList)))) (c := v.cells) (by simp only [Block.cells, List.append_assoc, List.nil_append, List.append_nil]) (by simp only [List.length_append, encs_vec_length, List.length_singleton, List.length_nil, List.length_cons]) (by simp only [List.length_append, encs_vec_length, List.length_singleton, List.length_nil, List.length_cons])]
  simp only [Block.cells, List.append_assoc, List.nil_append, List.append_nil]
theorem rd_37_2 (v : Block) {d : TD} (hd : d.k.isAgg = true) (hs : d.size = 32) : rdVar d v.cells 33 = some (enc v.prev) :=
  rd_part (A := encs v.writer.toList ++ ([enc v.seq])) (B := encs v.prev.toList) (C := [enc v.links] ++ ([enc v.data] ++ (encs v.sig.toList))) hd (by simp only [Block.cells, List.append_assoc, List.nil_append, List.append_nil]) (by simp only [List.length_append, encs_vec_length, List.length_singleton, List.length_nil, List.length_cons]) (by rw [hs]; simp only [List.length_append, encs_vec_length, List.length_singleton, List.length_nil, List.length_cons])
theorem rs_37_2 {v : Block} {H : IHeap} {id cap : Nat} {s : Option Nat} {ro : Bool} (hH : H id = some (.cells v.cells ro)) : rdS H (.slice (some ⟨id, 33, s⟩) 32 cap) = some v.prev.toList :=
  rs_part (A := encs v.writer.toList ++ ([enc v.seq])) (C := [enc v.links] ++ ([enc v.data] ++ (encs v.sig.toList))) hH (by simp only [Block.cells, List.append_assoc, List.nil_append, List.append_nil]) (by simp only [List.length_append, encs_vec_length, List.length_singleton, List.length_nil, List.length_cons]) (by simp)
theorem wr_37_2 (v : Block) (x : Vector UInt8 32) : wrCells v.cells 33 (encs x.toList) = ({ v with prev := x } : Block).cells := by
  rw [wr_part (A := encs v.writer.toList ++ ([enc v.seq])) (B := encs v.prev.toList) (C := [enc v.links] ++ ([enc v.data] ++ (encs v.sig.toList))) (c := v.cells) (by simp only [Block.cells, List.append_assoc, List.nil_append, List.append_nil]) (by simp only [List.length_append, encs_vec_length, List.length_singleton, List.length_nil, List.length_cons]) (by simp only [List.length_append, encs_vec_length, List.length_singleton, List.length_nil, List.length_cons])]
  simp only [Block.cells, List.append_assoc, List.nil_append, List.append_nil]
theorem rd_36_2 (v : Block) {d : TD} (hd : d.k.isAgg = true) (hs : d.size = 32) : rdVar d v.cells 33 = some (enc v.prev) :=
  rd_part (A := encs v.writer.toList ++ ([enc v.seq])) (B := encs v.prev.toList) (C := [enc v.links] ++ ([enc v.data] ++ (encs v.sig.toList))) hd (by simp only [Block.cells, List.append_assoc, List.nil_append, List.append_nil]) (by simp only [List.length_append, encs_vec_length, List.length_singleton, List.length_nil, List.length_cons]) (by rw [hs]; simp only [List.length_append, encs_vec_length, List.length_singleton, List.length_nil, List.length_cons])
theorem rs_36_2 {v : Block} {H : IHeap} {id cap : Nat} {s : Option Nat} {ro : Bool} (hH : H id = some (.cells v.cells ro)) : rdS H (.slice (some ⟨id, 33, s⟩) 32 cap) = some v.prev.toList :=
  rs_part (A := encs v.writer.toList ++ ([enc v.seq])) (C := [enc v.links] ++ ([enc v.data] ++ (encs v.sig.toList))) hH (by simp only [Block.cells, List.append_assoc, List.nil_append, List.append_nil]) (by simp only [List.length_append, encs_vec_length, List.length_singleton, List.length_nil, List.length_cons]) (by simp)
theorem wr_36_2 (v : Block) (x : Vector UInt8 32) : wrCells v.cells 33 (encs x.toList) = ({ v with prev := x } : Block).cells := by
  rw [wr_part (A := encs v.writer.toList ++ ([enc v.seq])) (B := encs v.prev.toList) (C := [enc v.links] ++ ([enc v.data] ++ (encs v.sig.toList))) (c := v.cells) (by simp only [Block.cells, List.append_assoc, List.nil_append, List.append_nil]) (by simp only [List.length_append, encs_vec_length, List.length_singleton, List.length_nil, List.length_cons]) (by simp only [List.length_append, encs_vec_length, List.length_singleton, List.length_nil, List.length_cons])]
  simp only [Block.cells, List.append_assoc, List.nil_append, List.append_nil]
theorem rd_37_3 (v : Block) {d : TD} (hd : d.k.isAgg = false) : rdVar d v.cells 65 = some (enc v.links) :=
  rd_one (A := encs v.writer.toList ++ ([enc v.seq] ++ (encs v.prev.toList))) (C := [enc v.data] ++ (encs v.sig.toList)) hd (by simp only [Block.cells, List.append_assoc, List.nil_append, List.append_nil]) (by simp only [List.length_append, encs_vec_length, List.length_singleton, List.length_nil, List.length_cons])
theorem wr_37_3 (v : Block) (x : Sl) : wrCells v.cells 65 ([enc x]) = ({ v with links := x } : Block).cells := by
  rw [wr_part (A := encs v.writer.toList ++ ([enc v.seq] ++ (encs v.prev.toList))) (B := [enc v.links]) (C := [enc v.data] ++ (encs v.sig.toList)) (c := v.cells) (by simp only [Block.cells, List.append_assoc, List.nil_append, List.append_nil]) (by simp only [List.length_append, encs_vec_length, List.length_singleton, List.length_nil, List.length_cons]) (by simp only [List.length_append, encs_vec_length, List.length_singleton, List.length_nil, List.length_cons])]
  simp only [Block.cells, List.append_assoc, List.nil_append, List.append_nil]
theorem rd_36_3 (v : Block) {d : TD} (hd : d.k.isAgg = false) : rdVar d v.cells 65 = some (enc v.links) :=
  rd_one (A := encs v.writer.toList ++ ([enc v.seq] ++ (encs v.prev.toList))) (C := [enc v.data] ++ (encs v.sig.toList)) hd (by simp only [Block.cells, List.append_assoc, List.nil_append, List.append_nil]) (by simp only [List.length_append, encs_vec_length, List.length_singleton, List.length_nil, List.length_cons])
theorem wr_36_3 (v : Block) (x : Sl) : wrCells v.cells 65 ([enc x]) = ({ v with links := x } : Block).cells := by
  rw [wr_part (A := encs v.writer.toList ++ ([enc v.seq] ++ (encs v.prev.toList))) (B := [enc v.links]) (C := [enc v.data] ++ (encs v.sig.toList)) (c := v.cells) (by simp only [Block.cells, List.append_assoc, List.nil_append, List.append_nil]) (by simp only [List.length_append, encs_vec_length, List.length_singleton, List.length_nil, List.length_cons]) (by simp only [List.length_append, encs_vec_length, List.length_singleton, List.length_nil, List.length_cons])]
  simp only [Block.cells, List.append_assoc, List.nil_append, List.append_nil]
theorem rd_37_4 (v : Block) {d : TD} (hd : d.k.isAgg = false) : rdVar d v.cells 66 = some (enc v.data) :=
  rd_one (A := encs v.writer.toList ++ ([enc v.seq] ++ (encs v.prev.toList ++ ([enc v.links])))) (C := encs v.sig.toList) hd (by simp only [Block.cells, List.append_assoc, List.nil_append, List.append_nil]) (by simp only [List.length_append, encs_vec_length, List.length_singleton, List.length_nil, List.length_cons])
theorem wr_37_4 (v : Block) (x : Sl) : wrCells v.cells 66 ([enc x]) = ({ v with data := x } : Block).cells := by
  rw [wr_part (A := encs v.writer.toList ++ ([enc v.seq] ++ (encs v.prev.toList ++ ([enc v.links])))) (B := [enc v.data]) (C := encs v.sig.toList) (c := v.cells) (by simp only [Block.cells, List.append_assoc, List.nil_append, List.append_nil]) (by simp only [List.length_append, encs_vec_length, List.length_singleton, List.length_nil, List.length_cons]) (by simp only [List.length_append, encs_vec_length, List.length_singleton, List.length_nil, List.length_cons])]
  simp only [Block.cells, List.append_assoc, List.nil_append, List.append_nil]
theorem rd_36_4 (v : Block) {d : TD} (hd : d.k.isAgg = false) : rdVar d v.cells 66 = some (enc v.data) :=
  rd_one (A := encs v.writer.toList ++ ([enc v.seq] ++ (encs v.prev.toList ++ ([enc v.links])))) (C := encs v.sig.toList) hd (by simp only [Block.cells, List.append_assoc, List.nil_append, List.append_nil]) (by simp only [List.length_append, encs_vec_length, List.length_singleton, List.length_nil, List.length_cons])
theorem wr_36_4 (v : Block) (x : Sl) : wrCells v.cells 66 ([enc x]) = ({ v with data := x } : Block).cells := by
  rw [wr_part (A := encs v.writer.toList ++ ([enc v.seq] ++ (encs v.prev.toList ++ ([enc v.links])))) (B := [enc v.data]) (C := encs v.sig.toList) (c := v.cells) (by simp only [Block.cells, List.append_assoc, List.nil_append, List.append_nil]) (by simp only [List.length_append, encs_vec_length, List.length_singleton, List.length_nil, List.length_cons]) (by simp only [List.length_append, encs_vec_length, List.length_singleton, List.length_nil, List.length_cons])]
  simp only [Block.cells, List.append_assoc, List.nil_append, List.append_nil]
theorem rd_37_5 (v : Block) {d : TD} (hd : d.k.isAgg = true) (hs : d.size = 64) : rdVar d v.cells 67 = some (enc v.sig) :=
  rd_part (A := encs v.writer.toList ++ ([enc v.seq] ++ (encs v.prev.toList ++ ([enc v.links] ++ ([enc v.data]))))) (B := encs v.sig.toList) (C := []) hd (by simp only [Block.cells, List.append_assoc, List.nil_append, List.append_nil]) (by simp only [List.length_append, encs_vec_length, List.length_singleton, List.length_nil, List.length_cons]) (by rw [hs]; simp only [List.length_append, encs_vec_length, List.length_singleton, List.length_nil, List.length_cons])
theorem rs_37_5 {v : Block} {H : IHeap} {id cap : Nat} {s : Option Nat} {ro : Bool} (hH : H id = some (.cells v.cells ro)) : rdS H (.slice (some ⟨id, 67, s⟩) 64 cap) = some v.sig.toList :=
  rs_part (A := encs v.writer.toList ++ ([enc v.seq] ++ (encs v.prev.toList ++ ([enc v.links] ++ ([enc v.data]))))) (C := []) hH (by simp only [Block.cells, List.append_assoc, List.nil_append, List.append_nil]) (by simp only [List.length_append, encs_vec_length, List.length_singleton, List.length_nil, List.length_cons]) (by simp)
theorem wr_37_5 (v : Block) (x : Vector UInt8 64) : wrCells v.cells 67 (encs x.toList) = ({ v with sig := x } : Block).cells := by
  rw [wr_part (A := encs v.writer.toList ++ ([enc v.seq] ++ (encs v.prev.toList ++ ([enc v.links] ++ ([enc v.data]))))) (B := encs v.sig.toList) (C := []) (c := v.cells) (by simp only [Block.cells, List.append_assoc, List.nil_append, List.append_nil]) (by simp only [List.length_append, encs_vec_length, List.length_singleton, List.length_nil, List.length_cons]) (by simp only [List.length_append, encs_vec_length, List.length_singleton, List.length_nil, List.length_cons])]
  simp only [Block.cells, List.append_assoc, List.nil_append, List.append_nil]
theorem rd_36_5 (v : Block) {d : TD} (hd : d.k.isAgg = true) (hs : d.size = 64) : rdVar d v.cells 67 = some (enc v.sig) :=
  rd_part (A := encs v.writer.toList ++ ([enc v.seq] ++ (encs v.prev.toList ++ ([enc v.links] ++ ([enc v.data]))))) (B := encs v.sig.toList) (C := []) hd (by simp only [Block.cells, List.append_assoc, List.nil_append, List.append_nil]) (by simp only [List.length_append, encs_vec_length, List.length_singleton, List.length_nil, List.length_cons]) (by rw [hs]; simp only [List.length_append, encs_vec_length, List.length_singleton, List.length_nil, List.length_cons])
theorem rs_36_5 {v : Block} {H : IHeap} {id cap : Nat} {s : Option Nat} {ro : Bool} (hH : H id = some (.cells v.cells ro)) : rdS H (.slice (some ⟨id, 67, s⟩) 64 cap) = some v.sig.toList :=
  rs_part (A := encs v.writer.toList ++ ([enc v.seq] ++ (encs v.prev.toList ++ ([enc v.links] ++ ([enc v.data]))))) (C := []) hH (by simp only [Block.cells, List.append_assoc, List.nil_append, List.append_nil]) (by simp only [List.length_append, encs_vec_length, List.length_singleton, List.length_nil, List.length_cons]) (by simp)
theorem wr_36_5 (v : Block) (x : Vector UInt8 64) : wrCells v.cells 67 (encs x.toList) = ({ v with sig := x } : Block).cells := by
  rw [wr_part (A := encs v.writer.toList ++ ([enc v.seq] ++ (encs v.prev.toList ++ ([enc v.links] ++ ([enc v.data]))))) (B := encs v.sig.toList) (C := []) (c := v.cells) (by simp only [Block.cells, List.append_assoc, List.nil_append, List.append_nil]) (by simp only [List.length_append, encs_vec_length, List.length_singleton, List.length_nil, List.length_cons]) (by simp only [List.length_append, encs_vec_length, List.length_singleton, List.length_nil, List.length_cons])]
  simp only [Block.cells, List.append_assoc, List.nil_append, List.append_nil]
@[ext] structure Record where
  kind : UInt8
  data : Sl
def Record.cells (v : Record) : List Value := [enc v.kind] ++ ([enc v.data])
theorem Record.cells_length (v : Record) : v.cells.length = 2 := by simp only [Record.cells, List.length_append, encs_vec_length, List.length_singleton, List.length_nil, List.length_cons]
theorem Record.cells_inj {a b : Record} (h : a.cells = b.cells) : a = b := by
  simp only [Record.cells] at h
  obtain ⟨h0, h⟩ := app_inj h (by simp only [List.length_append, encs_vec_length, List.length_singleton, List.length_nil, List.length_cons])
  have h1 := h
  ext1
  · exact Enc.inj _ _ (by simpa using h0)
  · exact Enc.inj _ _ (by simpa using h1)
instance : Enc Record := ⟨fun v => .agg v.cells.toArray, fun _ _ h => Record.cells_inj (agg_inj h)⟩
theorem enc_Record (v : Record) : enc v = .agg v.cells.toArray := rfl
theorem cellsOf_Record (v : Record) : cellsOf (enc v) = some v.cells := rfl
def Record.zero : Record := ⟨0, ⟨none, 0, 0⟩⟩
theorem zero_69 {d : TD} (h : D 69 = some d) : d.zero = Record.zero.cells := by
  rw [D_69] at h; cases h; kernel_rfl
theorem zero_68 {d : TD} (h : D 68 = some d) : d.zero = Record.zero.cells := by
  rw [D_68] at h; cases h; kernel_rfl
theorem Record.le (v : Record) {k : Nat} (h : Nat.ble k 2 = true) : k ≤ v.cells.length := by rw [v.cells_length]; exact Nat.le_of_ble_eq_true h
theorem Record.cells_known (v : Record) : v.cells.all known = true := by simp only [Record.cells, List.all_append, encs_known, List.all_cons, List.all_nil, Enc1.agg1, Bool.and_self]
theorem rd_69 (v : Record) {d : TD} (hd : d.k.isAgg = true) (hs : d.size = 2) : rdVar d v.cells 0 = some (enc v) := rd_all hd (by rw [hs]; exact v.cells_length)
theorem rd_68 (v : Record) {d : TD} (hd : d.k.isAgg = true) (hs : d.size = 2) : rdVar d v.cells 0 = some (enc v) := rd_all hd (by rw [hs]; exact v.cells_length)
theorem rd_69_0 (v : Record) {d : TD} (hd : d.k.isAgg = false) : rdVar d v.cells 0 = some (enc v.kind) :=
  rd_one (A := []) (C := [enc v.data]) hd (by simp only [Record.cells, List.append_assoc, List.nil_append, List.append_nil]) (by simp only [List.length_append, encs_vec_length, List.length_singleton, List.length_nil, List.length_cons])
theorem wr_69_0 (v : Record) (x : UInt8) : wrCells v.cells 0 ([enc x]) = ({ v with kind := x } : Record).cells := by
  rw [wr_part (A := []) (B := [enc v.kind]) (C := [enc v.data]) (c := v.cells) (by simp only [Record.cells, List.append_assoc, List.nil_append, List.append_nil]) (by simp only [List.length_append, encs_vec_length, List.length_singleton, List.length_nil, List.length_cons]) (by simp only [List.length_append, encs_vec_length, List.length_singleton, List.length_nil, List.length_cons])]
  simp only [Record.cells, List.append_assoc, List.nil_append, List.append_nil]
theorem rd_68_0 (v : Record) {d : TD} (hd : d.k.isAgg = false) : rdVar d v.cells 0 = some (enc v.kind) :=
  rd_one (A := []) (C := [enc v.data]) hd (by simp only [Record.cells, List.append_assoc, List.nil_append, List.append_nil]) (by simp only [List.length_append, encs_vec_length, List.length_singleton, List.length_nil, List.length_cons])
theorem wr_68_0 (v : Record) (x : UInt8) : wrCells v.cells 0 ([enc x]) = ({ v with kind := x } : Record).cells := by
  rw [wr_part (A := []) (B := [enc v.kind]) (C := [enc v.data]) (c := v.cells) (by simp only [Record.cells, List.append_assoc, List.nil_append, List.append_nil]) (by simp only [List.length_append, encs_vec_length, List.length_singleton, List.length_nil, List.length_cons]) (by simp only [List.length_append, encs_vec_length, List.length_singleton, List.length_nil, List.length_cons])]
  simp only [Record.cells, List.append_assoc, List.nil_append, List.append_nil]
theorem rd_69_1 (v : Record) {d : TD} (hd : d.k.isAgg = false) : rdVar d v.cells 1 = some (enc v.data) :=
  rd_one (A := [enc v.kind]) (C := []) hd (by simp only [Record.cells, List.append_assoc, List.nil_append, List.append_nil]) (by simp only [List.length_append, encs_vec_length, List.length_singleton, List.length_nil, List.length_cons])
theorem wr_69_1 (v : Record) (x : Sl) : wrCells v.cells 1 ([enc x]) = ({ v with data := x } : Record).cells := by
  rw [wr_part (A := [enc v.kind]) (B := [enc v.data]) (C := []) (c := v.cells) (by simp only [Record.cells, List.append_assoc, List.nil_append, List.append_nil]) (by simp only [List.length_append, encs_vec_length, List.length_singleton, List.length_nil, List.length_cons]) (by simp only [List.length_append, encs_vec_length, List.length_singleton, List.length_nil, List.length_cons])]
  simp only [Record.cells, List.append_assoc, List.nil_append, List.append_nil]
theorem rd_68_1 (v : Record) {d : TD} (hd : d.k.isAgg = false) : rdVar d v.cells 1 = some (enc v.data) :=
  rd_one (A := [enc v.kind]) (C := []) hd (by simp only [Record.cells, List.append_assoc, List.nil_append, List.append_nil]) (by simp only [List.length_append, encs_vec_length, List.length_singleton, List.length_nil, List.length_cons])
theorem wr_68_1 (v : Record) (x : Sl) : wrCells v.cells 1 ([enc x]) = ({ v with data := x } : Record).cells := by
  rw [wr_part (A := [enc v.kind]) (B := [enc v.data]) (C := []) (c := v.cells) (by simp only [Record.cells, List.append_assoc, List.nil_append, List.append_nil]) (by simp only [List.length_append, encs_vec_length, List.length_singleton, List.length_nil, List.length_cons]) (by simp only [List.length_append, encs_vec_length, List.length_singleton, List.length_nil, List.length_cons])]
  simp only [Record.cells, List.append_assoc, List.nil_append, List.append_nil]
@[ext] structure RStep where
  at_ : Int
  chain : Vector UInt8 32
  deriving DecidableEq
def RStep.cells (v : RStep) : List Value := [enc v.at_] ++ (encs v.chain.toList)
theorem RStep.cells_length (v : RStep) : v.cells.length = 33 := by simp only [RStep.cells, List.length_append, encs_vec_length, List.length_singleton, List.length_nil, List.length_cons]
theorem RStep.cells_inj {a b : RStep} (h : a.cells = b.cells) : a = b := by
  simp only [RStep.cells] at h
  obtain ⟨h0, h⟩ := app_inj h (by simp only [List.length_append, encs_vec_length, List.length_singleton, List.length_nil, List.length_cons])
  have h1 := h
  ext1
  · exact Enc.inj _ _ (by simpa using h0)
  · exact encs_vec_inj h1
instance : Enc RStep := ⟨fun v => .agg v.cells.toArray, fun _ _ h => RStep.cells_inj (agg_inj h)⟩
theorem enc_RStep (v : RStep) : enc v = .agg v.cells.toArray := rfl
theorem cellsOf_RStep (v : RStep) : cellsOf (enc v) = some v.cells := rfl
def RStep.zero : RStep := ⟨0, Vector.replicate 32 0⟩
theorem zero_107 {d : TD} (h : D 107 = some d) : d.zero = RStep.zero.cells := by
  rw [D_107] at h; cases h; kernel_rfl
theorem zero_106 {d : TD} (h : D 106 = some d) : d.zero = RStep.zero.cells := by
  rw [D_106] at h; cases h; kernel_rfl
theorem RStep.le (v : RStep) {k : Nat} (h : Nat.ble k 33 = true) : k ≤ v.cells.length := by rw [v.cells_length]; exact Nat.le_of_ble_eq_true h
theorem cells_RStep_eq (a b : RStep) {ks : List TK} (hk : K 107 = some ks) : cellsEq ks a.cells b.cells = some (decide (a = b)) := by
  have hk2 := hk
  rw [K_107] at hk2
  cases hk2
  simp only [List.flatten_cons, List.flatten_nil, List.append_nil]
  refine ((cellsEq_mk (cellsEq_one (cellEq_i64 a.at_ b.at_)) (cellsEq_encs cellEq_u8 a.chain.toList b.chain.toList 32 (by simp) (by simp)))).trans ?_
  refine congrArg some ?_
  rw [Bool.eq_iff_iff, decide_eq_true_iff, RStep.ext_iff]
  simp only [Bool.and_eq_true, beq_iff_eq, Vector.toList_inj]
theorem bo_RStep_eql107 (a b : RStep) : binOp' D K .eql 107 (enc a) (enc b) = some (.bool (decide (a = b))) := by
  have := cells_RStep_eq a b K_107
  simp only [enc_RStep, binOp', eqOp, K_107, Option.bind_some] at this ⊢
  rw [this]; rfl
theorem bo_RStep_neq107 (a b : RStep) : binOp' D K .neq 107 (enc a) (enc b) = some (.bool (!decide (a = b))) := by
  have := cells_RStep_eq a b K_107
  simp only [enc_RStep, binOp', eqOp, K_107, Option.bind_some] at this ⊢
  rw [this]; rfl
theorem bo_RStep_eql106 (a b : RStep) : binOp' D K .eql 106 (enc a) (enc b) = some (.bool (decide (a = b))) := by
  have := cells_RStep_eq a b K_107
  simp only [enc_RStep, binOp', eqOp, K_106, Option.bind_some] at this ⊢
  rw [this]; rfl
theorem bo_RStep_neq106 (a b : RStep) : binOp' D K .neq 106 (enc a) (enc b) = some (.bool (!decide (a = b))) := by
  have := cells_RStep_eq a b K_107
  simp only [enc_RStep, binOp', eqOp, K_106, Option.bind_some] at this ⊢
  rw [this]; rfl
theorem RStep.cells_known (v : RStep) : v.cells.all known = true := by simp only [RStep.cells, List.all_append, encs_known, List.all_cons, List.all_nil, Enc1.agg1, Bool.and_self]
theorem rd_107 (v : RStep) {d : TD} (hd : d.k.isAgg = true) (hs : d.size = 33) : rdVar d v.cells 0 = some (enc v) := rd_all hd (by rw [hs]; exact v.cells_length)
theorem rd_106 (v : RStep) {d : TD} (hd : d.k.isAgg = true) (hs : d.size = 33) : rdVar d v.cells 0 = some (enc v) := rd_all hd (by rw [hs]; exact v.cells_length)
theorem rd_107_0 (v : RStep) {d : TD} (hd : d.k.isAgg = false) : rdVar d v.cells 0 = some (enc v.at_) :=
  rd_one (A := []) (C := encs v.chain.toList) hd (by simp only [RStep.cells, List.append_assoc, List.nil_append, List.append_nil]) (by simp only [List.length_append, encs_vec_length, List.length_singleton, List.length_nil, List.length_cons])
theorem wr_107_0 (v : RStep) (x : Int) : wrCells v.cells 0 ([enc x]) = ({ v with at_ := x } : RStep).cells := by
  rw [wr_part (A := []) (B := [enc v.at_]) (C := encs v.chain.toList) (c := v.cells) (by simp only [RStep.cells, List.append_assoc, List.nil_append, List.append_nil]) (by simp only [List.length_append, encs_vec_length, List.length_singleton, List.length_nil, List.length_cons]) (by simp only [List.length_append, encs_vec_length, List.length_singleton, List.length_nil, List.length_cons])]
  simp only [RStep.cells, List.append_assoc, List.nil_append, List.append_nil]
theorem rd_106_0 (v : RStep) {d : TD} (hd : d.k.isAgg = false) : rdVar d v.cells 0 = some (enc v.at_) :=
  rd_one (A := []) (C := encs v.chain.toList) hd (by simp only [RStep.cells, List.append_assoc, List.nil_append, List.append_nil]) (by simp only [List.length_append, encs_vec_length, List.length_singleton, List.length_nil, List.length_cons])
theorem wr_106_0 (v : RStep) (x : Int) : wrCells v.cells 0 ([enc x]) = ({ v with at_ := x } : RStep).cells := by
  rw [wr_part (A := []) (B := [enc v.at_]) (C := encs v.chain.toList) (c := v.cells) (by simp only [RStep.cells, List.append_assoc, List.nil_append, List.append_nil]) (by simp only [List.length_append, encs_vec_length, List.length_singleton, List.length_nil, List.length_cons]) (by simp only [List.length_append, encs_vec_length, List.length_singleton, List.length_nil, List.length_cons])]
  simp only [RStep.cells, List.append_assoc, List.nil_append, List.append_nil]
theorem rd_107_1 (v : RStep) {d : TD} (hd : d.k.isAgg = true) (hs : d.size = 32) : rdVar d v.cells 1 = some (enc v.chain) :=
  rd_part (A := [enc v.at_]) (B := encs v.chain.toList) (C := []) hd (by simp only [RStep.cells, List.append_assoc, List.nil_append, List.append_nil]) (by simp only [List.length_append, encs_vec_length, List.length_singleton, List.length_nil, List.length_cons]) (by rw [hs]; simp only [List.length_append, encs_vec_length, List.length_singleton, List.length_nil, List.length_cons])
theorem rs_107_1 {v : RStep} {H : IHeap} {id cap : Nat} {s : Option Nat} {ro : Bool} (hH : H id = some (.cells v.cells ro)) : rdS H (.slice (some ⟨id, 1, s⟩) 32 cap) = some v.chain.toList :=
  rs_part (A := [enc v.at_]) (C := []) hH (by simp only [RStep.cells, List.append_assoc, List.nil_append, List.append_nil]) (by simp only [List.length_append, encs_vec_length, List.length_singleton, List.length_nil, List.length_cons]) (by simp)
theorem wr_107_1 (v : RStep) (x : Vector UInt8 32) : wrCells v.cells 1 (encs x.toList) = ({ v with chain := x } : RStep).cells := by
  rw [wr_part (A := [enc v.at_]) (B := encs v.chain.toList) (C := []) (c := v.cells) (by simp only [RStep.cells, List.append_assoc, List.nil_append, List.append_nil]) (by simp only [List.length_append, encs_vec_length, List.length_singleton, List.length_nil, List.length_cons]) (by simp only [List.length_append, encs_vec_length, List.length_singleton, List.length_nil, List.length_cons])]
  simp only [RStep.cells, List.append_assoc, List.nil_append, List.append_nil]
theorem rd_106_1 (v : RStep) {d : TD} (hd : d.k.isAgg = true) (hs : d.size = 32) : rdVar d v.cells 1 = some (enc v.chain) :=
  rd_part (A := [enc v.at_]) (B := encs v.chain.toList) (C := []) hd (by simp only [RStep.cells, List.append_assoc, List.nil_append, List.append_nil]) (by simp only [List.length_append, encs_vec_length, List.length_singleton, List.length_nil, List.length_cons]) (by rw [hs]; simp only [List.length_append, encs_vec_length, List.length_singleton, List.length_nil, List.length_cons])
theorem rs_106_1 {v : RStep} {H : IHeap} {id cap : Nat} {s : Option Nat} {ro : Bool} (hH : H id = some (.cells v.cells ro)) : rdS H (.slice (some ⟨id, 1, s⟩) 32 cap) = some v.chain.toList :=
  rs_part (A := [enc v.at_]) (C := []) hH (by simp only [RStep.cells, List.append_assoc, List.nil_append, List.append_nil]) (by simp only [List.length_append, encs_vec_length, List.length_singleton, List.length_nil, List.length_cons]) (by simp)
theorem wr_106_1 (v : RStep) (x : Vector UInt8 32) : wrCells v.cells 1 (encs x.toList) = ({ v with chain := x } : RStep).cells := by
  rw [wr_part (A := [enc v.at_]) (B := encs v.chain.toList) (C := []) (c := v.cells) (by simp only [RStep.cells, List.append_assoc, List.nil_append, List.append_nil]) (by simp only [List.length_append, encs_vec_length, List.length_singleton, List.length_nil, List.length_cons]) (by simp only [List.length_append, encs_vec_length, List.length_singleton, List.length_nil, List.length_cons])]
  simp only [RStep.cells, List.append_assoc, List.nil_append, List.append_nil]
end Go.Proofs.Ytdnnojblneccdaa
/-
  Arithmetic on Lean's own numbers.
-/
namespace Go.Proofs.Ytdnnojblneccdaa
set_option linter.unusedSimpArgs false
set_option linter.unusedVariables false
open Go
open Enc (enc)

section
variable {D : Ty} {K : Kinds} {t : TypeId}
theorem bo_u64_eql (x y : UInt64) : binOp' D K .eql t (enc x) (enc y) = some (.bool (x == y)) := by
  refine congrArg (fun b => some (Value.bool b)) ?_
  rw [Bool.eq_iff_iff, beq_iff_eq, beq_iff_eq]
  exact ⟨fun e => UInt64.toNat_inj.1 (by omega), fun e => by rw [e]⟩
theorem bo_u64_neq (x y : UInt64) : binOp' D K .neq t (enc x) (enc y) = some (.bool (x != y)) := by
  refine congrArg (fun b => some (Value.bool b)) ?_
  rw [Bool.eq_iff_iff, bne_iff_ne, bne_iff_ne]
  exact ⟨fun e h => e (by rw [h]), fun e h => e (UInt64.toNat_inj.1 (by omega))⟩
theorem bo_u64_lss (x y : UInt64) : binOp' D K .lss t (enc x) (enc y) = some (.bool (decide (x < y))) := by
  refine congrArg (fun b => some (Value.bool b)) ?_
  rw [Bool.eq_iff_iff, decide_eq_true_iff, decide_eq_true_iff, UInt64.lt_iff_toNat_lt]
  omega
theorem bo_u64_gtr (x y : UInt64) : binOp' D K .gtr t (enc x) (enc y) = some (.bool (decide (y < x))) := by
  refine congrArg (fun b => some (Value.bool b)) ?_
  rw [Bool.eq_iff_iff, decide_eq_true_iff, decide_eq_true_iff, UInt64.lt_iff_toNat_lt]
  omega
theorem bo_u64_leq (x y : UInt64) : binOp' D K .leq t (enc x) (enc y) = some (.bool (decide (x ≤ y))) := by
  refine congrArg (fun b => some (Value.bool b)) ?_
  rw [Bool.eq_iff_iff, decide_eq_true_iff, decide_eq_true_iff, UInt64.le_iff_toNat_le]
  omega
theorem bo_u64_geq (x y : UInt64) : binOp' D K .geq t (enc x) (enc y) = some (.bool (decide (y ≤ x))) := by
  refine congrArg (fun b => some (Value.bool b)) ?_
  rw [Bool.eq_iff_iff, decide_eq_true_iff, decide_eq_true_iff, UInt64.le_iff_toNat_le]
  omega
theorem bo_u8_eql (x y : UInt8) : binOp' D K .eql t (enc x) (enc y) = some (.bool (x == y)) := by
  refine congrArg (fun b => some (Value.bool b)) ?_
  rw [Bool.eq_iff_iff, beq_iff_eq, beq_iff_eq]
  exact ⟨fun e => UInt8.toNat_inj.1 (by omega), fun e => by rw [e]⟩
theorem bo_u8_neq (x y : UInt8) : binOp' D K .neq t (enc x) (enc y) = some (.bool (x != y)) := by
  refine congrArg (fun b => some (Value.bool b)) ?_
  rw [Bool.eq_iff_iff, bne_iff_ne, bne_iff_ne]
  exact ⟨fun e h => e (by rw [h]), fun e h => e (UInt8.toNat_inj.1 (by omega))⟩
theorem bo_i64_eql (a b : Int) : binOp' D K .eql t (.int .i64 a) (.int .i64 b) = some (.bool (a == b)) := rfl
theorem bo_i64_neq (a b : Int) : binOp' D K .neq t (.int .i64 a) (.int .i64 b) = some (.bool (a != b)) := rfl
theorem bo_i64_lss (a b : Int) : binOp' D K .lss t (.int .i64 a) (.int .i64 b) = some (.bool (decide (a < b))) := rfl
theorem bo_i64_leq (a b : Int) : binOp' D K .leq t (.int .i64 a) (.int .i64 b) = some (.bool (decide (a ≤ b))) := rfl
theorem bo_i64_gtr (a b : Int) : binOp' D K .gtr t (.int .i64 a) (.int .i64 b) = some (.bool (decide (b < a))) := rfl
theorem bo_i64_geq (a b : Int) : binOp' D K .geq t (.int .i64 a) (.int .i64 b) = some (.bool (decide (b ≤ a))) := rfl
theorem bo_i64_add {a b : Int} (h : -9223372036854775808 ≤ a + b ∧ a + b ≤ 9223372036854775807) : binOp' D K .add t (.int .i64 a) (.int .i64 b) = some (.int .i64 (a + b)) := by
  show some (Value.int .i64 (IntKind.wrap .i64 (a + b))) = _
  rw [wrap_i64 h.1 h.2]
theorem bo_i64_sub {a b : Int} (h : -9223372036854775808 ≤ a - b ∧ a - b ≤ 9223372036854775807) : binOp' D K .sub t (.int .i64 a) (.int .i64 b) = some (.int .i64 (a - b)) := by
  show some (Value.int .i64 (IntKind.wrap .i64 (a - b))) = _
  rw [wrap_i64 h.1 h.2]
theorem bo_i64_mul {a b : Int} (h : -9223372036854775808 ≤ a * b ∧ a * b ≤ 9223372036854775807) : binOp' D K .mul t (.int .i64 a) (.int .i64 b) = some (.int .i64 (a * b)) := by
  show some (Value.int .i64 (IntKind.wrap .i64 (a * b))) = _
  rw [wrap_i64 h.1 h.2]
theorem bo_bool_eql {d : TD} (hd : D t = some d) (hk : d.k = .bool) (a b : Bool) : binOp' D K .eql t (.bool a) (.bool b) = some (.bool (a == b)) := by
  simp [binOp', eqOp, hd, hk]
theorem bo_bool_neq {d : TD} (hd : D t = some d) (hk : d.k = .bool) (a b : Bool) : binOp' D K .neq t (.bool a) (.bool b) = some (.bool (a != b)) := by
  simp only [binOp', eqOp, hd, hk, Option.bind_some, if_true, Option.map_some]; cases a <;> cases b <;> rfl
theorem uo_not (a : Bool) : unOp' .not (.bool a) = some (.bool !a) := rfl
theorem uo_neg_i64 {a : Int} (h : -9223372036854775807 ≤ a ∧ a ≤ 9223372036854775807) : unOp' .neg (.int .i64 a) = some (.int .i64 (-a)) := by
  show some (Value.int .i64 (IntKind.wrap .i64 (0 - a))) = _
  rw [wrap_i64 (by omega) (by omega)]; simp
end
end Go.Proofs.Ytdnnojblneccdaa
/-
  Functions of plain values; returns.
-/
namespace Go.Proofs.Ytdnnojblneccdaa
set_option linter.unusedSimpArgs false
set_option linter.unusedVariables false
open Go
open Enc (enc)

section
variable {α β γ δ : Type} [Enc α] [Enc β] [Enc γ] [Enc δ]
noncomputable def fn0 (f : Value) : FnI := fun args _ n => match args with
  | [] => some ⟨f, [], n⟩
  | _ => none
noncomputable def fn1 (f : α → Value) : FnI := fun args _ n => match args with
  | [x] => (dec x).bind fun a => some ⟨f a, [], n⟩
  | _ => none
noncomputable def fn2 (f : α → β → Value) : FnI := fun args _ n => match args with
  | [x, y] => (dec x).bind fun a => (dec y).bind fun b => some ⟨f a b, [], n⟩
  | _ => none
noncomputable def fn3 (f : α → β → γ → Value) : FnI := fun args _ n => match args with
  | [x, y, z] => (dec x).bind fun a => (dec y).bind fun b => (dec z).bind fun c => some ⟨f a b c, [], n⟩
  | _ => none
theorem fn0_inv {f : Value} {args : List Value} {H : IHeap} {n : Nat} {e : Eff} (h : fn0 f args H n = some e) : args = [] ∧ e = ⟨f, [], n⟩ := by
  unfold fn0 at h; split at h
  · cases h; exact ⟨rfl, rfl⟩
  · cases h
theorem fn1_inv {f : α → Value} {args : List Value} {H : IHeap} {n : Nat} {e : Eff} (h : fn1 f args H n = some e) : ∃ a, args = [enc a] ∧ e = ⟨f a, [], n⟩ := by
  unfold fn1 at h; split at h
  · simp only [Option.bind_eq_some_iff] at h
    obtain ⟨a, ha, h⟩ := h
    cases h; exact ⟨a, by rw [dec_some ha], rfl⟩
  · cases h
theorem fn2_inv {f : α → β → Value} {args : List Value} {H : IHeap} {n : Nat} {e : Eff} (h : fn2 f args H n = some e) : ∃ a b, args = [enc a, enc b] ∧ e = ⟨f a b, [], n⟩ := by
  unfold fn2 at h; split at h
  · simp only [Option.bind_eq_some_iff] at h
    obtain ⟨a, ha, b, hb, h⟩ := h
    cases h; exact ⟨a, b, by rw [dec_some ha, dec_some hb], rfl⟩
  · cases h
theorem fn3_inv {f : α → β → γ → Value} {args : List Value} {H : IHeap} {n : Nat} {e : Eff} (h : fn3 f args H n = some e) : ∃ a b c, args = [enc a, enc b, enc c] ∧ e = ⟨f a b c, [], n⟩ := by
  unfold fn3 at h; split at h
  · simp only [Option.bind_eq_some_iff] at h
    obtain ⟨a, ha, b, hb, c, hc, h⟩ := h
    cases h; exact ⟨a, b, c, by rw [dec_some ha, dec_some hb, dec_some hc], rfl⟩
  · cases h
theorem fn0_ev (f : Value) (H : IHeap) (n : Nat) : fn0 f [] H n = some ⟨f, [], n⟩ := rfl
theorem fn1_ev (f : α → Value) (a : α) (H : IHeap) (n : Nat) : fn1 f [enc a] H n = some ⟨f a, [], n⟩ := by simp only [fn1, dec_enc, Option.bind_some]
theorem fn2_ev (f : α → β → Value) (a : α) (b : β) (H : IHeap) (n : Nat) : fn2 f [enc a, enc b] H n = some ⟨f a b, [], n⟩ := by simp only [fn2, dec_enc, Option.bind_some]
theorem fn3_ev (f : α → β → γ → Value) (a : α) (b : β) (c : γ) (H : IHeap) (n : Nat) : fn3 f [enc a, enc b, enc c] H n = some ⟨f a b c, [], n⟩ := by simp only [fn3, dec_enc, Option.bind_some]
end

theorem ires_tmp {D : Ty} {N u : Nat} {L : List (Nat × Value)} {v : Value} {H : IHeap} (h : opd N L (.tmp u) = some v) : ires D (dense N L) H [.tmp u] = some v := by
  have : ev (dense N L) (.tmp u) = v := pl h
  simp only [ev] at this
  simp only [ires, ires1, this]
/-- a value is returned, nothing of the caller's was written -/
theorem RetP.one {D : Ty} {rs : List ResultVar} {N u n n' : Nat} {L : List (Nat × Value)} {v : Value} {H H' : IHeap} {ex : Exit} (hx : ex = .normal ∨ ex = .ret) (hrs : rs = [.tmp u]) (h : opd N L (.tmp u) = some v) (hv : okN (fun id => id < n) v) :
    RetP D rs n H ⟨v, [], n⟩ ex (dense N L) H' n' := by
  subst hrs
  exact RetP.pure hx (ires_tmp h) hv (Nat.le_refl _)
theorem RetP.ret {D : Ty} {rs : List ResultVar} {N u n n' : Nat} {L : List (Nat × Value)} {v v' : Value} {H H' : IHeap} {ex : Exit} (hx : ex = .normal ∨ ex = .ret) (hrs : rs = [.tmp u]) (h : opd N L (.tmp u) = some v') (hv : okN (fun id => id < n) v) (hw : v' = v) :
    RetP D rs n H ⟨v, [], n⟩ ex (dense N L) H' n' := by
  subst hw; exact RetP.one hx hrs h hv
end Go.Proofs.Ytdnnojblneccdaa
/-
  Regions whose order is open, step by step.
-/
namespace Go.Proofs.Ytdnnojblneccdaa
set_option linter.unusedSimpArgs false
set_option linter.unusedVariables false
open Go
open Enc (enc)

/-- the updates that are seen -/
def upsW (pre : List Nat) : List (Nat × Ups) → Ups
  | [] => []
  | w :: ws => cond (pre.any (Nat.beq w.1)) (w.2 ++ upsW pre ws) (upsW pre ws)
def allW (Wr : List (Nat × Ups)) : Ups := Wr.flatMap (·.2)
theorem upsW_append (pre : List Nat) (a b : List (Nat × Ups)) : upsW pre (a ++ b) = upsW pre a ++ upsW pre b := by
  induction a with
  | nil => rfl
  | cons w a ih =>
    simp only [List.cons_append, upsW, ih]
    cases pre.any (Nat.beq w.1)
    · rfl
    · simp
theorem upsOf_append (pre : List Nat) : ∀ (a b : List Left) (j : Nat), upsOf pre (a ++ b) j = upsOf pre a j ++ upsOf pre b (j + a.length)
  | [], b, j => by simp [upsOf]
  | y :: a, b, j => by
    simp only [List.cons_append, upsOf, upsOf_append pre a b (j + 1), List.length_cons]
    have : j + 1 + a.length = j + (a.length + 1) := by omega
    rw [this]
    split
    · rw [List.append_assoc]
    · rfl
theorem any_beq (pre : List Nat) (j : Nat) : pre.any (Nat.beq j) = true ↔ j ∈ pre := by
  rw [List.any_eq_true]
  constructor
  · rintro ⟨x, h1, h2⟩
    have := Nat.eq_of_beq_eq_true h2
    subst this; exact h1
  · intro h; exact ⟨j, h, Nat.beq_refl j⟩

/-- what is left behind so far, in short -/
structure Rep (n0 : Nat) (acc : List Left) (k : Nat) (Wr : List (Nat × Ups)) (Vs : List (Nat × Vis)) (n : Nat) : Prop where
  len : acc.length = k
  ups : ∀ pre, upsOf pre acc 0 = upsW pre Wr
  all : allUps acc = allW Wr
  wr : ∀ j y, acc[j]? = some y → y.up = [] ∨ (j, y.up) ∈ Wr
  vis : ∀ j y, acc[j]? = some y → y.vis = .ids [] ∨ (j, y.vis) ∈ Vs
  fresh : ∀ y ∈ acc, ∀ id, n ≤ id → y.vis.clear n0 id
  le : n0 ≤ n

theorem Rep.nil (n : Nat) : Rep n [] 0 [] [] n := ⟨rfl, fun _ => rfl, rfl, fun j y h => by simp at h, fun j y h => by simp at h, fun y h => by simp at h, Nat.le_refl _⟩

theorem Rep.snoc {n0 k n n' : Nat} {acc : List Left} {Wr : List (Nat × Ups)} {Vs : List (Nat × Vis)} (R : Rep n0 acc k Wr Vs n) (x : Left) (Wr' : List (Nat × Ups)) (Vs' : List (Nat × Vis)) (hn : n ≤ n')
    (hw : x.up = [] ∧ Wr' = Wr ∨ Wr' = Wr ++ [(k, x.up)]) (hv : x.vis = .ids [] ∧ Vs' = Vs ∨ Vs' = (k, x.vis) :: Vs ∨ x.vis = .ids [] ∧ ∃ u, Vs' = u :: Vs) (hf : ∀ id, n' ≤ id → x.vis.clear n0 id) : Rep n0 (acc ++ [x]) (k + 1) Wr' Vs' n' := by
  refine ⟨by simp [R.len], fun pre => ?_, ?_, fun j y h => ?_, fun j y h => ?_, fun y h id hid => ?_, Nat.le_trans R.le hn⟩
  · rw [upsOf_append, R.ups pre]
    simp only [upsOf, Nat.zero_add, R.len, List.append_nil]
    rcases hw with ⟨h1, rfl⟩ | rfl
    · rw [h1]; simp
    · rw [upsW_append]
      simp only [upsW, List.append_nil]
      cases hb : pre.any (Nat.beq k) with
      | true => rw [if_pos ((any_beq pre k).1 hb)]; rfl
      | false => rw [if_neg (fun h => by rw [(any_beq pre k).2 h] at hb; cases hb)]; rfl
  · simp only [allUps, List.flatMap_append, List.flatMap_cons, List.flatMap_nil, List.append_nil]
    have := R.all
    simp only [allUps] at this
    rw [this]
    rcases hw with ⟨h1, rfl⟩ | rfl
    · rw [h1]; simp
    · simp [allW]
  · by_cases hj : j < acc.length
    · rw [List.getElem?_append_left hj] at h
      rcases R.wr j y h with h1 | h1
      · exact .inl h1
      · rcases hw with ⟨_, rfl⟩ | rfl
        · exact .inr h1
        · exact .inr (List.mem_append_left _ h1)
    · rw [List.getElem?_append_right (by omega)] at h
      have hjk : j - acc.length = 0 := by
        have := (List.getElem?_eq_some_iff.1 h).1
        simp at this; omega
      rw [hjk] at h
      cases h
      have : j = k := by have := R.len; omega
      subst this
      rcases hw with ⟨h1, rfl⟩ | rfl
      · exact .inl h1
      · exact .inr (by simp)
  · by_cases hj : j < acc.length
    · rw [List.getElem?_append_left hj] at h
      rcases R.vis j y h with h1 | h1
      · exact .inl h1
      · rcases hv with ⟨_, rfl⟩ | rfl | ⟨_, u, rfl⟩
        · exact .inr h1
        · exact .inr (List.mem_cons_of_mem _ h1)
        · exact .inr (List.mem_cons_of_mem _ h1)
    · rw [List.getElem?_append_right (by omega)] at h
      have hjk : j - acc.length = 0 := by
        have := (List.getElem?_eq_some_iff.1 h).1
        simp at this; omega
      rw [hjk] at h
      cases h
      have : j = k := by have := R.len; omega
      subst this
      rcases hv with ⟨h1, _⟩ | rfl | ⟨h1, _⟩
      · exact .inl h1
      · exact .inr List.mem_cons_self
      · exact .inl h1
  · rcases List.mem_append.1 h with h1 | h1
    · exact R.fresh y h1 id (Nat.le_trans hn hid)
    · simp only [List.mem_singleton] at h1; subst h1; exact hf id hid

theorem apart2_mk {n0 : Nat} {pre : List Nat} {x : Left} : ∀ {acc : List Left} {k : Nat}, (∀ j y, acc[j]? = some y → (k + j ∈ pre ∨ ((∀ p ∈ x.up, y.vis.clear n0 p.1) ∧ ∀ p ∈ y.up, x.vis.clear n0 p.1))) → apart2 n0 pre x acc k
  | [], _, _ => trivial
  | y :: acc, k, h => ⟨by simpa using h 0 y rfl, apart2_mk fun j z hz => by
      have := h (j + 1) z (by simpa using hz)
      have e : k + (j + 1) = k + 1 + j := by omega
      rw [e] at this; exact this⟩

/-- a thing that writes nothing, against those that wrote -/
def quietW (n0 : Nat) (pre : List Nat) (vis : Vis) : List (Nat × Ups) → Prop
  | [] => True
  | w :: ws => (cond (pre.any (Nat.beq w.1)) True (∀ p ∈ w.2, vis.clear n0 p.1)) ∧ quietW n0 pre vis ws
theorem quietW_spec {n0 : Nat} {pre : List Nat} {vis : Vis} : ∀ {Wr : List (Nat × Ups)}, quietW n0 pre vis Wr → ∀ w ∈ Wr, w.1 ∈ pre ∨ ∀ p ∈ w.2, vis.clear n0 p.1
  | w :: ws, h, u, hu => by
    rcases List.mem_cons.1 hu with rfl | hu
    · have h1 := h.1
      cases hb : pre.any (Nat.beq u.1) with
      | true => exact .inl ((any_beq _ _).1 hb)
      | false => rw [hb] at h1; exact .inr h1
    · exact quietW_spec h.2 u hu
/-- a thing that writes id, against those that looked -/
def clearV (n0 : Nat) (pre : List Nat) (id : Nat) : List (Nat × Vis) → Prop
  | [] => True
  | w :: ws => (cond (pre.any (Nat.beq w.1)) True (w.2.clear n0 id)) ∧ clearV n0 pre id ws
theorem clearV_spec {n0 : Nat} {pre : List Nat} {id : Nat} : ∀ {Vs : List (Nat × Vis)}, clearV n0 pre id Vs → ∀ w ∈ Vs, w.1 ∈ pre ∨ w.2.clear n0 id
  | w :: ws, h, u, hu => by
    rcases List.mem_cons.1 hu with rfl | hu
    · have h1 := h.1
      cases hb : pre.any (Nat.beq u.1) with
      | true => exact .inl ((any_beq _ _).1 hb)
      | false => rw [hb] at h1; exact .inr h1
    · exact clearV_spec h.2 u hu

section
variable {P : Program} {Γ : Fns} {D : Ty} {K : Kinds} {W : Nat → Prop} {R : Option Nat} {ops : Array Oper} {Q : Post3} {o : Oper} {os : List Oper} {pre : List Nat} {pres : List (List Nat)} {N : Nat} {L : List (Nat × Value)} {H : IHeap} {M : Ups} {n n0 k : Nat}
  {Wr : List (Nat × Ups)} {Vs : List (Nat × Vis)}

/-- what is to be shown of the rest of such a region -/
def vcE (Γ : Fns) (D : Ty) (K : Kinds) (W : Nat → Prop) (ops : Array Oper) (H0 : IHeap) (n0 : Nat) (Q : Post3) (os : List Oper) (pres : List (List Nat)) (k : Nat) (Wr : List (Nat × Ups)) (Vs : List (Nat × Vis)) (t : List Value) (n : Nat) : Prop :=
  ∀ acc, Rep n0 acc k Wr Vs n → vcD Γ D K W ops H0 n0 Q os pres acc t n

theorem vcE_start {os : List Oper} {H0 : IHeap} {t : List Value} (h : vcE Γ D K W ops H0 n Q os pres 0 [] [] t n) : vcD Γ D K W ops H0 n Q os pres [] t n := h [] (Rep.nil n)

theorem vcE_nil (h : Q (dense N L) (hp H (putH (allW Wr) M)) n) : vcE Γ D K W ops (hp H M) n0 Q [] [] k Wr Vs (dense N L) n := by
  intro acc R
  unfold vcD
  rw [R.all, upds_hp]; exact h

/-- nothing written; what is looked at, is written by none that may come between -/
theorem vcE_val {d : Tmp} {v : Value} {ids : List Nat} {u M' : Ups} (hd : o.dst = some d) (hg : o.guard = none) (hu : upsW pre Wr = u) (hM : putH u M = M') (h : iopC Γ D K (ev (dense N L)) (hp H M') n o.op = some ⟨v, [], n⟩) (hc : isCall o.op = false)
    (hs : seesIds (ev (dense N L)) o.op = ids) (hl : ∀ id ∈ ids, id < n) (hq : quietW n0 pre (.ids ids) Wr)
    (hk : vcE Γ D K W ops (hp H M) n0 Q os pres (k + 1) Wr ((k, .ids ids) :: Vs) (dense N ((d, v) :: L)) n) : vcE Γ D K W ops (hp H M) n0 Q (o :: os) (pre :: pres) k Wr Vs (dense N L) n := by
  intro acc R
  subst hu
  subst hM
  unfold vcD
  rw [R.ups pre, upds_hp, h]
  simp only [wantedI, hg, wpo]
  have hv : visOf (ev (dense N L)) o.op (List.map (fun x => x.fst) (upsW pre Wr)) = .ids ids := by simp only [visOf, hc]; rw [hs]; rfl
  refine ⟨fun _ => ⟨fun p hm => (by cases hm), Nat.le_refl _, ?_, ?_⟩, fun hb => by cases hb⟩
  · refine apart2_mk fun j y hy => ?_
    rw [hv]
    rcases R.wr j y hy with h1 | h1
    · right; exact ⟨fun p hm => (by cases hm), by rw [h1]; exact fun p hm => (by cases hm)⟩
    · rcases quietW_spec hq _ h1 with h2 | h2
      · left; simpa using h2
      · right; exact ⟨fun p hm => (by cases hm), h2⟩
  · have hh := hk (acc ++ [⟨[], .ids ids⟩]) (R.snoc _ _ _ (Nat.le_refl _) (.inl ⟨rfl, rfl⟩) (.inr (.inl rfl)) (fun id hid => by
      show id ∉ ids
      intro hm; have := hl id hm; omega))
    rw [hv]
    rw [tput_dense, hd]
    exact hh
/-- nothing written or looked at -/
theorem vcE_bl {d : Tmp} {v : Value} (hd : o.dst = some d) (hg : o.guard = none) (h : ∀ H', iopC Γ D K (ev (dense N L)) H' n o.op = some ⟨v, [], n⟩) (hc : isCall o.op = false) (hs : seesIds (ev (dense N L)) o.op = [])
    (hk : vcE Γ D K W ops (hp H M) n0 Q os pres (k + 1) Wr Vs (dense N ((d, v) :: L)) n) : vcE Γ D K W ops (hp H M) n0 Q (o :: os) (pre :: pres) k Wr Vs (dense N L) n := by
  intro acc R
  unfold vcD
  rw [h]
  simp only [wantedI, hg, wpo]
  have hv : ∀ l, visOf (ev (dense N L)) o.op l = .ids [] := by intro l; simp only [visOf, hc]; rw [hs]; rfl
  refine ⟨fun _ => ⟨fun p hm => (by cases hm), Nat.le_refl _, ?_, ?_⟩, fun hb => by cases hb⟩
  · refine apart2_mk fun j y hy => .inr ⟨fun p hm => (by cases hm), fun p _ => ?_⟩
    rw [hv]; simp [Vis.clear]
  · have hh := hk (acc ++ [⟨[], .ids []⟩]) (R.snoc _ _ _ (Nat.le_refl _) (.inl ⟨rfl, rfl⟩) (.inl ⟨rfl, rfl⟩) (fun id hid => by simp [Vis.clear]))
    rw [hv]
    rw [tput_dense, hd]
    exact hh
/-- with a guard, nothing written -/
theorem vcE_opt {d : Tmp} {b : Bool} {v : Value} {u M' : Ups} {vis : Vis} (hd : o.dst = some d) (hg : wantedI ops (dense N L) o = some b) (hu : upsW pre Wr = u) (hM : putH u M = M') (h : b = true → iopC Γ D K (ev (dense N L)) (hp H M') n o.op = some ⟨v, [], n⟩)
    (hv : b = true → visOf (ev (dense N L)) o.op (u.map (·.1)) = vis) (hf : ∀ id, n ≤ id → n0 ≤ id → vis.clear n0 id) (hq : quietW n0 pre vis Wr)
    (hk : vcE Γ D K W ops (hp H M) n0 Q os pres (k + 1) Wr ((k, vis) :: Vs) (dense N ((d, gv b v) :: L)) n) : vcE Γ D K W ops (hp H M) n0 Q (o :: os) (pre :: pres) k Wr Vs (dense N L) n := by
  intro acc R
  subst hu
  subst hM
  unfold vcD
  rw [R.ups pre, upds_hp]
  simp only [wpo, hg]
  refine ⟨fun hb => ?_, fun hb => ?_⟩
  · rw [h hb, hv hb]
    subst hb
    refine ⟨fun p hm => (by cases hm), Nat.le_refl _, ?_, ?_⟩
    · refine apart2_mk fun j y hy => ?_
      rcases R.wr j y hy with h1 | h1
      · right; exact ⟨fun p hm => (by cases hm), by rw [h1]; exact fun p hm => (by cases hm)⟩
      · rcases quietW_spec hq _ h1 with h2 | h2
        · left; simpa using h2
        · right; exact ⟨fun p hm => (by cases hm), h2⟩
    · have hh := hk (acc ++ [⟨[], vis⟩]) (R.snoc _ _ _ (Nat.le_refl _) (.inl ⟨rfl, rfl⟩) (.inr (.inl rfl)) (fun id hid => hf id hid (Nat.le_trans R.le hid)))
      rw [tput_dense, hd]
      exact hh
  · subst hb
    have hh := hk (acc ++ [⟨[], .ids []⟩]) (R.snoc _ _ _ (Nat.le_refl _) (.inl ⟨rfl, rfl⟩) (.inr (.inr ⟨rfl, _, rfl⟩)) (fun id hid => by simp [Vis.clear]))
    rw [tput_dense, hd]
    exact hh
/-- a call that writes nothing -/
theorem vcE_call {d : Tmp} {v : Value} {u M' : Ups} (hd : o.dst = some d) (hg : o.guard = none) (hu : upsW pre Wr = u) (hM : putH u M = M') (h : iopC Γ D K (ev (dense N L)) (hp H M') n o.op = some ⟨v, [], n⟩) (hc : isCall o.op = true)
    (hl : ∀ p ∈ u, p.1 < n) (hq : quietW n0 pre (.all (u.map (·.1))) Wr)
    (hk : vcE Γ D K W ops (hp H M) n0 Q os pres (k + 1) Wr ((k, .all (u.map (·.1))) :: Vs) (dense N ((d, v) :: L)) n) : vcE Γ D K W ops (hp H M) n0 Q (o :: os) (pre :: pres) k Wr Vs (dense N L) n := by
  intro acc R
  subst hu
  subst hM
  unfold vcD
  rw [R.ups pre, upds_hp, h]
  simp only [wantedI, hg, wpo]
  have hv : visOf (ev (dense N L)) o.op (List.map (fun x => x.fst) (upsW pre Wr)) = .all ((upsW pre Wr).map (·.1)) := by simp only [visOf, hc, if_true]
  refine ⟨fun _ => ⟨fun p hm => (by cases hm), Nat.le_refl _, ?_, ?_⟩, fun hb => by cases hb⟩
  · refine apart2_mk fun j y hy => ?_
    rw [hv]
    rcases R.wr j y hy with h1 | h1
    · right; exact ⟨fun p hm => (by cases hm), by rw [h1]; exact fun p hm => (by cases hm)⟩
    · rcases quietW_spec hq _ h1 with h2 | h2
      · left; simpa using h2
      · right; exact ⟨fun p hm => (by cases hm), h2⟩
  · have hh := hk (acc ++ [⟨[], .all ((upsW pre Wr).map (·.1))⟩]) (R.snoc _ _ _ (Nat.le_refl _) (.inl ⟨rfl, rfl⟩) (.inr (.inl rfl)) (fun id hid => by
      have := R.le
      refine ⟨by omega, ?_⟩
      intro hm
      obtain ⟨p, h1, h2⟩ := List.mem_map.1 hm
      have := hl p h1; omega))
    rw [hv]
    rw [tput_dense, hd]
    exact hh
/-- a new row -/
theorem vcE_new {d : Tmp} {v : Value} {x : Option IObj} (hd : o.dst = some d) (hg : o.guard = none) (h : ∀ H', iopC Γ D K (ev (dense N L)) H' n o.op = some ⟨v, [(n, x)], n + 1⟩) (hc : isCall o.op = false) (hs : seesIds (ev (dense N L)) o.op = []) (hW : W n)
    (hk : vcE Γ D K W ops (hp H M) n0 Q os pres (k + 1) (Wr ++ [(k, [(n, x)])]) Vs (dense N ((d, v) :: L)) (n + 1)) : vcE Γ D K W ops (hp H M) n0 Q (o :: os) (pre :: pres) k Wr Vs (dense N L) n := by
  intro acc R
  unfold vcD
  rw [h]
  simp only [wantedI, hg, wpo]
  have hv : ∀ l, visOf (ev (dense N L)) o.op l = .ids [] := by intro l; simp only [visOf, hc]; rw [hs]; rfl
  refine ⟨fun _ => ⟨fun p hm => ?_, by omega, ?_, ?_⟩, fun hb => by cases hb⟩
  · simp only [List.mem_singleton] at hm; subst hm; exact ⟨hW, .inl (Nat.le_refl _), by simp⟩
  · refine apart2_mk fun j y hy => .inr ⟨fun p hm => ?_, fun p _ => ?_⟩
    · simp only [List.mem_singleton] at hm; subst hm
      exact R.fresh y (List.mem_of_getElem? hy) n (Nat.le_refl _)
    · rw [hv]; simp [Vis.clear]
  · have hh := hk (acc ++ [⟨[(n, x)], .ids []⟩]) (R.snoc _ _ _ (by omega) (.inr rfl) (.inl ⟨rfl, rfl⟩) (fun id hid => by simp [Vis.clear]))
    rw [hv]
    rw [tput_dense, hd]
    exact hh
/-- a store -/
theorem vcE_sto {v : Value} {id : Nat} {x : Option IObj} {u M' : Ups} (hd : o.dst = none) (hg : o.guard = none) (hu : upsW pre Wr = u) (hM : putH u M = M') (h : iopC Γ D K (ev (dense N L)) (hp H M') n o.op = some ⟨v, [(id, x)], n⟩) (hc : isCall o.op = false)
    (hs : seesIds (ev (dense N L)) o.op = [id]) (hH : (hp H M' id).isSome = true) (hl : id < n) (hW : W id) (hq : quietW n0 pre (.ids [id]) Wr) (hv' : clearV n0 pre id Vs)
    (hk : vcE Γ D K W ops (hp H M) n0 Q os pres (k + 1) (Wr ++ [(k, [(id, x)])]) ((k, .ids [id]) :: Vs) (dense N L) n) : vcE Γ D K W ops (hp H M) n0 Q (o :: os) (pre :: pres) k Wr Vs (dense N L) n := by
  intro acc R
  subst hu
  subst hM
  unfold vcD
  rw [R.ups pre, upds_hp, h]
  simp only [wantedI, hg, wpo]
  have hv : visOf (ev (dense N L)) o.op (List.map (fun x => x.fst) (upsW pre Wr)) = .ids [id] := by simp only [visOf, hc]; rw [hs]; rfl
  refine ⟨fun _ => ⟨fun p hm => ?_, Nat.le_refl _, ?_, ?_⟩, fun hb => by cases hb⟩
  · simp only [List.mem_singleton] at hm; subst hm
    refine ⟨hW, .inr ?_, hl⟩
    simp only [seenH, hc, Bool.false_eq_true, if_false, hs, restr, List.mem_singleton, if_true]
    exact hH
  · refine apart2_mk fun j y hy => ?_
    rw [hv]
    have a1 : j ∈ pre ∨ ∀ p ∈ y.up, Vis.clear n0 (.ids [id]) p.1 := by
      rcases R.wr j y hy with h1 | h1
      · right; rw [h1]; exact fun p hm => (by cases hm)
      · exact quietW_spec hq _ h1
    have a2 : j ∈ pre ∨ y.vis.clear n0 id := by
      rcases R.vis j y hy with h1 | h1
      · right; rw [h1]; simp [Vis.clear]
      · exact clearV_spec hv' _ h1
    simp only [Nat.zero_add]
    rcases a1 with a1 | a1
    · exact .inl a1
    · rcases a2 with a2 | a2
      · exact .inl a2
      · exact .inr ⟨fun p hm => (by simp only [List.mem_singleton] at hm; subst hm; exact a2), a1⟩
  · have hh := hk (acc ++ [⟨[(id, x)], .ids [id]⟩]) (R.snoc _ _ _ (Nat.le_refl _) (.inr rfl) (.inr (.inl rfl)) (fun id' hid => by
      show id' ∉ [id]
      simp only [List.mem_singleton]; omega))
    rw [hv]
    rw [tput_dense, hd]
    exact hh
end
/-! what is looked at -/
section
variable {e : Operand → Value}
theorem si_load {t : TypeId} {a : Operand} {id off : Nat} {s : Option Nat} (ha : e a = .pointer (some ⟨id, off, s⟩)) : seesIds e (.load t a) = [id] := by simp only [seesIds, ha, blk]
theorem si_store {t : TypeId} {a x : Operand} {id off : Nat} {s : Option Nat} (ha : e a = .pointer (some ⟨id, off, s⟩)) : seesIds e (.store t a x) = [id] := by simp only [seesIds, ha, blk]
theorem vi_load {t : TypeId} {a : Operand} {id off : Nat} {s : Option Nat} {news : List Nat} (ha : e a = .pointer (some ⟨id, off, s⟩)) : visOf e (.load t a) news = .ids [id] := by
  simp only [visOf, isCall, si_load ha]; rfl
theorem vi_bl {op : Op} {news : List Nat} (hc : isCall op = false) (hs : seesIds e op = []) : visOf e op news = .ids [] := by simp only [visOf, hc, hs]; rfl
theorem vi_call {op : Op} {news : List Nat} (hc : isCall op = true) : visOf e op news = .all news := by simp only [visOf, hc, if_true]
theorem lt1 {id n : Nat} (h : id < n) : ∀ i ∈ [id], i < n := by simpa using h
theorem lt0 {n : Nat} : ∀ i ∈ ([] : List Nat), i < n := fun i hi => by cases hi
theorem ltu0 {n : Nat} : ∀ p ∈ ([] : Ups), p.1 < n := fun i hi => by cases hi
theorem ltuc {n id : Nat} {x : Option IObj} {u : Ups} (h : id < n) (hs : ∀ p ∈ u, p.1 < n) : ∀ p ∈ ((id, x) :: u : Ups), p.1 < n := fun p hm => by
  rcases List.mem_cons.1 hm with rfl | hm
  · exact h
  · exact hs p hm
theorem hf1 {id n n0 : Nat} (h : id < n) : ∀ j, n ≤ j → n0 ≤ j → Vis.clear n0 (.ids [id]) j := fun j h1 _ => by simp [Vis.clear]; omega
theorem hf0 {n n0 : Nat} : ∀ j, n ≤ j → n0 ≤ j → Vis.clear n0 (.ids []) j := fun j h1 _ => by simp [Vis.clear]
theorem hfa0 {n n0 : Nat} : ∀ j, n ≤ j → n0 ≤ j → Vis.clear n0 (.all (([] : Ups).map (·.1))) j := fun j _ h => by simp [Vis.clear, h]
/-- another row than the one written -/
theorem qn1 {id m n0 : Nat} {x : Option IObj} (h : m ≠ id) : ∀ p ∈ ([(m, x)] : Ups), Vis.clear n0 (.ids [id]) p.1 := fun p hm => by
  simp only [List.mem_singleton] at hm; subst hm; simpa [Vis.clear] using h
theorem qa1 {m n0 : Nat} {x : Option IObj} {news : List Nat} (h : n0 ≤ m) (hs : m ∉ news) : ∀ p ∈ ([(m, x)] : Ups), Vis.clear n0 (.all news) p.1 := fun p hm => by
  simp only [List.mem_singleton] at hm; subst hm; exact ⟨h, hs⟩
theorem cn1 {id m n0 : Nat} (h : id ≠ m) : Vis.clear n0 (.ids [m]) id := by simpa [Vis.clear] using h
end
end Go.Proofs.Ytdnnojblneccdaa
/-
  Functions without a body: the model's own rows.
-/
namespace Go.Proofs.Ytdnnojblneccdaa
set_option linter.unusedSimpArgs false
set_option linter.unusedVariables false
open Go
open Enc (enc)

theorem Ref.of_extern {P : Program} {k : FuncId} {fn : Func} {row : Array Value → Sem Value} {F : FnI} (hf : P.funcs[k]? = some fn) (hname : (fn.name == "runtime.NumGoroutine") = false)
    (hb : fn.body.isNone = true) (hn : Extern.findNext fn = none) (he : Extern.find fn = some row)
    (h : ∀ args H n e, F args H n = some e → ∀ ρ w args', Below n ρ → HR ρ H w → ArgsR ρ args args' → ∃ v', (row args').run P w = .ok v' w ∧ Post ρ H n e v' ρ w w) : Ref P k F := by
  intro args H n e hF ρ w args' hbel hh hargs
  obtain ⟨v', h1, h2⟩ := h args H n e hF ρ w args' hbel hh hargs
  unfold CallW
  rw [run_callFunc_extern hf hname hb hn he, h1]
  exact ⟨ρ, h2⟩

theorem run_loadBytes {P : Program} {w : World} {r : Nat} {c : Array Value} {T : TypeId} {fz : Bool} {x : Option Obj} :
    ∀ (l : List UInt8) (off : Nat) (acc : ByteArray), (∀ (i : Nat) b, l[i]? = some b → w.cell? ⟨r, off + i, none⟩ = some (.int .u8 b.toNat)) →
      (Extern.Bytes.loadBytes ⟨r, off, none⟩ l.length acc).run P w = .ok ⟨acc.data ++ l.toArray⟩ w
  | [], off, acc, _ => by
    simp only [List.length_nil, Extern.Bytes.loadBytes, Sem.run_pure]
    have : (⟨acc.data ++ ([] : List UInt8).toArray⟩ : ByteArray) = acc := by apply ByteArray.ext; simp
    rw [this]
  | b :: l, off, acc, h => by
    have h0 := h 0 b rfl
    simp only [Nat.add_zero] at h0
    have hadd : (⟨r, off, none⟩ : Addr).add 1 = ⟨r, off + 1, none⟩ := by simp [Addr.add]
    simp only [List.length_cons, Extern.Bytes.loadBytes, Sem.run_bind, run_load, h0, Result.andThen_ok, hadd]
    rw [run_loadBytes (T := T) (fz := fz) (c := c) (x := x) l (off + 1) _ fun i b hb => by
      have := h (i + 1) b (by simpa using hb)
      have e : off + (i + 1) = off + 1 + i := by omega
      rw [e] at this; exact this]
    congr 1
    apply ByteArray.ext
    have : ((b.toNat : Int).toNat).toUInt8 = b := by simp [Nat.toUInt8]
    simp [ByteArray.push, this]

theorem bytes_rel {P : Program} {ρ : Ren} {H : IHeap} {w : World} {x x' : Value} {l : List UInt8} (hh : HR ρ H w) (h : rdS H x = some l) (hx : VR ρ x x') : (Extern.Bytes.bytesOf x').run P w = .ok ⟨l.toArray⟩ w := by
  have row : ∀ {id off len r κ : Nat} {c : List Value} {ro : Bool}, H id = some (.cells c ro) → ρ id = some (r, κ) → off + len ≤ c.length → decs ((c.drop off).take len) = some l →
      (Extern.Bytes.loadBytes ⟨r, off, none⟩ len .empty).run P w = .ok ⟨l.toArray⟩ w := by
    intro id off len r κ c ro ho hr hle hd
    obtain ⟨r', κ', c', T, fz, g1, g2, g3, g4, _, g6⟩ := hh.row ho
    rw [hr] at g1; cases g1
    have hd := decs_some hd
    have hlen : l.length = len := by
      have := congrArg List.length hd
      rw [encs_length] at this
      simp at this; omega
    have := run_loadBytes (P := P) (w := w) (r := r) (c := #[]) (T := 0) (fz := false) (x := none) l off .empty fun i b hb => by
      have hi : i < l.length := (List.getElem?_eq_some_iff.1 hb).1
      have h1 : ((c.drop off).take len)[i]? = some (enc b) := by rw [hd, encs_get, hb]; rfl
      rw [List.getElem?_take, if_pos (by omega), List.getElem?_drop] at h1
      obtain ⟨v', e1, e2⟩ := g6 _ _ h1
      have e3 : v' = .int .u8 b.toNat := by
        generalize hz : enc b = z at e2
        cases e2 <;> first | (exact hz.symm) | (cases hz)
      subst e3
      simp [World.cell?, g2, e1]
    rw [hlen] at this
    rw [this]
    congr 1
    apply ByteArray.ext; simp
  unfold rdS at h
  split at h
  · cases h
    rcases slice_inv hx with ⟨_, rfl, rfl, rfl⟩ | ⟨_, _, _, _, h, _⟩ | ⟨_, _, _, _, _, _, h, _⟩
    · rfl
    · cases h
    · cases h
  · rename_i a len cap
    split at h
    · rename_i c ro ho
      split at h
      · rename_i hle
        rcases slice_inv hx with ⟨h, _⟩ | ⟨id, off, r, κ, e, hr, rfl⟩ | ⟨id, off, sz', r, κ, cap', e, hr, _, _, _, rfl⟩
        · cases h
        · cases e; exact row ho hr hle h
        · cases e; exact row ho hr hle h
      · cases h
    · cases h
  · cases h

/-- how bytes stand -/
def cmpL : List UInt8 → List UInt8 → Int
  | [], [] => 0
  | [], _ :: _ => -1
  | _ :: _, [] => 1
  | a :: zs, b :: bs => if a = b then cmpL zs bs else if a < b then -1 else 1

theorem cmp_eq : ∀ (a b : List UInt8), Extern.BytealgCompare.cmp ⟨a.toArray⟩ ⟨b.toArray⟩ = cmpL a b := by
  have gen : ∀ (a b : List UInt8), (match (List.range (min a.length b.length)).find? (fun i => a.getD i 0 != b.getD i 0) with
      | some i => if a.getD i 0 < b.getD i 0 then -1 else 1
      | none => if a.length < b.length then -1 else if a.length > b.length then (1 : Int) else 0) = cmpL a b := by
    intro a
    induction a with
    | nil => intro b; cases b <;> simp [cmpL]
    | cons x a ih =>
      intro b
      cases b with
      | nil => simp [cmpL]
      | cons y b =>
        have hm : min (a.length + 1) (b.length + 1) = min a.length b.length + 1 := by omega
        simp only [List.length_cons, hm, List.range_succ_eq_map, List.find?_cons, List.getD_cons_zero, cmpL]
        by_cases hxy : x = y
        · subst hxy
          simp only [bne_self_eq_false, if_true, List.find?_map]
          have := ih b
          rw [← this]
          have hfun : ((fun i => (x :: a).getD i 0 != (x :: b).getD i 0) ∘ Nat.succ) = fun i => a.getD i 0 != b.getD i 0 := by
            funext i; simp
          rw [hfun]
          cases (List.range (min a.length b.length)).find? (fun i => a.getD i 0 != b.getD i 0) with
          | none => simp
          | some i => simp
        · have : (x != y) = true := by simpa using hxy
          simp only [this, if_neg hxy, List.getD_cons_zero]
  intro a b
  rw [← gen a b]
  have e1 : ∀ (l : List UInt8) (i : Nat), (⟨l.toArray⟩ : ByteArray)[i]! = l.getD i 0 := by
    intro l i
    have h1 : (⟨l.toArray⟩ : ByteArray)[i]! = l.toArray[i]! := by
      simp only [getElem!_def]
      by_cases h : i < l.length
      · have : i < (⟨l.toArray⟩ : ByteArray).size := by simpa [ByteArray.size] using h
        simp [getElem?_pos, this, h]
        rfl
      · have : ¬ i < (⟨l.toArray⟩ : ByteArray).size := by simpa [ByteArray.size] using h
        simp [getElem?_neg, this, h]
    rw [h1]
    simp only [getElem!_def, List.getElem?_toArray, List.getD_eq_getElem?_getD]
    cases l[i]? <;> rfl
  simp only [Extern.BytealgCompare.cmp, e1]
  rfl
end Go.Proofs.Ytdnnojblneccdaa
/-
  Comparisons: package cmp, package bytes.
-/
namespace Go.Proofs.Ytdnnojblneccdaa
set_option linter.unusedSimpArgs false
set_option linter.unusedVariables false
open Go
open Enc (enc)
set_option maxRecDepth 100000

noncomputable def F80 : FnI := fn1 fun (_ : UInt64) => .bool false
-- cmp.isNaN[uint64] ['UInt64'] -> ['Bool'], results [2]
theorem R80 : Ref Try.prog 80 F80 := by
  refine Ref.of_iw dok Try.func80 rfl (by kernel_rfl) fun args H n e hF => ?_
  obtain ⟨a, rfl, rfl⟩ := fn1_inv hF
  refine ⟨Nat.le_of_ble_eq_true rfl, ?_⟩
  simp only [idxL]
  have hE : Env Try.prog [] D K := env fnsOk_nil
  refine IW.seq ?_
  refine IW.reg hE ?_
  refine vcS_val rfl rfl (ox_assign (pl rfl)) ?_
  refine vcS_nil ?_
  refine IW.seq ?_
  refine IW.reg hE ?_
  refine vcS_val rfl rfl (ox_move (pl rfl)) ?_
  refine vcS_val rfl rfl (ox_move (pl rfl)) ?_
  refine vcS_val rfl rfl (ox_bin (pl rfl) (pl rfl) (bo_u64_neq _ _)) ?_
  refine vcS_val rfl rfl (ox_assign (pl rfl)) ?_
  refine vcS_nil ?_
  refine IW.ret ?_
  exact RetP.ret (.inr rfl) rfl rfl trivial (by simp)
noncomputable def F81 : FnI := fn1 fun (_ : Int) => .bool false
-- cmp.isNaN[int] ['Int'] -> ['Bool'], results [2]
theorem R81 : Ref Try.prog 81 F81 := by
  refine Ref.of_iw dok Try.func81 rfl (by kernel_rfl) fun args H n e hF => ?_
  obtain ⟨a, rfl, rfl⟩ := fn1_inv hF
  refine ⟨Nat.le_of_ble_eq_true rfl, ?_⟩
  simp only [idxL]
  have hE : Env Try.prog [] D K := env fnsOk_nil
  refine IW.seq ?_
  refine IW.reg hE ?_
  refine vcS_val rfl rfl (ox_assign (pl rfl)) ?_
  refine vcS_nil ?_
  refine IW.seq ?_
  refine IW.reg hE ?_
  refine vcS_val rfl rfl (ox_move (pl rfl)) ?_
  refine vcS_val rfl rfl (ox_move (pl rfl)) ?_
  refine vcS_val rfl rfl (ox_bin (pl rfl) (pl rfl) (bo_i64_neq _ _)) ?_
  refine vcS_val rfl rfl (ox_assign (pl rfl)) ?_
  refine vcS_nil ?_
  refine IW.ret ?_
  exact RetP.ret (.inr rfl) rfl rfl trivial (by simp)
def cmp64 (a b : UInt64) : Int := if a < b then -1 else if b < a then 1 else 0
def cmpI (a b : Int) : Int := if a < b then -1 else if b < a then 1 else 0
noncomputable def F60 : FnI := fn2 fun a b => .int .i64 (cmp64 a b)
-- cmp.Compare[uint64] ['UInt64', 'UInt64'] -> ['Int'], results [4]
theorem R60 : Ref Try.prog 60 F60 := by
  refine Ref.of_iw dok Try.func60 rfl (by kernel_rfl) fun args H n e hF => ?_
  obtain ⟨a, b, rfl, rfl⟩ := fn2_inv hF
  refine ⟨Nat.le_of_ble_eq_true rfl, ?_⟩
  simp only [idxL]
  have hE : Env Try.prog [(80, F80)] D K := env (fnsOk_cons R80 fnsOk_nil)
  refine IW.seq ?_
  refine IW.reg hE ?_
  refine vcS_val rfl rfl (ox_assign (pl rfl)) ?_
  refine vcS_nil ?_
  refine IW.seq ?_
  refine IW.reg hE ?_
  refine vcS_val rfl rfl (ox_move (pl rfl)) ?_
  refine vcS_val rfl rfl (ox_fn rfl rfl (fn1_ev _ _ _ _)) ?_
  refine vcS_val rfl rfl (ox_assign (pl rfl)) ?_
  refine vcS_nil ?_
  refine IW.seq ?_
  refine IW.reg hE ?_
  refine vcS_val rfl rfl (ox_move (pl rfl)) ?_
  refine vcS_val rfl rfl (ox_fn rfl rfl (fn1_ev _ _ _ _)) ?_
  refine vcS_val rfl rfl (ox_assign (pl rfl)) ?_
  refine vcS_nil ?_
  refine IW.seq ?_
  refine IW.seq ?_
  refine IW.reg hE ?_
  refine vcS_val rfl rfl (ox_move (pl rfl)) ?_
  refine vcS_nil ?_
  refine IW.cond rfl (fun hc1 => ?_) (fun hc1 => ?_)
  · cases hc1
  · refine IW.skip ?_
    refine IW.seq ?_
    refine IW.seq ?_
    refine IW.reg hE ?_
    refine vcS_val rfl rfl (ox_move (pl rfl)) ?_
    refine vcS_nil ?_
    refine IW.cond rfl (fun hc2 => ?_) (fun hc2 => ?_)
    · cases hc2
    · refine IW.skip ?_
      refine IW.seq ?_
      refine IW.seq ?_
      refine IW.reg hE ?_
      refine vcS_val rfl rfl (ox_move (pl rfl)) ?_
      refine vcS_val rfl rfl (ox_move (pl rfl)) ?_
      refine vcS_val rfl rfl (ox_bin (pl rfl) (pl rfl) (bo_u64_lss _ _)) ?_
      refine vcS_nil ?_
      refine IW.cond rfl (fun hc3 => ?_) (fun hc3 => ?_)
      · replace hc3 := of_decide_eq_true hc3
        refine IW.seq ?_
        refine IW.reg hE ?_
        refine vcS_val rfl rfl (ox_assign (pl rfl)) ?_
        refine vcS_nil ?_
        refine IW.ret ?_
        exact RetP.ret (.inr rfl) rfl rfl trivial (by simp only [cmp64, *, if_true, if_false])
      · replace hc3 := of_decide_eq_false hc3
        refine IW.skip ?_
        refine IW.seq ?_
        refine IW.seq ?_
        refine IW.reg hE ?_
        refine vcS_val rfl rfl (ox_move (pl rfl)) ?_
        refine vcS_val rfl rfl (ox_move (pl rfl)) ?_
        refine vcS_val rfl rfl (ox_bin (pl rfl) (pl rfl) (bo_u64_gtr _ _)) ?_
        refine vcS_nil ?_
        refine IW.cond rfl (fun hc4 => ?_) (fun hc4 => ?_)
        · replace hc4 := of_decide_eq_true hc4
          refine IW.seq ?_
          refine IW.reg hE ?_
          refine vcS_val rfl rfl (ox_assign (pl rfl)) ?_
          refine vcS_nil ?_
          refine IW.ret ?_
          exact RetP.ret (.inr rfl) rfl rfl trivial (by simp only [cmp64, *, if_true, if_false])
        · replace hc4 := of_decide_eq_false hc4
          refine IW.skip ?_
          refine IW.seq ?_
          refine IW.reg hE ?_
          refine vcS_val rfl rfl (ox_assign (pl rfl)) ?_
          refine vcS_nil ?_
          refine IW.ret ?_
          exact RetP.ret (.inr rfl) rfl rfl trivial (by simp only [cmp64, *, if_true, if_false])
noncomputable def F61 : FnI := fn2 fun a b => .int .i64 (cmpI a b)
-- cmp.Compare[int] ['Int', 'Int'] -> ['Int'], results [4]
theorem R61 : Ref Try.prog 61 F61 := by
  refine Ref.of_iw dok Try.func61 rfl (by kernel_rfl) fun args H n e hF => ?_
  obtain ⟨a, b, rfl, rfl⟩ := fn2_inv hF
  refine ⟨Nat.le_of_ble_eq_true rfl, ?_⟩
  simp only [idxL]
  have hE : Env Try.prog [(81, F81)] D K := env (fnsOk_cons R81 fnsOk_nil)
  refine IW.seq ?_
  refine IW.reg hE ?_
  refine vcS_val rfl rfl (ox_assign (pl rfl)) ?_
  refine vcS_nil ?_
  refine IW.seq ?_
  refine IW.reg hE ?_
  refine vcS_val rfl rfl (ox_move (pl rfl)) ?_
  refine vcS_val rfl rfl (ox_fn rfl rfl (fn1_ev _ _ _ _)) ?_
  refine vcS_val rfl rfl (ox_assign (pl rfl)) ?_
  refine vcS_nil ?_
  refine IW.seq ?_
  refine IW.reg hE ?_
  refine vcS_val rfl rfl (ox_move (pl rfl)) ?_
  refine vcS_val rfl rfl (ox_fn rfl rfl (fn1_ev _ _ _ _)) ?_
  refine vcS_val rfl rfl (ox_assign (pl rfl)) ?_
  refine vcS_nil ?_
  refine IW.seq ?_
  refine IW.seq ?_
  refine IW.reg hE ?_
  refine vcS_val rfl rfl (ox_move (pl rfl)) ?_
  refine vcS_nil ?_
  refine IW.cond rfl (fun hc1 => ?_) (fun hc1 => ?_)
  · cases hc1
  · refine IW.skip ?_
    refine IW.seq ?_
    refine IW.seq ?_
    refine IW.reg hE ?_
    refine vcS_val rfl rfl (ox_move (pl rfl)) ?_
    refine vcS_nil ?_
    refine IW.cond rfl (fun hc2 => ?_) (fun hc2 => ?_)
    · cases hc2
    · refine IW.skip ?_
      refine IW.seq ?_
      refine IW.seq ?_
      refine IW.reg hE ?_
      refine vcS_val rfl rfl (ox_move (pl rfl)) ?_
      refine vcS_val rfl rfl (ox_move (pl rfl)) ?_
      refine vcS_val rfl rfl (ox_bin (pl rfl) (pl rfl) (bo_i64_lss _ _)) ?_
      refine vcS_nil ?_
      refine IW.cond rfl (fun hc3 => ?_) (fun hc3 => ?_)
      · replace hc3 := of_decide_eq_true hc3
        refine IW.seq ?_
        refine IW.reg hE ?_
        refine vcS_val rfl rfl (ox_assign (pl rfl)) ?_
        refine vcS_nil ?_
        refine IW.ret ?_
        exact RetP.ret (.inr rfl) rfl rfl trivial (by simp only [cmpI, *, if_true, if_false])
      · replace hc3 := of_decide_eq_false hc3
        refine IW.skip ?_
        refine IW.seq ?_
        refine IW.seq ?_
        refine IW.reg hE ?_
        refine vcS_val rfl rfl (ox_move (pl rfl)) ?_
        refine vcS_val rfl rfl (ox_move (pl rfl)) ?_
        refine vcS_val rfl rfl (ox_bin (pl rfl) (pl rfl) (bo_i64_gtr _ _)) ?_
        refine vcS_nil ?_
        refine IW.cond rfl (fun hc4 => ?_) (fun hc4 => ?_)
        · replace hc4 := of_decide_eq_true hc4
          refine IW.seq ?_
          refine IW.reg hE ?_
          refine vcS_val rfl rfl (ox_assign (pl rfl)) ?_
          refine vcS_nil ?_
          refine IW.ret ?_
          exact RetP.ret (.inr rfl) rfl rfl trivial (by simp only [cmpI, *, if_true, if_false])
        · replace hc4 := of_decide_eq_false hc4
          refine IW.skip ?_
          refine IW.seq ?_
          refine IW.reg hE ?_
          refine vcS_val rfl rfl (ox_assign (pl rfl)) ?_
          refine vcS_nil ?_
          refine IW.ret ?_
          exact RetP.ret (.inr rfl) rfl rfl trivial (by simp only [cmpI, *, if_true, if_false])
end Go.Proofs.Ytdnnojblneccdaa
/-
  Package bytes' Compare; cmp.Or.
-/
namespace Go.Proofs.Ytdnnojblneccdaa
set_option linter.unusedSimpArgs false
set_option linter.unusedVariables false
open Go
open Enc (enc)
set_option maxRecDepth 100000

noncomputable def F82 : FnI := fun args H n => match args with
  | [x, y] => (rdS H x).bind fun a => (rdS H y).bind fun b => some ⟨.int .i64 (cmpL a b), [], n⟩
  | _ => none
theorem F82_inv {args : List Value} {H : IHeap} {n : Nat} {e : Eff} (h : F82 args H n = some e) : ∃ x y a b, args = [x, y] ∧ rdS H x = some a ∧ rdS H y = some b ∧ e = ⟨.int .i64 (cmpL a b), [], n⟩ := by
  unfold F82 at h; split at h
  · simp only [Option.bind_eq_some_iff] at h
    obtain ⟨a, ha, b, hb, h⟩ := h
    cases h; exact ⟨_, _, a, b, rfl, ha, hb, rfl⟩
  · cases h
theorem F82_ev {x y : Value} {H : IHeap} {n : Nat} {a b : List UInt8} (ha : rdS H x = some a) (hb : rdS H y = some b) : F82 [x, y] H n = some ⟨.int .i64 (cmpL a b), [], n⟩ := by
  simp only [F82, ha, hb, Option.bind_some]
theorem R82 : Ref Try.prog 82 F82 := by
  refine Ref.of_extern Try.func82 (row := Extern.BytealgCompare.compare) (by kernel_rfl) (by kernel_rfl) (by kernel_rfl) (by kernel_rfl) fun args H n e hF ρ w args' hbel hh hargs => ?_
  obtain ⟨x, y, a, b, rfl, ha, hb, rfl⟩ := F82_inv hF
  obtain ⟨hs, hv⟩ := hargs
  obtain ⟨x', hx', rx⟩ := hv 0 x rfl
  obtain ⟨y', hy', ry⟩ := hv 1 y rfl
  have he : args' = #[x', y'] := by
    apply Array.ext (by simpa using hs)
    intro i h1 h2
    have : i = 0 ∨ i = 1 := by simp at h2; omega
    rcases this with rfl | rfl
    · exact (Array.getElem?_eq_some_iff.1 hx').2
    · exact (Array.getElem?_eq_some_iff.1 hy').2
  subst he
  refine ⟨.int .i64 (cmpL a b), ?_, Post.pure hbel hh (.int _ _)⟩
  change Sem.run _ (do let a ← Extern.Bytes.bytesOf x'; let b ← Extern.Bytes.bytesOf y'; pure (goInt (Extern.BytealgCompare.cmp a b))) w = _
  simp only [Sem.run_bind, bytes_rel hh ha rx, bytes_rel hh hb ry, Result.andThen_ok, Sem.run_pure, cmp_eq, goInt]
noncomputable def F62 : FnI := F82
-- bytes.Compare ['Sl', 'Sl'] -> ['Int'], results [4]
theorem R62 : Ref Try.prog 62 F62 := by
  refine Ref.of_iw dok Try.func62 rfl (by kernel_rfl) fun args H n e hF => ?_
  obtain ⟨x, y, a, b, rfl, ha, hb, rfl⟩ := F82_inv hF
  refine ⟨Nat.le_of_ble_eq_true rfl, ?_⟩
  simp only [idxL]
  have hE : Env Try.prog [(82, F82)] D K := env (fnsOk_cons R82 fnsOk_nil)
  refine IW.seq ?_
  refine IW.reg hE ?_
  refine vcS_val rfl rfl (ox_assign (pl rfl)) ?_
  refine vcS_nil ?_
  refine IW.seq ?_
  refine IW.reg hE ?_
  refine vcS_val rfl rfl (ox_move (pl rfl)) ?_
  refine vcS_val rfl rfl (ox_move (pl rfl)) ?_
  refine vcS_val rfl rfl (ox_fn rfl rfl (F82_ev ha hb)) ?_
  refine vcS_val rfl rfl (ox_assign (pl rfl)) ?_
  refine vcS_nil ?_
  refine IW.ret ?_
  exact RetP.ret (.inr rfl) rfl rfl trivial (rfl)
/-- the first that is not 0 -/
def orL : List Int → Int
  | [] => 0
  | x :: xs => if x ≠ 0 then x else orL xs
noncomputable def F63 : FnI := fun args H n => match args with
  | [.slice (some ⟨id, off, _⟩) len _] => match H id with
    | some (.cells c _) => if off + len ≤ c.length ∧ len ≤ 2 ^ 47 then (decs ((c.drop off).take len)).bind fun l => some ⟨.int .i64 (orL l), [], n⟩ else none
    | _ => none
  | _ => none
theorem F63_inv {args : List Value} {H : IHeap} {n : Nat} {e : Eff} (h : F63 args H n = some e) :
    ∃ id off sp cap c ro, ∃ l : List Int, args = [.slice (some ⟨id, off, sp⟩) l.length cap] ∧ H id = some (.cells c ro) ∧ off + l.length ≤ c.length ∧ l.length ≤ 2 ^ 47 ∧ (c.drop off).take l.length = encs l ∧ e = ⟨.int .i64 (orL l), [], n⟩ := by
  unfold F63 at h; split at h
  · rename_i id off sp len cap
    split at h
    · rename_i c ro hc
      split at h
      · rename_i hle
        simp only [Option.bind_eq_some_iff] at h
        obtain ⟨l, hl, h⟩ := h
        cases h
        have hl := decs_some hl
        have hlen : l.length = len := by
          have := congrArg List.length hl
          rw [encs_length] at this
          simp at this; omega
        subst hlen
        exact ⟨id, off, sp, cap, c, ro, l, rfl, hc, hle.1, hle.2, hl, rfl⟩
      · cases h
    · cases h
  · cases h
theorem F63_ev {id off len cap : Nat} {sp : Option Nat} {H : IHeap} {n : Nat} {c A C : List Value} {ro : Bool} {l : List Int} (hH : H id = some (.cells c ro)) (hc : c = A ++ (encs l ++ C)) (h1 : A.length = off) (h2 : l.length = len) (h3 : len ≤ 2 ^ 47) :
    F63 [.slice (some ⟨id, off, sp⟩) len cap] H n = some ⟨.int .i64 (orL l), [], n⟩ := by
  have hx : rdS H (.slice (some ⟨id, off, sp⟩) len cap) = some l := rs_part hH hc h1 h2
  simp only [rdS, hH] at hx
  split at hx
  · rename_i hle
    simp only [F63, hH]
    rw [if_pos ⟨hle, h3⟩, hx]; rfl
  · cases hx
theorem orL_take : ∀ {l : List Int} {k : Nat}, (∀ x ∈ l.take k, x = 0) → orL l = orL (l.drop k)
  | l, 0, _ => by simp
  | [], _ + 1, _ => by simp
  | x :: l, k + 1, h => by
    have h0 : x = 0 := h x (by simp)
    simp only [orL, h0, ne_eq, not_true_eq_false, if_false, List.drop_succ_cons]
    exact orL_take fun y hy => h y (by simp [hy])
theorem orL_at {l : List Int} {k : Nat} (h : ∀ x ∈ l.take k, x = 0) (hk : k < l.length) : orL l = if l[k] ≠ 0 then l[k] else orL (l.drop (k + 1)) := by
  rw [orL_take h, List.drop_eq_getElem_cons hk]; rfl
theorem orL_all {l : List Int} (h : ∀ x ∈ l, x = 0) : orL l = 0 := by
  have := orL_take (l := l) (k := l.length) (by simpa using h)
  rw [this]; simp [orL]
theorem take_snoc {l : List Int} {k : Nat} (h : ∀ x ∈ l.take k, x = 0) (hk : k < l.length) (h0 : l[k] = 0) : ∀ x ∈ l.take (k + 1), x = 0 := by
  intro x hx
  rw [List.take_succ_eq_append_getElem hk] at hx
  rcases List.mem_append.1 hx with h1 | h1
  · exact h x h1
  · simp only [List.mem_singleton] at h1; rw [h1, h0]
-- cmp.Or[int] ['Sl'] -> ['Int'], results [2]
theorem R63 : Ref Try.prog 63 F63 := by
  refine Ref.of_iw dok Try.func63 rfl (by kernel_rfl) fun args H n e hF => ?_
  obtain ⟨id, off, sp, cap, c, ro, l, rfl, hc, hle, hlm, hl, rfl⟩ := F63_inv hF
  refine ⟨Nat.le_of_ble_eq_true rfl, ?_⟩
  simp only [idxL]
  have hE : Env Try.prog [] D K := env fnsOk_nil
  refine IW.seq ?_
  refine IW.reg hE ?_
  refine vcS_val rfl rfl (ox_assign (pl rfl)) ?_
  refine vcS_nil ?_
  refine IW.seq ?_
  refine IW.reg hE ?_
  refine vcS_val rfl rfl (ox_assign (pl rfl)) ?_
  refine vcS_nil ?_
  refine IW.seq ?_
  refine IW.seq ?_
  refine IW.reg hE ?_
  refine vcS_val rfl rfl (ox_move (pl rfl)) ?_
  refine vcS_val rfl rfl (ox_len (pl rfl) D_82 rfl) ?_
  refine vcS_val rfl rfl (ox_move (pl rfl)) ?_
  refine vcS_nil ?_
  refine IW.block ?_
  refine IW.loop (S := Nat) (fun s => [(6, .slice (some ⟨id, off, sp⟩) l.length cap), (7, .int .i64 l.length), (8, .int .i64 s), (3, .int .i64 0)]) (fun s => []) (fun s => n) (fun s => s ≤ l.length ∧ ∀ x ∈ l.take s, x = 0) (fun s => l.length - s) (0) (by simp) (⟨rfl, ⟨rfl, ⟨rfl, ⟨rfl, trivial⟩⟩⟩⟩) (fun _ _ h => h) (Nat.le_refl _) (fun s hs => ?_)
  obtain ⟨hs1, hs2⟩ := hs
  refine IW.seq ?_
  refine IW.reg hE ?_
  refine vcS_val rfl rfl (ox_bin (pl rfl) (pl rfl) (bo_i64_lss _ _)) ?_
  refine vcS_nil ?_
  refine IW.seq ?_
  refine IW.cond rfl (fun hc1 => ?_) (fun hc1 => ?_)
  · replace hc1 := of_decide_eq_true hc1
    have hc1 : s < l.length := by omega
    refine IW.skip ?_
    refine IW.seq ?_
    refine IW.block ?_
    refine IW.seq ?_
    refine IW.reg hE ?_
    refine vcS_val rfl rfl (ox_iaS (pl rfl) (pl rfl) D_82 rfl D_3 (by omega) (by omega)) ?_
    refine vcS_val rfl rfl (ox_load (pl rfl) D_3 hc (rd_el hl hc1 rfl rfl)) ?_
    refine vcS_val rfl rfl (ox_assign (pl rfl)) ?_
    refine vcS_nil ?_
    refine IW.seq ?_
    refine IW.reg hE ?_
    refine vcS_val rfl rfl (ox_move (pl rfl)) ?_
    refine vcS_val rfl rfl (ox_move (pl rfl)) ?_
    refine vcS_val rfl rfl (ox_bin (pl rfl) (pl rfl) (bo_i64_neq _ _)) ?_
    refine vcS_nil ?_
    refine IW.cond rfl (fun hc2 => ?_) (fun hc2 => ?_)
    · have hc2 : l[s] ≠ 0 := by simpa using hc2
      refine IW.seq ?_
      refine IW.reg hE ?_
      refine vcS_val rfl rfl (ox_move (pl rfl)) ?_
      refine vcS_val rfl rfl (ox_assign (pl rfl)) ?_
      refine vcS_nil ?_
      refine IW.ret ?_
      refine retB ?_
      refine retS (retS ?_)
      refine retB ?_
      exact RetP.ret (.inr rfl) rfl rfl trivial (by rw [orL_at hs2 hc1, if_pos hc2]; rfl)
    · have hc2 : l[s] = 0 := by simpa using hc2
      refine IW.skip ?_
      refine IW.nilB ?_
      refine IW.reg hE ?_
      refine vcS_val rfl rfl (ox_bin (pl rfl) (pl rfl) (bo_i64_add (by omega))) ?_
      refine vcS_val rfl rfl (ox_move (pl rfl)) ?_
      refine vcS_nil ?_
      refine IW.nilS ?_
      exact ⟨s + 1, _, _, ⟨by omega, take_snoc hs2 hc1 hc2⟩, by omega, rfl, ⟨rfl, ⟨rfl, ⟨rfl, ⟨rfl, trivial⟩⟩⟩⟩, rfl, fun _ _ h => h, Nat.le_refl _⟩
  · replace hc1 := of_decide_eq_false hc1
    refine IW.exit ?_
    refine exS (exS ?_)
    refine blkQ_exit ?_
    refine IW.seq ?_
    refine IW.reg hE ?_
    refine vcS_val rfl rfl (ox_move (pl rfl)) ?_
    refine vcS_val rfl rfl (ox_assign (pl rfl)) ?_
    refine vcS_nil ?_
    refine IW.ret ?_
    exact RetP.ret (.inr rfl) rfl rfl trivial (by rw [orL_all (fun x hx => hs2 x (by rw [List.take_of_length_le (by omega)]; exact hx))])
end Go.Proofs.Ytdnnojblneccdaa
/-
  From a function's contract to its row.
-/
namespace Go.Proofs.Ytdnnojblneccdaa
set_option linter.unusedSimpArgs false
set_option linter.unusedVariables false
open Go
open Enc (enc)

/-- the call, as the row wants it -/
theorem calls_of_ref {P : Program} {k : FuncId} {fn : Func} {F : FnI} (hf : P.funcs[k]? = some fn) (hb : fn.body.isSome = true) (hname : (fn.name == "runtime.NumGoroutine") = false) (hR : Ref P k F) {args : List Value} {H : IHeap} {n : Nat} {v : Value} {n' : Nat}
    (hF : F args H n = some ⟨v, [], n'⟩) {ρ : Ren} {W : World} {args' : Array Value} (hbel : Below n ρ) (hh : HR ρ H W) (ha : ArgsR ρ args args') :
    Calls P k args' W fun e W' => ∃ v' ρ', e = .returned v' ∧ VR ρ' v v' ∧ Go.RowKit.Below W.heap.size W W' := by
  have h := hR args H n _ hF ρ W args' hbel hh ha
  have hcf : (callFunc k args').run P W = .ok (.enter k args') W := by
    obtain ⟨c, hc⟩ := Option.isSome_iff_exists.1 hb
    have hn : ¬ fn.name = "runtime.NumGoroutine" := by simpa using hname
    simp [callFunc, hf, hn, hc, Sem.run]
  unfold CallW at h
  rw [hcf] at h
  refine Calls.mono h fun e W' he => ?_
  cases e with
  | returned v' =>
    obtain ⟨ρ', hp⟩ := he
    refine ⟨v', ρ', rfl, hp.val, ⟨hp.step.os, hp.step.tape, hp.step.output, hp.step.size, fun r hr => hp.step.keep r hr fun id κ _ hid => by simp [Eff.ids] at hid⟩⟩
  | panicked c => exact he.elim
  | outgrown => exact he.elim

section
open Go.ChangeShapes Go.WideShapes
variable {T : Type} {en : TypeId × Value → T} {P : Program}

theorem trodAll_stays {W W' : World} {sp : Nat → Bool} (hl : laidOutB P = true) : ∀ {ts : List TypeId} {vs : List Value} {ds : List (DataW T)} {p : List MemPlace}, (∀ t ∈ ts, P.readableRec t = true ∧ t < P.types.size) →
    DataW.TrodAll en P W 0 (fun _ => true) true ts vs ds p → (∀ x ∈ p, W.sameAt W' x) → (∀ x ∈ p, sp x.block = true) → DataW.TrodAll en P W' 0 sp true ts vs ds p
  | [], vs, ds, p, _, h, _, _ => by
    obtain ⟨rfl, rfl, rfl⟩ := trodAll_nil h
    rfl
  | t :: ts, vs, ds, p, ht, h, h1, h2 => by
    obtain ⟨v, vs', d, ds', a, b, rfl, rfl, rfl, g1, g2⟩ := trodAll_cons h
    obtain ⟨r1, r2⟩ := ht t List.mem_cons_self
    exact ⟨a, b, WideElems.Trod_stays hl r1 r2 g1 (fun x hx => h1 x (List.mem_append_left _ hx)) (fun x hx => h2 x (List.mem_append_left _ hx)),
      trodAll_stays hl (fun u hu => ht u (List.mem_cons_of_mem _ hu)) g2 (fun x hx => h1 x (List.mem_append_right _ hx)) (fun x hx => h2 x (List.mem_append_right _ hx)), rfl⟩

/-- the post, where what was there is there as it was -/
theorem post_true {f : Func} {s : ChangeSpec} {apart fresh handsOn again : Bool} {W W' : World} {args : Array Value} {v : Value} {ds gs : List (DataW T)} {before pa : List MemPlace}
    (hW : DataW.Whole en P f.params.toList s.vars apart W args.toList ds gs before)
    (hres : ∀ (b : Nat) (sp : Nat → Bool) (hd : Bool), DataW.TrodAll en P W' b sp hd f.resultTypes.toList (v.resultList f.resultTypes.size) (s.fn T (ds ++ gs)).results [])
    (hargs : ∀ sp : Nat → Bool, (∀ p ∈ before, sp p.block = true) → DataW.TrodAll en P W' 0 sp true f.params.toList args.toList (s.fn T (ds ++ gs)).args pa)
    (hvars : ∀ sp : Nat → Bool, (∀ p ∈ before, sp p.block = true) → DataW.TrodVars en P W' sp s.vars (s.fn T (ds ++ gs)).vars [])
    (hps : before = pa) (hb : Go.RowKit.Below W.heap.size W W')
    (hok : ∀ (j : Nat) (t : TypeId) (r : Value), f.resultTypes[j]? = some t → (v.resultList f.resultTypes.size)[j]? = some r → Value.okWide P W' .any 0 t r) :
    s.post en P f apart fresh handsOn again W args v W' := by
  have hlt : ∀ p ∈ before, p.block < W.heap.size := fun p hp => hW.lt p hp
  have hold : ∀ p ∈ before, (fun b => decide (b < W.heap.size)) p.block = true := fun p hp => by simpa using hlt p hp
  refine ⟨ds, gs, before, [], pa, [], hW, hres _ _ _, hargs _ hold, hvars _ hold, World.keptBut_mono (fun p hp => ⟨hp, ?_⟩) (hb.frame (· ∈ before)), fun _ => ?_⟩
  · rw [hps] at hp
    exact Or.inr (by simpa using hp)
  · obtain ⟨_, _, _, _, _, hz, hn⟩ := id hW
    refine ⟨hok, _, _, ([] ++ pa) ++ [], ⟨[] ++ pa, [], trodAll_append (hargs _ (fun _ _ => rfl)) (hres _ _ _), hvars _ (fun _ _ => rfl), rfl, ?_, ?_⟩, ?_⟩
    · intro b off hp
      have hp' : MemPlace.cell b off ∈ before := by rw [hps]; simpa using hp
      rw [hb.frozen (p := ⟨b, off, none⟩) (hlt _ hp')]
      exact hz b off hp'
    · intro ha
      have := hn ha
      rw [hps] at this
      simpa using this
    · intro p hp _
      rw [hps]
      simpa using hp

/-- a law that returns true: what is to be shown of it, is that its call comes to that -/
theorem law_true {C : Checked} {os : Os} {k : FuncId} {fn : Func} {s : ChangeSpec} {apart fresh handsOn again : Bool} {tb : TypeId}
    (own : ownKnob C.prog.godebug = none) (started : os.Started) (noInit : C.prog.inits.idxOf? k = none) (hfn : C.prog.funcs[k]? = some fn)
    (witness : ∃ (w : World) (tape : Tape) (i : Input), w.os = os ∧ (w.forCall tape i).Shaped C.prog ∧ i.vars = [] ∧ Input.okWide C.prog (w.forCall tape i) .any w.heap.size k i ∧
      s.pre6 en C.prog fn [] apart (w.forCall tape i).memory i.args ∧ ({} : Assume).holds C.prog (lone (Frame.enter C.prog k i.args .normal) [] (w.forCall tape i)))
    (hl : laidOutB C.prog = true) (hts : fn.params.toList.all (fun t => C.prog.readableRec t && decide (t < C.prog.types.size)) = true) (hrt : fn.resultTypes = #[tb]) (hb : C.prog.underlying tb = some .bool) (hvars : s.vars = [])
    (hs : ∀ (ds : List (DataW T)), ds.length = fn.params.size → (s.fn T ds).results = [.lit (.bool true)] ∧ (s.fn T ds).args = ds ∧ (s.fn T ds).vars = [])
    (main : ∀ (W : World) (base : Nat) (args : Array Value), args.size = fn.params.size → (∀ (j : Nat) t v, fn.params[j]? = some t → args[j]? = some v → Value.okWide C.prog W .any base t v) → ∀ (ds : List (DataW T)) (p : List MemPlace), DataW.TrodAll en C.prog W 0 (fun _ => true) true fn.params.toList args.toList ds p →
      Calls C.prog k args W fun e W' => ∃ v' ρ', e = .returned v' ∧ VR ρ' (.bool true) v' ∧ Go.RowKit.Below W.heap.size W W') :
    ReturnsInHanded {} C os k .any (s.pre6 en C.prog fn [] apart) (s.post en C.prog fn apart fresh handsOn again) := by
  refine returnsInHanded_of_change own started noInit hfn witness ?_
  intro W base args ds gs before hval hW hcnd _
  have hW' := hW
  obtain ⟨p, q, hA, hV, hpq, hfz, hnd⟩ := hW
  rw [hvars] at hV
  obtain ⟨rfl, rfl⟩ := trodVars_none hV
  have hlen : ∀ {ts : List TypeId} {vs : List Value} {ds : List (DataW T)} {p : List MemPlace}, DataW.TrodAll en C.prog W 0 (fun _ => true) true ts vs ds p → vs.length = ts.length ∧ ds.length = ts.length := by
    intro ts
    induction ts with
    | nil => intro vs ds p h; obtain ⟨rfl, rfl, rfl⟩ := trodAll_nil h; exact ⟨rfl, rfl⟩
    | cons t ts ih =>
      intro vs ds p h
      obtain ⟨v, vs', d, ds', a, b, rfl, rfl, rfl, g1, g2⟩ := trodAll_cons h
      obtain ⟨i1, i2⟩ := ih g2
      exact ⟨by simp [i1], by simp [i2]⟩
  obtain ⟨l1, l2⟩ := hlen hA
  refine (main W base args (by simpa using l1) hval ds p hA).mono fun e W' he => ?_
  obtain ⟨v', ρ', rfl, hv, hbel⟩ := he
  have := bool_inv hv
  subst this
  obtain ⟨s1, s2, s3⟩ := hs ds (by simpa using l2)
  simp only [List.append_nil] at hpq
  subst hpq
  refine ⟨_, rfl, post_true (pa := before) hW' (fun b sp hd => ?_) (fun sp hsp => ?_) (fun sp _ => ?_) rfl hbel (Go.RowKit.ok_one hrt rfl (Go.RowKit.okWide_bool_mk hb true))⟩
  · simp only [List.append_nil, s1, hrt]
    exact trodAll_mk1 (Go.RowKit.shut_bool hb true)
  · simp only [List.append_nil, s2]
    refine trodAll_stays hl (fun t ht => ?_) hA (fun x hx => hbel.same (hW'.lt x hx)) hsp
    have := List.all_eq_true.1 hts t ht
    simpa using this
  · simp only [List.append_nil, s3, hvars]
    rfl
end

/-! arguments of plain values -/
/-- such a cell is a member of that Lean type -/
class CellIs (P : Program) (t : TypeId) (α : Type) [Enc α] : Prop where
  is : ∀ (W : World) (base : Nat) (v : Value), Cell.okWide P W .any base t v → ∃ a : α, v = enc a
theorem int_cell {P : Program} {W : World} {base : Nat} {t : TypeId} {k : IntKind} {v : Value} (ht : P.underlying t = some (.int k)) (h : Cell.okWide P W .any base t v) : ∃ n, v = .int k n ∧ k.min ≤ n ∧ n ≤ k.max := by
  cases v <;> simp only [Cell.okWide, ht, Cell.ok] at h
  obtain ⟨rfl, h⟩ := h
  exact ⟨_, rfl, h⟩
theorem cellIs_u64 {P : Program} {t : TypeId} (ht : P.underlying t = some (.int .u64)) : CellIs P t UInt64 := ⟨fun W base v h => by
  obtain ⟨n, rfl, h1, h2⟩ := int_cell ht h
  have h1 : 0 ≤ n := h1
  have h2 : n ≤ 18446744073709551615 := h2
  refine ⟨UInt64.ofNat n.toNat, ?_⟩
  have : (UInt64.ofNat n.toNat).toNat = n.toNat := UInt64.toNat_ofNat_of_lt' (by simp [UInt64.size]; omega)
  show Value.int .u64 n = Value.int .u64 ((UInt64.ofNat n.toNat).toNat : Int)
  rw [this, Int.toNat_of_nonneg h1]⟩
theorem cellIs_u8 {P : Program} {t : TypeId} (ht : P.underlying t = some (.int .u8)) : CellIs P t UInt8 := ⟨fun W base v h => by
  obtain ⟨n, rfl, h1, h2⟩ := int_cell ht h
  have h1 : 0 ≤ n := h1
  have h2 : n ≤ 255 := h2
  refine ⟨UInt8.ofNat n.toNat, ?_⟩
  have : (UInt8.ofNat n.toNat).toNat = n.toNat := UInt8.toNat_ofNat_of_lt' (by simp [UInt8.size]; omega)
  show Value.int .u8 n = Value.int .u8 ((UInt8.ofNat n.toNat).toNat : Int)
  rw [this, Int.toNat_of_nonneg h1]⟩
theorem cellIs_i64 {P : Program} {t : TypeId} (ht : P.underlying t = some (.int .i64)) : CellIs P t Int := ⟨fun W base v h => by
  obtain ⟨n, rfl, h1, h2⟩ := int_cell ht h
  exact ⟨n, rfl⟩⟩

/-- cells, each as its type tells -/
def Fits (P : Program) (W : World) (base : Nat) (c : List Value) (ts : List TypeId) : Prop := c.length = ts.length ∧ ∀ (i : Nat) v, c[i]? = some v → ∃ u, ts[i]? = some u ∧ Cell.okWide P W .any base u v
section
variable {P : Program} {W : World} {base : Nat}
theorem fits_of_wide {t : TypeId} {v : Value} {ts : List TypeId} {u : TypeDesc} (hu : P.underlying t = some u) (hagg : (match u with | .struct _ | .array _ _ => true | _ => false) = true) (hts : P.cellTypes P.depth t = some ts) (hsz : P.cellsOf t = ts.length) (h : Value.okWide P W .any base t v) :
    ∃ c, v = .agg c.toArray ∧ Fits P W base c ts := by
  have main : (∃ cs, v = .agg cs ∧ cs.size = P.cellsOf t ∧ Row.okWide P W .any base t cs) → ∃ c, v = .agg c.toArray ∧ Fits P W base c ts := by
    rintro ⟨cs, rfl, h1, ts', h2, _, h3⟩
    rw [hts] at h2; cases h2
    refine ⟨cs.toList, by simp, by simp [h1, hsz], fun i v hv => ?_⟩
    have hv' : cs[i]? = some v := by simpa using hv
    obtain ⟨u, e1, e2⟩ := h3 i v hv'
    have hi : i < cs.size := (Array.getElem?_eq_some_iff.1 hv').1
    rw [Nat.mod_eq_of_lt (by omega)] at e1
    exact ⟨u, e1, e2⟩
  unfold Value.okWide at h
  rw [hu] at h
  cases u <;> simp only at hagg <;> first | (cases hagg; done) | exact main h
theorem fits_append {c : List Value} {a b : List TypeId} (h : Fits P W base c (a ++ b)) : ∃ x y, c = x ++ y ∧ Fits P W base x a ∧ Fits P W base y b := by
  obtain ⟨h1, h2⟩ := h
  simp only [List.length_append] at h1
  refine ⟨c.take a.length, c.drop a.length, (List.take_append_drop _ _).symm, ⟨by simp; omega, fun i v hv => ?_⟩, ⟨by simp; omega, fun i v hv => ?_⟩⟩
  · rw [List.getElem?_take] at hv
    split at hv
    · rename_i hi
      obtain ⟨u, e1, e2⟩ := h2 i v hv
      rw [List.getElem?_append_left hi] at e1
      exact ⟨u, e1, e2⟩
    · cases hv
  · rw [List.getElem?_drop] at hv
    obtain ⟨u, e1, e2⟩ := h2 _ v hv
    rw [List.getElem?_append_right (by omega)] at e1
    have : a.length + i - a.length = i := by omega
    rw [this] at e1
    exact ⟨u, e1, e2⟩
theorem fits_one {α : Type} [Enc α] {c : List Value} {t : TypeId} (hc : CellIs P t α) (h : Fits P W base c [t]) : ∃ a : α, c = [enc a] := by
  obtain ⟨h1, h2⟩ := h
  obtain ⟨x, rfl⟩ := List.length_eq_one_iff.1 h1
  obtain ⟨u, e1, e2⟩ := h2 0 x rfl
  cases e1
  obtain ⟨a, rfl⟩ := hc.is W base x e2
  exact ⟨a, rfl⟩
theorem fits_many {α : Type} [Enc α] {t : TypeId} (hc : CellIs P t α) : ∀ (k : Nat) {c : List Value}, Fits P W base c (List.replicate k t) → ∃ v : Vector α k, c = encs v.toList := by
  have gen : ∀ (k : Nat) {c : List Value}, Fits P W base c (List.replicate k t) → ∃ l : List α, l.length = k ∧ c = encs l := by
    intro k
    induction k with
    | zero =>
      intro c h
      have := h.1
      simp at this; subst this
      exact ⟨[], rfl, rfl⟩
    | succ k ih =>
      intro c h
      rw [List.replicate_succ, show t :: List.replicate k t = [t] ++ List.replicate k t from rfl] at h
      obtain ⟨x, y, rfl, g1, g2⟩ := fits_append h
      obtain ⟨a, rfl⟩ := fits_one hc g1
      obtain ⟨l, hl, rfl⟩ := ih g2
      exact ⟨a :: l, by simp [hl], rfl⟩
  intro k c h
  obtain ⟨l, rfl, rfl⟩ := gen k h
  exact ⟨⟨l.toArray, by simp⟩, by simp⟩
end
end Go.Proofs.Ytdnnojblneccdaa
/-
  Lists of things of several cells each.
-/
namespace Go.Proofs.Ytdnnojblneccdaa
set_option linter.unusedSimpArgs false
set_option linter.unusedVariables false
open Go
open Enc (enc)

/-- a Lean type whose members stand for so many cells each -/
class Row (α : Type) extends Enc α where
  cel : α → List Value
  sz : Nat
  pos : 0 < sz
  len : ∀ a, (cel a).length = sz
  celInj : ∀ a b, cel a = cel b → a = b
  kn : ∀ a, (cel a).all known = true
  of : ∀ a, cellsOf (enc a) = some (cel a)
open Row (cel)
instance : Row UInt8 := ⟨fun a => [enc a], 1, by decide, fun _ => rfl, fun a b h => Enc.inj a b (by simpa using h), fun _ => rfl, fun _ => rfl⟩
instance : Row UInt64 := ⟨fun a => [enc a], 1, by decide, fun _ => rfl, fun a b h => Enc.inj a b (by simpa using h), fun _ => rfl, fun _ => rfl⟩
instance : Row Int := ⟨fun a => [enc a], 1, by decide, fun _ => rfl, fun a b h => Enc.inj a b (by simpa using h), fun _ => rfl, fun _ => rfl⟩
instance : Row Sl := ⟨fun a => [enc a], 1, by decide, fun _ => rfl, fun a b h => Enc.inj a b (by simpa using h), fun _ => rfl, fun _ => rfl⟩
/-- arrays of bytes -/
instance {k : Nat} [NeZero k] : Row (Vector UInt8 k) := ⟨fun a => encs a.toList, k, Nat.pos_of_ne_zero (NeZero.ne k), fun a => encs_vec_length a, fun _ _ h => encs_vec_inj h, fun _ => encs_known _, fun _ => rfl⟩

section
variable {α : Type} [Row α]
/-- their cells, one after another -/
def cels (l : List α) : List Value := l.flatMap cel
theorem cels_nil : cels ([] : List α) = [] := rfl
theorem cels_cons (a : α) (l : List α) : cels (a :: l) = cel a ++ cels l := by simp [cels]
theorem cels_append (a b : List α) : cels (a ++ b) = cels a ++ cels b := by simp [cels]
theorem cels_length : ∀ l : List α, (cels l).length = l.length * Row.sz α
  | [] => by simp [cels]
  | a :: l => by rw [cels_cons, List.length_append, Row.len, cels_length l, List.length_cons, Nat.add_mul, Nat.one_mul, Nat.add_comm]
theorem cels_inj : ∀ {a b : List α}, cels a = cels b → a = b
  | [], [], _ => rfl
  | x :: a, y :: b, h => by
    rw [cels_cons, cels_cons] at h
    obtain ⟨h1, h2⟩ := app_inj h (by rw [Row.len, Row.len])
    rw [Row.celInj _ _ h1, cels_inj h2]
  | [], y :: b, h => by
    have := congrArg List.length h
    rw [cels_length, cels_length] at this
    have hp := Nat.mul_pos (show 0 < (y :: b).length by simp) (Row.pos (α := α))
    rw [← this] at hp; simp at hp
  | x :: a, [], h => by
    have := congrArg List.length h
    rw [cels_length, cels_length] at this
    have hp := Nat.mul_pos (show 0 < (x :: a).length by simp) (Row.pos (α := α))
    rw [this] at hp; simp at hp
theorem cels_known (l : List α) : (cels l).all known = true := by
  simp only [cels, List.all_flatMap, List.all_eq_true]
  intro a _
  exact List.all_eq_true.1 (Row.kn a)
open Classical in
noncomputable def decC (x : List Value) : Option (List α) := if h : ∃ a : List α, x = cels a then some h.choose else none
theorem decC_cels (a : List α) : decC (cels a) = some a := by
  unfold decC
  have h : ∃ b : List α, cels a = cels b := ⟨a, rfl⟩
  rw [dif_pos h]
  exact congrArg some (cels_inj h.choose_spec.symm)
theorem decC_some {x : List Value} {a : List α} (h : decC x = some a) : x = cels a := by
  unfold decC at h
  split at h
  · rename_i h'; cases h; exact h'.choose_spec
  · cases h
/-- element i lies where it should -/
theorem cels_at {c : List Value} {off i : Nat} {l : List α} (hl : (c.drop off).take (l.length * Row.sz α) = cels l) (h : i < l.length) :
    ∃ A C, c = A ++ (cel l[i] ++ C) ∧ A.length = off + i * Row.sz α := by
  have h1 : l = l.take i ++ (l[i] :: l.drop (i + 1)) := by rw [← List.drop_eq_getElem_cons h, List.take_append_drop]
  have h2 : cels l = cels (l.take i) ++ (cel l[i] ++ cels (l.drop (i + 1))) := by
    conv => lhs; rw [h1]
    rw [cels_append, cels_cons]
  have hc : c = c.take off ++ ((c.drop off).take (l.length * Row.sz α) ++ (c.drop off).drop (l.length * Row.sz α)) := by rw [List.take_append_drop, List.take_append_drop]
  have hlen : off ≤ c.length := by
    have := congrArg List.length hl
    rw [cels_length] at this
    simp only [List.length_take, List.length_drop] at this
    have hp : 0 < l.length * Row.sz α := Nat.mul_pos (by omega) Row.pos
    omega
  refine ⟨c.take off ++ cels (l.take i), cels (l.drop (i + 1)) ++ (c.drop off).drop (l.length * Row.sz α), ?_, ?_⟩
  · conv => lhs; rw [hc, hl, h2]
    simp only [List.append_assoc]
  · rw [List.length_append, cels_length, List.length_take, List.length_take]
    have e1 : min off c.length = off := by omega
    have e2 : min i l.length = i := by omega
    rw [e1, e2]
/-- the members that a slice spans -/
noncomputable def rdC (H : IHeap) : Value → Option (List α)
  | .slice none 0 0 => some []
  | .slice (some a) len _ =>
    match H a.block with
    | some (.cells c _) => if a.off + len * Row.sz α ≤ c.length then decC ((c.drop a.off).take (len * Row.sz α)) else none
    | _ => none
  | _ => none
/-- a slice in memory: nil, or a row with these members -/
theorem rdC_inv {H : IHeap} {a : Option Addr} {len cap : Nat} {l : List α} (h : rdC H (.slice a len cap) = some l) :
    (a = none ∧ len = 0 ∧ cap = 0 ∧ l = []) ∨ ∃ id off sp c ro, a = some ⟨id, off, sp⟩ ∧ H id = some (.cells c ro) ∧ off + l.length * Row.sz α ≤ c.length ∧ (c.drop off).take (l.length * Row.sz α) = cels l ∧ len = l.length := by
  cases a with
  | none =>
    unfold rdC at h
    split at h
    · rename_i e; cases e; cases h; exact .inl ⟨rfl, rfl, rfl, rfl⟩
    · rename_i e; cases e
    · cases h
  | some a =>
    obtain ⟨id, off, sp⟩ := a
    simp only [rdC] at h
    split at h
    · rename_i c ro hc
      split at h
      · rename_i hle
        have hd := decC_some h
        have hlen : len = l.length := by
          have := congrArg List.length hd
          rw [cels_length] at this
          simp only [List.length_take, List.length_drop] at this
          have hp := Row.pos (α := α)
          have e : min (len * Row.sz α) (c.length - off) = len * Row.sz α := by omega
          rw [e] at this
          exact Nat.eq_of_mul_eq_mul_right hp this
        subst hlen
        exact .inr ⟨id, off, sp, c, ro, rfl, hc, hle, hd, rfl⟩
      · cases h
    · cases h
theorem rdC_mk {H : IHeap} {id off len cap : Nat} {sp : Option Nat} {c : List Value} {ro : Bool} {l : List α} (hH : H id = some (.cells c ro)) (hle : off + l.length * Row.sz α ≤ c.length) (hc : (c.drop off).take (l.length * Row.sz α) = cels l) (hl : l.length = len) :
    rdC H (.slice (some ⟨id, off, sp⟩) len cap) = some l := by
  subst hl
  simp only [rdC, hH]
  rw [if_pos hle, hc]; exact decC_cels l
/-- a whole row -/
theorem rdC_all {H : IHeap} {id len cap : Nat} {sp : Option Nat} {ro : Bool} {l : List α} (hH : H id = some (.cells (cels l) ro)) (hl : l.length = len) : rdC H (.slice (some ⟨id, 0, sp⟩) len cap) = some l :=
  rdC_mk hH (by rw [cels_length]; omega) (by rw [List.drop_zero, List.take_of_length_le (by rw [cels_length]; exact Nat.le_refl _)]) hl
theorem rdC_len {H : IHeap} {x : Value} {l : List α} (h : rdC H x = some l) : ∃ a cap, x = .slice a l.length cap := by
  cases x <;> try (simp [rdC] at h; done)
  rename_i a len cap
  rcases rdC_inv h with ⟨rfl, rfl, rfl, rfl⟩ | ⟨id, off, sp, c, ro, rfl, hc, hle, hl, rfl⟩
  · exact ⟨none, 0, rfl⟩
  · exact ⟨_, _, rfl⟩
/-- where element i lies -/
theorem rdC_at {H : IHeap} {a : Option Addr} {len cap i : Nat} {l : List α} (h : rdC H (.slice a len cap) = some l) (hi : i < l.length) :
    ∃ id off sp c ro, a = some ⟨id, off, sp⟩ ∧ H id = some (.cells c ro) ∧ (c.drop off).take (l.length * Row.sz α) = cels l := by
  rcases rdC_inv h with ⟨rfl, rfl, rfl, rfl⟩ | ⟨id, off, sp, c, ro, rfl, hc, hle, hl, rfl⟩
  · simp at hi
  · exact ⟨id, off, sp, c, ro, rfl, hc, hl⟩
/-- as a source: so many, and these cells -/
theorem rdC_src {H : IHeap} {x : Value} {l : List α} (h : rdC H x = some l) : srcLen x = some l.length ∧ srcCells H (Row.sz α) x = some (cels l) := by
  cases x <;> try (simp [rdC] at h; done)
  rename_i a len cap
  rcases rdC_inv h with ⟨rfl, rfl, rfl, rfl⟩ | ⟨id, off, sp, c, ro, rfl, hc, hle, hl, rfl⟩
  · exact ⟨rfl, rfl⟩
  · refine ⟨rfl, ?_⟩
    simp only [srcCells, hc]
    rw [if_pos hle, hl]

variable {Γ : Fns} {D : Ty} {K : Kinds} {e : Operand → Value} {H : IHeap} {n : Nat}
theorem ox_bs0 {t el : TypeId} {d de : TD} (hd : D t = some d) (hk : d.k = .slice el) (hde : D el = some de) : iopC Γ D K e H n (.buildSlice t 0 #[]) = some ⟨.slice (some ⟨n, 0, none⟩) 0 0, [(n, some (.cells [] false))], n + 1⟩ := by
  simp [iopC, iop, hd, hk, hde, fillIn, new]
theorem srcArg_rdC {t2 el2 : TypeId} {d2 de : TD} {x : Value} {l : List α} (hd : D t2 = some d2) (hk : d2.k = .slice el2) (hs : de.size = Row.sz α) (h : rdC H x = some l) : srcArg D H t2 de x = some (l.length, cels l) := by
  obtain ⟨h1, h2⟩ := rdC_src h
  simp only [srcArg, hd, hk, Option.bind_some, h1, hs, h2, Option.map_some]
/-- an append of nothing to what is not open -/
theorem ox_app0 {t t2 el el2 : TypeId} {s y : Operand} {a : Option Addr} {len cap : Nat} {x : Value} {d d2 de : TD} (hs : e s = .slice a len cap) (hx : e y = x) (hd : D t = some d) (hk : d.k = .slice el) (hde : D el = some de) (hd2 : D t2 = some d2) (hk2 : d2.k = .slice el2) (hsz : de.size = Row.sz α)
    (h : rdC H x = some ([] : List α)) (hcl : closed a = true) (hlc : len ≤ cap) : iopC Γ D K e H n (.call ⟨.builtin .append, #[s, y], #[t, t2]⟩) = some ⟨.slice a len cap, [], n⟩ := by
  have hsrc := srcArg_rdC (α := α) (de := de) hd2 hk2 hsz h
  simp only [List.length_nil, cels_nil] at hsrc
  simp [iopC, iop, doBuiltin, doAppend, hs, hx, hd, hk, hde, hsrc, hcl, hlc, val]
  cases a <;> rfl
/-- an append that must grow, to what is not open -/
theorem ox_app1 {t t2 el el2 : TypeId} {s y : Operand} {a : Option Addr} {x : Value} {d d2 de : TD} {l : List α} (hs : e s = .slice a 0 0) (hx : e y = x) (hd : D t = some d) (hk : d.k = .slice el) (hde : D el = some de) (hd2 : D t2 = some d2) (hk2 : d2.k = .slice el2) (hsz : de.size = Row.sz α)
    (h : rdC H x = some l) (hne : l ≠ []) (hcl : closed a = true) (ha : ∀ b, a = some b → ∃ ro, H b.block = some (.cells [] ro) ∧ b.off = 0) (hm : l.length * de.bytes ≤ most) (hb : 1 ≤ de.bytes) :
    iopC Γ D K e H n (.call ⟨.builtin .append, #[s, y], #[t, t2]⟩) = some ⟨.slice (some ⟨n, 0, some de.size⟩) l.length l.length, [(n, some (.cells (cels l) false))], n + 1⟩ := by
  have hsrc := srcArg_rdC (α := α) (de := de) hd2 hk2 hsz h
  have hl : ¬ (0 + l.length ≤ 0 ∧ closed a = true) := by
    have : l.length ≠ 0 := by simpa using hne
    omega
  simp only [iopC, iop, doBuiltin, doAppend, Array.toList, List.map_cons, List.map_nil, hs, hx, hd, hk, hde, hsrc, Option.bind_some, List.getElem?_toArray, List.getElem?_cons_zero, List.getElem?_cons_succ]
  rw [if_neg hl, if_pos ⟨by simpa using hm, hb⟩]
  match a, hcl, ha with
  | none, _, _ => simp [new]
  | some ⟨id, off, none⟩, _, ha =>
    obtain ⟨ro, h1, h2⟩ := ha _ rfl
    simp only at h1 h2
    subst h2
    simp [srcCells, h1, new]
/-- an append to what is open: it goes on under a new number -/
theorem ox_appO {t t2 el el2 : TypeId} {s y : Operand} {id len cap sz : Nat} {x : Value} {d d2 de : TD} {l1 l : List α} {c : List Value} (hs : e s = .slice (some ⟨id, 0, some sz⟩) len cap) (hx : e y = x) (hd : D t = some d) (hk : d.k = .slice el) (hde : D el = some de) (hd2 : D t2 = some d2) (hk2 : d2.k = .slice el2)
    (hsz : de.size = Row.sz α) (hss : sz = de.size) (hH : H id = some (.cells c false)) (hl : l1.length = len) (hle : len * de.size ≤ c.length) (hc : c.take (len * de.size) = cels l1) (h : rdC H x = some l) (hm : (len + l.length) * de.bytes ≤ most) (hb : 1 ≤ de.bytes) :
    iopC Γ D K e H n (.call ⟨.builtin .append, #[s, y], #[t, t2]⟩) = some ⟨.slice (some ⟨n, 0, some sz⟩) (len + l.length) (len + l.length), [(id, none), (n, some (.cells (cels (l1 ++ l)) false))], n + 1⟩ := by
  have hsrc := srcArg_rdC (α := α) (de := de) hd2 hk2 hsz h
  have hcl : ¬ (len + l.length ≤ cap ∧ closed (some ⟨id, 0, some sz⟩) = true) := by simp [closed]
  simp only [iopC, iop, doBuiltin, doAppend, List.map_cons, List.map_nil, hs, hx, hd, hk, hde, hsrc, Option.bind_some, List.getElem?_toArray, List.getElem?_cons_zero, List.getElem?_cons_succ]
  rw [if_neg hcl, if_pos ⟨hm, hb⟩]
  simp only [hH]
  rw [if_pos ⟨hle, cels_known l, hss, trivial⟩, hc, cels_append]
theorem ox_cap {x : Operand} {t : TypeId} {d : TD} {el id off len cap : Nat} (hx : e x = .slice (some ⟨id, off, none⟩) len cap) (hd : D t = some d) (hk : d.k = .slice el) : iopC Γ D K e H n (.call ⟨.builtin .cap, #[x], #[t]⟩) = some ⟨.int .i64 cap, [], n⟩ := by
  simp [iopC, iop, doBuiltin, hx, hd, hk, val]
theorem ox_capN {x : Operand} {t : TypeId} {d : TD} {el len cap : Nat} (hx : e x = .slice none len cap) (hd : D t = some d) (hk : d.k = .slice el) : iopC Γ D K e H n (.call ⟨.builtin .cap, #[x], #[t]⟩) = some ⟨.int .i64 cap, [], n⟩ := by
  simp [iopC, iop, doBuiltin, hx, hd, hk, val]
/-- make of a slice -/
theorem ox_make {t el : TypeId} {x y : Operand} {a b : Int} {d de : TD} (hx : e x = .int .i64 a) (hy : e y = .int .i64 b) (hd : D t = some d) (hk : d.k = .slice el) (hde : D el = some de) (h0 : 0 ≤ a) (h1 : a ≤ b) (h2 : b ≤ most) (h3 : de.bytes * b ≤ (2 : Int) ^ 48) :
    iopC Γ D K e H n (.makeSlice t x y) = some ⟨.slice (some ⟨n, 0, none⟩) a.toNat b.toNat, [(n, some (.cells ((List.replicate b.toNat de.zero).flatten) false))], n + 1⟩ := by
  simp only [iopC, iop, doMake, hx, hy, hd, hk, hde, Option.bind_some, new]
  rw [if_pos ⟨h0, h1, h2, h3⟩]
end
/-- a part of an element -/
theorem rdVar_in {d : TD} {A B C c : List Value} {o j : Nat} {v : Value} (hc : c = A ++ (B ++ C)) (hj : j = A.length + o) (h : rdVar d B o = some v) : rdVar d c j = some v := by
  subst hc; subst hj
  unfold rdVar at h ⊢
  split at h
  · rename_i hk
    rw [if_pos hk]
    split at h
    · rename_i hle
      rw [if_pos (by simp only [List.length_append]; omega)]
      rw [← h]
      have e1 : (A ++ (B ++ C)).drop (A.length + o) = (B ++ C).drop o := by rw [← List.drop_drop, List.drop_left]
      rw [e1, List.drop_append_of_le_length (by omega), List.take_append_of_le_length (by simp only [List.length_drop]; omega)]
    · cases h
  · rename_i hk
    rw [if_neg hk]
    have ho : o < B.length := (List.getElem?_eq_some_iff.1 h).1
    rw [List.getElem?_append_right (by omega), Nat.add_sub_cancel_left, List.getElem?_append_left ho]
    exact h
theorem rd_celIn {α : Type} [Row α] {d : TD} {c : List Value} {off i o j : Nat} {l : List α} {v : Value} (hl : (c.drop off).take (l.length * Row.sz α) = cels l) (h : i < l.length) (hv : rdVar d (cel l[i]) o = some v) (hj : j = off + i * Row.sz α + o) : rdVar d c j = some v := by
  obtain ⟨A, C, hc, hA⟩ := cels_at hl h
  exact rdVar_in hc (by rw [hA]; exact hj) hv
theorem rd_cel {k : Nat} [NeZero k] {d : TD} {c : List Value} {off i j : Nat} {l : List (Vector UInt8 k)} (hl : (c.drop off).take (l.length * Row.sz (Vector UInt8 k)) = cels l) (h : i < l.length) (hk : d.k.isAgg = true) (hs : d.size = k) (hj : off + i * k = j) : rdVar d c j = some (enc l[i]) := by
  obtain ⟨A, C, hc, hA⟩ := cels_at hl h
  exact rd_part hk hc (by rw [hA]; exact hj) (by rw [hs]; exact Row.len (α := Vector UInt8 k) _)
end Go.Proofs.Ytdnnojblneccdaa
/-
  Results in new rows.
-/
namespace Go.Proofs.Ytdnnojblneccdaa
set_option linter.unusedSimpArgs false
set_option linter.unusedVariables false
open Go
open Enc (enc)
open Row (cel)

/-- a cell that leads nowhere -/
def plain : Value → Bool
  | .bool _ | .int _ _ | .string _ | .pointer none | .slice none _ _ | .map none | .nilFunc | .nilIface => true
  | _ => false
theorem plain_ren {g : Nat → Nat} {v : Value} (h : plain v = true) : ren1 g v = v := by
  unfold plain at h
  split at h <;> first | rfl | (cases h; done)
theorem plain_ok {p : Nat → Prop} {v : Value} (h : plain v = true) : okN1 p v := by
  unfold plain at h
  split at h <;> first | trivial | (cases h; done)
theorem plains_ren {g : Nat → Nat} {c : List Value} (h : c.all plain = true) : c.map (ren1 g) = c := by
  have : ∀ x ∈ c, ren1 g x = x := fun x hx => plain_ren (List.all_eq_true.1 h x hx)
  calc c.map (ren1 g) = c.map id := List.map_congr_left this
    _ = c := by simp

section
variable {D : Ty}
/-- one new row comes out, and a slice of it -/
theorem RetP.new1 {rs : List ResultVar} {n m n'' : Nat} {H H' : IHeap} {ex : Exit} {t : List Value} {off len cap : Nat} {s : Option Nat} {c : List Value} (hx : ex = .normal ∨ ex = .ret) (hr : ires D t H' rs = some (.slice (some ⟨m, off, s⟩) len cap)) (hm : n ≤ m)
    (hH : H' m = some (.cells c false)) (hc : c.all plain = true) : RetP D rs n H ⟨.slice (some ⟨n, off, s⟩) len cap, [(n, some (.cells c false))], n + 1⟩ ex t H' n'' := by
  refine ⟨hx, ?_⟩
  rw [hr]
  refine ⟨fun id => if id = n then m else id, fun id hid => ?_, ?_, ?_, ?_, ?_, ?_, ?_, Nat.le_succ _⟩
  · exact if_neg (by omega)
  · simp [ren, ren2, ren1]
  · show n < n ∨ n ∈ _
    right; simp [Eff.ids]
  · intro id hid o ho
    simp only [Eff.ids, List.map_cons, List.map_nil, List.mem_singleton] at hid
    subst hid
    simp only [upds, upd, if_true, Option.some.injEq] at ho
    subst ho
    refine ⟨?_, ?_⟩
    · simp only [if_true, hH, renO, plains_ren hc]
    · simp only [okO]
      intro x hx
      exact plain_ok (List.all_eq_true.1 hc x hx)
  · intro id hid _
    simp only [Eff.ids, List.map_cons, List.map_nil, List.mem_singleton] at hid
    subst hid; simpa using hm
  · intro i hi j hj _
    simp only [Eff.ids, List.map_cons, List.map_nil, List.mem_singleton] at hi hj
    rw [hi, hj]
  · intro id hid
    simp only [Eff.ids, List.map_cons, List.map_nil, List.mem_singleton] at hid
    subst hid; exact ⟨.inl (Nat.le_refl _), Nat.lt_succ_self _⟩
/-- from n on nothing lies -/
theorem IW.free {P : Program} {W : Nat → Prop} {R : Option Nat} {cs : List Code} {Q : PostX} {t : List Value} {H : IHeap} {n : Nat} (hne : cs ≠ []) (h : (∀ id, n ≤ id → H id = none) → IW P W R cs Q t H n) : IW P W R cs Q t H n := by
  cases cs with
  | nil => exact (hne rfl).elim
  | cons c cs =>
    intro ρ0 w0 m0 ρ a w hs
    refine h (fun id hid => ?_) ρ0 w0 m0 ρ a w hs
    cases hH : H id with
    | none => rfl
    | some o =>
      obtain ⟨r, κ, h1, _⟩ := hs.heap.obj id o hH
      have := hs.below.lt h1
      omega
/-- what a slice spans lies below the free numbers -/
theorem IW.ltC {α : Type} [Row α] {P : Program} {W : Nat → Prop} {R : Option Nat} {cs : List Code} {Q : PostX} {t : List Value} {H : IHeap} {n : Nat} {x : Value} {l : List α} (hne : cs ≠ []) (hx : rdC H x = some l)
    (h : (∀ id off s len cap, x = .slice (some ⟨id, off, s⟩) len cap → id < n) → IW P W R cs Q t H n) : IW P W R cs Q t H n := by
  obtain ⟨a, cap, rfl⟩ := rdC_len hx
  rcases rdC_inv hx with ⟨rfl, _⟩ | ⟨id, off, sp, c, ro, rfl, hc, _⟩
  · exact h fun id off s len cap e => by cases e
  · exact IW.lt hne hc fun hid => h fun id' off' s len cap' e => by cases e; exact hid
theorem rdC_hp {α : Type} [Row α] {H : IHeap} {n m : Nat} {o : Option IObj} {M : Ups} {x : Value} {l : List α} (h : rdC (hp H M) x = some l) (hlt : ∀ id off s len cap, x = .slice (some ⟨id, off, s⟩) len cap → id < n) (hm : n ≤ m) : rdC (hp H ((m, o) :: M)) x = some l := by
  obtain ⟨a, cap, rfl⟩ := rdC_len h
  rcases rdC_inv h with ⟨rfl, h2, rfl, rfl⟩ | ⟨id, off, sp, c, ro, rfl, hc, hle, hl, _⟩
  · rfl
  · have := hlt _ _ _ _ _ rfl
    exact rdC_mk ((hp_ne H o M (by omega)).trans hc) hle hl rfl
end
end Go.Proofs.Ytdnnojblneccdaa
