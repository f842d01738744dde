/-
  Go values as Lean values.
-/
import Derived.Test.YtdnnojblneccdaaE22
namespace Go.Proofs.Ytdnnojblneccdaa
set_option linter.unusedSimpArgs false
set_option linter.unusedVariables false
open Go

/-- a Lean type whose members stand for values -/
class Enc (α : Type) where
  enc : α → Value
  inj : ∀ a b, enc a = enc b → a = b
open Enc (enc)
open Classical in
noncomputable def dec {α : Type} [Enc α] (x : Value) : Option α := if h : ∃ a : α, x = enc a then some h.choose else none
theorem dec_enc {α : Type} [Enc α] (a : α) : dec (enc a) = some a := by
  unfold dec
  have h : ∃ b : α, enc a = enc b := ⟨a, rfl⟩
  rw [dif_pos h]
  exact congrArg some (Enc.inj _ _ h.choose_spec.symm)
theorem dec_some {α : Type} [Enc α] {x : Value} {a : α} (h : dec x = some a) : x = enc a := by
  unfold dec at h
  split at h
  · rename_i h'; cases h; exact h'.choose_spec
  · cases h

instance : Enc Bool := ⟨.bool, fun a b h => by cases h; rfl⟩
instance : Enc Int := ⟨.int .i64, fun a b h => by cases h; rfl⟩
instance : Enc UInt64 := ⟨fun x => .int .u64 (x.toNat : Int), fun a b h => by
  simp only [Value.int.injEq, true_and] at h
  exact UInt64.toNat_inj.1 (by omega)⟩
instance : Enc UInt32 := ⟨fun x => .int .u32 (x.toNat : Int), fun a b h => by
  simp only [Value.int.injEq, true_and] at h
  exact UInt32.toNat_inj.1 (by omega)⟩
instance : Enc UInt8 := ⟨fun x => .int .u8 (x.toNat : Int), fun a b h => by
  simp only [Value.int.injEq, true_and] at h
  exact UInt8.toNat_inj.1 (by omega)⟩

/-- cells of one kind -/
def encs {α : Type} [Enc α] (l : List α) : List Value := l.map enc
theorem encs_length {α : Type} [Enc α] (l : List α) : (encs l).length = l.length := by simp [encs]
theorem encs_inj {α : Type} [Enc α] : ∀ {a b : List α}, encs a = encs b → a = b
  | [], [], _ => rfl
  | x :: a, y :: b, h => by
    simp only [encs, List.map_cons, List.cons.injEq] at h
    rw [Enc.inj _ _ h.1, encs_inj h.2]
  | [], _ :: _, h => by simp [encs] at h
  | _ :: _, [], h => by simp [encs] at h
theorem encs_get {α : Type} [Enc α] (l : List α) (i : Nat) : (encs l)[i]? = (l[i]?).map enc := by simp [encs]
theorem encs_append {α : Type} [Enc α] (a b : List α) : encs (a ++ b) = encs a ++ encs b := by simp [encs]
theorem encs_drop {α : Type} [Enc α] (a : List α) (k : Nat) : encs (a.drop k) = (encs a).drop k := by simp [encs]
theorem encs_take {α : Type} [Enc α] (a : List α) (k : Nat) : encs (a.take k) = (encs a).take k := by simp [encs]
theorem encs_set {α : Type} [Enc α] (a : List α) (k : Nat) (x : α) : encs (a.set k x) = (encs a).set k (enc x) := by simp [encs]
open Classical in
noncomputable def decs {α : Type} [Enc α] (x : List Value) : Option (List α) := if h : ∃ a : List α, x = encs a then some h.choose else none
theorem decs_encs {α : Type} [Enc α] (a : List α) : decs (encs a) = some a := by
  unfold decs
  have h : ∃ b : List α, encs a = encs b := ⟨a, rfl⟩
  rw [dif_pos h]
  exact congrArg some (encs_inj h.choose_spec.symm)
theorem decs_some {α : Type} [Enc α] {x : List Value} {a : List α} (h : decs x = some a) : x = encs a := by
  unfold decs at h
  split at h
  · rename_i h'; cases h; exact h'.choose_spec
  · cases h

/-- a type of one cell, of a known kind -/
class Enc1 (α : Type) extends Enc α where
  agg1 : ∀ a : α, known (enc a) = true
instance : Enc1 Bool := ⟨fun _ => rfl⟩
instance : Enc1 Int := ⟨fun _ => rfl⟩
instance : Enc1 UInt64 := ⟨fun _ => rfl⟩
instance : Enc1 UInt32 := ⟨fun _ => rfl⟩
instance : Enc1 UInt8 := ⟨fun _ => rfl⟩
theorem encs_known {α : Type} [Enc1 α] (l : List α) : (encs l).all known = true := by
  simp only [encs, List.all_map, List.all_eq_true]
  intro x _
  exact Enc1.agg1 x
theorem encs_known' {α : Type} [Enc1 α] (l : List α) : ∀ x ∈ encs l, known x = true := List.all_eq_true.1 (encs_known l)

/-- arrays -/
instance {α : Type} [Enc α] {k : Nat} : Enc (Vector α k) := ⟨fun v => .agg (encs v.toList).toArray, fun a b h => by
  simp only [Value.agg.injEq] at h
  have : encs a.toList = encs b.toList := by simpa using congrArg Array.toList h
  exact Vector.toList_inj.1 (encs_inj this)⟩
theorem enc_vec {α : Type} [Enc α] {k : Nat} (v : Vector α k) : enc v = .agg (encs v.toList).toArray := rfl

theorem cellEq_u8 (a b : UInt8) : cellEq (.int .u8) (enc a) (enc b) = some (a == b) := by
  show (if IntKind.u8 = IntKind.u8 then some ((a.toNat : Int) == (b.toNat : Int)) else none) = _
  rw [if_pos rfl]
  refine congrArg some ?_
  rw [Bool.eq_iff_iff, beq_iff_eq, beq_iff_eq]
  exact ⟨fun e => UInt8.toNat_inj.1 (by omega), fun e => by rw [e]⟩
theorem cellEq_u64 (a b : UInt64) : cellEq (.int .u64) (enc a) (enc b) = some (a == b) := by
  show (if IntKind.u64 = IntKind.u64 then some ((a.toNat : Int) == (b.toNat : Int)) else none) = _
  rw [if_pos rfl]
  refine congrArg some ?_
  rw [Bool.eq_iff_iff, beq_iff_eq, beq_iff_eq]
  exact ⟨fun e => UInt64.toNat_inj.1 (by omega), fun e => by rw [e]⟩
theorem cellEq_i64 (a b : Int) : cellEq (.int .i64) (enc a) (enc b) = some (a == b) := rfl

theorem cellsEq_encs {α : Type} [Enc α] [BEq α] {k : TK} (hk : ∀ a b : α, cellEq k (enc a) (enc b) = some (a == b)) : ∀ (a b : List α) (m : Nat), a.length = m → b.length = m → cellsEq (List.replicate m k) (encs a) (encs b) = some (a == b)
  | [], [], 0, _, _ => rfl
  | x :: a, y :: b, m + 1, h1, h2 => by
    simp only [List.replicate_succ, encs, List.map_cons, cellsEq, hk, Option.bind_some]
    have := cellsEq_encs hk a b m (by simpa using h1) (by simpa using h2)
    simp only [encs] at this
    rw [this]
    rfl
  | [], _ :: _, 0, _, h => by simp at h
  | _ :: _, _, 0, h, _ => by simp at h
  | [], _, _ + 1, h, _ => by simp at h
  | _ :: _, [], _ + 1, _, h => by simp at h
theorem cellsEq_mk : ∀ {ks ls : List TK} {xs xs2 ys ys2 : List Value} {a b : Bool}, cellsEq ks xs ys = some a → cellsEq ls xs2 ys2 = some b → cellsEq (ks ++ ls) (xs ++ xs2) (ys ++ ys2) = some (a && b)
  | [], ls, [], xs2, [], ys2, a, b, h1, h2 => by cases h1; simpa using h2
  | k :: ks, ls, x :: xs, xs2, y :: ys, ys2, a, b, h1, h2 => by
    simp only [cellsEq, Option.bind_eq_some_iff, Option.map_eq_some_iff] at h1
    obtain ⟨c, hc, d, hd, rfl⟩ := h1
    have := cellsEq_mk hd h2
    simp only [List.cons_append, cellsEq, hc, Option.bind_some, this, Option.map_some, Bool.and_assoc]
  | [], _, [], _, _ :: _, _, _, _, h, _ => by simp [cellsEq] at h
  | [], _, _ :: _, _, _, _, _, _, h, _ => by simp [cellsEq] at h
  | _ :: _, _, [], _, _, _, _, _, h, _ => by simp [cellsEq] at h
  | _ :: _, _, _ :: _, _, [], _, _, _, h, _ => by simp [cellsEq] at h

theorem cellsEq_one {k : TK} {x y : Value} {b : Bool} (h : cellEq k x y = some b) : cellsEq [k] [x] [y] = some b := by simp [cellsEq, h]
/-- arrays of one kind of cells, held against each other -/
theorem eq_vec {α : Type} [Enc α] [BEq α] {D : Ty} {K : Kinds} {k : TK} {t : TypeId} {m : Nat} (hK : K t = some (List.replicate m k)) (hk : ∀ a b : α, cellEq k (enc a) (enc b) = some (a == b)) (x y : Vector α m) :
    binOp' D K .eql t (enc x) (enc y) = some (.bool (x == y)) := by
  have := cellsEq_encs hk x.toList y.toList m (by simp) (by simp)
  simp only [enc_vec, binOp', eqOp, hK, Option.bind_some, this, Option.map_some]
  rw [Vector.toList_beq_toList]
theorem ne_vec {α : Type} [Enc α] [BEq α] {D : Ty} {K : Kinds} {k : TK} {t : TypeId} {m : Nat} (hK : K t = some (List.replicate m k)) (hk : ∀ a b : α, cellEq k (enc a) (enc b) = some (a == b)) (x y : Vector α m) :
    binOp' D K .neq t (enc x) (enc y) = some (.bool !(x == y)) := by
  have := cellsEq_encs hk x.toList y.toList m (by simp) (by simp)
  simp only [enc_vec, binOp', eqOp, hK, Option.bind_some, this, Option.map_some]
  rw [Vector.toList_beq_toList]

/-- the cells that a slice spans, as Lean values -/
noncomputable def rdS {α : Type} [Enc α] (H : IHeap) : Value → Option (List α)
  | .slice none _ _ => some []
  | .slice (some a) len _ =>
    match H a.block with
    | some (.cells c _) => if a.off + len ≤ c.length then decs ((c.drop a.off).take len) else none
    | _ => none
  | _ => none
end Go.Proofs.Ytdnnojblneccdaa
