/-
  Lists of things of several cells each.
-/
import Derived.Test.YtdnnojblneccdaaE29
namespace Go.Proofs.Ytdnnojblneccdaa
set_option linter.unusedSimpArgs false
set_option linter.unusedVariables false
open Go
open Enc (enc)

/-- a Lean type whose members stand for so many cells each -/
class Row (α : Type) extends Enc α where
  cel : α → List Value
  sz : Nat
  pos : 0 < sz
  len : ∀ a, (cel a).length = sz
  celInj : ∀ a b, cel a = cel b → a = b
  kn : ∀ a, (cel a).all known = true
  of : ∀ a, cellsOf (enc a) = some (cel a)
open Row (cel)
instance : Row UInt8 := ⟨fun a => [enc a], 1, by decide, fun _ => rfl, fun a b h => Enc.inj a b (by simpa using h), fun _ => rfl, fun _ => rfl⟩
instance : Row UInt64 := ⟨fun a => [enc a], 1, by decide, fun _ => rfl, fun a b h => Enc.inj a b (by simpa using h), fun _ => rfl, fun _ => rfl⟩
instance : Row Int := ⟨fun a => [enc a], 1, by decide, fun _ => rfl, fun a b h => Enc.inj a b (by simpa using h), fun _ => rfl, fun _ => rfl⟩
instance : Row Sl := ⟨fun a => [enc a], 1, by decide, fun _ => rfl, fun a b h => Enc.inj a b (by simpa using h), fun _ => rfl, fun _ => rfl⟩
/-- arrays of bytes -/
instance {k : Nat} [NeZero k] : Row (Vector UInt8 k) := ⟨fun a => encs a.toList, k, Nat.pos_of_ne_zero (NeZero.ne k), fun a => encs_vec_length a, fun _ _ h => encs_vec_inj h, fun _ => encs_known _, fun _ => rfl⟩

section
variable {α : Type} [Row α]
/-- their cells, one after another -/
def cels (l : List α) : List Value := l.flatMap cel
theorem cels_nil : cels ([] : List α) = [] := rfl
theorem cels_cons (a : α) (l : List α) : cels (a :: l) = cel a ++ cels l := by simp [cels]
theorem cels_append (a b : List α) : cels (a ++ b) = cels a ++ cels b := by simp [cels]
theorem cels_length : ∀ l : List α, (cels l).length = l.length * Row.sz α
  | [] => by simp [cels]
  | a :: l => by rw [cels_cons, List.length_append, Row.len, cels_length l, List.length_cons, Nat.add_mul, Nat.one_mul, Nat.add_comm]
theorem cels_inj : ∀ {a b : List α}, cels a = cels b → a = b
  | [], [], _ => rfl
  | x :: a, y :: b, h => by
    rw [cels_cons, cels_cons] at h
    obtain ⟨h1, h2⟩ := app_inj h (by rw [Row.len, Row.len])
    rw [Row.celInj _ _ h1, cels_inj h2]
  | [], y :: b, h => by
    have := congrArg List.length h
    rw [cels_length, cels_length] at this
    have hp := Nat.mul_pos (show 0 < (y :: b).length by simp) (Row.pos (α := α))
    rw [← this] at hp; simp at hp
  | x :: a, [], h => by
    have := congrArg List.length h
    rw [cels_length, cels_length] at this
    have hp := Nat.mul_pos (show 0 < (x :: a).length by simp) (Row.pos (α := α))
    rw [this] at hp; simp at hp
theorem cels_known (l : List α) : (cels l).all known = true := by
  simp only [cels, List.all_flatMap, List.all_eq_true]
  intro a _
  exact List.all_eq_true.1 (Row.kn a)
open Classical in
noncomputable def decC (x : List Value) : Option (List α) := if h : ∃ a : List α, x = cels a then some h.choose else none
theorem decC_cels (a : List α) : decC (cels a) = some a := by
  unfold decC
  have h : ∃ b : List α, cels a = cels b := ⟨a, rfl⟩
  rw [dif_pos h]
  exact congrArg some (cels_inj h.choose_spec.symm)
theorem decC_some {x : List Value} {a : List α} (h : decC x = some a) : x = cels a := by
  unfold decC at h
  split at h
  · rename_i h'; cases h; exact h'.choose_spec
  · cases h
/-- element i lies where it should -/
theorem cels_at {c : List Value} {off i : Nat} {l : List α} (hl : (c.drop off).take (l.length * Row.sz α) = cels l) (h : i < l.length) :
    ∃ A C, c = A ++ (cel l[i] ++ C) ∧ A.length = off + i * Row.sz α := by
  have h1 : l = l.take i ++ (l[i] :: l.drop (i + 1)) := by rw [← List.drop_eq_getElem_cons h, List.take_append_drop]
  have h2 : cels l = cels (l.take i) ++ (cel l[i] ++ cels (l.drop (i + 1))) := by
    conv => lhs; rw [h1]
    rw [cels_append, cels_cons]
  have hc : c = c.take off ++ ((c.drop off).take (l.length * Row.sz α) ++ (c.drop off).drop (l.length * Row.sz α)) := by rw [List.take_append_drop, List.take_append_drop]
  have hlen : off ≤ c.length := by
    have := congrArg List.length hl
    rw [cels_length] at this
    simp only [List.length_take, List.length_drop] at this
    have hp : 0 < l.length * Row.sz α := Nat.mul_pos (by omega) Row.pos
    omega
  refine ⟨c.take off ++ cels (l.take i), cels (l.drop (i + 1)) ++ (c.drop off).drop (l.length * Row.sz α), ?_, ?_⟩
  · conv => lhs; rw [hc, hl, h2]
    simp only [List.append_assoc]
  · rw [List.length_append, cels_length, List.length_take, List.length_take]
    have e1 : min off c.length = off := by omega
    have e2 : min i l.length = i := by omega
    rw [e1, e2]
/-- the members that a slice spans -/
noncomputable def rdC (H : IHeap) : Value → Option (List α)
  | .slice none 0 0 => some []
  | .slice (some a) len _ =>
    match H a.block with
    | some (.cells c _) => if a.off + len * Row.sz α ≤ c.length then decC ((c.drop a.off).take (len * Row.sz α)) else none
    | _ => none
  | _ => none
/-- a slice in memory: nil, or a row with these members -/
theorem rdC_inv {H : IHeap} {a : Option Addr} {len cap : Nat} {l : List α} (h : rdC H (.slice a len cap) = some l) :
    (a = none ∧ len = 0 ∧ cap = 0 ∧ l = []) ∨ ∃ id off sp c ro, a = some ⟨id, off, sp⟩ ∧ H id = some (.cells c ro) ∧ off + l.length * Row.sz α ≤ c.length ∧ (c.drop off).take (l.length * Row.sz α) = cels l ∧ len = l.length := by
  cases a with
  | none =>
    unfold rdC at h
    split at h
    · rename_i e; cases e; cases h; exact .inl ⟨rfl, rfl, rfl, rfl⟩
    · rename_i e; cases e
    · cases h
  | some a =>
    obtain ⟨id, off, sp⟩ := a
    simp only [rdC] at h
    split at h
    · rename_i c ro hc
      split at h
      · rename_i hle
        have hd := decC_some h
        have hlen : len = l.length := by
          have := congrArg List.length hd
          rw [cels_length] at this
          simp only [List.length_take, List.length_drop] at this
          have hp := Row.pos (α := α)
          have e : min (len * Row.sz α) (c.length - off) = len * Row.sz α := by omega
          rw [e] at this
          exact Nat.eq_of_mul_eq_mul_right hp this
        subst hlen
        exact .inr ⟨id, off, sp, c, ro, rfl, hc, hle, hd, rfl⟩
      · cases h
    · cases h
theorem rdC_mk {H : IHeap} {id off len cap : Nat} {sp : Option Nat} {c : List Value} {ro : Bool} {l : List α} (hH : H id = some (.cells c ro)) (hle : off + l.length * Row.sz α ≤ c.length) (hc : (c.drop off).take (l.length * Row.sz α) = cels l) (hl : l.length = len) :
    rdC H (.slice (some ⟨id, off, sp⟩) len cap) = some l := by
  subst hl
  simp only [rdC, hH]
  rw [if_pos hle, hc]; exact decC_cels l
/-- a whole row -/
theorem rdC_all {H : IHeap} {id len cap : Nat} {sp : Option Nat} {ro : Bool} {l : List α} (hH : H id = some (.cells (cels l) ro)) (hl : l.length = len) : rdC H (.slice (some ⟨id, 0, sp⟩) len cap) = some l :=
  rdC_mk hH (by rw [cels_length]; omega) (by rw [List.drop_zero, List.take_of_length_le (by rw [cels_length]; exact Nat.le_refl _)]) hl
theorem rdC_len {H : IHeap} {x : Value} {l : List α} (h : rdC H x = some l) : ∃ a cap, x = .slice a l.length cap := by
  cases x <;> try (simp [rdC] at h; done)
  rename_i a len cap
  rcases rdC_inv h with ⟨rfl, rfl, rfl, rfl⟩ | ⟨id, off, sp, c, ro, rfl, hc, hle, hl, rfl⟩
  · exact ⟨none, 0, rfl⟩
  · exact ⟨_, _, rfl⟩
/-- where element i lies -/
theorem rdC_at {H : IHeap} {a : Option Addr} {len cap i : Nat} {l : List α} (h : rdC H (.slice a len cap) = some l) (hi : i < l.length) :
    ∃ id off sp c ro, a = some ⟨id, off, sp⟩ ∧ H id = some (.cells c ro) ∧ (c.drop off).take (l.length * Row.sz α) = cels l := by
  rcases rdC_inv h with ⟨rfl, rfl, rfl, rfl⟩ | ⟨id, off, sp, c, ro, rfl, hc, hle, hl, rfl⟩
  · simp at hi
  · exact ⟨id, off, sp, c, ro, rfl, hc, hl⟩
/-- as a source: so many, and these cells -/
theorem rdC_src {H : IHeap} {x : Value} {l : List α} (h : rdC H x = some l) : srcLen x = some l.length ∧ srcCells H (Row.sz α) x = some (cels l) := by
  cases x <;> try (simp [rdC] at h; done)
  rename_i a len cap
  rcases rdC_inv h with ⟨rfl, rfl, rfl, rfl⟩ | ⟨id, off, sp, c, ro, rfl, hc, hle, hl, rfl⟩
  · exact ⟨rfl, rfl⟩
  · refine ⟨rfl, ?_⟩
    simp only [srcCells, hc]
    rw [if_pos hle, hl]

variable {Γ : Fns} {D : Ty} {K : Kinds} {e : Operand → Value} {H : IHeap} {n : Nat}
theorem ox_bs0 {t el : TypeId} {d de : TD} (hd : D t = some d) (hk : d.k = .slice el) (hde : D el = some de) : iopC Γ D K e H n (.buildSlice t 0 #[]) = some ⟨.slice (some ⟨n, 0, none⟩) 0 0, [(n, some (.cells [] false))], n + 1⟩ := by
  simp [iopC, iop, hd, hk, hde, fillIn, new]
theorem srcArg_rdC {t2 el2 : TypeId} {d2 de : TD} {x : Value} {l : List α} (hd : D t2 = some d2) (hk : d2.k = .slice el2) (hs : de.size = Row.sz α) (h : rdC H x = some l) : srcArg D H t2 de x = some (l.length, cels l) := by
  obtain ⟨h1, h2⟩ := rdC_src h
  simp only [srcArg, hd, hk, Option.bind_some, h1, hs, h2, Option.map_some]
/-- an append of nothing to what is not open -/
theorem ox_app0 {t t2 el el2 : TypeId} {s y : Operand} {a : Option Addr} {len cap : Nat} {x : Value} {d d2 de : TD} (hs : e s = .slice a len cap) (hx : e y = x) (hd : D t = some d) (hk : d.k = .slice el) (hde : D el = some de) (hd2 : D t2 = some d2) (hk2 : d2.k = .slice el2) (hsz : de.size = Row.sz α)
    (h : rdC H x = some ([] : List α)) (hcl : closed a = true) (hlc : len ≤ cap) : iopC Γ D K e H n (.call ⟨.builtin .append, #[s, y], #[t, t2]⟩) = some ⟨.slice a len cap, [], n⟩ := by
  have hsrc := srcArg_rdC (α := α) (de := de) hd2 hk2 hsz h
  simp only [List.length_nil, cels_nil] at hsrc
  simp [iopC, iop, doBuiltin, doAppend, hs, hx, hd, hk, hde, hsrc, hcl, hlc, val]
  cases a <;> rfl
/-- an append that must grow, to what is not open -/
theorem ox_app1 {t t2 el el2 : TypeId} {s y : Operand} {a : Option Addr} {x : Value} {d d2 de : TD} {l : List α} (hs : e s = .slice a 0 0) (hx : e y = x) (hd : D t = some d) (hk : d.k = .slice el) (hde : D el = some de) (hd2 : D t2 = some d2) (hk2 : d2.k = .slice el2) (hsz : de.size = Row.sz α)
    (h : rdC H x = some l) (hne : l ≠ []) (hcl : closed a = true) (ha : ∀ b, a = some b → ∃ ro, H b.block = some (.cells [] ro) ∧ b.off = 0) (hm : l.length * de.bytes ≤ most) (hb : 1 ≤ de.bytes) :
    iopC Γ D K e H n (.call ⟨.builtin .append, #[s, y], #[t, t2]⟩) = some ⟨.slice (some ⟨n, 0, some de.size⟩) l.length l.length, [(n, some (.cells (cels l) false))], n + 1⟩ := by
  have hsrc := srcArg_rdC (α := α) (de := de) hd2 hk2 hsz h
  have hl : ¬ (0 + l.length ≤ 0 ∧ closed a = true) := by
    have : l.length ≠ 0 := by simpa using hne
    omega
  simp only [iopC, iop, doBuiltin, doAppend, Array.toList, List.map_cons, List.map_nil, hs, hx, hd, hk, hde, hsrc, Option.bind_some, List.getElem?_toArray, List.getElem?_cons_zero, List.getElem?_cons_succ]
  rw [if_neg hl, if_pos ⟨by simpa using hm, hb⟩]
  match a, hcl, ha with
  | none, _, _ => simp [new]
  | some ⟨id, off, none⟩, _, ha =>
    obtain ⟨ro, h1, h2⟩ := ha _ rfl
    simp only at h1 h2
    subst h2
    simp [srcCells, h1, new]
/-- an append to what is open: it goes on under a new number -/
theorem ox_appO {t t2 el el2 : TypeId} {s y : Operand} {id len cap sz : Nat} {x : Value} {d d2 de : TD} {l1 l : List α} {c : List Value} (hs : e s = .slice (some ⟨id, 0, some sz⟩) len cap) (hx : e y = x) (hd : D t = some d) (hk : d.k = .slice el) (hde : D el = some de) (hd2 : D t2 = some d2) (hk2 : d2.k = .slice el2)
    (hsz : de.size = Row.sz α) (hss : sz = de.size) (hH : H id = some (.cells c false)) (hl : l1.length = len) (hle : len * de.size ≤ c.length) (hc : c.take (len * de.size) = cels l1) (h : rdC H x = some l) (hm : (len + l.length) * de.bytes ≤ most) (hb : 1 ≤ de.bytes) :
    iopC Γ D K e H n (.call ⟨.builtin .append, #[s, y], #[t, t2]⟩) = some ⟨.slice (some ⟨n, 0, some sz⟩) (len + l.length) (len + l.length), [(id, none), (n, some (.cells (cels (l1 ++ l)) false))], n + 1⟩ := by
  have hsrc := srcArg_rdC (α := α) (de := de) hd2 hk2 hsz h
  have hcl : ¬ (len + l.length ≤ cap ∧ closed (some ⟨id, 0, some sz⟩) = true) := by simp [closed]
  simp only [iopC, iop, doBuiltin, doAppend, List.map_cons, List.map_nil, hs, hx, hd, hk, hde, hsrc, Option.bind_some, List.getElem?_toArray, List.getElem?_cons_zero, List.getElem?_cons_succ]
  rw [if_neg hcl, if_pos ⟨hm, hb⟩]
  simp only [hH]
  rw [if_pos ⟨hle, cels_known l, hss, trivial⟩, hc, cels_append]
theorem ox_cap {x : Operand} {t : TypeId} {d : TD} {el id off len cap : Nat} (hx : e x = .slice (some ⟨id, off, none⟩) len cap) (hd : D t = some d) (hk : d.k = .slice el) : iopC Γ D K e H n (.call ⟨.builtin .cap, #[x], #[t]⟩) = some ⟨.int .i64 cap, [], n⟩ := by
  simp [iopC, iop, doBuiltin, hx, hd, hk, val]
theorem ox_capN {x : Operand} {t : TypeId} {d : TD} {el len cap : Nat} (hx : e x = .slice none len cap) (hd : D t = some d) (hk : d.k = .slice el) : iopC Γ D K e H n (.call ⟨.builtin .cap, #[x], #[t]⟩) = some ⟨.int .i64 cap, [], n⟩ := by
  simp [iopC, iop, doBuiltin, hx, hd, hk, val]
/-- make of a slice -/
theorem ox_make {t el : TypeId} {x y : Operand} {a b : Int} {d de : TD} (hx : e x = .int .i64 a) (hy : e y = .int .i64 b) (hd : D t = some d) (hk : d.k = .slice el) (hde : D el = some de) (h0 : 0 ≤ a) (h1 : a ≤ b) (h2 : b ≤ most) (h3 : de.bytes * b ≤ (2 : Int) ^ 48) :
    iopC Γ D K e H n (.makeSlice t x y) = some ⟨.slice (some ⟨n, 0, none⟩) a.toNat b.toNat, [(n, some (.cells ((List.replicate b.toNat de.zero).flatten) false))], n + 1⟩ := by
  simp only [iopC, iop, doMake, hx, hy, hd, hk, hde, Option.bind_some, new]
  rw [if_pos ⟨h0, h1, h2, h3⟩]
end
/-- a part of an element -/
theorem rdVar_in {d : TD} {A B C c : List Value} {o j : Nat} {v : Value} (hc : c = A ++ (B ++ C)) (hj : j = A.length + o) (h : rdVar d B o = some v) : rdVar d c j = some v := by
  subst hc; subst hj
  unfold rdVar at h ⊢
  split at h
  · rename_i hk
    rw [if_pos hk]
    split at h
    · rename_i hle
      rw [if_pos (by simp only [List.length_append]; omega)]
      rw [← h]
      have e1 : (A ++ (B ++ C)).drop (A.length + o) = (B ++ C).drop o := by rw [← List.drop_drop, List.drop_left]
      rw [e1, List.drop_append_of_le_length (by omega), List.take_append_of_le_length (by simp only [List.length_drop]; omega)]
    · cases h
  · rename_i hk
    rw [if_neg hk]
    have ho : o < B.length := (List.getElem?_eq_some_iff.1 h).1
    rw [List.getElem?_append_right (by omega), Nat.add_sub_cancel_left, List.getElem?_append_left ho]
    exact h
theorem rd_celIn {α : Type} [Row α] {d : TD} {c : List Value} {off i o j : Nat} {l : List α} {v : Value} (hl : (c.drop off).take (l.length * Row.sz α) = cels l) (h : i < l.length) (hv : rdVar d (cel l[i]) o = some v) (hj : j = off + i * Row.sz α + o) : rdVar d c j = some v := by
  obtain ⟨A, C, hc, hA⟩ := cels_at hl h
  exact rdVar_in hc (by rw [hA]; exact hj) hv
theorem rd_cel {k : Nat} [NeZero k] {d : TD} {c : List Value} {off i j : Nat} {l : List (Vector UInt8 k)} (hl : (c.drop off).take (l.length * Row.sz (Vector UInt8 k)) = cels l) (h : i < l.length) (hk : d.k.isAgg = true) (hs : d.size = k) (hj : off + i * k = j) : rdVar d c j = some (enc l[i]) := by
  obtain ⟨A, C, hc, hA⟩ := cels_at hl h
  exact rd_part hk hc (by rw [hA]; exact hj) (by rw [hs]; exact Row.len (α := Vector UInt8 k) _)
end Go.Proofs.Ytdnnojblneccdaa
