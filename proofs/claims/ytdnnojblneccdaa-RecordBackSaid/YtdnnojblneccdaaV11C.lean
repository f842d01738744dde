import Derived.Test.YtdnnojblneccdaaV11B
import Derived.ProofKit
import Derived.Laws.Strings
import Derived.OpenShut
import Derived.RangeFuncFrom
import Derived.RangeFuncCalls
import Derived.Test.YtdnnojblneccdaaRows
import Derived.Test.YtdnnojblneccdaaProg
/-
  Structs: parts of rows read and written.
-/
namespace Go.Proofs.Ytdnnojblneccdaa
set_option linter.unusedSimpArgs false
set_option linter.unusedVariables false
open Go
open Enc (enc)
/-- a slice's header -/
structure Sl where
  a : Option Addr
  len : Nat
  cap : Nat
instance : Enc Sl := ⟨fun s => .slice s.a s.len s.cap, fun a b h => by
  cases a; cases b; simp only [Value.slice.injEq] at h; obtain ⟨rfl, rfl, rfl⟩ := h; rfl⟩
instance : Enc1 Sl := ⟨fun _ => rfl⟩
theorem rd_part {d : TD} {c A B C : List Value} {off : Nat} (hk : d.k.isAgg = true) (hc : c = A ++ (B ++ C)) (h1 : A.length = off) (h2 : B.length = d.size) : rdVar d c off = some (.agg B.toArray) := by
  subst hc
  unfold rdVar
  rw [if_pos hk, if_pos (by simp; omega), ← h1, ← h2]
  simp
theorem rd_one {d : TD} {c A C : List Value} {x : Value} {off : Nat} (hk : d.k.isAgg = false) (hc : c = A ++ ([x] ++ C)) (h1 : A.length = off) : rdVar d c off = some x := by
  subst hc
  unfold rdVar
  rw [if_neg (by rw [hk]; simp), ← h1]
  simp
theorem rd_all {d : TD} {c : List Value} (hk : d.k.isAgg = true) (h : c.length = d.size) : rdVar d c 0 = some (.agg c.toArray) := by
  have := rd_part (d := d) (c := c) (A := []) (B := c) (C := []) hk (by simp) rfl h
  exact this
theorem wr_part {c A B C vs : List Value} {off : Nat} (hc : c = A ++ (B ++ C)) (h1 : A.length = off) (h2 : B.length = vs.length) : wrCells c off vs = A ++ (vs ++ C) := by
  have gen : splice c off vs = A ++ (vs ++ C) := by
    subst hc
    unfold splice
    subst h1
    rw [← h2]
    simp
  unfold wrCells
  split
  · rename_i v
    subst hc
    have hb : ∃ b, B = [b] := List.length_eq_one_iff.1 (by simpa using h2)
    obtain ⟨b, rfl⟩ := hb
    subst h1
    simp
  · exact gen
theorem agg_inj {A B : List Value} (h : Value.agg A.toArray = .agg B.toArray) : A = B := by
  simp only [Value.agg.injEq] at h
  simpa using congrArg Array.toList h
theorem app_inj {A B C E : List Value} (h : A ++ B = C ++ E) (hl : A.length = C.length) : A = C ∧ B = E := List.append_inj h hl
theorem encs_vec_inj {α : Type} [Enc α] {k : Nat} {a b : Vector α k} (h : encs a.toList = encs b.toList) : a = b := Vector.toList_inj.1 (encs_inj h)
theorem encs_vec_length {α : Type} [Enc α] {k : Nat} (a : Vector α k) : (encs a.toList).length = k := by simp [encs]
theorem wr_all {c vs : List Value} (h : c.length = vs.length) : wrCells c 0 vs = vs := by
  have := wr_part (c := c) (A := []) (B := c) (C := []) (vs := vs) (off := 0) (by simp) rfl h
  simpa using this
theorem fill_cons {place : Nat → Option (Nat × Nat)} {cells cells' r vs : List Value} {i off size : Nat} {v : Value} {rest : List (Nat × Value)} (hp : place i = some (off, size)) (hv : cellsOf v = some vs) (h1 : vs.length = size) (h2 : off + size ≤ cells.length)
    (hw : wrCells cells off vs = cells') (k : fillIn place cells' rest = some r) : fillIn place cells ((i, v) :: rest) = some r := by
  simp only [fillIn, hp, hv]
  rw [if_pos ⟨h1, h2⟩, hw]; exact k
theorem fill_nil {place : Nat → Option (Nat × Nat)} {cells : List Value} : fillIn place cells [] = some cells := rfl
theorem pl_mk {D : Ty} {fs : List (Nat × Nat)} {i o ft : Nat} {df : TD} (hf : fs[i]? = some (o, ft)) (hd : D ft = some df) : (fs[i]?.bind fun f => (D f.2).map fun df => (f.1, df.size)) = some (o, df.size) := by
  simp only [hf, Option.bind_some, hd, Option.map_some]
theorem ox_allocZ {Γ : Fns} {D : Ty} {K : Kinds} {e : Operand → Value} {H : IHeap} {n : Nat} {t : TypeId} {d : TD} {cs : List Value} (hd : D t = some d) (hz : d.zero = cs) : iopC Γ D K e H n (.alloc t) = some ⟨.pointer (some ⟨n, 0, none⟩), [(n, some (.cells cs false))], n + 1⟩ := by
  subst hz; exact ox_alloc hd
theorem ox_buildZ {Γ : Fns} {D : Ty} {K : Kinds} {H : IHeap} {n N : Nat} {L : List (Nat × Value)} {t : TypeId} {parts : Array (Nat × Operand)} {fs : List (Nat × Nat)} {d : TD} {vs : List (Nat × Value)} {zs cs : List Value} (hd : D t = some d) (hz : d.zero = zs) (hk : d.k = .struct fs) (hp : opp N L parts.toList = some vs)
    (hf : fillIn (fun i => fs[i]?.bind fun f => (D f.2).map fun df => (f.1, df.size)) zs vs = some cs) : iopC Γ D K (ev (dense N L)) H n (.build t parts) = some ⟨.agg cs.toArray, [], n⟩ := by
  subst hz; exact ox_buildS hd hk hp hf
theorem ox_buildA0 {Γ : Fns} {D : Ty} {K : Kinds} {H : IHeap} {n N : Nat} {L : List (Nat × Value)} {t : TypeId} {len el : Nat} {d de : TD} {cs : List Value} (hd : D t = some d) (hk : d.k = .arr len el) (hde : D el = some de) (hz : d.zero = cs) :
    iopC Γ D K (ev (dense N L)) H n (.build t #[]) = some ⟨.agg cs.toArray, [], n⟩ := by
  subst hz; exact ox_buildA hd hk hde rfl rfl
end Go.Proofs.Ytdnnojblneccdaa
/-
  Arithmetic on Lean's own numbers.
-/
namespace Go.Proofs.Ytdnnojblneccdaa
set_option linter.unusedSimpArgs false
set_option linter.unusedVariables false
open Go
open Enc (enc)
section
variable {D : Ty} {K : Kinds} {t : TypeId}
theorem bo_u64_gtr (x y : UInt64) : binOp' D K .gtr t (enc x) (enc y) = some (.bool (decide (y < x))) := by
  refine congrArg (fun b => some (Value.bool b)) ?_
  rw [Bool.eq_iff_iff, decide_eq_true_iff, decide_eq_true_iff, UInt64.lt_iff_toNat_lt]
  omega
theorem bo_u64_geq (x y : UInt64) : binOp' D K .geq t (enc x) (enc y) = some (.bool (decide (y ≤ x))) := by
  refine congrArg (fun b => some (Value.bool b)) ?_
  rw [Bool.eq_iff_iff, decide_eq_true_iff, decide_eq_true_iff, UInt64.le_iff_toNat_le]
  omega
theorem bo_u8_eql (x y : UInt8) : binOp' D K .eql t (enc x) (enc y) = some (.bool (x == y)) := by
  refine congrArg (fun b => some (Value.bool b)) ?_
  rw [Bool.eq_iff_iff, beq_iff_eq, beq_iff_eq]
  exact ⟨fun e => UInt8.toNat_inj.1 (by omega), fun e => by rw [e]⟩
theorem bo_i64_eql (a b : Int) : binOp' D K .eql t (.int .i64 a) (.int .i64 b) = some (.bool (a == b)) := rfl
theorem bo_i64_neq (a b : Int) : binOp' D K .neq t (.int .i64 a) (.int .i64 b) = some (.bool (a != b)) := rfl
theorem bo_i64_lss (a b : Int) : binOp' D K .lss t (.int .i64 a) (.int .i64 b) = some (.bool (decide (a < b))) := rfl
theorem bo_i64_leq (a b : Int) : binOp' D K .leq t (.int .i64 a) (.int .i64 b) = some (.bool (decide (a ≤ b))) := rfl
theorem bo_i64_gtr (a b : Int) : binOp' D K .gtr t (.int .i64 a) (.int .i64 b) = some (.bool (decide (b < a))) := rfl
theorem bo_i64_geq (a b : Int) : binOp' D K .geq t (.int .i64 a) (.int .i64 b) = some (.bool (decide (b ≤ a))) := rfl
theorem bo_i64_add {a b : Int} (h : -9223372036854775808 ≤ a + b ∧ a + b ≤ 9223372036854775807) : binOp' D K .add t (.int .i64 a) (.int .i64 b) = some (.int .i64 (a + b)) := by
  show some (Value.int .i64 (IntKind.wrap .i64 (a + b))) = _
  rw [wrap_i64 h.1 h.2]
theorem bo_i64_sub {a b : Int} (h : -9223372036854775808 ≤ a - b ∧ a - b ≤ 9223372036854775807) : binOp' D K .sub t (.int .i64 a) (.int .i64 b) = some (.int .i64 (a - b)) := by
  show some (Value.int .i64 (IntKind.wrap .i64 (a - b))) = _
  rw [wrap_i64 h.1 h.2]
theorem bo_i64_mul {a b : Int} (h : -9223372036854775808 ≤ a * b ∧ a * b ≤ 9223372036854775807) : binOp' D K .mul t (.int .i64 a) (.int .i64 b) = some (.int .i64 (a * b)) := by
  show some (Value.int .i64 (IntKind.wrap .i64 (a * b))) = _
  rw [wrap_i64 h.1 h.2]
theorem uo_not (a : Bool) : unOp' .not (.bool a) = some (.bool !a) := rfl
theorem uo_neg_i64 {a : Int} (h : -9223372036854775807 ≤ a ∧ a ≤ 9223372036854775807) : unOp' .neg (.int .i64 a) = some (.int .i64 (-a)) := by
  show some (Value.int .i64 (IntKind.wrap .i64 (0 - a))) = _
  rw [wrap_i64 (by omega) (by omega)]; simp
end
end Go.Proofs.Ytdnnojblneccdaa
/-
  Functions of plain values; returns.
-/
namespace Go.Proofs.Ytdnnojblneccdaa
set_option linter.unusedSimpArgs false
set_option linter.unusedVariables false
open Go
open Enc (enc)
section
variable {α β γ δ : Type} [Enc α] [Enc β] [Enc γ] [Enc δ]
noncomputable def fn0 (f : Value) : FnI := fun args _ n => match args with
  | [] => some ⟨f, [], n⟩
  | _ => none
noncomputable def fn1 (f : α → Value) : FnI := fun args _ n => match args with
  | [x] => (dec x).bind fun a => some ⟨f a, [], n⟩
  | _ => none
noncomputable def fn2 (f : α → β → Value) : FnI := fun args _ n => match args with
  | [x, y] => (dec x).bind fun a => (dec y).bind fun b => some ⟨f a b, [], n⟩
  | _ => none
theorem fn0_inv {f : Value} {args : List Value} {H : IHeap} {n : Nat} {e : Eff} (h : fn0 f args H n = some e) : args = [] ∧ e = ⟨f, [], n⟩ := by
  unfold fn0 at h; split at h
  · cases h; exact ⟨rfl, rfl⟩
  · cases h
theorem fn1_inv {f : α → Value} {args : List Value} {H : IHeap} {n : Nat} {e : Eff} (h : fn1 f args H n = some e) : ∃ a, args = [enc a] ∧ e = ⟨f a, [], n⟩ := by
  unfold fn1 at h; split at h
  · simp only [Option.bind_eq_some_iff] at h
    obtain ⟨a, ha, h⟩ := h
    cases h; exact ⟨a, by rw [dec_some ha], rfl⟩
  · cases h
theorem fn2_inv {f : α → β → Value} {args : List Value} {H : IHeap} {n : Nat} {e : Eff} (h : fn2 f args H n = some e) : ∃ a b, args = [enc a, enc b] ∧ e = ⟨f a b, [], n⟩ := by
  unfold fn2 at h; split at h
  · simp only [Option.bind_eq_some_iff] at h
    obtain ⟨a, ha, b, hb, h⟩ := h
    cases h; exact ⟨a, b, by rw [dec_some ha, dec_some hb], rfl⟩
  · cases h
theorem fn0_ev (f : Value) (H : IHeap) (n : Nat) : fn0 f [] H n = some ⟨f, [], n⟩ := rfl
theorem fn1_ev (f : α → Value) (a : α) (H : IHeap) (n : Nat) : fn1 f [enc a] H n = some ⟨f a, [], n⟩ := by simp only [fn1, dec_enc, Option.bind_some]
theorem fn2_ev (f : α → β → Value) (a : α) (b : β) (H : IHeap) (n : Nat) : fn2 f [enc a, enc b] H n = some ⟨f a b, [], n⟩ := by simp only [fn2, dec_enc, Option.bind_some]
end
theorem ires_tmp {D : Ty} {N u : Nat} {L : List (Nat × Value)} {v : Value} {H : IHeap} (h : opd N L (.tmp u) = some v) : ires D (dense N L) H [.tmp u] = some v := by
  have : ev (dense N L) (.tmp u) = v := pl h
  simp only [ev] at this
  simp only [ires, ires1, this]
/-- a value is returned, nothing of the caller's was written -/
theorem RetP.one {D : Ty} {rs : List ResultVar} {N u n n' : Nat} {L : List (Nat × Value)} {v : Value} {H H' : IHeap} {ex : Exit} (hx : ex = .normal ∨ ex = .ret) (hrs : rs = [.tmp u]) (h : opd N L (.tmp u) = some v) (hv : okN (fun id => id < n) v) :
    RetP D rs n H ⟨v, [], n⟩ ex (dense N L) H' n' := by
  subst hrs
  exact RetP.pure hx (ires_tmp h) hv (Nat.le_refl _)
theorem RetP.ret {D : Ty} {rs : List ResultVar} {N u n n' : Nat} {L : List (Nat × Value)} {v v' : Value} {H H' : IHeap} {ex : Exit} (hx : ex = .normal ∨ ex = .ret) (hrs : rs = [.tmp u]) (h : opd N L (.tmp u) = some v') (hv : okN (fun id => id < n) v) (hw : v' = v) :
    RetP D rs n H ⟨v, [], n⟩ ex (dense N L) H' n' := by
  subst hw; exact RetP.one hx hrs h hv
end Go.Proofs.Ytdnnojblneccdaa
/-
  Regions whose order is open, step by step.
-/
namespace Go.Proofs.Ytdnnojblneccdaa
set_option linter.unusedSimpArgs false
set_option linter.unusedVariables false
open Go
open Enc (enc)
/-- the updates that are seen -/
def upsW (pre : List Nat) : List (Nat × Ups) → Ups
  | [] => []
  | w :: ws => cond (pre.any (Nat.beq w.1)) (w.2 ++ upsW pre ws) (upsW pre ws)
def allW (Wr : List (Nat × Ups)) : Ups := Wr.flatMap (·.2)
theorem upsW_append (pre : List Nat) (a b : List (Nat × Ups)) : upsW pre (a ++ b) = upsW pre a ++ upsW pre b := by
  induction a with
  | nil => rfl
  | cons w a ih =>
    simp only [List.cons_append, upsW, ih]
    cases pre.any (Nat.beq w.1)
    · rfl
    · simp
theorem upsOf_append (pre : List Nat) : ∀ (a b : List Left) (j : Nat), upsOf pre (a ++ b) j = upsOf pre a j ++ upsOf pre b (j + a.length)
  | [], b, j => by simp [upsOf]
  | y :: a, b, j => by
    simp only [List.cons_append, upsOf, upsOf_append pre a b (j + 1), List.length_cons]
    have : j + 1 + a.length = j + (a.length + 1) := by omega
    rw [this]
    split
    · rw [List.append_assoc]
    · rfl
theorem any_beq (pre : List Nat) (j : Nat) : pre.any (Nat.beq j) = true ↔ j ∈ pre := by
  rw [List.any_eq_true]
  constructor
  · rintro ⟨x, h1, h2⟩
    have := Nat.eq_of_beq_eq_true h2
    subst this; exact h1
  · intro h; exact ⟨j, h, Nat.beq_refl j⟩
/-- what is left behind so far, in short -/
structure Rep (n0 : Nat) (acc : List Left) (k : Nat) (Wr : List (Nat × Ups)) (Vs : List (Nat × Vis)) (n : Nat) : Prop where
  len : acc.length = k
  ups : ∀ pre, upsOf pre acc 0 = upsW pre Wr
  all : allUps acc = allW Wr
  wr : ∀ j y, acc[j]? = some y → y.up = [] ∨ (j, y.up) ∈ Wr
  vis : ∀ j y, acc[j]? = some y → y.vis = .ids [] ∨ (j, y.vis) ∈ Vs
  fresh : ∀ y ∈ acc, ∀ id, n ≤ id → y.vis.clear n0 id
  le : n0 ≤ n
theorem Rep.nil (n : Nat) : Rep n [] 0 [] [] n := ⟨rfl, fun _ => rfl, rfl, fun j y h => by simp at h, fun j y h => by simp at h, fun y h => by simp at h, Nat.le_refl _⟩
theorem Rep.snoc {n0 k n n' : Nat} {acc : List Left} {Wr : List (Nat × Ups)} {Vs : List (Nat × Vis)} (R : Rep n0 acc k Wr Vs n) (x : Left) (Wr' : List (Nat × Ups)) (Vs' : List (Nat × Vis)) (hn : n ≤ n')
    (hw : x.up = [] ∧ Wr' = Wr ∨ Wr' = Wr ++ [(k, x.up)]) (hv : x.vis = .ids [] ∧ Vs' = Vs ∨ Vs' = (k, x.vis) :: Vs ∨ x.vis = .ids [] ∧ ∃ u, Vs' = u :: Vs) (hf : ∀ id, n' ≤ id → x.vis.clear n0 id) : Rep n0 (acc ++ [x]) (k + 1) Wr' Vs' n' := by
  refine ⟨by simp [R.len], fun pre => ?_, ?_, fun j y h => ?_, fun j y h => ?_, fun y h id hid => ?_, Nat.le_trans R.le hn⟩
  · rw [upsOf_append, R.ups pre]
    simp only [upsOf, Nat.zero_add, R.len, List.append_nil]
    rcases hw with ⟨h1, rfl⟩ | rfl
    · rw [h1]; simp
    · rw [upsW_append]
      simp only [upsW, List.append_nil]
      cases hb : pre.any (Nat.beq k) with
      | true => rw [if_pos ((any_beq pre k).1 hb)]; rfl
      | false => rw [if_neg (fun h => by rw [(any_beq pre k).2 h] at hb; cases hb)]; rfl
  · simp only [allUps, List.flatMap_append, List.flatMap_cons, List.flatMap_nil, List.append_nil]
    have := R.all
    simp only [allUps] at this
    rw [this]
    rcases hw with ⟨h1, rfl⟩ | rfl
    · rw [h1]; simp
    · simp [allW]
  · by_cases hj : j < acc.length
    · rw [List.getElem?_append_left hj] at h
      rcases R.wr j y h with h1 | h1
      · exact .inl h1
      · rcases hw with ⟨_, rfl⟩ | rfl
        · exact .inr h1
        · exact .inr (List.mem_append_left _ h1)
    · rw [List.getElem?_append_right (by omega)] at h
      have hjk : j - acc.length = 0 := by
        have := (List.getElem?_eq_some_iff.1 h).1
        simp at this; omega
      rw [hjk] at h
      cases h
      have : j = k := by have := R.len; omega
      subst this
      rcases hw with ⟨h1, rfl⟩ | rfl
      · exact .inl h1
      · exact .inr (by simp)
  · by_cases hj : j < acc.length
    · rw [List.getElem?_append_left hj] at h
      rcases R.vis j y h with h1 | h1
      · exact .inl h1
      · rcases hv with ⟨_, rfl⟩ | rfl | ⟨_, u, rfl⟩
        · exact .inr h1
        · exact .inr (List.mem_cons_of_mem _ h1)
        · exact .inr (List.mem_cons_of_mem _ h1)
    · rw [List.getElem?_append_right (by omega)] at h
      have hjk : j - acc.length = 0 := by
        have := (List.getElem?_eq_some_iff.1 h).1
        simp at this; omega
      rw [hjk] at h
      cases h
      have : j = k := by have := R.len; omega
      subst this
      rcases hv with ⟨h1, _⟩ | rfl | ⟨h1, _⟩
      · exact .inl h1
      · exact .inr List.mem_cons_self
      · exact .inl h1
  · rcases List.mem_append.1 h with h1 | h1
    · exact R.fresh y h1 id (Nat.le_trans hn hid)
    · simp only [List.mem_singleton] at h1; subst h1; exact hf id hid
theorem apart2_mk {n0 : Nat} {pre : List Nat} {x : Left} : ∀ {acc : List Left} {k : Nat}, (∀ j y, acc[j]? = some y → (k + j ∈ pre ∨ ((∀ p ∈ x.up, y.vis.clear n0 p.1) ∧ ∀ p ∈ y.up, x.vis.clear n0 p.1))) → apart2 n0 pre x acc k
  | [], _, _ => trivial
  | y :: acc, k, h => ⟨by simpa using h 0 y rfl, apart2_mk fun j z hz => by
      have := h (j + 1) z (by simpa using hz)
      have e : k + (j + 1) = k + 1 + j := by omega
      rw [e] at this; exact this⟩
/-- a thing that writes nothing, against those that wrote -/
def quietW (n0 : Nat) (pre : List Nat) (vis : Vis) : List (Nat × Ups) → Prop
  | [] => True
  | w :: ws => (cond (pre.any (Nat.beq w.1)) True (∀ p ∈ w.2, vis.clear n0 p.1)) ∧ quietW n0 pre vis ws
theorem quietW_spec {n0 : Nat} {pre : List Nat} {vis : Vis} : ∀ {Wr : List (Nat × Ups)}, quietW n0 pre vis Wr → ∀ w ∈ Wr, w.1 ∈ pre ∨ ∀ p ∈ w.2, vis.clear n0 p.1
  | w :: ws, h, u, hu => by
    rcases List.mem_cons.1 hu with rfl | hu
    · have h1 := h.1
      cases hb : pre.any (Nat.beq u.1) with
      | true => exact .inl ((any_beq _ _).1 hb)
      | false => rw [hb] at h1; exact .inr h1
    · exact quietW_spec h.2 u hu
/-- a thing that writes id, against those that looked -/
def clearV (n0 : Nat) (pre : List Nat) (id : Nat) : List (Nat × Vis) → Prop
  | [] => True
  | w :: ws => (cond (pre.any (Nat.beq w.1)) True (w.2.clear n0 id)) ∧ clearV n0 pre id ws
theorem clearV_spec {n0 : Nat} {pre : List Nat} {id : Nat} : ∀ {Vs : List (Nat × Vis)}, clearV n0 pre id Vs → ∀ w ∈ Vs, w.1 ∈ pre ∨ w.2.clear n0 id
  | w :: ws, h, u, hu => by
    rcases List.mem_cons.1 hu with rfl | hu
    · have h1 := h.1
      cases hb : pre.any (Nat.beq u.1) with
      | true => exact .inl ((any_beq _ _).1 hb)
      | false => rw [hb] at h1; exact .inr h1
    · exact clearV_spec h.2 u hu
section
variable {P : Program} {Γ : Fns} {D : Ty} {K : Kinds} {W : Nat → Prop} {R : Option Nat} {ops : Array Oper} {Q : Post3} {o : Oper} {os : List Oper} {pre : List Nat} {pres : List (List Nat)} {N : Nat} {L : List (Nat × Value)} {H : IHeap} {M : Ups} {n n0 k : Nat}
  {Wr : List (Nat × Ups)} {Vs : List (Nat × Vis)}
/-- what is to be shown of the rest of such a region -/
def vcE (Γ : Fns) (D : Ty) (K : Kinds) (W : Nat → Prop) (ops : Array Oper) (H0 : IHeap) (n0 : Nat) (Q : Post3) (os : List Oper) (pres : List (List Nat)) (k : Nat) (Wr : List (Nat × Ups)) (Vs : List (Nat × Vis)) (t : List Value) (n : Nat) : Prop :=
  ∀ acc, Rep n0 acc k Wr Vs n → vcD Γ D K W ops H0 n0 Q os pres acc t n
theorem vcE_start {os : List Oper} {H0 : IHeap} {t : List Value} (h : vcE Γ D K W ops H0 n Q os pres 0 [] [] t n) : vcD Γ D K W ops H0 n Q os pres [] t n := h [] (Rep.nil n)
theorem vcE_nil (h : Q (dense N L) (hp H (putH (allW Wr) M)) n) : vcE Γ D K W ops (hp H M) n0 Q [] [] k Wr Vs (dense N L) n := by
  intro acc R
  unfold vcD
  rw [R.all, upds_hp]; exact h
/-- nothing written; what is looked at, is written by none that may come between -/
theorem vcE_val {d : Tmp} {v : Value} {ids : List Nat} {u M' : Ups} (hd : o.dst = some d) (hg : o.guard = none) (hu : upsW pre Wr = u) (hM : putH u M = M') (h : iopC Γ D K (ev (dense N L)) (hp H M') n o.op = some ⟨v, [], n⟩) (hc : isCall o.op = false)
    (hs : seesIds (ev (dense N L)) o.op = ids) (hl : ∀ id ∈ ids, id < n) (hq : quietW n0 pre (.ids ids) Wr)
    (hk : vcE Γ D K W ops (hp H M) n0 Q os pres (k + 1) Wr ((k, .ids ids) :: Vs) (dense N ((d, v) :: L)) n) : vcE Γ D K W ops (hp H M) n0 Q (o :: os) (pre :: pres) k Wr Vs (dense N L) n := by
  intro acc R
  subst hu
  subst hM
  unfold vcD
  rw [R.ups pre, upds_hp, h]
  simp only [wantedI, hg, wpo]
  have hv : visOf (ev (dense N L)) o.op (List.map (fun x => x.fst) (upsW pre Wr)) = .ids ids := by simp only [visOf, hc]; rw [hs]; rfl
  refine ⟨fun _ => ⟨fun p hm => (by cases hm), Nat.le_refl _, ?_, ?_⟩, fun hb => by cases hb⟩
  · refine apart2_mk fun j y hy => ?_
    rw [hv]
    rcases R.wr j y hy with h1 | h1
    · right; exact ⟨fun p hm => (by cases hm), by rw [h1]; exact fun p hm => (by cases hm)⟩
    · rcases quietW_spec hq _ h1 with h2 | h2
      · left; simpa using h2
      · right; exact ⟨fun p hm => (by cases hm), h2⟩
  · have hh := hk (acc ++ [⟨[], .ids ids⟩]) (R.snoc _ _ _ (Nat.le_refl _) (.inl ⟨rfl, rfl⟩) (.inr (.inl rfl)) (fun id hid => by
      show id ∉ ids
      intro hm; have := hl id hm; omega))
    rw [hv]
    rw [tput_dense, hd]
    exact hh
/-- nothing written or looked at -/
theorem vcE_bl {d : Tmp} {v : Value} (hd : o.dst = some d) (hg : o.guard = none) (h : ∀ H', iopC Γ D K (ev (dense N L)) H' n o.op = some ⟨v, [], n⟩) (hc : isCall o.op = false) (hs : seesIds (ev (dense N L)) o.op = [])
    (hk : vcE Γ D K W ops (hp H M) n0 Q os pres (k + 1) Wr Vs (dense N ((d, v) :: L)) n) : vcE Γ D K W ops (hp H M) n0 Q (o :: os) (pre :: pres) k Wr Vs (dense N L) n := by
  intro acc R
  unfold vcD
  rw [h]
  simp only [wantedI, hg, wpo]
  have hv : ∀ l, visOf (ev (dense N L)) o.op l = .ids [] := by intro l; simp only [visOf, hc]; rw [hs]; rfl
  refine ⟨fun _ => ⟨fun p hm => (by cases hm), Nat.le_refl _, ?_, ?_⟩, fun hb => by cases hb⟩
  · refine apart2_mk fun j y hy => .inr ⟨fun p hm => (by cases hm), fun p _ => ?_⟩
    rw [hv]; simp [Vis.clear]
  · have hh := hk (acc ++ [⟨[], .ids []⟩]) (R.snoc _ _ _ (Nat.le_refl _) (.inl ⟨rfl, rfl⟩) (.inl ⟨rfl, rfl⟩) (fun id hid => by simp [Vis.clear]))
    rw [hv]
    rw [tput_dense, hd]
    exact hh
/-- a call that writes nothing -/
theorem vcE_call {d : Tmp} {v : Value} {u M' : Ups} (hd : o.dst = some d) (hg : o.guard = none) (hu : upsW pre Wr = u) (hM : putH u M = M') (h : iopC Γ D K (ev (dense N L)) (hp H M') n o.op = some ⟨v, [], n⟩) (hc : isCall o.op = true)
    (hl : ∀ p ∈ u, p.1 < n) (hq : quietW n0 pre (.all (u.map (·.1))) Wr)
    (hk : vcE Γ D K W ops (hp H M) n0 Q os pres (k + 1) Wr ((k, .all (u.map (·.1))) :: Vs) (dense N ((d, v) :: L)) n) : vcE Γ D K W ops (hp H M) n0 Q (o :: os) (pre :: pres) k Wr Vs (dense N L) n := by
  intro acc R
  subst hu
  subst hM
  unfold vcD
  rw [R.ups pre, upds_hp, h]
  simp only [wantedI, hg, wpo]
  have hv : visOf (ev (dense N L)) o.op (List.map (fun x => x.fst) (upsW pre Wr)) = .all ((upsW pre Wr).map (·.1)) := by simp only [visOf, hc, if_true]
  refine ⟨fun _ => ⟨fun p hm => (by cases hm), Nat.le_refl _, ?_, ?_⟩, fun hb => by cases hb⟩
  · refine apart2_mk fun j y hy => ?_
    rw [hv]
    rcases R.wr j y hy with h1 | h1
    · right; exact ⟨fun p hm => (by cases hm), by rw [h1]; exact fun p hm => (by cases hm)⟩
    · rcases quietW_spec hq _ h1 with h2 | h2
      · left; simpa using h2
      · right; exact ⟨fun p hm => (by cases hm), h2⟩
  · have hh := hk (acc ++ [⟨[], .all ((upsW pre Wr).map (·.1))⟩]) (R.snoc _ _ _ (Nat.le_refl _) (.inl ⟨rfl, rfl⟩) (.inr (.inl rfl)) (fun id hid => by
      have := R.le
      refine ⟨by omega, ?_⟩
      intro hm
      obtain ⟨p, h1, h2⟩ := List.mem_map.1 hm
      have := hl p h1; omega))
    rw [hv]
    rw [tput_dense, hd]
    exact hh
/-- a new row -/
theorem vcE_new {d : Tmp} {v : Value} {x : Option IObj} (hd : o.dst = some d) (hg : o.guard = none) (h : ∀ H', iopC Γ D K (ev (dense N L)) H' n o.op = some ⟨v, [(n, x)], n + 1⟩) (hc : isCall o.op = false) (hs : seesIds (ev (dense N L)) o.op = []) (hW : W n)
    (hk : vcE Γ D K W ops (hp H M) n0 Q os pres (k + 1) (Wr ++ [(k, [(n, x)])]) Vs (dense N ((d, v) :: L)) (n + 1)) : vcE Γ D K W ops (hp H M) n0 Q (o :: os) (pre :: pres) k Wr Vs (dense N L) n := by
  intro acc R
  unfold vcD
  rw [h]
  simp only [wantedI, hg, wpo]
  have hv : ∀ l, visOf (ev (dense N L)) o.op l = .ids [] := by intro l; simp only [visOf, hc]; rw [hs]; rfl
  refine ⟨fun _ => ⟨fun p hm => ?_, by omega, ?_, ?_⟩, fun hb => by cases hb⟩
  · simp only [List.mem_singleton] at hm; subst hm; exact ⟨hW, .inl (Nat.le_refl _), by simp⟩
  · refine apart2_mk fun j y hy => .inr ⟨fun p hm => ?_, fun p _ => ?_⟩
    · simp only [List.mem_singleton] at hm; subst hm
      exact R.fresh y (List.mem_of_getElem? hy) n (Nat.le_refl _)
    · rw [hv]; simp [Vis.clear]
  · have hh := hk (acc ++ [⟨[(n, x)], .ids []⟩]) (R.snoc _ _ _ (by omega) (.inr rfl) (.inl ⟨rfl, rfl⟩) (fun id hid => by simp [Vis.clear]))
    rw [hv]
    rw [tput_dense, hd]
    exact hh
/-- a store -/
theorem vcE_sto {v : Value} {id : Nat} {x : Option IObj} {u M' : Ups} (hd : o.dst = none) (hg : o.guard = none) (hu : upsW pre Wr = u) (hM : putH u M = M') (h : iopC Γ D K (ev (dense N L)) (hp H M') n o.op = some ⟨v, [(id, x)], n⟩) (hc : isCall o.op = false)
    (hs : seesIds (ev (dense N L)) o.op = [id]) (hH : (hp H M' id).isSome = true) (hl : id < n) (hW : W id) (hq : quietW n0 pre (.ids [id]) Wr) (hv' : clearV n0 pre id Vs)
    (hk : vcE Γ D K W ops (hp H M) n0 Q os pres (k + 1) (Wr ++ [(k, [(id, x)])]) ((k, .ids [id]) :: Vs) (dense N L) n) : vcE Γ D K W ops (hp H M) n0 Q (o :: os) (pre :: pres) k Wr Vs (dense N L) n := by
  intro acc R
  subst hu
  subst hM
  unfold vcD
  rw [R.ups pre, upds_hp, h]
  simp only [wantedI, hg, wpo]
  have hv : visOf (ev (dense N L)) o.op (List.map (fun x => x.fst) (upsW pre Wr)) = .ids [id] := by simp only [visOf, hc]; rw [hs]; rfl
  refine ⟨fun _ => ⟨fun p hm => ?_, Nat.le_refl _, ?_, ?_⟩, fun hb => by cases hb⟩
  · simp only [List.mem_singleton] at hm; subst hm
    refine ⟨hW, .inr ?_, hl⟩
    simp only [seenH, hc, Bool.false_eq_true, if_false, hs, restr, List.mem_singleton, if_true]
    exact hH
  · refine apart2_mk fun j y hy => ?_
    rw [hv]
    have a1 : j ∈ pre ∨ ∀ p ∈ y.up, Vis.clear n0 (.ids [id]) p.1 := by
      rcases R.wr j y hy with h1 | h1
      · right; rw [h1]; exact fun p hm => (by cases hm)
      · exact quietW_spec hq _ h1
    have a2 : j ∈ pre ∨ y.vis.clear n0 id := by
      rcases R.vis j y hy with h1 | h1
      · right; rw [h1]; simp [Vis.clear]
      · exact clearV_spec hv' _ h1
    simp only [Nat.zero_add]
    rcases a1 with a1 | a1
    · exact .inl a1
    · rcases a2 with a2 | a2
      · exact .inl a2
      · exact .inr ⟨fun p hm => (by simp only [List.mem_singleton] at hm; subst hm; exact a2), a1⟩
  · have hh := hk (acc ++ [⟨[(id, x)], .ids [id]⟩]) (R.snoc _ _ _ (Nat.le_refl _) (.inr rfl) (.inr (.inl rfl)) (fun id' hid => by
      show id' ∉ [id]
      simp only [List.mem_singleton]; omega))
    rw [hv]
    rw [tput_dense, hd]
    exact hh
end
/-! what is looked at -/
section
variable {e : Operand → Value}
theorem si_load {t : TypeId} {a : Operand} {id off : Nat} {s : Option Nat} (ha : e a = .pointer (some ⟨id, off, s⟩)) : seesIds e (.load t a) = [id] := by simp only [seesIds, ha, blk]
theorem si_store {t : TypeId} {a x : Operand} {id off : Nat} {s : Option Nat} (ha : e a = .pointer (some ⟨id, off, s⟩)) : seesIds e (.store t a x) = [id] := by simp only [seesIds, ha, blk]
theorem lt1 {id n : Nat} (h : id < n) : ∀ i ∈ [id], i < n := by simpa using h
theorem ltu0 {n : Nat} : ∀ p ∈ ([] : Ups), p.1 < n := fun i hi => by cases hi
theorem ltuc {n id : Nat} {x : Option IObj} {u : Ups} (h : id < n) (hs : ∀ p ∈ u, p.1 < n) : ∀ p ∈ ((id, x) :: u : Ups), p.1 < n := fun p hm => by
  rcases List.mem_cons.1 hm with rfl | hm
  · exact h
  · exact hs p hm
/-- another row than the one written -/
theorem qn1 {id m n0 : Nat} {x : Option IObj} (h : m ≠ id) : ∀ p ∈ ([(m, x)] : Ups), Vis.clear n0 (.ids [id]) p.1 := fun p hm => by
  simp only [List.mem_singleton] at hm; subst hm; simpa [Vis.clear] using h
theorem cn1 {id m n0 : Nat} (h : id ≠ m) : Vis.clear n0 (.ids [m]) id := by simpa [Vis.clear] using h
end
end Go.Proofs.Ytdnnojblneccdaa
/-
  From a function's contract to its row.
-/
namespace Go.Proofs.Ytdnnojblneccdaa
set_option linter.unusedSimpArgs false
set_option linter.unusedVariables false
open Go
open Enc (enc)
/-- the call, as the row wants it -/
theorem calls_of_ref {P : Program} {k : FuncId} {fn : Func} {F : FnI} (hf : P.funcs[k]? = some fn) (hb : fn.body.isSome = true) (hname : (fn.name == "runtime.NumGoroutine") = false) (hR : Ref P k F) {args : List Value} {H : IHeap} {n : Nat} {v : Value} {n' : Nat}
    (hF : F args H n = some ⟨v, [], n'⟩) {ρ : Ren} {W : World} {args' : Array Value} (hbel : Below n ρ) (hh : HR ρ H W) (ha : ArgsR ρ args args') :
    Calls P k args' W fun e W' => ∃ v' ρ', e = .returned v' ∧ VR ρ' v v' ∧ Go.RowKit.Below W.heap.size W W' := by
  have h := hR args H n _ hF ρ W args' hbel hh ha
  have hcf : (callFunc k args').run P W = .ok (.enter k args') W := by
    obtain ⟨c, hc⟩ := Option.isSome_iff_exists.1 hb
    have hn : ¬ fn.name = "runtime.NumGoroutine" := by simpa using hname
    simp [callFunc, hf, hn, hc, Sem.run]
  unfold CallW at h
  rw [hcf] at h
  refine Calls.mono h fun e W' he => ?_
  cases e with
  | returned v' =>
    obtain ⟨ρ', hp⟩ := he
    refine ⟨v', ρ', rfl, hp.val, ⟨hp.step.os, hp.step.tape, hp.step.output, hp.step.size, fun r hr => hp.step.keep r hr fun id κ _ hid => by simp [Eff.ids] at hid⟩⟩
  | panicked c => exact he.elim
  | outgrown => exact he.elim
section
open Go.ChangeShapes Go.WideShapes
variable {T : Type} {en : TypeId × Value → T} {P : Program}
theorem trodAll_stays {W W' : World} {sp : Nat → Bool} (hl : laidOutB P = true) : ∀ {ts : List TypeId} {vs : List Value} {ds : List (DataW T)} {p : List MemPlace}, (∀ t ∈ ts, P.readableRec t = true ∧ t < P.types.size) →
    DataW.TrodAll en P W 0 (fun _ => true) true ts vs ds p → (∀ x ∈ p, W.sameAt W' x) → (∀ x ∈ p, sp x.block = true) → DataW.TrodAll en P W' 0 sp true ts vs ds p
  | [], vs, ds, p, _, h, _, _ => by
    obtain ⟨rfl, rfl, rfl⟩ := trodAll_nil h
    rfl
  | t :: ts, vs, ds, p, ht, h, h1, h2 => by
    obtain ⟨v, vs', d, ds', a, b, rfl, rfl, rfl, g1, g2⟩ := trodAll_cons h
    obtain ⟨r1, r2⟩ := ht t List.mem_cons_self
    exact ⟨a, b, WideElems.Trod_stays hl r1 r2 g1 (fun x hx => h1 x (List.mem_append_left _ hx)) (fun x hx => h2 x (List.mem_append_left _ hx)),
      trodAll_stays hl (fun u hu => ht u (List.mem_cons_of_mem _ hu)) g2 (fun x hx => h1 x (List.mem_append_right _ hx)) (fun x hx => h2 x (List.mem_append_right _ hx)), rfl⟩
/-- the post, where what was there is there as it was -/
theorem post_true {f : Func} {s : ChangeSpec} {apart fresh handsOn again : Bool} {W W' : World} {args : Array Value} {v : Value} {ds gs : List (DataW T)} {before pa : List MemPlace}
    (hW : DataW.Whole en P f.params.toList s.vars apart W args.toList ds gs before)
    (hres : ∀ (b : Nat) (sp : Nat → Bool) (hd : Bool), DataW.TrodAll en P W' b sp hd f.resultTypes.toList (v.resultList f.resultTypes.size) (s.fn T (ds ++ gs)).results [])
    (hargs : ∀ sp : Nat → Bool, (∀ p ∈ before, sp p.block = true) → DataW.TrodAll en P W' 0 sp true f.params.toList args.toList (s.fn T (ds ++ gs)).args pa)
    (hvars : ∀ sp : Nat → Bool, (∀ p ∈ before, sp p.block = true) → DataW.TrodVars en P W' sp s.vars (s.fn T (ds ++ gs)).vars [])
    (hps : before = pa) (hb : Go.RowKit.Below W.heap.size W W')
    (hok : ∀ (j : Nat) (t : TypeId) (r : Value), f.resultTypes[j]? = some t → (v.resultList f.resultTypes.size)[j]? = some r → Value.okWide P W' .any 0 t r) :
    s.post en P f apart fresh handsOn again W args v W' := by
  have hlt : ∀ p ∈ before, p.block < W.heap.size := fun p hp => hW.lt p hp
  have hold : ∀ p ∈ before, (fun b => decide (b < W.heap.size)) p.block = true := fun p hp => by simpa using hlt p hp
  refine ⟨ds, gs, before, [], pa, [], hW, hres _ _ _, hargs _ hold, hvars _ hold, World.keptBut_mono (fun p hp => ⟨hp, ?_⟩) (hb.frame (· ∈ before)), fun _ => ?_⟩
  · rw [hps] at hp
    exact Or.inr (by simpa using hp)
  · obtain ⟨_, _, _, _, _, hz, hn⟩ := id hW
    refine ⟨hok, _, _, ([] ++ pa) ++ [], ⟨[] ++ pa, [], trodAll_append (hargs _ (fun _ _ => rfl)) (hres _ _ _), hvars _ (fun _ _ => rfl), rfl, ?_, ?_⟩, ?_⟩
    · intro b off hp
      have hp' : MemPlace.cell b off ∈ before := by rw [hps]; simpa using hp
      rw [hb.frozen (p := ⟨b, off, none⟩) (hlt _ hp')]
      exact hz b off hp'
    · intro ha
      have := hn ha
      rw [hps] at this
      simpa using this
    · intro p hp _
      rw [hps]
      simpa using hp
/-- a law that returns true: what is to be shown of it, is that its call comes to that -/
theorem law_true {C : Checked} {os : Os} {k : FuncId} {fn : Func} {s : ChangeSpec} {apart fresh handsOn again : Bool} {tb : TypeId}
    (own : ownKnob C.prog.godebug = none) (started : os.Started) (noInit : C.prog.inits.idxOf? k = none) (hfn : C.prog.funcs[k]? = some fn)
    (witness : ∃ (w : World) (tape : Tape) (i : Input), w.os = os ∧ (w.forCall tape i).Shaped C.prog ∧ i.vars = [] ∧ Input.okWide C.prog (w.forCall tape i) .any w.heap.size k i ∧
      s.pre6 en C.prog fn [] apart (w.forCall tape i).memory i.args ∧ ({} : Assume).holds C.prog (lone (Frame.enter C.prog k i.args .normal) [] (w.forCall tape i)))
    (hl : laidOutB C.prog = true) (hts : fn.params.toList.all (fun t => C.prog.readableRec t && decide (t < C.prog.types.size)) = true) (hrt : fn.resultTypes = #[tb]) (hb : C.prog.underlying tb = some .bool) (hvars : s.vars = [])
    (hs : ∀ (ds : List (DataW T)), ds.length = fn.params.size → (s.fn T ds).results = [.lit (.bool true)] ∧ (s.fn T ds).args = ds ∧ (s.fn T ds).vars = [])
    (main : ∀ (W : World) (base : Nat) (args : Array Value), args.size = fn.params.size → (∀ (j : Nat) t v, fn.params[j]? = some t → args[j]? = some v → Value.okWide C.prog W .any base t v) → ∀ (ds : List (DataW T)) (p : List MemPlace), DataW.TrodAll en C.prog W 0 (fun _ => true) true fn.params.toList args.toList ds p →
      Calls C.prog k args W fun e W' => ∃ v' ρ', e = .returned v' ∧ VR ρ' (.bool true) v' ∧ Go.RowKit.Below W.heap.size W W') :
    ReturnsInHanded {} C os k .any (s.pre6 en C.prog fn [] apart) (s.post en C.prog fn apart fresh handsOn again) := by
  refine returnsInHanded_of_change own started noInit hfn witness ?_
  intro W base args ds gs before hval hW hcnd _
  have hW' := hW
  obtain ⟨p, q, hA, hV, hpq, hfz, hnd⟩ := hW
  rw [hvars] at hV
  obtain ⟨rfl, rfl⟩ := trodVars_none hV
  have hlen : ∀ {ts : List TypeId} {vs : List Value} {ds : List (DataW T)} {p : List MemPlace}, DataW.TrodAll en C.prog W 0 (fun _ => true) true ts vs ds p → vs.length = ts.length ∧ ds.length = ts.length := by
    intro ts
    induction ts with
    | nil => intro vs ds p h; obtain ⟨rfl, rfl, rfl⟩ := trodAll_nil h; exact ⟨rfl, rfl⟩
    | cons t ts ih =>
      intro vs ds p h
      obtain ⟨v, vs', d, ds', a, b, rfl, rfl, rfl, g1, g2⟩ := trodAll_cons h
      obtain ⟨i1, i2⟩ := ih g2
      exact ⟨by simp [i1], by simp [i2]⟩
  obtain ⟨l1, l2⟩ := hlen hA
  refine (main W base args (by simpa using l1) hval ds p hA).mono fun e W' he => ?_
  obtain ⟨v', ρ', rfl, hv, hbel⟩ := he
  have := bool_inv hv
  subst this
  obtain ⟨s1, s2, s3⟩ := hs ds (by simpa using l2)
  simp only [List.append_nil] at hpq
  subst hpq
  refine ⟨_, rfl, post_true (pa := before) hW' (fun b sp hd => ?_) (fun sp hsp => ?_) (fun sp _ => ?_) rfl hbel (Go.RowKit.ok_one hrt rfl (Go.RowKit.okWide_bool_mk hb true))⟩
  · simp only [List.append_nil, s1, hrt]
    exact trodAll_mk1 (Go.RowKit.shut_bool hb true)
  · simp only [List.append_nil, s2]
    refine trodAll_stays hl (fun t ht => ?_) hA (fun x hx => hbel.same (hW'.lt x hx)) hsp
    have := List.all_eq_true.1 hts t ht
    simpa using this
  · simp only [List.append_nil, s3, hvars]
    rfl
end
/-! arguments of plain values -/
/-- such a cell is a member of that Lean type -/
class CellIs (P : Program) (t : TypeId) (α : Type) [Enc α] : Prop where
  is : ∀ (W : World) (base : Nat) (v : Value), Cell.okWide P W .any base t v → ∃ a : α, v = enc a
theorem int_cell {P : Program} {W : World} {base : Nat} {t : TypeId} {k : IntKind} {v : Value} (ht : P.underlying t = some (.int k)) (h : Cell.okWide P W .any base t v) : ∃ n, v = .int k n ∧ k.min ≤ n ∧ n ≤ k.max := by
  cases v <;> simp only [Cell.okWide, ht, Cell.ok] at h
  obtain ⟨rfl, h⟩ := h
  exact ⟨_, rfl, h⟩
theorem cellIs_u8 {P : Program} {t : TypeId} (ht : P.underlying t = some (.int .u8)) : CellIs P t UInt8 := ⟨fun W base v h => by
  obtain ⟨n, rfl, h1, h2⟩ := int_cell ht h
  have h1 : 0 ≤ n := h1
  have h2 : n ≤ 255 := h2
  refine ⟨UInt8.ofNat n.toNat, ?_⟩
  have : (UInt8.ofNat n.toNat).toNat = n.toNat := UInt8.toNat_ofNat_of_lt' (by simp [UInt8.size]; omega)
  show Value.int .u8 n = Value.int .u8 ((UInt8.ofNat n.toNat).toNat : Int)
  rw [this, Int.toNat_of_nonneg h1]⟩
theorem cellIs_i64 {P : Program} {t : TypeId} (ht : P.underlying t = some (.int .i64)) : CellIs P t Int := ⟨fun W base v h => by
  obtain ⟨n, rfl, h1, h2⟩ := int_cell ht h
  exact ⟨n, rfl⟩⟩
/-- cells, each as its type tells -/
def Fits (P : Program) (W : World) (base : Nat) (c : List Value) (ts : List TypeId) : Prop := c.length = ts.length ∧ ∀ (i : Nat) v, c[i]? = some v → ∃ u, ts[i]? = some u ∧ Cell.okWide P W .any base u v
section
variable {P : Program} {W : World} {base : Nat}
theorem fits_of_wide {t : TypeId} {v : Value} {ts : List TypeId} {u : TypeDesc} (hu : P.underlying t = some u) (hagg : (match u with | .struct _ | .array _ _ => true | _ => false) = true) (hts : P.cellTypes P.depth t = some ts) (hsz : P.cellsOf t = ts.length) (h : Value.okWide P W .any base t v) :
    ∃ c, v = .agg c.toArray ∧ Fits P W base c ts := by
  have main : (∃ cs, v = .agg cs ∧ cs.size = P.cellsOf t ∧ Row.okWide P W .any base t cs) → ∃ c, v = .agg c.toArray ∧ Fits P W base c ts := by
    rintro ⟨cs, rfl, h1, ts', h2, _, h3⟩
    rw [hts] at h2; cases h2
    refine ⟨cs.toList, by simp, by simp [h1, hsz], fun i v hv => ?_⟩
    have hv' : cs[i]? = some v := by simpa using hv
    obtain ⟨u, e1, e2⟩ := h3 i v hv'
    have hi : i < cs.size := (Array.getElem?_eq_some_iff.1 hv').1
    rw [Nat.mod_eq_of_lt (by omega)] at e1
    exact ⟨u, e1, e2⟩
  unfold Value.okWide at h
  rw [hu] at h
  cases u <;> simp only at hagg <;> first | (cases hagg; done) | exact main h
theorem fits_append {c : List Value} {a b : List TypeId} (h : Fits P W base c (a ++ b)) : ∃ x y, c = x ++ y ∧ Fits P W base x a ∧ Fits P W base y b := by
  obtain ⟨h1, h2⟩ := h
  simp only [List.length_append] at h1
  refine ⟨c.take a.length, c.drop a.length, (List.take_append_drop _ _).symm, ⟨by simp; omega, fun i v hv => ?_⟩, ⟨by simp; omega, fun i v hv => ?_⟩⟩
  · rw [List.getElem?_take] at hv
    split at hv
    · rename_i hi
      obtain ⟨u, e1, e2⟩ := h2 i v hv
      rw [List.getElem?_append_left hi] at e1
      exact ⟨u, e1, e2⟩
    · cases hv
  · rw [List.getElem?_drop] at hv
    obtain ⟨u, e1, e2⟩ := h2 _ v hv
    rw [List.getElem?_append_right (by omega)] at e1
    have : a.length + i - a.length = i := by omega
    rw [this] at e1
    exact ⟨u, e1, e2⟩
theorem fits_one {α : Type} [Enc α] {c : List Value} {t : TypeId} (hc : CellIs P t α) (h : Fits P W base c [t]) : ∃ a : α, c = [enc a] := by
  obtain ⟨h1, h2⟩ := h
  obtain ⟨x, rfl⟩ := List.length_eq_one_iff.1 h1
  obtain ⟨u, e1, e2⟩ := h2 0 x rfl
  cases e1
  obtain ⟨a, rfl⟩ := hc.is W base x e2
  exact ⟨a, rfl⟩
theorem fits_many {α : Type} [Enc α] {t : TypeId} (hc : CellIs P t α) : ∀ (k : Nat) {c : List Value}, Fits P W base c (List.replicate k t) → ∃ v : Vector α k, c = encs v.toList := by
  have gen : ∀ (k : Nat) {c : List Value}, Fits P W base c (List.replicate k t) → ∃ l : List α, l.length = k ∧ c = encs l := by
    intro k
    induction k with
    | zero =>
      intro c h
      have := h.1
      simp at this; subst this
      exact ⟨[], rfl, rfl⟩
    | succ k ih =>
      intro c h
      rw [List.replicate_succ, show t :: List.replicate k t = [t] ++ List.replicate k t from rfl] at h
      obtain ⟨x, y, rfl, g1, g2⟩ := fits_append h
      obtain ⟨a, rfl⟩ := fits_one hc g1
      obtain ⟨l, hl, rfl⟩ := ih g2
      exact ⟨a :: l, by simp [hl], rfl⟩
  intro k c h
  obtain ⟨l, rfl, rfl⟩ := gen k h
  exact ⟨⟨l.toArray, by simp⟩, by simp⟩
end
end Go.Proofs.Ytdnnojblneccdaa
/-
  Lists of things of several cells each.
-/
namespace Go.Proofs.Ytdnnojblneccdaa
set_option linter.unusedSimpArgs false
set_option linter.unusedVariables false
open Go
open Enc (enc)
/-- a Lean type whose members stand for so many cells each -/
class Row (α : Type) extends Enc α where
  cel : α → List Value
  sz : Nat
  pos : 0 < sz
  len : ∀ a, (cel a).length = sz
  celInj : ∀ a b, cel a = cel b → a = b
  kn : ∀ a, (cel a).all known = true
  of : ∀ a, cellsOf (enc a) = some (cel a)
open Row (cel)
instance : Row UInt8 := ⟨fun a => [enc a], 1, by decide, fun _ => rfl, fun a b h => Enc.inj a b (by simpa using h), fun _ => rfl, fun _ => rfl⟩
instance : Row UInt64 := ⟨fun a => [enc a], 1, by decide, fun _ => rfl, fun a b h => Enc.inj a b (by simpa using h), fun _ => rfl, fun _ => rfl⟩
instance : Row Int := ⟨fun a => [enc a], 1, by decide, fun _ => rfl, fun a b h => Enc.inj a b (by simpa using h), fun _ => rfl, fun _ => rfl⟩
instance : Row Sl := ⟨fun a => [enc a], 1, by decide, fun _ => rfl, fun a b h => Enc.inj a b (by simpa using h), fun _ => rfl, fun _ => rfl⟩
/-- arrays of bytes -/
instance {k : Nat} [NeZero k] : Row (Vector UInt8 k) := ⟨fun a => encs a.toList, k, Nat.pos_of_ne_zero (NeZero.ne k), fun a => encs_vec_length a, fun _ _ h => encs_vec_inj h, fun _ => encs_known _, fun _ => rfl⟩
section
variable {α : Type} [Row α]
/-- their cells, one after another -/
def cels (l : List α) : List Value := l.flatMap cel
theorem cels_nil : cels ([] : List α) = [] := rfl
theorem cels_cons (a : α) (l : List α) : cels (a :: l) = cel a ++ cels l := by simp [cels]
theorem cels_append (a b : List α) : cels (a ++ b) = cels a ++ cels b := by simp [cels]
theorem cels_length : ∀ l : List α, (cels l).length = l.length * Row.sz α
  | [] => by simp [cels]
  | a :: l => by rw [cels_cons, List.length_append, Row.len, cels_length l, List.length_cons, Nat.add_mul, Nat.one_mul, Nat.add_comm]
theorem cels_inj : ∀ {a b : List α}, cels a = cels b → a = b
  | [], [], _ => rfl
  | x :: a, y :: b, h => by
    rw [cels_cons, cels_cons] at h
    obtain ⟨h1, h2⟩ := app_inj h (by rw [Row.len, Row.len])
    rw [Row.celInj _ _ h1, cels_inj h2]
  | [], y :: b, h => by
    have := congrArg List.length h
    rw [cels_length, cels_length] at this
    have hp := Nat.mul_pos (show 0 < (y :: b).length by simp) (Row.pos (α := α))
    rw [← this] at hp; simp at hp
  | x :: a, [], h => by
    have := congrArg List.length h
    rw [cels_length, cels_length] at this
    have hp := Nat.mul_pos (show 0 < (x :: a).length by simp) (Row.pos (α := α))
    rw [this] at hp; simp at hp
theorem cels_known (l : List α) : (cels l).all known = true := by
  simp only [cels, List.all_flatMap, List.all_eq_true]
  intro a _
  exact List.all_eq_true.1 (Row.kn a)
open Classical in
noncomputable def decC (x : List Value) : Option (List α) := if h : ∃ a : List α, x = cels a then some h.choose else none
theorem decC_cels (a : List α) : decC (cels a) = some a := by
  unfold decC
  have h : ∃ b : List α, cels a = cels b := ⟨a, rfl⟩
  rw [dif_pos h]
  exact congrArg some (cels_inj h.choose_spec.symm)
theorem decC_some {x : List Value} {a : List α} (h : decC x = some a) : x = cels a := by
  unfold decC at h
  split at h
  · rename_i h'; cases h; exact h'.choose_spec
  · cases h
/-- element i lies where it should -/
theorem cels_at {c : List Value} {off i : Nat} {l : List α} (hl : (c.drop off).take (l.length * Row.sz α) = cels l) (h : i < l.length) :
    ∃ A C, c = A ++ (cel l[i] ++ C) ∧ A.length = off + i * Row.sz α := by
  have h1 : l = l.take i ++ (l[i] :: l.drop (i + 1)) := by rw [← List.drop_eq_getElem_cons h, List.take_append_drop]
  have h2 : cels l = cels (l.take i) ++ (cel l[i] ++ cels (l.drop (i + 1))) := by
    conv => lhs; rw [h1]
    rw [cels_append, cels_cons]
  have hc : c = c.take off ++ ((c.drop off).take (l.length * Row.sz α) ++ (c.drop off).drop (l.length * Row.sz α)) := by rw [List.take_append_drop, List.take_append_drop]
  have hlen : off ≤ c.length := by
    have := congrArg List.length hl
    rw [cels_length] at this
    simp only [List.length_take, List.length_drop] at this
    have hp : 0 < l.length * Row.sz α := Nat.mul_pos (by omega) Row.pos
    omega
  refine ⟨c.take off ++ cels (l.take i), cels (l.drop (i + 1)) ++ (c.drop off).drop (l.length * Row.sz α), ?_, ?_⟩
  · conv => lhs; rw [hc, hl, h2]
    simp only [List.append_assoc]
  · rw [List.length_append, cels_length, List.length_take, List.length_take]
    have e1 : min off c.length = off := by omega
    have e2 : min i l.length = i := by omega
    rw [e1, e2]
/-- the members that a slice spans -/
noncomputable def rdC (H : IHeap) : Value → Option (List α)
  | .slice none 0 0 => some []
  | .slice (some a) len _ =>
    match H a.block with
    | some (.cells c _) => if a.off + len * Row.sz α ≤ c.length then decC ((c.drop a.off).take (len * Row.sz α)) else none
    | _ => none
  | _ => none
/-- a slice in memory: nil, or a row with these members -/
theorem rdC_inv {H : IHeap} {a : Option Addr} {len cap : Nat} {l : List α} (h : rdC H (.slice a len cap) = some l) :
    (a = none ∧ len = 0 ∧ cap = 0 ∧ l = []) ∨ ∃ id off sp c ro, a = some ⟨id, off, sp⟩ ∧ H id = some (.cells c ro) ∧ off + l.length * Row.sz α ≤ c.length ∧ (c.drop off).take (l.length * Row.sz α) = cels l ∧ len = l.length := by
  cases a with
  | none =>
    unfold rdC at h
    split at h
    · rename_i e; cases e; cases h; exact .inl ⟨rfl, rfl, rfl, rfl⟩
    · rename_i e; cases e
    · cases h
  | some a =>
    obtain ⟨id, off, sp⟩ := a
    simp only [rdC] at h
    split at h
    · rename_i c ro hc
      split at h
      · rename_i hle
        have hd := decC_some h
        have hlen : len = l.length := by
          have := congrArg List.length hd
          rw [cels_length] at this
          simp only [List.length_take, List.length_drop] at this
          have hp := Row.pos (α := α)
          have e : min (len * Row.sz α) (c.length - off) = len * Row.sz α := by omega
          rw [e] at this
          exact Nat.eq_of_mul_eq_mul_right hp this
        subst hlen
        exact .inr ⟨id, off, sp, c, ro, rfl, hc, hle, hd, rfl⟩
      · cases h
    · cases h
theorem rdC_mk {H : IHeap} {id off len cap : Nat} {sp : Option Nat} {c : List Value} {ro : Bool} {l : List α} (hH : H id = some (.cells c ro)) (hle : off + l.length * Row.sz α ≤ c.length) (hc : (c.drop off).take (l.length * Row.sz α) = cels l) (hl : l.length = len) :
    rdC H (.slice (some ⟨id, off, sp⟩) len cap) = some l := by
  subst hl
  simp only [rdC, hH]
  rw [if_pos hle, hc]; exact decC_cels l
/-- a whole row -/
theorem rdC_all {H : IHeap} {id len cap : Nat} {sp : Option Nat} {ro : Bool} {l : List α} (hH : H id = some (.cells (cels l) ro)) (hl : l.length = len) : rdC H (.slice (some ⟨id, 0, sp⟩) len cap) = some l :=
  rdC_mk hH (by rw [cels_length]; omega) (by rw [List.drop_zero, List.take_of_length_le (by rw [cels_length]; exact Nat.le_refl _)]) hl
theorem rdC_len {H : IHeap} {x : Value} {l : List α} (h : rdC H x = some l) : ∃ a cap, x = .slice a l.length cap := by
  cases x <;> try (simp [rdC] at h; done)
  rename_i a len cap
  rcases rdC_inv h with ⟨rfl, rfl, rfl, rfl⟩ | ⟨id, off, sp, c, ro, rfl, hc, hle, hl, rfl⟩
  · exact ⟨none, 0, rfl⟩
  · exact ⟨_, _, rfl⟩
/-- where element i lies -/
theorem rdC_at {H : IHeap} {a : Option Addr} {len cap i : Nat} {l : List α} (h : rdC H (.slice a len cap) = some l) (hi : i < l.length) :
    ∃ id off sp c ro, a = some ⟨id, off, sp⟩ ∧ H id = some (.cells c ro) ∧ (c.drop off).take (l.length * Row.sz α) = cels l := by
  rcases rdC_inv h with ⟨rfl, rfl, rfl, rfl⟩ | ⟨id, off, sp, c, ro, rfl, hc, hle, hl, rfl⟩
  · simp at hi
  · exact ⟨id, off, sp, c, ro, rfl, hc, hl⟩
/-- as a source: so many, and these cells -/
theorem rdC_src {H : IHeap} {x : Value} {l : List α} (h : rdC H x = some l) : srcLen x = some l.length ∧ srcCells H (Row.sz α) x = some (cels l) := by
  cases x <;> try (simp [rdC] at h; done)
  rename_i a len cap
  rcases rdC_inv h with ⟨rfl, rfl, rfl, rfl⟩ | ⟨id, off, sp, c, ro, rfl, hc, hle, hl, rfl⟩
  · exact ⟨rfl, rfl⟩
  · refine ⟨rfl, ?_⟩
    simp only [srcCells, hc]
    rw [if_pos hle, hl]
variable {Γ : Fns} {D : Ty} {K : Kinds} {e : Operand → Value} {H : IHeap} {n : Nat}
theorem srcArg_rdC {t2 el2 : TypeId} {d2 de : TD} {x : Value} {l : List α} (hd : D t2 = some d2) (hk : d2.k = .slice el2) (hs : de.size = Row.sz α) (h : rdC H x = some l) : srcArg D H t2 de x = some (l.length, cels l) := by
  obtain ⟨h1, h2⟩ := rdC_src h
  simp only [srcArg, hd, hk, Option.bind_some, h1, hs, h2, Option.map_some]
/-- an append of nothing to what is not open -/
theorem ox_app0 {t t2 el el2 : TypeId} {s y : Operand} {a : Option Addr} {len cap : Nat} {x : Value} {d d2 de : TD} (hs : e s = .slice a len cap) (hx : e y = x) (hd : D t = some d) (hk : d.k = .slice el) (hde : D el = some de) (hd2 : D t2 = some d2) (hk2 : d2.k = .slice el2) (hsz : de.size = Row.sz α)
    (h : rdC H x = some ([] : List α)) (hcl : closed a = true) (hlc : len ≤ cap) : iopC Γ D K e H n (.call ⟨.builtin .append, #[s, y], #[t, t2]⟩) = some ⟨.slice a len cap, [], n⟩ := by
  have hsrc := srcArg_rdC (α := α) (de := de) hd2 hk2 hsz h
  simp only [List.length_nil, cels_nil] at hsrc
  simp [iopC, iop, doBuiltin, doAppend, hs, hx, hd, hk, hde, hsrc, hcl, hlc, val]
  cases a <;> rfl
/-- an append that must grow, to what is not open -/
theorem ox_app1 {t t2 el el2 : TypeId} {s y : Operand} {a : Option Addr} {x : Value} {d d2 de : TD} {l : List α} (hs : e s = .slice a 0 0) (hx : e y = x) (hd : D t = some d) (hk : d.k = .slice el) (hde : D el = some de) (hd2 : D t2 = some d2) (hk2 : d2.k = .slice el2) (hsz : de.size = Row.sz α)
    (h : rdC H x = some l) (hne : l ≠ []) (hcl : closed a = true) (ha : ∀ b, a = some b → ∃ ro, H b.block = some (.cells [] ro) ∧ b.off = 0) (hm : l.length * de.bytes ≤ most) (hb : 1 ≤ de.bytes) :
    iopC Γ D K e H n (.call ⟨.builtin .append, #[s, y], #[t, t2]⟩) = some ⟨.slice (some ⟨n, 0, some de.size⟩) l.length l.length, [(n, some (.cells (cels l) false))], n + 1⟩ := by
  have hsrc := srcArg_rdC (α := α) (de := de) hd2 hk2 hsz h
  have hl : ¬ (0 + l.length ≤ 0 ∧ closed a = true) := by
    have : l.length ≠ 0 := by simpa using hne
    omega
  simp only [iopC, iop, doBuiltin, doAppend, Array.toList, List.map_cons, List.map_nil, hs, hx, hd, hk, hde, hsrc, Option.bind_some, List.getElem?_toArray, List.getElem?_cons_zero, List.getElem?_cons_succ]
  rw [if_neg hl, if_pos ⟨by simpa using hm, hb⟩]
  match a, hcl, ha with
  | none, _, _ => simp [new]
  | some ⟨id, off, none⟩, _, ha =>
    obtain ⟨ro, h1, h2⟩ := ha _ rfl
    simp only at h1 h2
    subst h2
    simp [srcCells, h1, new]
/-- an append to what is open: it goes on under a new number -/
theorem ox_appO {t t2 el el2 : TypeId} {s y : Operand} {id len cap sz : Nat} {x : Value} {d d2 de : TD} {l1 l : List α} {c : List Value} (hs : e s = .slice (some ⟨id, 0, some sz⟩) len cap) (hx : e y = x) (hd : D t = some d) (hk : d.k = .slice el) (hde : D el = some de) (hd2 : D t2 = some d2) (hk2 : d2.k = .slice el2)
    (hsz : de.size = Row.sz α) (hss : sz = de.size) (hH : H id = some (.cells c false)) (hl : l1.length = len) (hle : len * de.size ≤ c.length) (hc : c.take (len * de.size) = cels l1) (h : rdC H x = some l) (hm : (len + l.length) * de.bytes ≤ most) (hb : 1 ≤ de.bytes) :
    iopC Γ D K e H n (.call ⟨.builtin .append, #[s, y], #[t, t2]⟩) = some ⟨.slice (some ⟨n, 0, some sz⟩) (len + l.length) (len + l.length), [(id, none), (n, some (.cells (cels (l1 ++ l)) false))], n + 1⟩ := by
  have hsrc := srcArg_rdC (α := α) (de := de) hd2 hk2 hsz h
  have hcl : ¬ (len + l.length ≤ cap ∧ closed (some ⟨id, 0, some sz⟩) = true) := by simp [closed]
  simp only [iopC, iop, doBuiltin, doAppend, List.map_cons, List.map_nil, hs, hx, hd, hk, hde, hsrc, Option.bind_some, List.getElem?_toArray, List.getElem?_cons_zero, List.getElem?_cons_succ]
  rw [if_neg hcl, if_pos ⟨hm, hb⟩]
  simp only [hH]
  rw [if_pos ⟨hle, cels_known l, hss, trivial⟩, hc, cels_append]
theorem ox_capN {x : Operand} {t : TypeId} {d : TD} {el len cap : Nat} (hx : e x = .slice none len cap) (hd : D t = some d) (hk : d.k = .slice el) : iopC Γ D K e H n (.call ⟨.builtin .cap, #[x], #[t]⟩) = some ⟨.int .i64 cap, [], n⟩ := by
  simp [iopC, iop, doBuiltin, hx, hd, hk, val]
/-- make of a slice -/
theorem ox_make {t el : TypeId} {x y : Operand} {a b : Int} {d de : TD} (hx : e x = .int .i64 a) (hy : e y = .int .i64 b) (hd : D t = some d) (hk : d.k = .slice el) (hde : D el = some de) (h0 : 0 ≤ a) (h1 : a ≤ b) (h2 : b ≤ most) (h3 : de.bytes * b ≤ (2 : Int) ^ 48) :
    iopC Γ D K e H n (.makeSlice t x y) = some ⟨.slice (some ⟨n, 0, none⟩) a.toNat b.toNat, [(n, some (.cells ((List.replicate b.toNat de.zero).flatten) false))], n + 1⟩ := by
  simp only [iopC, iop, doMake, hx, hy, hd, hk, hde, Option.bind_some, new]
  rw [if_pos ⟨h0, h1, h2, h3⟩]
end
/-- a part of an element -/
theorem rdVar_in {d : TD} {A B C c : List Value} {o j : Nat} {v : Value} (hc : c = A ++ (B ++ C)) (hj : j = A.length + o) (h : rdVar d B o = some v) : rdVar d c j = some v := by
  subst hc; subst hj
  unfold rdVar at h ⊢
  split at h
  · rename_i hk
    rw [if_pos hk]
    split at h
    · rename_i hle
      rw [if_pos (by simp only [List.length_append]; omega)]
      rw [← h]
      have e1 : (A ++ (B ++ C)).drop (A.length + o) = (B ++ C).drop o := by rw [← List.drop_drop, List.drop_left]
      rw [e1, List.drop_append_of_le_length (by omega), List.take_append_of_le_length (by simp only [List.length_drop]; omega)]
    · cases h
  · rename_i hk
    rw [if_neg hk]
    have ho : o < B.length := (List.getElem?_eq_some_iff.1 h).1
    rw [List.getElem?_append_right (by omega), Nat.add_sub_cancel_left, List.getElem?_append_left ho]
    exact h
theorem rd_celIn {α : Type} [Row α] {d : TD} {c : List Value} {off i o j : Nat} {l : List α} {v : Value} (hl : (c.drop off).take (l.length * Row.sz α) = cels l) (h : i < l.length) (hv : rdVar d (cel l[i]) o = some v) (hj : j = off + i * Row.sz α + o) : rdVar d c j = some v := by
  obtain ⟨A, C, hc, hA⟩ := cels_at hl h
  exact rdVar_in hc (by rw [hA]; exact hj) hv
theorem rd_cel {k : Nat} [NeZero k] {d : TD} {c : List Value} {off i j : Nat} {l : List (Vector UInt8 k)} (hl : (c.drop off).take (l.length * Row.sz (Vector UInt8 k)) = cels l) (h : i < l.length) (hk : d.k.isAgg = true) (hs : d.size = k) (hj : off + i * k = j) : rdVar d c j = some (enc l[i]) := by
  obtain ⟨A, C, hc, hA⟩ := cels_at hl h
  exact rd_part hk hc (by rw [hA]; exact hj) (by rw [hs]; exact Row.len (α := Vector UInt8 k) _)
end Go.Proofs.Ytdnnojblneccdaa
/-
  Results in new rows.
-/
namespace Go.Proofs.Ytdnnojblneccdaa
set_option linter.unusedSimpArgs false
set_option linter.unusedVariables false
open Go
open Enc (enc)
open Row (cel)
/-- a cell that leads nowhere -/
def plain : Value → Bool
  | .bool _ | .int _ _ | .string _ | .pointer none | .slice none _ _ | .map none | .nilFunc | .nilIface => true
  | _ => false
theorem plain_ren {g : Nat → Nat} {v : Value} (h : plain v = true) : ren1 g v = v := by
  unfold plain at h
  split at h <;> first | rfl | (cases h; done)
theorem plain_ok {p : Nat → Prop} {v : Value} (h : plain v = true) : okN1 p v := by
  unfold plain at h
  split at h <;> first | trivial | (cases h; done)
theorem plains_ren {g : Nat → Nat} {c : List Value} (h : c.all plain = true) : c.map (ren1 g) = c := by
  have : ∀ x ∈ c, ren1 g x = x := fun x hx => plain_ren (List.all_eq_true.1 h x hx)
  calc c.map (ren1 g) = c.map id := List.map_congr_left this
    _ = c := by simp
section
variable {D : Ty}
/-- one new row comes out, and a slice of it -/
theorem RetP.new1 {rs : List ResultVar} {n m n'' : Nat} {H H' : IHeap} {ex : Exit} {t : List Value} {off len cap : Nat} {s : Option Nat} {c : List Value} (hx : ex = .normal ∨ ex = .ret) (hr : ires D t H' rs = some (.slice (some ⟨m, off, s⟩) len cap)) (hm : n ≤ m)
    (hH : H' m = some (.cells c false)) (hc : c.all plain = true) : RetP D rs n H ⟨.slice (some ⟨n, off, s⟩) len cap, [(n, some (.cells c false))], n + 1⟩ ex t H' n'' := by
  refine ⟨hx, ?_⟩
  rw [hr]
  refine ⟨fun id => if id = n then m else id, fun id hid => ?_, ?_, ?_, ?_, ?_, ?_, ?_, Nat.le_succ _⟩
  · exact if_neg (by omega)
  · simp [ren, ren2, ren1]
  · show n < n ∨ n ∈ _
    right; simp [Eff.ids]
  · intro id hid o ho
    simp only [Eff.ids, List.map_cons, List.map_nil, List.mem_singleton] at hid
    subst hid
    simp only [upds, upd, if_true, Option.some.injEq] at ho
    subst ho
    refine ⟨?_, ?_⟩
    · simp only [if_true, hH, renO, plains_ren hc]
    · simp only [okO]
      intro x hx
      exact plain_ok (List.all_eq_true.1 hc x hx)
  · intro id hid _
    simp only [Eff.ids, List.map_cons, List.map_nil, List.mem_singleton] at hid
    subst hid; simpa using hm
  · intro i hi j hj _
    simp only [Eff.ids, List.map_cons, List.map_nil, List.mem_singleton] at hi hj
    rw [hi, hj]
  · intro id hid
    simp only [Eff.ids, List.map_cons, List.map_nil, List.mem_singleton] at hid
    subst hid; exact ⟨.inl (Nat.le_refl _), Nat.lt_succ_self _⟩
/-- from n on nothing lies -/
theorem IW.free {P : Program} {W : Nat → Prop} {R : Option Nat} {cs : List Code} {Q : PostX} {t : List Value} {H : IHeap} {n : Nat} (hne : cs ≠ []) (h : (∀ id, n ≤ id → H id = none) → IW P W R cs Q t H n) : IW P W R cs Q t H n := by
  cases cs with
  | nil => exact (hne rfl).elim
  | cons c cs =>
    intro ρ0 w0 m0 ρ a w hs
    refine h (fun id hid => ?_) ρ0 w0 m0 ρ a w hs
    cases hH : H id with
    | none => rfl
    | some o =>
      obtain ⟨r, κ, h1, _⟩ := hs.heap.obj id o hH
      have := hs.below.lt h1
      omega
/-- what a slice spans lies below the free numbers -/
theorem IW.ltC {α : Type} [Row α] {P : Program} {W : Nat → Prop} {R : Option Nat} {cs : List Code} {Q : PostX} {t : List Value} {H : IHeap} {n : Nat} {x : Value} {l : List α} (hne : cs ≠ []) (hx : rdC H x = some l)
    (h : (∀ id off s len cap, x = .slice (some ⟨id, off, s⟩) len cap → id < n) → IW P W R cs Q t H n) : IW P W R cs Q t H n := by
  obtain ⟨a, cap, rfl⟩ := rdC_len hx
  rcases rdC_inv hx with ⟨rfl, _⟩ | ⟨id, off, sp, c, ro, rfl, hc, _⟩
  · exact h fun id off s len cap e => by cases e
  · exact IW.lt hne hc fun hid => h fun id' off' s len cap' e => by cases e; exact hid
theorem rdC_hp {α : Type} [Row α] {H : IHeap} {n m : Nat} {o : Option IObj} {M : Ups} {x : Value} {l : List α} (h : rdC (hp H M) x = some l) (hlt : ∀ id off s len cap, x = .slice (some ⟨id, off, s⟩) len cap → id < n) (hm : n ≤ m) : rdC (hp H ((m, o) :: M)) x = some l := by
  obtain ⟨a, cap, rfl⟩ := rdC_len h
  rcases rdC_inv h with ⟨rfl, h2, rfl, rfl⟩ | ⟨id, off, sp, c, ro, rfl, hc, hle, hl, _⟩
  · rfl
  · have := hlt _ _ _ _ _ rfl
    exact rdC_mk ((hp_ne H o M (by omega)).trans hc) hle hl rfl
end
end Go.Proofs.Ytdnnojblneccdaa
/-
  More steps: slices of slices, literals, strings, guards that are known, calls with new rows.
-/
namespace Go.Proofs.Ytdnnojblneccdaa
set_option linter.unusedSimpArgs false
set_option linter.unusedVariables false
open Go
open Enc (enc)
open Row (cel)
section
variable {Γ : Fns} {D : Ty} {K : Kinds} {e : Operand → Value} {H : IHeap} {n : Nat}
/-! slices of slices -/
def slA (a : Addr) (cap sz l : Nat) : Addr := if cap = l then a else goOn a (l * sz)
theorem bndN {d : Nat} : bnd (Option.map e none) d = some d := rfl
theorem bndI {x : Operand} {k : IntKind} {i : Int} {d l : Nat} (h : e x = .int k i) (hi : i = (l : Int)) : bnd (Option.map e (some x)) d = some l := by
  subst hi
  simp only [Option.map_some, bnd, h]
  rw [if_pos (by omega)]; simp
theorem ox_sl {t : TypeId} {x : Operand} {lo hi : Option Operand} {a : Addr} {len cap el l h : Nat} {d de : TD} (hx : e x = .slice (some a) len cap) (hd : D t = some d) (hk : d.k = .slice el) (hde : D el = some de) (hlo : bnd (lo.map e) 0 = some l) (hhi : bnd (hi.map e) len = some h)
    (h1 : l ≤ h) (h2 : h ≤ cap) (hsp : a.spot = none ∨ (a.spot = some de.size ∧ (l < cap ∨ l = 0))) : iopC Γ D K e H n (.slice t x lo hi none) = some ⟨.slice (some (slA a cap de.size l)) (h - l) (cap - l), [], n⟩ := by
  refine ox_slS hx hd hk hde ?_
  have hm : bnd (Option.map e none) cap = some cap := rfl
  simp only [sliceIt, hlo, hhi, hm]
  rw [if_pos ⟨h1, h2, Nat.le_refl _, by simp⟩]
  rcases hsp with h3 | ⟨h3, h4⟩
  · rw [h3]; rfl
  · rw [h3, Option.map_none]
    show (if (l < cap ∨ l = 0) ∧ de.size = de.size then _ else none) = _
    rw [if_pos ⟨h4, rfl⟩]
    unfold slA
    split
    · rename_i h5
      have : l = 0 := by omega
      subst this
      simp [goOn]
    · rfl
/-- the head of a slice -/
theorem ox_slH {t : TypeId} {x : Operand} {hi : Option Operand} {a : Addr} {len cap el h : Nat} {d de : TD} (hx : e x = .slice (some a) len cap) (hd : D t = some d) (hk : d.k = .slice el) (hde : D el = some de) (hhi : bnd (hi.map e) len = some h)
    (h2 : h ≤ cap) (hsp : a.spot = none ∨ a.spot = some de.size) : iopC Γ D K e H n (.slice t x none hi none) = some ⟨.slice (some a) h cap, [], n⟩ := by
  have := ox_sl (Γ := Γ) (K := K) (H := H) (n := n) (lo := none) hx hd hk hde rfl hhi (Nat.zero_le _) h2 (hsp.imp id fun h => ⟨h, .inr rfl⟩)
  rw [this]
  have : slA a cap de.size 0 = a := by unfold slA; split <;> simp [goOn]
  rw [this]; rfl
variable {α : Type} [Row α]
theorem rdC_sl {a : Addr} {len cap l h : Nat} {xs : List α} (hr : rdC H (.slice (some a) len cap) = some xs) (h1 : l ≤ h) (h2 : h ≤ len) (hc : len ≤ cap) : rdC H (.slice (some (slA a cap (Row.sz α) l)) (h - l) (cap - l)) = some ((xs.take h).drop l) := by
  obtain ⟨id, off, sp⟩ := a
  rcases rdC_inv hr with ⟨e, _⟩ | ⟨id', off', sp', c, ro, e, hc', hle, hl, rfl⟩
  · cases e
  cases e
  have hlen : ((xs.take h).drop l).length = h - l := by simp [Nat.min_eq_left h2]
  have hsplit : xs = xs.take l ++ ((xs.take h).drop l ++ xs.drop h) := by
    rw [← List.append_assoc]
    have : xs.take l ++ (xs.take h).drop l = xs.take h := by
      have := List.take_append_drop l (xs.take h)
      rwa [List.take_take, Nat.min_eq_left h1] at this
    rw [this, List.take_append_drop]
  have hcs : cels xs = cels (xs.take l) ++ (cels ((xs.take h).drop l) ++ cels (xs.drop h)) := by
    conv => lhs; rw [hsplit]
    rw [cels_append, cels_append]
  by_cases e0 : cap = l
  · have hl0 : h = l := by omega
    subst hl0
    have e1 : (xs.take h).drop h = [] := by rw [List.drop_eq_nil_iff]; simp; omega
    rw [e1] at hlen ⊢
    simp only [slA, if_pos e0, Nat.sub_self]
    exact rdC_mk hc' (by simp; omega) (by simp [cels]) rfl
  · have hb : slA ⟨id, off, sp⟩ cap (Row.sz α) l = goOn ⟨id, off, sp⟩ (l * Row.sz α) := if_neg e0
    have hg : goOn ⟨id, off, sp⟩ (l * Row.sz α) = ⟨id, off + l * Row.sz α, sp⟩ := by
      unfold goOn; split
      · rename_i h0; rw [h0]; rfl
      · rfl
    rw [hb, hg]
    have hsz : l * Row.sz α + (h - l) * Row.sz α ≤ xs.length * Row.sz α := by
      rw [← Nat.add_mul]; exact Nat.mul_le_mul_right _ (by omega)
    refine rdC_mk hc' (by rw [hlen]; omega) ?_ hlen
    have hpre : (cels (xs.take l)).length = l * Row.sz α := by rw [cels_length, List.length_take, Nat.min_eq_left (by omega)]
    have hmid : (cels ((xs.take h).drop l)).length = (h - l) * Row.sz α := by rw [cels_length, hlen]
    rw [hlen]
    have h5 : ((c.drop off).take (xs.length * Row.sz α)).drop (l * Row.sz α) = cels ((xs.take h).drop l) ++ cels (xs.drop h) := by
      rw [hl, hcs, ← hpre, List.drop_left]
    rw [List.drop_take, List.drop_drop] at h5
    have h6 := congrArg (List.take ((h - l) * Row.sz α)) h5
    rw [List.take_take, Nat.min_eq_left (by omega), ← hmid, List.take_left] at h6
    rw [hmid] at h6
    exact h6
theorem rdC_sl0 {a : Addr} {len cap h : Nat} {xs : List α} (hr : rdC H (.slice (some a) len cap) = some xs) (h2 : h ≤ len) : rdC H (.slice (some a) h cap) = some (xs.take h) := by
  obtain ⟨id, off, sp⟩ := a
  rcases rdC_inv hr with ⟨e, _⟩ | ⟨id', off', sp', c, ro, e, hc', hle, hl, rfl⟩
  · cases e
  cases e
  have hlen : (xs.take h).length = h := by simp [h2]
  have hsz : h * Row.sz α ≤ xs.length * Row.sz α := Nat.mul_le_mul_right _ h2
  refine rdC_mk hc' (by rw [hlen]; omega) ?_ hlen
  rw [hlen]
  have h6 := congrArg (List.take (h * Row.sz α)) hl
  rw [List.take_take, Nat.min_eq_left hsz] at h6
  rw [h6]
  conv => lhs; rw [← List.take_append_drop h xs]
  rw [cels_append]
  have : (cels (xs.take h)).length = h * Row.sz α := by rw [cels_length, hlen]
  rw [← this, List.take_left]
/-- an append of zero values to nil -/
theorem ox_appZ {t t2 el : TypeId} {k2 : IntKind} {s y : Operand} {k : Nat} {d d2 de : TD} (hs : e s = .slice none 0 0) (hy : e y = .int .i64 k) (hd : D t = some d) (hk : d.k = .slice el) (hde : D el = some de) (hd2 : D t2 = some d2) (hk2 : d2.k = .int k2)
    (h0 : 0 < k) (hm : k * de.bytes ≤ most) (hb : 1 ≤ de.bytes) : iopC Γ D K e H n (.call ⟨.builtin .append, #[s, y], #[t, t2]⟩) = some ⟨.slice (some ⟨n, 0, some de.size⟩) k k, [(n, some (.cells ((List.replicate k de.zero).flatten) false))], n + 1⟩ := by
  have h1 : (k : Int) ≤ (most : Nat) := by
    have : k * 1 ≤ k * de.bytes := Nat.mul_le_mul_left _ hb
    omega
  have h2 : (k : Int) * de.bytes ≤ (2 : Int) ^ 48 := by
    have : ((k * de.bytes : Nat) : Int) ≤ (2 : Int) ^ 47 := by
      have := Int.ofNat_le.2 hm
      exact this
    rw [← Int.natCast_mul]; omega
  have hsrc : srcArg D H t2 de (.int .i64 k) = some (k, (List.replicate k de.zero).flatten) := by
    simp only [srcArg, hd2, Option.bind_some, hk2]
    rw [if_pos ⟨by omega, h1, h2⟩]; simp
  simp only [iopC, iop, doBuiltin, doAppend, List.map_cons, List.map_nil, hs, hy, hd, hk, hde, hsrc, Option.bind_some, List.getElem?_toArray, List.getElem?_cons_zero, List.getElem?_cons_succ]
  rw [if_neg (by simp [closed]; omega), if_pos ⟨by simpa using hm, hb⟩]
  simp [new]
/-! literals of slices -/
theorem ox_bsl {N : Nat} {L : List (Nat × Value)} {t el len : TypeId} {d de : TD} {parts : Array (Nat × Operand)} {vs : List (Nat × Value)} {cs : List Value} (hd : D t = some d) (hk : d.k = .slice el) (hde : D el = some de) (hle : len * de.size ≤ 2 ^ 24) (hp : opp N L parts.toList = some vs)
    (hf : fillIn (fun i => some (i * de.size, de.size)) ((List.replicate len de.zero).flatten) vs = some cs) : iopC Γ D K (ev (dense N L)) H n (.buildSlice t len parts) = some ⟨.slice (some ⟨n, 0, none⟩) len len, [(n, some (.cells cs false))], n + 1⟩ := by
  simp only [iopC, iop, hd, hk, hde, Option.bind_some]
  rw [if_pos hle]
  have := opp_ev hp
  simp only [this, hf, Option.bind_some, new]
/-! strings -/
def bs (l : List UInt8) : ByteArray := ⟨l.toArray⟩
theorem bs_toList (l : List UInt8) : (bs l).toList = l := by rw [ByteArray.toList_eq]; simp [bs]
theorem cels_u8 (l : List UInt8) : cels l = encs l := by induction l with
  | nil => rfl
  | cons a l ih => rw [cels_cons, ih]; rfl
/-- bytes as a string -/
theorem ox_cvS {s t el : TypeId} {x : Operand} {v : Value} {ds d de : TD} {l : List UInt8} (hx : e x = v) (hs : D s = some ds) (hsk : ds.k = .slice el) (hde : D el = some de) (hdk : de.k = .int .u8) (hd : D t = some d) (hk : d.k = .str) (hr : rdC H v = some l) :
    iopC Γ D K e H n (.convert s t x) = some ⟨.string (bs l), [], n⟩ := by
  obtain ⟨a, cap, rfl⟩ := rdC_len hr
  have h2 := (rdC_src hr).2
  have h3 : Row.sz UInt8 = 1 := rfl
  rw [h3, cels_u8] at h2
  simp only [iopC, iop, doConvert, hs, hd, hk, hx, hsk, hde, Option.bind_some, hdk, if_true, h2]
  have h4 : (encs l).all (fun v => match v with | .int .u8 _ => true | _ => false) = true := by
    simp only [encs, List.all_map, List.all_eq_true]; intro _ _; rfl
  split
  case isFalse hn => exact absurd h4 hn
  simp only [val, encs, List.map_map]
  congr 4
  have : (List.map ((fun v => match v with | Value.int _ i => UInt8.ofNat i.toNat | _ => 0) ∘ enc) l) = l := by
    conv => rhs; rw [← List.map_id l]
    refine List.map_congr_left fun a _ => ?_
    show UInt8.ofNat ((a.toNat : Int)).toNat = a
    simp
  exact congrArg List.toArray this
theorem bo_str_eql {t : TypeId} (a b : List UInt8) : binOp' D K .eql t (.string (bs a)) (.string (bs b)) = some (.bool (a == b)) := by simp only [binOp', strOp, bs_toList]
theorem bo_str_neq {t : TypeId} (a b : List UInt8) : binOp' D K .neq t (.string (bs a)) (.string (bs b)) = some (.bool !(a == b)) := by simp only [binOp', strOp, bs_toList]
end
section
variable {P : Program} {Γ : Fns} {D : Ty} {K : Kinds} {W : Nat → Prop} {R : Option Nat} {ops : Array Oper} {Q : Post3} {o : Oper} {os : List Oper} {N : Nat} {L : List (Nat × Value)} {H : IHeap} {M : Ups} {n : Nat}
/-! guards that are known -/
def wAll (W : Nat → Prop) : Ups → Prop
  | [] => True
  | p :: l => W p.1 ∧ wAll W l
theorem wAll_spec {W : Nat → Prop} : ∀ {l : Ups}, wAll W l → ∀ p ∈ l, W p.1
  | q :: l, h, p, hm => by
    cases hm with
    | head => exact h.1
    | tail _ hm => exact wAll_spec h.2 p hm
/-- a call, or what else writes several rows -/
theorem vcS_ups {d : Tmp} {v : Value} {up M' : Ups} {n' : Nat} (hd : o.dst = some d) (hg : o.guard = none) (h : iopC Γ D K (ev (dense N L)) (hp H M) n o.op = some ⟨v, up, n'⟩) (hM : putH up M = M') (hW : wAll W up)
    (k : vcS Γ D K W ops Q os (dense N ((d, v) :: L)) (hp H M') n') : vcS Γ D K W ops Q (o :: os) (dense N L) (hp H M) n := vcS_call hd hg h hM (wAll_spec hW) k
theorem vcS_T {d : Tmp} {v : Value} {b : Bool} {up M' : Ups} {n' : Nat} (hd : o.dst = some d) (hg : wantedI ops (dense N L) o = some b) (hb : b = true) (h : iopC Γ D K (ev (dense N L)) (hp H M) n o.op = some ⟨v, up, n'⟩) (hM : putH up M = M') (hW : wAll W up)
    (k : vcS Γ D K W ops Q os (dense N ((d, v) :: L)) (hp H M') n') : vcS Γ D K W ops Q (o :: os) (dense N L) (hp H M) n := by
  subst hb
  unfold vcS
  rw [hg]
  refine ⟨fun _ => ?_, fun hb => (by cases hb)⟩
  rw [h]
  refine ⟨wAll_spec hW, ?_⟩
  rw [upds_hp, hM, tput_dense, hd]; exact k
variable {pre : List Nat} {pres : List (List Nat)} {n0 k : Nat} {Wr : List (Nat × Ups)} {Vs : List (Nat × Vis)}
/-- a call whose rows are all new -/
theorem vcE_callN {d : Tmp} {v : Value} {u up M' : Ups} {n' : Nat} (hd : o.dst = some d) (hg : o.guard = none) (hu : upsW pre Wr = u) (hM : putH u M = M') (h : iopC Γ D K (ev (dense N L)) (hp H M') n o.op = some ⟨v, up, n'⟩) (hc : isCall o.op = true)
    (hl : ∀ p ∈ u, p.1 < n) (hup : wAll (fun id => W id ∧ n ≤ id ∧ id < n') up) (hn : n ≤ n') (hq : quietW n0 pre (.all (u.map (·.1))) Wr)
    (hk : vcE Γ D K W ops (hp H M) n0 Q os pres (k + 1) (Wr ++ [(k, up)]) ((k, .all (u.map (·.1))) :: Vs) (dense N ((d, v) :: L)) n') : vcE Γ D K W ops (hp H M) n0 Q (o :: os) (pre :: pres) k Wr Vs (dense N L) n := by
  intro acc R
  subst hu
  subst hM
  unfold vcD
  rw [R.ups pre, upds_hp, h]
  simp only [wantedI, hg, wpo]
  have hv : visOf (ev (dense N L)) o.op (List.map (fun x => x.fst) (upsW pre Wr)) = .all ((upsW pre Wr).map (·.1)) := by simp only [visOf, hc, if_true]
  refine ⟨fun _ => ⟨fun p hm => ⟨(wAll_spec hup p hm).1, .inl (wAll_spec hup p hm).2.1, (wAll_spec hup p hm).2.2⟩, hn, ?_, ?_⟩, fun hb => by cases hb⟩
  · refine apart2_mk fun j y hy => ?_
    rw [hv]
    have a2 : ∀ p ∈ up, y.vis.clear n0 p.1 := fun p hm => R.fresh y (List.mem_of_getElem? hy) p.1 (wAll_spec hup p hm).2.1
    rcases R.wr j y hy with h1 | h1
    · right; exact ⟨a2, by rw [h1]; exact fun p hm => (by cases hm)⟩
    · rcases quietW_spec hq _ h1 with h2 | h2
      · left; simpa using h2
      · right; exact ⟨a2, h2⟩
  · have hh := hk (acc ++ [⟨up, .all ((upsW pre Wr).map (·.1))⟩]) (R.snoc _ _ _ hn (.inr rfl) (.inr (.inl rfl)) (fun id hid => by
      have := R.le
      refine ⟨by omega, ?_⟩
      intro hm
      obtain ⟨p, h1, h2⟩ := List.mem_map.1 hm
      have := hl p h1; omega))
    rw [hv]
    rw [tput_dense, hd]
    exact hh
end
end Go.Proofs.Ytdnnojblneccdaa
/-
  What a loop forgets of its memory.
-/
namespace Go.Proofs.Ytdnnojblneccdaa
set_option linter.unusedSimpArgs false
set_option linter.unusedVariables false
open Go
open Enc (enc)
theorem le_vec {α : Type} [Enc α] {k j : Nat} (v : Vector α k) (h : Nat.ble j k = true) : j ≤ (encs v.toList).length := by rw [encs_vec_length]; exact Nat.le_of_ble_eq_true h
/-- what A holds, besides these, B holds -/
def leX (H : IHeap) (ks : List Nat) (A B : Ups) : Prop := ∀ id o, id ∉ ks → hp H A id = some o → hp H B id = some o
section
variable {H : IHeap} {ks : List Nat} {A B : Ups} {a n : Nat} {x y : Option IObj}
theorem leX_le (h : leX H [] A B) : (hp H A).le (hp H B) := fun id o e => h id o (by simp) e
theorem leX_refl : leX H ks A A := fun _ _ _ h => h
theorem leX_cons (hxy : x = y) (h : leX H (a :: ks) A B) : leX H ks ((a, x) :: A) ((a, y) :: B) := by
  subst hxy
  intro id o hk e
  by_cases ha : id = a
  · subst ha; rw [hp_eq] at e ⊢; exact e
  · rw [hp_ne _ _ _ ha] at e ⊢
    exact h id o (by simp [ha, hk]) e
/-- a new row is forgotten -/
theorem leX_new (ha : hp H A a = none) (h : leX H ks A B) : leX H ks A ((a, y) :: B) := by
  intro id o hk e
  by_cases hi : id = a
  · subst hi; rw [ha] at e; cases e
  · rw [hp_ne _ _ _ hi]; exact h id o hk e
/-- what was there earlier -/
theorem leX_old (ha : a ∈ ks) (h : leX H ks A B) : leX H ks A ((a, y) :: B) := by
  intro id o hk e
  have hi : id ≠ a := fun hi => hk (by rw [hi]; exact ha)
  rw [hp_ne _ _ _ hi]; exact h id o hk e
/-- what is as it was -/
theorem leX_same {o : IObj} (hB : hp H B a = some o) (hx : x = some o) (h : leX H (a :: ks) A B) : leX H ks ((a, x) :: A) B := by
  subst hx
  intro id o' hk e
  by_cases hi : id = a
  · subst hi; rw [hp_eq] at e; cases e; exact hB
  · rw [hp_ne _ _ _ hi] at e; exact h id o' (by simp [hi, hk]) e
theorem free_hp (hf : ∀ id, n ≤ id → H id = none) (ha : n ≤ a) (hA : wAll (fun id => id ≠ a) A) : hp H A a = none := by
  induction A with
  | nil => exact hf a ha
  | cons p A ih =>
    obtain ⟨i, o⟩ := p
    rw [hp_ne _ _ _ (fun e => hA.1 e.symm)]
    exact ih hA.2
end
/-! results with several new rows -/
def gL (n : Nat) (ms : List Nat) (id : Nat) : Nat := if id < n then id else (ms[id - n]?).getD id
def upL : Nat → List (List Value) → Ups
  | _, [] => []
  | n, c :: cs => (n, some (.cells c false)) :: upL (n + 1) cs
def rowsAt (H : IHeap) (g : Nat → Nat) : List Nat → List (List Value) → Prop
  | [], [] => True
  | m :: ms, c :: cs => H m = some (.cells (c.map (ren1 g)) false) ∧ rowsAt H g ms cs
  | _, _ => False
theorem rowsAt_len {H : IHeap} {g : Nat → Nat} : ∀ {ms : List Nat} {cs : List (List Value)}, rowsAt H g ms cs → ms.length = cs.length
  | [], [], _ => rfl
  | m :: ms, c :: cs, h => by simp [rowsAt_len h.2]
theorem rowsAt_get {H : IHeap} {g : Nat → Nat} : ∀ {ms : List Nat} {cs : List (List Value)}, rowsAt H g ms cs → ∀ (i : Nat) c, cs[i]? = some c → ∃ m, ms[i]? = some m ∧ H m = some (.cells (c.map (ren1 g)) false)
  | [], [], _, i, c, h => by simp at h
  | m :: ms, c :: cs, h, i, c', hc => by
    cases i with
    | zero => simp at hc; subst hc; exact ⟨m, rfl, h.1⟩
    | succ i => simpa using rowsAt_get h.2 i c' (by simpa using hc)
theorem upL_ids : ∀ (cs : List (List Value)) (n id : Nat), id ∈ (upL n cs).map (·.1) ↔ n ≤ id ∧ id < n + cs.length
  | [], n, id => by simp [upL]
  | c :: cs, n, id => by
    simp only [upL, List.map_cons, List.mem_cons, upL_ids cs (n + 1) id, List.length_cons]
    omega
theorem upL_get {H : IHeap} : ∀ (cs : List (List Value)) (n id : Nat) (o : IObj), n ≤ id → id < n + cs.length → upds H (upL n cs) id = some o → ∃ c, cs[id - n]? = some c ∧ o = .cells c false := by
  intro cs
  induction cs generalizing H with
  | nil => intro n id o h1 h2; simp at h2; omega
  | cons c cs ih =>
    intro n id o h1 h2 h
    simp only [upL, upds] at h
    by_cases e : id = n
    · subst e
      have hnot : id ∉ (upL (id + 1) cs).map (·.1) := by rw [upL_ids]; omega
      rw [upds_not_mem hnot] at h
      simp only [upd, if_true, Option.some.injEq] at h
      exact ⟨c, by simp, h.symm⟩
    · obtain ⟨c', h3, h4⟩ := ih (n + 1) id o (by omega) (by simp only [List.length_cons] at h2; omega) h
      refine ⟨c', ?_, h4⟩
      have : id - n = id - (n + 1) + 1 := by omega
      rw [this]; simpa using h3
def allL (p : Nat → Prop) : List Nat → Prop
  | [] => True
  | x :: l => p x ∧ allL p l
theorem allL_spec {p : Nat → Prop} : ∀ {l : List Nat}, allL p l → ∀ x ∈ l, p x
  | y :: l, h, x, hx => by
    cases hx with
    | head => exact h.1
    | tail _ hx => exact allL_spec h.2 x hx
theorem RetP.news {D : Ty} {rs : List ResultVar} {n n'' n1 : Nat} {H H' : IHeap} {ex : Exit} {t : List Value} {v v' : Value} (ms : List Nat) {cs : List (List Value)} {up : Ups} (hx : ex = .normal ∨ ex = .ret) (hr : ires D t H' rs = some v') (hv : v' = ren (gL n ms) v) (hup : up = upL n cs) (hn1 : n1 = n + cs.length)
    (hm : allL (fun m => n ≤ m) ms) (hnd : ms.Nodup) (hH : rowsAt H' (gL n ms) ms cs) (hc : ∀ c ∈ cs, ∀ x ∈ c, okN1 (fun id => id < n + cs.length) x) (hok : okN (fun id => id < n + cs.length) v) : RetP D rs n H ⟨v, up, n1⟩ ex t H' n'' := by
  subst hv; subst hup; subst hn1
  have hlen := rowsAt_len hH
  have hm' : ∀ m ∈ ms, n ≤ m := allL_spec hm
  have hids : ∀ id, id ∈ (⟨v, upL n cs, n + cs.length⟩ : Eff).ids ↔ n ≤ id ∧ id < n + cs.length := fun id => upL_ids cs n id
  have hg : ∀ id, n ≤ id → id < n + cs.length → ∃ m, ms[id - n]? = some m ∧ gL n ms id = m := by
    intro id h1 h2
    have h3 : id - n < ms.length := by omega
    refine ⟨ms[id - n], by simp [h3], ?_⟩
    unfold gL
    rw [if_neg (by omega)]; simp [h3]
  refine ⟨hx, ?_⟩
  rw [hr]
  have hpp : ∀ id, (id < n + cs.length) → (id < n ∨ id ∈ (⟨v, upL n cs, n + cs.length⟩ : Eff).ids) := fun id h => by
    rw [hids]; omega
  refine ⟨gL n ms, fun id hid => if_pos hid, rfl, okN_mono hpp hok, ?_, ?_, ?_, ?_, Nat.le_add_right _ _⟩
  · intro id hid o ho
    obtain ⟨h1, h2⟩ := (hids id).1 hid
    obtain ⟨c, h3, rfl⟩ := upL_get cs n id o h1 h2 ho
    obtain ⟨m, h4, h5⟩ := rowsAt_get hH _ c h3
    obtain ⟨m', h6, h7⟩ := hg id h1 h2
    rw [h4] at h6; cases h6
    refine ⟨by rw [h7, h5]; rfl, ?_⟩
    simp only [okO]
    intro x hx
    exact okN1_mono hpp (hc c (List.mem_of_getElem? h3) x hx)
  · intro id hid _
    obtain ⟨h1, h2⟩ := (hids id).1 hid
    obtain ⟨m', h6, h7⟩ := hg id h1 h2
    rw [h7]; exact hm' m' (List.mem_of_getElem? h6)
  · intro i hi j hj e
    obtain ⟨h1, h2⟩ := (hids i).1 hi
    obtain ⟨h3, h4⟩ := (hids j).1 hj
    obtain ⟨a, ha, ha'⟩ := hg i h1 h2
    obtain ⟨b, hb, hb'⟩ := hg j h3 h4
    rw [ha', hb'] at e
    subst e
    have ia : i - n < ms.length := by omega
    have ib : j - n < ms.length := by omega
    have ea : ms[i - n] = a := by simpa [ia] using ha
    have eb : ms[j - n] = a := by simpa [ib] using hb
    have hpw := List.pairwise_iff_getElem.1 hnd
    rcases Nat.lt_trichotomy (i - n) (j - n) with h | h | h
    · exact absurd (ea.trans eb.symm) (hpw _ _ ia ib h)
    · omega
    · exact absurd (eb.trans ea.symm) (hpw _ _ ib ia h)
  · intro id hid
    obtain ⟨h1, h2⟩ := (hids id).1 hid
    exact ⟨.inl h1, h2⟩
theorem gL_lt {n : Nat} {ms : List Nat} {id : Nat} (h : id < n) : gL n ms id = id := if_pos h
theorem gL_at {n : Nat} {ms : List Nat} {id m : Nat} (h : n ≤ id) (hm : ms[id - n]? = some m) : gL n ms id = m := by
  unfold gL; rw [if_neg (by omega), hm]; rfl
theorem plain_okN1 {p : Nat → Prop} {c : List Value} (h : c.all plain = true) : ∀ x ∈ c, okN1 p x := fun x hx => plain_ok (List.all_eq_true.1 h x hx)
/-! what was there stays -/
theorem hp_keep {H : IHeap} {n id : Nat} {o : IObj} {M : Ups} (hf : ∀ id, n ≤ id → H id = none) (h : H id = some o) (hM : wAll (fun m => n ≤ m) M) : hp H M id = some o := by
  induction M with
  | nil => exact h
  | cons p M ih =>
    obtain ⟨i, x⟩ := p
    rw [hp_ne]
    · exact ih hM.2
    · intro e
      subst e
      rw [hf _ hM.1] at h; cases h
theorem rdC_keep {α : Type} [Row α] {H : IHeap} {n : Nat} {M : Ups} {x : Value} {l : List α} (hf : ∀ id, n ≤ id → H id = none) (h : rdC H x = some l) (hM : wAll (fun m => n ≤ m) M) : rdC (hp H M) x = some l := by
  obtain ⟨a, cap, rfl⟩ := rdC_len h
  rcases rdC_inv h with ⟨rfl, h2, rfl, rfl⟩ | ⟨id, off, sp, c, ro, rfl, hc, hle, hl, _⟩
  · rfl
  · exact rdC_mk (hp_keep hf hc hM) hle hl rfl
theorem ires_cell {D : Ty} {N u ty id off : Nat} {L : List (Nat × Value)} {H : IHeap} {d : TD} {c : List Value} {ro : Bool} {v : Value} (h : opd N L (.tmp u) = some (.pointer (some ⟨id, off, none⟩))) (hd : D ty = some d) (hH : H id = some (.cells c ro)) (hv : rdVar d c off = some v) : ires D (dense N L) H [.cell u ty] = some v := by
  have h1 : (dense N L).getD u (.tuple #[]) = .pointer (some ⟨id, off, none⟩) := pl h
  simp only [ires, ires1, h1, hd, hH, Option.bind_some, hv]
/-- a slice's header with other numbers -/
def renSl (g : Nat → Nat) (s : Sl) : Sl := ⟨s.a.map fun a => { a with block := g a.block }, s.len, s.cap⟩
def okSl (p : Nat → Prop) (s : Sl) : Prop := ∀ a, s.a = some a → p a.block
theorem ren_sl (g : Nat → Nat) (s : Sl) : ren1 g (enc s) = enc (renSl g s) := by
  obtain ⟨a, l, c⟩ := s
  cases a <;> rfl
theorem ok_sl {p : Nat → Prop} {s : Sl} (h : okSl p s) : okN1 p (enc s) := by
  obtain ⟨a, l, c⟩ := s
  cases a with
  | none => trivial
  | some a => exact h a rfl
end Go.Proofs.Ytdnnojblneccdaa
/-
  A slice of open capacity is given the capacity that it has; an assignment under a condition.
-/
namespace Go.Proofs.Ytdnnojblneccdaa
set_option linter.unusedSimpArgs false
set_option linter.unusedVariables false
open Go
open Enc (enc)
open Row (cel)
section
variable {P : Program} {Γ : Fns} {D : Ty} {K : Kinds} {W : Nat → Prop} {R : Option Nat} {N : Nat} {L : List (Nat × Value)} {H : IHeap} {M : Ups} {n : Nat}
theorem dense_self {k : Nat} {v : Value} (h : opd N L (.tmp k) = some v) : dense N ((k, v) :: L) = dense N L := by
  have hk := opd_tmp h
  rw [dense_get] at hk
  apply List.ext_getElem?
  intro i
  rw [dense_get, dense_get]
  by_cases hi : i = k
  · subst hi
    split
    · rename_i hl
      rw [if_pos hl] at hk
      rw [List.lookup_cons_self]
      simpa using hk.symm
    · rfl
  · have : List.lookup i ((k, v) :: L) = List.lookup i L := by
      rw [List.lookup_cons]
      have : (i == k) = false := by simpa using hi
      rw [this]
    rw [this]
theorem IW.close {cs : List Code} {Q : PostX} {id off len cap : Nat} {sp : Option Nat} (u : Nat) (hne : cs ≠ []) (hu : opd N L (.tmp u) = some (.slice (some ⟨id, off, sp⟩) len cap))
    (h : ∀ cap', cap ≤ cap' → IW P W R cs Q (dense N ((u, .slice (some ⟨id, off, none⟩) len cap') :: L)) (hp H M) n) : IW P W R cs Q (dense N L) (hp H M) n := by
  cases cs with
  | nil => exact (hne rfl).elim
  | cons c cs =>
    intro ρ0 w0 m0 ρ a w hs
    obtain ⟨y, hy, hv⟩ := hs.tr.val u _ (opd_tmp hu)
    have main : ∃ cap', cap ≤ cap' ∧ VR ρ (.slice (some ⟨id, off, none⟩) len cap') y := by
      cases hv with
      | slice off len cap h => exact ⟨cap, Nat.le_refl _, .slice _ _ _ h⟩
      | void a' => exact ⟨0, Nat.le_refl _, .void a'⟩
      | oslice h hc hl hk => exact ⟨_, hc, .slice _ _ _ h⟩
    obtain ⟨cap', hc, hv'⟩ := main
    refine h cap' hc ρ0 w0 m0 ρ a w { hs with tr := ⟨?_, ?_⟩ }
    · rw [hs.tr.size, dense_length, dense_length]
    · intro i x hx
      by_cases hi : i = u
      · subst hi
        rw [dense_get] at hx
        split at hx
        · rw [List.lookup_cons_self] at hx
          cases hx
          exact ⟨y, hy, hv'⟩
        · cases hx
      · refine hs.tr.val i x ?_
        rw [dense_get] at hx ⊢
        rw [List.lookup_cons] at hx
        have : (i == u) = false := by simpa using hi
        rw [this] at hx; exact hx
/-! lists -/
theorem rdC_one {α : Type} [Row α] {id cap : Nat} {sp : Option Nat} {ro : Bool} {x : α} (hH : H id = some (.cells (cel x) ro)) : rdC H (.slice (some ⟨id, 0, sp⟩) 1 cap) = some [x] := by
  refine rdC_all (ro := ro) ?_ rfl
  rw [hH, cels_cons, cels_nil, List.append_nil]
theorem si_conv {e : Operand → Value} {s t : TypeId} {x : Operand} {id off len cap : Nat} {sp : Option Nat} (ha : e x = .slice (some ⟨id, off, sp⟩) len cap) : seesIds e (.convert s t x) = [id] := by simp only [seesIds, ha, blk]
end
end Go.Proofs.Ytdnnojblneccdaa
/-
  A world as ideal memory: every block under its own number; arguments that lead into it.
-/
namespace Go.Proofs.Ytdnnojblneccdaa
set_option linter.unusedSimpArgs false
set_option linter.unusedVariables false
open Go
open Enc (enc)
open Row (cel)
def ρW (W : World) : Ren := fun id => match W.heap[id]? with
  | some (.cells c _ _) => some (id, c.size)
  | _ => none
/-- what of a cell is known -/
def conv (W : World) (v : Value) : Value := match v with
  | .slice (some ⟨r, _, none⟩) _ _ => if (ρW W r).isSome then v else .tuple #[]
  | .pointer (some ⟨r, _, none⟩) => if (ρW W r).isSome then v else .tuple #[]
  | v => if clo1 v then v else .tuple #[]
theorem conv_vr (W : World) (v : Value) : VR (ρW W) (conv W v) v := by
  unfold conv
  split
  · rename_i r off l c
    split
    · rename_i h
      obtain ⟨x, hx⟩ := Option.isSome_iff_exists.1 h
      have : x = (r, x.2) := by
        unfold ρW at hx; split at hx <;> cases hx; rfl
      rw [this] at hx
      exact .slice _ _ _ hx
    · exact .unk _
  · rename_i r off
    split
    · rename_i h
      obtain ⟨x, hx⟩ := Option.isSome_iff_exists.1 h
      have : x = (r, x.2) := by
        unfold ρW at hx; split at hx <;> cases hx; rfl
      rw [this] at hx
      exact .ptr _ hx
    · exact .unk _
  · split
    · rename_i h; exact VR.clo1 _ h
    · exact .unk _
theorem ρW_below (W : World) : Below W.heap.size (ρW W) := fun id h => by
  unfold ρW
  rw [Array.getElem?_eq_none h]
section
variable {P : Program} {W : World}
theorem rowAt_le {fits : TypeId → Bool} : ∀ {d : Nat} {e : TypeId} {count off n : Nat}, Go.rowAt P fits d e count off n = true → off ≤ count * P.cellsOf e
  | 0, _, _, _, _, h => by simp [Go.rowAt] at h
  | d + 1, e, count, off, n, h => by
    simp only [Go.rowAt] at h
    by_cases hs : P.cellsOf e = 0
    · rw [if_pos hs] at h; cases h
    · rw [if_neg hs] at h
      simp only [Bool.or_eq_true, Bool.and_eq_true, beq_iff_eq, decide_eq_true_iff] at h
      have hdm := Nat.div_add_mod off (P.cellsOf e)
      rcases h with ⟨⟨h1, h2⟩, _⟩ | ⟨h1, _⟩
      · rw [h1, Nat.add_zero] at hdm
        rw [← hdm, Nat.mul_comm]
        exact Nat.mul_le_mul_right _ (by omega)
      · have h3 := Nat.mod_lt off (Nat.pos_of_ne_zero hs)
        have h4 : (off / P.cellsOf e + 1) * P.cellsOf e ≤ count * P.cellsOf e := Nat.mul_le_mul_right _ h1
        rw [Nat.add_mul, Nat.one_mul, Nat.mul_comm] at h4
        omega
theorem liesAt_le : ∀ {d : Nat} {e : TypeId} {count off u n : Nat}, Go.liesAt P d e count off u n = true → off ≤ count * P.cellsOf e
  | 0, _, _, _, _, _, h => by simp [Go.liesAt] at h
  | d + 1, e, count, off, u, n, h => by
    unfold Go.liesAt at h
    rw [Bool.or_eq_true] at h
    rcases h with h | h
    · exact rowAt_le h
    · split at h
      · exact liesAt_le h
      · cases h
/-- a slice's header: where it lies -/
def SlOk (W : World) (s : Sl) : Prop := (s.a = none ∧ s.len = 0 ∧ s.cap = 0) ∨ ∃ r off c T fz, s.a = some ⟨r, off, none⟩ ∧ W.heap[r]? = some (.cells c T fz) ∧ off ≤ c.size
theorem slOk_of {base : Nat} {t e : TypeId} {v : Value} (ht : P.underlying t = some (.slice e)) (h : Cell.okWide P W .any base t v) : ∃ s : Sl, v = enc s ∧ SlOk W s := by
  cases v <;> simp only [Cell.okWide, ht, Cell.ok] at h
  rename_i a len cap
  cases a with
  | none =>
    cases len with
    | zero => cases cap with
      | zero => exact ⟨⟨none, 0, 0⟩, rfl, .inl ⟨rfl, rfl, rfl⟩⟩
      | succ c => exact False.elim h
    | succ l => exact False.elim h
  | some a =>
    simp only at h
    obtain ⟨_, _, _, h1, row, cells, h2, h3⟩ := h
    obtain ⟨r, off, sp⟩ := a
    simp only at h1; subst h1
    unfold World.shape? at h2
    split at h2
    · rename_i c T fz hc
      cases h2
      refine ⟨⟨some ⟨r, off, none⟩, len, cap⟩, rfl, .inr ⟨r, off, c, _, fz, rfl, hc, ?_⟩⟩
      exact Nat.le_trans (liesAt_le h3) (Nat.div_mul_le_self _ _)
    · cases h2
theorem slOk_vr {s : Sl} (h : SlOk W s) : VR (ρW W) (enc s) (enc s) := by
  obtain ⟨a, len, cap⟩ := s
  rcases h with ⟨h1, h2, h3⟩ | ⟨r, off, c, T, fz, h1, h2, h3⟩
  · simp only at h1 h2 h3; subst h1; subst h2; subst h3; exact .nilSlice
  · simp only at h1; subst h1
    exact .slice (κ := c.size) _ _ _ (by simp only [ρW, h2])
variable {H : Type} {en : TypeId × Value → H} {spare : Nat → Bool} {held : Bool}
/-- the cells of such an element are those of a member of that Lean type, and known -/
def ElemOk (H : Type) (P : Program) (W : World) (e : TypeId) (α : Type) [Row α] : Prop :=
  P.cellsOf e = Row.sz α ∧ ∀ (en : TypeId × Value → H) (spare : Nat → Bool) (held : Bool) (fuel : Nat) (cs : List Value) x, DataW.trod en P W 0 spare held fuel e cs = some x → ∃ a : α, cs = cel a ∧ cs.map (conv W) = cs
theorem trod_int_inv {base fuel : Nat} {t : TypeId} {k : IntKind} {cs : List Value} {x : DataW H × List MemPlace} (ht : P.underlying t = some (.int k)) (h : DataW.trod en P W base spare held fuel t cs = some x) : ∃ n, cs = [.int k n] ∧ k.min ≤ n ∧ n ≤ k.max := by
  obtain ⟨n, h1, _, h2⟩ := DataW.trod_int ht h
  simp only [Lit.wf, Bool.and_eq_true, decide_eq_true_iff] at h2
  exact ⟨n, h1, h2⟩
theorem elemOk_u8 {t : TypeId} (ht : P.underlying t = some (.int .u8)) (hc : P.cellsOf t = 1) : ElemOk H P W t UInt8 := by
  refine ⟨hc, fun en spare held fuel cs x h => ?_⟩
  obtain ⟨n, rfl, h1, h2⟩ := trod_int_inv ht h
  have h1 : 0 ≤ n := h1
  have h2 : n ≤ 255 := h2
  refine ⟨UInt8.ofNat n.toNat, ?_, rfl⟩
  have : (UInt8.ofNat n.toNat).toNat = n.toNat := UInt8.toNat_ofNat_of_lt' (by simp [UInt8.size]; omega)
  show [Value.int .u8 n] = [Value.int .u8 ((UInt8.ofNat n.toNat).toNat : Int)]
  rw [this, Int.toNat_of_nonneg h1]
theorem drop_take_map (f : Value → Value) (c : List Value) (a b : Nat) : ((c.map f).drop a).take b = ((c.drop a).take b).map f := by
  rw [List.map_take, List.map_drop]
end
end Go.Proofs.Ytdnnojblneccdaa
/-
  Loops over functions.
-/
namespace Go.Proofs.Ytdnnojblneccdaa
set_option linter.unusedSimpArgs false
set_option linter.unusedVariables false
open Go
open Enc (enc)
open Row (cel)
theorem FW_room {R : Option Nat} {k : Nat} : (FW R).room k := fun d hd => by cases hd
/-- the bound does not matter -/
theorem wpIn_any {R : Option Nat} {n m : Nat} {P : Program} {c : Code} {Q : Exit → Act → World → Prop} {a : Act} {w : World} (h : c.wpIn (FW R) n P Q a w) : c.wpIn (FW R) m P Q a w :=
  fun b k cs h1 h2 _ => h b k cs h1 h2 FW_room
theorem wpOps_one {F : Fence} {n : Nat} {P : Program} {o : Oper} {Q : Exit → Act → World → Prop} {a : Act} {w : World} (hg : o.guard = none) (h : o.wpIn F n P a w (fun a w => Q .normal a w) Q) : wpOpsIn F n P #[o] Q (List.range 1) a w := by
  show wpOpsIn F n P #[o] Q [0] a w
  unfold wpOpsIn
  show (if Region.wanted o _ = true then _ else _)
  rw [if_pos (by unfold Region.wanted; rw [hg])]
  exact h
/-- nothing of cells was written; new blocks, and one that is no cells -/
theorem St.grown {W : Nat → Prop} {ρ0 ρ : Ren} {w0 w w' : World} {m0 n B : Nat} {t : List Value} {H : IHeap} {a : Act} {row : Option Nat} (hs : St W ρ0 w0 m0 t H n ρ a w) (hg : w.grownBy w' row)
    (hrow : ∀ r, row = some r → B ≤ r ∧ ∃ o : Obj, w.heap[r]? = some o ∧ o.isCells = false) (hB : w0.heap.size ≤ B) (hD : ∀ d ∈ a.defers, ∀ D, d = mark D → D < B) (hcl : ∀ id o, H id = some o → ∃ c ro, o = .cells c ro) : St W ρ0 w0 m0 t H n ρ a w' := by
  have hsame : ∀ k, k < w.heap.size → (k < B ∨ ∃ o : Obj, w.heap[k]? = some o ∧ o.isCells = true) → w'.heap[k]? = w.heap[k]? := by
    intro k hk h
    refine hg.block k hk fun e => ?_
    obtain ⟨h1, o, h2, h3⟩ := hrow k e.symm
    rcases h with h | ⟨o', h4, h5⟩
    · omega
    · rw [h2] at h4; cases h4; rw [h3] at h5; cases h5
  refine ⟨hs.tr, hs.below, ⟨fun id o ho => ?_, hs.heap.inj⟩, ⟨hs.step.le, hs.step.new, Nat.le_trans hs.step.size hg.size, fun r hr hn => ?_, hg.os.trans hs.step.os, hg.tape.trans hs.step.tape, hg.output.trans hs.step.output, fun k o hk ho => ?_⟩, hs.le, hs.fresh, ?_⟩
  · obtain ⟨r, κ, h1, h2⟩ := hs.heap.obj id o ho
    refine ⟨r, κ, h1, ?_⟩
    obtain ⟨c, ro, rfl⟩ := hcl id o ho
    have h2' := h2
    obtain ⟨c', T, fz, h3, _⟩ := h2'
    rw [hsame r (Array.getElem?_eq_some_iff.1 h3).1 (.inr ⟨_, h3, rfl⟩)]
    exact h2
  · have hr' : r < w.heap.size := Nat.lt_of_lt_of_le hr hs.step.size
    rw [hsame r hr' (.inl (by omega))]
    exact hs.step.keep r hr hn
  · have h1 := hs.step.others k o hk ho
    have hk0 := (Array.getElem?_eq_some_iff.1 hk).1
    rw [hsame k (Array.getElem?_eq_some_iff.1 h1).1 (.inl (by omega))]
    exact h1
  · obtain ⟨ds, h1, h2, h3⟩ := hs.coll
    refine ⟨ds, h1, h2, fun D hDm => ?_⟩
    obtain ⟨h4, h5⟩ := h3 D hDm
    refine ⟨h4, ?_⟩
    rw [hsame D (Array.getElem?_eq_some_iff.1 h5).1 (.inl (hD (mark D) (by rw [h1]; exact List.mem_map.2 ⟨D, hDm, rfl⟩) D rfl))]
    exact h5
/-- these blocks lie as they lay -/
def KeepIds (ρ : Ren) (ks : List Nat) (W W' : World) : Prop := ∀ id ∈ ks, ∀ r κ, ρ id = some (r, κ) → W'.heap[r]? = W.heap[r]?
section
variable {P : Program} {Γ : Fns} {D : Ty} {K : Kinds} {W : Nat → Prop} {N : Nat} {L : List (Nat × Value)} {H : IHeap} {M : Ups} {n : Nat}
/-- what an iterator does: it hands on these pieces, one after another, and keeps to what it was given -/
def Gives (P : Program) (gf : Nat) (caps : Array Value) (k : Nat) (piece : Fin k → Value) (ks : List Nat) (H : IHeap) (n : Nat) : Prop :=
  ∀ (w : World) (ρ : Ren) (lb : Array Value), Below n ρ → HR ρ H w → lb.size = caps.size → (∀ (i : Nat) x y, caps[i]? = some x → lb[i]? = some y → VR ρ x y) →
    ∃ encs : Fin k → Value, (∀ i, VR ρ (piece i) (encs i)) ∧ SeqStopsK (FW none) 1 P gf lb (fun i => #[encs i]) (KeepIds ρ ks) (fun xs => xs = List.finRange k) (fun _ => True) k w
theorem IW.rangeFunc {g : Operand} {p d aid ty : Nat} {pos : String} {aft : Array Edge} {body : Code} {cs : List Code} {Q : PostX} {gf : Nat} {fn : Func} {caps : Array Value} {k : Nat} {ks ws : List Nat} (piece : Fin k → Value)
    (sM : List (Fin k) → Ups) (sn : List (Fin k) → Nat)
    (hpn : Nat.blt p N = true) (hg : opd N L g = some (.func (.func gf) #[] caps)) (hf : P.funcs[gf]? = some fn) (hb : fn.body.isSome = true) (hname : (fn.name == "runtime.NumGoroutine") = false)
    (hit : Gives P gf caps k piece ks (hp H M) n) (hM : (hp H (sM [])).le (hp H M)) (hn : n ≤ sn [])
    (hWn : ∀ id, n ≤ id → W id) (hks : ∀ pre, ∀ id ∈ ks, (hp H (sM pre) id).isSome = true) (hws : ∀ id ∈ ws, W id ∧ id ∉ ks ∧ ∀ pre, (hp H (sM pre) id).isSome = true)
    (hcl : ∀ pre id o, hp H (sM pre) id = some o → ∃ c ro, o = .cells c ro) (hmono : ∀ pre x, sn pre ≤ sn (pre ++ [x])) (hle : ∀ pre, n ≤ sn pre)
    (round : ∀ (l : Nat) (pre : List (Fin k)) (x : Fin k) (Wb : Nat → Prop), (∀ id, sn pre ≤ id → Wb id) → (∀ id ∈ ws, Wb id) →
      IW P Wb (some l) [body] (PostX.seq (fun t' H' n' => ∃ M', H' = hp H M' ∧ (hp H (sM (pre ++ [x]))).le (hp H M') ∧ n' ≤ sn (pre ++ [x])) (fun _ _ _ _ => False)) (dense N ((d, piece x) :: (p, piece x) :: L)) (hp H (sM pre)) (sn pre))
    (h : IW P W none cs Q (dense N L) (hp H (sM (List.finRange k))) (sn (List.finRange k))) :
    IW P W none (.rangeFunc g #[p] (.region aid #[{ dst := some d, op := .assign (.tmp p), type := ty, pos := pos, after := aft, guard := none }] false) body :: cs) Q (dense N L) (hp H M) n := by
  intro ρ0 w0 m0 ρ a w hs
  have hgv := hs.tr.ev g
  rw [pl hg] at hgv
  generalize hga : a.eval g = gv at hgv
  cases hgv with
  | func _ h1 h2 h3 h4 =>
    rename_i b lb
    have hb0 : b = #[] := Array.size_eq_zero_iff.1 (by rw [← h1]; rfl)
    subst hb0
    obtain ⟨encs, hvr, hseq⟩ := hit w ρ lb hs.below hs.heap h3.symm h4
    have hmarks : ∀ d ∈ a.defers, ∀ D, d = mark D → D < w.heap.size := by
      intro d hd D e
      obtain ⟨ds, e1, e2, e3⟩ := hs.coll
      rw [e1] at hd
      obtain ⟨D', hD', rfl⟩ := List.mem_map.1 hd
      have : D' = D := by simpa [mark] using e
      subst this
      exact (Array.getElem?_eq_some_iff.1 (e3 D' hD').2).1
    refine wpIn_any (n := 2) (wpIn_rangeFunc_ownF (α := Fin k) (encs := fun i => #[encs i]) (Kp := KeepIds ρ ks) (S := fun xs => xs = List.finRange k) (Sp := fun _ => True) (N := k) (w0 := w) rfl (by omega) hga trivial ?_ hseq ?_ ?_ (Go.RowKit.Below.refl _ _) (fun x => rfl)
      (fun pre W1 => ∃ ρs, ρ.le ρs ∧ St W ρ0 w0 m0 (dense N L) (hp H (sM pre)) (sn pre) ρs a W1) (fun _ _ _ => False) ?_ (fun c s W1 W2 row hf => hf.elim) ⟨ρ, ρ.le_refl, hs.forget (fgt_mk rfl fun i x y h1 h2 => by rw [h1] at h2; cases h2; exact .inr rfl) hM hn⟩
      (fun x => ({ tmps := a.tmps.setIfInBounds p (encs x), defers := [] } : Act).put (some d) (encs x)) ?_ ?_ ?_ ?_)
    · intro args w1
      obtain ⟨c, hc⟩ := Option.isSome_iff_exists.1 hb
      have hn' : ¬ fn.name = "runtime.NumGoroutine" := by simpa using hname
      simp [callFunc, hf, hn', hc, Sem.run]
    · intro A B C hab hbc id hid r κ hr
      rw [hbc id hid r κ hr, hab id hid r κ hr]
    · intro W1 l o o' hl _ _ _ id hid r κ hr
      refine World.putObj_heap_other fun e => ?_
      obtain ⟨x, hx⟩ := Option.isSome_iff_exists.1 (hks [] id hid)
      obtain ⟨r', κ', e1, e2⟩ := hs.heap.obj id x (hM id x hx)
      rw [hr] at e1; cases e1
      have := e2.lt
      omega
    · rintro pre W1 W2 row ⟨ρs, hle1, hst⟩ hgr hrow
      exact ⟨ρs, hle1, hst.grown hgr hrow (hs.step.size) hmarks (hcl pre)⟩
    · intro l x W1 Kk hk
      refine wpIn_region ?_
      refine wpOps_one rfl ?_
      have hpl : p < a.tmps.size := by
        rw [hs.tr.size, dense_length]; exact Nat.le_of_ble_eq_true hpn
      have hev : ({ tmps := (Array.zip #[p] #[encs x]).foldl (fun t q => t.setIfInBounds q.1 q.2) a.tmps, defers := [] } : Act).eval (.tmp p) = encs x := by
        simp [Act.eval, Array.getD_eq_getD_getElem?, hpl]
      refine ⟨FW_about, ?_⟩
      show Oper.uponIn _ _ _ _ _ _ _ (.ok (.value (Act.eval _ (.tmp p))) W1)
      rw [hev]
      have : (Array.zip #[p] #[encs x]).foldl (fun t q => t.setIfInBounds q.1 q.2) a.tmps = a.tmps.setIfInBounds p (encs x) := by simp
      show Kk _ _
      rw [← this] at hk
      exact hk
    · rintro l pre x W1 ⟨ρs, hle1, hst⟩ hlen
      let Wb : Nat → Prop := fun id => W id ∧ ∀ i ∈ ks, ∀ r κ κ', ρ i = some (r, κ) → ρs id ≠ some (r, κ')
      have hnew : ∀ id, sn pre ≤ id → Wb id := fun id hid => ⟨hWn id (Nat.le_trans (hle pre) hid), fun i _ r κ κ' _ h => by rw [hst.below id hid] at h; cases h⟩
      have hold : ∀ id ∈ ws, Wb id := fun id hid => by
        obtain ⟨g1, g2, g3⟩ := hws id hid
        refine ⟨g1, fun i hi r κ κ' hr h => g2 ?_⟩
        obtain ⟨o1, e1⟩ := Option.isSome_iff_exists.1 (g3 pre)
        obtain ⟨o2, e2⟩ := Option.isSome_iff_exists.1 (hks pre i hi)
        have := hst.heap.inj id i o1 o2 r κ' κ e1 e2 h (hle1 _ _ hr)
        rw [this]; exact hi
      have htr : TR ρs (dense N ((d, piece x) :: (p, piece x) :: L)) (({ tmps := a.tmps.setIfInBounds p (encs x), defers := [] } : Act).put (some d) (encs x)) := by
        have t1 := hst.tr.put (some p) ((hvr x).mono hle1)
        rw [tput_dense] at t1
        have t2 : TR ρs (dense N (putL (some p) (piece x) L)) ({ tmps := a.tmps.setIfInBounds p (encs x), defers := [] } : Act) := ⟨t1.size, t1.val⟩
        have t3 := t2.put (some d) ((hvr x).mono hle1)
        rw [tput_dense] at t3
        exact t3
      have hrun := IW.one (round l pre x Wb hnew hold) ρs W1 (sn pre) ρs _ W1 (St.refl htr hst.below hst.heap rfl)
      refine wpIn_mono hrun ?_
      rintro ex a3 W3 ⟨ρ3, t3, H3, n3, hs3, hq⟩
      cases ex with
      | normal =>
        obtain ⟨M3, rfl, g1, g2⟩ := hq
        refine ⟨⟨hs3.step.size, hs3.step.others⟩, fun i hi r κ hr => ?_, ρ3, Ren.le_trans hle1 hs3.step.le, ?_⟩
        · obtain ⟨o, ho⟩ := Option.isSome_iff_exists.1 (hks pre i hi)
          obtain ⟨r', κ', e1, e2⟩ := hst.heap.obj i o ho
          have e3 := hle1 _ _ hr
          rw [e1] at e3; cases e3
          exact hs3.step.keep r e2.lt fun id κ' h1 h2 => h2.2 i hi r κ κ' hr h1
        · exact ⟨hst.tr.mono hs3.step.le, hs3.below.mono g2, hs3.heap.sub g1, hst.step.trans (V := W) (hs3.step.mono fun id h => h.1) (fun _ _ _ h => h), Nat.le_trans hst.le (hmono pre x),
            fun id y hy => (hs3.fresh id y hy).elim (hst.fresh id y) (fun h => .inr (Nat.le_trans hst.le h)), hst.coll.on hs3.step.others⟩
      | _ => exact hq.elim
    · rintro D xs W1 hD rfl ⟨ρs, hle1, hst⟩ hdef
      refine ⟨ρs, dense N L, hp H (sM (List.finRange k)), sn (List.finRange k), ⟨⟨hst.tr.size, hst.tr.val⟩, hst.below, hst.heap, hst.step, hst.le, hst.fresh, ?_⟩, h⟩
      obtain ⟨ds, e1, e2, e3⟩ := hst.coll
      refine ⟨D :: ds, by simp only [List.map_cons, e1]; rfl, List.nodup_cons.2 ⟨fun hm => ?_, e2⟩, fun D' hD' => ?_⟩
      · have := hmarks (mark D) (by rw [e1]; exact List.mem_map.2 ⟨D, hm, rfl⟩) D rfl
        omega
      · rcases List.mem_cons.1 hD' with rfl | hD'
        · exact ⟨Nat.le_trans hs.step.size hD, hdef⟩
        · exact e3 D' hD'
    · intro D c pre W1 hD _ hf
      exact hf.elim
end
end Go.Proofs.Ytdnnojblneccdaa
/-
  Iterators: pieces of them that only read, and their calls of yield.
-/
namespace Go.Proofs.Ytdnnojblneccdaa
set_option linter.unusedSimpArgs false
set_option linter.unusedVariables false
open Go
open Enc (enc)
/-- an iterator's state -/
structure Ist (ρ : Ren) (t : List Value) (H : IHeap) (n : Nat) (a : Act) (w : World) : Prop where
  tr : TR ρ t a
  below : Below n ρ
  heap : HR ρ H w
  dfr : a.defers = []
theorem Ist.st {W : Nat → Prop} {ρ : Ren} {t : List Value} {H : IHeap} {n : Nat} {a : Act} {w : World} (h : Ist ρ t H n a w) : St W ρ w n t H n ρ a w := St.refl h.tr h.below h.heap h.dfr
theorem Step.grownBy {ρ ρ' : Ren} {w w' : World} (h : Step (fun _ => False) ρ ρ' w w') : w.grownBy w' none :=
  ⟨h.os, h.tape, h.output, h.size, fun k hk _ => h.keep k hk fun _ _ _ => fun x => x⟩
section
variable {P : Program} {Γ : Fns} {D : Ty} {K : Kinds} {N : Nat} {L : List (Nat × Value)} {H : IHeap} {M : Ups} {n : Nat} {ρ : Ren} {a : Act} {w : World}
/-- a region that writes nothing -/
theorem reg_run (hE : Env P Γ D K) {id : Nat} {ops : List Oper} {Q : Post3} {Q' : Exit → Act → World → Prop} (h : vcS Γ D K (fun _ => False) ops.toArray Q ops (dense N L) (hp H M) n) (hs : Ist ρ (dense N L) (hp H M) n a w)
    (hk : ∀ ρ' t' H' n' a' w', ρ.le ρ' → Ist ρ' t' H' n' a' w' → w.grownBy w' none → Q t' H' n' → Q' .normal a' w') : (Code.region id ops.toArray false).wpIn (FW none) 0 P Q' a w := by
  refine wpIn_region ?_
  have hmap : (List.range ops.toArray.size).map (fun i => ops.toArray[i]?) = ops.map some := by
    apply List.ext_getElem?
    intro i
    simp only [List.getElem?_map, List.getElem?_toArray, List.size_toArray]
    by_cases hi : i < ops.length
    · simp [hi]
    · simp [List.getElem?_eq_none (Nat.le_of_not_lt hi), List.getElem?_eq_none (show (List.range ops.length).length ≤ i by simp; omega)]
  exact vcS_ok hE _ ops _ _ _ ρ a w hmap h hs.st fun ρ' t' H' n' a' w' h1 h2 h3 => hk ρ' t' H' n' a' w' h1.step.le ⟨h1.tr, h1.below, h1.heap, h2.trans hs.dfr⟩ h1.step.grownBy h3
theorem reg_drawn (hE : Env P Γ D K) (hm : P.follows .mixedOrders = true) {id : Nat} {ops : List Oper} {Q : Post3} {Q' : Exit → Act → World → Prop} (pres : List (List Nat)) (hR : regOk (dense N L).length ops pres = true)
    (h : vcD Γ D K (fun _ => False) ops.toArray (hp H M) n Q ops pres [] (dense N L) n) (hs : Ist ρ (dense N L) (hp H M) n a w)
    (hk : ∀ ρ' t' H' n' a' w', ρ.le ρ' → Ist ρ' t' H' n' a' w' → w.grownBy w' none → Q t' H' n' → Q' .normal a' w') : (Code.region id ops.toArray true).wpIn (FW none) 0 P Q' a w :=
  wp_drawn hE hm hR hs.st h fun ρ' t' H' n' a' w' h1 h2 h3 => hk ρ' t' H' n' a' w' h1.step.le ⟨h1.tr, h1.below, h1.heap, h2.trans hs.dfr⟩ h1.step.grownBy h3
/-- the head of a region -/
theorem reg_head (hE : Env P Γ D K) {id : Nat} {ops : List Oper} {Q : Post3} {Q' : Exit → Act → World → Prop} (i : Nat) (js : List Nat) (hi : i ≤ ops.length) (hr : List.range ops.length = List.range i ++ js)
    (h1 : vcS Γ D K (fun _ => False) ops.toArray Q (ops.take i) (dense N L) (hp H M) n) (hs : Ist ρ (dense N L) (hp H M) n a w)
    (hk : ∀ ρ' t' H' n' a' w', ρ.le ρ' → Ist ρ' t' H' n' a' w' → w.grownBy w' none → Q t' H' n' → wpOpsIn (FW none) 0 P ops.toArray Q' js a' w') :
    (Code.region id ops.toArray false).wpIn (FW none) 0 P Q' a w := by
  refine wpIn_region ?_
  rw [List.size_toArray, hr]
  have hmap : (List.range i).map (fun i => ops.toArray[i]?) = (ops.take i).map some := by
    apply List.ext_getElem?
    intro j
    simp only [List.getElem?_map, List.getElem?_toArray, List.getElem?_take]
    by_cases hj : j < i
    · simp [hj, show j < ops.length by omega]
    · simp [hj, List.getElem?_eq_none (show (List.range i).length ≤ j by simp; omega)]
  exact vcS_okJ hE js _ _ _ _ _ ρ a w hmap h1 hs.st fun ρ' t' H' n' a' w' g1 g2 g3 => hk ρ' t' H' n' a' w' g1.step.le ⟨g1.tr, g1.below, g1.heap, g2.trans hs.dfr⟩ g1.step.grownBy g3
/-- its tail -/
theorem ops_run (hE : Env P Γ D K) {ops : Array Oper} {Q : Post3} {Q' : Exit → Act → World → Prop} (is : List Nat) (os : List Oper) (hi : is.map (fun i => ops[i]?) = os.map some)
    (h1 : vcS Γ D K (fun _ => False) ops Q os (dense N L) (hp H M) n) (hs : Ist ρ (dense N L) (hp H M) n a w)
    (hk : ∀ ρ' t' H' n' a' w', ρ.le ρ' → Ist ρ' t' H' n' a' w' → w.grownBy w' none → Q t' H' n' → Q' .normal a' w') : wpOpsIn (FW none) 0 P ops Q' is a w :=
  vcS_ok hE is os _ _ _ ρ a w hi h1 hs.st fun ρ' t' H' n' a' w' g1 g2 g3 => hk ρ' t' H' n' a' w' g1.step.le ⟨g1.tr, g1.below, g1.heap, g2.trans hs.dfr⟩ g1.step.grownBy g3
theorem Ist.put {d : Tmp} {v v' : Value} (h : Ist ρ (dense N L) H n a w) (hv : VR ρ v v') : Ist ρ (dense N ((d, v) :: L)) H n (a.put (some d) v') w :=
  ⟨by have := h.tr.put (some d) hv; rwa [tput_dense] at this, h.below, h.heap, (put_defers _ _ _).trans h.dfr⟩
theorem Ist.blank {w' : World} (h : Ist ρ (dense N L) H n a w) : Ist ρ (dense N L) (hp (fun _ => none) []) n a w' := ⟨h.tr, h.below, ⟨fun _ _ e => (by cases e), fun _ _ _ _ _ _ _ e => (by cases e)⟩, h.dfr⟩
theorem Ist.world {w' : World} (h : Ist ρ (dense N L) H n a w) (hk : ∀ id o, H id = some o → ∀ r κ, ρ id = some (r, κ) → w'.heap[r]? = w.heap[r]?) : Ist ρ (dense N L) H n a w' :=
  ⟨h.tr, h.below, ⟨fun id o ho => by
    obtain ⟨r, κ, h1, h2⟩ := h.heap.obj id o ho
    exact ⟨r, κ, h1, by rw [hk id o ho r κ h1]; exact h2⟩, h.heap.inj⟩, h.dfr⟩
theorem Ist.keep {L' : List (Nat × Value)} (h : Ist ρ (dense N L) H n a w) (hs : subL L' L) : Ist ρ (dense N L') H n a w := by
  have := (h.st (W := fun _ => False)).forget (t' := dense N L') (fgt_dense hs) (fun _ _ h => h) (Nat.le_refl _)
  exact ⟨this.tr, this.below, this.heap, h.dfr⟩
/-- the start of a function -/
theorem tr_enter {args : List Value} {args' : Array Value} (h : ArgsR ρ args args') (hN : args.length ≤ N) : TR ρ (dense N (idxL 0 args)) { tmps := args' ++ Array.replicate (N - args'.size) undef, defers := [] } := by
  rw [← dense_init _ _ hN]
  refine ⟨by simp [h.1], fun i x hx => ?_⟩
  by_cases hi : i < args.length
  · rw [List.getElem?_append_left hi] at hx
    obtain ⟨y, e1, e2⟩ := h.2 i x hx
    exact ⟨y, by rw [Array.getElem?_append_left (by rw [h.1]; exact hi)]; exact e1, e2⟩
  · rw [List.getElem?_append_right (by omega)] at hx
    obtain ⟨h1, h2⟩ := List.getElem?_eq_some_iff.1 hx
    simp only [List.length_replicate] at h1
    simp only [List.getElem_replicate] at h2
    subst h2
    exact ⟨undef, by rw [Array.getElem?_append_right (by rw [h.1]; omega), h.1]; simp [h1], .unk _⟩
/-- the call of yield itself -/
theorem op_yield {ops : Array Oper} {i l ty : Nat} {js : List Nat} {o : Oper} {f y : Operand} {d : Tmp} {Q' : Exit → Act → World → Prop} {Rr : Ending → World → Prop} (ho : ops[i]? = some o) (hg : o.guard = none) (hd : o.dst = some d) (hop : o.op = .call ⟨.value f, #[y], #[ty]⟩)
    (hf : a.eval f = .func (.yield l) #[] #[]) (hy : YieldAt (FW none) 0 P l #[a.eval y] w Rr)
    (hk : ∀ e w', Rr e w' → ∃ v, e = .returned v ∧ wpOpsIn (FW none) 0 P ops Q' js (a.put (some d) v) w') : wpOpsIn (FW none) 0 P ops Q' (i :: js) a w := by
  unfold wpOpsIn
  rw [ho]
  show (if Region.wanted o _ = true then _ else _)
  rw [if_pos (by unfold Region.wanted; rw [hg])]
  refine ⟨FW_about, ?_⟩
  obtain ⟨fn, tmps, assign, body, h1, h2⟩ := hy
  have hrun : (o.semAt (FW none).round a.eval).run P w = .ok (.round l fn tmps assign body) w := by
    show (execOp a.eval o).run P w = _
    obtain ⟨dst, op, type, pos, after, guard⟩ := o
    simp only at hop
    subst hop
    simp only [execOp, resolve, hf, Deferred.ofValue]
    simpa [invoke] using h1
  rw [hrun]
  refine ⟨fun h => (by cases h), h2.mono fun e w' he => ?_⟩
  obtain ⟨v, rfl, h3⟩ := hk e w' he
  show wpOpsIn _ _ _ _ _ _ _ _
  rw [hd]; exact h3
theorem Ist.bool {x : Operand} {b : Bool} (h : Ist ρ (dense N L) H n a w) (hx : opd N L x = some (.bool b)) : a.eval x = .bool b := by
  have := h.tr.ev x
  rw [pl hx] at this
  exact bool_inv this
theorem Ist.fn {x : Operand} {f : Fn} (h : Ist ρ (dense N L) H n a w) (hx : opd N L x = some (.func f #[] #[])) : a.eval x = .func f #[] #[] := by
  have := h.tr.ev x
  rw [pl hx] at this
  generalize a.eval x = y at this
  cases this with
  | func _ h1 h2 h3 h4 =>
    rename_i b d
    have hb : b = #[] := Array.size_eq_zero_iff.1 (by rw [← h1]; rfl)
    have hd : d = #[] := Array.size_eq_zero_iff.1 (by rw [← h3]; rfl)
    rw [hb, hd]
theorem Ist.slice {x : Operand} {id o l c r κ : Nat} (h : Ist ρ (dense N L) H n a w) (hx : opd N L x = some (.slice (some ⟨id, o, none⟩) l c)) (hr : ρ id = some (r, κ)) (hc : c ≠ 0 := by decide) : a.eval x = .slice (some ⟨r, o, none⟩) l c := by
  have := h.tr.ev x
  rw [pl hx] at this
  generalize a.eval x = y at this
  cases this with
  | void a' => exact absurd rfl hc
  | slice _ _ _ h' => rw [hr] at h'; cases h'; rfl
/-- x[l:h:m] -/
theorem ox_sl3 {e : Operand → Value} {t : TypeId} {x lo hi mx : Operand} {id off len cap el l h m : Nat} {d de : TD} (hx : e x = .slice (some ⟨id, off, none⟩) len cap) (hd : D t = some d) (hk : d.k = .slice el) (hde : D el = some de) (hlo : bnd ((some lo).map e) 0 = some l) (hhi : bnd ((some hi).map e) len = some h) (hmx : bnd ((some mx).map e) cap = some m)
    (h1 : l ≤ h) (h2 : h ≤ m) (h3 : m ≤ cap) (h4 : l < m) : iopC Γ D K e H n (.slice t x (some lo) (some hi) (some mx)) = some ⟨.slice (some ⟨id, off + l * de.size, none⟩) (h - l) (m - l), [], n⟩ := by
  refine ox_slS hx hd hk hde ?_
  simp only [sliceIt, hlo, hhi, hmx]
  rw [if_pos ⟨h1, h2, h3, by simp⟩]
  show some (Value.slice (some (if m = l then _ else _)) _ _) = _
  rw [if_neg (by omega)]
  congr 3
  unfold goOn
  split
  · rename_i h0; rw [h0]; rfl
  · rfl
theorem ox_min {e : Operand → Value} {x y : Operand} {ts : Array TypeId} {k : IntKind} {i j : Int} (hx : e x = .int k i) (hy : e y = .int k j) : iopC Γ D K e H n (.call ⟨.builtin .min, #[x, y], ts⟩) = some ⟨.int k (if j < i then j else i), [], n⟩ := by
  simp [iopC, iop, doBuiltin, hx, hy, Ytdnnojblneccdaa.val]
end
end Go.Proofs.Ytdnnojblneccdaa
/-
  Arithmetic of unsigned numbers.
-/
namespace Go.Proofs.Ytdnnojblneccdaa
set_option linter.unusedSimpArgs false
set_option linter.unusedVariables false
open Go
open Enc (enc)
theorem wrapN_u64 (n : Nat) : IntKind.wrap .u64 (n : Int) = ((n % 2 ^ 64 : Nat) : Int) := by
  simp [IntKind.wrap, IntKind.bits, IntKind.signed]
theorem wrapN_u8 (n : Nat) : IntKind.wrap .u8 (n : Int) = ((n % 2 ^ 8 : Nat) : Int) := by
  simp [IntKind.wrap, IntKind.bits, IntKind.signed]
theorem wrap_u64i (n : Int) : IntKind.wrap .u64 n = n % 18446744073709551616 := by
  simp [IntKind.wrap, IntKind.bits, IntKind.signed]
theorem enc_u64 (x : UInt64) : enc x = Value.int .u64 (x.toNat : Int) := rfl
theorem enc_u8 (x : UInt8) : enc x = Value.int .u8 (x.toNat : Int) := rfl
theorem bv_64 (x : UInt64) : BitVec.ofInt 64 (x.toNat : Int) = x.toBitVec := by
  apply BitVec.eq_of_toNat_eq
  rw [BitVec.toNat_ofInt]
  have := x.toNat_lt
  show ((x.toNat : Int) % ((2 ^ 64 : Nat) : Int)).toNat = x.toNat
  omega
theorem bv_8 (x : UInt8) : BitVec.ofInt 8 (x.toNat : Int) = x.toBitVec := by
  apply BitVec.eq_of_toNat_eq
  rw [BitVec.toNat_ofInt]
  have := x.toNat_lt
  show ((x.toNat : Int) % ((2 ^ 8 : Nat) : Int)).toNat = x.toNat
  omega
def shl64 (x : UInt64) (k : Nat) : UInt64 := UInt64.ofNat (x.toNat * 2 ^ min k 64)
def shr64 (x : UInt64) (k : Nat) : UInt64 := UInt64.ofNat (x.toNat / 2 ^ min k 64)
section
variable {D : Ty} {K : Kinds} {t : TypeId}
theorem bo_u64_add (x y : UInt64) : binOp' D K .add t (enc x) (enc y) = some (enc (x + y)) := by
  show some (Value.int .u64 (IntKind.wrap .u64 ((x.toNat : Int) + y.toNat))) = _
  rw [← Int.natCast_add, wrapN_u64, enc_u64, UInt64.toNat_add]
theorem bo_u64_mul (x y : UInt64) : binOp' D K .mul t (enc x) (enc y) = some (enc (x * y)) := by
  show some (Value.int .u64 (IntKind.wrap .u64 ((x.toNat : Int) * y.toNat))) = _
  rw [← Int.natCast_mul, wrapN_u64, enc_u64, UInt64.toNat_mul]
theorem bo_u64_sub (x y : UInt64) : binOp' D K .sub t (enc x) (enc y) = some (enc (x - y)) := by
  show some (Value.int .u64 (IntKind.wrap .u64 ((x.toNat : Int) - y.toNat))) = _
  rw [wrap_u64i, enc_u64, UInt64.toNat_sub]
  have h1 := x.toNat_lt
  have h2 := y.toNat_lt
  congr 2
  omega
theorem bo_u64_and (x y : UInt64) : binOp' D K .and t (enc x) (enc y) = some (enc (x &&& y)) := by
  show some (Value.int .u64 (IntKind.wrap .u64 ((BitVec.ofInt 64 (x.toNat : Int) &&& BitVec.ofInt 64 (y.toNat : Int)).toNat : Int))) = _
  rw [bv_64, bv_64, wrapN_u64, Nat.mod_eq_of_lt (BitVec.isLt _)]; rfl
theorem bo_u64_or (x y : UInt64) : binOp' D K .or t (enc x) (enc y) = some (enc (x ||| y)) := by
  show some (Value.int .u64 (IntKind.wrap .u64 ((BitVec.ofInt 64 (x.toNat : Int) ||| BitVec.ofInt 64 (y.toNat : Int)).toNat : Int))) = _
  rw [bv_64, bv_64, wrapN_u64, Nat.mod_eq_of_lt (BitVec.isLt _)]; rfl
theorem bo_u64_xor (x y : UInt64) : binOp' D K .xor t (enc x) (enc y) = some (enc (x ^^^ y)) := by
  show some (Value.int .u64 (IntKind.wrap .u64 ((BitVec.ofInt 64 (x.toNat : Int) ^^^ BitVec.ofInt 64 (y.toNat : Int)).toNat : Int))) = _
  rw [bv_64, bv_64, wrapN_u64, Nat.mod_eq_of_lt (BitVec.isLt _)]; rfl
theorem bo_u64_shl {k : IntKind} {b : Int} (x : UInt64) (hb : 0 ≤ b) : binOp' D K .shl t (enc x) (.int k b) = some (enc (shl64 x b.toNat)) := by
  show (if b < 0 then none else some (Value.int .u64 (IntKind.wrap .u64 ((x.toNat : Int) * 2 ^ (min b.toNat 64))))) = _
  rw [if_neg (by omega)]
  have : ((x.toNat : Int) * 2 ^ (min b.toNat 64)) = ((x.toNat * 2 ^ (min b.toNat 64) : Nat) : Int) := by simp
  rw [this, wrapN_u64, enc_u64, shl64, UInt64.toNat_ofNat']
theorem bo_u64_shr {k : IntKind} {b : Int} (x : UInt64) (hb : 0 ≤ b) : binOp' D K .shr t (enc x) (.int k b) = some (enc (shr64 x b.toNat)) := by
  show (if b < 0 then none else some (Value.int .u64 ((x.toNat : Int).fdiv (2 ^ (min b.toNat 64))))) = _
  rw [if_neg (by omega)]
  have : ((x.toNat : Int).fdiv (2 ^ (min b.toNat 64))) = ((x.toNat / 2 ^ (min b.toNat 64) : Nat) : Int) := by
    rw [Int.fdiv_eq_ediv_of_nonneg _ (Int.pow_nonneg (by omega))]; simp
  rw [this, enc_u64, shr64, UInt64.toNat_ofNat', Nat.mod_eq_of_lt]
  exact Nat.lt_of_le_of_lt (Nat.div_le_self _ _) x.toNat_lt
theorem bo_u8_or (x y : UInt8) : binOp' D K .or t (enc x) (enc y) = some (enc (x ||| y)) := by
  show some (Value.int .u8 (IntKind.wrap .u8 ((BitVec.ofInt 8 (x.toNat : Int) ||| BitVec.ofInt 8 (y.toNat : Int)).toNat : Int))) = _
  rw [bv_8, bv_8, wrapN_u8, Nat.mod_eq_of_lt (BitVec.isLt _)]; rfl
/-- division of what is not negative -/
theorem bo_i64_quo {a b : Int} (n m : Nat) (ha : a = n) (hb : b = m) (hm : m ≠ 0) (hn : n ≤ 2 ^ 62) : binOp' D K .quo t (.int .i64 a) (.int .i64 b) = some (.int .i64 ((n / m : Nat) : Int)) := by
  subst ha; subst hb
  have h0 : ((m : Int)) ≠ 0 := by omega
  show (if ((m : Int)) = 0 then none else some (Value.int .i64 (IntKind.wrap .i64 ((n : Int).tdiv m)))) = _
  rw [if_neg h0]
  have : ((n : Int).tdiv m) = ((n / m : Nat) : Int) := rfl
  have hle := Nat.div_le_self n m
  rw [this]
  generalize n / m = q at hle ⊢
  rw [wrap_i64 (by omega) (by omega)]
end
section
variable {Γ : Fns} {D : Ty} {K : Kinds} {e : Operand → Value} {H : IHeap} {n : Nat} {s t : TypeId} {x : Operand} {ds dd : TD}
theorem cv_6_8 {a : UInt64} (hx : e x = enc a) (hs : D s = some ds) (hd : D t = some dd) (hk : dd.k = .int .u8) : iopC Γ D K e H n (.convert s t x) = some ⟨enc a.toUInt8, [], n⟩ := by
  rw [ox_conv (k' := .u64) (a := (a.toNat : Int)) hx hs hd hk, wrapN_u8]; rfl
theorem cv_8_6 {a : UInt8} (hx : e x = enc a) (hs : D s = some ds) (hd : D t = some dd) (hk : dd.k = .int .u64) : iopC Γ D K e H n (.convert s t x) = some ⟨enc a.toUInt64, [], n⟩ := by
  rw [ox_conv (k' := .u8) (a := (a.toNat : Int)) hx hs hd hk, wrapN_u64, Nat.mod_eq_of_lt (by have := a.toNat_lt; omega)]; rfl
theorem cv_i_6 {a : Int} (m : Nat) (hx : e x = .int .i64 a) (hs : D s = some ds) (hd : D t = some dd) (hk : dd.k = .int .u64) (ha : a = m) : iopC Γ D K e H n (.convert s t x) = some ⟨enc (UInt64.ofNat m), [], n⟩ := by
  subst ha
  rw [ox_conv (k' := .i64) (a := (m : Int)) hx hs hd hk, wrapN_u64, enc_u64, UInt64.toNat_ofNat']
end
theorem okV64 {p : Nat → Prop} {k : Nat} (v : Vector UInt64 k) : okN p (enc v) := by
  show ∀ x ∈ (encs v.toList).toArray.toList, okN1 p x
  intro x hx
  simp only [encs, List.mem_map] at hx
  obtain ⟨_, _, rfl⟩ := hx; trivial
theorem okV8 {p : Nat → Prop} {k : Nat} (v : Vector UInt8 k) : okN p (enc v) := by
  show ∀ x ∈ (encs v.toList).toArray.toList, okN1 p x
  intro x hx
  simp only [encs, List.mem_map] at hx
  obtain ⟨_, _, rfl⟩ := hx; trivial
end Go.Proofs.Ytdnnojblneccdaa
/-
  Appends in place; what was there is written.
-/
namespace Go.Proofs.Ytdnnojblneccdaa
set_option linter.unusedSimpArgs false
set_option linter.unusedVariables false
open Go
open Enc (enc)
open Row (cel)
theorem hp_same {H : IHeap} {M : Ups} {id : Nat} {o : IObj} (h : hp H M id = some o) : hp H ((id, some o) :: M) = hp H M := by
  funext i
  by_cases hi : i = id
  · subst hi; rw [hp_eq, h]
  · rw [hp_ne _ _ _ hi]
section
variable {P : Program} {Γ : Fns} {D : Ty} {K : Kinds} {W : Nat → Prop} {ops : Array Oper} {Q : Post3} {o : Oper} {os : List Oper} {N : Nat} {L : List (Nat × Value)} {H : IHeap} {M : Ups} {n : Nat}
theorem vcS_appC {d t t2 el : Nat} {s y : Operand} {ds de : TD} {id off len cap k p : Nat} {yv : Value} {xs c c' : List Value} (hd : o.dst = some d) (hg : o.guard = none) (hop : o.op = .call ⟨.builtin .append, #[s, y], #[t, t2]⟩)
    (hs : opd N L s = some (.slice (some ⟨id, off, none⟩) len cap)) (hy : opd N L y = some yv) (hdt : D t = some ds) (hk : ds.k = .slice el) (hde : D el = some de) (hsrc : srcArg D (hp H M) t2 de yv = some (k, xs)) (hcap : len + k ≤ cap)
    (hH : hp H M id = some (.cells c false)) (hpp : off + len * de.size = p) (hle : p + xs.length ≤ c.length) (hkn : xs.all known = true) (hW : W id) (hc' : splice c p xs = c')
    (hk' : vcS Γ D K W ops Q os (dense N ((d, .slice (some ⟨id, off, none⟩) (len + k) cap) :: L)) (hp H ((id, some (.cells c' false)) :: M)) n) : vcS Γ D K W ops Q (o :: os) (dense N L) (hp H M) n := by
  subst hpp
  have hsv := pl hs
  have hyv := pl hy
  by_cases h0 : xs = []
  · subst h0
    rw [splice_nil] at hc'
    subst hc'
    refine vcS_val (v := .slice (some ⟨id, off, none⟩) (len + k) cap) hd hg ?_ (by rw [hp_same hH] at hk'; exact hk')
    rw [hop]
    simp only [iopC, iop, doBuiltin, doAppend, List.map_cons, List.map_nil, hsv, hyv, hdt, hk, hde, hsrc, Option.bind_some, List.getElem?_toArray, List.getElem?_cons_zero, List.getElem?_cons_succ]
    rw [if_pos ⟨hcap, rfl⟩]; rfl
  · subst hc'
    refine vcS_new (v := .slice (some ⟨id, off, none⟩) (len + k) cap) hd hg ?_ hW hk'
    rw [hop]
    simp only [iopC, iop, doBuiltin, doAppend, List.map_cons, List.map_nil, hsv, hyv, hdt, hk, hde, hsrc, Option.bind_some, List.getElem?_toArray, List.getElem?_cons_zero, List.getElem?_cons_succ]
    rw [if_pos ⟨hcap, rfl⟩, if_neg h0, hH]
    simp only
    rw [if_pos ⟨hle, hkn⟩]
theorem srcArg_u8 {t2 el2 : TypeId} {d2 de : TD} {x : Value} {l : List UInt8} {H : IHeap} (hd : D t2 = some d2) (hk : d2.k = .slice el2) (hs : de.size = 1) (h : rdC H x = some l) : srcArg D H t2 de x = some (l.length, encs l) := by
  have := srcArg_rdC (α := UInt8) (de := de) hd hk hs h
  rw [this, cels_u8]
theorem srcArg_int {t2 : TypeId} {k2 : IntKind} {d2 de : TD} {a : Int} (k : Nat) {H : IHeap} (hd : D t2 = some d2) (hk : d2.k = .int k2) (ha : a = k) (h1 : k ≤ most) (h2 : k * de.bytes ≤ 2 ^ 48) : srcArg D H t2 de (.int .i64 a) = some (k, (List.replicate k de.zero).flatten) := by
  subst ha
  simp only [srcArg, hd, Option.bind_some, hk]
  have h3 : (k : Int) * de.bytes ≤ (2 : Int) ^ 48 := by
    rw [← Int.natCast_mul]
    exact Int.ofNat_le.2 h2
  rw [if_pos ⟨by omega, by omega, h3⟩]; simp
end
theorem srcArg_intE {α : Type} [Enc α] {D : Ty} {t2 : TypeId} {k2 : IntKind} {d2 de : TD} {a : Int} (k : Nat) (z : α) {H : IHeap} (hd : D t2 = some d2) (hk : d2.k = .int k2) (ha : a = k) (h1 : k ≤ most) (h2 : k * de.bytes ≤ 2 ^ 48) (hz : de.zero = [enc z]) : srcArg D H t2 de (.int .i64 a) = some (k, encs (List.replicate k z)) := by
  rw [srcArg_int k hd hk ha h1 h2, hz]
  have : (List.replicate k [enc z]).flatten = encs (List.replicate k z) := by simp [encs]
  rw [this]
theorem ox_makeN {α : Type} [Enc α] {Γ : Fns} {D : Ty} {K : Kinds} {e : Operand → Value} {H : IHeap} {n : Nat} {t el : TypeId} {x y : Operand} {a b : Int} {d de : TD} (j k : Nat) (z : α) (hx : e x = .int .i64 a) (ha : a = j) (hy : e y = .int .i64 b) (hb : b = k) (hd : D t = some d) (hk : d.k = .slice el) (hde : D el = some de) (hz : de.zero = [enc z]) (h1 : j ≤ k) (h2 : k ≤ most) (h3 : de.bytes * k ≤ 2 ^ 48) :
    iopC Γ D K e H n (.makeSlice t x y) = some ⟨.slice (some ⟨n, 0, none⟩) j k, [(n, some (.cells (encs (List.replicate k z)) false))], n + 1⟩ := by
  subst ha; subst hb
  have h4 : (de.bytes : Int) * k ≤ (2 : Int) ^ 48 := by
    rw [← Int.natCast_mul]; exact Int.ofNat_le.2 h3
  rw [ox_make hx hy hd hk hde (by omega) (by omega) (by omega) h4, hz]
  have : (List.replicate k [enc z]).flatten = encs (List.replicate k z) := by simp [encs]
  simp only [Int.toNat_natCast, this]
/-! cells of arrays -/
theorem rd_ix {α : Type} [Enc α] {d : TD} {l : List α} {j : Nat} (i : Nat) (z : α) (hk : d.k.isAgg = false) (hj : j = i) (h : i < l.length) : rdVar d (encs l) j = some (enc (l.getD i z)) := by
  subst hj
  unfold rdVar
  rw [if_neg (by rw [hk]; simp), encs_get]
  simp [h]
theorem wr_ix {α : Type} [Enc α] {l : List α} {j : Nat} (i : Nat) (hj : j = i) (v : α) : wrCells (encs l) j [enc v] = encs (l.set i v) := by
  subst hj
  show (encs l).set j (enc v) = _
  rw [encs_set]
theorem ox_nilCheck {Γ : Fns} {D : Ty} {K : Kinds} {e : Operand → Value} {H : IHeap} {n : Nat} {x : Operand} {id off : Nat} (hx : e x = .pointer (some ⟨id, off, none⟩)) : iopC Γ D K e H n (.nilCheck x) = some ⟨.pointer (some ⟨id, off, none⟩), [], n⟩ := by
  simp [iopC, iop, hx, Ytdnnojblneccdaa.val]
/-! bytes put over bytes -/
def ovw {α : Type} (l : List α) (p : Nat) (x : List α) : List α := l.take p ++ (x ++ l.drop (p + x.length))
theorem ovw_length {α : Type} {l x : List α} {p : Nat} (h : p + x.length ≤ l.length) : (ovw l p x).length = l.length := by simp [ovw]; omega
theorem ovw_nil {α : Type} (l : List α) (p : Nat) : ovw l p [] = l := by simp [ovw]
theorem ovw_ovw {α : Type} {l x y : List α} {p q : Nat} (hq : q = p + x.length) (h : p + x.length + y.length ≤ l.length) : ovw (ovw l p x) q y = ovw l p (x ++ y) := by
  subst hq
  have hp : (l.take p).length = p := by simp; omega
  have h1 : (l.take p ++ (x ++ l.drop (p + x.length))).take (p + x.length) = l.take p ++ x := by
    have : p + x.length = (l.take p ++ x).length := by rw [List.length_append, hp]
    rw [← List.append_assoc]
    conv => lhs; arg 1; rw [this]
    rw [List.take_left]
  have h2 : (l.take p ++ (x ++ l.drop (p + x.length))).drop (p + x.length + y.length) = l.drop (p + (x ++ y).length) := by
    rw [← List.append_assoc, List.drop_append]
    have : (l.take p ++ x).length = p + x.length := by rw [List.length_append, hp]
    rw [this, List.drop_of_length_le (by omega), List.nil_append, List.drop_drop]
    congr 1
    simp; omega
  unfold ovw
  rw [h1, h2]; simp
theorem splice_encs {α : Type} [Enc α] {l x : List α} {p : Nat} : splice (encs l) p (encs x) = encs (ovw l p x) := by
  simp [splice, ovw, encs, List.map_take, List.map_drop]
section
variable {D : Ty}
/-- a row that was there is written -/
theorem RetP.upd1 {rs : List ResultVar} {n n' : Nat} {H H' : IHeap} {ex : Exit} {t : List Value} {id : Nat} {c : List Value} {v : Value} (hx : ex = .normal ∨ ex = .ret) (hr : ires D t H' rs = some v) (hid : id < n) (h0 : (H id).isSome = true)
    (hH : H' id = some (.cells c false)) (hc : ∀ x ∈ c, okN1 (fun i => i < n) x) (hv : okN (fun i => i < n) v) : RetP D rs n H ⟨v, [(id, some (.cells c false))], n⟩ ex t H' n' := by
  refine ⟨hx, ?_⟩
  rw [hr]
  refine ⟨fun i => i, fun i hi => rfl, ren_id v, okN_mono (fun i h => .inl h) hv, ?_, ?_, ?_, ?_, Nat.le_refl _⟩
  · intro i hi o ho
    simp only [Eff.ids, List.map_cons, List.map_nil, List.mem_singleton] at hi
    subst hi
    simp only [upds, upd, if_true, Option.some.injEq] at ho
    subst ho
    refine ⟨?_, ?_⟩
    · rw [hH]
      have : c.map (ren1 fun i => i) = c := by
        conv => rhs; rw [← List.map_id c]
        exact List.map_congr_left fun x _ => ren1_id x
      simp only [renO, this]
    · simp only [okO]
      intro x hx
      exact okN1_mono (fun i h => .inl h) (hc x hx)
  · intro i hi hle
    simp only [Eff.ids, List.map_cons, List.map_nil, List.mem_singleton] at hi
    omega
  · intro i hi j hj e
    exact e
  · intro i hi
    simp only [Eff.ids, List.map_cons, List.map_nil, List.mem_singleton] at hi
    subst hi
    exact ⟨.inr h0, hid⟩
end
theorem u8_okN1 {p : Nat → Prop} (l : List UInt8) : ∀ x ∈ encs l, okN1 p x := fun x hx => by
  simp only [encs, List.mem_map] at hx
  obtain ⟨_, _, rfl⟩ := hx; trivial
/-! memory of cells alone -/
def cellsH (H : IHeap) : IHeap := fun id => match H id with
  | some (.cells c ro) => some (.cells c ro)
  | _ => none
theorem cellsH_le (H : IHeap) : (cellsH H).le H := fun id o h => by
  unfold cellsH at h
  split at h
  · rename_i c ro e; rw [e]; exact h
  · cases h
theorem cellsH_cells {H : IHeap} {id : Nat} {c : List Value} {ro : Bool} (h : H id = some (.cells c ro)) : cellsH H id = some (.cells c ro) := by unfold cellsH; rw [h]
theorem cellsH_is {H : IHeap} {id : Nat} {o : IObj} (h : cellsH H id = some o) : ∃ c ro, o = .cells c ro := by
  unfold cellsH at h
  split at h
  · cases h; exact ⟨_, _, rfl⟩
  · cases h
theorem rdC_cellsH {α : Type} [Row α] {H : IHeap} {x : Value} {l : List α} (h : rdC H x = some l) : rdC (cellsH H) x = some l := by
  obtain ⟨a, cap, rfl⟩ := rdC_len h
  rcases rdC_inv h with ⟨rfl, h2, rfl, rfl⟩ | ⟨id, off, sp, c, ro, rfl, hc, hle, hl, _⟩
  · rfl
  · exact rdC_mk (cellsH_cells hc) hle hl rfl
theorem IW.cells {P : Program} {W : Nat → Prop} {R : Option Nat} {cs : List Code} {Q : PostX} {N : Nat} {L : List (Nat × Value)} {H : IHeap} {n : Nat} (hne : cs ≠ []) (h : IW P W R cs Q (dense N L) (hp (cellsH H) []) n) : IW P W R cs Q (dense N L) (hp H []) n := by
  cases cs with
  | nil => exact (hne rfl).elim
  | cons c cs =>
    exact IWp.forget h (fgt_mk rfl fun i x y h1 h2 => by rw [h1] at h2; cases h2; exact .inr rfl) (cellsH_le H) (Nat.le_refl _)
def allC : Ups → Bool
  | [] => true
  | (_, some (.map _)) :: _ => false
  | _ :: l => allC l
theorem allC_is {H : IHeap} : ∀ {M : Ups}, allC M = true → ∀ id o, hp (cellsH H) M id = some o → ∃ c ro, o = .cells c ro
  | [], _, id, o, h => cellsH_is h
  | (i, x) :: M, hM, id, o, h => by
    by_cases hi : id = i
    · subst hi
      rw [hp_eq] at h
      subst h
      cases o with
      | cells c ro => exact ⟨c, ro, rfl⟩
      | map es => simp [allC] at hM
    · rw [hp_ne _ _ _ hi] at h
      refine allC_is (M := M) ?_ id o h
      cases x with
      | none => exact hM
      | some o' => cases o' with
        | cells c ro => exact hM
        | map es => simp [allC] at hM
theorem ox_makeFunc2 {Γ : Fns} {D : Ty} {K : Kinds} {e : Operand → Value} {H : IHeap} {n : Nat} {f : Fn} {x y : Operand} {v w : Value} (hx : e x = v) (hy : e y = w) : iopC Γ D K e H n (.makeFunc f #[] #[x, y]) = some ⟨.func f #[] #[v, w], [], n⟩ := by
  simp [iopC, iop, hx, hy, Ytdnnojblneccdaa.val]
theorem ox_s2ap {Γ : Fns} {D : Ty} {K : Kinds} {e : Operand → Value} {H : IHeap} {n : Nat} {t el k : Nat} {x : Operand} {id off len cap : Nat} {sp : Option Nat} {d : TD} (hx : e x = .slice (some ⟨id, off, sp⟩) len cap) (hd : D t = some d) (hk : d.k = .arr k el) (h : k ≤ len) (hk0 : k ≠ 0 := by decide) : iopC Γ D K e H n (.sliceToArrayPointer t x) = some ⟨.pointer (some ⟨id, off, none⟩), [], n⟩ := by
  simp [iopC, iop, hx, hd, hk, h, hk0, Ytdnnojblneccdaa.val]
theorem leX_none {H : IHeap} {ks : List Nat} {n : Nat} {B : Ups} (hf : ∀ id, n ≤ id → H id = none) (hB : wAll (fun m => n ≤ m) B) : leX H ks [] B := fun id o _ e => hp_keep hf e hB
theorem ox_slAH {Γ : Fns} {D : Ty} {K : Kinds} {e : Operand → Value} {H : IHeap} {n : Nat} {t : TypeId} {x : Operand} {hi : Option Operand} {id off len el h : Nat} {d de : TD} (hx : e x = .pointer (some ⟨id, off, none⟩)) (hd : D t = some d) (hk : d.k = .arr len el) (hde : D el = some de) (hhi : bnd (hi.map e) len = some h) (hle : h ≤ len) :
    iopC Γ D K e H n (.slice t x none hi none) = some ⟨.slice (some ⟨id, off, none⟩) h len, [], n⟩ := by
  refine ox_slA hx hd hk hde ?_
  have hm : bnd (Option.map e none) len = some len := rfl
  have hl : bnd (Option.map e none) 0 = some 0 := rfl
  simp only [sliceIt, hl, hhi, hm]
  rw [if_pos ⟨Nat.zero_le _, hle, Nat.le_refl _, by simp⟩]
  show some (Value.slice (some (if len = 0 then _ else _)) _ _) = _
  have : (if len = 0 then (⟨id, off, none⟩ : Addr) else goOn ⟨id, off, none⟩ (0 * de.size)) = ⟨id, off, none⟩ := by split <;> simp [goOn]
  rw [this]; rfl
end Go.Proofs.Ytdnnojblneccdaa
/-
  Lists in memory, read and written element by element.
-/
namespace Go.Proofs.Ytdnnojblneccdaa
set_option linter.unusedSimpArgs false
set_option linter.unusedVariables false
open Go
open Enc (enc)
open Row (cel)
instance : Row UInt32 := ⟨fun a => [enc a], 1, by decide, fun _ => rfl, fun a b h => Enc.inj a b (by simpa using h), fun _ => rfl, fun _ => rfl⟩
/-- one cell each -/
class Row1 (α : Type) extends Row α where
  one : ∀ a : α, cel a = [enc a]
instance : Row1 UInt8 := ⟨fun _ => rfl⟩
instance : Row1 UInt32 := ⟨fun _ => rfl⟩
instance : Row1 UInt64 := ⟨fun _ => rfl⟩
instance : Row1 Int := ⟨fun _ => rfl⟩
instance : Row1 Sl := ⟨fun _ => rfl⟩
section
variable {α : Type} [Row1 α]
theorem cels_one : ∀ l : List α, cels l = encs l
  | [] => rfl
  | a :: l => by rw [cels_cons, cels_one l, Row1.one]; rfl
end
/-- where a slice lies -/
def adrId : Value → Nat
  | .slice (some a) _ _ => a.block
  | _ => 0
def adrOff : Value → Nat
  | .slice (some a) _ _ => a.off
  | _ => 0
section
variable {α : Type} [Row α]
theorem rdC_row {H : IHeap} {v : Value} {l : List α} {i : Nat} (h : rdC H v = some l) (hi : i < l.length) : ∃ c ro, H (adrId v) = some (.cells c ro) ∧ (c.drop (adrOff v)).take (l.length * Row.sz α) = cels l := by
  obtain ⟨a, cap, rfl⟩ := rdC_len h
  obtain ⟨id, off, sp, c, ro, rfl, h1, h2⟩ := rdC_at h hi
  exact ⟨c, ro, h1, h2⟩
variable {Γ : Fns} {D : Ty} {K : Kinds} {e : Operand → Value} {H : IHeap} {n : Nat}
theorem ox_iaC {t : TypeId} {x y : Operand} {v : Value} {el : Nat} {k : IntKind} {j : Int} {d de : TD} {l : List α} (i : Nat) (hx : e x = v) (hy : e y = .int k j) (hd : D t = some d) (hk : d.k = .slice el) (hde : D el = some de) (hs : de.size = Row.sz α) (hl : rdC H v = some l) (hj : j = i) (hi : i < l.length) :
    iopC Γ D K e H n (.indexAddr t x y) = some ⟨.pointer (some ⟨adrId v, adrOff v + i * Row.sz α, none⟩), [], n⟩ := by
  obtain ⟨a, cap, rfl⟩ := rdC_len hl
  obtain ⟨id, off, sp, c, ro, rfl, h1, h2⟩ := rdC_at hl hi
  subst hj
  rw [ox_iaS hx hy hd hk hde (by omega) (by omega), hs]
  rfl
end
section
variable {α : Type} [Row1 α] {Γ : Fns} {D : Ty} {K : Kinds} {e : Operand → Value} {H : IHeap} {n : Nat}
theorem ox_ldC {t : TypeId} {a : Operand} {d : TD} {v : Value} {l : List α} (i : Nat) (z : α) (ha : e a = .pointer (some ⟨adrId v, adrOff v + i * Row.sz α, none⟩)) (hd : D t = some d) (hk : d.k.isAgg = false) (hl : rdC H v = some l) (hi : i < l.length) :
    iopC Γ D K e H n (.load t a) = some ⟨enc (l.getD i z), [], n⟩ := by
  obtain ⟨c, ro, h1, h2⟩ := rdC_row hl hi
  refine ox_load ha hd h1 ?_
  obtain ⟨A, C, hc, hA⟩ := cels_at h2 hi
  refine rd_one (A := A) (C := C) hk ?_ hA
  rw [hc, Row1.one, List.getD_eq_getElem?_getD, List.getElem?_eq_getElem hi]; rfl
theorem rdC_1all {H : IHeap} {id len cap : Nat} {sp : Option Nat} {ro : Bool} {l : List α} (hH : H id = some (.cells (encs l) ro)) (hl : l.length = len) : rdC H (.slice (some ⟨id, 0, sp⟩) len cap) = some l := by
  rw [← cels_one] at hH
  exact rdC_all hH hl
theorem encs_known1 (l : List α) : (encs l).all known = true := by rw [← cels_one]; exact cels_known l
end
/-- bytes as bytes of another name: the row is marked -/
theorem ox_cvSl {Γ : Fns} {D : Ty} {K : Kinds} {e : Operand → Value} {H : IHeap} {n : Nat} {t : TypeId} {x : Operand} {id off len cap el : Nat} {d de : TD} {c : List Value} (hx : e x = .slice (some ⟨id, off, none⟩) len cap) (hd : D t = some d) (hk : d.k = .slice el) (hde : D el = some de) (hdk : de.k = .int .u8) (hH : H id = some (.cells c false)) (hcap : cap ≠ 0 := by decide) :
    iopC Γ D K e H n (.convert t t x) = some ⟨.slice (some ⟨id, off, none⟩) len cap, [(id, some (.cells c false))], n⟩ := by
  simp only [iopC, iop, doConvert, hx, hd, hk, hde, Option.bind_some, hdk, hH]
  simp [hcap]
end Go.Proofs.Ytdnnojblneccdaa
/-
  From a law's arguments to the ideal ones.
-/
namespace Go.Proofs.Ytdnnojblneccdaa
set_option linter.unusedSimpArgs false
set_option linter.unusedVariables false
open Go Go.ChangeShapes Go.WideShapes Go.ChangeAt Go.RowKit
open Enc (enc)
set_option maxRecDepth 100000
theorem Try.own : ownKnob Try.prog.godebug = none := by kernel_rfl
theorem Try.laidOut : laidOutB Try.prog = true := by kernel_rfl
theorem vr_u8s {ρ : Ren} {l : List UInt8} : ∀ x ∈ encs l, VR ρ x x := fun x hx => by
  simp only [encs, List.mem_map] at hx
  obtain ⟨_, _, rfl⟩ := hx
  exact .int _ _
theorem vr_agg {ρ : Ren} {c : List Value} (h : ∀ x ∈ c, VR ρ x x) : VR ρ (.agg c.toArray) (.agg c.toArray) := by
  refine .agg rfl fun i x y hx hy => ?_
  rw [hx] at hy; cases hy
  exact h x (by simpa using Array.mem_of_getElem? hx)
theorem cell_of {P : Program} {W : World} {base : Nat} {t : TypeId} {v : Value} {α : Type} [Enc α] (hc : CellIs P t α) (hu : (match P.underlying t with | some (.struct _) | some (.array _ _) => false | _ => true) = true) (h : Value.okWide P W .any base t v) : ∃ a : α, v = enc a := by
  refine hc.is W base v ?_
  unfold Value.okWide at h
  split at h
  · rename_i e; rw [e] at hu; simp at hu
  · rename_i e; rw [e] at hu; simp at hu
  · exact h
theorem int_of {W : World} {base : Nat} {v : Value} (h : Value.okWide Try.prog W .any base 3 v) : ∃ a : Int, v = .int .i64 a :=
  cell_of (α := Int) (cellIs_i64 Try.underlying3) (by kernel_rfl) h
theorem u8s_of {k t : Nat} {W : World} {base : Nat} {v : Value} (hu : Try.prog.underlying t = some (.array k 5)) (hts : Try.prog.cellTypes Try.prog.depth t = some (List.replicate k 5)) (hsz : Try.prog.cellsOf t = (List.replicate k 5).length) (h : Value.okWide Try.prog W .any base t v) : ∃ a : Vector UInt8 k, v = enc a := by
  obtain ⟨c, rfl, hc⟩ := fits_of_wide (ts := List.replicate k 5) hu rfl hts hsz h
  obtain ⟨a, rfl⟩ := fits_many (cellIs_u8 Try.underlying5) k hc
  exact ⟨a, rfl⟩
end Go.Proofs.Ytdnnojblneccdaa
/-
  What a conversion of any slice sees; bytes as numbers.
-/
namespace Go.Proofs.Ytdnnojblneccdaa
set_option linter.unusedSimpArgs false
set_option linter.unusedVariables false
open Go
open Enc (enc)
section
variable {e : Operand → Value}
end
/-- what a slice spans lies below the free numbers -/
theorem IW.blk {α : Type} [Row α] {P : Program} {W : Nat → Prop} {R : Option Nat} {cs : List Code} {Q : PostX} {t : List Value} {H : IHeap} {n : Nat} {x : Value} {l : List α} (hne : cs ≠ []) (hx : rdC H x = some l)
    (h : (∀ id ∈ blk x, id < n) → IW P W R cs Q t H n) : IW P W R cs Q t H n := by
  refine IW.ltC hne hx fun hl => h fun id hi => ?_
  obtain ⟨a, cap, rfl⟩ := rdC_len hx
  cases a with
  | none => cases hi
  | some a =>
    obtain ⟨b, off, sp⟩ := a
    simp only [Ytdnnojblneccdaa.blk, List.mem_singleton] at hi
    subst hi
    exact hl _ _ _ _ _ rfl
theorem cv_8_i {Γ : Fns} {D : Ty} {K : Kinds} {e : Operand → Value} {H : IHeap} {n : Nat} {s t : TypeId} {x : Operand} {ds dd : TD} {a : UInt8} (hx : e x = enc a) (hs : D s = some ds) (hd : D t = some dd) (hk : dd.k = .int .i64) : iopC Γ D K e H n (.convert s t x) = some ⟨.int .i64 (a.toNat : Int), [], n⟩ := by
  rw [ox_conv (k' := .u8) (a := (a.toNat : Int)) hx hs hd hk]
  have := a.toNat_lt
  rw [wrap_i64 (by omega) (by omega)]
end Go.Proofs.Ytdnnojblneccdaa
/-
  Guards that are known, where the order is drawn; slices of slices that came from outside.
-/
namespace Go.Proofs.Ytdnnojblneccdaa
set_option linter.unusedSimpArgs false
set_option linter.unusedVariables false
open Go
open Enc (enc)
section
variable {P : Program} {Γ : Fns} {D : Ty} {K : Kinds} {W : Nat → Prop} {R : Option Nat} {ops : Array Oper} {Q : Post3} {o : Oper} {os : List Oper} {pres : List (List Nat)} {N : Nat} {L : List (Nat × Value)} {H : IHeap} {M : Ups} {n n0 k : Nat}
  {Wr : List (Nat × Ups)} {Vs : List (Nat × Vis)}
/-- a guard that is known to hold is none -/
theorem vcE_known {b : Bool} (hg : wantedI ops (dense N L) o = some b) (hb : b = true) (h : vcE Γ D K W ops (hp H M) n0 Q ({ o with guard := none } :: os) pres k Wr Vs (dense N L) n) : vcE Γ D K W ops (hp H M) n0 Q (o :: os) pres k Wr Vs (dense N L) n := by
  subst hb
  intro acc R
  have h1 := h acc R
  cases pres with
  | nil => exact h1
  | cons pre pres =>
    simp only [vcD, hg] at h1 ⊢
    exact h1
theorem vcS_known {b : Bool} (hg : wantedI ops (dense N L) o = some b) (hb : b = true) (h : vcS Γ D K W ops Q ({ o with guard := none } :: os) (dense N L) (hp H M) n) : vcS Γ D K W ops Q (o :: os) (dense N L) (hp H M) n := by
  subst hb
  simp only [vcS, hg] at h ⊢
  exact h
end
/-- a slice as it comes from outside -/
def SlP (s : Sl) : Prop := (s.a = none ∧ s.len = 0 ∧ s.cap = 0) ∨ ∃ id off, s.a = some ⟨id, off, none⟩ ∧ s.len ≤ s.cap
def slS (s : Sl) (sz l h : Nat) : Sl := match s.a with
  | some a => ⟨some (slA a s.cap sz l), h - l, s.cap - l⟩
  | none => s
section
variable {Γ : Fns} {D : Ty} {K : Kinds} {e : Operand → Value} {H : IHeap} {n : Nat}
theorem ox_slP {t : TypeId} {x : Operand} {lo hi : Option Operand} {s : Sl} {el l h sz : Nat} {d de : TD} (hp : SlP s) (hx : e x = enc s) (hd : D t = some d) (hk : d.k = .slice el) (hde : D el = some de) (hsz : de.size = sz) (hlo : bnd (lo.map e) 0 = some l) (hhi : bnd (hi.map e) s.len = some h) (h1 : l ≤ h) (h2 : h ≤ s.len) :
    iopC Γ D K e H n (.slice t x lo hi none) = some ⟨enc (slS s sz l h), [], n⟩ := by
  subst hsz
  obtain ⟨a, len, cap⟩ := s
  rcases hp with ⟨e1, e2, e3⟩ | ⟨id, off, e1, e2⟩
  · simp only at e1 e2 e3 h2 hhi
    subst e1; subst e2; subst e3
    obtain rfl : h = 0 := by omega
    obtain rfl : l = 0 := by omega
    refine (ox_slN hx hd hk hde (v := .slice (some ⟨0, 0, none⟩) 0 0) ?_).trans ?_
    · have hm : bnd (Option.map e none) 0 = some 0 := rfl
      simp only [sliceIt, hlo, hhi, hm]
      rw [if_pos ⟨Nat.le_refl _, Nat.le_refl _, Nat.le_refl _, by simp⟩]
      simp
    · rfl
  · simp only at e1 e2 h2 hhi
    subst e1
    refine (ox_sl hx hd hk hde hlo hhi h1 (Nat.le_trans h2 e2) (.inl rfl)).trans ?_
    rfl
variable {α : Type} [Row α]
theorem rdC_slS {s : Sl} {l h : Nat} {xs : List α} (hp : SlP s) (hr : rdC H (enc s) = some xs) (h1 : l ≤ h) (h2 : h ≤ s.len) : rdC H (enc (slS s (Row.sz α) l h)) = some ((xs.take h).drop l) := by
  obtain ⟨a, len, cap⟩ := s
  rcases hp with ⟨e1, e2, e3⟩ | ⟨id, off, e1, e2⟩
  · simp only at e1 e2 e3 h2
    subst e1; subst e2; subst e3
    obtain rfl : h = 0 := by omega
    obtain rfl : l = 0 := by omega
    obtain ⟨aa, cc, e⟩ := rdC_len hr
    have e : Value.slice none 0 0 = .slice aa xs.length cc := e
    simp only [Value.slice.injEq] at e
    have := List.length_eq_zero_iff.1 e.2.1.symm
    subst this
    exact hr
  · simp only at e1 e2 h2
    subst e1
    exact rdC_sl hr h1 h2 e2
end
theorem bo_i64_remI {D : Ty} {K : Kinds} {t : TypeId} {a b : Int} (hb : b ≠ 0) : binOp' D K .rem t (.int .i64 a) (.int .i64 b) = some (.int .i64 (a.tmod b)) := by
  simp [binOp', intOp, hb]
end Go.Proofs.Ytdnnojblneccdaa
/-
  The types of this program, as the engine takes them.
-/
namespace Go.Proofs.Ytdnnojblneccdaa
open Go
noncomputable def tys : List (Nat × TD) := [
  (1, ⟨.func, 1, 8, [Value.nilFunc]⟩),
  (2, ⟨.int .i64, 1, 8, [Value.int IntKind.i64 0]⟩),
  (3, ⟨.int .i64, 1, 8, [Value.int IntKind.i64 0]⟩),
  (4, ⟨.bool, 1, 1, [Value.bool false]⟩),
  (5, ⟨.int .u8, 1, 1, [Value.int IntKind.u8 0]⟩),
  (9, ⟨.str, 1, 16, [Value.string ByteArray.empty]⟩),
  (12, ⟨.int .u64, 1, 8, [Value.int IntKind.u64 0]⟩),
  (20, ⟨.iface, 1, 16, [Value.nilIface]⟩),
  (21, ⟨.int .i32, 1, 4, [Value.int IntKind.i32 0]⟩),
  (22, ⟨.int .u64, 1, 8, [Value.int IntKind.u64 0]⟩),
  (23, ⟨.arr 32 5, 32, 32, List.replicate 32 (Value.int IntKind.u8 0)⟩),
  (24, ⟨.arr 32 5, 32, 32, List.replicate 32 (Value.int IntKind.u8 0)⟩),
  (25, ⟨.arr 32 5, 32, 32, List.replicate 32 (Value.int IntKind.u8 0)⟩),
  (26, ⟨.arr 64 5, 64, 64, List.replicate 64 (Value.int IntKind.u8 0)⟩),
  (27, ⟨.arr 64 5, 64, 64, List.replicate 64 (Value.int IntKind.u8 0)⟩),
  (28, ⟨.struct [(0, 22), (1, 22), (2, 3), (3, 24), (35, 22), (36, 25), (68, 27)], 132, 160, List.flatten [[Value.int IntKind.u64 0], [Value.int IntKind.u64 0], [Value.int IntKind.i64 0], List.replicate 32 (Value.int IntKind.u8 0), [Value.int IntKind.u64 0], List.replicate 32 (Value.int IntKind.u8 0), List.replicate 64 (Value.int IntKind.u8 0)]⟩),
  (29, ⟨.struct [(0, 22), (1, 22), (2, 3), (3, 24), (35, 22), (36, 25), (68, 27)], 132, 160, List.flatten [[Value.int IntKind.u64 0], [Value.int IntKind.u64 0], [Value.int IntKind.i64 0], List.replicate 32 (Value.int IntKind.u8 0), [Value.int IntKind.u64 0], List.replicate 32 (Value.int IntKind.u8 0), List.replicate 64 (Value.int IntKind.u8 0)]⟩),
  (30, ⟨.func, 1, 8, [Value.nilFunc]⟩),
  (31, ⟨.func, 1, 8, [Value.nilFunc]⟩),
  (32, ⟨.func, 1, 8, [Value.nilFunc]⟩),
  (33, ⟨.func, 1, 8, [Value.nilFunc]⟩),
  (34, ⟨.slice 24, 1, 24, [Value.slice none 0 0]⟩),
  (35, ⟨.slice 5, 1, 24, [Value.slice none 0 0]⟩),
  (36, ⟨.struct [(0, 25), (32, 22), (33, 24), (65, 34), (66, 35), (67, 27)], 131, 184, List.flatten [List.replicate 32 (Value.int IntKind.u8 0), [Value.int IntKind.u64 0], List.replicate 32 (Value.int IntKind.u8 0), [Value.slice none 0 0], [Value.slice none 0 0], List.replicate 64 (Value.int IntKind.u8 0)]⟩),
  (37, ⟨.struct [(0, 25), (32, 22), (33, 24), (65, 34), (66, 35), (67, 27)], 131, 184, List.flatten [List.replicate 32 (Value.int IntKind.u8 0), [Value.int IntKind.u64 0], List.replicate 32 (Value.int IntKind.u8 0), [Value.slice none 0 0], [Value.slice none 0 0], List.replicate 64 (Value.int IntKind.u8 0)]⟩),
  (38, ⟨.func, 1, 8, [Value.nilFunc]⟩),
  (39, ⟨.slice 37, 1, 24, [Value.slice none 0 0]⟩),
  (40, ⟨.func, 1, 8, [Value.nilFunc]⟩),
  (41, ⟨.int .i64, 1, 8, [Value.int IntKind.i64 0]⟩),
  (42, ⟨.func, 1, 8, [Value.nilFunc]⟩),
  (43, ⟨.func, 1, 8, [Value.nilFunc]⟩),
  (44, ⟨.func, 1, 8, [Value.nilFunc]⟩),
  (45, ⟨.func, 1, 8, [Value.nilFunc]⟩),
  (46, ⟨.func, 1, 8, [Value.nilFunc]⟩),
  (47, ⟨.func, 1, 8, [Value.nilFunc]⟩),
  (48, ⟨.arr 80 22, 80, 640, List.replicate 80 (Value.int IntKind.u64 0)⟩),
  (49, ⟨.func, 1, 8, [Value.nilFunc]⟩),
  (50, ⟨.arr 8 22, 8, 64, List.replicate 8 (Value.int IntKind.u64 0)⟩),
  (51, ⟨.func, 1, 8, [Value.nilFunc]⟩),
  (52, ⟨.func, 1, 8, [Value.nilFunc]⟩),
  (53, ⟨.func, 1, 8, [Value.nilFunc]⟩),
  (54, ⟨.int .u32, 1, 4, [Value.int IntKind.u32 0]⟩),
  (55, ⟨.func, 1, 8, [Value.nilFunc]⟩),
  (56, ⟨.func, 1, 8, [Value.nilFunc]⟩),
  (58, ⟨.func, 1, 8, [Value.nilFunc]⟩),
  (59, ⟨.func, 1, 8, [Value.nilFunc]⟩),
  (60, ⟨.int .u64, 1, 8, [Value.int IntKind.u64 0]⟩),
  (61, ⟨.func, 1, 8, [Value.nilFunc]⟩),
  (62, ⟨.func, 1, 8, [Value.nilFunc]⟩),
  (63, ⟨.arr 128 5, 128, 128, List.replicate 128 (Value.int IntKind.u8 0)⟩),
  (64, ⟨.func, 1, 8, [Value.nilFunc]⟩),
  (65, ⟨.func, 1, 8, [Value.nilFunc]⟩),
  (66, ⟨.func, 1, 8, [Value.nilFunc]⟩),
  (67, ⟨.func, 1, 8, [Value.nilFunc]⟩),
  (68, ⟨.struct [(0, 5), (1, 35)], 2, 32, List.flatten [[Value.int IntKind.u8 0], [Value.slice none 0 0]]⟩),
  (69, ⟨.struct [(0, 5), (1, 35)], 2, 32, List.flatten [[Value.int IntKind.u8 0], [Value.slice none 0 0]]⟩),
  (70, ⟨.func, 1, 8, [Value.nilFunc]⟩),
  (72, ⟨.func, 1, 8, [Value.nilFunc]⟩),
  (74, ⟨.func, 1, 8, [Value.nilFunc]⟩),
  (75, ⟨.func, 1, 8, [Value.nilFunc]⟩),
  (76, ⟨.func, 1, 8, [Value.nilFunc]⟩),
  (77, ⟨.func, 1, 8, [Value.nilFunc]⟩),
  (78, ⟨.func, 1, 8, [Value.nilFunc]⟩),
  (79, ⟨.func, 1, 8, [Value.nilFunc]⟩),
  (80, ⟨.slice 69, 1, 24, [Value.slice none 0 0]⟩),
  (81, ⟨.func, 1, 8, [Value.nilFunc]⟩),
  (82, ⟨.slice 3, 1, 24, [Value.slice none 0 0]⟩),
  (84, ⟨.func, 1, 8, [Value.nilFunc]⟩),
  (85, ⟨.func, 1, 8, [Value.nilFunc]⟩),
  (86, ⟨.func, 1, 8, [Value.nilFunc]⟩),
  (87, ⟨.func, 1, 8, [Value.nilFunc]⟩),
  (88, ⟨.func, 1, 8, [Value.nilFunc]⟩),
  (89, ⟨.func, 1, 8, [Value.nilFunc]⟩),
  (90, ⟨.arr 6 3, 6, 48, List.replicate 6 (Value.int IntKind.i64 0)⟩),
  (91, ⟨.func, 1, 8, [Value.nilFunc]⟩),
  (92, ⟨.func, 1, 8, [Value.nilFunc]⟩),
  (93, ⟨.func, 1, 8, [Value.nilFunc]⟩),
  (94, ⟨.slice 35, 1, 24, [Value.slice none 0 0]⟩),
  (95, ⟨.func, 1, 8, [Value.nilFunc]⟩),
  (96, ⟨.func, 1, 8, [Value.nilFunc]⟩),
  (97, ⟨.func, 1, 8, [Value.nilFunc]⟩),
  (98, ⟨.func, 1, 8, [Value.nilFunc]⟩),
  (99, ⟨.func, 1, 8, [Value.nilFunc]⟩),
  (100, ⟨.func, 1, 8, [Value.nilFunc]⟩),
  (101, ⟨.func, 1, 8, [Value.nilFunc]⟩),
  (102, ⟨.ptr 48, 1, 8, [Value.pointer none]⟩),
  (103, ⟨.ptr 63, 1, 8, [Value.pointer none]⟩),
  (104, ⟨.func, 1, 8, [Value.nilFunc]⟩),
  (105, ⟨.func, 1, 8, [Value.nilFunc]⟩),
  (106, ⟨.struct [(0, 3), (1, 24)], 33, 40, List.flatten [[Value.int IntKind.i64 0], List.replicate 32 (Value.int IntKind.u8 0)]⟩),
  (107, ⟨.struct [(0, 3), (1, 24)], 33, 40, List.flatten [[Value.int IntKind.i64 0], List.replicate 32 (Value.int IntKind.u8 0)]⟩),
  (108, ⟨.func, 1, 8, [Value.nilFunc]⟩),
  (109, ⟨.func, 1, 8, [Value.nilFunc]⟩),
  (110, ⟨.func, 1, 8, [Value.nilFunc]⟩),
  (111, ⟨.func, 1, 8, [Value.nilFunc]⟩),
  (112, ⟨.func, 1, 8, [Value.nilFunc]⟩),
  (113, ⟨.slice 34, 1, 24, [Value.slice none 0 0]⟩),
  (114, ⟨.func, 1, 8, [Value.nilFunc]⟩),
  (115, ⟨.func, 1, 8, [Value.nilFunc]⟩),
  (116, ⟨.func, 1, 8, [Value.nilFunc]⟩),
  (117, ⟨.slice 22, 1, 24, [Value.slice none 0 0]⟩),
  (118, ⟨.slice 22, 1, 24, [Value.slice none 0 0]⟩),
  (119, ⟨.func, 1, 8, [Value.nilFunc]⟩),
  (120, ⟨.func, 1, 8, [Value.nilFunc]⟩),
  (121, ⟨.slice 54, 1, 24, [Value.slice none 0 0]⟩),
  (122, ⟨.slice 54, 1, 24, [Value.slice none 0 0]⟩),
  (123, ⟨.func, 1, 8, [Value.nilFunc]⟩),
  (124, ⟨.func, 1, 8, [Value.nilFunc]⟩),
  (125, ⟨.func, 1, 8, [Value.nilFunc]⟩),
  (126, ⟨.ptr 143, 1, 8, [Value.pointer none]⟩),
  (127, ⟨.func, 1, 8, [Value.nilFunc]⟩),
  (128, ⟨.func, 1, 8, [Value.nilFunc]⟩),
  (129, ⟨.func, 1, 8, [Value.nilFunc]⟩),
  (130, ⟨.func, 1, 8, [Value.nilFunc]⟩),
  (131, ⟨.func, 1, 8, [Value.nilFunc]⟩),
  (132, ⟨.func, 1, 8, [Value.nilFunc]⟩),
  (133, ⟨.func, 1, 8, [Value.nilFunc]⟩),
  (134, ⟨.func, 1, 8, [Value.nilFunc]⟩),
  (135, ⟨.func, 1, 8, [Value.nilFunc]⟩),
  (136, ⟨.func, 1, 8, [Value.nilFunc]⟩),
  (137, ⟨.func, 1, 8, [Value.nilFunc]⟩),
  (138, ⟨.func, 1, 8, [Value.nilFunc]⟩),
  (139, ⟨.func, 1, 8, [Value.nilFunc]⟩),
  (140, ⟨.func, 1, 8, [Value.nilFunc]⟩),
  (141, ⟨.func, 1, 8, [Value.nilFunc]⟩),
  (142, ⟨.struct [(0, 35), (1, 3), (2, 41), (3, 4)], 4, 48, List.flatten [[Value.slice none 0 0], [Value.int IntKind.i64 0], [Value.int IntKind.i64 0], [Value.bool false]]⟩),
  (143, ⟨.struct [(0, 35), (1, 3), (2, 41), (3, 4)], 4, 48, List.flatten [[Value.slice none 0 0], [Value.int IntKind.i64 0], [Value.int IntKind.i64 0], [Value.bool false]]⟩),
  (145, ⟨.func, 1, 8, [Value.nilFunc]⟩),
  (146, ⟨.func, 1, 8, [Value.nilFunc]⟩),
  (147, ⟨.func, 1, 8, [Value.nilFunc]⟩),
  (148, ⟨.func, 1, 8, [Value.nilFunc]⟩),
  (149, ⟨.func, 1, 8, [Value.nilFunc]⟩),
  (150, ⟨.func, 1, 8, [Value.nilFunc]⟩),
  (151, ⟨.func, 1, 8, [Value.nilFunc]⟩),
  (159, ⟨.func, 1, 8, [Value.nilFunc]⟩),
  (160, ⟨.ptr 5, 1, 8, [Value.pointer none]⟩)]
noncomputable def kks : List (Nat × List TK) := [
  (23, List.replicate 32 (TK.int IntKind.u8)),
  (24, List.replicate 32 (TK.int IntKind.u8)),
  (25, List.replicate 32 (TK.int IntKind.u8)),
  (26, List.replicate 64 (TK.int IntKind.u8)),
  (27, List.replicate 64 (TK.int IntKind.u8)),
  (28, List.flatten [[TK.int IntKind.u64], [TK.int IntKind.u64], [TK.int IntKind.i64], List.replicate 32 (TK.int IntKind.u8), [TK.int IntKind.u64], List.replicate 32 (TK.int IntKind.u8), List.replicate 64 (TK.int IntKind.u8)]),
  (29, List.flatten [[TK.int IntKind.u64], [TK.int IntKind.u64], [TK.int IntKind.i64], List.replicate 32 (TK.int IntKind.u8), [TK.int IntKind.u64], List.replicate 32 (TK.int IntKind.u8), List.replicate 64 (TK.int IntKind.u8)]),
  (48, List.replicate 80 (TK.int IntKind.u64)),
  (50, List.replicate 8 (TK.int IntKind.u64)),
  (63, List.replicate 128 (TK.int IntKind.u8)),
  (90, List.replicate 6 (TK.int IntKind.i64)),
  (106, List.flatten [[TK.int IntKind.i64], List.replicate 32 (TK.int IntKind.u8)]),
  (107, List.flatten [[TK.int IntKind.i64], List.replicate 32 (TK.int IntKind.u8)])]
noncomputable def sts : List Nat := [28, 29, 106, 107]
noncomputable abbrev D : Ty := tyOf tys
noncomputable abbrev K : Kinds := fun t => kks.lookup t
set_option maxRecDepth 100000
theorem tys_ok : tysCheck Try.prog tys = true := by kernel_rfl
theorem tys_fields : fieldsCheck tys = true := by kernel_rfl
theorem tys_structs : sts.all (structCheck Try.prog) = true := by kernel_rfl
theorem tys_kinds : kindsCheck Try.prog (tyOf tys) sts kks = true := by kernel_rfl
theorem mixed : Try.prog.follows .mixedOrders = true := by kernel_rfl
theorem dok : DOk Try.prog D := tysCheck_ok tys_ok
theorem env {Γ : Fns} (h : FnsOk Try.prog Γ) : Env Try.prog Γ D K := env_mk tys_ok tys_fields tys_structs tys_kinds h
theorem D_3 : D 3 = some ⟨.int .i64, 1, 8, [Value.int IntKind.i64 0]⟩ := by kernel_rfl
theorem D_4 : D 4 = some ⟨.bool, 1, 1, [Value.bool false]⟩ := by kernel_rfl
theorem D_5 : D 5 = some ⟨.int .u8, 1, 1, [Value.int IntKind.u8 0]⟩ := by kernel_rfl
theorem D_9 : D 9 = some ⟨.str, 1, 16, [Value.string ByteArray.empty]⟩ := by kernel_rfl
theorem D_22 : D 22 = some ⟨.int .u64, 1, 8, [Value.int IntKind.u64 0]⟩ := by kernel_rfl
theorem D_24 : D 24 = some ⟨.arr 32 5, 32, 32, List.replicate 32 (Value.int IntKind.u8 0)⟩ := by kernel_rfl
theorem D_26 : D 26 = some ⟨.arr 64 5, 64, 64, List.replicate 64 (Value.int IntKind.u8 0)⟩ := by kernel_rfl
theorem D_34 : D 34 = some ⟨.slice 24, 1, 24, [Value.slice none 0 0]⟩ := by kernel_rfl
theorem D_35 : D 35 = some ⟨.slice 5, 1, 24, [Value.slice none 0 0]⟩ := by kernel_rfl
theorem D_41 : D 41 = some ⟨.int .i64, 1, 8, [Value.int IntKind.i64 0]⟩ := by kernel_rfl
theorem D_48 : D 48 = some ⟨.arr 80 22, 80, 640, List.replicate 80 (Value.int IntKind.u64 0)⟩ := by kernel_rfl
theorem D_50 : D 50 = some ⟨.arr 8 22, 8, 64, List.replicate 8 (Value.int IntKind.u64 0)⟩ := by kernel_rfl
theorem D_60 : D 60 = some ⟨.int .u64, 1, 8, [Value.int IntKind.u64 0]⟩ := by kernel_rfl
theorem D_63 : D 63 = some ⟨.arr 128 5, 128, 128, List.replicate 128 (Value.int IntKind.u8 0)⟩ := by kernel_rfl
theorem D_69 : D 69 = some ⟨.struct [(0, 5), (1, 35)], 2, 32, List.flatten [[Value.int IntKind.u8 0], [Value.slice none 0 0]]⟩ := by kernel_rfl
theorem D_80 : D 80 = some ⟨.slice 69, 1, 24, [Value.slice none 0 0]⟩ := by kernel_rfl
theorem D_82 : D 82 = some ⟨.slice 3, 1, 24, [Value.slice none 0 0]⟩ := by kernel_rfl
theorem D_94 : D 94 = some ⟨.slice 35, 1, 24, [Value.slice none 0 0]⟩ := by kernel_rfl
theorem D_102 : D 102 = some ⟨.ptr 48, 1, 8, [Value.pointer none]⟩ := by kernel_rfl
theorem D_107 : D 107 = some ⟨.struct [(0, 3), (1, 24)], 33, 40, List.flatten [[Value.int IntKind.i64 0], List.replicate 32 (Value.int IntKind.u8 0)]⟩ := by kernel_rfl
theorem D_126 : D 126 = some ⟨.ptr 143, 1, 8, [Value.pointer none]⟩ := by kernel_rfl
theorem D_143 : D 143 = some ⟨.struct [(0, 35), (1, 3), (2, 41), (3, 4)], 4, 48, List.flatten [[Value.slice none 0 0], [Value.int IntKind.i64 0], [Value.int IntKind.i64 0], [Value.bool false]]⟩ := by kernel_rfl
theorem K_24 : K 24 = some (List.replicate 32 (TK.int IntKind.u8)) := by kernel_rfl
end Go.Proofs.Ytdnnojblneccdaa
/-
  The structs of this program.
-/
namespace Go.Proofs.Ytdnnojblneccdaa
set_option linter.unusedSimpArgs false
set_option linter.unusedVariables false
open Go
open Enc (enc)
@[ext] structure Vote where
  height : UInt64
  round : UInt64
  phase : Int
  value : Vector UInt8 32
  proof : UInt64
  voter : Vector UInt8 32
  sig : Vector UInt8 64
  deriving DecidableEq
def Vote.cells (v : Vote) : List Value := [enc v.height] ++ ([enc v.round] ++ ([enc v.phase] ++ (encs v.value.toList ++ ([enc v.proof] ++ (encs v.voter.toList ++ (encs v.sig.toList))))))
theorem Vote.cells_length (v : Vote) : v.cells.length = 132 := by simp only [Vote.cells, List.length_append, encs_vec_length, List.length_singleton, List.length_nil, List.length_cons]
theorem Vote.cells_inj {a b : Vote} (h : a.cells = b.cells) : a = b := by
  simp only [Vote.cells] at h
  obtain ⟨h0, h⟩ := app_inj h (by simp only [List.length_append, encs_vec_length, List.length_singleton, List.length_nil, List.length_cons])
  obtain ⟨h1, h⟩ := app_inj h (by simp only [List.length_append, encs_vec_length, List.length_singleton, List.length_nil, List.length_cons])
  obtain ⟨h2, h⟩ := app_inj h (by simp only [List.length_append, encs_vec_length, List.length_singleton, List.length_nil, List.length_cons])
  obtain ⟨h3, h⟩ := app_inj h (by simp only [List.length_append, encs_vec_length, List.length_singleton, List.length_nil, List.length_cons])
  obtain ⟨h4, h⟩ := app_inj h (by simp only [List.length_append, encs_vec_length, List.length_singleton, List.length_nil, List.length_cons])
  obtain ⟨h5, h⟩ := app_inj h (by simp only [List.length_append, encs_vec_length, List.length_singleton, List.length_nil, List.length_cons])
  have h6 := h
  ext1
  · exact Enc.inj _ _ (by simpa using h0)
  · exact Enc.inj _ _ (by simpa using h1)
  · exact Enc.inj _ _ (by simpa using h2)
  · exact encs_vec_inj h3
  · exact Enc.inj _ _ (by simpa using h4)
  · exact encs_vec_inj h5
  · exact encs_vec_inj h6
instance : Enc Vote := ⟨fun v => .agg v.cells.toArray, fun _ _ h => Vote.cells_inj (agg_inj h)⟩
def Vote.zero : Vote := ⟨0, 0, 0, Vector.replicate 32 0, 0, Vector.replicate 32 0, Vector.replicate 64 0⟩
theorem Vote.le (v : Vote) {k : Nat} (h : Nat.ble k 132 = true) : k ≤ v.cells.length := by rw [v.cells_length]; exact Nat.le_of_ble_eq_true h
theorem Vote.cells_known (v : Vote) : v.cells.all known = true := by simp only [Vote.cells, List.all_append, encs_known, List.all_cons, List.all_nil, Enc1.agg1, Bool.and_self]
@[ext] structure Block where
  writer : Vector UInt8 32
  seq : UInt64
  prev : Vector UInt8 32
  links : Sl
  data : Sl
  sig : Vector UInt8 64
def Block.cells (v : Block) : List Value := encs v.writer.toList ++ ([enc v.seq] ++ (encs v.prev.toList ++ ([enc v.links] ++ ([enc v.data] ++ (encs v.sig.toList)))))
theorem Block.cells_length (v : Block) : v.cells.length = 131 := by simp only [Block.cells, List.length_append, encs_vec_length, List.length_singleton, List.length_nil, List.length_cons]
theorem Block.cells_inj {a b : Block} (h : a.cells = b.cells) : a = b := by
  simp only [Block.cells] at h
  obtain ⟨h0, h⟩ := app_inj h (by simp only [List.length_append, encs_vec_length, List.length_singleton, List.length_nil, List.length_cons])
  obtain ⟨h1, h⟩ := app_inj h (by simp only [List.length_append, encs_vec_length, List.length_singleton, List.length_nil, List.length_cons])
  obtain ⟨h2, h⟩ := app_inj h (by simp only [List.length_append, encs_vec_length, List.length_singleton, List.length_nil, List.length_cons])
  obtain ⟨h3, h⟩ := app_inj h (by simp only [List.length_append, encs_vec_length, List.length_singleton, List.length_nil, List.length_cons])
  obtain ⟨h4, h⟩ := app_inj h (by simp only [List.length_append, encs_vec_length, List.length_singleton, List.length_nil, List.length_cons])
  have h5 := h
  ext1
  · exact encs_vec_inj h0
  · exact Enc.inj _ _ (by simpa using h1)
  · exact encs_vec_inj h2
  · exact Enc.inj _ _ (by simpa using h3)
  · exact Enc.inj _ _ (by simpa using h4)
  · exact encs_vec_inj h5
instance : Enc Block := ⟨fun v => .agg v.cells.toArray, fun _ _ h => Block.cells_inj (agg_inj h)⟩
def Block.zero : Block := ⟨Vector.replicate 32 0, 0, Vector.replicate 32 0, ⟨none, 0, 0⟩, ⟨none, 0, 0⟩, Vector.replicate 64 0⟩
theorem Block.le (v : Block) {k : Nat} (h : Nat.ble k 131 = true) : k ≤ v.cells.length := by rw [v.cells_length]; exact Nat.le_of_ble_eq_true h
theorem Block.cells_known (v : Block) : v.cells.all known = true := by simp only [Block.cells, List.all_append, encs_known, List.all_cons, List.all_nil, Enc1.agg1, Bool.and_self]
@[ext] structure Record where
  kind : UInt8
  data : Sl
def Record.cells (v : Record) : List Value := [enc v.kind] ++ ([enc v.data])
theorem Record.cells_length (v : Record) : v.cells.length = 2 := by simp only [Record.cells, List.length_append, encs_vec_length, List.length_singleton, List.length_nil, List.length_cons]
theorem Record.cells_inj {a b : Record} (h : a.cells = b.cells) : a = b := by
  simp only [Record.cells] at h
  obtain ⟨h0, h⟩ := app_inj h (by simp only [List.length_append, encs_vec_length, List.length_singleton, List.length_nil, List.length_cons])
  have h1 := h
  ext1
  · exact Enc.inj _ _ (by simpa using h0)
  · exact Enc.inj _ _ (by simpa using h1)
instance : Enc Record := ⟨fun v => .agg v.cells.toArray, fun _ _ h => Record.cells_inj (agg_inj h)⟩
theorem cellsOf_Record (v : Record) : cellsOf (enc v) = some v.cells := rfl
def Record.zero : Record := ⟨0, ⟨none, 0, 0⟩⟩
theorem zero_69 {d : TD} (h : D 69 = some d) : d.zero = Record.zero.cells := by
  rw [D_69] at h; cases h; kernel_rfl
theorem Record.le (v : Record) {k : Nat} (h : Nat.ble k 2 = true) : k ≤ v.cells.length := by rw [v.cells_length]; exact Nat.le_of_ble_eq_true h
theorem Record.cells_known (v : Record) : v.cells.all known = true := by simp only [Record.cells, List.all_append, encs_known, List.all_cons, List.all_nil, Enc1.agg1, Bool.and_self]
theorem rd_69 (v : Record) {d : TD} (hd : d.k.isAgg = true) (hs : d.size = 2) : rdVar d v.cells 0 = some (enc v) := rd_all hd (by rw [hs]; exact v.cells_length)
theorem rd_69_0 (v : Record) {d : TD} (hd : d.k.isAgg = false) : rdVar d v.cells 0 = some (enc v.kind) :=
  rd_one (A := []) (C := [enc v.data]) hd (by simp only [Record.cells, List.append_assoc, List.nil_append, List.append_nil]) (by simp only [List.length_append, encs_vec_length, List.length_singleton, List.length_nil, List.length_cons])
theorem wr_69_0 (v : Record) (x : UInt8) : wrCells v.cells 0 ([enc x]) = ({ v with kind := x } : Record).cells := by
  rw [wr_part (A := []) (B := [enc v.kind]) (C := [enc v.data]) (c := v.cells) (by simp only [Record.cells, List.append_assoc, List.nil_append, List.append_nil]) (by simp only [List.length_append, encs_vec_length, List.length_singleton, List.length_nil, List.length_cons]) (by simp only [List.length_append, encs_vec_length, List.length_singleton, List.length_nil, List.length_cons])]
  simp only [Record.cells, List.append_assoc, List.nil_append, List.append_nil]
theorem rd_69_1 (v : Record) {d : TD} (hd : d.k.isAgg = false) : rdVar d v.cells 1 = some (enc v.data) :=
  rd_one (A := [enc v.kind]) (C := []) hd (by simp only [Record.cells, List.append_assoc, List.nil_append, List.append_nil]) (by simp only [List.length_append, encs_vec_length, List.length_singleton, List.length_nil, List.length_cons])
theorem wr_69_1 (v : Record) (x : Sl) : wrCells v.cells 1 ([enc x]) = ({ v with data := x } : Record).cells := by
  rw [wr_part (A := [enc v.kind]) (B := [enc v.data]) (C := []) (c := v.cells) (by simp only [Record.cells, List.append_assoc, List.nil_append, List.append_nil]) (by simp only [List.length_append, encs_vec_length, List.length_singleton, List.length_nil, List.length_cons]) (by simp only [List.length_append, encs_vec_length, List.length_singleton, List.length_nil, List.length_cons])]
  simp only [Record.cells, List.append_assoc, List.nil_append, List.append_nil]
@[ext] structure RStep where
  at_ : Int
  chain : Vector UInt8 32
  deriving DecidableEq
def RStep.cells (v : RStep) : List Value := [enc v.at_] ++ (encs v.chain.toList)
theorem RStep.cells_length (v : RStep) : v.cells.length = 33 := by simp only [RStep.cells, List.length_append, encs_vec_length, List.length_singleton, List.length_nil, List.length_cons]
theorem RStep.cells_inj {a b : RStep} (h : a.cells = b.cells) : a = b := by
  simp only [RStep.cells] at h
  obtain ⟨h0, h⟩ := app_inj h (by simp only [List.length_append, encs_vec_length, List.length_singleton, List.length_nil, List.length_cons])
  have h1 := h
  ext1
  · exact Enc.inj _ _ (by simpa using h0)
  · exact encs_vec_inj h1
instance : Enc RStep := ⟨fun v => .agg v.cells.toArray, fun _ _ h => RStep.cells_inj (agg_inj h)⟩
theorem cellsOf_RStep (v : RStep) : cellsOf (enc v) = some v.cells := rfl
def RStep.zero : RStep := ⟨0, Vector.replicate 32 0⟩
theorem zero_107 {d : TD} (h : D 107 = some d) : d.zero = RStep.zero.cells := by
  rw [D_107] at h; cases h; kernel_rfl
theorem RStep.le (v : RStep) {k : Nat} (h : Nat.ble k 33 = true) : k ≤ v.cells.length := by rw [v.cells_length]; exact Nat.le_of_ble_eq_true h
theorem RStep.cells_known (v : RStep) : v.cells.all known = true := by simp only [RStep.cells, List.all_append, encs_known, List.all_cons, List.all_nil, Enc1.agg1, Bool.and_self]
theorem rd_107 (v : RStep) {d : TD} (hd : d.k.isAgg = true) (hs : d.size = 33) : rdVar d v.cells 0 = some (enc v) := rd_all hd (by rw [hs]; exact v.cells_length)
theorem rd_107_0 (v : RStep) {d : TD} (hd : d.k.isAgg = false) : rdVar d v.cells 0 = some (enc v.at_) :=
  rd_one (A := []) (C := encs v.chain.toList) hd (by simp only [RStep.cells, List.append_assoc, List.nil_append, List.append_nil]) (by simp only [List.length_append, encs_vec_length, List.length_singleton, List.length_nil, List.length_cons])
theorem wr_107_0 (v : RStep) (x : Int) : wrCells v.cells 0 ([enc x]) = ({ v with at_ := x } : RStep).cells := by
  rw [wr_part (A := []) (B := [enc v.at_]) (C := encs v.chain.toList) (c := v.cells) (by simp only [RStep.cells, List.append_assoc, List.nil_append, List.append_nil]) (by simp only [List.length_append, encs_vec_length, List.length_singleton, List.length_nil, List.length_cons]) (by simp only [List.length_append, encs_vec_length, List.length_singleton, List.length_nil, List.length_cons])]
  simp only [RStep.cells, List.append_assoc, List.nil_append, List.append_nil]
theorem rd_107_1 (v : RStep) {d : TD} (hd : d.k.isAgg = true) (hs : d.size = 32) : rdVar d v.cells 1 = some (enc v.chain) :=
  rd_part (A := [enc v.at_]) (B := encs v.chain.toList) (C := []) hd (by simp only [RStep.cells, List.append_assoc, List.nil_append, List.append_nil]) (by simp only [List.length_append, encs_vec_length, List.length_singleton, List.length_nil, List.length_cons]) (by rw [hs]; simp only [List.length_append, encs_vec_length, List.length_singleton, List.length_nil, List.length_cons])
theorem wr_107_1 (v : RStep) (x : Vector UInt8 32) : wrCells v.cells 1 (encs x.toList) = ({ v with chain := x } : RStep).cells := by
  rw [wr_part (A := [enc v.at_]) (B := encs v.chain.toList) (C := []) (c := v.cells) (by simp only [RStep.cells, List.append_assoc, List.nil_append, List.append_nil]) (by simp only [List.length_append, encs_vec_length, List.length_singleton, List.length_nil, List.length_cons]) (by simp only [List.length_append, encs_vec_length, List.length_singleton, List.length_nil, List.length_cons])]
  simp only [RStep.cells, List.append_assoc, List.nil_append, List.append_nil]
end Go.Proofs.Ytdnnojblneccdaa
/-
  Elements of lists, where the order is drawn.
-/
namespace Go.Proofs.Ytdnnojblneccdaa
set_option linter.unusedSimpArgs false
set_option linter.unusedVariables false
open Go
open Enc (enc)
theorem ox_iaC2 {α : Type} [Row α] {Γ : Fns} {D : Ty} {K : Kinds} {e : Operand → Value} {H H0 : IHeap} {n : Nat} {t : TypeId} {x y : Operand} {v : Value} {el : Nat} {k : IntKind} {j : Int} {d de : TD} {l : List α} (i : Nat) (hx : e x = v) (hy : e y = .int k j) (hd : D t = some d) (hk : d.k = .slice el) (hde : D el = some de) (hs : de.size = Row.sz α) (hl : rdC H0 v = some l) (hj : j = i) (hi : i < l.length) :
    iopC Γ D K e H n (.indexAddr t x y) = some ⟨.pointer (some ⟨adrId v, adrOff v + i * Row.sz α, none⟩), [], n⟩ := by
  obtain ⟨a, cap, rfl⟩ := rdC_len hl
  obtain ⟨id, off, sp, c, ro, rfl, h1, h2⟩ := rdC_at hl hi
  subst hj
  rw [ox_iaS hx hy hd hk hde (by omega) (by omega), hs]
  rfl
end Go.Proofs.Ytdnnojblneccdaa
/-
  Appends to open slices of one-cell elements; copy; writes of another kind where the order is drawn.
-/
namespace Go.Proofs.Ytdnnojblneccdaa
set_option linter.unusedSimpArgs false
set_option linter.unusedVariables false
open Go
open Enc (enc)
open Row (cel)
section
variable {α : Type} [Row1 α] {Γ : Fns} {D : Ty} {K : Kinds} {e : Operand → Value} {H : IHeap} {n : Nat}
theorem ox_appOE {t t2 el : TypeId} {s y : Operand} {id len len2 cap sz k : Nat} {d de : TD} {l1 l : List α} {x : Value} (hs : e s = .slice (some ⟨id, 0, some sz⟩) len cap) (hy : e y = x) (hd : D t = some d) (hk : d.k = .slice el) (hde : D el = some de) (hsz : de.size = Row.sz α) (hss : sz = de.size)
    (hsrc : srcArg D H t2 de x = some (k, encs l)) (hkl : l.length = k) (hH : H id = some (.cells (encs l1) false)) (hl : l1.length = len) (hl2 : len + k = len2) (hm : len2 * de.bytes ≤ most) (hb : 1 ≤ de.bytes) :
    iopC Γ D K e H n (.call ⟨.builtin .append, #[s, y], #[t, t2]⟩) = some ⟨.slice (some ⟨n, 0, some sz⟩) len2 len2, [(id, none), (n, some (.cells (encs (l1 ++ l)) false))], n + 1⟩ := by
  subst hl2
  have hcl : ¬ (len + k ≤ cap ∧ closed (some ⟨id, 0, some sz⟩) = true) := by simp [closed]
  have hlen : (encs l1).length = len * de.size := by rw [← cels_one, cels_length, hl, hsz]
  simp only [iopC, iop, doBuiltin, doAppend, List.map_cons, List.map_nil, hs, hy, hd, hk, hde, hsrc, Option.bind_some, List.getElem?_toArray, List.getElem?_cons_zero, List.getElem?_cons_succ]
  rw [if_neg hcl, if_pos ⟨hm, hb⟩]
  simp only [hH]
  rw [if_pos ⟨Nat.le_of_eq hlen.symm, encs_known1 l, hss, trivial⟩, ← hlen, List.take_length, encs_append]
theorem srcArg_1 {t2 el2 : TypeId} {d2 de : TD} {x : Value} {l : List α} (hd : D t2 = some d2) (hk : d2.k = .slice el2) (hs : de.size = Row.sz α) (h : rdC H x = some l) : srcArg D H t2 de x = some (l.length, encs l) := by
  have := srcArg_rdC (α := α) (de := de) hd hk hs h
  rw [this, cels_one]
end
section
variable {P : Program} {Γ : Fns} {D : Ty} {K : Kinds} {W : Nat → Prop} {R : Option Nat} {ops : Array Oper} {Q : Post3} {o : Oper} {os : List Oper} {pre : List Nat} {pres : List (List Nat)} {N : Nat} {L : List (Nat × Value)} {H : IHeap} {M : Ups} {n n0 k : Nat}
  {Wr : List (Nat × Ups)} {Vs : List (Nat × Vis)}
end
end Go.Proofs.Ytdnnojblneccdaa
/-
  More operations: bytes, strings, pointers, appends that move; writes of any kind where the order is drawn.
-/
namespace Go.Proofs.Ytdnnojblneccdaa
set_option linter.unusedSimpArgs false
set_option linter.unusedVariables false
open Go
open Enc (enc)
open Row (cel)
def shr8 (x : UInt8) (k : Nat) : UInt8 := UInt8.ofNat (x.toNat / 2 ^ min k 8)
section
variable {D : Ty} {K : Kinds} {t : TypeId}
theorem bo_u8_lss (x y : UInt8) : binOp' D K .lss t (enc x) (enc y) = some (.bool (decide (x < y))) := by
  refine congrArg (fun b => some (Value.bool b)) ?_
  rw [Bool.eq_iff_iff, decide_eq_true_iff, decide_eq_true_iff, UInt8.lt_iff_toNat_lt]
  omega
theorem bo_u8_and (x y : UInt8) : binOp' D K .and t (enc x) (enc y) = some (enc (x &&& y)) := by
  show some (Value.int .u8 (IntKind.wrap .u8 ((BitVec.ofInt 8 (x.toNat : Int) &&& BitVec.ofInt 8 (y.toNat : Int)).toNat : Int))) = _
  rw [bv_8, bv_8, wrapN_u8, Nat.mod_eq_of_lt (BitVec.isLt _)]; rfl
theorem bo_u8_shr {k : IntKind} {b : Int} (x : UInt8) (hb : 0 ≤ b) : binOp' D K .shr t (enc x) (.int k b) = some (enc (shr8 x b.toNat)) := by
  show (if b < 0 then none else some (Value.int .u8 ((x.toNat : Int).fdiv (2 ^ (min b.toNat 8))))) = _
  rw [if_neg (by omega)]
  have : ((x.toNat : Int).fdiv (2 ^ (min b.toNat 8))) = ((x.toNat / 2 ^ (min b.toNat 8) : Nat) : Int) := by
    rw [Int.fdiv_eq_ediv_of_nonneg _ (Int.pow_nonneg (by omega))]; simp
  rw [this, enc_u8, shr8, UInt8.toNat_ofNat', Nat.mod_eq_of_lt]
  exact Nat.lt_of_le_of_lt (Nat.div_le_self _ _) x.toNat_lt
theorem bo_u8_shrN {k : IntKind} {b : Int} (x : UInt8) (m : Nat) (hb : b = m) : binOp' D K .shr t (enc x) (.int k b) = some (enc (shr8 x m)) := by
  subst hb
  have := bo_u8_shr (D := D) (K := K) (t := t) (k := k) (b := (m : Int)) x (by omega)
  simpa using this
theorem bo_u64_shrN {k : IntKind} {b : Int} (x : UInt64) (m : Nat) (hb : b = m) : binOp' D K .shr t (enc x) (.int k b) = some (enc (shr64 x m)) := by
  subst hb
  have := bo_u64_shr (D := D) (K := K) (t := t) (k := k) (b := (m : Int)) x (by omega)
  simpa using this
theorem bo_u64_shlN {k : IntKind} {b : Int} (x : UInt64) (m : Nat) (hb : b = m) : binOp' D K .shl t (enc x) (.int k b) = some (enc (shl64 x m)) := by
  subst hb
  have := bo_u64_shl (D := D) (K := K) (t := t) (k := k) (b := (m : Int)) x (by omega)
  simpa using this
theorem uo_u8_xor (x : UInt8) : unOp' .xor (enc x) = some (enc (~~~x)) := by
  show some (Value.int .u8 (IntKind.wrap .u8 ((BitVec.ofInt 8 255 ^^^ BitVec.ofInt 8 (x.toNat : Int)).toNat : Int))) = _
  rw [bv_8, wrapN_u8, Nat.mod_eq_of_lt (BitVec.isLt _)]
  have : (BitVec.ofInt 8 255 ^^^ x.toBitVec) = ~~~x.toBitVec := by
    have : BitVec.ofInt 8 255 = BitVec.allOnes 8 := by decide
    rw [this, BitVec.allOnes_xor]
  rw [this]; rfl
theorem bo_ptr_nil {d : TD} {a : Addr} {el : Nat} (hd : D t = some d) (hk : d.k = .ptr el) : binOp' D K .eql t (.pointer (some a)) (.pointer none) = some (.bool false) := by
  simp [binOp', eqOp, hd, hk]
end
section
variable {Γ : Fns} {D : Ty} {K : Kinds} {e : Operand → Value} {H : IHeap} {n : Nat}
theorem cv_6_i {s t : TypeId} {x : Operand} {ds dd : TD} {a : UInt64} (hx : e x = enc a) (hs : D s = some ds) (hd : D t = some dd) (hk : dd.k = .int .i64) (h : a.toNat < 2 ^ 63) : iopC Γ D K e H n (.convert s t x) = some ⟨.int .i64 (a.toNat : Int), [], n⟩ := by
  rw [ox_conv (k' := .u64) (a := (a.toNat : Int)) hx hs hd hk, wrap_i64 (by omega) (by omega)]
theorem ox_minN {x y : Operand} {ts : Array TypeId} {k : IntKind} {a b : Int} (i j : Nat) (hx : e x = .int k a) (hy : e y = .int k b) (ha : a = i) (hb : b = j) : iopC Γ D K e H n (.call ⟨.builtin .min, #[x, y], ts⟩) = some ⟨.int k ((min i j : Nat) : Int), [], n⟩ := by
  subst ha; subst hb
  simp only [iopC, iop, doBuiltin, List.map_cons, List.map_nil, hx, hy, Ytdnnojblneccdaa.val]
  congr 3
  split <;> omega
theorem ox_maxM {x y : Operand} {ts : Array TypeId} {k : IntKind} {a b : Int} (i j : Nat) (hx : e x = .int k a) (hy : e y = .int k b) (ha : a = i) (hb : b = j) : iopC Γ D K e H n (.call ⟨.builtin .max, #[x, y], ts⟩) = some ⟨.int k ((max i j : Nat) : Int), [], n⟩ := by
  subst ha; subst hb
  simp only [iopC, iop, doBuiltin, List.map_cons, List.map_nil, hx, hy, Ytdnnojblneccdaa.val]
  congr 3
  split <;> omega
theorem ox_ixStr {t : TypeId} {x y : Operand} {d : TD} {l : List UInt8} {k : IntKind} {i : Int} (j : Nat) (hx : e x = .string (bs l)) (hy : e y = .int k i) (hd : D t = some d) (hk : d.k = .str) (hi : i = j) (hj : j < l.length) : iopC Γ D K e H n (.index t x y) = some ⟨enc (l.getD j 0), [], n⟩ := by
  subst hi
  simp only [iopC, iop, hx, hy, hd, hk, Option.bind_some, bs]
  rw [if_pos (by omega)]
  simp [hj, Ytdnnojblneccdaa.val, enc_u8]
end
section
variable {α : Type} [Row1 α] {Γ : Fns} {D : Ty} {K : Kinds} {e : Operand → Value} {H : IHeap} {n : Nat}
/-- an append to a slice that is not open, and has no room: it moves -/
theorem ox_appG {t t2 el : TypeId} {s y : Operand} {id off len len2 cap k : Nat} {x : Value} {d de : TD} {l1 l : List α} (hs : e s = .slice (some ⟨id, off, none⟩) len cap) (hy : e y = x) (hd : D t = some d) (hk : d.k = .slice el) (hde : D el = some de) (hsz : de.size = Row.sz α)
    (hsrc : srcArg D H t2 de x = some (k, encs l)) (hkl : l.length = k) (hr : rdC H (.slice (some ⟨id, off, none⟩) len cap) = some l1) (hc : cap < len + k) (hl2 : len + k = len2) (hm : len2 * de.bytes ≤ most) (hb : 1 ≤ de.bytes) :
    iopC Γ D K e H n (.call ⟨.builtin .append, #[s, y], #[t, t2]⟩) = some ⟨.slice (some ⟨n, 0, some de.size⟩) len2 len2, [(n, some (.cells (encs (l1 ++ l)) false))], n + 1⟩ := by
  subst hl2
  obtain ⟨_, h2⟩ := rdC_src hr
  rw [cels_one] at h2
  have hcl : ¬ (len + k ≤ cap ∧ closed (some ⟨id, off, none⟩) = true) := by omega
  simp only [iopC, iop, doBuiltin, doAppend, List.map_cons, List.map_nil, hs, hy, hd, hk, hde, hsrc, Option.bind_some, List.getElem?_toArray, List.getElem?_cons_zero, List.getElem?_cons_succ]
  rw [if_neg hcl, if_pos ⟨hm, hb⟩]
  simp only [hsz, h2, Option.bind_some, new, encs_append]
end
section
variable {P : Program} {Γ : Fns} {D : Ty} {K : Kinds} {W : Nat → Prop} {R : Option Nat} {ops : Array Oper} {Q : Post3} {o : Oper} {os : List Oper} {pre : List Nat} {pres : List (List Nat)} {N : Nat} {L : List (Nat × Value)} {H : IHeap} {M : Ups} {n n0 k : Nat}
  {Wr : List (Nat × Ups)} {Vs : List (Nat × Vis)}
/-- updates of any kind -/
theorem vcE_gen {d : Tmp} {v : Value} {n' : Nat} {ids : List Nat} {up u M' : Ups} (hd : o.dst = some d) (hg : o.guard = none) (hu : upsW pre Wr = u) (hM : putH u M = M') (h : iopC Γ D K (ev (dense N L)) (hp H M') n o.op = some ⟨v, up, n'⟩) (hc : isCall o.op = false)
    (hs : seesIds (ev (dense N L)) o.op = ids) (hn : n ≤ n') (hup : ∀ p ∈ up, W p.1 ∧ (n ≤ p.1 ∨ p.1 ∈ ids ∧ (hp H M' p.1).isSome = true) ∧ p.1 < n') (hl : ∀ i ∈ ids, i < n) (hq : quietW n0 pre (.ids ids) Wr) (hv' : ∀ p ∈ up, n ≤ p.1 ∨ clearV n0 pre p.1 Vs)
    (hk : vcE Γ D K W ops (hp H M) n0 Q os pres (k + 1) (Wr ++ [(k, up)]) ((k, .ids ids) :: Vs) (dense N ((d, v) :: L)) n') : vcE Γ D K W ops (hp H M) n0 Q (o :: os) (pre :: pres) k Wr Vs (dense N L) n := by
  intro acc R
  subst hu
  subst hM
  unfold vcD
  rw [R.ups pre, upds_hp, h]
  simp only [wantedI, hg, wpo]
  have hv : visOf (ev (dense N L)) o.op (List.map (fun x => x.fst) (upsW pre Wr)) = .ids ids := by simp only [visOf, hc]; rw [hs]; rfl
  refine ⟨fun _ => ⟨fun p hm => ?_, hn, ?_, ?_⟩, fun hb => by cases hb⟩
  · obtain ⟨h1, h2, h3⟩ := hup p hm
    refine ⟨h1, ?_, h3⟩
    rcases h2 with h2 | ⟨h2, h4⟩
    · exact .inl h2
    · right
      simp only [seenH, hc, Bool.false_eq_true, if_false, hs, restr]
      rw [if_pos h2]
      exact h4
  · refine apart2_mk fun j y hy => ?_
    rw [hv]
    have a1 : j ∈ pre ∨ ∀ p ∈ y.up, Vis.clear n0 (.ids ids) p.1 := by
      rcases R.wr j y hy with h1 | h1
      · right; rw [h1]; exact fun p hm => (by cases hm)
      · exact quietW_spec hq _ h1
    have a2 : j ∈ pre ∨ ∀ p ∈ up, y.vis.clear n0 p.1 := by
      rcases R.vis j y hy with h1 | h1
      · right; rw [h1]; intro p _; simp [Vis.clear]
      · by_cases hj : j ∈ pre
        · exact .inl hj
        · right
          intro p hm
          rcases hv' p hm with h2 | h2
          · exact R.fresh y (List.mem_of_getElem? hy) p.1 h2
          · rcases clearV_spec h2 _ h1 with h3 | h3
            · exact absurd h3 hj
            · exact h3
    simp only [Nat.zero_add]
    rcases a1 with a1 | a1
    · exact .inl a1
    · rcases a2 with a2 | a2
      · exact .inl a2
      · exact .inr ⟨a2, a1⟩
  · have hh := hk (acc ++ [⟨up, .ids ids⟩]) (R.snoc _ _ _ hn (.inr rfl) (.inr (.inl rfl)) (fun id' hid' => by
      show id' ∉ ids
      intro hm; have := hl _ hm; omega))
    rw [hv]
    rw [tput_dense, hd]
    exact hh
end
end Go.Proofs.Ytdnnojblneccdaa
