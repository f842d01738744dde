/-
  Steps through code on states of few known variables.
-/
import Derived.Test.YtdnnojblneccdaaE21
namespace Go.Proofs.Ytdnnojblneccdaa
set_option linter.unusedSimpArgs false
set_option linter.unusedVariables false
open Go

/-- an operand's value, where it is known -/
def opd (N : Nat) (L : List (Nat × Value)) : Operand → Option Value
  | .tmp u => cond (Nat.blt u N) (L.lookup u) none
  | .const v => cond (clo v) (some v) none
  | .func f => some (.func (.func f) #[] #[])
  | .global _ => none
theorem pl {N : Nat} {L : List (Nat × Value)} {x : Operand} {v : Value} (h : opd N L x = some v) : ev (dense N L) x = v := by
  cases x with
  | tmp u =>
    rw [ev_tmp]
    simp only [opd] at h
    cases hb : Nat.blt u N with
    | false => rw [hb] at h; cases h
    | true =>
      rw [hb] at h
      rw [if_pos (by simpa [Nat.blt_eq] using hb)]
      simp only [cond_true] at h
      rw [h]; rfl
  | const v =>
    simp only [opd] at h
    simp only [ev]
    cases hb : clo v with
    | false => rw [hb] at h; cases h
    | true => rw [hb] at h; cases h; rfl
  | func f => simp only [opd, Option.some.injEq] at h; exact h
  | global g => cases h
/-- a value that is there only if b holds -/
def gv (b : Bool) (v : Value) : Value := cond b v (.chan none)
theorem gd {N : Nat} {L : List (Nat × Value)} {x : Operand} {v : Value} {b : Bool} (hb : b = true) (h : opd N L x = some (gv b v)) : ev (dense N L) x = v := by
  subst hb; exact pl h
/-- the guard of a guard -/
theorem gd2 {N : Nat} {L : List (Nat × Value)} {x : Operand} {v : Value} {b c : Bool} (hb : (b && c) = true) (h : opd N L x = some (gv b v)) : ev (dense N L) x = v := by
  simp only [Bool.and_eq_true] at hb; exact gd hb.1 h
theorem opd_tmp {N : Nat} {L : List (Nat × Value)} {u : Nat} {v : Value} (h : opd N L (.tmp u) = some v) : (dense N L)[u]? = some v := by
  simp only [opd] at h
  cases hb : Nat.blt u N with
  | false => rw [hb] at h; cases h
  | true =>
    rw [hb] at h
    rw [dense_get, if_pos (by simpa [Nat.blt_eq] using hb)]
    simp only [cond_true] at h
    rw [h]; rfl
/-- guards -/
theorem wgT {ops : Array Oper} {N : Nat} {L : List (Nat × Value)} {o : Oper} {j d : Nat} {b : Bool} (hg : o.guard = some (j, true)) (hj : (ops[j]?).bind (·.dst) = some d) (h : opd N L (.tmp d) = some (.bool b)) : wantedI ops (dense N L) o = some b := by
  simp only [wantedI, hg, hj, opd_tmp h, Option.bind_some, wantV]
  cases b <;> rfl
theorem wgF {ops : Array Oper} {N : Nat} {L : List (Nat × Value)} {o : Oper} {j d : Nat} {b : Bool} (hg : o.guard = some (j, false)) (hj : (ops[j]?).bind (·.dst) = some d) (h : opd N L (.tmp d) = some (.bool b)) : wantedI ops (dense N L) o = some (!b) := by
  simp only [wantedI, hg, hj, opd_tmp h, Option.bind_some, wantV]
  cases b <;> rfl
theorem wgT2 {ops : Array Oper} {N : Nat} {L : List (Nat × Value)} {o : Oper} {j d : Nat} {g b : Bool} (hg : o.guard = some (j, true)) (hj : (ops[j]?).bind (·.dst) = some d) (h : opd N L (.tmp d) = some (gv g (.bool b))) : wantedI ops (dense N L) o = some (g && b) := by
  simp only [wantedI, hg, hj, opd_tmp h, Option.bind_some]
  cases g <;> cases b <;> rfl
theorem wgF2 {ops : Array Oper} {N : Nat} {L : List (Nat × Value)} {o : Oper} {j d : Nat} {g b : Bool} (hg : o.guard = some (j, false)) (hj : (ops[j]?).bind (·.dst) = some d) (h : opd N L (.tmp d) = some (gv g (.bool b))) : wantedI ops (dense N L) o = some (g && !b) := by
  simp only [wantedI, hg, hj, opd_tmp h, Option.bind_some]
  cases g <;> cases b <;> rfl

theorem hp_sk {H : IHeap} {id j : Nat} {o r : Option IObj} {M : Ups} (h : id ≠ j) (k : hp H M id = r) : hp H ((j, o) :: M) id = r := (hp_ne H o M h).trans k

/-! one operation: what it comes to -/
section
variable {Γ : Fns} {D : Ty} {K : Kinds} {e : Operand → Value} {H : IHeap} {n : Nat}

theorem ox_move {x : Operand} {v : Value} (h : e x = v) : iopC Γ D K e H n (.move x) = some ⟨v, [], n⟩ := by subst h; rfl
theorem ox_assign {x : Operand} {v : Value} (h : e x = v) : iopC Γ D K e H n (.assign x) = some ⟨v, [], n⟩ := by subst h; rfl
theorem ox_pick {c x y : Operand} {b : Bool} {v w : Value} (hc : e c = .bool b) (hx : e x = v) (hy : e y = w) : iopC Γ D K e H n (.pick c x y) = some ⟨if b then v else w, [], n⟩ := by
  simp only [iopC, iop, hc, hx, hy, val]
/-- a && b -/
theorem ox_and {c x y : Operand} {b a : Bool} (hc : e c = .bool b) (hx : b = true → e x = .bool a) (hy : e y = .bool false) : iopC Γ D K e H n (.pick c x y) = some ⟨.bool (b && a), [], n⟩ := by
  simp only [iopC, iop, hc, hy, val]
  cases b
  · rfl
  · rw [hx rfl]; rfl
/-- a || b -/
theorem ox_or {c x y : Operand} {b a : Bool} (hc : e c = .bool b) (hx : e x = .bool true) (hy : b = false → e y = .bool a) : iopC Γ D K e H n (.pick c x y) = some ⟨.bool (b || a), [], n⟩ := by
  simp only [iopC, iop, hc, hx, val]
  cases b
  · rw [hy rfl]; rfl
  · rfl
theorem ox_alloc {t : TypeId} {d : TD} (hd : D t = some d) : iopC Γ D K e H n (.alloc t) = some ⟨.pointer (some ⟨n, 0, none⟩), [(n, some (.cells d.zero false))], n + 1⟩ := by
  simp only [iopC, iop, hd, Option.bind_some, new]
theorem ox_box {t : TypeId} {x : Operand} {v : Value} {cs : List Value} (hx : e x = v) (hc : cellsOf v = some cs) : iopC Γ D K e H n (.box t x) = some ⟨.pointer (some ⟨n, 0, none⟩), [(n, some (.cells cs false))], n + 1⟩ := by
  simp only [iopC, iop, hx, hc, Option.bind_some, new]
theorem ox_load {t : TypeId} {a : Operand} {id off : Nat} {d : TD} {c : List Value} {ro : Bool} {v : Value} (ha : e a = .pointer (some ⟨id, off, none⟩)) (hd : D t = some d) (hH : H id = some (.cells c ro)) (hv : rdVar d c off = some v) :
    iopC Γ D K e H n (.load t a) = some ⟨v, [], n⟩ := by
  simp only [iopC, iop, doLoad, ha, hd, hH, hv, Option.bind_some, val]
theorem ox_store {t : TypeId} {a x : Operand} {id off : Nat} {d : TD} {c vs c' : List Value} {v : Value} (ha : e a = .pointer (some ⟨id, off, none⟩)) (hx : e x = v) (hd : D t = some d) (hH : H id = some (.cells c false)) (hv : cellsOf v = some vs)
    (h1 : vs.length = d.size) (h2 : off + d.size ≤ c.length) (h3 : vs.all known = true) (hc : wrCells c off vs = c') :
    iopC Γ D K e H n (.store t a x) = some ⟨.tuple #[], [(id, some (.cells c' false))], n⟩ := by
  simp only [iopC, iop, doStore, ha, hx, hd, hH, hv, Option.bind_some, hc]
  rw [if_pos ⟨h1, h2, h3⟩]
theorem ox_bin {op : BinOp} {t t2 : TypeId} {x y : Operand} {v w r : Value} (hx : e x = v) (hy : e y = w) (h : binOp' D K op t v w = some r) : iopC Γ D K e H n (.binOp op t x y t2) = some ⟨r, [], n⟩ := by
  simp only [iopC, iop, hx, hy, h, Option.bind_some, val]
theorem ox_un {op : UnOp} {t : TypeId} {x : Operand} {v r : Value} (hx : e x = v) (h : unOp' op v = some r) : iopC Γ D K e H n (.unOp op t x) = some ⟨r, [], n⟩ := by
  simp only [iopC, iop, hx, h, Option.bind_some, val]
theorem ox_conv {s t : TypeId} {x : Operand} {k k' : IntKind} {a : Int} {ds dd : TD} (hx : e x = .int k' a) (hs : D s = some ds) (hd : D t = some dd) (hk : dd.k = .int k) : iopC Γ D K e H n (.convert s t x) = some ⟨.int k (k.wrap a), [], n⟩ := by
  simp only [iopC, iop, doConvert, hx, hs, hd, hk, val]
theorem ox_fieldAddr {t : TypeId} {x : Operand} {f id off o ft : Nat} {d df : TD} {fs : List (Nat × Nat)} (hx : e x = .pointer (some ⟨id, off, none⟩)) (hd : D t = some d) (hk : d.k = .struct fs) (hf : fs[f]? = some (o, ft)) (hdf : D ft = some df) (h0 : df.size ≠ 0) :
    iopC Γ D K e H n (.fieldAddr t x f) = some ⟨.pointer (some ⟨id, off + o, none⟩), [], n⟩ := by
  simp only [iopC, iop, doField, hx, hd, hk, hf, hdf, Option.bind_some, if_neg h0, val]
theorem ox_field {t : TypeId} {x : Operand} {f o ft : Nat} {cs : Array Value} {d df : TD} {fs : List (Nat × Nat)} {v : Value} (hx : e x = .agg cs) (hd : D t = some d) (hk : d.k = .struct fs) (hf : fs[f]? = some (o, ft)) (hdf : D ft = some df) (hv : rdVar df cs.toList o = some v) :
    iopC Γ D K e H n (.field t x f) = some ⟨v, [], n⟩ := by
  simp only [iopC, iop, doField, hx, hd, hk, hf, hdf, Option.bind_some, hv, val]
theorem ox_iaS {t : TypeId} {x y : Operand} {id off len cap el : Nat} {s : Option Nat} {k : IntKind} {i : Int} {d de : TD} (hx : e x = .slice (some ⟨id, off, s⟩) len cap) (hy : e y = .int k i) (hd : D t = some d) (hk : d.k = .slice el) (hde : D el = some de) (h0 : 0 ≤ i) (h1 : i < len) :
    iopC Γ D K e H n (.indexAddr t x y) = some ⟨.pointer (some ⟨id, off + i.toNat * de.size, none⟩), [], n⟩ := by
  simp only [iopC, iop, hx, hy, hd, hk, hde, Option.bind_some, if_pos (And.intro h0 h1), val]
theorem ox_iaA {t : TypeId} {x y : Operand} {id off len el : Nat} {k : IntKind} {i : Int} {d de : TD} (hx : e x = .pointer (some ⟨id, off, none⟩)) (hy : e y = .int k i) (hd : D t = some d) (hk : d.k = .arr len el) (hde : D el = some de) (h0 : 0 ≤ i) (h1 : i < len) :
    iopC Γ D K e H n (.indexAddr t x y) = some ⟨.pointer (some ⟨id, off + i.toNat * de.size, none⟩), [], n⟩ := by
  simp only [iopC, iop, hx, hy, hd, hk, hde, Option.bind_some, if_pos (And.intro h0 h1), val]
theorem ox_ixA {t : TypeId} {x y : Operand} {len el : Nat} {cs : Array Value} {k : IntKind} {i : Int} {d de : TD} {v : Value} (hx : e x = .agg cs) (hy : e y = .int k i) (hd : D t = some d) (hk : d.k = .arr len el) (hde : D el = some de) (h0 : 0 ≤ i) (h1 : i < len) (hv : rdVar de cs.toList (i.toNat * de.size) = some v) :
    iopC Γ D K e H n (.index t x y) = some ⟨v, [], n⟩ := by
  simp only [iopC, iop, hx, hy, hd, hk, hde, Option.bind_some, if_pos (And.intro h0 h1), hv, val]
theorem ox_slS {t : TypeId} {x : Operand} {lo hi mx : Option Operand} {a : Addr} {len cap el : Nat} {d de : TD} {v : Value} (hx : e x = .slice (some a) len cap) (hd : D t = some d) (hk : d.k = .slice el) (hde : D el = some de) (hv : sliceIt a len cap de.size (lo.map e) (hi.map e) (mx.map e) = some v) :
    iopC Γ D K e H n (.slice t x lo hi mx) = some ⟨v, [], n⟩ := by
  simp only [iopC, iop, hx, hd, hk, hde, Option.bind_some, hv, val]
theorem ox_slN {t : TypeId} {x : Operand} {lo hi mx : Option Operand} {l c el : Nat} {d de : TD} {v : Value} (hx : e x = .slice none l c) (hd : D t = some d) (hk : d.k = .slice el) (hde : D el = some de) (hv : sliceIt ⟨0, 0, none⟩ 0 0 de.size (lo.map e) (hi.map e) (mx.map e) = some v) :
    iopC Γ D K e H n (.slice t x lo hi mx) = some ⟨.slice none 0 0, [], n⟩ := by
  simp only [iopC, iop, hx, hd, hk, hde, Option.bind_some, hv, val]
theorem ox_slA {t : TypeId} {x : Operand} {lo hi mx : Option Operand} {id off len el : Nat} {d de : TD} {v : Value} (hx : e x = .pointer (some ⟨id, off, none⟩)) (hd : D t = some d) (hk : d.k = .arr len el) (hde : D el = some de) (hv : sliceIt ⟨id, off, none⟩ len len de.size (lo.map e) (hi.map e) (mx.map e) = some v) :
    iopC Γ D K e H n (.slice t x lo hi mx) = some ⟨v, [], n⟩ := by
  simp only [iopC, iop, hx, hd, hk, hde, Option.bind_some, hv, val]
/-- a whole array as a slice -/
theorem ox_slAll {t : TypeId} {x : Operand} {id off len el : Nat} {d de : TD} (hx : e x = .pointer (some ⟨id, off, none⟩)) (hd : D t = some d) (hk : d.k = .arr len el) (hde : D el = some de) :
    iopC Γ D K e H n (.slice t x none none none) = some ⟨.slice (some ⟨id, off, none⟩) len len, [], n⟩ := by
  refine ox_slA hx hd hk hde ?_
  simp [sliceIt, bnd, goOn]
theorem ox_calls {t : List Value} {f : FuncId} {args : Array Operand} {ats : Array TypeId} {F : FnI} {ef : Eff} (hF : Γ.lookup f = some F) (h : F (args.toList.map (ev t)) H n = some ef) :
    iopC Γ D K (ev t) H n (.call ⟨.value (.func f), args, ats⟩) = some ef := by
  simp only [iopC, ev, hF, Option.bind_some]
  simpa using h
/-- arguments -/
def opds (N : Nat) (L : List (Nat × Value)) : List Operand → Option (List Value)
  | [] => some []
  | x :: xs => match opd N L x, opds N L xs with
    | some v, some vs => some (v :: vs)
    | _, _ => none
theorem opds_ev {N : Nat} {L : List (Nat × Value)} : ∀ {xs : List Operand} {vs : List Value}, opds N L xs = some vs → xs.map (ev (dense N L)) = vs
  | [], vs, h => by cases h; rfl
  | x :: xs, vs, h => by
    simp only [opds] at h
    split at h
    · rename_i v vs' h1 h2
      cases h
      simp only [List.map_cons, pl h1, opds_ev h2]
    · cases h
theorem ox_fn {N : Nat} {L : List (Nat × Value)} {f : FuncId} {args : Array Operand} {ats : Array TypeId} {F : FnI} {ef : Eff} {vs : List Value} (hF : Γ.lookup f = some F) (ha : opds N L args.toList = some vs) (h : F vs H n = some ef) :
    iopC Γ D K (ev (dense N L)) H n (.call ⟨.value (.func f), args, ats⟩) = some ef :=
  ox_calls hF (by rw [opds_ev ha]; exact h)
/-- parts of a literal -/
def opp (N : Nat) (L : List (Nat × Value)) : List (Nat × Operand) → Option (List (Nat × Value))
  | [] => some []
  | (i, x) :: xs => match opd N L x, opp N L xs with
    | some v, some vs => some ((i, v) :: vs)
    | _, _ => none
theorem opp_ev {N : Nat} {L : List (Nat × Value)} : ∀ {xs : List (Nat × Operand)} {vs : List (Nat × Value)}, opp N L xs = some vs → xs.map (fun p => (p.1, ev (dense N L) p.2)) = vs
  | [], vs, h => by cases h; rfl
  | (i, x) :: xs, vs, h => by
    simp only [opp] at h
    split at h
    · rename_i v vs' h1 h2
      cases h
      simp only [List.map_cons, pl h1, opp_ev h2]
    · cases h
theorem ox_buildA {N : Nat} {L : List (Nat × Value)} {t : TypeId} {parts : Array (Nat × Operand)} {len el : Nat} {d de : TD} {vs : List (Nat × Value)} {cs : List Value} (hd : D t = some d) (hk : d.k = .arr len el) (hde : D el = some de) (hp : opp N L parts.toList = some vs)
    (hf : fillIn (fun i => some (i * de.size, de.size)) d.zero vs = some cs) : iopC Γ D K (ev (dense N L)) H n (.build t parts) = some ⟨.agg cs.toArray, [], n⟩ := by
  simp only [iopC, iop, hd, hk, hde, Option.bind_some, opp_ev hp, hf, val]
theorem ox_buildS {N : Nat} {L : List (Nat × Value)} {t : TypeId} {parts : Array (Nat × Operand)} {fs : List (Nat × Nat)} {d : TD} {vs : List (Nat × Value)} {cs : List Value} (hd : D t = some d) (hk : d.k = .struct fs) (hp : opp N L parts.toList = some vs)
    (hf : fillIn (fun i => fs[i]?.bind fun f => (D f.2).map fun df => (f.1, df.size)) d.zero vs = some cs) : iopC Γ D K (ev (dense N L)) H n (.build t parts) = some ⟨.agg cs.toArray, [], n⟩ := by
  simp only [iopC, iop, hd, hk, Option.bind_some, opp_ev hp, hf, val]
theorem is_some {x : Option IObj} {o : IObj} (h : x = some o) : x.isSome = true := by rw [h]; rfl
theorem ox_len {x : Operand} {t : TypeId} {d : TD} {el : Nat} {a : Option Addr} {len cap : Nat} (hx : e x = .slice a len cap) (hd : D t = some d) (hk : d.k = .slice el) : iopC Γ D K e H n (.call ⟨.builtin .len, #[x], #[t]⟩) = some ⟨.int .i64 len, [], n⟩ := by
  simp [iopC, iop, doBuiltin, hx, hd, hk, val]
theorem ox_lenS {x : Operand} {t : TypeId} {d : TD} {s : ByteArray} (hx : e x = .string s) (hd : D t = some d) (hk : d.k = .str) : iopC Γ D K e H n (.call ⟨.builtin .len, #[x], #[t]⟩) = some ⟨.int .i64 s.size, [], n⟩ := by
  simp [iopC, iop, doBuiltin, hx, hd, hk, val]
theorem ox_extract {x : Operand} {i : Nat} {vs : Array Value} {v : Value} (hx : e x = .tuple vs) (hv : vs[i]? = some v) : iopC Γ D K e H n (.extract x i) = some ⟨v, [], n⟩ := by
  have : vs.isEmpty = false := by
    have := (Array.getElem?_eq_some_iff.1 hv).1
    simp; intro h; subst h; simp at this
  simp [iopC, iop, hx, hv, this, val]
end

section
variable {P : Program} {Γ : Fns} {D : Ty} {K : Kinds} {W : Nat → Prop} {R : Option Nat} {ops : Array Oper} {Q : Post3} {o : Oper} {os : List Oper} {N : Nat} {L : List (Nat × Value)} {H : IHeap} {M : Ups} {n : Nat}

/-- nothing written -/
theorem vcS_val {d : Tmp} {v : Value} (hd : o.dst = some d) (hg : o.guard = none) (h : iopC Γ D K (ev (dense N L)) (hp H M) n o.op = some ⟨v, [], n⟩)
    (k : vcS Γ D K W ops Q os (dense N ((d, v) :: L)) (hp H M) n) : vcS Γ D K W ops Q (o :: os) (dense N L) (hp H M) n := by
  refine vcS_op hg h (fun p hm => (by cases hm)) ?_
  rw [hd]; exact k
/-- one row written, or a new one -/
theorem vcS_new {d : Tmp} {v : Value} {id n' : Nat} {x : Option IObj} (hd : o.dst = some d) (hg : o.guard = none) (h : iopC Γ D K (ev (dense N L)) (hp H M) n o.op = some ⟨v, [(id, x)], n'⟩) (hW : W id)
    (k : vcS Γ D K W ops Q os (dense N ((d, v) :: L)) (hp H ((id, x) :: M)) n') : vcS Γ D K W ops Q (o :: os) (dense N L) (hp H M) n := by
  refine vcS_op hg h (fun p hm => (by simp only [List.mem_singleton] at hm; subst hm; exact hW)) ?_
  rw [hd]; exact k
theorem vcS_sto {v : Value} {id n' : Nat} {x : Option IObj} (hd : o.dst = none) (hg : o.guard = none) (h : iopC Γ D K (ev (dense N L)) (hp H M) n o.op = some ⟨v, [(id, x)], n'⟩) (hW : W id)
    (k : vcS Γ D K W ops Q os (dense N L) (hp H ((id, x) :: M)) n') : vcS Γ D K W ops Q (o :: os) (dense N L) (hp H M) n := by
  refine vcS_op hg h (fun p hm => (by simp only [List.mem_singleton] at hm; subst hm; exact hW)) ?_
  rw [hd]; exact k
/-- a call -/
theorem vcS_call {d : Tmp} {v : Value} {up M' : Ups} {n' : Nat} (hd : o.dst = some d) (hg : o.guard = none) (h : iopC Γ D K (ev (dense N L)) (hp H M) n o.op = some ⟨v, up, n'⟩) (hM : putH up M = M') (hW : ∀ p ∈ up, W p.1)
    (k : vcS Γ D K W ops Q os (dense N ((d, v) :: L)) (hp H M') n') : vcS Γ D K W ops Q (o :: os) (dense N L) (hp H M) n := by
  refine vcS_op hg h hW ?_
  rw [hd, hM]; exact k
/-- with a guard, nothing written -/
theorem vcS_opt {d : Tmp} {b : Bool} {v : Value} (hd : o.dst = some d) (hg : wantedI ops (dense N L) o = some b) (h : b = true → iopC Γ D K (ev (dense N L)) (hp H M) n o.op = some ⟨v, [], n⟩)
    (k : vcS Γ D K W ops Q os (dense N ((d, gv b v) :: L)) (hp H M) n) : vcS Γ D K W ops Q (o :: os) (dense N L) (hp H M) n := by
  refine vcS_guard hg h ?_
  rw [hd]
  have : (if b = true then v else .chan none) = gv b v := by cases b <;> rfl
  rw [this]; exact k

/-- pieces of code, one after another -/
def IW (P : Program) (W : Nat → Prop) (R : Option Nat) : List Code → PostX → Post3
  | [], Q, t, H, n => Q .normal t H n
  | c :: cs, Q, t, H, n => IWp P W R c (PostX.seq (fun t H n => IW P W R cs Q t H n) Q) t H n
theorem IW.one {c : Code} {Q : PostX} {t : List Value} (h : IW P W R [c] Q t H n) : IWp P W R c Q t H n := by
  refine IWp.mono h fun ex t H n hx => ?_
  cases ex <;> exact hx
theorem IW.seq {a b : Code} {cs : List Code} {Q : PostX} {t : List Value} (h : IW P W R (a :: b :: cs) Q t H n) : IW P W R (.seq a b :: cs) Q t H n := by
  refine IWp.seq (IWp.mono h fun ex t H n hx => ?_)
  cases ex <;> exact hx
theorem IW.reg (hE : Env P Γ D K) {id : Nat} {ops : List Oper} {cs : List Code} {Q : PostX} {t : List Value} (h : vcS Γ D K W ops.toArray (fun t H n => IW P W R cs Q t H n) ops t H n) : IW P W R (.region id ops.toArray false :: cs) Q t H n :=
  IWp.region hE h
theorem IW.drw (hE : Env P Γ D K) (hm : P.follows .mixedOrders = true) {id : Nat} {ops : List Oper} {cs : List Code} {Q : PostX} {t : List Value} (pres : List (List Nat)) (hR : regOk t.length ops pres = true)
    (h : vcD Γ D K W ops.toArray H n (fun t H n => IW P W R cs Q t H n) ops pres [] t n) : IW P W R (.region id ops.toArray true :: cs) Q t H n :=
  IWp.drawn hE hm pres hR h
theorem IW.cond {c : Operand} {x y : Code} {cs : List Code} {Q : PostX} {b : Bool} (hc : opd N L c = some (.bool b)) (h1 : b = true → IW P W R (x :: cs) Q (dense N L) H n) (h2 : b = false → IW P W R (y :: cs) Q (dense N L) H n) :
    IW P W R (.cond c x y :: cs) Q (dense N L) H n := by
  refine IWp.cond ?_
  rw [pl hc]
  exact ⟨h1, h2⟩
theorem IW.ret {cs : List Code} {Q : PostX} {t : List Value} (h : Q .ret t H n) : IW P W R (.ret :: cs) Q t H n := IWp.ret h
theorem IW.exit {cs : List Code} {Q : PostX} {t : List Value} {id : Nat} (h : Q (.exit id) t H n) : IW P W R (.exit id :: cs) Q t H n := IWp.exit h
theorem IW.skip {cs : List Code} {Q : PostX} {t : List Value} (h : IW P W R cs Q t H n) : IW P W R (.skip :: cs) Q t H n := IWp.skip h
theorem IW.label {cs : List Code} {Q : PostX} {t : List Value} {l : Nat} (h : IW P W R cs Q t H n) : IW P W R (.label l :: cs) Q t H n := IWp.label h
theorem IW.nil {Q : PostX} {t : List Value} (h : Q .normal t H n) : IW P W R [] Q t H n := h
/-- where an exit from this block, and its end, go on -/
def blkQ (id : Nat) (next : Post3) (Q : PostX) : PostX
  | .normal, t, H, n => next t H n
  | .exit id', t, H, n => if id' = id then next t H n else Q (.exit id') t H n
  | ex, t, H, n => Q ex t H n
theorem IW.block {id : Nat} {c : Code} {cs : List Code} {Q : PostX} {t : List Value} (h : IW P W R [c] (blkQ id (fun t H n => IW P W R cs Q t H n) Q) t H n) : IW P W R (.block id c :: cs) Q t H n := by
  refine IWp.block (IWp.mono h fun ex t H n hx => ?_)
  cases ex <;> exact hx
theorem blkQ_exit {id : Nat} {next : Post3} {Q : PostX} {t : List Value} (h : next t H n) : blkQ id next Q (.exit id) t H n := by simp only [blkQ, if_true]; exact h
theorem blkQ_other {id id' : Nat} {next : Post3} {Q : PostX} {t : List Value} (hne : Nat.beq id' id = false) (h : Q (.exit id') t H n) : blkQ id next Q (.exit id') t H n := by
  have : id' ≠ id := fun e => by subst e; simp at hne
  simp only [blkQ, if_neg this]; exact h
theorem IW.keep {cs : List Code} {Q : PostX} (ks : List Nat) (hne : cs ≠ []) (h : IW P W R cs Q (dense N (keepL ks L)) H n) : IW P W R cs Q (dense N L) H n := by
  cases cs with
  | nil => exact (hne rfl).elim
  | cons c cs => exact IWp.keep ks h
/-- less is known from here on -/
theorem IW.forget {cs : List Code} {Q : PostX} {L' : List (Nat × Value)} {M' : Ups} {n' : Nat} (hne : cs ≠ []) (ht : subL L' L) (hH : (hp H M').le (hp H M)) (hn : n ≤ n') (h : IW P W R cs Q (dense N L') (hp H M') n') : IW P W R cs Q (dense N L) (hp H M) n := by
  cases cs with
  | nil => exact (hne rfl).elim
  | cons c cs => exact IWp.forget h (fgt_dense ht) hH hn
/-- a row lies below the free numbers -/
theorem IW.lt {cs : List Code} {Q : PostX} {t : List Value} {id : Nat} {o : IObj} (hne : cs ≠ []) (hH : H id = some o) (h : id < n → IW P W R cs Q t H n) : IW P W R cs Q t H n := by
  cases cs with
  | nil => exact (hne rfl).elim
  | cons c cs => exact IWp.lt hH h
/-- a loop: S are the states at the head; the round lowers μ -/
theorem IW.loop {c : Code} {cs : List Code} {Q : PostX} {S : Type} (sL : S → List (Nat × Value)) (sM : S → Ups) (sn : S → Nat) (ok : S → Prop) (μ : S → Nat) (s0 : S) (h0 : ok s0) (ht : subL (sL s0) L) (hH : (hp H (sM s0)).le (hp H M)) (hn : n ≤ sn s0)
    (round : ∀ s, ok s → IW P W R [c] (PostX.seq (fun t' H' n' => ∃ s' L' M', ok s' ∧ μ s' < μ s ∧ t' = dense N L' ∧ subL (sL s') L' ∧ H' = hp H M' ∧ (hp H (sM s')).le (hp H M') ∧ n' ≤ sn s') (PostX.seq (fun t H n => IW P W R cs Q t H n) Q)) (dense N (sL s)) (hp H (sM s)) (sn s)) :
    IW P W R (.loop c :: cs) Q (dense N L) (hp H M) n := by
  refine IWp.loop (fun s => (dense N (sL s), hp H (sM s), sn s)) ok μ s0 h0 (fgt_dense ht) hH hn fun s hs => ?_
  refine IWp.mono (IW.one (round s hs)) fun ex t H' n' hx => ?_
  cases ex with
  | normal =>
    obtain ⟨s', L', M', h1, h2, rfl, h3, rfl, h4, h5⟩ := hx
    exact ⟨s', h1, h2, fgt_dense h3, h4, h5⟩
  | _ => exact hx

theorem IW.nilB {id : Nat} {cs : List Code} {Q : PostX} {t : List Value} (h : IW P W R cs Q t H n) : IW P W R [] (blkQ id (fun t H n => IW P W R cs Q t H n) Q) t H n := h
theorem IW.nilS {next : Post3} {Q : PostX} {t : List Value} (h : next t H n) : IW P W R [] (PostX.seq next Q) t H n := h
theorem exS {next : Post3} {Q : PostX} {t : List Value} {id : Nat} (h : Q (.exit id) t H n) : PostX.seq next Q (.exit id) t H n := h
theorem retS {next : Post3} {Q : PostX} {t : List Value} (h : Q .ret t H n) : PostX.seq next Q .ret t H n := h
theorem retB {id : Nat} {next : Post3} {Q : PostX} {t : List Value} (h : Q .ret t H n) : blkQ id next Q .ret t H n := h
theorem Ref.of_iw (hD : DOk P D) {k : FuncId} {fn : Func} {c : Code} {F : FnI} (hf : P.funcs[k]? = some fn) (hb : fn.body = some c) (hname : (fn.name == "runtime.NumGoroutine") = false)
    (h : ∀ args H n e, F args H n = some e → args.length ≤ fn.ntmps ∧ IW P (fun id => n ≤ id ∨ id ∈ e.ids) none [c] (RetP D fn.results.toList n H e) (dense fn.ntmps (idxL 0 args)) (hp H []) n) : Ref P k F := by
  refine Ref.of_body hD hf hb hname fun args H n e hF => ?_
  obtain ⟨h1, h2⟩ := h args H n e hF
  rw [dense_init _ _ h1]
  exact IW.one h2
theorem ren1_id (v : Value) : ren1 (fun x => x) v = v := by unfold ren1; split <;> rfl
theorem ren2_id (v : Value) : ren2 (fun x => x) v = v := by
  unfold ren2
  split
  · rename_i cs
    have : ren1 (fun x => x) = id := funext ren1_id
    rw [this]; simp
  · exact ren1_id _
theorem ren_id (v : Value) : ren (fun x => x) v = v := by
  unfold ren
  split
  · rename_i cs
    have : ren2 (fun x => x) = id := funext ren2_id
    rw [this]; simp
  · exact ren2_id _
theorem okN1_mono {p q : Nat → Prop} (h : ∀ id, p id → q id) {v : Value} (hv : okN1 p v) : okN1 q v := by
  unfold okN1 at *
  split <;> simp_all
theorem okN2_mono {p q : Nat → Prop} (h : ∀ id, p id → q id) {v : Value} (hv : okN2 p v) : okN2 q v := by
  unfold okN2 at *
  split
  · exact fun x hx => okN1_mono h (hv x hx)
  · rename_i hn
    split at hv
    · rename_i cs; exact (hn cs rfl).elim
    · exact okN1_mono h hv
theorem okN_mono {p q : Nat → Prop} (h : ∀ id, p id → q id) {v : Value} (hv : okN p v) : okN q v := by
  unfold okN at *
  split
  · exact fun x hx => okN2_mono h (hv x hx)
  · rename_i hn
    split at hv
    · rename_i cs; exact (hn cs rfl).elim
    · exact okN2_mono h hv

/-- what comes out: values alone, nothing written -/
theorem RetP.pure {rs : List ResultVar} {n n' n'' : Nat} {v : Value} {ex : Exit} {t : List Value} {H H' : IHeap} (hx : ex = .normal ∨ ex = .ret) (hr : ires D t H' rs = some v) (hv : okN (fun id => id < n) v) (hn : n ≤ n') : RetP D rs n H ⟨v, [], n'⟩ ex t H' n'' := by
  refine ⟨hx, ?_⟩
  rw [hr]
  have hid : ren (fun x => x) v = v := ren_id v
  exact ⟨fun x => x, fun _ _ => rfl, hid, okN_mono (fun id h => .inl h) hv, fun id hid => by simp [Eff.ids] at hid, fun id hid => by simp [Eff.ids] at hid, fun i hi => by simp [Eff.ids] at hi, fun i hi => by simp [Eff.ids] at hi, hn⟩
end
end Go.Proofs.Ytdnnojblneccdaa
