import Derived.Test.YtdnnojblneccdaaJJ
import Derived.Test.YtdnnojblneccdaaJI
import Derived.Test.YtdnnojblneccdaaJH
/-
  Appends to open slices of one-cell elements; copy; writes of another kind where the order is drawn.
-/
namespace Go.Proofs.Ytdnnojblneccdaa
set_option linter.unusedSimpArgs false
set_option linter.unusedVariables false
open Go
open Enc (enc)
open Row (cel)
section
variable {α : Type} [Row1 α] {Γ : Fns} {D : Ty} {K : Kinds} {e : Operand → Value} {H : IHeap} {n : Nat}
theorem ox_appOE {t t2 el : TypeId} {s y : Operand} {id len len2 cap sz k : Nat} {d de : TD} {l1 l : List α} {x : Value} (hs : e s = .slice (some ⟨id, 0, some sz⟩) len cap) (hy : e y = x) (hd : D t = some d) (hk : d.k = .slice el) (hde : D el = some de) (hsz : de.size = Row.sz α) (hss : sz = de.size)
    (hsrc : srcArg D H t2 de x = some (k, encs l)) (hkl : l.length = k) (hH : H id = some (.cells (encs l1) false)) (hl : l1.length = len) (hl2 : len + k = len2) (hm : len2 * de.bytes ≤ most) (hb : 1 ≤ de.bytes) :
    iopC Γ D K e H n (.call ⟨.builtin .append, #[s, y], #[t, t2]⟩) = some ⟨.slice (some ⟨n, 0, some sz⟩) len2 len2, [(id, none), (n, some (.cells (encs (l1 ++ l)) false))], n + 1⟩ := by
  subst hl2
  have hcl : ¬ (len + k ≤ cap ∧ closed (some ⟨id, 0, some sz⟩) = true) := by simp [closed]
  have hlen : (encs l1).length = len * de.size := by rw [← cels_one, cels_length, hl, hsz]
  simp only [iopC, iop, doBuiltin, doAppend, List.map_cons, List.map_nil, hs, hy, hd, hk, hde, hsrc, Option.bind_some, List.getElem?_toArray, List.getElem?_cons_zero, List.getElem?_cons_succ]
  rw [if_neg hcl, if_pos ⟨hm, hb⟩]
  simp only [hH]
  rw [if_pos ⟨Nat.le_of_eq hlen.symm, encs_known1 l, hss, trivial⟩, ← hlen, List.take_length, encs_append]
theorem srcArg_1 {t2 el2 : TypeId} {d2 de : TD} {x : Value} {l : List α} (hd : D t2 = some d2) (hk : d2.k = .slice el2) (hs : de.size = Row.sz α) (h : rdC H x = some l) : srcArg D H t2 de x = some (l.length, encs l) := by
  have := srcArg_rdC (α := α) (de := de) hd hk hs h
  rw [this, cels_one]
theorem ox_copyE {t el : TypeId} {s y : Operand} {id off len cap m : Nat} {sp : Option Nat} {x : Value} {d de : TD} {c c' : List Value} {l : List α} (hs : e s = .slice (some ⟨id, off, sp⟩) len cap) (hx : e y = x) (hd : D t = some d) (hk : d.k = .slice el) (hde : D el = some de) (hsz : de.size = Row.sz α) (hr : rdC H x = some l) (hm : min l.length len = m)
    (hH : H id = some (.cells c false)) (hle : off + len * de.size ≤ c.length) {t2 : TypeId} (hc : splice c off ((encs l).take (m * de.size)) = c') :
    iopC Γ D K e H n (.call ⟨.builtin .copy, #[s, y], #[t, t2]⟩) = some ⟨.int .i64 (m : Nat), [(id, some (.cells c' false))], n⟩ := by
  subst hc; subst hm
  obtain ⟨h1, h2⟩ := rdC_src hr
  rw [cels_one] at h2
  simp only [iopC, iop, doBuiltin, doCopy, List.map_cons, List.map_nil, hs, hx, hd, hk, hde, h1, hsz, h2, Option.bind_some, List.getElem?_toArray, List.getElem?_cons_zero]
  simp only [hH]
  rw [hsz] at hle
  rw [if_pos ⟨hle, encs_known1 l⟩]
end
section
variable {P : Program} {Γ : Fns} {D : Ty} {K : Kinds} {W : Nat → Prop} {R : Option Nat} {ops : Array Oper} {Q : Post3} {o : Oper} {os : List Oper} {pre : List Nat} {pres : List (List Nat)} {N : Nat} {L : List (Nat × Value)} {H : IHeap} {M : Ups} {n n0 k : Nat}
  {Wr : List (Nat × Ups)} {Vs : List (Nat × Vis)}
/-- a write by something that is no store -/
theorem vcE_wr {d : Tmp} {v : Value} {id : Nat} {ids : List Nat} {x : Option IObj} {u M' : Ups} (hd : o.dst = some d) (hg : o.guard = none) (hu : upsW pre Wr = u) (hM : putH u M = M') (h : iopC Γ D K (ev (dense N L)) (hp H M') n o.op = some ⟨v, [(id, x)], n⟩) (hc : isCall o.op = false)
    (hs : seesIds (ev (dense N L)) o.op = ids) (hid : id ∈ ids) (hH : (hp H M' id).isSome = true) (hl : ∀ i ∈ ids, i < n) (hW : W id) (hq : quietW n0 pre (.ids ids) Wr) (hv' : clearV n0 pre id Vs)
    (hk : vcE Γ D K W ops (hp H M) n0 Q os pres (k + 1) (Wr ++ [(k, [(id, x)])]) ((k, .ids ids) :: Vs) (dense N ((d, v) :: L)) n) : vcE Γ D K W ops (hp H M) n0 Q (o :: os) (pre :: pres) k Wr Vs (dense N L) n := by
  intro acc R
  subst hu
  subst hM
  unfold vcD
  rw [R.ups pre, upds_hp, h]
  simp only [wantedI, hg, wpo]
  have hv : visOf (ev (dense N L)) o.op (List.map (fun x => x.fst) (upsW pre Wr)) = .ids ids := by simp only [visOf, hc]; rw [hs]; rfl
  refine ⟨fun _ => ⟨fun p hm => ?_, Nat.le_refl _, ?_, ?_⟩, fun hb => by cases hb⟩
  · simp only [List.mem_singleton] at hm; subst hm
    refine ⟨hW, .inr ?_, hl _ hid⟩
    simp only [seenH, hc, Bool.false_eq_true, if_false, hs, restr]
    rw [if_pos hid]
    exact hH
  · refine apart2_mk fun j y hy => ?_
    rw [hv]
    have a1 : j ∈ pre ∨ ∀ p ∈ y.up, Vis.clear n0 (.ids ids) p.1 := by
      rcases R.wr j y hy with h1 | h1
      · right; rw [h1]; exact fun p hm => (by cases hm)
      · exact quietW_spec hq _ h1
    have a2 : j ∈ pre ∨ y.vis.clear n0 id := by
      rcases R.vis j y hy with h1 | h1
      · right; rw [h1]; simp [Vis.clear]
      · exact clearV_spec hv' _ h1
    simp only [Nat.zero_add]
    rcases a1 with a1 | a1
    · exact .inl a1
    · rcases a2 with a2 | a2
      · exact .inl a2
      · exact .inr ⟨fun p hm => (by simp only [List.mem_singleton] at hm; subst hm; exact a2), a1⟩
  · have hh := hk (acc ++ [⟨[(id, x)], .ids ids⟩]) (R.snoc _ _ _ (Nat.le_refl _) (.inr rfl) (.inr (.inl rfl)) (fun id' hid' => by
      show id' ∉ ids
      intro hm; have := hl _ hm; omega))
    rw [hv]
    rw [tput_dense, hd]
    exact hh
end
end Go.Proofs.Ytdnnojblneccdaa
/-
  The document's piece is the program's.
-/
namespace Go.Proofs.Ytdnnojblneccdaa
set_option linter.unusedSimpArgs false
set_option linter.unusedVariables false
open Go

theorem rot_down {x : UInt64} {k : Int} (h1 : (uof k).toNat = (64 - (uof (-k) &&& 63)).toNat) (h2 : (uof (64 - k)).toNat = (uof (-k) &&& 63).toNat) : rot x k = down x k := by
  unfold rot down rotL
  rw [h1, h2, UInt64.or_comm]
theorem ch_eq (e f g : UInt64) : (e &&& f) ^^^ (~~~e &&& g) = g ^^^ (e &&& (f ^^^ g)) := by
  apply UInt64.eq_of_toBitVec_eq
  simp only [UInt64.toBitVec_xor, UInt64.toBitVec_and, UInt64.toBitVec_not]
  apply BitVec.eq_of_getLsbD_eq
  intro i hi
  simp only [BitVec.getLsbD_xor, BitVec.getLsbD_and, BitVec.getLsbD_not, hi, decide_true, Bool.true_and]
  cases e.toBitVec.getLsbD i <;> cases f.toBitVec.getLsbD i <;> cases g.toBitVec.getLsbD i <;> rfl
theorem maj_eq (a b c : UInt64) : (a &&& b) ^^^ (a &&& c) ^^^ (b &&& c) = ((a &&& b) ||| (c &&& (a ||| b))) := by
  apply UInt64.eq_of_toBitVec_eq
  simp only [UInt64.toBitVec_xor, UInt64.toBitVec_and, UInt64.toBitVec_or]
  apply BitVec.eq_of_getLsbD_eq
  intro i hi
  simp only [BitVec.getLsbD_xor, BitVec.getLsbD_and, BitVec.getLsbD_or]
  cases a.toBitVec.getLsbD i <;> cases b.toBitVec.getLsbD i <;> cases c.toBitVec.getLsbD i <;> rfl
/-- the document's words behind the sixteenth -/
def vf (l : List UInt64) (t : Nat) : UInt64 :=
  let x := l.getD (t - 15) 0
  let y := l.getD (t - 2) 0
  l.getD (t - 16) 0 + (rot x 1 ^^^ rot x 8 ^^^ shr64 x 7) + l.getD (t - 7) 0 + (rot y 19 ^^^ rot y 61 ^^^ shr64 y 6)
theorem vf_wf (l : List UInt64) (t : Nat) : vf l t = wf l t := by
  unfold vf wf
  simp only
  rw [rot_down (k := 1) (by decide) (by decide), rot_down (k := 8) (by decide) (by decide), rot_down (k := 19) (by decide) (by decide), rot_down (k := 61) (by decide) (by decide)]
  rw [UInt64.add_assoc (l.getD (t - 16) 0), UInt64.add_comm (_ ^^^ _ ^^^ _) (l.getD (t - 7) 0), ← UInt64.add_assoc]
theorem w1_at {pl : List UInt8} {t i : Nat} (h : i < 8) : w1 pl (8 * t + (i + 1)) = (w1 pl (8 * t + i)).set t (shl64 ((w1 pl (8 * t + i)).getD t 0) 8 ||| (pl.getD (8 * t + i) 0).toUInt64) := by
  have hd : (8 * t + i) / 8 = t := by omega
  rw [show 8 * t + (i + 1) = (8 * t + i) + 1 from rfl, w1, hd]
/-- the words after t of them -/
def wst (pl : List UInt8) (t : Nat) : List UInt64 := if t ≤ 16 then w1 pl (8 * t) else w2 pl (t - 16)
theorem wst_lo {pl : List UInt8} {t : Nat} (h : t ≤ 16) : wst pl t = w1 pl (8 * t) := if_pos h
theorem wst_hi (pl : List UInt8) (u : Nat) : wst pl (16 + u) = w2 pl u := by
  unfold wst
  cases u with
  | zero => rfl
  | succ u => rw [if_neg (by omega)]; congr 1; omega
theorem w2_next (pl : List UInt8) (u : Nat) : (w2 pl u).set (16 + u) (vf (w2 pl u) (16 + u)) = wst pl (16 + u + 1) := by
  rw [show 16 + u + 1 = 16 + (u + 1) from rfl, wst_hi, vf_wf]; rfl
def tm1 (s : W8) (k w : UInt64) : UInt64 := s.h + (rot s.e 14 ^^^ rot s.e 18 ^^^ rot s.e 41) + ((s.e &&& s.f) ^^^ (~~~s.e &&& s.g)) + k + w
def tm2 (s : W8) : UInt64 := (rot s.a 28 ^^^ rot s.a 34 ^^^ rot s.a 39) + ((s.a &&& s.b) ^^^ (s.a &&& s.c) ^^^ (s.b &&& s.c))
theorem tm1_eq (s : W8) (k w : UInt64) : tm1 s k w = sm1 s k w := by
  unfold tm1 sm1
  rw [rot_down (k := 14) (by decide) (by decide), rot_down (k := 18) (by decide) (by decide), rot_down (k := 41) (by decide) (by decide), ch_eq]
theorem tm2_eq (s : W8) : tm2 s = sm2 s := by
  unfold tm2 sm2
  rw [rot_down (k := 28) (by decide) (by decide), rot_down (k := 34) (by decide) (by decide), rot_down (k := 39) (by decide) (by decide), maj_eq]
theorem r3_ref (kl wl : List UInt64) (s : W8) (t : Nat) : (r3 kl wl s (t + 1)).list = (let r := r3 kl wl s t; let t1 := tm1 r (kl.getD t 0) (wl.getD t 0); [t1 + tm2 r, r.a, r.b, r.c, r.d + t1, r.e, r.f, r.g]) := by
  simp only [r3, W8.list, tm1_eq, tm2_eq]
theorem W8.of_list : ∀ (l : List UInt64), l.length = 8 → (W8.of l).list = l
  | [a, b, c, d, e, f, g, h], _ => rfl
theorem W8.list_length (s : W8) : s.list.length = 8 := rfl
theorem s4_get {sl x : List UInt64} (h : sl.length = 8) : ∀ i, i ≤ 8 → ∀ j, (s4 sl x i).getD j 0 = if j < i then sl.getD j 0 + x.getD j 0 else sl.getD j 0
  | 0, _, j => by simp [s4]
  | i + 1, hi, j => by
    have ih := s4_get (x := x) h i (by omega)
    have hl := s4_length sl x i
    simp only [s4]
    by_cases hj : j = i
    · subst hj
      rw [if_pos (Nat.lt_succ_self _), List.getD_eq_getElem?_getD, List.getElem?_set_self (by omega)]
      rw [ih j, if_neg (by omega)]; rfl
    · rw [List.getD_eq_getElem?_getD, List.getElem?_set_ne (by omega), ← List.getD_eq_getElem?_getD, ih j]
      by_cases h2 : j < i
      · rw [if_pos h2, if_pos (by omega)]
      · rw [if_neg h2, if_neg (by omega)]
theorem s4_comm {sl x : List UInt64} (h : sl.length = 8) (hx : x.length = 8) : s4 sl x 8 = s4 x sl 8 := by
  apply List.ext_getElem (by rw [s4_length, s4_length, h, hx])
  intro j h1 h2
  have a := s4_get (x := x) h 8 (Nat.le_refl _) j
  have b := s4_get (x := sl) hx 8 (Nat.le_refl _) j
  rw [s4_length] at h1
  rw [if_pos (by omega)] at a b
  rw [UInt64.add_comm] at b
  have c := a.trans b.symm
  rw [List.getD_eq_getElem?_getD, List.getD_eq_getElem?_getD, List.getElem?_eq_getElem, List.getElem?_eq_getElem] at c
  exact c
theorem thr_ref {kl : List UInt64} {s : Vector UInt64 8} {pl : List UInt8} : s4 (r3 kl (w2 pl 64) (W8.of s.toList) 80).list s.toList 8 = (thr kl s pl).toList := by
  rw [thr_toList, thrL]
  exact s4_comm rfl (by simp)
/-- the bytes of eight words, one by one -/
def bo (ws : List UInt64) : Nat → List UInt8
  | 0 => (Vector.replicate 64 (0 : UInt8)).toList
  | i + 1 => (bo ws i).set i (shr64 (ws.getD (i / 8) 0) (56 - 8 * (i % 8))).toUInt8
theorem bo_length (ws : List UInt64) : ∀ i, (bo ws i).length = 64
  | 0 => rfl
  | i + 1 => by simp [bo, bo_length ws i]
theorem bo_get (ws : List UInt64) : ∀ i, i ≤ 64 → ∀ j, j < i → (bo ws i).getD j 0 = (shr64 (ws.getD (j / 8) 0) (56 - 8 * (j % 8))).toUInt8
  | 0, _, j, h => absurd h (Nat.not_lt_zero _)
  | i + 1, hi, j, h => by
    have hl := bo_length ws i
    simp only [bo]
    by_cases hj : j = i
    · subst hj
      rw [List.getD_eq_getElem?_getD, List.getElem?_set_self (by omega)]; rfl
    · rw [List.getD_eq_getElem?_getD, List.getElem?_set_ne (by omega), ← List.getD_eq_getElem?_getD, bo_get ws i (by omega) j (by omega)]
theorem bo_all (w : Vector UInt64 8) : bo w.toList 64 = (bytesV w).toList := by
  apply List.ext_getElem (by rw [bo_length]; simp)
  intro j h1 h2
  rw [bo_length] at h1
  have a := (bo_get w.toList 64 (Nat.le_refl _) j h1).trans (bytesV_get w h1).symm
  rw [List.getD_eq_getElem?_getD, List.getD_eq_getElem?_getD, List.getElem?_eq_getElem, List.getElem?_eq_getElem h2] at a
  exact a
/-- the document's padding, byte by byte -/
theorem be8_steps (w : UInt64) : ∀ k, k ≤ 8 → (be8 w).take k = (List.range k).map fun i => (shr64 w (56 - 8 * i)).toUInt8
  | k, h => by
    unfold be8
    rw [← List.map_take, List.take_range, Nat.min_eq_left h]
theorem padL_ref {b : List UInt8} (h : b.length ≤ 2 ^ 40) : padL b = b ++ [128] ++ List.replicate (padN b.length - 17 - b.length) 0 ++ List.replicate 8 0 ++ be8 (UInt64.ofNat b.length * 8) := by
  unfold padL
  rw [mulHi8 (by omega)]
  have : be8 (0 : UInt64) = List.replicate 8 0 := by decide
  rw [this]
  simp [List.append_assoc]
def fromL : List UInt64 := startL.map fun x => x ^^^ 11936128518282651045
def fromV : Vector UInt64 8 := ⟨fromL.toArray, by decide⟩
def xo : Nat → List UInt64
  | 0 => startL
  | i + 1 => (xo i).set i ((xo i).getD i 0 ^^^ 11936128518282651045)
theorem xo_length : ∀ i, (xo i).length = 8
  | 0 => rfl
  | i + 1 => by simp [xo, xo_length i]
theorem xo_all : xo 8 = fromV.toList := by decide
theorem short_run : allV kL (padL [83, 72, 65, 45, 53, 49, 50, 47, 50, 53, 54]) fromV = shortV := by decide +kernel
end Go.Proofs.Ytdnnojblneccdaa
/-
  The document's piece, bytes of words.
-/
namespace Go.Proofs.Ytdnnojblneccdaa
set_option linter.unusedSimpArgs false
set_option linter.unusedVariables false
open Go
open Enc (enc)
set_option maxRecDepth 100000

noncomputable def F75 : FnI := fun args H n => match args with
  | [x, y] => (dec x).bind fun (s : Vector UInt64 8) => (rdC H y).bind fun (pl : List UInt8) => if pl.length = 128 then some ⟨enc (thr kL s pl), [], n⟩ else none
  | _ => none
theorem F75_inv {args : List Value} {H : IHeap} {n : Nat} {e : Eff} (h : F75 args H n = some e) : ∃ (s : Vector UInt64 8) (xa : Option Addr) (xc : Nat) (ps : List UInt8), args = [enc s, .slice xa ps.length xc] ∧ rdC H (.slice xa ps.length xc) = some ps ∧ ps.length = 128 ∧ e = ⟨enc (thr kL s ps), [], n⟩ := by
  unfold F75 at h; split at h
  · simp only [Option.bind_eq_some_iff] at h
    obtain ⟨s, hs, pl, hp, h⟩ := h
    split at h
    · rename_i hl; cases h
      obtain ⟨xa, xc, rfl⟩ := rdC_len hp
      exact ⟨s, xa, xc, pl, by rw [dec_some hs], hp, hl, rfl⟩
    · cases h
  · cases h
theorem F75_ev {H : IHeap} {n : Nat} {s : Vector UInt64 8} {y : Value} {pl : List UInt8} (h : rdC H y = some pl) (h1 : pl.length = 128) : F75 [enc s, y] H n = some ⟨enc (thr kL s pl), [], n⟩ := by
  simp only [F75, dec_enc, Option.bind_some, h]
  rw [if_pos h1]
set_option maxHeartbeats 2000000
-- headwater/headwaterref02.piece ['Vector UInt64 8', 'Sl'] -> ['Vector UInt64 8'], results [[4, 50]]
theorem R75 : Ref Try.prog 75 F75 := by
  refine Ref.of_iw dok Try.func75 rfl (by kernel_rfl) fun args H n e hF => ?_
  obtain ⟨s, xa, xc, ps, rfl, hp, hpl, rfl⟩ := F75_inv hF
  refine ⟨Nat.le_of_ble_eq_true rfl, ?_⟩
  simp only [idxL]
  have hE : Env Try.prog [(43, F43), (91, F91)] D K := env (fnsOk_cons R43 (fnsOk_cons R91 fnsOk_nil))
  refine IW.seq ?_
  refine IW.blk (by simp) hp (fun hlt => ?_)
  refine IW.free (by simp) (fun hfree => ?_)
  refine IW.reg hE ?_
  refine vcS_new rfl rfl (ox_box (pl rfl) rfl) (.inl (by omega)) ?_
  refine vcS_new rfl rfl (ox_allocZ (cs := encs (Vector.replicate 8 (0 : UInt64)).toList) D_50 rfl) (.inl (by omega)) ?_
  refine vcS_nil ?_
  refine IW.seq ?_
  refine IW.reg hE ?_
  refine vcS_val rfl rfl (ox_fn rfl rfl (fn0_ev _ _ _)) ?_
  refine vcS_new rfl rfl (ox_allocZ (cs := encs (Vector.replicate 80 (0 : UInt64)).toList) D_48 rfl) (.inl (by omega)) ?_
  refine vcS_sto rfl rfl (ox_store (pl rfl) (pl rfl) D_48 (hp_eq _ _ _ _) rfl (encs_vec_length _) (le_vec _ rfl) (encs_known _) (wr_all (by simp only [encs_vec_length]))) (.inl (by omega)) ?_
  refine vcS_nil ?_
  refine IW.seq ?_
  refine IW.reg hE ?_
  refine vcS_new rfl rfl (ox_allocZ (cs := encs (Vector.replicate 80 (0 : UInt64)).toList) D_48 rfl) (.inl (by omega)) ?_
  refine vcS_nil ?_
  refine IW.seq ?_
  refine IW.seq ?_
  refine IW.reg hE ?_
  refine vcS_val rfl rfl (ox_assign (pl rfl)) ?_
  refine vcS_nil ?_
  refine IW.block ?_
  refine IW.loop (S := Nat) (fun t => [(1, .slice xa ps.length xc), (2, .pointer (some ⟨n, 0, none⟩)), (4, .pointer (some ⟨n + 1, 0, none⟩)), (5, .pointer (some ⟨n + 1 + 1, 0, none⟩)), (6, .pointer (some ⟨n + 1 + 1 + 1, 0, none⟩)), (7, .int .i64 t)]) (fun t => [(n + 1 + 1 + 1, some (.cells (encs (wst ps t)) false)), (n + 1 + 1, some (.cells (encs kV.toList) false)), (n + 1, some (.cells (encs (Vector.replicate 8 (0 : UInt64)).toList) false)), (n, some (.cells (encs s.toList) false))]) (fun t => n + 1 + 1 + 1 + 1) (fun t => t ≤ 80) (fun t => 80 - t) (0) (by simp) (⟨rfl, ⟨rfl, ⟨rfl, ⟨rfl, ⟨rfl, ⟨rfl, trivial⟩⟩⟩⟩⟩⟩) (leX_le (leX_cons rfl (leX_cons rfl (leX_old (by simp) leX_refl)))) (Nat.le_refl _) (fun t ht => ?_)
  refine IW.seq ?_
  refine IW.seq ?_
  refine IW.reg hE ?_
  refine vcS_val rfl rfl (ox_move (pl rfl)) ?_
  refine vcS_val rfl rfl (ox_bin (pl rfl) (pl rfl) (bo_i64_lss _ _)) ?_
  refine vcS_nil ?_
  refine IW.cond rfl (fun hc1 => ?_) (fun hc1 => ?_)
  · replace hc1 := of_decide_eq_true hc1
    refine IW.skip ?_
    refine IW.seq ?_
    refine IW.block ?_
    refine IW.seq ?_
    refine IW.seq ?_
    refine IW.reg hE ?_
    refine vcS_val rfl rfl (ox_move (pl rfl)) ?_
    refine vcS_val rfl rfl (ox_bin (pl rfl) (pl rfl) (bo_i64_lss _ _)) ?_
    refine vcS_nil ?_
    refine IW.cond rfl (fun hc2 => ?_) (fun hc2 => ?_)
    · replace hc2 := of_decide_eq_true hc2
      rw [wst_lo (show t ≤ 16 by omega)]
      refine IW.seq ?_
      refine IW.seq ?_
      refine IW.reg hE ?_
      refine vcS_val rfl rfl (ox_assign (pl rfl)) ?_
      refine vcS_nil ?_
      refine IW.block ?_
      refine IW.loop (S := Nat) (fun i => [(1, .slice xa ps.length xc), (2, .pointer (some ⟨n, 0, none⟩)), (4, .pointer (some ⟨n + 1, 0, none⟩)), (5, .pointer (some ⟨n + 1 + 1, 0, none⟩)), (6, .pointer (some ⟨n + 1 + 1 + 1, 0, none⟩)), (7, .int .i64 t), (8, .int .i64 i)]) (fun i => [(n + 1 + 1 + 1, some (.cells (encs (w1 ps (8 * t + i))) false)), (n + 1 + 1, some (.cells (encs kV.toList) false)), (n + 1, some (.cells (encs (Vector.replicate 8 (0 : UInt64)).toList) false)), (n, some (.cells (encs s.toList) false))]) (fun i => n + 1 + 1 + 1 + 1) (fun i => i ≤ 8) (fun i => 8 - i) (0) (by simp) (⟨rfl, ⟨rfl, ⟨rfl, ⟨rfl, ⟨rfl, ⟨rfl, ⟨rfl, trivial⟩⟩⟩⟩⟩⟩⟩) (fun _ _ h => h) (Nat.le_refl _) (fun i hi => ?_)
      refine IW.seq ?_
      refine IW.seq ?_
      refine IW.reg hE ?_
      refine vcS_val rfl rfl (ox_move (pl rfl)) ?_
      refine vcS_val rfl rfl (ox_bin (pl rfl) (pl rfl) (bo_i64_lss _ _)) ?_
      refine vcS_nil ?_
      refine IW.cond rfl (fun hc3 => ?_) (fun hc3 => ?_)
      · replace hc3 := of_decide_eq_true hc3
        have hi8 : i < 8 := by omega
        have hBd := adr_lt hp (show 8 * t + i < ps.length by omega) hlt
        refine IW.skip ?_
        refine IW.seq ?_
        refine IW.block ?_
        refine IW.drw hE mixed [[],[],[1],[1,2],[1,2,3],[],[],[6],[],[6,7,8],[5,6,7,8,9],[5,6,7,8,9,10],[5,6,7,8,9,10,11],[1,2,3,4,5,6,7,8,9,10,11,12],[0,1,2,3,4,5,6,7,8,9,10,11,12,13],[0,1,2,3,4,5,6,7,8,9,10,11,12,13,14]] (by kernel_rfl) (vcE_start ?_)
        refine vcE_bl rfl rfl (fun _ => ox_move (pl rfl)) rfl rfl ?_
        refine vcE_bl rfl rfl (fun _ => ox_move (pl rfl)) rfl rfl ?_
        refine vcE_bl rfl rfl (fun _ => ox_iaA (pl rfl) (pl rfl) D_48 rfl D_22 (by omega) (by omega)) rfl rfl ?_
        refine vcE_val rfl rfl rfl rfl (ox_load (pl rfl) D_22 (hp_eq _ _ _ _) (rd_ix (t) (0 : UInt64) rfl (by simp) (by rw [w1_length]; omega))) rfl (si_load (pl rfl)) (lt1 (by omega)) (trivial) ?_
        refine vcE_bl rfl rfl (fun _ => ox_bin (pl rfl) (pl (v := enc (8 : UInt64)) rfl) (bo_u64_shl _ (by omega))) rfl rfl ?_
        refine vcE_bl rfl rfl (fun _ => ox_move (pl rfl)) rfl rfl ?_
        refine vcE_bl rfl rfl (fun _ => ox_move (pl rfl)) rfl rfl ?_
        refine vcE_bl rfl rfl (fun _ => ox_bin (pl rfl) (pl rfl) (bo_i64_mul (by omega))) rfl rfl ?_
        refine vcE_bl rfl rfl (fun _ => ox_move (pl rfl)) rfl rfl ?_
        refine vcE_bl rfl rfl (fun _ => ox_bin (pl rfl) (pl rfl) (bo_i64_add (by omega))) rfl rfl ?_
        refine vcE_bl rfl rfl (fun _ => ox_iaC2 (α := UInt8) (v := (.slice xa ps.length xc)) (8 * t + i) (pl rfl) (pl rfl) D_35 rfl D_5 rfl hp (by omega) (by omega)) rfl rfl ?_
        refine vcE_val rfl rfl rfl rfl (ox_ldC (v := (.slice xa ps.length xc)) (8 * t + i) (0 : UInt8) (pl rfl) D_5 rfl (rdC_keep hfree hp (by exact ⟨by omega, ⟨by omega, ⟨by omega, ⟨by omega, trivial⟩⟩⟩⟩)) (by omega)) rfl (si_load (pl rfl)) (lt1 (by omega)) (trivial) ?_
        refine vcE_bl rfl rfl (fun _ => cv_8_6 (pl rfl) D_5 D_22 rfl) rfl rfl ?_
        refine vcE_bl rfl rfl (fun _ => ox_bin (pl rfl) (pl rfl) (bo_u64_or _ _)) rfl rfl ?_
        refine vcE_bl rfl rfl (fun _ => ox_iaA (pl rfl) (pl rfl) D_48 rfl D_22 (by omega) (by omega)) rfl rfl ?_
        refine vcE_sto rfl rfl rfl rfl (ox_store (pl rfl) (pl rfl) D_22 (hp_eq _ _ _ _) rfl rfl (by rw [encs_length]; have := (show t < (w1 ps (8 * t + i)).length by rw [w1_length]; omega); first | (simp; omega) | (simp at this ⊢; omega)) rfl (wr_ix (t) (by simp) _)) rfl (si_store (pl rfl)) (is_some (hp_eq _ _ _ _)) (by omega) (.inl (by omega)) (trivial) (⟨trivial, ⟨trivial, trivial⟩⟩) ?_
        refine vcE_nil ?_
        refine IW.nilB ?_
        refine IW.reg hE ?_
        refine vcS_val rfl rfl (ox_move (pl rfl)) ?_
        refine vcS_val rfl rfl (ox_bin (pl rfl) (pl rfl) (bo_i64_add (by omega))) ?_
        refine vcS_val rfl rfl (ox_assign (pl rfl)) ?_
        refine vcS_nil ?_
        refine IW.nilS ?_
        exact ⟨i + 1, _, _, by omega, by omega, rfl, ⟨rfl, ⟨rfl, ⟨rfl, ⟨rfl, ⟨rfl, ⟨rfl, ⟨rfl, trivial⟩⟩⟩⟩⟩⟩⟩, rfl, leX_le (leX_cons (by rw [w1_at hi8]; rfl) (leX_old (by simp) leX_refl)), Nat.le_refl _⟩
      · replace hc3 := of_decide_eq_false hc3
        have h8 : i = 8 := by omega
        subst h8
        refine IW.exit ?_
        refine exS (exS ?_)
        refine blkQ_exit ?_
        refine IW.exit ?_
        refine blkQ_exit ?_
        refine IW.reg hE ?_
        refine vcS_val rfl rfl (ox_move (pl rfl)) ?_
        refine vcS_val rfl rfl (ox_bin (pl rfl) (pl rfl) (bo_i64_add (by omega))) ?_
        refine vcS_val rfl rfl (ox_assign (pl rfl)) ?_
        refine vcS_nil ?_
        refine IW.nilS ?_
        exact ⟨t + 1, _, _, by omega, by omega, rfl, ⟨rfl, ⟨rfl, ⟨rfl, ⟨rfl, ⟨rfl, ⟨rfl, trivial⟩⟩⟩⟩⟩⟩, rfl, leX_le (leX_cons (by rw [wst_lo (show t + 1 ≤ 16 by omega)]; rfl) leX_refl), Nat.le_refl _⟩
    · replace hc2 := of_decide_eq_false hc2
      obtain ⟨u, rfl⟩ : ∃ u, t = 16 + u := ⟨t - 16, by omega⟩
      rw [wst_hi]
      refine IW.skip ?_
      refine IW.seq ?_
      refine IW.drw hE mixed [[],[0],[0,1],[0,1,2],[],[4],[4,5],[4,5,6],[0,1,2,3],[0,1,2,3,4,5,6,7,8]] (by kernel_rfl) (vcE_start ?_)
      refine vcE_bl rfl rfl (fun _ => ox_move (pl rfl)) rfl rfl ?_
      refine vcE_bl rfl rfl (fun _ => ox_bin (pl rfl) (pl rfl) (bo_i64_sub (by omega))) rfl rfl ?_
      refine vcE_bl rfl rfl (fun _ => ox_iaA (pl rfl) (pl rfl) D_48 rfl D_22 (by omega) (by omega)) rfl rfl ?_
      refine vcE_val rfl rfl rfl rfl (ox_load (pl rfl) D_22 (hp_eq _ _ _ _) (rd_ix (16 + u - 15) (0 : UInt64) rfl (by simp; omega) (by rw [w2_length]; omega))) rfl (si_load (pl rfl)) (lt1 (by omega)) (trivial) ?_
      refine vcE_bl rfl rfl (fun _ => ox_move (pl rfl)) rfl rfl ?_
      refine vcE_bl rfl rfl (fun _ => ox_bin (pl rfl) (pl rfl) (bo_i64_sub (by omega))) rfl rfl ?_
      refine vcE_bl rfl rfl (fun _ => ox_iaA (pl rfl) (pl rfl) D_48 rfl D_22 (by omega) (by omega)) rfl rfl ?_
      refine vcE_val rfl rfl rfl rfl (ox_load (pl rfl) D_22 (hp_eq _ _ _ _) (rd_ix (16 + u - 2) (0 : UInt64) rfl (by simp; omega) (by rw [w2_length]; omega))) rfl (si_load (pl rfl)) (lt1 (by omega)) (trivial) ?_
      refine vcE_bl rfl rfl (fun _ => ox_assign (pl rfl)) rfl rfl ?_
      refine vcE_bl rfl rfl (fun _ => ox_assign (pl rfl)) rfl rfl ?_
      refine vcE_nil ?_
      refine IW.drw hE mixed [[],[],[1],[1,2],[1,2,3],[],[5],[],[5,6,7],[5,6,7,8],[],[10],[5,6,7,8,9,10,11],[1,2,3,4,5,6,7,8,9,10,11,12],[],[14],[14,15],[14,15,16],[1,2,3,4,5,6,7,8,9,10,11,12,13,14,15,16,17],[],[5,6,7,8,19],[],[5,6,7,8,19,20,21],[5,6,7,8,19,20,21,22],[],[24],[5,6,7,8,19,20,21,22,23,24,25],[1,2,3,4,5,6,7,8,9,10,11,12,13,14,15,16,17,18,19,20,21,22,23,24,25,26],[0,1,2,3,4,5,6,7,8,9,10,11,12,13,14,15,16,17,18,19,20,21,22,23,24,25,26,27],[0,1,2,3,4,5,6,7,8,9,10,11,12,13,14,15,16,17,18,19,20,21,22,23,24,25,26,27,28]] (by kernel_rfl) (vcE_start ?_)
      refine vcE_bl rfl rfl (fun _ => ox_move (pl rfl)) rfl rfl ?_
      refine vcE_bl rfl rfl (fun _ => ox_move (pl rfl)) rfl rfl ?_
      refine vcE_bl rfl rfl (fun _ => ox_bin (pl rfl) (pl rfl) (bo_i64_sub (by omega))) rfl rfl ?_
      refine vcE_bl rfl rfl (fun _ => ox_iaA (pl rfl) (pl rfl) D_48 rfl D_22 (by omega) (by omega)) rfl rfl ?_
      refine vcE_val rfl rfl rfl rfl (ox_load (pl rfl) D_22 (hp_eq _ _ _ _) (rd_ix (16 + u - 16) (0 : UInt64) rfl (by simp; omega) (by rw [w2_length]; omega))) rfl (si_load (pl rfl)) (lt1 (by omega)) (trivial) ?_
      refine vcE_bl rfl rfl (fun _ => ox_move (pl rfl)) rfl rfl ?_
      refine vcE_call rfl rfl rfl rfl (ox_fn rfl rfl (rotF_ev _ _ rfl)) rfl ltu0 (trivial) ?_
      refine vcE_bl rfl rfl (fun _ => ox_move (pl rfl)) rfl rfl ?_
      refine vcE_call rfl rfl rfl rfl (ox_fn rfl rfl (rotF_ev _ _ rfl)) rfl ltu0 (trivial) ?_
      refine vcE_bl rfl rfl (fun _ => ox_bin (pl rfl) (pl rfl) (bo_u64_xor _ _)) rfl rfl ?_
      refine vcE_bl rfl rfl (fun _ => ox_move (pl rfl)) rfl rfl ?_
      refine vcE_bl rfl rfl (fun _ => ox_bin (pl rfl) (pl (v := enc (7 : UInt64)) rfl) (bo_u64_shr _ (by omega))) rfl rfl ?_
      refine vcE_bl rfl rfl (fun _ => ox_bin (pl rfl) (pl rfl) (bo_u64_xor _ _)) rfl rfl ?_
      refine vcE_bl rfl rfl (fun _ => ox_bin (pl rfl) (pl rfl) (bo_u64_add _ _)) rfl rfl ?_
      refine vcE_bl rfl rfl (fun _ => ox_move (pl rfl)) rfl rfl ?_
      refine vcE_bl rfl rfl (fun _ => ox_bin (pl rfl) (pl rfl) (bo_i64_sub (by omega))) rfl rfl ?_
      refine vcE_bl rfl rfl (fun _ => ox_iaA (pl rfl) (pl rfl) D_48 rfl D_22 (by omega) (by omega)) rfl rfl ?_
      refine vcE_val rfl rfl rfl rfl (ox_load (pl rfl) D_22 (hp_eq _ _ _ _) (rd_ix (16 + u - 7) (0 : UInt64) rfl (by simp; omega) (by rw [w2_length]; omega))) rfl (si_load (pl rfl)) (lt1 (by omega)) (trivial) ?_
      refine vcE_bl rfl rfl (fun _ => ox_bin (pl rfl) (pl rfl) (bo_u64_add _ _)) rfl rfl ?_
      refine vcE_bl rfl rfl (fun _ => ox_move (pl rfl)) rfl rfl ?_
      refine vcE_call rfl rfl rfl rfl (ox_fn rfl rfl (rotF_ev _ _ rfl)) rfl ltu0 (trivial) ?_
      refine vcE_bl rfl rfl (fun _ => ox_move (pl rfl)) rfl rfl ?_
      refine vcE_call rfl rfl rfl rfl (ox_fn rfl rfl (rotF_ev _ _ rfl)) rfl ltu0 (trivial) ?_
      refine vcE_bl rfl rfl (fun _ => ox_bin (pl rfl) (pl rfl) (bo_u64_xor _ _)) rfl rfl ?_
      refine vcE_bl rfl rfl (fun _ => ox_move (pl rfl)) rfl rfl ?_
      refine vcE_bl rfl rfl (fun _ => ox_bin (pl rfl) (pl (v := enc (6 : UInt64)) rfl) (bo_u64_shr _ (by omega))) rfl rfl ?_
      refine vcE_bl rfl rfl (fun _ => ox_bin (pl rfl) (pl rfl) (bo_u64_xor _ _)) rfl rfl ?_
      refine vcE_bl rfl rfl (fun _ => ox_bin (pl rfl) (pl rfl) (bo_u64_add _ _)) rfl rfl ?_
      refine vcE_bl rfl rfl (fun _ => ox_iaA (pl rfl) (pl rfl) D_48 rfl D_22 (by omega) (by omega)) rfl rfl ?_
      refine vcE_sto rfl rfl rfl rfl (ox_store (pl rfl) (pl rfl) D_22 (hp_eq _ _ _ _) rfl rfl (by rw [encs_length]; have := (show 16 + u < (w2 ps u).length by rw [w2_length]; omega); first | (simp; omega) | (simp at this ⊢; omega)) rfl (wr_ix (16 + u) (by simp; omega) _)) rfl (si_store (pl rfl)) (is_some (hp_eq _ _ _ _)) (by omega) (.inl (by omega)) (trivial) (⟨trivial, ⟨trivial, ⟨trivial, ⟨trivial, ⟨trivial, ⟨trivial, trivial⟩⟩⟩⟩⟩⟩) ?_
      refine vcE_nil ?_
      refine IW.nilB ?_
      refine IW.reg hE ?_
      refine vcS_val rfl rfl (ox_move (pl rfl)) ?_
      refine vcS_val rfl rfl (ox_bin (pl rfl) (pl rfl) (bo_i64_add (by omega))) ?_
      refine vcS_val rfl rfl (ox_assign (pl rfl)) ?_
      refine vcS_nil ?_
      refine IW.nilS ?_
      exact ⟨16 + u + 1, _, _, by omega, by omega, rfl, ⟨rfl, ⟨rfl, ⟨rfl, ⟨rfl, ⟨rfl, ⟨rfl, trivial⟩⟩⟩⟩⟩⟩, rfl, leX_le (leX_cons (by rw [← w2_next]; rfl) (leX_old (by simp) leX_refl)), Nat.le_refl _⟩
  · replace hc1 := of_decide_eq_false hc1
    have h80 : t = 80 := by omega
    subst h80
    rw [show wst ps 80 = w2 ps 64 from wst_hi ps 64]
    refine IW.exit ?_
    refine exS (exS ?_)
    refine blkQ_exit ?_
    refine IW.seq ?_
    refine IW.reg hE ?_
    refine vcS_val rfl rfl (ox_load (pl rfl) D_50 (hp_sk (by omega) (hp_sk (by omega) (hp_sk (by omega) (hp_eq _ _ _ _)))) (rd_all rfl (encs_vec_length _))) ?_
    refine vcS_new rfl rfl (ox_allocZ (cs := encs (Vector.replicate 8 (0 : UInt64)).toList) D_50 rfl) (.inl (by omega)) ?_
    refine vcS_sto rfl rfl (ox_store (pl rfl) (pl rfl) D_50 (hp_eq _ _ _ _) rfl (encs_vec_length _) (le_vec _ rfl) (encs_known _) (wr_all (by simp only [encs_vec_length]))) (.inl (by omega)) ?_
    refine vcS_nil ?_
    refine IW.seq ?_
    refine IW.seq ?_
    refine IW.reg hE ?_
    refine vcS_val rfl rfl (ox_assign (pl rfl)) ?_
    refine vcS_nil ?_
    refine IW.block ?_
    refine IW.loop (S := Nat) (fun i => [(2, .pointer (some ⟨n, 0, none⟩)), (4, .pointer (some ⟨n + 1, 0, none⟩)), (5, .pointer (some ⟨n + 1 + 1, 0, none⟩)), (6, .pointer (some ⟨n + 1 + 1 + 1, 0, none⟩)), (11, .pointer (some ⟨n + 1 + 1 + 1 + 1, 0, none⟩)), (12, .int .i64 i)]) (fun i => [(n + 1 + 1 + 1 + 1, some (.cells (encs (r3 kL (w2 ps 64) (W8.of s.toList) i).list) false)), (n + 1 + 1 + 1, some (.cells (encs (w2 ps 64)) false)), (n + 1 + 1, some (.cells (encs kV.toList) false)), (n + 1, some (.cells (encs (Vector.replicate 8 (0 : UInt64)).toList) false)), (n, some (.cells (encs s.toList) false))]) (fun i => n + 1 + 1 + 1 + 1 + 1) (fun i => i ≤ 80) (fun i => 80 - i) (0) (by simp) (⟨rfl, ⟨rfl, ⟨rfl, ⟨rfl, ⟨rfl, ⟨rfl, trivial⟩⟩⟩⟩⟩⟩) (leX_le (leX_cons (by rw [show (r3 kL (w2 ps 64) (W8.of s.toList) 0).list = s.toList from W8.of_list _ (by simp)]) (leX_old (by simp) leX_refl))) (Nat.le_refl _) (fun i hi => ?_)
    refine IW.seq ?_
    refine IW.seq ?_
    refine IW.reg hE ?_
    refine vcS_val rfl rfl (ox_move (pl rfl)) ?_
    refine vcS_val rfl rfl (ox_bin (pl rfl) (pl rfl) (bo_i64_lss _ _)) ?_
    refine vcS_nil ?_
    refine IW.cond rfl (fun hc4 => ?_) (fun hc4 => ?_)
    · replace hc4 := of_decide_eq_true hc4
      refine IW.skip ?_
      refine IW.seq ?_
      refine IW.block ?_
      refine IW.seq ?_
      refine IW.drw hE mixed [[],[0],[],[2],[0,1],[0,1,2,3,4]] (by kernel_rfl) (vcE_start ?_)
      refine vcE_bl rfl rfl (fun _ => ox_iaA (pl rfl) (pl rfl) D_50 rfl D_22 (by omega) (by omega)) rfl rfl ?_
      refine vcE_val rfl rfl rfl rfl (ox_load (pl rfl) D_22 (hp_eq _ _ _ _) (rd_ix (0) (0 : UInt64) rfl (by rfl) (by simp [W8.list]))) rfl (si_load (pl rfl)) (lt1 (by omega)) (trivial) ?_
      refine vcE_bl rfl rfl (fun _ => ox_iaA (pl rfl) (pl rfl) D_50 rfl D_22 (by omega) (by omega)) rfl rfl ?_
      refine vcE_val rfl rfl rfl rfl (ox_load (pl rfl) D_22 (hp_eq _ _ _ _) (rd_ix (4) (0 : UInt64) rfl (by rfl) (by simp [W8.list]))) rfl (si_load (pl rfl)) (lt1 (by omega)) (trivial) ?_
      refine vcE_bl rfl rfl (fun _ => ox_assign (pl rfl)) rfl rfl ?_
      refine vcE_bl rfl rfl (fun _ => ox_assign (pl rfl)) rfl rfl ?_
      refine vcE_nil ?_
      refine IW.seq ?_
      refine IW.drw hE mixed [[],[0],[],[2],[],[2,3,4],[2,3,4,5],[],[2,3,4,5,7],[2,3,4,5,6,7,8],[0,1,2,3,4,5,6,7,8,9],[],[],[12],[11,12,13],[],[15],[],[17],[15,16,17,18],[11,12,13,14,15,16,17,18,19],[0,1,2,3,4,5,6,7,8,9,10,11,12,13,14,15,16,17,18,19,20],[],[22],[22,23],[0,1,2,3,4,5,6,7,8,9,10,11,12,13,14,15,16,17,18,19,20,21,22,23,24],[],[26],[26,27],[0,1,2,3,4,5,6,7,8,9,10,11,12,13,14,15,16,17,18,19,20,21,22,23,24,25,26,27,28],[0,1,2,3,4,5,6,7,8,9,10,11,12,13,14,15,16,17,18,19,20,21,22,23,24,25,26,27,28,29]] (by kernel_rfl) (vcE_start ?_)
      refine vcE_bl rfl rfl (fun _ => ox_iaA (pl rfl) (pl rfl) D_50 rfl D_22 (by omega) (by omega)) rfl rfl ?_
      refine vcE_val rfl rfl rfl rfl (ox_load (pl rfl) D_22 (hp_eq _ _ _ _) (rd_ix (7) (0 : UInt64) rfl (by rfl) (by simp [W8.list]))) rfl (si_load (pl rfl)) (lt1 (by omega)) (trivial) ?_
      refine vcE_bl rfl rfl (fun _ => ox_move (pl rfl)) rfl rfl ?_
      refine vcE_call rfl rfl rfl rfl (ox_fn rfl rfl (rotF_ev _ _ rfl)) rfl ltu0 (trivial) ?_
      refine vcE_bl rfl rfl (fun _ => ox_move (pl rfl)) rfl rfl ?_
      refine vcE_call rfl rfl rfl rfl (ox_fn rfl rfl (rotF_ev _ _ rfl)) rfl ltu0 (trivial) ?_
      refine vcE_bl rfl rfl (fun _ => ox_bin (pl rfl) (pl rfl) (bo_u64_xor _ _)) rfl rfl ?_
      refine vcE_bl rfl rfl (fun _ => ox_move (pl rfl)) rfl rfl ?_
      refine vcE_call rfl rfl rfl rfl (ox_fn rfl rfl (rotF_ev _ _ rfl)) rfl ltu0 (trivial) ?_
      refine vcE_bl rfl rfl (fun _ => ox_bin (pl rfl) (pl rfl) (bo_u64_xor _ _)) rfl rfl ?_
      refine vcE_bl rfl rfl (fun _ => ox_bin (pl rfl) (pl rfl) (bo_u64_add _ _)) rfl rfl ?_
      refine vcE_bl rfl rfl (fun _ => ox_move (pl rfl)) rfl rfl ?_
      refine vcE_bl rfl rfl (fun _ => ox_iaA (pl rfl) (pl rfl) D_50 rfl D_22 (by omega) (by omega)) rfl rfl ?_
      refine vcE_val rfl rfl rfl rfl (ox_load (pl rfl) D_22 (hp_eq _ _ _ _) (rd_ix (5) (0 : UInt64) rfl (by rfl) (by simp [W8.list]))) rfl (si_load (pl rfl)) (lt1 (by omega)) (trivial) ?_
      refine vcE_bl rfl rfl (fun _ => ox_bin (pl rfl) (pl rfl) (bo_u64_and _ _)) rfl rfl ?_
      refine vcE_bl rfl rfl (fun _ => ox_move (pl rfl)) rfl rfl ?_
      refine vcE_bl rfl rfl (fun _ => ox_un (pl rfl) (uo_u64_xor _)) rfl rfl ?_
      refine vcE_bl rfl rfl (fun _ => ox_iaA (pl rfl) (pl rfl) D_50 rfl D_22 (by omega) (by omega)) rfl rfl ?_
      refine vcE_val rfl rfl rfl rfl (ox_load (pl rfl) D_22 (hp_eq _ _ _ _) (rd_ix (6) (0 : UInt64) rfl (by rfl) (by simp [W8.list]))) rfl (si_load (pl rfl)) (lt1 (by omega)) (trivial) ?_
      refine vcE_bl rfl rfl (fun _ => ox_bin (pl rfl) (pl rfl) (bo_u64_and _ _)) rfl rfl ?_
      refine vcE_bl rfl rfl (fun _ => ox_bin (pl rfl) (pl rfl) (bo_u64_xor _ _)) rfl rfl ?_
      refine vcE_bl rfl rfl (fun _ => ox_bin (pl rfl) (pl rfl) (bo_u64_add _ _)) rfl rfl ?_
      refine vcE_bl rfl rfl (fun _ => ox_move (pl rfl)) rfl rfl ?_
      refine vcE_bl rfl rfl (fun _ => ox_iaA (pl rfl) (pl rfl) D_48 rfl D_22 (by omega) (by omega)) rfl rfl ?_
      refine vcE_val rfl rfl rfl rfl (ox_load (pl rfl) D_22 (hp_sk (by omega) (hp_sk (by omega) (hp_eq _ _ _ _))) (rd_ix (i) (0 : UInt64) rfl (by simp) (show i < 80 by omega))) rfl (si_load (pl rfl)) (lt1 (by omega)) (trivial) ?_
      refine vcE_bl rfl rfl (fun _ => ox_bin (pl rfl) (pl rfl) (bo_u64_add _ _)) rfl rfl ?_
      refine vcE_bl rfl rfl (fun _ => ox_move (pl rfl)) rfl rfl ?_
      refine vcE_bl rfl rfl (fun _ => ox_iaA (pl rfl) (pl rfl) D_48 rfl D_22 (by omega) (by omega)) rfl rfl ?_
      refine vcE_val rfl rfl rfl rfl (ox_load (pl rfl) D_22 (hp_sk (by omega) (hp_eq _ _ _ _)) (rd_ix (i) (0 : UInt64) rfl (by simp) (by rw [w2_length]; omega))) rfl (si_load (pl rfl)) (lt1 (by omega)) (trivial) ?_
      refine vcE_bl rfl rfl (fun _ => ox_bin (pl rfl) (pl rfl) (bo_u64_add _ _)) rfl rfl ?_
      refine vcE_bl rfl rfl (fun _ => ox_assign (pl rfl)) rfl rfl ?_
      refine vcE_nil ?_
      refine IW.seq ?_
      refine IW.drw hE mixed [[],[0],[],[0,1,2],[0,1,2,3],[],[0,1,2,3,5],[0,1,2,3,4,5,6],[],[],[9],[8,9,10],[],[],[13],[12,13,14],[8,9,10,11,12,13,14,15],[],[17],[],[19],[17,18,19,20],[8,9,10,11,12,13,14,15,16,17,18,19,20,21],[0,1,2,3,4,5,6,7,8,9,10,11,12,13,14,15,16,17,18,19,20,21,22],[0,1,2,3,4,5,6,7,8,9,10,11,12,13,14,15,16,17,18,19,20,21,22,23]] (by kernel_rfl) (vcE_start ?_)
      refine vcE_bl rfl rfl (fun _ => ox_move (pl rfl)) rfl rfl ?_
      refine vcE_call rfl rfl rfl rfl (ox_fn rfl rfl (rotF_ev _ _ rfl)) rfl ltu0 (trivial) ?_
      refine vcE_bl rfl rfl (fun _ => ox_move (pl rfl)) rfl rfl ?_
      refine vcE_call rfl rfl rfl rfl (ox_fn rfl rfl (rotF_ev _ _ rfl)) rfl ltu0 (trivial) ?_
      refine vcE_bl rfl rfl (fun _ => ox_bin (pl rfl) (pl rfl) (bo_u64_xor _ _)) rfl rfl ?_
      refine vcE_bl rfl rfl (fun _ => ox_move (pl rfl)) rfl rfl ?_
      refine vcE_call rfl rfl rfl rfl (ox_fn rfl rfl (rotF_ev _ _ rfl)) rfl ltu0 (trivial) ?_
      refine vcE_bl rfl rfl (fun _ => ox_bin (pl rfl) (pl rfl) (bo_u64_xor _ _)) rfl rfl ?_
      refine vcE_bl rfl rfl (fun _ => ox_move (pl rfl)) rfl rfl ?_
      refine vcE_bl rfl rfl (fun _ => ox_iaA (pl rfl) (pl rfl) D_50 rfl D_22 (by omega) (by omega)) rfl rfl ?_
      refine vcE_val rfl rfl rfl rfl (ox_load (pl rfl) D_22 (hp_eq _ _ _ _) (rd_ix (1) (0 : UInt64) rfl (by rfl) (by simp [W8.list]))) rfl (si_load (pl rfl)) (lt1 (by omega)) (trivial) ?_
      refine vcE_bl rfl rfl (fun _ => ox_bin (pl rfl) (pl rfl) (bo_u64_and _ _)) rfl rfl ?_
      refine vcE_bl rfl rfl (fun _ => ox_move (pl rfl)) rfl rfl ?_
      refine vcE_bl rfl rfl (fun _ => ox_iaA (pl rfl) (pl rfl) D_50 rfl D_22 (by omega) (by omega)) rfl rfl ?_
      refine vcE_val rfl rfl rfl rfl (ox_load (pl rfl) D_22 (hp_eq _ _ _ _) (rd_ix (2) (0 : UInt64) rfl (by rfl) (by simp [W8.list]))) rfl (si_load (pl rfl)) (lt1 (by omega)) (trivial) ?_
      refine vcE_bl rfl rfl (fun _ => ox_bin (pl rfl) (pl rfl) (bo_u64_and _ _)) rfl rfl ?_
      refine vcE_bl rfl rfl (fun _ => ox_bin (pl rfl) (pl rfl) (bo_u64_xor _ _)) rfl rfl ?_
      refine vcE_bl rfl rfl (fun _ => ox_iaA (pl rfl) (pl rfl) D_50 rfl D_22 (by omega) (by omega)) rfl rfl ?_
      refine vcE_val rfl rfl rfl rfl (ox_load (pl rfl) D_22 (hp_eq _ _ _ _) (rd_ix (1) (0 : UInt64) rfl (by rfl) (by simp [W8.list]))) rfl (si_load (pl rfl)) (lt1 (by omega)) (trivial) ?_
      refine vcE_bl rfl rfl (fun _ => ox_iaA (pl rfl) (pl rfl) D_50 rfl D_22 (by omega) (by omega)) rfl rfl ?_
      refine vcE_val rfl rfl rfl rfl (ox_load (pl rfl) D_22 (hp_eq _ _ _ _) (rd_ix (2) (0 : UInt64) rfl (by rfl) (by simp [W8.list]))) rfl (si_load (pl rfl)) (lt1 (by omega)) (trivial) ?_
      refine vcE_bl rfl rfl (fun _ => ox_bin (pl rfl) (pl rfl) (bo_u64_and _ _)) rfl rfl ?_
      refine vcE_bl rfl rfl (fun _ => ox_bin (pl rfl) (pl rfl) (bo_u64_xor _ _)) rfl rfl ?_
      refine vcE_bl rfl rfl (fun _ => ox_bin (pl rfl) (pl rfl) (bo_u64_add _ _)) rfl rfl ?_
      refine vcE_bl rfl rfl (fun _ => ox_assign (pl rfl)) rfl rfl ?_
      refine vcE_nil ?_
      refine IW.reg hE ?_
      refine vcS_val rfl rfl (ox_move (pl rfl)) ?_
      refine vcS_val rfl rfl (ox_move (pl rfl)) ?_
      refine vcS_val rfl rfl (ox_bin (pl rfl) (pl rfl) (bo_u64_add _ _)) ?_
      refine vcS_val rfl rfl (ox_move (pl rfl)) ?_
      refine vcS_val rfl rfl (ox_iaA (pl rfl) (pl rfl) D_50 rfl D_22 (by omega) (by omega)) ?_
      refine vcS_val rfl rfl (ox_load (pl rfl) D_22 (hp_eq _ _ _ _) (rd_ix (1) (0 : UInt64) rfl (by rfl) (by simp [W8.list]))) ?_
      refine vcS_val rfl rfl (ox_iaA (pl rfl) (pl rfl) D_50 rfl D_22 (by omega) (by omega)) ?_
      refine vcS_val rfl rfl (ox_load (pl rfl) D_22 (hp_eq _ _ _ _) (rd_ix (2) (0 : UInt64) rfl (by rfl) (by simp [W8.list]))) ?_
      refine vcS_val rfl rfl (ox_iaA (pl rfl) (pl rfl) D_50 rfl D_22 (by omega) (by omega)) ?_
      refine vcS_val rfl rfl (ox_load (pl rfl) D_22 (hp_eq _ _ _ _) (rd_ix (3) (0 : UInt64) rfl (by rfl) (by simp [W8.list]))) ?_
      refine vcS_val rfl rfl (ox_move (pl rfl)) ?_
      refine vcS_val rfl rfl (ox_bin (pl rfl) (pl rfl) (bo_u64_add _ _)) ?_
      refine vcS_val rfl rfl (ox_move (pl rfl)) ?_
      refine vcS_val rfl rfl (ox_iaA (pl rfl) (pl rfl) D_50 rfl D_22 (by omega) (by omega)) ?_
      refine vcS_val rfl rfl (ox_load (pl rfl) D_22 (hp_eq _ _ _ _) (rd_ix (5) (0 : UInt64) rfl (by rfl) (by simp [W8.list]))) ?_
      refine vcS_val rfl rfl (ox_iaA (pl rfl) (pl rfl) D_50 rfl D_22 (by omega) (by omega)) ?_
      refine vcS_val rfl rfl (ox_load (pl rfl) D_22 (hp_eq _ _ _ _) (rd_ix (6) (0 : UInt64) rfl (by rfl) (by simp [W8.list]))) ?_
      refine vcS_val rfl rfl (ox_buildA (cs := encs (r3 kL (w2 ps 64) (W8.of s.toList) (i + 1)).list) D_50 rfl D_22 rfl (by rw [r3_ref]; rfl)) ?_
      refine vcS_sto rfl rfl (ox_store (pl rfl) (pl rfl) D_50 (hp_eq _ _ _ _) rfl rfl (Nat.le_of_ble_eq_true rfl) rfl rfl) (.inl (by omega)) ?_
      refine vcS_nil ?_
      refine IW.nilB ?_
      refine IW.reg hE ?_
      refine vcS_val rfl rfl (ox_move (pl rfl)) ?_
      refine vcS_val rfl rfl (ox_bin (pl rfl) (pl rfl) (bo_i64_add (by omega))) ?_
      refine vcS_val rfl rfl (ox_assign (pl rfl)) ?_
      refine vcS_nil ?_
      refine IW.nilS ?_
      exact ⟨i + 1, _, _, by omega, by omega, rfl, ⟨rfl, ⟨rfl, ⟨rfl, ⟨rfl, ⟨rfl, ⟨rfl, trivial⟩⟩⟩⟩⟩⟩, rfl, leX_le (leX_cons rfl (leX_old (by simp) leX_refl)), Nat.le_refl _⟩
    · replace hc4 := of_decide_eq_false hc4
      have h80 : i = 80 := by omega
      subst h80
      refine IW.exit ?_
      refine exS (exS ?_)
      refine blkQ_exit ?_
      refine IW.seq ?_
      refine IW.seq ?_
      refine IW.reg hE ?_
      refine vcS_val rfl rfl (ox_assign (pl rfl)) ?_
      refine vcS_nil ?_
      refine IW.block ?_
      refine IW.loop (S := Nat) (fun i => [(2, .pointer (some ⟨n, 0, none⟩)), (4, .pointer (some ⟨n + 1, 0, none⟩)), (5, .pointer (some ⟨n + 1 + 1, 0, none⟩)), (6, .pointer (some ⟨n + 1 + 1 + 1, 0, none⟩)), (11, .pointer (some ⟨n + 1 + 1 + 1 + 1, 0, none⟩)), (17, .int .i64 i)]) (fun i => [(n + 1 + 1 + 1 + 1, some (.cells (encs (s4 (r3 kL (w2 ps 64) (W8.of s.toList) 80).list s.toList i)) false)), (n + 1 + 1 + 1, some (.cells (encs (w2 ps 64)) false)), (n + 1 + 1, some (.cells (encs kV.toList) false)), (n + 1, some (.cells (encs (Vector.replicate 8 (0 : UInt64)).toList) false)), (n, some (.cells (encs s.toList) false))]) (fun i => n + 1 + 1 + 1 + 1 + 1) (fun i => i ≤ 8) (fun i => 8 - i) (0) (by simp) (⟨rfl, ⟨rfl, ⟨rfl, ⟨rfl, ⟨rfl, ⟨rfl, trivial⟩⟩⟩⟩⟩⟩) (fun _ _ h => h) (Nat.le_refl _) (fun i hi => ?_)
      refine IW.seq ?_
      refine IW.seq ?_
      refine IW.reg hE ?_
      refine vcS_val rfl rfl (ox_move (pl rfl)) ?_
      refine vcS_val rfl rfl (ox_bin (pl rfl) (pl rfl) (bo_i64_lss _ _)) ?_
      refine vcS_nil ?_
      refine IW.cond rfl (fun hc5 => ?_) (fun hc5 => ?_)
      · replace hc5 := of_decide_eq_true hc5
        refine IW.skip ?_
        refine IW.seq ?_
        refine IW.block ?_
        refine IW.drw hE mixed [[],[],[1],[1,2],[],[4],[4,5],[1,2,3,4,5,6],[0,1,2,3,4,5,6,7],[0,1,2,3,4,5,6,7,8]] (by kernel_rfl) (vcE_start ?_)
        refine vcE_bl rfl rfl (fun _ => ox_move (pl rfl)) rfl rfl ?_
        refine vcE_bl rfl rfl (fun _ => ox_move (pl rfl)) rfl rfl ?_
        refine vcE_bl rfl rfl (fun _ => ox_iaA (pl rfl) (pl rfl) D_50 rfl D_22 (by omega) (by omega)) rfl rfl ?_
        refine vcE_val rfl rfl rfl rfl (ox_load (pl rfl) D_22 (hp_eq _ _ _ _) (rd_ix (i) (0 : UInt64) rfl (by simp) (by rw [s4_length]; simp [W8.list]; omega))) rfl (si_load (pl rfl)) (lt1 (by omega)) (trivial) ?_
        refine vcE_bl rfl rfl (fun _ => ox_move (pl rfl)) rfl rfl ?_
        refine vcE_bl rfl rfl (fun _ => ox_iaA (pl rfl) (pl rfl) D_50 rfl D_22 (by omega) (by omega)) rfl rfl ?_
        refine vcE_val rfl rfl rfl rfl (ox_load (pl rfl) D_22 (hp_sk (by omega) (hp_sk (by omega) (hp_sk (by omega) (hp_sk (by omega) (hp_eq _ _ _ _))))) (rd_ix (i) (0 : UInt64) rfl (by simp) (by simp; omega))) rfl (si_load (pl rfl)) (lt1 (by omega)) (trivial) ?_
        refine vcE_bl rfl rfl (fun _ => ox_bin (pl rfl) (pl rfl) (bo_u64_add _ _)) rfl rfl ?_
        refine vcE_bl rfl rfl (fun _ => ox_iaA (pl rfl) (pl rfl) D_50 rfl D_22 (by omega) (by omega)) rfl rfl ?_
        refine vcE_sto rfl rfl rfl rfl (ox_store (pl rfl) (pl rfl) D_22 (hp_eq _ _ _ _) rfl rfl (by rw [encs_length]; have := (show i < (s4 (r3 kL (w2 ps 64) (W8.of s.toList) 80).list s.toList i).length by rw [s4_length]; simp [W8.list]; omega); first | (simp; omega) | (simp at this ⊢; omega)) rfl (wr_ix (i) (by simp) _)) rfl (si_store (pl rfl)) (is_some (hp_eq _ _ _ _)) (by omega) (.inl (by omega)) (trivial) (⟨trivial, ⟨trivial, trivial⟩⟩) ?_
        refine vcE_nil ?_
        refine IW.nilB ?_
        refine IW.reg hE ?_
        refine vcS_val rfl rfl (ox_move (pl rfl)) ?_
        refine vcS_val rfl rfl (ox_bin (pl rfl) (pl rfl) (bo_i64_add (by omega))) ?_
        refine vcS_val rfl rfl (ox_assign (pl rfl)) ?_
        refine vcS_nil ?_
        refine IW.nilS ?_
        exact ⟨i + 1, _, _, by omega, by omega, rfl, ⟨rfl, ⟨rfl, ⟨rfl, ⟨rfl, ⟨rfl, ⟨rfl, trivial⟩⟩⟩⟩⟩⟩, rfl, leX_le (leX_cons rfl (leX_old (by simp) leX_refl)), Nat.le_refl _⟩
      · replace hc5 := of_decide_eq_false hc5
        have h8 : i = 8 := by omega
        subst h8
        rw [thr_ref]
        refine IW.exit ?_
        refine exS (exS ?_)
        refine blkQ_exit ?_
        refine IW.seq ?_
        refine IW.reg hE ?_
        refine vcS_val rfl rfl (ox_load (pl rfl) D_50 (hp_eq _ _ _ _) (rd_all rfl (encs_vec_length _))) ?_
        refine vcS_sto rfl rfl (ox_store (pl rfl) (pl rfl) D_50 (hp_sk (by omega) (hp_sk (by omega) (hp_sk (by omega) (hp_eq _ _ _ _)))) rfl (encs_vec_length _) (le_vec _ rfl) (encs_known _) (wr_all (by simp only [encs_vec_length]))) (.inl (by omega)) ?_
        refine vcS_nil ?_
        refine IW.ret ?_
        exact RetP.pure (.inr rfl) (ires_cell rfl D_50 (hp_eq _ _ _ _) (rd_all rfl (encs_vec_length (thr kL s ps)))) (okV64 _) (by omega)
set_option maxHeartbeats 200000
noncomputable def F42 : FnI := fn2 fun (s : Vector UInt64 8) (p : Vector UInt8 128) => enc (thr kL s p.toList)
-- headwater/headwaterref02.Piece ['Vector UInt64 8', 'Vector UInt8 128'] -> ['Vector UInt64 8'], results [[4, 50]]
theorem R42 : Ref Try.prog 42 F42 := by
  refine Ref.of_iw dok Try.func42 rfl (by kernel_rfl) fun args H n e hF => ?_
  obtain ⟨a, b, rfl, rfl⟩ := fn2_inv hF
  refine ⟨Nat.le_of_ble_eq_true rfl, ?_⟩
  simp only [idxL]
  have hE : Env Try.prog [(75, F75)] D K := env (fnsOk_cons R75 fnsOk_nil)
  refine IW.seq ?_
  refine IW.reg hE ?_
  refine vcS_new rfl rfl (ox_box (pl rfl) rfl) (.inl (by omega)) ?_
  refine vcS_new rfl rfl (ox_box (pl rfl) rfl) (.inl (by omega)) ?_
  refine vcS_new rfl rfl (ox_allocZ (cs := encs (Vector.replicate 8 (0 : UInt64)).toList) D_50 rfl) (.inl (by omega)) ?_
  refine vcS_nil ?_
  refine IW.seq ?_
  refine IW.drw hE mixed [[],[],[0,1],[0,1,2]] (by kernel_rfl) (vcE_start ?_)
  refine vcE_val rfl rfl rfl rfl (ox_load (pl rfl) D_50 (hp_sk (by omega) (hp_sk (by omega) (hp_eq _ _ _ _))) (rd_all rfl (encs_vec_length _))) rfl (si_load (pl rfl)) (lt1 (by omega)) (trivial) ?_
  refine vcE_bl rfl rfl (fun _ => ox_slAll (pl rfl) D_63 rfl D_5) rfl rfl ?_
  refine vcE_call rfl rfl rfl rfl (ox_fn rfl rfl (F75_ev (pl := b.toList) (rdC_1all (hp_sk (by omega) (hp_eq _ _ _ _)) (by simp)) (by simp))) rfl ltu0 (trivial) ?_
  refine vcE_sto rfl rfl rfl rfl (ox_store (pl rfl) (pl rfl) D_50 (hp_eq _ _ _ _) rfl (encs_vec_length _) (le_vec _ rfl) (encs_known _) (wr_all (by simp only [encs_vec_length]))) rfl (si_store (pl rfl)) (is_some (hp_eq _ _ _ _)) (by omega) (.inl (by omega)) (trivial) (⟨trivial, ⟨trivial, trivial⟩⟩) ?_
  refine vcE_nil ?_
  refine IW.ret ?_
  exact RetP.pure (.inr rfl) (ires_cell rfl D_50 (hp_eq _ _ _ _) (rd_all rfl (encs_vec_length _))) (okV64 _) (by omega)
noncomputable def F71 : FnI := fn1 fun (w : Vector UInt64 8) => enc (bytesV w)
-- headwater/headwaterref02.bytes ['Vector UInt64 8'] -> ['Vector UInt8 64'], results [[2, 26]]
theorem R71 : Ref Try.prog 71 F71 := by
  refine Ref.of_iw dok Try.func71 rfl (by kernel_rfl) fun args H n e hF => ?_
  obtain ⟨a, rfl, rfl⟩ := fn1_inv hF
  refine ⟨Nat.le_of_ble_eq_true rfl, ?_⟩
  simp only [idxL]
  have hE : Env Try.prog [] D K := env fnsOk_nil
  refine IW.seq ?_
  refine IW.reg hE ?_
  refine vcS_new rfl rfl (ox_box (pl rfl) rfl) (.inl (by omega)) ?_
  refine vcS_new rfl rfl (ox_allocZ (cs := encs (Vector.replicate 64 (0 : UInt8)).toList) D_26 rfl) (.inl (by omega)) ?_
  refine vcS_nil ?_
  refine IW.seq ?_
  refine IW.reg hE ?_
  refine vcS_new rfl rfl (ox_allocZ (cs := encs (Vector.replicate 64 (0 : UInt8)).toList) D_26 rfl) (.inl (by omega)) ?_
  refine vcS_nil ?_
  refine IW.seq ?_
  refine IW.seq ?_
  refine IW.reg hE ?_
  refine vcS_val rfl rfl (ox_assign (pl rfl)) ?_
  refine vcS_nil ?_
  refine IW.block ?_
  refine IW.loop (S := Nat) (fun i => [(1, .pointer (some ⟨n, 0, none⟩)), (2, .pointer (some ⟨n + 1, 0, none⟩)), (3, .pointer (some ⟨n + 1 + 1, 0, none⟩)), (4, .int .i64 i)]) (fun i => [(n + 1 + 1, some (.cells (encs (bo a.toList i)) false)), (n + 1, some (.cells (encs (Vector.replicate 64 (0 : UInt8)).toList) false)), (n, some (.cells (encs a.toList) false))]) (fun i => n + 1 + 1 + 1) (fun i => i ≤ 64) (fun i => 64 - i) (0) (by simp) (⟨rfl, ⟨rfl, ⟨rfl, ⟨rfl, trivial⟩⟩⟩⟩) (fun _ _ h => h) (Nat.le_refl _) (fun i hi => ?_)
  refine IW.seq ?_
  refine IW.seq ?_
  refine IW.reg hE ?_
  refine vcS_val rfl rfl (ox_move (pl rfl)) ?_
  refine vcS_val rfl rfl (ox_bin (pl rfl) (pl rfl) (bo_i64_lss _ _)) ?_
  refine vcS_nil ?_
  refine IW.cond rfl (fun hc1 => ?_) (fun hc1 => ?_)
  · replace hc1 := of_decide_eq_true hc1
    refine IW.skip ?_
    refine IW.seq ?_
    refine IW.block ?_
    refine IW.reg hE ?_
    refine vcS_val rfl rfl (ox_move (pl rfl)) ?_
    refine vcS_val rfl rfl (ox_move (pl rfl)) ?_
    refine vcS_val rfl rfl (ox_bin (pl rfl) (pl rfl) (bo_i64_quo i 8 rfl rfl (by decide) (by omega))) ?_
    refine vcS_val rfl rfl (ox_iaA (pl rfl) (pl rfl) D_50 rfl D_22 (by omega) (by omega)) ?_
    refine vcS_val rfl rfl (ox_load (pl rfl) D_22 (hp_sk (by omega) (hp_sk (by omega) (hp_eq _ _ _ _))) (rd_ix (i / 8) (0 : UInt64) rfl (by simp; omega) (by simp; omega))) ?_
    refine vcS_val rfl rfl (ox_move (pl rfl)) ?_
    refine vcS_val rfl rfl (ox_bin (pl rfl) (pl rfl) (bo_i64_rem i 8 rfl rfl (by decide))) ?_
    refine vcS_val rfl rfl (ox_bin (pl rfl) (pl rfl) (bo_i64_mul (by omega))) ?_
    refine vcS_val rfl rfl (ox_bin (pl rfl) (pl rfl) (bo_i64_sub (by omega))) ?_
    refine vcS_val rfl rfl (cv_i_6 (56 - 8 * (i % 8)) (pl rfl) D_3 D_60 rfl (by omega)) ?_
    refine vcS_val rfl rfl (ox_bin (pl rfl) (pl rfl) (shr_nat (56 - 8 * (i % 8)) (by omega))) ?_
    refine vcS_val rfl rfl (cv_6_8 (pl rfl) D_22 D_5 rfl) ?_
    refine vcS_val rfl rfl (ox_iaA (pl rfl) (pl rfl) D_26 rfl D_5 (by omega) (by omega)) ?_
    refine vcS_sto rfl rfl (ox_store (pl rfl) (pl rfl) D_5 (hp_eq _ _ _ _) rfl rfl (by rw [encs_length]; have := (show i < (bo a.toList i).length by rw [bo_length]; omega); first | (simp; omega) | (simp at this ⊢; omega)) rfl (wr_ix (i) (by simp) _)) (.inl (by omega)) ?_
    refine vcS_nil ?_
    refine IW.nilB ?_
    refine IW.reg hE ?_
    refine vcS_val rfl rfl (ox_move (pl rfl)) ?_
    refine vcS_val rfl rfl (ox_bin (pl rfl) (pl rfl) (bo_i64_add (by omega))) ?_
    refine vcS_val rfl rfl (ox_assign (pl rfl)) ?_
    refine vcS_nil ?_
    refine IW.nilS ?_
    exact ⟨i + 1, _, _, by omega, by omega, rfl, ⟨rfl, ⟨rfl, ⟨rfl, ⟨rfl, trivial⟩⟩⟩⟩, rfl, leX_le (leX_cons rfl (leX_old (by simp) leX_refl)), Nat.le_refl _⟩
  · replace hc1 := of_decide_eq_false hc1
    have h64 : i = 64 := by omega
    subst h64
    rw [bo_all]
    refine IW.exit ?_
    refine exS (exS ?_)
    refine blkQ_exit ?_
    refine IW.seq ?_
    refine IW.reg hE ?_
    refine vcS_val rfl rfl (ox_load (pl rfl) D_26 (hp_eq _ _ _ _) (rd_all rfl (encs_vec_length _))) ?_
    refine vcS_sto rfl rfl (ox_store (pl rfl) (pl rfl) D_26 (hp_sk (by omega) (hp_eq _ _ _ _)) rfl (encs_vec_length _) (le_vec _ rfl) (encs_known _) (wr_all (by simp only [encs_vec_length]))) (.inl (by omega)) ?_
    refine vcS_nil ?_
    refine IW.ret ?_
    exact RetP.pure (.inr rfl) (ires_cell rfl D_26 (hp_eq _ _ _ _) (rd_all rfl (encs_vec_length _))) (okV8 _) (by omega)
end Go.Proofs.Ytdnnojblneccdaa
/-
  The document's padding, run, join, sums.
-/
namespace Go.Proofs.Ytdnnojblneccdaa
set_option linter.unusedSimpArgs false
set_option linter.unusedVariables false
open Go
open Enc (enc)
set_option maxRecDepth 100000

noncomputable def F40 : FnI := fun args H n => match args with
  | [x] => (rdC H x).bind fun (b : List UInt8) => if b.length ≤ 2 ^ 40 then some ⟨.slice (some ⟨n, 0, some 1⟩) (padN b.length) (padN b.length), [(n, some (.cells (encs (padL b)) false))], n + 1⟩ else none
  | _ => none
theorem F40_inv {args : List Value} {H : IHeap} {n : Nat} {e : Eff} (h : F40 args H n = some e) : ∃ (xa : Option Addr) (xc : Nat) (b : List UInt8), args = [.slice xa b.length xc] ∧ rdC H (.slice xa b.length xc) = some b ∧ b.length ≤ 2 ^ 40 ∧ e = ⟨.slice (some ⟨n, 0, some 1⟩) (padN b.length) (padN b.length), [(n, some (.cells (encs (padL b)) false))], n + 1⟩ := by
  unfold F40 at h; split at h
  · simp only [Option.bind_eq_some_iff] at h
    obtain ⟨b, hb, h⟩ := h
    split at h
    · rename_i hle; cases h
      obtain ⟨xa, xc, rfl⟩ := rdC_len hb
      exact ⟨xa, xc, b, rfl, hb, hle, rfl⟩
    · cases h
  · cases h
theorem F40_ev {x : Value} {H : IHeap} {n : Nat} {b : List UInt8} (hb : rdC H x = some b) (hle : b.length ≤ 2 ^ 40) : F40 [x] H n = some ⟨.slice (some ⟨n, 0, some 1⟩) (padN b.length) (padN b.length), [(n, some (.cells (encs (padL b)) false))], n + 1⟩ := by
  simp only [F40, hb, Option.bind_some]
  rw [if_pos hle]
theorem rdC_nilE {H : IHeap} {x : Value} {b : List UInt8} (h0 : b = []) (h : rdC H x = some b) : rdC H x = some ([] : List UInt8) := h0 ▸ h
def padZ (k : Nat) : Nat := padN k - 17 - k
theorem padZ_eq (k : Nat) : k + 17 + padZ k = padN k := by have := padN_ge k; unfold padZ; omega
theorem padZ_on {k s : Nat} (hs : s ≤ padZ k) (h : (((k + 1 + s) % 128 : Nat) : Int) != 112) : s < padZ k := by
  have h1 : ¬ (((k + 1 + s) % 128 : Nat) : Int) = 112 := by simpa using h
  have := padZ_eq k
  unfold padN at this
  omega
theorem padZ_off {k s : Nat} (hs : s ≤ padZ k) (h : ((((k + 1 + s) % 128 : Nat) : Int) != 112) = false) : s = padZ k := by
  have h1 : (((k + 1 + s) % 128 : Nat) : Int) = 112 := by simpa using h
  have := padZ_eq k
  unfold padN at this
  omega
def pz (b : List UInt8) (s : Nat) : List UInt8 := b ++ [128] ++ List.replicate s 0
theorem pz_length (b : List UInt8) (s : Nat) : (pz b s).length = b.length + 1 + s := by simp [pz]; omega
theorem pz_succ (b : List UInt8) (s : Nat) : pz b s ++ [0] = pz b (s + 1) := by simp [pz, List.replicate_succ']
def py (b : List UInt8) (k : Nat) : List UInt8 := pz b (padZ b.length) ++ List.replicate 8 0 ++ (be8 (UInt64.ofNat b.length * 8)).take k
theorem py_length (b : List UInt8) {k : Nat} (h : k ≤ 8) : (py b k).length = b.length + 1 + padZ b.length + 8 + k := by simp [py, pz_length, be8_length]; omega
theorem py_succ (b : List UInt8) {k : Nat} (h : k < 8) : py b k ++ [(shr64 (UInt64.ofNat b.length * 8) (56 - 8 * k)).toUInt8] = py b (k + 1) := by
  simp only [py, be8_succ h, List.append_assoc]
theorem py_all {b : List UInt8} (h : b.length ≤ 2 ^ 40) : py b 8 = padL b := by
  rw [padL_ref h, py, pz, List.take_of_length_le (by rw [be8_length]; exact Nat.le_refl _)]; rfl
-- headwater/headwaterref02.Pad ['Sl'] -> ['Sl'], results [2]
theorem R40 : Ref Try.prog 40 F40 := by
  refine Ref.of_iw dok Try.func40 rfl (by kernel_rfl) fun args H n e hF => ?_
  obtain ⟨xa, xc, b, rfl, hB, hle, rfl⟩ := F40_inv hF
  have hpz := padZ_eq b.length
  have hpn := padN_ge b.length
  refine ⟨Nat.le_of_ble_eq_true rfl, ?_⟩
  simp only [idxL]
  have hE : Env Try.prog [] D K := env fnsOk_nil
  refine IW.seq ?_
  refine IW.free (by simp) (fun hfree => ?_)
  refine IW.reg hE ?_
  refine vcS_val rfl rfl (ox_assign (pl rfl)) ?_
  refine vcS_nil ?_
  refine IW.seq ?_
  by_cases h0 : b = []
  · refine IW.reg hE ?_
    refine vcS_new rfl rfl (ox_bs0 D_35 rfl D_5) (.inl (by omega)) ?_
    refine vcS_val rfl rfl (ox_move (pl rfl)) ?_
    refine vcS_val rfl rfl (ox_app0 (α := UInt8) (pl rfl) (pl rfl) D_35 rfl D_5 D_35 rfl rfl (rdC_nilE h0 (rdC_keep hfree hB (by exact ⟨by omega, trivial⟩))) rfl (Nat.le_refl _)) ?_
    refine vcS_new rfl rfl (ox_bsl (cs := encs [(128 : UInt8)]) D_35 rfl D_5 (Nat.le_of_ble_eq_true rfl) rfl rfl) (.inl (by omega)) ?_
    refine vcS_new rfl rfl (ox_app1e (α := UInt8) (l := [128]) (pl rfl) (pl rfl) D_35 rfl D_5 D_35 rfl rfl (rdC_1all (hp_eq _ _ _ _) rfl) (by simp) rfl (hp_sk (id := n) (by omega) (hp_eq _ _ _ _)) rfl (by decide) (by decide)) (.inl (by omega)) ?_
    refine vcS_val rfl rfl (ox_assign (pl rfl)) ?_
    refine vcS_nil ?_
    refine IW.seq ?_
    refine IW.block ?_
    refine IW.loop (S := Nat) (fun s => [(0, .slice xa b.length xc), (3, .slice (some ⟨n + 1 + 1 + 2 * s, 0, some 1⟩) (b.length + 1 + s) (b.length + 1 + s))]) (fun s => [(n + 1 + 1 + 2 * s, some (.cells (encs (pz b s)) false))]) (fun s => n + 1 + 1 + 2 * s + 1) (fun s => s ≤ padZ b.length) (fun s => padZ b.length - s) (0) (Nat.zero_le _) (⟨rfl, ⟨by rw [h0]; rfl, trivial⟩⟩) (leX_le (leX_cons (by rw [h0]; rfl) (leX_none hfree (by exact ⟨by omega, by omega, trivial⟩)))) (Nat.le_refl _) (fun s hs => ?_)
    refine IW.seq ?_
    refine IW.seq ?_
    refine IW.reg hE ?_
    refine vcS_val rfl rfl (ox_move (pl rfl)) ?_
    refine vcS_val rfl rfl (ox_len (pl rfl) D_35 rfl) ?_
    refine vcS_val rfl rfl (ox_bin (pl rfl) (pl rfl) (bo_i64_rem (b.length + 1 + s) 128 rfl rfl (by decide))) ?_
    refine vcS_val rfl rfl (ox_bin (pl rfl) (pl rfl) (bo_i64_neq _ _)) ?_
    refine vcS_nil ?_
    refine IW.cond rfl (fun hc1 => ?_) (fun hc1 => ?_)
    · have hsz := padZ_on hs hc1
      refine IW.skip ?_
      refine IW.block ?_
      refine IW.reg hE ?_
      refine vcS_val rfl rfl (ox_move (pl rfl)) ?_
      refine vcS_new rfl rfl (ox_bsl (cs := encs [(0 : UInt8)]) D_35 rfl D_5 (Nat.le_of_ble_eq_true rfl) rfl rfl) (.inl (by omega)) ?_
      refine vcS_ups rfl rfl (ox_appOE (α := UInt8) (l1 := pz b s) (len2 := b.length + 1 + (s + 1)) (pl rfl) (pl rfl) D_35 rfl D_5 rfl rfl (srcArg_1 (α := UInt8) (l := [0]) D_35 rfl rfl (rdC_1all (hp_eq _ _ _ _) rfl)) rfl (hp_sk (by omega) (hp_eq _ _ _ _)) (by first | rw [pz_length] | rw [py_length _ (by omega)] | rfl) (by simp; try omega) (by simp only [most]; omega) (by decide)) rfl ⟨.inl (by omega), .inl (by omega), trivial⟩ ?_
      refine vcS_val rfl rfl (ox_assign (pl rfl)) ?_
      refine vcS_nil ?_
      refine IW.nilB ?_
      refine IW.nilS ?_
      exact ⟨s + 1, _, _, hsz, by omega, rfl, ⟨rfl, ⟨rfl, trivial⟩⟩, rfl, leX_le (leX_cons (by rw [pz_succ]) (leX_none hfree (by exact ⟨by omega, by omega, by omega, trivial⟩))), by omega⟩
    · obtain rfl := padZ_off hs hc1
      refine IW.exit ?_
      refine exS (exS ?_)
      refine blkQ_exit ?_
      refine IW.seq ?_
      refine IW.reg hE ?_
      refine vcS_val rfl rfl (ox_move (pl rfl)) ?_
      refine vcS_ups rfl rfl (ox_appOE (α := UInt8) (l1 := pz b (padZ b.length)) (l := List.replicate 8 0) (len2 := b.length + 1 + padZ b.length + 8) (pl rfl) (pl rfl) D_35 rfl D_5 rfl rfl (srcArg_intE 8 (0 : UInt8) D_3 rfl rfl (by decide) (by decide) rfl) rfl (hp_eq _ _ _ _) (pz_length _ _) rfl (by simp only [most]; omega) (by decide)) rfl ⟨.inl (by omega), .inl (by omega), trivial⟩ ?_
      refine vcS_val rfl rfl (ox_assign (pl rfl)) ?_
      refine vcS_nil ?_
      refine IW.seq ?_
      refine IW.reg hE ?_
      refine vcS_val rfl rfl (ox_move (pl rfl)) ?_
      refine vcS_val rfl rfl (ox_len (pl rfl) D_35 rfl) ?_
      refine vcS_val rfl rfl (cv_i_6 b.length (pl rfl) D_3 D_22 rfl rfl) ?_
      refine vcS_val rfl rfl (ox_bin (pl rfl) (pl (v := enc (8 : UInt64)) rfl) (bo_u64_mul _ _)) ?_
      refine vcS_val rfl rfl (ox_assign (pl rfl)) ?_
      refine vcS_nil ?_
      refine IW.seq ?_
      refine IW.seq ?_
      refine IW.reg hE ?_
      refine vcS_val rfl rfl (ox_assign (pl rfl)) ?_
      refine vcS_nil ?_
      refine IW.block ?_
      refine IW.loop (S := Nat) (fun k => [(3, .slice (some ⟨n + 1 + 1 + 2 * padZ b.length + 1 + 2 * k, 0, some 1⟩) (b.length + 1 + padZ b.length + 8 + k) (b.length + 1 + padZ b.length + 8 + k)), (4, enc (UInt64.ofNat b.length * 8)), (5, .int .i64 (7 - (k : Int)))]) (fun k => [(n + 1 + 1 + 2 * padZ b.length + 1 + 2 * k, some (.cells (encs (py b k)) false))]) (fun k => n + 1 + 1 + 2 * padZ b.length + 1 + 2 * k + 1) (fun k => k ≤ 8) (fun k => 8 - k) (0) (Nat.zero_le _) (⟨rfl, ⟨rfl, ⟨rfl, trivial⟩⟩⟩) (leX_le (leX_cons (by show some (IObj.cells (encs (pz b (padZ b.length) ++ List.replicate 8 0 ++ [])) false) = _; rw [List.append_nil]) (leX_none hfree (by exact ⟨by omega, by omega, trivial⟩)))) (Nat.le_refl _) (fun k hk => ?_)
      refine IW.seq ?_
      refine IW.seq ?_
      refine IW.reg hE ?_
      refine vcS_val rfl rfl (ox_move (pl rfl)) ?_
      refine vcS_val rfl rfl (ox_bin (pl rfl) (pl rfl) (bo_i64_geq _ _)) ?_
      refine vcS_nil ?_
      refine IW.cond rfl (fun hc2 => ?_) (fun hc2 => ?_)
      · replace hc2 := of_decide_eq_true hc2
        have hk8 : k < 8 := by omega
        refine IW.skip ?_
        refine IW.seq ?_
        refine IW.block ?_
        refine IW.reg hE ?_
        refine vcS_val rfl rfl (ox_move (pl rfl)) ?_
        refine vcS_val rfl rfl (ox_move (pl rfl)) ?_
        refine vcS_val rfl rfl (ox_move (pl rfl)) ?_
        refine vcS_val rfl rfl (ox_bin (pl rfl) (pl rfl) (bo_i64_mul (by omega))) ?_
        refine vcS_val rfl rfl (cv_i_6 (56 - 8 * k) (pl rfl) D_3 D_60 rfl (by omega)) ?_
        refine vcS_val rfl rfl (ox_bin (pl rfl) (pl rfl) (shr_nat (56 - 8 * k) (by omega))) ?_
        refine vcS_val rfl rfl (cv_6_8 (pl rfl) D_22 D_5 rfl) ?_
        refine vcS_new rfl rfl (ox_bsl (cs := encs [(shr64 (UInt64.ofNat b.length * 8) (56 - 8 * k)).toUInt8]) D_35 rfl D_5 (Nat.le_of_ble_eq_true rfl) rfl rfl) (.inl (by omega)) ?_
        refine vcS_ups rfl rfl (ox_appOE (α := UInt8) (l1 := py b k) (len2 := b.length + 1 + padZ b.length + 8 + (k + 1)) (pl rfl) (pl rfl) D_35 rfl D_5 rfl rfl (srcArg_1 (α := UInt8) (l := [(shr64 (UInt64.ofNat b.length * 8) (56 - 8 * k)).toUInt8]) D_35 rfl rfl (rdC_1all (hp_eq _ _ _ _) rfl)) rfl (hp_sk (by omega) (hp_eq _ _ _ _)) (by first | rw [pz_length] | rw [py_length _ (by omega)] | rfl) (by simp; try omega) (by simp only [most]; omega) (by decide)) rfl ⟨.inl (by omega), .inl (by omega), trivial⟩ ?_
        refine vcS_val rfl rfl (ox_assign (pl rfl)) ?_
        refine vcS_nil ?_
        refine IW.nilB ?_
        refine IW.reg hE ?_
        refine vcS_val rfl rfl (ox_move (pl rfl)) ?_
        refine vcS_val rfl rfl (ox_bin (pl rfl) (pl rfl) (bo_i64_sub (by omega))) ?_
        refine vcS_val rfl rfl (ox_assign (pl rfl)) ?_
        refine vcS_nil ?_
        refine IW.nilS ?_
        exact ⟨k + 1, _, _, hk8, by omega, rfl, ⟨rfl, ⟨rfl, ⟨(congrArg (fun z => some (Value.int .i64 z)) (by omega)), trivial⟩⟩⟩, rfl, leX_le (leX_cons (by rw [py_succ b hk8]) (leX_none hfree (by exact ⟨by omega, by omega, by omega, trivial⟩))), by omega⟩
      · replace hc2 := of_decide_eq_false hc2
        have h8 : k = 8 := by omega
        subst h8
        rw [py_all hle, show b.length + 1 + padZ b.length + 8 + 8 = padN b.length by omega]
        refine IW.exit ?_
        refine exS (exS ?_)
        refine blkQ_exit ?_
        refine IW.seq ?_
        refine IW.reg hE ?_
        refine vcS_val rfl rfl (ox_move (pl rfl)) ?_
        refine vcS_val rfl rfl (ox_assign (pl rfl)) ?_
        refine vcS_nil ?_
        refine IW.ret ?_
        exact RetP.new1 (.inr rfl) (ires_tmp rfl) (by omega) (hp_eq _ _ _ _) (by rw [← cels_one]; exact u8_plain _)
  · refine IW.reg hE ?_
    refine vcS_new rfl rfl (ox_bs0 D_35 rfl D_5) (.inl (by omega)) ?_
    refine vcS_val rfl rfl (ox_move (pl rfl)) ?_
    refine vcS_new rfl rfl (ox_app1e (α := UInt8) (pl rfl) (pl rfl) D_35 rfl D_5 D_35 rfl rfl (rdC_keep hfree hB (by exact ⟨by omega, trivial⟩)) h0 rfl (hp_eq _ _ _ _) rfl (by simp only [most]; simp; omega) (by decide)) (.inl (by omega)) ?_
    refine vcS_new rfl rfl (ox_bsl (cs := encs [(128 : UInt8)]) D_35 rfl D_5 (Nat.le_of_ble_eq_true rfl) rfl rfl) (.inl (by omega)) ?_
    refine vcS_ups rfl rfl (ox_appOE (α := UInt8) (l1 := b) (len2 := b.length + 1) (pl rfl) (pl rfl) D_35 rfl D_5 rfl rfl (srcArg_1 (α := UInt8) (l := [128]) D_35 rfl rfl (rdC_1all (hp_eq _ _ _ _) rfl)) rfl (hp_sk (by omega) (hp_eq _ _ _ _)) (by first | rw [pz_length] | rw [py_length _ (by omega)] | rfl) (by simp; try omega) (by simp only [most]; omega) (by decide)) rfl ⟨.inl (by omega), .inl (by omega), trivial⟩ ?_
    refine vcS_val rfl rfl (ox_assign (pl rfl)) ?_
    refine vcS_nil ?_
    refine IW.seq ?_
    refine IW.block ?_
    refine IW.loop (S := Nat) (fun s => [(0, .slice xa b.length xc), (3, .slice (some ⟨n + 1 + 1 + 1 + 2 * s, 0, some 1⟩) (b.length + 1 + s) (b.length + 1 + s))]) (fun s => [(n + 1 + 1 + 1 + 2 * s, some (.cells (encs (pz b s)) false))]) (fun s => n + 1 + 1 + 1 + 2 * s + 1) (fun s => s ≤ padZ b.length) (fun s => padZ b.length - s) (0) (Nat.zero_le _) (⟨rfl, ⟨rfl, trivial⟩⟩) (leX_le (leX_cons (by show some (IObj.cells (encs (b ++ [128] ++ [])) false) = _; rw [List.append_nil]) (leX_none hfree (by exact ⟨by omega, by omega, by omega, by omega, trivial⟩)))) (Nat.le_refl _) (fun s hs => ?_)
    refine IW.seq ?_
    refine IW.seq ?_
    refine IW.reg hE ?_
    refine vcS_val rfl rfl (ox_move (pl rfl)) ?_
    refine vcS_val rfl rfl (ox_len (pl rfl) D_35 rfl) ?_
    refine vcS_val rfl rfl (ox_bin (pl rfl) (pl rfl) (bo_i64_rem (b.length + 1 + s) 128 rfl rfl (by decide))) ?_
    refine vcS_val rfl rfl (ox_bin (pl rfl) (pl rfl) (bo_i64_neq _ _)) ?_
    refine vcS_nil ?_
    refine IW.cond rfl (fun hc3 => ?_) (fun hc3 => ?_)
    · have hsz := padZ_on hs hc3
      refine IW.skip ?_
      refine IW.block ?_
      refine IW.reg hE ?_
      refine vcS_val rfl rfl (ox_move (pl rfl)) ?_
      refine vcS_new rfl rfl (ox_bsl (cs := encs [(0 : UInt8)]) D_35 rfl D_5 (Nat.le_of_ble_eq_true rfl) rfl rfl) (.inl (by omega)) ?_
      refine vcS_ups rfl rfl (ox_appOE (α := UInt8) (l1 := pz b s) (len2 := b.length + 1 + (s + 1)) (pl rfl) (pl rfl) D_35 rfl D_5 rfl rfl (srcArg_1 (α := UInt8) (l := [0]) D_35 rfl rfl (rdC_1all (hp_eq _ _ _ _) rfl)) rfl (hp_sk (by omega) (hp_eq _ _ _ _)) (by first | rw [pz_length] | rw [py_length _ (by omega)] | rfl) (by simp; try omega) (by simp only [most]; omega) (by decide)) rfl ⟨.inl (by omega), .inl (by omega), trivial⟩ ?_
      refine vcS_val rfl rfl (ox_assign (pl rfl)) ?_
      refine vcS_nil ?_
      refine IW.nilB ?_
      refine IW.nilS ?_
      exact ⟨s + 1, _, _, hsz, by omega, rfl, ⟨rfl, ⟨rfl, trivial⟩⟩, rfl, leX_le (leX_cons (by rw [pz_succ]) (leX_none hfree (by exact ⟨by omega, by omega, by omega, trivial⟩))), by omega⟩
    · obtain rfl := padZ_off hs hc3
      refine IW.exit ?_
      refine exS (exS ?_)
      refine blkQ_exit ?_
      refine IW.seq ?_
      refine IW.reg hE ?_
      refine vcS_val rfl rfl (ox_move (pl rfl)) ?_
      refine vcS_ups rfl rfl (ox_appOE (α := UInt8) (l1 := pz b (padZ b.length)) (l := List.replicate 8 0) (len2 := b.length + 1 + padZ b.length + 8) (pl rfl) (pl rfl) D_35 rfl D_5 rfl rfl (srcArg_intE 8 (0 : UInt8) D_3 rfl rfl (by decide) (by decide) rfl) rfl (hp_eq _ _ _ _) (pz_length _ _) rfl (by simp only [most]; omega) (by decide)) rfl ⟨.inl (by omega), .inl (by omega), trivial⟩ ?_
      refine vcS_val rfl rfl (ox_assign (pl rfl)) ?_
      refine vcS_nil ?_
      refine IW.seq ?_
      refine IW.reg hE ?_
      refine vcS_val rfl rfl (ox_move (pl rfl)) ?_
      refine vcS_val rfl rfl (ox_len (pl rfl) D_35 rfl) ?_
      refine vcS_val rfl rfl (cv_i_6 b.length (pl rfl) D_3 D_22 rfl rfl) ?_
      refine vcS_val rfl rfl (ox_bin (pl rfl) (pl (v := enc (8 : UInt64)) rfl) (bo_u64_mul _ _)) ?_
      refine vcS_val rfl rfl (ox_assign (pl rfl)) ?_
      refine vcS_nil ?_
      refine IW.seq ?_
      refine IW.seq ?_
      refine IW.reg hE ?_
      refine vcS_val rfl rfl (ox_assign (pl rfl)) ?_
      refine vcS_nil ?_
      refine IW.block ?_
      refine IW.loop (S := Nat) (fun k => [(3, .slice (some ⟨n + 1 + 1 + 1 + 2 * padZ b.length + 1 + 2 * k, 0, some 1⟩) (b.length + 1 + padZ b.length + 8 + k) (b.length + 1 + padZ b.length + 8 + k)), (4, enc (UInt64.ofNat b.length * 8)), (5, .int .i64 (7 - (k : Int)))]) (fun k => [(n + 1 + 1 + 1 + 2 * padZ b.length + 1 + 2 * k, some (.cells (encs (py b k)) false))]) (fun k => n + 1 + 1 + 1 + 2 * padZ b.length + 1 + 2 * k + 1) (fun k => k ≤ 8) (fun k => 8 - k) (0) (Nat.zero_le _) (⟨rfl, ⟨rfl, ⟨rfl, trivial⟩⟩⟩) (leX_le (leX_cons (by show some (IObj.cells (encs (pz b (padZ b.length) ++ List.replicate 8 0 ++ [])) false) = _; rw [List.append_nil]) (leX_none hfree (by exact ⟨by omega, by omega, trivial⟩)))) (Nat.le_refl _) (fun k hk => ?_)
      refine IW.seq ?_
      refine IW.seq ?_
      refine IW.reg hE ?_
      refine vcS_val rfl rfl (ox_move (pl rfl)) ?_
      refine vcS_val rfl rfl (ox_bin (pl rfl) (pl rfl) (bo_i64_geq _ _)) ?_
      refine vcS_nil ?_
      refine IW.cond rfl (fun hc4 => ?_) (fun hc4 => ?_)
      · replace hc4 := of_decide_eq_true hc4
        have hk8 : k < 8 := by omega
        refine IW.skip ?_
        refine IW.seq ?_
        refine IW.block ?_
        refine IW.reg hE ?_
        refine vcS_val rfl rfl (ox_move (pl rfl)) ?_
        refine vcS_val rfl rfl (ox_move (pl rfl)) ?_
        refine vcS_val rfl rfl (ox_move (pl rfl)) ?_
        refine vcS_val rfl rfl (ox_bin (pl rfl) (pl rfl) (bo_i64_mul (by omega))) ?_
        refine vcS_val rfl rfl (cv_i_6 (56 - 8 * k) (pl rfl) D_3 D_60 rfl (by omega)) ?_
        refine vcS_val rfl rfl (ox_bin (pl rfl) (pl rfl) (shr_nat (56 - 8 * k) (by omega))) ?_
        refine vcS_val rfl rfl (cv_6_8 (pl rfl) D_22 D_5 rfl) ?_
        refine vcS_new rfl rfl (ox_bsl (cs := encs [(shr64 (UInt64.ofNat b.length * 8) (56 - 8 * k)).toUInt8]) D_35 rfl D_5 (Nat.le_of_ble_eq_true rfl) rfl rfl) (.inl (by omega)) ?_
        refine vcS_ups rfl rfl (ox_appOE (α := UInt8) (l1 := py b k) (len2 := b.length + 1 + padZ b.length + 8 + (k + 1)) (pl rfl) (pl rfl) D_35 rfl D_5 rfl rfl (srcArg_1 (α := UInt8) (l := [(shr64 (UInt64.ofNat b.length * 8) (56 - 8 * k)).toUInt8]) D_35 rfl rfl (rdC_1all (hp_eq _ _ _ _) rfl)) rfl (hp_sk (by omega) (hp_eq _ _ _ _)) (by first | rw [pz_length] | rw [py_length _ (by omega)] | rfl) (by simp; try omega) (by simp only [most]; omega) (by decide)) rfl ⟨.inl (by omega), .inl (by omega), trivial⟩ ?_
        refine vcS_val rfl rfl (ox_assign (pl rfl)) ?_
        refine vcS_nil ?_
        refine IW.nilB ?_
        refine IW.reg hE ?_
        refine vcS_val rfl rfl (ox_move (pl rfl)) ?_
        refine vcS_val rfl rfl (ox_bin (pl rfl) (pl rfl) (bo_i64_sub (by omega))) ?_
        refine vcS_val rfl rfl (ox_assign (pl rfl)) ?_
        refine vcS_nil ?_
        refine IW.nilS ?_
        exact ⟨k + 1, _, _, hk8, by omega, rfl, ⟨rfl, ⟨rfl, ⟨(congrArg (fun z => some (Value.int .i64 z)) (by omega)), trivial⟩⟩⟩, rfl, leX_le (leX_cons (by rw [py_succ b hk8]) (leX_none hfree (by exact ⟨by omega, by omega, by omega, trivial⟩))), by omega⟩
      · replace hc4 := of_decide_eq_false hc4
        have h8 : k = 8 := by omega
        subst h8
        rw [py_all hle, show b.length + 1 + padZ b.length + 8 + 8 = padN b.length by omega]
        refine IW.exit ?_
        refine exS (exS ?_)
        refine blkQ_exit ?_
        refine IW.seq ?_
        refine IW.reg hE ?_
        refine vcS_val rfl rfl (ox_move (pl rfl)) ?_
        refine vcS_val rfl rfl (ox_assign (pl rfl)) ?_
        refine vcS_nil ?_
        refine IW.ret ?_
        exact RetP.new1 (.inr rfl) (ires_tmp rfl) (by omega) (hp_eq _ _ _ _) (by rw [← cels_one]; exact u8_plain _)
end Go.Proofs.Ytdnnojblneccdaa
/-
  The document's run, join, sums.
-/
namespace Go.Proofs.Ytdnnojblneccdaa
set_option linter.unusedSimpArgs false
set_option linter.unusedVariables false
open Go
open Enc (enc)
set_option maxRecDepth 100000

theorem qnw {n0 : Nat} {ids : List Nat} {m : Nat} {x : Option IObj} (h : m ∉ ids) : ∀ p ∈ ([(m, x)] : Ups), Vis.clear n0 (.ids ids) p.1 := fun p hm => by
  simp only [List.mem_singleton] at hm; subst hm; exact h
noncomputable def F72 : FnI := fun args H n => match args with
  | [x, y] => (dec x).bind fun (s : Vector UInt64 8) => (rdC H y).bind fun (b : List UInt8) => if b.length ≤ 2 ^ 40 then some ⟨enc (allV kL (padL b) s), [], n⟩ else none
  | _ => none
theorem F72_inv {args : List Value} {H : IHeap} {n : Nat} {e : Eff} (h : F72 args H n = some e) : ∃ (s : Vector UInt64 8) (y : Value) (b : List UInt8), args = [enc s, y] ∧ rdC H y = some b ∧ b.length ≤ 2 ^ 40 ∧ e = ⟨enc (allV kL (padL b) s), [], n⟩ := by
  unfold F72 at h; split at h
  · simp only [Option.bind_eq_some_iff] at h
    obtain ⟨s, hs, b, hb, h⟩ := h
    split at h
    · rename_i hl; cases h
      exact ⟨s, _, b, by rw [dec_some hs], hb, hl, rfl⟩
    · cases h
  · cases h
theorem F72_ev {H : IHeap} {n : Nat} {s : Vector UInt64 8} {y : Value} {b : List UInt8} (h : rdC H y = some b) (h1 : b.length ≤ 2 ^ 40) : F72 [enc s, y] H n = some ⟨enc (allV kL (padL b) s), [], n⟩ := by
  simp only [F72, dec_enc, Option.bind_some, h]
  rw [if_pos h1]
theorem F72_to {H : IHeap} {n : Nat} {s v : Vector UInt64 8} {y : Value} {b : List UInt8} (h : rdC H y = some b) (h1 : b.length ≤ 2 ^ 40) (hv : allV kL (padL b) s = v) : F72 [enc s, y] H n = some ⟨enc v, [], n⟩ := by
  subst hv; exact F72_ev h h1
theorem pcs_rd {H : IHeap} {id cp c : Nat} {b : List UInt8} {ro : Bool} (h : H id = some (.cells (encs (padL b)) ro)) (hc : 128 * c + 128 ≤ (padL b).length) (hcp : (padL b).length ≤ cp) {off : Nat} (ho : off = 128 * c) : rdC H (.slice (some ⟨id, off, none⟩) (128 * c + 128 - 128 * c) (cp - 128 * c)) = some (pcs (padL b) c) := by
  subst ho
  have hl : (pcs (padL b) c).length = 128 := by simp [pcs]; omega
  refine rdC_mk (α := UInt8) h ?_ ?_ (by omega)
  · rw [hl]; show 128 * c + 128 * 1 ≤ _; rw [encs_length]; omega
  · rw [cels_one]
    show List.take ((pcs (padL b) c).length * 1) _ = _
    rw [Nat.mul_one, hl]
    simp only [pcs, encs, List.map_take, List.map_drop]
    rw [Nat.mul_comm c 128]
-- headwater/headwaterref02.run ['Vector UInt64 8', 'Sl'] -> ['Vector UInt64 8'], results [[4, 50]]
theorem R72 : Ref Try.prog 72 F72 := by
  refine Ref.of_iw dok Try.func72 rfl (by kernel_rfl) fun args H n e hF => ?_
  obtain ⟨s, y, b, rfl, hB, hle, rfl⟩ := F72_inv hF
  have hpn := padN_ge b.length
  have hpl := padL_length b
  have hdv : padN b.length = 128 * ((padL b).length / 128) := by rw [hpl]; unfold padN; omega
  refine ⟨Nat.le_of_ble_eq_true rfl, ?_⟩
  simp only [idxL]
  have hE : Env Try.prog [(40, F40), (75, F75)] D K := env (fnsOk_cons R40 (fnsOk_cons R75 fnsOk_nil))
  refine IW.seq ?_
  refine IW.free (by simp) (fun hfree => ?_)
  refine IW.reg hE ?_
  refine vcS_new rfl rfl (ox_box (pl rfl) rfl) (.inl (by omega)) ?_
  refine vcS_new rfl rfl (ox_allocZ (cs := encs (Vector.replicate 8 (0 : UInt64)).toList) D_50 rfl) (.inl (by omega)) ?_
  refine vcS_nil ?_
  refine IW.seq ?_
  refine IW.reg hE ?_
  refine vcS_val rfl rfl (ox_move (pl rfl)) ?_
  refine vcS_ups rfl rfl (ox_fn rfl rfl (F40_ev (rdC_keep hfree hB (by exact ⟨by omega, ⟨by omega, trivial⟩⟩)) hle)) rfl ⟨.inl (by omega), trivial⟩ ?_
  refine vcS_val rfl rfl (ox_assign (pl rfl)) ?_
  refine vcS_nil ?_
  refine IW.seq ?_
  refine IW.seq ?_
  refine IW.close (len := padN b.length) (cap := padN b.length) 5 (by simp) rfl (fun cp hcp => ?_)
  refine IW.reg hE ?_
  refine vcS_val rfl rfl (ox_assign (pl rfl)) ?_
  refine vcS_nil ?_
  refine IW.block ?_
  refine IW.loop (S := Nat) (fun c => [(2, .pointer (some ⟨n, 0, none⟩)), (4, .pointer (some ⟨n + 1, 0, none⟩)), (5, .slice (some ⟨n + 1 + 1, 0, none⟩) (padN b.length) cp), (6, .int .i64 ((128 * c : Nat) : Int))]) (fun c => [(n, some (.cells (encs (foldN kL (padL b) s c).toList) false)), (n + 1 + 1, some (.cells (encs (padL b)) false)), (n + 1, some (.cells (encs (Vector.replicate 8 (0 : UInt64)).toList) false))]) (fun c => n + 1 + 1 + 1) (fun c => c ≤ (padL b).length / 128) (fun c => (padL b).length / 128 - c) (0) (Nat.zero_le _) (⟨rfl, ⟨rfl, ⟨rfl, ⟨rfl, trivial⟩⟩⟩⟩) (leX_le (leX_same (hp_sk (by omega) (hp_sk (by omega) (hp_eq _ _ _ _))) rfl (leX_same (hp_eq _ _ _ _) rfl (leX_same (hp_sk (by omega) (hp_eq _ _ _ _)) rfl (leX_none hfree (by exact ⟨by omega, ⟨by omega, ⟨by omega, trivial⟩⟩⟩)))))) (Nat.le_refl _) (fun c hc => ?_)
  refine IW.seq ?_
  refine IW.seq ?_
  refine IW.reg hE ?_
  refine vcS_val rfl rfl (ox_move (pl rfl)) ?_
  refine vcS_val rfl rfl (ox_move (pl rfl)) ?_
  refine vcS_val rfl rfl (ox_len (pl rfl) D_35 rfl) ?_
  refine vcS_val rfl rfl (ox_bin (pl rfl) (pl rfl) (bo_i64_lss _ _)) ?_
  refine vcS_nil ?_
  refine IW.cond rfl (fun hc1 => ?_) (fun hc1 => ?_)
  · replace hc1 := of_decide_eq_true hc1
    have hcc : 128 * c + 128 ≤ (padL b).length := by omega
    refine IW.skip ?_
    refine IW.seq ?_
    refine IW.block ?_
    refine IW.drw hE mixed [[],[],[],[],[3],[1,2,3,4],[0,1,2,3,4,5],[0,1,2,3,4,5,6]] (by kernel_rfl) (vcE_start ?_)
    refine vcE_val rfl rfl rfl rfl (ox_load (pl rfl) D_50 (hp_eq _ _ _ _) (rd_all rfl (encs_vec_length _))) rfl (si_load (pl rfl)) (lt1 (by omega)) (trivial) ?_
    refine vcE_bl rfl rfl (fun _ => ox_move (pl rfl)) rfl rfl ?_
    refine vcE_bl rfl rfl (fun _ => ox_move (pl rfl)) rfl rfl ?_
    refine vcE_bl rfl rfl (fun _ => ox_move (pl rfl)) rfl rfl ?_
    refine vcE_bl rfl rfl (fun _ => ox_bin (pl rfl) (pl rfl) (bo_i64_add (by omega))) rfl rfl ?_
    refine vcE_bl rfl rfl (fun _ => ox_slK (l := 128 * c) (h := 128 * c + 128) (pl rfl) D_35 rfl D_5 (bndI (pl rfl) rfl) (bndI (pl rfl) rfl) (by omega) (by omega) (by omega)) rfl rfl ?_
    refine vcE_call rfl rfl rfl rfl (ox_fn rfl rfl (F75_ev (pl := pcs (padL b) c) (pcs_rd (id := n + 1 + 1) (cp := cp) (hp_sk (by omega) (hp_eq _ _ _ _)) hcc (by omega) (by show 0 + _ * 1 = _; omega)) (by simp [pcs]; omega))) rfl ltu0 (trivial) ?_
    refine vcE_sto rfl rfl rfl rfl (ox_store (pl rfl) (pl rfl) D_50 (hp_eq _ _ _ _) rfl (encs_vec_length _) (le_vec _ rfl) (encs_known _) (wr_all (by simp only [encs_vec_length]))) rfl (si_store (pl rfl)) (is_some (hp_eq _ _ _ _)) (by omega) (.inl (by omega)) (trivial) (⟨trivial, ⟨trivial, trivial⟩⟩) ?_
    refine vcE_nil ?_
    refine IW.nilB ?_
    refine IW.reg hE ?_
    refine vcS_val rfl rfl (ox_move (pl rfl)) ?_
    refine vcS_val rfl rfl (ox_bin (pl rfl) (pl rfl) (bo_i64_add (by omega))) ?_
    refine vcS_val rfl rfl (ox_assign (pl rfl)) ?_
    refine vcS_nil ?_
    refine IW.nilS ?_
    exact ⟨c + 1, _, _, by omega, by omega, rfl, ⟨rfl, ⟨rfl, ⟨rfl, ⟨(congrArg (fun z => some (Value.int .i64 z)) (by omega)), trivial⟩⟩⟩⟩, rfl, leX_le (leX_same (hp_eq _ _ _ _) rfl (leX_same (hp_sk (by omega) (hp_sk (by omega) (hp_eq _ _ _ _))) rfl (leX_same (hp_sk (by omega) (hp_sk (by omega) (hp_sk (by omega) (hp_eq _ _ _ _)))) rfl (leX_none hfree (by exact ⟨by omega, ⟨by omega, ⟨by omega, ⟨by omega, trivial⟩⟩⟩⟩))))), Nat.le_refl _⟩
  · replace hc1 := of_decide_eq_false hc1
    have hce : c = (padL b).length / 128 := by omega
    subst hce
    rw [← allV_fold]
    refine IW.exit ?_
    refine exS (exS ?_)
    refine blkQ_exit ?_
    refine IW.seq ?_
    refine IW.reg hE ?_
    refine vcS_val rfl rfl (ox_load (pl rfl) D_50 (hp_eq _ _ _ _) (rd_all rfl (encs_vec_length _))) ?_
    refine vcS_sto rfl rfl (ox_store (pl rfl) (pl rfl) D_50 (hp_sk (by omega) (hp_sk (by omega) (hp_eq _ _ _ _))) rfl (encs_vec_length _) (le_vec _ rfl) (encs_known _) (wr_all (by simp only [encs_vec_length]))) (.inl (by omega)) ?_
    refine vcS_nil ?_
    refine IW.ret ?_
    exact RetP.pure (.inr rfl) (ires_cell rfl D_50 (hp_eq _ _ _ _) (rd_all rfl (encs_vec_length _))) (okV64 _) (by omega)
noncomputable def F46 : FnI := fn0 (enc shortV)
-- headwater/headwaterref02.StartShort [] -> ['Vector UInt64 8'], results [[0, 50]]
theorem R46 : Ref Try.prog 46 F46 := by
  refine Ref.of_iw dok Try.func46 rfl (by kernel_rfl) fun args H n e hF => ?_
  obtain ⟨rfl, rfl⟩ := fn0_inv hF
  refine ⟨Nat.le_of_ble_eq_true rfl, ?_⟩
  simp only [idxL]
  have hE : Env Try.prog [(44, F44), (72, F72)] D K := env (fnsOk_cons R44 (fnsOk_cons R72 fnsOk_nil))
  refine IW.seq ?_
  refine IW.reg hE ?_
  refine vcS_new rfl rfl (ox_allocZ (cs := encs (Vector.replicate 8 (0 : UInt64)).toList) D_50 rfl) (.inl (by omega)) ?_
  refine vcS_nil ?_
  refine IW.seq ?_
  refine IW.reg hE ?_
  refine vcS_val rfl rfl (ox_fn rfl rfl (fn0_ev _ _ _)) ?_
  refine vcS_new rfl rfl (ox_allocZ (cs := encs (Vector.replicate 8 (0 : UInt64)).toList) D_50 rfl) (.inl (by omega)) ?_
  refine vcS_sto rfl rfl (ox_store (pl rfl) (pl rfl) D_50 (hp_eq _ _ _ _) rfl (encs_vec_length _) (le_vec _ rfl) (encs_known _) (wr_all (by simp only [encs_vec_length]))) (.inl (by omega)) ?_
  refine vcS_nil ?_
  refine IW.seq ?_
  refine IW.seq ?_
  refine IW.reg hE ?_
  refine vcS_val rfl rfl (ox_assign (pl rfl)) ?_
  refine vcS_nil ?_
  refine IW.block ?_
  refine IW.loop (S := Nat) (fun i => [(0, .pointer (some ⟨n, 0, none⟩)), (1, .pointer (some ⟨n + 1, 0, none⟩)), (2, .int .i64 i)]) (fun i => [(n + 1, some (.cells (encs (xo i)) false)), (n, some (.cells (encs (Vector.replicate 8 (0 : UInt64)).toList) false))]) (fun i => n + 1 + 1) (fun i => i ≤ 8) (fun i => 8 - i) (0) (by simp) (⟨rfl, ⟨rfl, ⟨rfl, trivial⟩⟩⟩) (leX_le (leX_cons rfl (leX_old (by simp) leX_refl))) (Nat.le_refl _) (fun i hi => ?_)
  refine IW.seq ?_
  refine IW.seq ?_
  refine IW.reg hE ?_
  refine vcS_val rfl rfl (ox_move (pl rfl)) ?_
  refine vcS_val rfl rfl (ox_bin (pl rfl) (pl rfl) (bo_i64_lss _ _)) ?_
  refine vcS_nil ?_
  refine IW.cond rfl (fun hc1 => ?_) (fun hc1 => ?_)
  · replace hc1 := of_decide_eq_true hc1
    refine IW.skip ?_
    refine IW.seq ?_
    refine IW.block ?_
    refine IW.reg hE ?_
    refine vcS_val rfl rfl (ox_move (pl rfl)) ?_
    refine vcS_val rfl rfl (ox_move (pl rfl)) ?_
    refine vcS_val rfl rfl (ox_iaA (pl rfl) (pl rfl) D_50 rfl D_22 (by omega) (by omega)) ?_
    refine vcS_val rfl rfl (ox_load (pl rfl) D_22 (hp_eq _ _ _ _) (rd_ix (i) (0 : UInt64) rfl (by simp) (by rw [xo_length]; omega))) ?_
    refine vcS_val rfl rfl (ox_bin (pl rfl) (pl (v := enc (11936128518282651045 : UInt64)) rfl) (bo_u64_xor _ _)) ?_
    refine vcS_val rfl rfl (ox_iaA (pl rfl) (pl rfl) D_50 rfl D_22 (by omega) (by omega)) ?_
    refine vcS_sto rfl rfl (ox_store (pl rfl) (pl rfl) D_22 (hp_eq _ _ _ _) rfl rfl (by rw [encs_length]; have := (show i < (xo i).length by rw [xo_length]; omega); first | (simp; omega) | (simp at this ⊢; omega)) rfl (wr_ix (i) (by simp) _)) (.inl (by omega)) ?_
    refine vcS_nil ?_
    refine IW.nilB ?_
    refine IW.reg hE ?_
    refine vcS_val rfl rfl (ox_move (pl rfl)) ?_
    refine vcS_val rfl rfl (ox_bin (pl rfl) (pl rfl) (bo_i64_add (by omega))) ?_
    refine vcS_val rfl rfl (ox_assign (pl rfl)) ?_
    refine vcS_nil ?_
    refine IW.nilS ?_
    exact ⟨i + 1, _, _, by omega, by omega, rfl, ⟨rfl, ⟨rfl, ⟨rfl, trivial⟩⟩⟩, rfl, leX_le (leX_cons rfl (leX_old (by simp) leX_refl)), Nat.le_refl _⟩
  · replace hc1 := of_decide_eq_false hc1
    have h8 : i = 8 := by omega
    subst h8
    rw [xo_all]
    refine IW.exit ?_
    refine exS (exS ?_)
    refine blkQ_exit ?_
    refine IW.seq ?_
    refine IW.reg hE ?_
    refine vcS_val rfl rfl (ox_load (pl rfl) D_50 (hp_eq _ _ _ _) (rd_all rfl (encs_vec_length fromV))) ?_
    refine vcS_new rfl rfl (ox_bsl (cs := encs [(83 : UInt8), 72, 65, 45, 53, 49, 50, 47, 50, 53, 54]) D_35 rfl D_5 (Nat.le_of_ble_eq_true rfl) rfl (by kernel_rfl)) (.inl (by omega)) ?_
    refine vcS_ups rfl rfl (ox_cvSl (pl rfl) D_35 rfl D_5 rfl (hp_eq _ _ _ _)) rfl ⟨.inl (by omega), trivial⟩ ?_
    refine vcS_val rfl rfl (ox_fn rfl rfl (F72_to (rdC_1all (l := [83, 72, 65, 45, 53, 49, 50, 47, 50, 53, 54]) (hp_eq _ _ _ _) rfl) (by decide) short_run)) ?_
    refine vcS_sto rfl rfl (ox_store (pl rfl) (pl rfl) D_50 (hp_sk (by omega) (hp_sk (by omega) (hp_sk (by omega) (hp_eq _ _ _ _)))) rfl (encs_vec_length _) (le_vec _ rfl) (encs_known _) (wr_all (by simp only [encs_vec_length]))) (.inl (by omega)) ?_
    refine vcS_nil ?_
    refine IW.ret ?_
    exact RetP.pure (.inr rfl) (ires_cell rfl D_50 (hp_eq _ _ _ _) (rd_all rfl (encs_vec_length _))) (okV64 _) (by omega)
noncomputable def F73 : FnI := concF UInt8 1
def jv (n : Nat) (l : List UInt8) : Option Nat → Value
  | none => .slice none 0 0
  | some k => .slice (some ⟨n + k, 0, some 1⟩) l.length l.length
def jM (n : Nat) (l : List UInt8) : Option Nat → Ups
  | none => []
  | some k => [(n + k, some (.cells (cels l) false))]
def jn (n : Nat) : Option Nat → Nat
  | none => n
  | some k => n + k + 1
theorem js3 (k : Option Nat) (x : List UInt8) : (k = none ∧ x = []) ∨ (k = none ∧ x ≠ []) ∨ (∃ j, k = some j) := by
  cases k with
  | none => by_cases h : x = []
            · exact .inl ⟨rfl, h⟩
            · exact .inr (.inl ⟨rfl, h⟩)
  | some j => exact .inr (.inr ⟨j, rfl⟩)
-- headwater/headwaterref02.join ['Sl'] -> ['Sl'], results [2]
theorem R73 : Ref Try.prog 73 F73 := by
  refine Ref.of_iw dok Try.func73 rfl (by kernel_rfl) fun args H n e hF => ?_
  obtain ⟨xa, xc, S, ls, rfl, hS, hls, hle, hto, rfl⟩ := concF_inv hF
  have hlen := (rdL_get hls).1
  have htt : ls.flatten.length ≤ 2 ^ 47 := by simp only [most] at hto; omega
  refine ⟨Nat.le_of_ble_eq_true rfl, ?_⟩
  simp only [idxL]
  have hE : Env Try.prog [] D K := env fnsOk_nil
  refine IW.seq ?_
  refine IW.free (by simp) (fun hfree => ?_)
  refine IW.reg hE ?_
  refine vcS_val rfl rfl (ox_assign (pl rfl)) ?_
  refine vcS_nil ?_
  refine IW.seq ?_
  refine IW.reg hE ?_
  refine vcS_val rfl rfl (ox_assign (pl rfl)) ?_
  refine vcS_nil ?_
  refine IW.seq ?_
  refine IW.seq ?_
  refine IW.reg hE ?_
  refine vcS_val rfl rfl (ox_assign (pl rfl)) ?_
  refine vcS_nil ?_
  refine IW.block ?_
  refine IW.loop (S := Nat × Option Nat) (fun q => [(0, .slice xa S.length xc), (2, .slice none 0 0), (3, jv n (firsts ls q.1) q.2), (4, .int .i64 q.1)]) (fun q => jM n (firsts ls q.1) q.2) (fun q => jn n q.2) (fun q => q.1 ≤ S.length ∧ (q.2 = none → firsts ls q.1 = []) ∧ (q.2 ≠ none → firsts ls q.1 ≠ [])) (fun q => S.length - q.1) ((0, none)) (⟨Nat.zero_le _, fun _ => rfl, fun h => absurd rfl h⟩) (⟨rfl, ⟨rfl, ⟨rfl, ⟨rfl, trivial⟩⟩⟩⟩) (fun _ _ h => h) (Nat.le_refl _) (fun q hq => ?_)
  obtain ⟨s, k⟩ := q
  dsimp only at hq ⊢
  obtain ⟨hs1, hs2, hs3⟩ := hq
  refine IW.seq ?_
  refine IW.seq ?_
  refine IW.reg hE ?_
  refine vcS_val rfl rfl (ox_move (pl rfl)) ?_
  refine vcS_val rfl rfl (ox_move (pl rfl)) ?_
  refine vcS_val rfl rfl (ox_len (pl rfl) D_94 rfl) ?_
  refine vcS_val rfl rfl (ox_bin (pl rfl) (pl rfl) (bo_i64_lss _ _)) ?_
  refine vcS_nil ?_
  refine IW.cond rfl (fun hc1 => ?_) (fun hc1 => ?_)
  · replace hc1 := of_decide_eq_true hc1
    have hc : s < S.length := by omega
    obtain ⟨i1, o1, p1, c1, r1, e1, m1, l1⟩ := rdC_at hS hc
    subst e1
    obtain ⟨sa, sc, hi, es, hr⟩ := rdL_at hls hc
    have hfb := firsts_le hi
    have hi1 : i1 < n := rdC_free hfree hS i1 o1 p1 _ _ rfl
    have hf0 := firsts_succ hi
    refine IW.skip ?_
    refine IW.seq ?_
    refine IW.block ?_
    rcases js3 k ls[s] with ⟨rfl, hx⟩ | ⟨rfl, hx⟩ | ⟨j, rfl⟩
    · have hfs : firsts ls (s + 1) = firsts ls s := by rw [hf0, hx, List.append_nil]
      dsimp only [jv, jM, jn]
      refine IW.reg hE ?_
      refine vcS_val rfl rfl (ox_move (pl rfl)) ?_
      refine vcS_val rfl rfl (ox_move (pl rfl)) ?_
      refine vcS_val rfl rfl (ox_move (pl rfl)) ?_
      refine vcS_val rfl rfl (ox_iaS (pl rfl) (pl rfl) D_94 rfl D_35 (by omega) (by omega)) ?_
      refine vcS_val rfl rfl (ox_load (pl rfl) D_35 m1 (rd_hdr l1 hc es rfl rfl)) ?_
      refine vcS_val rfl rfl (ox_app0 (α := UInt8) (pl rfl) (pl rfl) D_35 rfl D_5 D_35 rfl rfl (rdC_nilE hx hr) rfl (Nat.le_refl _)) ?_
      refine vcS_val rfl rfl (ox_assign (pl rfl)) ?_
      refine vcS_nil ?_
      refine IW.nilB ?_
      refine IW.reg hE ?_
      refine vcS_val rfl rfl (ox_move (pl rfl)) ?_
      refine vcS_val rfl rfl (ox_bin (pl rfl) (pl rfl) (bo_i64_add (by omega))) ?_
      refine vcS_val rfl rfl (ox_assign (pl rfl)) ?_
      refine vcS_nil ?_
      refine IW.nilS ?_
      exact ⟨(s + 1, none), _, _, ⟨by first | omega | (dsimp only; omega), fun _ => (show firsts ls (s + 1) = [] by rw [hfs, hs2 rfl]), fun h => absurd rfl h⟩, by first | omega | (dsimp only; omega), rfl, ⟨rfl, ⟨rfl, ⟨(by first | rfl | exact congrArg (fun l => some (jv n l (some 0))) hfs.symm | (refine Eq.trans ?_ (congrArg (fun l => some (jv n l (some (j + 1)))) hfs.symm); simp only [jv, List.length_append]; rfl)), ⟨rfl, trivial⟩⟩⟩⟩, rfl, fun _ _ h => h, Nat.le_refl _⟩
    · have hfs : firsts ls (s + 1) = ls[s] := by rw [hf0, hs2 rfl, List.nil_append]
      dsimp only [jv, jM, jn]
      refine IW.reg hE ?_
      refine vcS_val rfl rfl (ox_move (pl rfl)) ?_
      refine vcS_val rfl rfl (ox_move (pl rfl)) ?_
      refine vcS_val rfl rfl (ox_move (pl rfl)) ?_
      refine vcS_val rfl rfl (ox_iaS (pl rfl) (pl rfl) D_94 rfl D_35 (by omega) (by omega)) ?_
      refine vcS_val rfl rfl (ox_load (pl rfl) D_35 m1 (rd_hdr l1 hc es rfl rfl)) ?_
      refine vcS_new rfl rfl (ox_app1 (α := UInt8) (pl rfl) (pl rfl) D_35 rfl D_5 D_35 rfl rfl hr hx rfl (fun b e => by cases e) (by simp only [most]; omega) (by decide)) (.inl (by omega)) ?_
      refine vcS_val rfl rfl (ox_assign (pl rfl)) ?_
      refine vcS_nil ?_
      refine IW.nilB ?_
      refine IW.reg hE ?_
      refine vcS_val rfl rfl (ox_move (pl rfl)) ?_
      refine vcS_val rfl rfl (ox_bin (pl rfl) (pl rfl) (bo_i64_add (by omega))) ?_
      refine vcS_val rfl rfl (ox_assign (pl rfl)) ?_
      refine vcS_nil ?_
      refine IW.nilS ?_
      exact ⟨(s + 1, some 0), _, _, ⟨by first | omega | (dsimp only; omega), (fun h => nomatch h), fun _ => (show firsts ls (s + 1) ≠ [] by rw [hfs]; exact hx)⟩, by first | omega | (dsimp only; omega), rfl, ⟨rfl, ⟨rfl, ⟨(by first | rfl | exact congrArg (fun l => some (jv n l (some 0))) hfs.symm | (refine Eq.trans ?_ (congrArg (fun l => some (jv n l (some (j + 1)))) hfs.symm); simp only [jv, List.length_append]; rfl)), ⟨rfl, trivial⟩⟩⟩⟩, rfl, leX_le (leX_cons (by rw [hfs]) leX_refl), Nat.le_refl _⟩
    · have hfs : firsts ls (s + 1) = firsts ls s ++ ls[s] := hf0
      dsimp only [jv, jM, jn]
      refine IW.reg hE ?_
      refine vcS_val rfl rfl (ox_move (pl rfl)) ?_
      refine vcS_val rfl rfl (ox_move (pl rfl)) ?_
      refine vcS_val rfl rfl (ox_move (pl rfl)) ?_
      refine vcS_val rfl rfl (ox_iaS (pl rfl) (pl rfl) D_94 rfl D_35 (by omega) (by omega)) ?_
      refine vcS_val rfl rfl (ox_load (pl rfl) D_35 (hp_sk (by omega) m1) (rd_hdr l1 hc es rfl rfl)) ?_
      refine vcS_ups rfl rfl (ox_appO (α := UInt8) (l1 := firsts ls s) (pl rfl) (pl rfl) D_35 rfl D_5 D_35 rfl rfl rfl (hp_eq _ _ _ _) rfl (by rw [cels_length]; exact Nat.le_refl _) (List.take_of_length_le (by rw [cels_length]; exact Nat.le_refl _)) (rdC_hp hr (rdC_free hfree hr) (by omega)) (by simp only [most]; omega) (by decide)) rfl ⟨.inl (by omega), .inl (by omega), trivial⟩ ?_
      refine vcS_val rfl rfl (ox_assign (pl rfl)) ?_
      refine vcS_nil ?_
      refine IW.nilB ?_
      refine IW.reg hE ?_
      refine vcS_val rfl rfl (ox_move (pl rfl)) ?_
      refine vcS_val rfl rfl (ox_bin (pl rfl) (pl rfl) (bo_i64_add (by omega))) ?_
      refine vcS_val rfl rfl (ox_assign (pl rfl)) ?_
      refine vcS_nil ?_
      refine IW.nilS ?_
      exact ⟨(s + 1, some (j + 1)), _, _, ⟨by first | omega | (dsimp only; omega), (fun h => nomatch h), fun _ => (show firsts ls (s + 1) ≠ [] by rw [hfs]; exact fun e => hs3 (by simp) (List.append_eq_nil_iff.1 e).1)⟩, by first | omega | (dsimp only; omega), rfl, ⟨rfl, ⟨rfl, ⟨(by first | rfl | exact congrArg (fun l => some (jv n l (some 0))) hfs.symm | (refine Eq.trans ?_ (congrArg (fun l => some (jv n l (some (j + 1)))) hfs.symm); simp only [jv, List.length_append]; rfl)), ⟨rfl, trivial⟩⟩⟩⟩, rfl, leX_le (leX_cons (by rw [hfs]) (leX_none hfree (by exact ⟨by omega, by omega, trivial⟩))), Nat.le_refl _⟩
  · replace hc1 := of_decide_eq_false hc1
    refine IW.exit ?_
    refine exS (exS ?_)
    refine blkQ_exit ?_
    refine IW.seq ?_
    refine IW.reg hE ?_
    refine vcS_val rfl rfl (ox_move (pl rfl)) ?_
    refine vcS_val rfl rfl (ox_assign (pl rfl)) ?_
    refine vcS_nil ?_
    refine IW.ret ?_
    have hsa : firsts ls s = ls.flatten := firsts_all (by omega)
    rcases k with _ | k
    · rw [concE_zero (by rw [← hsa, hs2 rfl]; rfl)]; exact RetP.ret (.inr rfl) rfl rfl trivial rfl
    · rw [concE_pos (fun e => hs3 (by simp) (by rw [hsa]; exact List.length_eq_zero_iff.1 e))]; exact RetP.new1 (.inr rfl) ((ires_tmp rfl).trans (by rw [hsa]; rfl)) (Nat.le_add_right _ _) ((hp_eq _ _ _ _).trans (by rw [hsa])) (u8_plain _)
theorem nil_rd {H : IHeap} {l : List UInt8} (h : l.length = 0) : rdC H (.slice none 0 0) = some l := by
  rw [List.length_eq_zero_iff.1 h]; rfl
noncomputable def F37 : FnI := sumF fun b => enc (sumV startV b)
-- headwater/headwaterref02.Sum512 ['Sl'] -> ['Vector UInt8 64'], results [[2, 26]]
theorem R37 : Ref Try.prog 37 F37 := by
  refine Ref.of_iw dok Try.func37 rfl (by kernel_rfl) fun args H n e hF => ?_
  obtain ⟨x, S, ls, rfl, hS, hls, hle, hto, rfl⟩ := sumF_inv hF
  refine ⟨Nat.le_of_ble_eq_true rfl, ?_⟩
  simp only [idxL]
  have hE : Env Try.prog [(44, F44), (71, F71), (72, F72), (73, F73)] D K := env (fnsOk_cons R44 (fnsOk_cons R71 (fnsOk_cons R72 (fnsOk_cons R73 fnsOk_nil))))
  refine IW.seq ?_
  refine IW.free (by simp) (fun hfree => ?_)
  refine IW.reg hE ?_
  refine vcS_new rfl rfl (ox_allocZ (cs := encs (Vector.replicate 64 (0 : UInt8)).toList) D_26 rfl) (.inl (by omega)) ?_
  refine vcS_nil ?_
  refine IW.seq ?_
  by_cases h0 : ls.flatten.length = 0
  · refine IW.reg hE ?_
    refine vcS_val rfl rfl (ox_fn rfl rfl (fn0_ev _ _ _)) ?_
    refine vcS_val rfl rfl (ox_move (pl rfl)) ?_
    refine vcS_ups rfl rfl (ox_fn rfl rfl (concE_zero' (l := []) (rdC_keep hfree hS (by exact ⟨by omega, trivial⟩)) (rdL_keep hfree (by exact ⟨by omega, trivial⟩) hls) hle (by simp only [most]; omega) h0)) rfl trivial ?_
    refine vcS_val rfl rfl (ox_fn rfl rfl (F72_ev (b := ls.flatten) (nil_rd h0) hto)) ?_
    refine vcS_val rfl rfl (ox_fn rfl rfl (fn1_ev _ _ _ _)) ?_
    refine vcS_sto rfl rfl (ox_store (pl rfl) (pl rfl) D_26 (hp_eq _ _ _ _) rfl (encs_vec_length _) (le_vec _ rfl) (encs_known _) (wr_all (by simp only [encs_vec_length]))) (.inl (by omega)) ?_
    refine vcS_nil ?_
    refine IW.ret ?_
    exact RetP.pure (.inr rfl) (ires_cell rfl D_26 (hp_eq _ _ _ _) (rd_all rfl (encs_vec_length (sumV startV ls.flatten)))) (okV8 _) (by omega)
  · refine IW.reg hE ?_
    refine vcS_val rfl rfl (ox_fn rfl rfl (fn0_ev _ _ _)) ?_
    refine vcS_val rfl rfl (ox_move (pl rfl)) ?_
    refine vcS_ups rfl rfl (ox_fn rfl rfl (concE_pos' (l := []) (rdC_keep hfree hS (by exact ⟨by omega, trivial⟩)) (rdL_keep hfree (by exact ⟨by omega, trivial⟩) hls) hle (by simp only [most]; omega) h0)) rfl ⟨.inl (by omega), trivial⟩ ?_
    refine vcS_val rfl rfl (ox_fn rfl rfl (F72_ev (b := ls.flatten) (rdC_all (hp_eq _ _ _ _) rfl) hto)) ?_
    refine vcS_val rfl rfl (ox_fn rfl rfl (fn1_ev _ _ _ _)) ?_
    refine vcS_sto rfl rfl (ox_store (pl rfl) (pl rfl) D_26 (hp_sk (by omega) (hp_eq _ _ _ _)) rfl (encs_vec_length _) (le_vec _ rfl) (encs_known _) (wr_all (by simp only [encs_vec_length]))) (.inl (by omega)) ?_
    refine vcS_nil ?_
    refine IW.ret ?_
    exact RetP.pure (.inr rfl) (ires_cell rfl D_26 (hp_eq _ _ _ _) (rd_all rfl (encs_vec_length (sumV startV ls.flatten)))) (okV8 _) (by omega)
theorem dig_splice (v : Vector UInt8 64) : splice (encs (Vector.replicate 32 (0 : UInt8)).toList) 0 ((encs (v.toList.take 32)).take (32 * 1)) = encs (digOf v).toList := by
  have hl : (digOf v).toList = v.toList.take 32 := by simp [digOf]
  rw [← hl, List.take_of_length_le (by rw [encs_vec_length]; exact Nat.le_refl _)]
  unfold splice
  rw [List.take_zero, List.nil_append, List.drop_of_length_le (by rw [encs_vec_length, encs_vec_length]; exact Nat.le_refl _), List.append_nil]
noncomputable def F39 : FnI := sumF fun b => enc (digV b)
-- headwater/headwaterref02.Sum ['Sl'] -> ['Vector UInt8 32'], results [[2, 24]]
theorem R39 : Ref Try.prog 39 F39 := by
  refine Ref.of_iw dok Try.func39 rfl (by kernel_rfl) fun args H n e hF => ?_
  obtain ⟨x, S, ls, rfl, hS, hls, hle, hto, rfl⟩ := sumF_inv hF
  refine ⟨Nat.le_of_ble_eq_true rfl, ?_⟩
  simp only [idxL]
  have hE : Env Try.prog [(46, F46), (71, F71), (72, F72), (73, F73)] D K := env (fnsOk_cons R46 (fnsOk_cons R71 (fnsOk_cons R72 (fnsOk_cons R73 fnsOk_nil))))
  refine IW.seq ?_
  refine IW.free (by simp) (fun hfree => ?_)
  refine IW.reg hE ?_
  refine vcS_new rfl rfl (ox_allocZ (cs := encs (Vector.replicate 32 (0 : UInt8)).toList) D_24 rfl) (.inl (by omega)) ?_
  refine vcS_nil ?_
  refine IW.seq ?_
  by_cases h0 : ls.flatten.length = 0
  · refine IW.reg hE ?_
    refine vcS_val rfl rfl (ox_fn rfl rfl (fn0_ev _ _ _)) ?_
    refine vcS_val rfl rfl (ox_move (pl rfl)) ?_
    refine vcS_ups rfl rfl (ox_fn rfl rfl (concE_zero' (l := []) (rdC_keep hfree hS (by exact ⟨by omega, trivial⟩)) (rdL_keep hfree (by exact ⟨by omega, trivial⟩) hls) hle (by simp only [most]; omega) h0)) rfl trivial ?_
    refine vcS_val rfl rfl (ox_fn rfl rfl (F72_ev (b := ls.flatten) (nil_rd h0) hto)) ?_
    refine vcS_val rfl rfl (ox_fn rfl rfl (fn1_ev _ _ _ _)) ?_
    refine vcS_new rfl rfl (ox_allocZ (cs := encs (Vector.replicate 64 (0 : UInt8)).toList) D_26 rfl) (.inl (by omega)) ?_
    refine vcS_sto rfl rfl (ox_store (pl rfl) (pl rfl) D_26 (hp_eq _ _ _ _) rfl (encs_vec_length _) (le_vec _ rfl) (encs_known _) (wr_all (by simp only [encs_vec_length]))) (.inl (by omega)) ?_
    refine vcS_nil ?_
    refine IW.seq ?_
    refine IW.reg hE ?_
    refine vcS_new rfl rfl (ox_allocZ (cs := encs (Vector.replicate 32 (0 : UInt8)).toList) D_24 rfl) (.inl (by omega)) ?_
    refine vcS_nil ?_
    refine IW.seq ?_
    refine IW.drw hE mixed [[],[],[0,1]] (by kernel_rfl) (vcE_start ?_)
    refine vcE_bl rfl rfl (fun _ => ox_slAll (pl rfl) D_24 rfl D_5) rfl rfl ?_
    refine vcE_bl rfl rfl (fun _ => ox_slAH (pl rfl) D_26 rfl D_5 (bndI (pl rfl) rfl) (by first | omega | decide)) rfl rfl ?_
    refine vcE_wr (ids := [n + 1 + 1, n + 1]) rfl rfl rfl rfl (ox_copyE (α := UInt8) (l := (sumV shortV ls.flatten).toList.take 32) (m := 32) (pl rfl) (pl rfl) D_35 rfl D_5 rfl (rdC_sl0 (len := 64) (rdC_1all (hp_sk (by omega) (hp_eq _ _ _ _)) (by simp)) (by decide)) (by simp) (hp_eq _ _ _ _) (by show 0 + 32 * 1 ≤ _; rw [encs_vec_length]; decide) (dig_splice _)) rfl rfl (by simp) (is_some (hp_eq _ _ _ _)) (by simp) (.inl (by omega)) (trivial) trivial ?_
    refine vcE_nil ?_
    refine IW.seq ?_
    refine IW.reg hE ?_
    refine vcS_val rfl rfl (ox_load (pl rfl) D_24 (hp_eq _ _ _ _) (rd_all rfl (encs_vec_length _))) ?_
    refine vcS_sto rfl rfl (ox_store (pl rfl) (pl rfl) D_24 (hp_sk (by omega) (hp_sk (by omega) (hp_sk (by omega) (hp_sk (by omega) (hp_eq _ _ _ _))))) rfl (encs_vec_length _) (le_vec _ rfl) (encs_known _) (wr_all (by simp only [encs_vec_length]))) (.inl (by omega)) ?_
    refine vcS_nil ?_
    refine IW.ret ?_
    exact RetP.pure (.inr rfl) (ires_cell rfl D_24 (hp_eq _ _ _ _) (rd_all rfl (encs_vec_length (digOf (sumV shortV ls.flatten))))) (okV8 _) (by omega)
  · refine IW.reg hE ?_
    refine vcS_val rfl rfl (ox_fn rfl rfl (fn0_ev _ _ _)) ?_
    refine vcS_val rfl rfl (ox_move (pl rfl)) ?_
    refine vcS_ups rfl rfl (ox_fn rfl rfl (concE_pos' (l := []) (rdC_keep hfree hS (by exact ⟨by omega, trivial⟩)) (rdL_keep hfree (by exact ⟨by omega, trivial⟩) hls) hle (by simp only [most]; omega) h0)) rfl ⟨.inl (by omega), trivial⟩ ?_
    refine vcS_val rfl rfl (ox_fn rfl rfl (F72_ev (b := ls.flatten) (rdC_all (hp_eq _ _ _ _) rfl) hto)) ?_
    refine vcS_val rfl rfl (ox_fn rfl rfl (fn1_ev _ _ _ _)) ?_
    refine vcS_new rfl rfl (ox_allocZ (cs := encs (Vector.replicate 64 (0 : UInt8)).toList) D_26 rfl) (.inl (by omega)) ?_
    refine vcS_sto rfl rfl (ox_store (pl rfl) (pl rfl) D_26 (hp_eq _ _ _ _) rfl (encs_vec_length _) (le_vec _ rfl) (encs_known _) (wr_all (by simp only [encs_vec_length]))) (.inl (by omega)) ?_
    refine vcS_nil ?_
    refine IW.seq ?_
    refine IW.reg hE ?_
    refine vcS_new rfl rfl (ox_allocZ (cs := encs (Vector.replicate 32 (0 : UInt8)).toList) D_24 rfl) (.inl (by omega)) ?_
    refine vcS_nil ?_
    refine IW.seq ?_
    refine IW.drw hE mixed [[],[],[0,1]] (by kernel_rfl) (vcE_start ?_)
    refine vcE_bl rfl rfl (fun _ => ox_slAll (pl rfl) D_24 rfl D_5) rfl rfl ?_
    refine vcE_bl rfl rfl (fun _ => ox_slAH (pl rfl) D_26 rfl D_5 (bndI (pl rfl) rfl) (by first | omega | decide)) rfl rfl ?_
    refine vcE_wr (ids := [n + 1 + 1 + 1, n + 1 + 1]) rfl rfl rfl rfl (ox_copyE (α := UInt8) (l := (sumV shortV ls.flatten).toList.take 32) (m := 32) (pl rfl) (pl rfl) D_35 rfl D_5 rfl (rdC_sl0 (len := 64) (rdC_1all (hp_sk (by omega) (hp_eq _ _ _ _)) (by simp)) (by decide)) (by simp) (hp_eq _ _ _ _) (by show 0 + 32 * 1 ≤ _; rw [encs_vec_length]; decide) (dig_splice _)) rfl rfl (by simp) (is_some (hp_eq _ _ _ _)) (by simp) (.inl (by omega)) (trivial) trivial ?_
    refine vcE_nil ?_
    refine IW.seq ?_
    refine IW.reg hE ?_
    refine vcS_val rfl rfl (ox_load (pl rfl) D_24 (hp_eq _ _ _ _) (rd_all rfl (encs_vec_length _))) ?_
    refine vcS_sto rfl rfl (ox_store (pl rfl) (pl rfl) D_24 (hp_sk (by omega) (hp_sk (by omega) (hp_sk (by omega) (hp_sk (by omega) (hp_sk (by omega) (hp_eq _ _ _ _)))))) rfl (encs_vec_length _) (le_vec _ rfl) (encs_known _) (wr_all (by simp only [encs_vec_length]))) (.inl (by omega)) ?_
    refine vcS_nil ?_
    refine IW.ret ?_
    exact RetP.pure (.inr rfl) (ires_cell rfl D_24 (hp_eq _ _ _ _) (rd_all rfl (encs_vec_length (digOf (sumV shortV ls.flatten))))) (okV8 _) (by omega)
end Go.Proofs.Ytdnnojblneccdaa
/-
  headwaterlaw02.ShaCalls.
-/
namespace Go.Proofs.Ytdnnojblneccdaa
set_option linter.unusedSimpArgs false
set_option linter.unusedVariables false
open Go
open Enc (enc)
set_option maxRecDepth 100000

theorem eq_same {α : Type} [BEq α] [LawfulBEq α] (a : α) : some (Value.bool (a == a)) = some (.bool true) := by simp
def fsp (k : Nat) : Option Nat := if k = 0 then none else some 1
theorem freshV_fsp (n k : Nat) : freshV 1 n k = .slice (some ⟨n, 0, fsp k⟩) k k := by
  unfold freshV fsp
  split
  · rename_i h; subst h; rfl
  · rfl
theorem own_ev2 {x : Value} {H : IHeap} {n : Nat} {l : List UInt8} (hl : rdC H x = some l) (hle : l.length ≤ 2 ^ 47) : F36 [x] H n = some ⟨.slice (some ⟨n, 0, fsp l.length⟩) l.length l.length, [(n, some (.cells (encs l) false))], n + 1⟩ := by
  rw [own_ev hl hle, freshV_fsp]
theorem two_le {a b : List UInt8} (h1 : a.length ≤ 2000) (h2 : b.length ≤ 2000) : (a ++ b).length ≤ 2 ^ 40 := by simp; omega
theorem ev24_2 {x : Value} {H : IHeap} {n : Nat} {s1 s2 : Sl} {l1 l2 : List UInt8} (hS : rdC H x = some [s1, s2]) (h1 : rdC H (enc s1) = some l1) (h2 : rdC H (enc s2) = some l2) (hl : (l1 ++ l2).length ≤ 2 ^ 40) : F24 [x] H n = some ⟨enc (sumV startV (l1 ++ l2)), [], n⟩ :=
  sumF_ev (ls := [l1, l2]) hS (by simp only [rdL, h1, h2]) (by simp) (by simp) hl
theorem ev37_2 {x : Value} {H : IHeap} {n : Nat} {s1 s2 : Sl} {l1 l2 : List UInt8} (hS : rdC H x = some [s1, s2]) (h1 : rdC H (enc s1) = some l1) (h2 : rdC H (enc s2) = some l2) (hl : (l1 ++ l2).length ≤ 2 ^ 40) : F37 [x] H n = some ⟨enc (sumV startV (l1 ++ l2)), [], n⟩ := ev24_2 hS h1 h2 hl
theorem ev39g {x : Value} {H : IHeap} {n : Nat} {s : Sl} {l : List UInt8} (hS : rdC H x = some [s]) (hl : rdC H (enc s) = some l) (h2 : l.length ≤ 2 ^ 40) : F39 [x] H n = some ⟨enc (digV l), [], n⟩ := ev38g hS hl h2
noncomputable def F9 : FnI := fun args H n => match args with
  | [x, y, z, w] => (rdC H x).bind fun (_ : List UInt8) => (rdC H y).bind fun (_ : List UInt8) => (dec z).bind fun (_ : Vector UInt64 8) => (dec w).bind fun (_ : Vector UInt8 128) => some ⟨.bool true, [], n⟩
  | _ => none
theorem F9_inv {args : List Value} {H : IHeap} {n : Nat} {e : Eff} (h : F9 args H n = some e) : ∃ xa xc ya yc, ∃ (a b : List UInt8) (s : Vector UInt64 8) (p : Vector UInt8 128), args = [.slice xa a.length xc, .slice ya b.length yc, enc s, enc p] ∧ rdC H (.slice xa a.length xc) = some a ∧ rdC H (.slice ya b.length yc) = some b ∧ e = ⟨.bool true, [], n⟩ := by
  unfold F9 at h; split at h
  · simp only [Option.bind_eq_some_iff] at h
    obtain ⟨a, ha, b, hb, s, hs, p, hp, h⟩ := h
    cases h
    obtain ⟨xa, xc, rfl⟩ := rdC_len ha
    obtain ⟨ya, yc, rfl⟩ := rdC_len hb
    exact ⟨xa, xc, ya, yc, a, b, s, p, by rw [dec_some hs, dec_some hp], ha, hb, rfl⟩
  · cases h
theorem F9_ev {x y : Value} {H : IHeap} {n : Nat} {a b : List UInt8} {s : Vector UInt64 8} {p : Vector UInt8 128} (ha : rdC H x = some a) (hb : rdC H y = some b) : F9 [x, y, enc s, enc p] H n = some ⟨.bool true, [], n⟩ := by
  simp only [F9, ha, hb, dec_enc, Option.bind_some]
set_option maxHeartbeats 1000000
-- headwater/headwaterlaw02.ShaCalls ['Sl', 'Sl', 'Vector UInt64 8', 'Vector UInt8 128'] -> ['Bool'], results [8]
theorem R9 : Ref Try.prog 9 F9 := by
  refine Ref.of_iw dok Try.func9 rfl (by kernel_rfl) fun args H n e hF => ?_
  obtain ⟨xa, xc, ya, yc, a, b, s, p, rfl, hA, hB, rfl⟩ := F9_inv hF
  refine ⟨Nat.le_of_ble_eq_true rfl, ?_⟩
  simp only [idxL]
  have hE : Env Try.prog [(24, F24), (25, F25), (26, F26), (27, F27), (30, F30), (36, F36), (37, F37), (38, F38), (39, F39), (40, F40), (41, F41), (42, F42), (43, F43), (44, F44), (45, F45), (46, F46)] D K := env (fnsOk_cons R24 (fnsOk_cons R25 (fnsOk_cons R26 (fnsOk_cons R27 (fnsOk_cons R30 (fnsOk_cons R36 (fnsOk_cons R37 (fnsOk_cons R38 (fnsOk_cons R39 (fnsOk_cons R40 (fnsOk_cons R41 (fnsOk_cons R42 (fnsOk_cons R43 (fnsOk_cons R44 (fnsOk_cons R45 (fnsOk_cons R46 fnsOk_nil))))))))))))))))
  refine IW.seq ?_
  refine IW.free (by simp) (fun hfree => ?_)
  refine IW.reg hE ?_
  refine vcS_new rfl rfl (ox_box (pl rfl) rfl) (.inl (by omega)) ?_
  refine vcS_new rfl rfl (ox_box (pl rfl) rfl) (.inl (by omega)) ?_
  refine vcS_val rfl rfl (ox_assign (pl rfl)) ?_
  refine vcS_nil ?_
  refine IW.seq ?_
  refine IW.seq ?_
  refine IW.reg hE ?_
  refine vcS_val rfl rfl (ox_fn rfl rfl (fn0_ev _ _ _)) ?_
  refine vcS_val rfl rfl (ox_un (pl rfl) (uo_not _)) ?_
  refine vcS_nil ?_
  refine IW.cond rfl (fun hc1 => ?_) (fun hc1 => ?_)
  · cases hc1
  · refine IW.skip ?_
    refine IW.seq ?_
    refine IW.seq ?_
    refine IW.reg hE ?_
    refine vcS_val rfl rfl (ox_move (pl rfl)) ?_
    refine vcS_val rfl rfl (ox_len (pl rfl) D_35 rfl) ?_
    refine vcS_val rfl rfl (ox_bin (pl rfl) (pl rfl) (bo_i64_gtr _ _)) ?_
    refine vcS_val rfl rfl (ox_move (pl rfl)) ?_
    refine vcS_opt rfl (wgF rfl rfl rfl) (fun hb => ox_move (pl rfl)) ?_
    refine vcS_opt rfl (wgF rfl rfl rfl) (fun hb => ox_len (gd hb rfl) D_35 rfl) ?_
    refine vcS_opt rfl (wgF rfl rfl rfl) (fun hb => ox_bin (gd hb rfl) (pl rfl) (bo_i64_gtr _ _)) ?_
    refine vcS_val rfl rfl (ox_or (pl rfl) (pl rfl) (fun hc => gd (by rw [hc]; rfl) rfl)) ?_
    refine vcS_nil ?_
    refine IW.cond rfl (fun hc2 => ?_) (fun hc2 => ?_)
    · refine IW.seq ?_
      refine IW.reg hE ?_
      refine vcS_val rfl rfl (ox_assign (pl rfl)) ?_
      refine vcS_nil ?_
      refine IW.ret ?_
      exact RetP.ret (.inr rfl) rfl rfl trivial (rfl)
    · obtain ⟨ha2, hb2⟩ : a.length ≤ 2000 ∧ b.length ≤ 2000 := by simp only [Bool.or_eq_false_iff, decide_eq_false_iff_not] at hc2; omega
      refine IW.skip ?_
      refine IW.seq ?_
      refine IW.drw hE mixed [[],[0],[],[0,1,2],[0,1,2,3],[0,1,2,3,4],[],[],[6,7],[0,1,2,3,4,5,6,7,8],[0,1,2,3,4,5,6,7,8,9],[0,1,2,3,4,5,6,7,8,9,10],[0,1,2,3,4,5,6,7,8,9,10,11],[0,1,2,3,4,5,6,7,8,9,10,11,12],[0,1,2,3,4,5,6,7,8,9,10,11,12,13],[0,1,2,3,4,5,6,7,8,9,10,11,12,13,14],[0,1,2,3,4,5,6,7,8,9,10,11],[0,1,2,3,4,5,6,7,8,9,10,11,16],[0,1,2,3,4,5,6,7,8,9,10,11,12,13,14,15,16,17],[0,1,2,3,4,5,6,7,8,9,10,11,12,13,14,15,16,17,18],[0,1,2,3,4,5,6,7,8,9,10,11,12,13,14,15,16,17,18,19],[0,1,2,3,4,5,6,7,8,9,10,11,12,13,14,15,16,17,18,19,20],[0,1,2,3,4,5,6,7,8,9,10,11,12,13,14,15,16,17,18,19,20,21],[0,1,2,3,4,5,6,7,8,9,10,11,12,13,14,15,16,17,18,19,20,21,22],[0,1,2,3,4,5,6,7,8,9,10,11,12,13,14,15,16,17,18,19,20,21,22,23],[0,1,2,3,4,5,6,7,8,9,10,11,12,13,14,15,16,17,18,19,20,21,22,23,24],[0,1,2,3,4,5,6,7,8,9,10,11,12,13,14,15,16,17,18,19,20,21],[0,1,2,3,4,5,6,7,8,9,10,11,12,13,14,15,16,17,18,19,20,21,22,23,24,26],[0,1,2,3,4,5,6,7,8,9,10,11,12,13,14,15,16,17,18,19,20,21,22,23,24,26,27],[0,1,2,3,4,5,6,7,8,9,10,11,12,13,14,15,16,17,18,19,20,21,22,23,24,25,26,27,28],[0,1,2,3,4,5,6,7,8,9,10,11,12,13,14,15,16,17,18,19,20,21,22,23,24,25,26,27,28,29],[0,1,2,3,4,5,6,7,8,9,10,11,12,13,14,15,16,17,18,19,20,21,22,23,24,25,26,27,28,29,30],[0,1,2,3,4,5,6,7,8,9,10,11,12,13,14,15,16,17,18,19,20,21,22,23,24,25,26,27,28,29,30,31],[0,1,2,3,4,5,6,7,8,9,10,11,12,13,14,15,16,17,18,19,20,21,22,23,24,25,26,27,28,29,30,31],[0,1,2,3,4,5,6,7,8,9,10,11,12,13,14,15,16,17,18,19,20,21,22,23,24,25,26,27,28,29,30,31,32,33],[0,1,2,3,4,5,6,7,8,9,10,11,12,13,14,15,16,17,18,19,20,21,22,23,24,25,26,27,28,29,30,31],[0,1,2,3,4,5,6,7,8,9,10,11,12,13,14,15,16,17,18,19,20,21,22,23,24,25,26,27,28,29,30,31],[0,1,2,3,4,5,6,7,8,9,10,11,12,13,14,15,16,17,18,19,20,21,22,23,24,25,26,27,28,29,30,31,32,33,34,35,36],[0,1,2,3,4,5,6,7,8,9,10,11,12,13,14,15,16,17,18,19,20,21,22,23,24,25,26,27,28,29,30,31,32,33,34,35,36,37],[0,1,2,3,4,5,6,7,8,9,10,11,12,13,14,15,16,17,18,19,20,21,22,23,24,25,26,27,28,29,30,31,32,33,34,35,36,37,38],[0,1,2,3,4,5,6,7,8,9,10,11,12,13,14,15,16,17,18,19,20,21,22,23,24,25,26,27,28,29,30,31,32,33,34,35,36,37,38,39],[0,1,2,3,4,5,6,7,8,9,10,11,12,13,14,15,16,17,18,19,20,21,22,23,24,25,26,27,28,29,30,31,32,33,34,35,36,37,38,39,40],[0,1,2,3,4,5,6,7,8,9,10,11,12,13,14,15,16,17,18,19,20,21,22,23,24,25,26,27,28,29,30,31,32,33,34,35,36,37,38,39,40,41],[0,1,2,3,4,5,6,7,8,9,10,11,12,13,14,15,16,17,18,19,20,21,22,23,24,25,26,27,28,29,30,31,32,33,34,35,36,37,38,39,40,41,42],[0,1,2,3,4,5,6,7,8,9,10,11,12,13,14,15,16,17,18,19,20,21,22,23,24,25,26,27,28,29,30,31,32,33,34,35,36,37,38,39,40,41,42,43],[0,1,2,3,4,5,6,7,8,9,10,11,12,13,14,15,16,17,18,19,20,21,22,23,24,25,26,27,28,29,30,31,32,33,34,35,36,37,38,39,40,41,42,43,44],[0,1,2,3,4,5,6,7,8,9,10,11,12,13,14,15,16,17,18,19,20,21,22,23,24,25,26,27,28,29,30,31,32,33,34,35,36,37,38,39,40,41,42,43,44,45],[0,1,2,3,4,5,6,7,8,9,10,11,12,13,14,15,16,17,18,19,20,21,22,23,24,25,26,27,28,29,30,31,32,33,34,35,36,37,38,39,40,41,42,43,44,45,46],[0,1,2,3,4,5,6,7,8,9,10,11,12,13,14,15,16,17,18,19,20,21,22,23,24,25,26,27,28,29,30,31,32,33,34,35,36,37,38,39,40,41,42,43,44,45,46,47],[0,1,2,3,4,5,6,7,8,9,10,11,12,13,14,15,16,17,18,19,20,21,22,23,24,25,26,27,28,29,30,31,32,33,34,35,36,37,38,39,40,41,42,43,44,45,46,47,48],[0,1,2,3,4,5,6,7,8,9,10,11,12,13,14,15,16,17,18,19,20,21,22,23,24,25,26,27,28,29,30,31,32,33,34,35,36,37,38,39,40,41,42,43,44,45,46,47,48,49],[0,1,2,3,4,5,6,7,8,9,10,11,12,13,14,15,16,17,18,19,20,21,22,23,24,25,26,27,28,29,30,31,32,33,34,35,36,37,38,39,40,41,42,43,44,45,46,47,48,49,50],[0,1,2,3,4,5,6,7,8,9,10,11,12,13,14,15,16,17,18,19,20,21,22,23,24,25,26,27,28,29,30,31,32,33,34,35,36,37,38,39,40,41,42,43,44,45,46,47,48,49,50,51],[0,1,2,3,4,5,6,7,8,9,10,11,12,13,14,15,16,17,18,19,20,21,22,23,24,25,26,27,28,29,30,31,32,33,34,35,36,37,38,39,40,41,42,43,44,45,46,47,48,49,50,51,52],[0,1,2,3,4,5,6,7,8,9,10,11,12,13,14,15,16,17,18,19,20,21,22,23,24,25,26,27,28,29,30,31,32,33,34,35,36,37,38,39,40,41,42,43,44,45,46,47,48,49,50,51,52,53],[0,1,2,3,4,5,6,7,8,9,10,11,12,13,14,15,16,17,18,19,20,21,22,23,24,25,26,27,28,29,30,31,32,33,34,35,36,37,38,39,40,41,42,43,44,45,46,47,48,49,50,51,52,53,54]] (by kernel_rfl) (vcE_start ?_)
      refine vcE_bl rfl rfl (fun _ => ox_move (pl rfl)) rfl rfl ?_
      refine vcE_callN rfl rfl rfl rfl (ox_fn rfl rfl (own_ev2 (rdC_keep hfree hA (by exact ⟨by omega, ⟨by omega, trivial⟩⟩)) (by omega))) rfl ltu0 ⟨⟨.inl (by omega), by omega, by omega⟩, trivial⟩ (by omega) (trivial) ?_
      refine vcE_bl rfl rfl (fun _ => ox_move (pl rfl)) rfl rfl ?_
      refine vcE_callN rfl rfl rfl rfl (ox_fn rfl rfl (own_ev2 (rdC_keep hfree hB (by exact ⟨by omega, ⟨by omega, ⟨by omega, trivial⟩⟩⟩)) (by omega))) rfl (ltuc (by omega) ltu0) ⟨⟨.inl (by omega), by omega, by omega⟩, trivial⟩ (by omega) (⟨trivial, trivial⟩) ?_
      refine vcE_new rfl rfl (fun _ => ox_bsl (cs := cels [(⟨some ⟨n + 1 + 1, 0, fsp a.length⟩, a.length, a.length⟩ : Sl), (⟨some ⟨n + 1 + 1 + 1, 0, fsp b.length⟩, b.length, b.length⟩ : Sl)]) D_94 rfl D_35 (Nat.le_of_ble_eq_true rfl) rfl rfl) rfl rfl (.inl (by omega)) ?_
      refine vcE_call rfl rfl rfl rfl (ox_fn rfl rfl (ev24_2 (l1 := a) (l2 := b) (rdC_all (hp_eq _ _ _ _) rfl) (rdC_1all (hp_sk (by omega) (hp_sk (by omega) (hp_eq _ _ _ _))) rfl) (rdC_1all (hp_sk (by omega) (hp_eq _ _ _ _)) rfl) (two_le ha2 hb2))) rfl (ltuc (by omega) (ltuc (by omega) (ltuc (by omega) ltu0))) (⟨trivial, ⟨trivial, ⟨trivial, trivial⟩⟩⟩) ?_
      refine vcE_bl rfl rfl (fun _ => ox_move (pl rfl)) rfl rfl ?_
      refine vcE_bl rfl rfl (fun _ => ox_move (pl rfl)) rfl rfl ?_
      refine vcE_new rfl rfl (fun _ => ox_bsl (cs := cels [(⟨xa, a.length, xc⟩ : Sl), (⟨ya, b.length, yc⟩ : Sl)]) D_94 rfl D_35 (Nat.le_of_ble_eq_true rfl) rfl rfl) rfl rfl (.inl (by omega)) ?_
      refine vcE_call rfl rfl rfl rfl (ox_fn rfl rfl (ev37_2 (l1 := a) (l2 := b) (rdC_all (hp_eq _ _ _ _) rfl) (rdC_keep hfree hA (by exact ⟨by omega, ⟨by omega, ⟨by omega, ⟨by omega, ⟨by omega, ⟨by omega, trivial⟩⟩⟩⟩⟩⟩)) (rdC_keep hfree hB (by exact ⟨by omega, ⟨by omega, ⟨by omega, ⟨by omega, ⟨by omega, ⟨by omega, trivial⟩⟩⟩⟩⟩⟩)) (two_le ha2 hb2))) rfl (ltuc (by omega) (ltuc (by omega) (ltuc (by omega) (ltuc (by omega) ltu0)))) (⟨trivial, ⟨trivial, ⟨trivial, ⟨trivial, trivial⟩⟩⟩⟩) ?_
      refine vcE_bl rfl rfl (fun _ => ox_bin (pl rfl) (pl rfl) ((eq_vec K_26 cellEq_u8 _ _).trans (eq_same _))) rfl rfl ?_
      refine vcE_bl rfl rfl (fun _ => ox_move (pl rfl)) rfl rfl ?_
      refine vcE_known (wgT rfl rfl rfl) rfl ?_
      refine vcE_bl rfl rfl (fun _ => ox_move (pl rfl)) rfl rfl ?_
      refine vcE_known (wgT rfl rfl rfl) rfl ?_
      refine vcE_callN rfl rfl rfl rfl (ox_fn rfl rfl (own_ev2 (rdC_keep hfree hA (by exact ⟨by omega, ⟨by omega, ⟨by omega, ⟨by omega, ⟨by omega, ⟨by omega, trivial⟩⟩⟩⟩⟩⟩)) (by omega))) rfl (ltuc (by omega) (ltuc (by omega) (ltuc (by omega) (ltuc (by omega) ltu0)))) ⟨⟨.inl (by omega), by omega, by omega⟩, trivial⟩ (by omega) (⟨trivial, ⟨trivial, ⟨trivial, ⟨trivial, trivial⟩⟩⟩⟩) ?_
      refine vcE_known (wgT rfl rfl rfl) rfl ?_
      refine vcE_new rfl rfl (fun _ => ox_bsl (cs := cels [(⟨some ⟨n + 1 + 1 + 1 + 1 + 1 + 1, 0, fsp a.length⟩, a.length, a.length⟩ : Sl)]) D_94 rfl D_35 (Nat.le_of_ble_eq_true rfl) rfl rfl) rfl rfl (.inl (by omega)) ?_
      refine vcE_known (wgT rfl rfl rfl) rfl ?_
      refine vcE_call rfl rfl rfl rfl (ox_fn rfl rfl (ev38g (l := a) (rdC_all (hp_eq _ _ _ _) rfl) (rdC_1all (hp_sk (by omega) (hp_eq _ _ _ _)) rfl) (by omega))) rfl (ltuc (by omega) (ltuc (by omega) (ltuc (by omega) (ltuc (by omega) (ltuc (by omega) (ltuc (by omega) ltu0)))))) (⟨trivial, ⟨trivial, ⟨trivial, ⟨trivial, ⟨trivial, ⟨trivial, trivial⟩⟩⟩⟩⟩⟩) ?_
      refine vcE_known (wgT rfl rfl rfl) rfl ?_
      refine vcE_bl rfl rfl (fun _ => ox_move (pl rfl)) rfl rfl ?_
      refine vcE_known (wgT rfl rfl rfl) rfl ?_
      refine vcE_new rfl rfl (fun _ => ox_bsl (cs := cels [(⟨xa, a.length, xc⟩ : Sl)]) D_94 rfl D_35 (Nat.le_of_ble_eq_true rfl) rfl rfl) rfl rfl (.inl (by omega)) ?_
      refine vcE_known (wgT rfl rfl rfl) rfl ?_
      refine vcE_call rfl rfl rfl rfl (ox_fn rfl rfl (ev39g (l := a) (rdC_all (hp_eq _ _ _ _) rfl) (rdC_keep hfree hA (by exact ⟨by omega, ⟨by omega, ⟨by omega, ⟨by omega, ⟨by omega, ⟨by omega, ⟨by omega, ⟨by omega, ⟨by omega, trivial⟩⟩⟩⟩⟩⟩⟩⟩⟩)) (by omega))) rfl (ltuc (by omega) (ltuc (by omega) (ltuc (by omega) (ltuc (by omega) (ltuc (by omega) (ltuc (by omega) (ltuc (by omega) ltu0))))))) (⟨trivial, ⟨trivial, ⟨trivial, ⟨trivial, ⟨trivial, ⟨trivial, ⟨trivial, trivial⟩⟩⟩⟩⟩⟩⟩) ?_
      refine vcE_known (wgT rfl rfl rfl) rfl ?_
      refine vcE_bl rfl rfl (fun _ => ox_bin (pl rfl) (pl rfl) ((eq_vec K_24 cellEq_u8 _ _).trans (eq_same _))) rfl rfl ?_
      refine vcE_bl rfl rfl (fun _ => ox_and (pl rfl) (fun hc => pl rfl) (pl rfl)) rfl rfl ?_
      refine vcE_bl rfl rfl (fun _ => ox_move (pl rfl)) rfl rfl ?_
      refine vcE_known (wgT rfl rfl rfl) rfl ?_
      refine vcE_bl rfl rfl (fun _ => ox_move (pl rfl)) rfl rfl ?_
      refine vcE_known (wgT rfl rfl rfl) rfl ?_
      refine vcE_callN rfl rfl rfl rfl (ox_fn rfl rfl (own_ev2 (rdC_keep hfree hB (by exact ⟨by omega, ⟨by omega, ⟨by omega, ⟨by omega, ⟨by omega, ⟨by omega, ⟨by omega, ⟨by omega, ⟨by omega, trivial⟩⟩⟩⟩⟩⟩⟩⟩⟩)) (by omega))) rfl (ltuc (by omega) (ltuc (by omega) (ltuc (by omega) (ltuc (by omega) (ltuc (by omega) (ltuc (by omega) (ltuc (by omega) ltu0))))))) ⟨⟨.inl (by omega), by omega, by omega⟩, trivial⟩ (by omega) (⟨trivial, ⟨trivial, ⟨trivial, ⟨trivial, ⟨trivial, ⟨trivial, ⟨trivial, trivial⟩⟩⟩⟩⟩⟩⟩) ?_
      refine vcE_known (wgT rfl rfl rfl) rfl ?_
      refine vcE_callN rfl rfl rfl rfl (ox_fn rfl rfl (F30_ev (b := b) (rdC_1all (hp_eq _ _ _ _) rfl) (by omega))) rfl (ltuc (by omega) (ltuc (by omega) (ltuc (by omega) (ltuc (by omega) (ltuc (by omega) (ltuc (by omega) (ltuc (by omega) (ltuc (by omega) ltu0)))))))) ⟨⟨.inl (by omega), by omega, by omega⟩, trivial⟩ (by omega) (⟨trivial, ⟨trivial, ⟨trivial, ⟨trivial, ⟨trivial, ⟨trivial, ⟨trivial, ⟨trivial, trivial⟩⟩⟩⟩⟩⟩⟩⟩) ?_
      refine vcE_known (wgT rfl rfl rfl) rfl ?_
      refine vcE_val rfl rfl rfl rfl (ox_cvS (pl rfl) D_35 rfl D_5 rfl D_9 rfl (rdC_1all (hp_eq _ _ _ _) (padL_length b))) rfl (si_conv (pl rfl)) (lt1 (by omega)) (⟨trivial, ⟨trivial, ⟨trivial, ⟨trivial, ⟨trivial, ⟨trivial, ⟨trivial, ⟨trivial, ⟨trivial, trivial⟩⟩⟩⟩⟩⟩⟩⟩⟩) ?_
      refine vcE_known (wgT rfl rfl rfl) rfl ?_
      refine vcE_bl rfl rfl (fun _ => ox_move (pl rfl)) rfl rfl ?_
      refine vcE_known (wgT rfl rfl rfl) rfl ?_
      refine vcE_callN rfl rfl rfl rfl (ox_fn rfl rfl (F40_ev (rdC_keep hfree hB (by exact ⟨by omega, ⟨by omega, ⟨by omega, ⟨by omega, ⟨by omega, ⟨by omega, ⟨by omega, ⟨by omega, ⟨by omega, ⟨by omega, ⟨by omega, trivial⟩⟩⟩⟩⟩⟩⟩⟩⟩⟩⟩)) (by omega))) rfl (ltuc (by omega) (ltuc (by omega) (ltuc (by omega) (ltuc (by omega) (ltuc (by omega) (ltuc (by omega) (ltuc (by omega) (ltuc (by omega) (ltuc (by omega) ltu0))))))))) ⟨⟨.inl (by omega), by omega, by omega⟩, trivial⟩ (by omega) (⟨trivial, ⟨trivial, ⟨trivial, ⟨trivial, ⟨trivial, ⟨trivial, ⟨trivial, ⟨trivial, ⟨trivial, trivial⟩⟩⟩⟩⟩⟩⟩⟩⟩) ?_
      refine vcE_known (wgT rfl rfl rfl) rfl ?_
      refine vcE_val rfl rfl rfl rfl (ox_cvS (pl rfl) D_35 rfl D_5 rfl D_9 rfl (rdC_1all (hp_eq _ _ _ _) (padL_length b))) rfl (si_conv (pl rfl)) (lt1 (by omega)) (⟨trivial, ⟨trivial, ⟨trivial, ⟨trivial, ⟨trivial, ⟨trivial, ⟨trivial, ⟨trivial, ⟨trivial, ⟨trivial, trivial⟩⟩⟩⟩⟩⟩⟩⟩⟩⟩) ?_
      refine vcE_known (wgT rfl rfl rfl) rfl ?_
      refine vcE_bl rfl rfl (fun _ => ox_bin (pl rfl) (pl rfl) ((bo_str_eql _ _).trans (eq_same _))) rfl rfl ?_
      refine vcE_bl rfl rfl (fun _ => ox_and (pl rfl) (fun hc => pl rfl) (pl rfl)) rfl rfl ?_
      refine vcE_bl rfl rfl (fun _ => ox_move (pl rfl)) rfl rfl ?_
      refine vcE_known (wgT rfl rfl rfl) rfl ?_
      refine vcE_val rfl rfl rfl rfl (ox_load (pl rfl) D_50 (hp_sk (by omega) (hp_sk (by omega) (hp_sk (by omega) (hp_sk (by omega) (hp_sk (by omega) (hp_sk (by omega) (hp_sk (by omega) (hp_sk (by omega) (hp_sk (by omega) (hp_sk (by omega) (hp_sk (by omega) (hp_eq _ _ _ _)))))))))))) (rd_all rfl (encs_vec_length _))) rfl (si_load (pl rfl)) (lt1 (by omega)) (⟨trivial, ⟨trivial, ⟨trivial, ⟨trivial, ⟨trivial, ⟨trivial, ⟨trivial, ⟨trivial, ⟨trivial, ⟨trivial, trivial⟩⟩⟩⟩⟩⟩⟩⟩⟩⟩) ?_
      refine vcE_known (wgT rfl rfl rfl) rfl ?_
      refine vcE_val rfl rfl rfl rfl (ox_load (pl rfl) D_63 (hp_sk (by omega) (hp_sk (by omega) (hp_sk (by omega) (hp_sk (by omega) (hp_sk (by omega) (hp_sk (by omega) (hp_sk (by omega) (hp_sk (by omega) (hp_sk (by omega) (hp_sk (by omega) (hp_eq _ _ _ _))))))))))) (rd_all rfl (encs_vec_length _))) rfl (si_load (pl rfl)) (lt1 (by omega)) (⟨trivial, ⟨trivial, ⟨trivial, ⟨trivial, ⟨trivial, ⟨trivial, ⟨trivial, ⟨trivial, ⟨trivial, ⟨trivial, trivial⟩⟩⟩⟩⟩⟩⟩⟩⟩⟩) ?_
      refine vcE_known (wgT rfl rfl rfl) rfl ?_
      refine vcE_call rfl rfl rfl rfl (ox_fn rfl rfl (fn2_ev _ _ _ _ _)) rfl (ltuc (by omega) (ltuc (by omega) (ltuc (by omega) (ltuc (by omega) (ltuc (by omega) (ltuc (by omega) (ltuc (by omega) (ltuc (by omega) (ltuc (by omega) (ltuc (by omega) ltu0)))))))))) (⟨trivial, ⟨trivial, ⟨trivial, ⟨trivial, ⟨trivial, ⟨trivial, ⟨trivial, ⟨trivial, ⟨trivial, ⟨trivial, trivial⟩⟩⟩⟩⟩⟩⟩⟩⟩⟩) ?_
      refine vcE_known (wgT rfl rfl rfl) rfl ?_
      refine vcE_val rfl rfl rfl rfl (ox_load (pl rfl) D_50 (hp_sk (by omega) (hp_sk (by omega) (hp_sk (by omega) (hp_sk (by omega) (hp_sk (by omega) (hp_sk (by omega) (hp_sk (by omega) (hp_sk (by omega) (hp_sk (by omega) (hp_sk (by omega) (hp_sk (by omega) (hp_eq _ _ _ _)))))))))))) (rd_all rfl (encs_vec_length _))) rfl (si_load (pl rfl)) (lt1 (by omega)) (⟨trivial, ⟨trivial, ⟨trivial, ⟨trivial, ⟨trivial, ⟨trivial, ⟨trivial, ⟨trivial, ⟨trivial, ⟨trivial, trivial⟩⟩⟩⟩⟩⟩⟩⟩⟩⟩) ?_
      refine vcE_known (wgT rfl rfl rfl) rfl ?_
      refine vcE_val rfl rfl rfl rfl (ox_load (pl rfl) D_63 (hp_sk (by omega) (hp_sk (by omega) (hp_sk (by omega) (hp_sk (by omega) (hp_sk (by omega) (hp_sk (by omega) (hp_sk (by omega) (hp_sk (by omega) (hp_sk (by omega) (hp_sk (by omega) (hp_eq _ _ _ _))))))))))) (rd_all rfl (encs_vec_length _))) rfl (si_load (pl rfl)) (lt1 (by omega)) (⟨trivial, ⟨trivial, ⟨trivial, ⟨trivial, ⟨trivial, ⟨trivial, ⟨trivial, ⟨trivial, ⟨trivial, ⟨trivial, trivial⟩⟩⟩⟩⟩⟩⟩⟩⟩⟩) ?_
      refine vcE_known (wgT rfl rfl rfl) rfl ?_
      refine vcE_call rfl rfl rfl rfl (ox_fn rfl rfl (fn2_ev _ _ _ _ _)) rfl (ltuc (by omega) (ltuc (by omega) (ltuc (by omega) (ltuc (by omega) (ltuc (by omega) (ltuc (by omega) (ltuc (by omega) (ltuc (by omega) (ltuc (by omega) (ltuc (by omega) ltu0)))))))))) (⟨trivial, ⟨trivial, ⟨trivial, ⟨trivial, ⟨trivial, ⟨trivial, ⟨trivial, ⟨trivial, ⟨trivial, ⟨trivial, trivial⟩⟩⟩⟩⟩⟩⟩⟩⟩⟩) ?_
      refine vcE_known (wgT rfl rfl rfl) rfl ?_
      refine vcE_bl rfl rfl (fun _ => ox_bin (pl rfl) (pl rfl) ((eq_vec K_50 cellEq_u64 _ _).trans (eq_same _))) rfl rfl ?_
      refine vcE_bl rfl rfl (fun _ => ox_and (pl rfl) (fun hc => pl rfl) (pl rfl)) rfl rfl ?_
      refine vcE_bl rfl rfl (fun _ => ox_move (pl rfl)) rfl rfl ?_
      refine vcE_known (wgT rfl rfl rfl) rfl ?_
      refine vcE_call rfl rfl rfl rfl (ox_fn rfl rfl (fn0_ev _ _ _)) rfl (ltuc (by omega) (ltuc (by omega) (ltuc (by omega) (ltuc (by omega) (ltuc (by omega) (ltuc (by omega) (ltuc (by omega) (ltuc (by omega) (ltuc (by omega) (ltuc (by omega) ltu0)))))))))) (⟨trivial, ⟨trivial, ⟨trivial, ⟨trivial, ⟨trivial, ⟨trivial, ⟨trivial, ⟨trivial, ⟨trivial, ⟨trivial, trivial⟩⟩⟩⟩⟩⟩⟩⟩⟩⟩) ?_
      refine vcE_known (wgT rfl rfl rfl) rfl ?_
      refine vcE_call rfl rfl rfl rfl (ox_fn rfl rfl (fn0_ev _ _ _)) rfl (ltuc (by omega) (ltuc (by omega) (ltuc (by omega) (ltuc (by omega) (ltuc (by omega) (ltuc (by omega) (ltuc (by omega) (ltuc (by omega) (ltuc (by omega) (ltuc (by omega) ltu0)))))))))) (⟨trivial, ⟨trivial, ⟨trivial, ⟨trivial, ⟨trivial, ⟨trivial, ⟨trivial, ⟨trivial, ⟨trivial, ⟨trivial, trivial⟩⟩⟩⟩⟩⟩⟩⟩⟩⟩) ?_
      refine vcE_known (wgT rfl rfl rfl) rfl ?_
      refine vcE_bl rfl rfl (fun _ => ox_bin (pl rfl) (pl rfl) ((eq_vec K_48 cellEq_u64 _ _).trans (eq_same _))) rfl rfl ?_
      refine vcE_bl rfl rfl (fun _ => ox_and (pl rfl) (fun hc => pl rfl) (pl rfl)) rfl rfl ?_
      refine vcE_bl rfl rfl (fun _ => ox_move (pl rfl)) rfl rfl ?_
      refine vcE_known (wgT rfl rfl rfl) rfl ?_
      refine vcE_call rfl rfl rfl rfl (ox_fn rfl rfl (fn0_ev _ _ _)) rfl (ltuc (by omega) (ltuc (by omega) (ltuc (by omega) (ltuc (by omega) (ltuc (by omega) (ltuc (by omega) (ltuc (by omega) (ltuc (by omega) (ltuc (by omega) (ltuc (by omega) ltu0)))))))))) (⟨trivial, ⟨trivial, ⟨trivial, ⟨trivial, ⟨trivial, ⟨trivial, ⟨trivial, ⟨trivial, ⟨trivial, ⟨trivial, trivial⟩⟩⟩⟩⟩⟩⟩⟩⟩⟩) ?_
      refine vcE_known (wgT rfl rfl rfl) rfl ?_
      refine vcE_call rfl rfl rfl rfl (ox_fn rfl rfl (fn0_ev _ _ _)) rfl (ltuc (by omega) (ltuc (by omega) (ltuc (by omega) (ltuc (by omega) (ltuc (by omega) (ltuc (by omega) (ltuc (by omega) (ltuc (by omega) (ltuc (by omega) (ltuc (by omega) ltu0)))))))))) (⟨trivial, ⟨trivial, ⟨trivial, ⟨trivial, ⟨trivial, ⟨trivial, ⟨trivial, ⟨trivial, ⟨trivial, ⟨trivial, trivial⟩⟩⟩⟩⟩⟩⟩⟩⟩⟩) ?_
      refine vcE_known (wgT rfl rfl rfl) rfl ?_
      refine vcE_bl rfl rfl (fun _ => ox_bin (pl rfl) (pl rfl) ((eq_vec K_50 cellEq_u64 _ _).trans (eq_same _))) rfl rfl ?_
      refine vcE_bl rfl rfl (fun _ => ox_and (pl rfl) (fun hc => pl rfl) (pl rfl)) rfl rfl ?_
      refine vcE_bl rfl rfl (fun _ => ox_move (pl rfl)) rfl rfl ?_
      refine vcE_known (wgT rfl rfl rfl) rfl ?_
      refine vcE_call rfl rfl rfl rfl (ox_fn rfl rfl (fn0_ev _ _ _)) rfl (ltuc (by omega) (ltuc (by omega) (ltuc (by omega) (ltuc (by omega) (ltuc (by omega) (ltuc (by omega) (ltuc (by omega) (ltuc (by omega) (ltuc (by omega) (ltuc (by omega) ltu0)))))))))) (⟨trivial, ⟨trivial, ⟨trivial, ⟨trivial, ⟨trivial, ⟨trivial, ⟨trivial, ⟨trivial, ⟨trivial, ⟨trivial, trivial⟩⟩⟩⟩⟩⟩⟩⟩⟩⟩) ?_
      refine vcE_known (wgT rfl rfl rfl) rfl ?_
      refine vcE_call rfl rfl rfl rfl (ox_fn rfl rfl (fn0_ev _ _ _)) rfl (ltuc (by omega) (ltuc (by omega) (ltuc (by omega) (ltuc (by omega) (ltuc (by omega) (ltuc (by omega) (ltuc (by omega) (ltuc (by omega) (ltuc (by omega) (ltuc (by omega) ltu0)))))))))) (⟨trivial, ⟨trivial, ⟨trivial, ⟨trivial, ⟨trivial, ⟨trivial, ⟨trivial, ⟨trivial, ⟨trivial, ⟨trivial, trivial⟩⟩⟩⟩⟩⟩⟩⟩⟩⟩) ?_
      refine vcE_known (wgT rfl rfl rfl) rfl ?_
      refine vcE_bl rfl rfl (fun _ => ox_bin (pl rfl) (pl rfl) ((eq_vec K_50 cellEq_u64 _ _).trans (eq_same _))) rfl rfl ?_
      refine vcE_bl rfl rfl (fun _ => ox_and (pl rfl) (fun hc => pl rfl) (pl rfl)) rfl rfl ?_
      refine vcE_bl rfl rfl (fun _ => ox_assign (pl rfl)) rfl rfl ?_
      refine vcE_nil ?_
      refine IW.ret ?_
      exact RetP.ret (.inr rfl) rfl rfl trivial (rfl)
end Go.Proofs.Ytdnnojblneccdaa
