import Derived.Test.YtdnnojblneccdaaV10E
/-
  A record is read.
-/
namespace Go.Proofs.Ytdnnojblneccdaa
set_option linter.unusedSimpArgs false
set_option linter.unusedVariables false
open Go
open Enc (enc)
set_option maxRecDepth 100000
def q1 (b : List UInt8) : RS := tkS b ⟨0, 0⟩ 1
def kd (b : List UInt8) : UInt8 := (wordV (tkL b ⟨0, 0⟩ 1)).toUInt8
def q2 (b : List UInt8) : RS := numS b (q1 b)
def nn (b : List UInt8) : UInt64 := numV b (q1 b)
def q3 (b : List UInt8) : RS := tkS b (q2 b) (nn b).toNat
def q4 (b : List UInt8) : RS := tkS b (q3 b) 8
def mk8 (b : List UInt8) : List UInt8 := tkL b (q3 b) 8
def dl (b : List UInt8) : List UInt8 := tkL b (q2 b) (nn b).toNat
def dat (b : List UInt8) : Option (List UInt8) := if tkOk b (q2 b) (nn b).toNat = true then some (dl b) else none
theorem q1_le (b : List UInt8) : (q1 b).at_ ≤ b.length := tkS_le (Nat.zero_le _)
theorem numS_le {l : List UInt8} {s : RS} (h : s.at_ ≤ l.length) : (numS l s).at_ ≤ l.length := by
  unfold numS
  split
  · split
    · split
      · exact tkS_le (tkS_le h)
      · exact h
    · exact h
  · exact tkS_le h
theorem q2_le (b : List UInt8) : (q2 b).at_ ≤ b.length := numS_le (q1_le b)
theorem q3_le (b : List UInt8) : (q3 b).at_ ≤ b.length := tkS_le (q2_le b)
theorem q4_le (b : List UInt8) : (q4 b).at_ ≤ b.length := tkS_le (q3_le b)
theorem tk_no_e {l : List UInt8} {s : RS} {k : Nat} (h : tkOk l s k = false) : (tkS l s k).e ≠ 0 := by
  by_cases he : s.e = 0
  · rw [more_st h he]; simp
  · rw [(tk_err (ib := 0) he).2.1]; exact he
theorem tk_ok_e {l : List UInt8} {s : RS} {k : Nat} (h : tkOk l s k = true) : (tkS l s k).e = 0 := by
  rw [(ok_st h).2.2]
theorem tk_e_no {l : List UInt8} {s : RS} {k : Nat} (h : s.e ≠ 0) : tkOk l s k = false := (tk_err (ib := 0) h).1
structure RR where
  kind : UInt8
  data : Option (List UInt8)
  size : Nat
  next : Dig
  e : Nat
abbrev z32 : Dig := Vector.replicate 32 0
def rdV (c : Dig) (b : List UInt8) : RR :=
  if ((q1 b).e = 0 ∧ kd b = 0) then ⟨kd b, none, 0, z32, 4⟩
  else if (q2 b).e ≠ 0 then ⟨kd b, none, 0, z32, if (q2 b).e = 4 then 4 else 5⟩
  else if 8192 < nn b then ⟨kd b, none, 0, z32, 4⟩
  else if (q4 b).e ≠ 0 then ⟨kd b, dat b, 0, z32, 5⟩
  else if mk8 b ≠ (nextV c (kd b) (dl b)).toList.take 8 then ⟨kd b, dat b, 0, nextV c (kd b) (dl b), 4⟩
  else ⟨kd b, dat b, (q4 b).at_, nextV c (kd b) (dl b), 0⟩
def slO (n : Nat) : Option (List UInt8) → Sl
  | none => ⟨none, 0, 0⟩
  | some l => ⟨some ⟨n, 0, none⟩, l.length, l.length⟩
def upO (n : Nat) : Option (List UInt8) → Ups
  | none => []
  | some l => [(n, some (.cells (encs l) false))]
def nO (n : Nat) : Option (List UInt8) → Nat
  | none => n
  | some _ => n + 1
/-- what reading comes to -/
def rdE (n : Nat) (r : RR) : Eff := ⟨.tuple #[enc (⟨r.kind, slO n r.data⟩ : Record), .int .i64 (r.size : Int), enc r.next, .int .i64 (r.e : Int)], upO n r.data, nO n r.data⟩
theorem ren2_rec {g : Nat → Nat} {k : UInt8} {i l c : Nat} : ren2 g (enc (⟨k, ⟨some ⟨i, 0, none⟩, l, c⟩⟩ : Record)) = enc (⟨k, ⟨some ⟨g i, 0, none⟩, l, c⟩⟩ : Record) := by
  show Value.agg (#[Value.int .u8 (k.toNat : Int), Value.slice (some ⟨i, 0, none⟩) l c].map (ren1 g)) = .agg #[Value.int .u8 (k.toNat : Int), Value.slice (some ⟨g i, 0, none⟩) l c]
  simp [ren1]
theorem ok2_rec {p : Nat → Prop} {k : UInt8} {i l c : Nat} (h : p i) : okN2 p (enc (⟨k, ⟨some ⟨i, 0, none⟩, l, c⟩⟩ : Record)) := by
  intro x hx
  have hx : x ∈ [enc k, enc (⟨some ⟨i, 0, none⟩, l, c⟩ : Sl)] := hx
  simp only [List.mem_cons, List.not_mem_nil, or_false] at hx
  rcases hx with rfl | rfl
  · trivial
  · exact h
theorem ok2_rec0 {p : Nat → Prop} {k : UInt8} : okN2 p (enc (⟨k, ⟨none, 0, 0⟩⟩ : Record)) := by
  intro x hx
  have hx : x ∈ [enc k, enc (⟨none, 0, 0⟩ : Sl)] := hx
  simp only [List.mem_cons, List.not_mem_nil, or_false] at hx
  rcases hx with rfl | rfl <;> trivial
theorem RetP.rd0 {D : Ty} {rs : List ResultVar} {n n' : Nat} {H H' : IHeap} {ex : Exit} {t : List Value} {r : RR} (hx : ex = .normal ∨ ex = .ret) (hr : ires D t H' rs = some (.tuple #[enc (⟨r.kind, ⟨none, 0, 0⟩⟩ : Record), .int .i64 (r.size : Int), enc r.next, .int .i64 (r.e : Int)])) (hd : r.data = none) : RetP D rs n H (rdE n r) ex t H' n' := by
  obtain ⟨k, d, sz, nx, e⟩ := r
  simp only at hd; subst hd
  exact RetP.pure hx hr (okN_l4 ok2_rec0 trivial (ok2_vec8 _) trivial) (Nat.le_refl _)
theorem RetP.rd1 {D : Ty} {rs : List ResultVar} {n n' m : Nat} {H H' : IHeap} {ex : Exit} {t : List Value} {r : RR} {l : List UInt8} (hx : ex = .normal ∨ ex = .ret) (hr : ires D t H' rs = some (.tuple #[enc (⟨r.kind, ⟨some ⟨m, 0, none⟩, l.length, l.length⟩⟩ : Record), .int .i64 (r.size : Int), enc r.next, .int .i64 (r.e : Int)])) (hd : r.data = some l)
    (hm : n ≤ m) (hH : H' m = some (.cells (encs l) false)) : RetP D rs n H (rdE n r) ex t H' n' := by
  obtain ⟨k, d, sz, nx, e⟩ := r
  simp only at hd; subst hd
  refine RetP.news [m] (cs := [encs l]) hx hr ?_ rfl rfl ⟨hm, trivial⟩ (by simp) ⟨hH.trans (by rw [plains_ren (by rw [← cels_one]; exact u8_plain _)]), trivial⟩ (fun c hc => by simp only [List.mem_cons, List.not_mem_nil, or_false] at hc; subst hc; exact u8_okN1 _) (okN_l4 (ok2_rec (by show n < _; simp)) trivial (ok2_vec8 _) trivial)
  show _ = ren (gL n [m]) (.tuple #[enc (⟨k, ⟨some ⟨n, 0, none⟩, l.length, l.length⟩⟩ : Record), .int .i64 (sz : Int), enc nx, .int .i64 (e : Int)])
  rw [ren_l4, ren2_rec, ren2_vec8, gL_one]; rfl
noncomputable def F77 : FnI := fun args H n => match args with
  | [x, y] => (dec x).bind fun (c : Dig) => (rdC H y).bind fun (b : List UInt8) => if b.length ≤ 2 ^ 39 then some (rdE n (rdV c b)) else none
  | _ => none
theorem F77_inv {args : List Value} {H : IHeap} {n : Nat} {e : Eff} (h : F77 args H n = some e) : ∃ (c : Dig) (xa : Option Addr) (xc : Nat) (b : List UInt8), args = [enc c, .slice xa b.length xc] ∧ rdC H (.slice xa b.length xc) = some b ∧ b.length ≤ 2 ^ 39 ∧ e = rdE n (rdV c b) := by
  unfold F77 at h; split at h
  · simp only [Option.bind_eq_some_iff] at h
    obtain ⟨c, hc, b, hb, h⟩ := h
    split at h
    · cases h
      obtain ⟨xa, xc, rfl⟩ := rdC_len hb
      exact ⟨c, xa, xc, b, by rw [dec_some hc], hb, by assumption, rfl⟩
    · cases h
  · cases h
theorem F77_ev {H : IHeap} {n : Nat} {c : Dig} {y : Value} {b : List UInt8} (hb : rdC H y = some b) (h : b.length ≤ 2 ^ 39) : F77 [enc c, y] H n = some (rdE n (rdV c b)) := by
  simp only [F77, dec_enc, Option.bind_some, hb]
  rw [if_pos h]
set_option maxHeartbeats 1000000
-- headwater/record.read ['Vector UInt8 32', 'Sl'] -> ['Record', 'Int', 'Vector UInt8 32', 'Int'], results [[4, 69], 5, [6, 24], 7]
theorem R77 : Ref Try.prog 77 F77 := by
  refine Ref.of_iw dok Try.func77 rfl (by kernel_rfl) fun args H n e hF => ?_
  obtain ⟨c, xa, xc, b, rfl, hB, hle, rfl⟩ := F77_inv hF
  refine ⟨Nat.le_of_ble_eq_true rfl, ?_⟩
  simp only [idxL]
  have hE : Env Try.prog [(52, F52), (93, F93), (94, F94), (95, F95), (96, F96), (97, F97), (98, F98), (99, F99)] D K := env (fnsOk_cons R52 (fnsOk_cons R93 (fnsOk_cons R94 (fnsOk_cons R95 (fnsOk_cons R96 (fnsOk_cons R97 (fnsOk_cons R98 (fnsOk_cons R99 fnsOk_nil))))))))
  refine IW.seq ?_
  refine IW.free (by simp) (fun hfree => ?_)
  refine IW.reg hE ?_
  refine vcS_new rfl rfl (ox_box (pl rfl) rfl) (.inl (by omega)) ?_
  refine vcS_new rfl rfl (ox_allocZ D_69 (zero_69 D_69)) (.inl (by omega)) ?_
  refine vcS_val rfl rfl (ox_assign (pl rfl)) ?_
  refine vcS_new rfl rfl (ox_allocZ (cs := encs (Vector.replicate 32 (0 : UInt8)).toList) D_24 rfl) (.inl (by omega)) ?_
  refine vcS_val rfl rfl (ox_assign (pl rfl)) ?_
  refine vcS_nil ?_
  refine IW.seq ?_
  refine IW.reg hE ?_
  refine vcS_val rfl rfl (ox_move (pl rfl)) ?_
  refine vcS_ups rfl rfl (ox_fn rfl rfl (F93_ev (rdC_keep hfree hB (by exact ⟨by omega, ⟨by omega, ⟨by omega, trivial⟩⟩⟩)) (by omega))) rfl ⟨.inl (by omega), ⟨.inl (by omega), trivial⟩⟩ ?_
  refine vcS_val rfl rfl (ox_assign (pl rfl)) ?_
  refine vcS_nil ?_
  refine IW.seq ?_
  refine IW.reg hE ?_
  refine vcS_val rfl rfl (ox_move (pl rfl)) ?_
  refine vcS_ups rfl rfl (ox_fn rfl rfl (F94_ev 1 (IsR.mk (s := ⟨0, 0⟩) (hp_eq _ _ _ _) (hp_sk (by omega) (hp_eq _ _ _ _)) (Nat.zero_le _) (by omega) (by omega)) (by decide))) rfl ⟨.inl (by omega), trivial⟩ ?_
  refine vcS_val rfl rfl (cv_6_8 (pl rfl) D_22 D_5 rfl) ?_
  refine vcS_val rfl rfl (ox_fieldAddr (pl rfl) D_69 rfl rfl D_5 (by decide)) ?_
  refine vcS_sto rfl rfl (ox_store (pl rfl) (pl rfl) D_5 (hp_sk (by omega) (hp_sk (by omega) (hp_sk (by omega) (hp_sk (by omega) (hp_eq _ _ _ _))))) rfl rfl (Record.le _ rfl) rfl (wr_69_0 _ (kd b))) (.inl (by omega)) ?_
  refine vcS_nil ?_
  refine IW.seq ?_
  refine IW.seq ?_
  refine IW.reg hE ?_
  refine vcS_val rfl rfl (ox_move (pl rfl)) ?_
  refine vcS_val rfl rfl (ox_fn rfl rfl (F95_ev (IsR.mk (s := q1 b) (hp_sk (by omega) (hp_eq _ _ _ _)) (hp_sk (by omega) (hp_sk (by omega) (hp_sk (by omega) (hp_eq _ _ _ _)))) (q1_le b) (by omega) (by omega)))) ?_
  refine vcS_val rfl rfl (ox_bin (pl rfl) (pl rfl) (bo_i64_eql _ _)) ?_
  refine vcS_val rfl rfl (ox_move (pl rfl)) ?_
  refine vcS_opt rfl (wgT rfl rfl rfl) (fun hb => ox_fieldAddr (pl rfl) D_69 rfl rfl D_5 (by decide)) ?_
  refine vcS_opt rfl (wgT rfl rfl rfl) (fun hb => ox_load (gd hb rfl) D_5 (hp_eq _ _ _ _) (rd_69_0 _ rfl)) ?_
  refine vcS_opt rfl (wgT rfl rfl rfl) (fun hb => ox_bin (gd hb rfl) (pl (v := enc (0 : UInt8)) rfl) (bo_u8_eql _ _)) ?_
  refine vcS_val rfl rfl (ox_and (pl rfl) (fun hc => gd hc rfl) (pl rfl)) ?_
  refine vcS_nil ?_
  refine IW.cond rfl (fun hc1 => ?_) (fun hc1 => ?_)
  · have h1 : (q1 b).e = 0 ∧ kd b = 0 := by simpa using hc1
    have hv : rdV c b = ⟨kd b, none, 0, z32, 4⟩ := if_pos h1
    refine IW.seq ?_
    refine IW.drw hE mixed [[],[],[0],[0,2],[0,1,2,3],[0,1,2,3,4]] (by kernel_rfl) (vcE_start ?_)
    refine vcE_val rfl rfl rfl rfl (ox_load (pl rfl) D_69 (hp_eq _ _ _ _) (rd_69 _ rfl rfl)) rfl (si_load (pl rfl)) (lt1 (by omega)) (trivial) ?_
    refine vcE_val rfl rfl rfl rfl (ox_load (pl rfl) D_24 (hp_sk (by omega) (hp_sk (by omega) (hp_sk (by omega) (hp_sk (by omega) (hp_eq _ _ _ _))))) (rd_all rfl (encs_vec_length _))) rfl (si_load (pl rfl)) (lt1 (by omega)) (trivial) ?_
    refine vcE_sto rfl rfl rfl rfl (ox_store (pl rfl) (pl rfl) D_69 (hp_eq _ _ _ _) (cellsOf_Record _) (Record.cells_length _) (Record.le _ rfl) (Record.cells_known _) (wr_all (by simp only [Record.cells_length]))) rfl (si_store (pl rfl)) (is_some (hp_eq _ _ _ _)) (by omega) (.inl (by omega)) (trivial) (⟨cn1 (n0 := 0) (by omega), ⟨trivial, trivial⟩⟩) ?_
    refine vcE_bl rfl rfl (fun _ => ox_assign (pl rfl)) rfl rfl ?_
    refine vcE_sto rfl rfl rfl rfl (ox_store (pl rfl) (pl rfl) D_24 (hp_sk (by omega) (hp_sk (by omega) (hp_sk (by omega) (hp_sk (by omega) (hp_sk (by omega) (hp_eq _ _ _ _)))))) rfl (encs_vec_length _) (le_vec _ rfl) (encs_known _) (wr_all (by simp only [encs_vec_length]))) rfl (si_store (pl rfl)) (is_some (hp_sk (by omega) (hp_sk (by omega) (hp_sk (by omega) (hp_sk (by omega) (hp_sk (by omega) (hp_eq _ _ _ _))))))) (by omega) (.inl (by omega)) (⟨trivial, trivial⟩) (⟨trivial, ⟨trivial, ⟨trivial, trivial⟩⟩⟩) ?_
    refine vcE_bl rfl rfl (fun _ => ox_assign (pl rfl)) rfl rfl ?_
    refine vcE_nil ?_
    refine IW.ret ?_
    rw [hv]; exact RetP.rd0 (.inr rfl) (ires_l4 (ires_cell rfl D_69 (hp_sk (by omega) (hp_eq _ _ _ _)) (rd_69 (⟨kd b, ⟨none, 0, 0⟩⟩ : Record) rfl rfl)) (ires_tmp rfl) (ires_cell rfl D_24 (hp_eq _ _ _ _) (rd_all rfl (encs_vec_length z32))) (ires_tmp rfl)) rfl
  · have hn1 : ¬ ((q1 b).e = 0 ∧ kd b = 0) := fun h => by rw [h.1, h.2] at hc1; cases hc1
    refine IW.skip ?_
    refine IW.seq ?_
    refine IW.reg hE ?_
    refine vcS_val rfl rfl (ox_move (pl rfl)) ?_
    refine vcS_ups rfl rfl (ox_fn rfl rfl (F96_ev (IsR.mk (s := q1 b) (hp_sk (by omega) (hp_eq _ _ _ _)) (hp_sk (by omega) (hp_sk (by omega) (hp_sk (by omega) (hp_eq _ _ _ _)))) (q1_le b) (by omega) (by omega)))) rfl ⟨.inl (by omega), trivial⟩ ?_
    refine vcS_val rfl rfl (ox_assign (pl rfl)) ?_
    refine vcS_nil ?_
    refine IW.seq ?_
    refine IW.block ?_
    refine IW.seq ?_
    refine IW.reg hE ?_
    refine vcS_val rfl rfl (ox_move (pl rfl)) ?_
    refine vcS_val rfl rfl (ox_fn rfl rfl (F95_ev (IsR.mk (s := q2 b) (hp_eq _ _ _ _) (hp_sk (by omega) (hp_sk (by omega) (hp_sk (by omega) (hp_sk (by omega) (hp_eq _ _ _ _))))) (q2_le b) (by omega) (by omega)))) ?_
    refine vcS_val rfl rfl (ox_bin (pl rfl) (pl rfl) (bo_i64_neq _ _)) ?_
    refine vcS_val rfl rfl (ox_assign (pl rfl)) ?_
    refine vcS_nil ?_
    refine IW.cond rfl (fun hc2 => ?_) (fun hc2 => ?_)
    · have h2 : (q2 b).e ≠ 0 := by simpa using hc2
      have hv : rdV c b = ⟨kd b, none, 0, z32, if (q2 b).e = 4 then 4 else 5⟩ := by unfold rdV; rw [if_neg hn1, if_pos h2]
      refine IW.seq ?_
      refine IW.drw hE mixed [[],[],[],[2],[0,2,3],[0,2,3,4],[0,1,2,3,4,5],[0,1,2,3,4,5,6]] (by kernel_rfl) (vcE_start ?_)
      refine vcE_val rfl rfl rfl rfl (ox_load (pl rfl) D_69 (hp_sk (by omega) (hp_eq _ _ _ _)) (rd_69 _ rfl rfl)) rfl (si_load (pl rfl)) (lt1 (by omega)) (trivial) ?_
      refine vcE_val rfl rfl rfl rfl (ox_load (pl rfl) D_24 (hp_sk (by omega) (hp_sk (by omega) (hp_sk (by omega) (hp_sk (by omega) (hp_sk (by omega) (hp_eq _ _ _ _)))))) (rd_all rfl (encs_vec_length _))) rfl (si_load (pl rfl)) (lt1 (by omega)) (trivial) ?_
      refine vcE_bl rfl rfl (fun _ => ox_move (pl rfl)) rfl rfl ?_
      refine vcE_call rfl rfl rfl rfl (ox_fn rfl rfl (F97_ev (IsR.mk (s := q2 b) (hp_eq _ _ _ _) (hp_sk (by omega) (hp_sk (by omega) (hp_sk (by omega) (hp_sk (by omega) (hp_eq _ _ _ _))))) (q2_le b) (by omega) (by omega)))) rfl ltu0 (trivial) ?_
      refine vcE_sto rfl rfl rfl rfl (ox_store (pl rfl) (pl rfl) D_69 (hp_sk (by omega) (hp_eq _ _ _ _)) (cellsOf_Record _) (Record.cells_length _) (Record.le _ rfl) (Record.cells_known _) (wr_all (by simp only [Record.cells_length]))) rfl (si_store (pl rfl)) (is_some (hp_sk (by omega) (hp_eq _ _ _ _))) (by omega) (.inl (by omega)) (trivial) (⟨trivial, ⟨cn1 (n0 := 0) (by omega), ⟨trivial, trivial⟩⟩⟩) ?_
      refine vcE_bl rfl rfl (fun _ => ox_assign (pl rfl)) rfl rfl ?_
      refine vcE_sto rfl rfl rfl rfl (ox_store (pl rfl) (pl rfl) D_24 (hp_sk (by omega) (hp_sk (by omega) (hp_sk (by omega) (hp_sk (by omega) (hp_sk (by omega) (hp_sk (by omega) (hp_eq _ _ _ _))))))) rfl (encs_vec_length _) (le_vec _ rfl) (encs_known _) (wr_all (by simp only [encs_vec_length]))) rfl (si_store (pl rfl)) (is_some (hp_sk (by omega) (hp_sk (by omega) (hp_sk (by omega) (hp_sk (by omega) (hp_sk (by omega) (hp_sk (by omega) (hp_eq _ _ _ _)))))))) (by omega) (.inl (by omega)) (⟨trivial, trivial⟩) (⟨trivial, ⟨trivial, ⟨trivial, ⟨trivial, trivial⟩⟩⟩⟩) ?_
      refine vcE_bl rfl rfl (fun _ => ox_assign (pl rfl)) rfl rfl ?_
      refine vcE_nil ?_
      refine IW.ret ?_
      refine retB ?_
      rw [hv]; exact RetP.rd0 (.inr rfl) (ires_l4 (ires_cell rfl D_69 (hp_sk (by omega) (hp_eq _ _ _ _)) (rd_69 (⟨kd b, ⟨none, 0, 0⟩⟩ : Record) rfl rfl)) (ires_tmp rfl) (ires_cell rfl D_24 (hp_eq _ _ _ _) (rd_all rfl (encs_vec_length z32))) (ires_tmp rfl)) rfl
    · have h2 : ¬ (q2 b).e ≠ 0 := by simpa using hc2
      refine IW.seq ?_
      refine IW.reg hE ?_
      refine vcS_val rfl rfl (ox_move (pl rfl)) ?_
      refine vcS_val rfl rfl (ox_bin (pl rfl) (pl (v := enc (8192 : UInt64)) rfl) (bo_u64_gtr _ _)) ?_
      refine vcS_val rfl rfl (ox_assign (pl rfl)) ?_
      refine vcS_nil ?_
      refine IW.cond rfl (fun hc3 => ?_) (fun hc3 => ?_)
      · replace hc3 := of_decide_eq_true hc3
        replace hc3 : 8192 < nn b := hc3
        have hv : rdV c b = ⟨kd b, none, 0, z32, 4⟩ := by unfold rdV; rw [if_neg hn1, if_neg h2, if_pos hc3]
        refine IW.seq ?_
        refine IW.drw hE mixed [[],[],[0],[0,2],[0,1,2,3],[0,1,2,3,4]] (by kernel_rfl) (vcE_start ?_)
        refine vcE_val rfl rfl rfl rfl (ox_load (pl rfl) D_69 (hp_sk (by omega) (hp_eq _ _ _ _)) (rd_69 _ rfl rfl)) rfl (si_load (pl rfl)) (lt1 (by omega)) (trivial) ?_
        refine vcE_val rfl rfl rfl rfl (ox_load (pl rfl) D_24 (hp_sk (by omega) (hp_sk (by omega) (hp_sk (by omega) (hp_sk (by omega) (hp_sk (by omega) (hp_eq _ _ _ _)))))) (rd_all rfl (encs_vec_length _))) rfl (si_load (pl rfl)) (lt1 (by omega)) (trivial) ?_
        refine vcE_sto rfl rfl rfl rfl (ox_store (pl rfl) (pl rfl) D_69 (hp_sk (by omega) (hp_eq _ _ _ _)) (cellsOf_Record _) (Record.cells_length _) (Record.le _ rfl) (Record.cells_known _) (wr_all (by simp only [Record.cells_length]))) rfl (si_store (pl rfl)) (is_some (hp_sk (by omega) (hp_eq _ _ _ _))) (by omega) (.inl (by omega)) (trivial) (⟨cn1 (n0 := 0) (by omega), ⟨trivial, trivial⟩⟩) ?_
        refine vcE_bl rfl rfl (fun _ => ox_assign (pl rfl)) rfl rfl ?_
        refine vcE_sto rfl rfl rfl rfl (ox_store (pl rfl) (pl rfl) D_24 (hp_sk (by omega) (hp_sk (by omega) (hp_sk (by omega) (hp_sk (by omega) (hp_sk (by omega) (hp_sk (by omega) (hp_eq _ _ _ _))))))) rfl (encs_vec_length _) (le_vec _ rfl) (encs_known _) (wr_all (by simp only [encs_vec_length]))) rfl (si_store (pl rfl)) (is_some (hp_sk (by omega) (hp_sk (by omega) (hp_sk (by omega) (hp_sk (by omega) (hp_sk (by omega) (hp_sk (by omega) (hp_eq _ _ _ _)))))))) (by omega) (.inl (by omega)) (⟨trivial, trivial⟩) (⟨trivial, ⟨trivial, ⟨trivial, trivial⟩⟩⟩) ?_
        refine vcE_bl rfl rfl (fun _ => ox_assign (pl rfl)) rfl rfl ?_
        refine vcE_nil ?_
        refine IW.ret ?_
        refine retB ?_
        rw [hv]; exact RetP.rd0 (.inr rfl) (ires_l4 (ires_cell rfl D_69 (hp_sk (by omega) (hp_eq _ _ _ _)) (rd_69 (⟨kd b, ⟨none, 0, 0⟩⟩ : Record) rfl rfl)) (ires_tmp rfl) (ires_cell rfl D_24 (hp_eq _ _ _ _) (rd_all rfl (encs_vec_length z32))) (ires_tmp rfl)) rfl
      · replace hc3 := of_decide_eq_false hc3
        replace hc3 : ¬ 8192 < nn b := hc3
        have hnb : (nn b).toNat < 2 ^ 63 := by have h := UInt64.le_iff_toNat_le.1 (UInt64.not_lt.1 hc3); have e : (8192 : UInt64).toNat = 8192 := rfl; omega
        have hnb2 : (nn b).toNat ≤ 8192 := by have h := UInt64.le_iff_toNat_le.1 (UInt64.not_lt.1 hc3); have e : (8192 : UInt64).toNat = 8192 := rfl; omega
        refine IW.skip ?_
        refine IW.nilB ?_
        refine IW.seq ?_
        cases ho : tkOk b (q2 b) (nn b).toNat
        · have ho3 : tkOk b (q3 b) 8 = false := tk_e_no (tk_no_e ho)
          have hda : dat b = none := by unfold dat; rw [ho]; rfl
          have hq4 : (q4 b).e ≠ 0 := tk_no_e ho3
          refine IW.reg hE ?_
          refine vcS_val rfl rfl (ox_move (pl rfl)) ?_
          refine vcS_val rfl rfl (ox_move (pl rfl)) ?_
          refine vcS_val rfl rfl (cv_6_i (pl rfl) D_22 D_3 rfl hnb) ?_
          refine vcS_ups rfl rfl (ox_fn rfl rfl (F98_no (nn b).toNat (IsR.mk (s := q2 b) (hp_eq _ _ _ _) (hp_sk (by omega) (hp_sk (by omega) (hp_sk (by omega) (hp_sk (by omega) (hp_eq _ _ _ _))))) (q2_le b) (by omega) (by omega)) rfl (by omega) ho)) rfl ⟨.inl (by omega), trivial⟩ ?_
          refine vcS_val rfl rfl (ox_fieldAddr (pl rfl) D_69 rfl rfl D_35 (by decide)) ?_
          refine vcS_sto rfl rfl (ox_store (pl rfl) (pl rfl) D_35 (hp_sk (by omega) (hp_sk (by omega) (hp_eq _ _ _ _))) rfl rfl (Record.le _ rfl) rfl (wr_69_1 _ (⟨none, 0, 0⟩ : Sl))) (.inl (by omega)) ?_
          refine vcS_nil ?_
          refine IW.seq ?_
          refine IW.reg hE ?_
          refine vcS_val rfl rfl (ox_move (pl rfl)) ?_
          refine vcS_ups rfl rfl (ox_fn rfl rfl (F98_no 8 (IsR.mk (s := q3 b) (hp_sk (by omega) (hp_eq _ _ _ _)) (hp_sk (by omega) (hp_sk (by omega) (hp_sk (by omega) (hp_sk (by omega) (hp_sk (by omega) (hp_sk (by omega) (hp_eq _ _ _ _))))))) (q3_le b) (by omega) (by omega)) rfl (by decide) ho3)) rfl ⟨.inl (by omega), trivial⟩ ?_
          refine vcS_val rfl rfl (ox_assign (pl rfl)) ?_
          refine vcS_nil ?_
          refine IW.seq ?_
          refine IW.seq ?_
          refine IW.reg hE ?_
          refine vcS_val rfl rfl (ox_move (pl rfl)) ?_
          refine vcS_val rfl rfl (ox_fn rfl rfl (F95_ev (IsR.mk (s := q4 b) (hp_eq _ _ _ _) (hp_sk (by omega) (hp_sk (by omega) (hp_sk (by omega) (hp_sk (by omega) (hp_sk (by omega) (hp_sk (by omega) (hp_sk (by omega) (hp_eq _ _ _ _)))))))) (q4_le b) (by omega) (by omega)))) ?_
          refine vcS_val rfl rfl (ox_bin (pl rfl) (pl rfl) (bo_i64_neq _ _)) ?_
          refine vcS_nil ?_
          refine IW.cond rfl (fun hc4 => ?_) (fun hc4 => ?_)
          · have hv : rdV c b = ⟨kd b, dat b, 0, z32, 5⟩ := by unfold rdV; rw [if_neg hn1, if_neg h2, if_neg hc3, if_pos hq4]
            refine IW.seq ?_
            refine IW.drw hE mixed [[],[],[0],[0,2],[0,1,2,3],[0,1,2,3,4]] (by kernel_rfl) (vcE_start ?_)
            refine vcE_val rfl rfl rfl rfl (ox_load (pl rfl) D_69 (hp_sk (by omega) (hp_eq _ _ _ _)) (rd_69 _ rfl rfl)) rfl (si_load (pl rfl)) (lt1 (by omega)) (trivial) ?_
            refine vcE_val rfl rfl rfl rfl (ox_load (pl rfl) D_24 (hp_sk (by omega) (hp_sk (by omega) (hp_sk (by omega) (hp_sk (by omega) (hp_sk (by omega) (hp_sk (by omega) (hp_sk (by omega) (hp_sk (by omega) (hp_eq _ _ _ _))))))))) (rd_all rfl (encs_vec_length _))) rfl (si_load (pl rfl)) (lt1 (by omega)) (trivial) ?_
            refine vcE_sto rfl rfl rfl rfl (ox_store (pl rfl) (pl rfl) D_69 (hp_sk (by omega) (hp_eq _ _ _ _)) (cellsOf_Record _) (Record.cells_length _) (Record.le _ rfl) (Record.cells_known _) (wr_all (by simp only [Record.cells_length]))) rfl (si_store (pl rfl)) (is_some (hp_sk (by omega) (hp_eq _ _ _ _))) (by omega) (.inl (by omega)) (trivial) (⟨cn1 (n0 := 0) (by omega), ⟨trivial, trivial⟩⟩) ?_
            refine vcE_bl rfl rfl (fun _ => ox_assign (pl rfl)) rfl rfl ?_
            refine vcE_sto rfl rfl rfl rfl (ox_store (pl rfl) (pl rfl) D_24 (hp_sk (by omega) (hp_sk (by omega) (hp_sk (by omega) (hp_sk (by omega) (hp_sk (by omega) (hp_sk (by omega) (hp_sk (by omega) (hp_sk (by omega) (hp_sk (by omega) (hp_eq _ _ _ _)))))))))) rfl (encs_vec_length _) (le_vec _ rfl) (encs_known _) (wr_all (by simp only [encs_vec_length]))) rfl (si_store (pl rfl)) (is_some (hp_sk (by omega) (hp_sk (by omega) (hp_sk (by omega) (hp_sk (by omega) (hp_sk (by omega) (hp_sk (by omega) (hp_sk (by omega) (hp_sk (by omega) (hp_sk (by omega) (hp_eq _ _ _ _))))))))))) (by omega) (.inl (by omega)) (⟨trivial, trivial⟩) (⟨trivial, ⟨trivial, ⟨trivial, trivial⟩⟩⟩) ?_
            refine vcE_bl rfl rfl (fun _ => ox_assign (pl rfl)) rfl rfl ?_
            refine vcE_nil ?_
            refine IW.ret ?_
            rw [hv]; exact RetP.rd0 (.inr rfl) (ires_l4 (ires_cell rfl D_69 (hp_sk (by omega) (hp_eq _ _ _ _)) (rd_69 (⟨kd b, ⟨none, 0, 0⟩⟩ : Record) rfl rfl)) (ires_tmp rfl) (ires_cell rfl D_24 (hp_eq _ _ _ _) (rd_all rfl (encs_vec_length z32))) (ires_tmp rfl)) hda
          · exact absurd (show (q4 b).e = 0 by simpa using hc4) hq4
        · have hda : dat b = some (dl b) := if_pos ho
          have hdl : (dl b).length ≤ (nn b).toNat := tkL_length
          refine IW.reg hE ?_
          refine vcS_val rfl rfl (ox_move (pl rfl)) ?_
          refine vcS_val rfl rfl (ox_move (pl rfl)) ?_
          refine vcS_val rfl rfl (cv_6_i (pl rfl) D_22 D_3 rfl hnb) ?_
          refine vcS_ups rfl rfl (ox_fn rfl rfl (F98_ok (nn b).toNat (IsR.mk (s := q2 b) (hp_eq _ _ _ _) (hp_sk (by omega) (hp_sk (by omega) (hp_sk (by omega) (hp_sk (by omega) (hp_eq _ _ _ _))))) (q2_le b) (by omega) (by omega)) rfl (by omega) ho)) rfl ⟨.inl (by omega), ⟨.inl (by omega), trivial⟩⟩ ?_
          refine vcS_val rfl rfl (ox_fieldAddr (pl rfl) D_69 rfl rfl D_35 (by decide)) ?_
          refine vcS_sto rfl rfl (ox_store (pl rfl) (pl rfl) D_35 (hp_sk (by omega) (hp_sk (by omega) (hp_sk (by omega) (hp_eq _ _ _ _)))) rfl rfl (Record.le _ rfl) rfl (wr_69_1 _ (⟨some ⟨n + 1 + 1 + 1 + 2, 0, none⟩, (dl b).length, (dl b).length⟩ : Sl))) (.inl (by omega)) ?_
          refine vcS_nil ?_
          refine IW.seq ?_
          cases ho3 : tkOk b (q3 b) 8
          · have hq4 : (q4 b).e ≠ 0 := tk_no_e ho3
            refine IW.reg hE ?_
            refine vcS_val rfl rfl (ox_move (pl rfl)) ?_
            refine vcS_ups rfl rfl (ox_fn rfl rfl (F98_no 8 (IsR.mk (s := q3 b) (hp_sk (by omega) (hp_sk (by omega) (hp_eq _ _ _ _))) (hp_sk (by omega) (hp_sk (by omega) (hp_sk (by omega) (hp_sk (by omega) (hp_sk (by omega) (hp_sk (by omega) (hp_sk (by omega) (hp_eq _ _ _ _)))))))) (q3_le b) (by omega) (by omega)) rfl (by decide) ho3)) rfl ⟨.inl (by omega), trivial⟩ ?_
            refine vcS_val rfl rfl (ox_assign (pl rfl)) ?_
            refine vcS_nil ?_
            refine IW.seq ?_
            refine IW.seq ?_
            refine IW.reg hE ?_
            refine vcS_val rfl rfl (ox_move (pl rfl)) ?_
            refine vcS_val rfl rfl (ox_fn rfl rfl (F95_ev (IsR.mk (s := q4 b) (hp_eq _ _ _ _) (hp_sk (by omega) (hp_sk (by omega) (hp_sk (by omega) (hp_sk (by omega) (hp_sk (by omega) (hp_sk (by omega) (hp_sk (by omega) (hp_sk (by omega) (hp_eq _ _ _ _))))))))) (q4_le b) (by omega) (by omega)))) ?_
            refine vcS_val rfl rfl (ox_bin (pl rfl) (pl rfl) (bo_i64_neq _ _)) ?_
            refine vcS_nil ?_
            refine IW.cond rfl (fun hc5 => ?_) (fun hc5 => ?_)
            · have hv : rdV c b = ⟨kd b, dat b, 0, z32, 5⟩ := by unfold rdV; rw [if_neg hn1, if_neg h2, if_neg hc3, if_pos hq4]
              refine IW.seq ?_
              refine IW.drw hE mixed [[],[],[0],[0,2],[0,1,2,3],[0,1,2,3,4]] (by kernel_rfl) (vcE_start ?_)
              refine vcE_val rfl rfl rfl rfl (ox_load (pl rfl) D_69 (hp_sk (by omega) (hp_eq _ _ _ _)) (rd_69 _ rfl rfl)) rfl (si_load (pl rfl)) (lt1 (by omega)) (trivial) ?_
              refine vcE_val rfl rfl rfl rfl (ox_load (pl rfl) D_24 (hp_sk (by omega) (hp_sk (by omega) (hp_sk (by omega) (hp_sk (by omega) (hp_sk (by omega) (hp_sk (by omega) (hp_sk (by omega) (hp_sk (by omega) (hp_sk (by omega) (hp_eq _ _ _ _)))))))))) (rd_all rfl (encs_vec_length _))) rfl (si_load (pl rfl)) (lt1 (by omega)) (trivial) ?_
              refine vcE_sto rfl rfl rfl rfl (ox_store (pl rfl) (pl rfl) D_69 (hp_sk (by omega) (hp_eq _ _ _ _)) (cellsOf_Record _) (Record.cells_length _) (Record.le _ rfl) (Record.cells_known _) (wr_all (by simp only [Record.cells_length]))) rfl (si_store (pl rfl)) (is_some (hp_sk (by omega) (hp_eq _ _ _ _))) (by omega) (.inl (by omega)) (trivial) (⟨cn1 (n0 := 0) (by omega), ⟨trivial, trivial⟩⟩) ?_
              refine vcE_bl rfl rfl (fun _ => ox_assign (pl rfl)) rfl rfl ?_
              refine vcE_sto rfl rfl rfl rfl (ox_store (pl rfl) (pl rfl) D_24 (hp_sk (by omega) (hp_sk (by omega) (hp_sk (by omega) (hp_sk (by omega) (hp_sk (by omega) (hp_sk (by omega) (hp_sk (by omega) (hp_sk (by omega) (hp_sk (by omega) (hp_sk (by omega) (hp_eq _ _ _ _))))))))))) rfl (encs_vec_length _) (le_vec _ rfl) (encs_known _) (wr_all (by simp only [encs_vec_length]))) rfl (si_store (pl rfl)) (is_some (hp_sk (by omega) (hp_sk (by omega) (hp_sk (by omega) (hp_sk (by omega) (hp_sk (by omega) (hp_sk (by omega) (hp_sk (by omega) (hp_sk (by omega) (hp_sk (by omega) (hp_sk (by omega) (hp_eq _ _ _ _)))))))))))) (by omega) (.inl (by omega)) (⟨trivial, trivial⟩) (⟨trivial, ⟨trivial, ⟨trivial, trivial⟩⟩⟩) ?_
              refine vcE_bl rfl rfl (fun _ => ox_assign (pl rfl)) rfl rfl ?_
              refine vcE_nil ?_
              refine IW.ret ?_
              rw [hv]; exact RetP.rd1 (.inr rfl) (ires_l4 (ires_cell rfl D_69 (hp_sk (by omega) (hp_eq _ _ _ _)) (rd_69 (⟨kd b, (⟨some ⟨n + 1 + 1 + 1 + 2, 0, none⟩, (dl b).length, (dl b).length⟩ : Sl)⟩ : Record) rfl rfl)) (ires_tmp rfl) (ires_cell rfl D_24 (hp_eq _ _ _ _) (rd_all rfl (encs_vec_length z32))) (ires_tmp rfl)) hda (by omega) ((hp_sk (by omega) (hp_sk (by omega) (hp_sk (by omega) (hp_sk (by omega) (hp_eq _ _ _ _))))))
            · exact absurd (show (q4 b).e = 0 by simpa using hc5) hq4
          · have hq4 : (q4 b).e = 0 := tk_ok_e ho3
            refine IW.reg hE ?_
            refine vcS_val rfl rfl (ox_move (pl rfl)) ?_
            refine vcS_ups rfl rfl (ox_fn rfl rfl (F98_ok 8 (IsR.mk (s := q3 b) (hp_sk (by omega) (hp_sk (by omega) (hp_eq _ _ _ _))) (hp_sk (by omega) (hp_sk (by omega) (hp_sk (by omega) (hp_sk (by omega) (hp_sk (by omega) (hp_sk (by omega) (hp_sk (by omega) (hp_eq _ _ _ _)))))))) (q3_le b) (by omega) (by omega)) rfl (by decide) ho3)) rfl ⟨.inl (by omega), ⟨.inl (by omega), trivial⟩⟩ ?_
            refine vcS_val rfl rfl (ox_assign (pl rfl)) ?_
            refine vcS_nil ?_
            refine IW.seq ?_
            refine IW.seq ?_
            refine IW.reg hE ?_
            refine vcS_val rfl rfl (ox_move (pl rfl)) ?_
            refine vcS_val rfl rfl (ox_fn rfl rfl (F95_ev (IsR.mk (s := q4 b) (hp_sk (by omega) (hp_eq _ _ _ _)) (hp_sk (by omega) (hp_sk (by omega) (hp_sk (by omega) (hp_sk (by omega) (hp_sk (by omega) (hp_sk (by omega) (hp_sk (by omega) (hp_sk (by omega) (hp_sk (by omega) (hp_eq _ _ _ _)))))))))) (q4_le b) (by omega) (by omega)))) ?_
            refine vcS_val rfl rfl (ox_bin (pl rfl) (pl rfl) (bo_i64_neq _ _)) ?_
            refine vcS_nil ?_
            refine IW.cond rfl (fun hc6 => ?_) (fun hc6 => ?_)
            · exact absurd hq4 (show (q4 b).e ≠ 0 by simpa using hc6)
            · refine IW.skip ?_
              refine IW.seq ?_
              refine IW.reg hE ?_
              refine vcS_val rfl rfl (ox_load (pl rfl) D_24 (hp_sk (by omega) (hp_sk (by omega) (hp_sk (by omega) (hp_sk (by omega) (hp_sk (by omega) (hp_sk (by omega) (hp_sk (by omega) (hp_sk (by omega) (hp_sk (by omega) (hp_sk (by omega) (hp_sk (by omega) (hp_sk (by omega) (hp_eq _ _ _ _))))))))))))) (rd_all rfl (encs_vec_length _))) ?_
              refine vcS_val rfl rfl (ox_load (pl rfl) D_69 (hp_sk (by omega) (hp_sk (by omega) (hp_eq _ _ _ _))) (rd_69 _ rfl rfl)) ?_
              refine vcS_val rfl rfl (ox_fn rfl rfl (recFc_ev (a := (⟨kd b, (⟨some ⟨n + 1 + 1 + 1 + 2, 0, none⟩, (dl b).length, (dl b).length⟩ : Sl)⟩ : Record)) (c := dl b) (rdC_1all (hp_sk (by omega) (hp_sk (by omega) (hp_sk (by omega) (hp_eq _ _ _ _)))) rfl) (by omega) rfl)) ?_
              refine vcS_sto rfl rfl (ox_store (pl rfl) (pl rfl) D_24 (hp_sk (by omega) (hp_sk (by omega) (hp_sk (by omega) (hp_sk (by omega) (hp_sk (by omega) (hp_sk (by omega) (hp_sk (by omega) (hp_sk (by omega) (hp_sk (by omega) (hp_sk (by omega) (hp_eq _ _ _ _))))))))))) rfl (encs_vec_length _) (le_vec _ rfl) (encs_known _) (wr_all (by simp only [encs_vec_length]))) (.inl (by omega)) ?_
              refine vcS_nil ?_
              refine IW.seq ?_
              refine IW.seq ?_
              refine IW.drw hE mixed [[],[0],[],[2],[0,1,2,3]] (by kernel_rfl) (vcE_start ?_)
              refine vcE_bl rfl rfl (fun _ => ox_move (pl rfl)) rfl rfl ?_
              refine vcE_val rfl rfl rfl rfl (ox_cvS (pl rfl) D_35 rfl D_5 rfl D_9 rfl (rdC_1all (l := mk8 b) (hp_sk (by omega) (hp_eq _ _ _ _)) rfl)) rfl (si_conv (pl rfl)) (lt1 (by omega)) (trivial) ?_
              refine vcE_bl rfl rfl (fun _ => ox_slAH (pl rfl) D_24 rfl D_5 (bndI (pl rfl) rfl) (by first | omega | decide)) rfl rfl ?_
              refine vcE_val rfl rfl rfl rfl (ox_cvS (pl rfl) D_35 rfl D_5 rfl D_9 rfl (rdC_sl0 (len := 32) (rdC_1all (l := (nextV c (kd b) (dl b)).toList) (hp_eq _ _ _ _) (by simp)) (by decide))) rfl (si_conv (pl rfl)) (lt1 (by omega)) (trivial) ?_
              refine vcE_bl rfl rfl (fun _ => ox_bin (pl rfl) (pl rfl) (bo_str_neq _ _)) rfl rfl ?_
              refine vcE_nil ?_
              refine IW.cond rfl (fun hc7 => ?_) (fun hc7 => ?_)
              · have h7 : mk8 b ≠ (nextV c (kd b) (dl b)).toList.take 8 := by simpa using hc7
                have hv : rdV c b = ⟨kd b, dat b, 0, (nextV c (kd b) (dl b)), 4⟩ := by unfold rdV; rw [if_neg hn1, if_neg h2, if_neg hc3, if_neg (not_not_intro hq4), if_pos h7]
                refine IW.seq ?_
                refine IW.drw hE mixed [[],[],[0],[0,2],[0,1,2,3],[0,1,2,3,4]] (by kernel_rfl) (vcE_start ?_)
                refine vcE_val rfl rfl rfl rfl (ox_load (pl rfl) D_69 (hp_sk (by omega) (hp_sk (by omega) (hp_sk (by omega) (hp_eq _ _ _ _)))) (rd_69 _ rfl rfl)) rfl (si_load (pl rfl)) (lt1 (by omega)) (trivial) ?_
                refine vcE_val rfl rfl rfl rfl (ox_load (pl rfl) D_24 (hp_eq _ _ _ _) (rd_all rfl (encs_vec_length _))) rfl (si_load (pl rfl)) (lt1 (by omega)) (trivial) ?_
                refine vcE_sto rfl rfl rfl rfl (ox_store (pl rfl) (pl rfl) D_69 (hp_sk (by omega) (hp_sk (by omega) (hp_sk (by omega) (hp_eq _ _ _ _)))) (cellsOf_Record _) (Record.cells_length _) (Record.le _ rfl) (Record.cells_known _) (wr_all (by simp only [Record.cells_length]))) rfl (si_store (pl rfl)) (is_some (hp_sk (by omega) (hp_sk (by omega) (hp_sk (by omega) (hp_eq _ _ _ _))))) (by omega) (.inl (by omega)) (trivial) (⟨cn1 (n0 := 0) (by omega), ⟨trivial, trivial⟩⟩) ?_
                refine vcE_bl rfl rfl (fun _ => ox_assign (pl rfl)) rfl rfl ?_
                refine vcE_sto rfl rfl rfl rfl (ox_store (pl rfl) (pl rfl) D_24 (hp_sk (by omega) (hp_eq _ _ _ _)) rfl (encs_vec_length _) (le_vec _ rfl) (encs_known _) (wr_all (by simp only [encs_vec_length]))) rfl (si_store (pl rfl)) (is_some (hp_sk (by omega) (hp_eq _ _ _ _))) (by omega) (.inl (by omega)) (⟨trivial, trivial⟩) (⟨trivial, ⟨trivial, ⟨trivial, trivial⟩⟩⟩) ?_
                refine vcE_bl rfl rfl (fun _ => ox_assign (pl rfl)) rfl rfl ?_
                refine vcE_nil ?_
                refine IW.ret ?_
                rw [hv]; exact RetP.rd1 (.inr rfl) (ires_l4 (ires_cell rfl D_69 (hp_sk (by omega) (hp_eq _ _ _ _)) (rd_69 (⟨kd b, (⟨some ⟨n + 1 + 1 + 1 + 2, 0, none⟩, (dl b).length, (dl b).length⟩ : Sl)⟩ : Record) rfl rfl)) (ires_tmp rfl) (ires_cell rfl D_24 (hp_eq _ _ _ _) (rd_all rfl (encs_vec_length (nextV c (kd b) (dl b))))) (ires_tmp rfl)) hda (by omega) ((hp_sk (by omega) (hp_sk (by omega) (hp_sk (by omega) (hp_sk (by omega) (hp_sk (by omega) (hp_sk (by omega) (hp_eq _ _ _ _))))))))
              · have h7 : ¬ mk8 b ≠ (nextV c (kd b) (dl b)).toList.take 8 := by simpa using hc7
                have hv : rdV c b = ⟨kd b, dat b, (q4 b).at_, (nextV c (kd b) (dl b)), 0⟩ := by unfold rdV; rw [if_neg hn1, if_neg h2, if_neg hc3, if_neg (not_not_intro hq4), if_neg h7]
                refine IW.skip ?_
                refine IW.seq ?_
                refine IW.drw hE mixed [[],[],[1],[],[3],[1,2,3,4],[],[0,3,4],[0,1,2,3,4,5,7],[0,1,2,3,4,5,6,7,8],[0,1,2,3,4,5,6,7,8,9]] (by kernel_rfl) (vcE_start ?_)
                refine vcE_val rfl rfl rfl rfl (ox_load (pl rfl) D_69 (hp_sk (by omega) (hp_sk (by omega) (hp_sk (by omega) (hp_eq _ _ _ _)))) (rd_69 _ rfl rfl)) rfl (si_load (pl rfl)) (lt1 (by omega)) (trivial) ?_
                refine vcE_bl rfl rfl (fun _ => ox_move (pl rfl)) rfl rfl ?_
                refine vcE_bl rfl rfl (fun _ => ox_len (pl rfl) D_35 rfl) rfl rfl ?_
                refine vcE_bl rfl rfl (fun _ => ox_move (pl rfl)) rfl rfl ?_
                refine vcE_call rfl rfl rfl rfl (ox_fn rfl rfl (F99_ev (IsR.mk (s := q4 b) (hp_sk (by omega) (hp_sk (by omega) (hp_eq _ _ _ _))) (hp_sk (by omega) (hp_sk (by omega) (hp_sk (by omega) (hp_sk (by omega) (hp_sk (by omega) (hp_sk (by omega) (hp_sk (by omega) (hp_sk (by omega) (hp_sk (by omega) (hp_sk (by omega) (hp_eq _ _ _ _))))))))))) (q4_le b) (by omega) (by omega)))) rfl ltu0 (trivial) ?_
                refine vcE_bl rfl rfl (fun _ => ox_bin (pl rfl) (pl rfl) ((bo_i64_sub (by omega)).trans (congrArg (fun z => some (Value.int .i64 z)) (show (b.length : Int) - ((b.length - (q4 b).at_ : Nat) : Int) = (((q4 b).at_ : Nat) : Int) by have := q4_le b; omega)))) rfl rfl ?_
                refine vcE_val rfl rfl rfl rfl (ox_load (pl rfl) D_24 (hp_eq _ _ _ _) (rd_all rfl (encs_vec_length _))) rfl (si_load (pl rfl)) (lt1 (by omega)) (trivial) ?_
                refine vcE_sto rfl rfl rfl rfl (ox_store (pl rfl) (pl rfl) D_69 (hp_sk (by omega) (hp_sk (by omega) (hp_sk (by omega) (hp_eq _ _ _ _)))) (cellsOf_Record _) (Record.cells_length _) (Record.le _ rfl) (Record.cells_known _) (wr_all (by simp only [Record.cells_length]))) rfl (si_store (pl rfl)) (is_some (hp_sk (by omega) (hp_sk (by omega) (hp_sk (by omega) (hp_eq _ _ _ _))))) (by omega) (.inl (by omega)) (trivial) (⟨cn1 (n0 := 0) (by omega), ⟨trivial, ⟨trivial, trivial⟩⟩⟩) ?_
                refine vcE_bl rfl rfl (fun _ => ox_assign (pl rfl)) rfl rfl ?_
                refine vcE_sto rfl rfl rfl rfl (ox_store (pl rfl) (pl rfl) D_24 (hp_sk (by omega) (hp_eq _ _ _ _)) rfl (encs_vec_length _) (le_vec _ rfl) (encs_known _) (wr_all (by simp only [encs_vec_length]))) rfl (si_store (pl rfl)) (is_some (hp_sk (by omega) (hp_eq _ _ _ _))) (by omega) (.inl (by omega)) (⟨trivial, trivial⟩) (⟨trivial, ⟨trivial, ⟨trivial, ⟨trivial, trivial⟩⟩⟩⟩) ?_
                refine vcE_bl rfl rfl (fun _ => ox_assign (pl rfl)) rfl rfl ?_
                refine vcE_nil ?_
                refine IW.ret ?_
                rw [hv]; exact RetP.rd1 (.inr rfl) (ires_l4 (ires_cell rfl D_69 (hp_sk (by omega) (hp_eq _ _ _ _)) (rd_69 (⟨kd b, (⟨some ⟨n + 1 + 1 + 1 + 2, 0, none⟩, (dl b).length, (dl b).length⟩ : Sl)⟩ : Record) rfl rfl)) (ires_tmp rfl) (ires_cell rfl D_24 (hp_eq _ _ _ _) (rd_all rfl (encs_vec_length (nextV c (kd b) (dl b))))) (ires_tmp rfl)) hda (by omega) ((hp_sk (by omega) (hp_sk (by omega) (hp_sk (by omega) (hp_sk (by omega) (hp_sk (by omega) (hp_sk (by omega) (hp_eq _ _ _ _))))))))
end Go.Proofs.Ytdnnojblneccdaa
/-
  record.Read.
-/
namespace Go.Proofs.Ytdnnojblneccdaa
set_option linter.unusedSimpArgs false
set_option linter.unusedVariables false
open Go
open Enc (enc)
set_option maxRecDepth 100000
theorem F77_none {H : IHeap} {n : Nat} {c : Dig} {y : Value} {b : List UInt8} (hb : rdC H y = some b) (h : b.length ≤ 2 ^ 39) (hd : (rdV c b).data = none) : F77 [enc c, y] H n = some ⟨.tuple #[enc (⟨(rdV c b).kind, ⟨none, 0, 0⟩⟩ : Record), .int .i64 ((rdV c b).size : Int), enc (rdV c b).next, .int .i64 ((rdV c b).e : Int)], [], n⟩ := by
  rw [F77_ev hb h, rdE, hd]; rfl
theorem F77_some {H : IHeap} {n : Nat} {c : Dig} {y : Value} {b l : List UInt8} (hb : rdC H y = some b) (h : b.length ≤ 2 ^ 39) (hd : (rdV c b).data = some l) : F77 [enc c, y] H n = some ⟨.tuple #[enc (⟨(rdV c b).kind, ⟨some ⟨n, 0, none⟩, l.length, l.length⟩⟩ : Record), .int .i64 ((rdV c b).size : Int), enc (rdV c b).next, .int .i64 ((rdV c b).e : Int)], [(n, some (.cells (encs l) false))], n + 1⟩ := by
  rw [F77_ev hb h, rdE, hd]; rfl
theorem rdV_ok {c : Dig} {b : List UInt8} (h : (rdV c b).e = 0) : ¬ ((q1 b).e = 0 ∧ kd b = 0) ∧ ¬ (q2 b).e ≠ 0 ∧ ¬ 8192 < nn b ∧ (q4 b).e = 0 ∧ mk8 b = (nextV c (kd b) (dl b)).toList.take 8 := by
  unfold rdV at h
  by_cases h1 : (q1 b).e = 0 ∧ kd b = 0
  · rw [if_pos h1] at h; cases h
  rw [if_neg h1] at h
  by_cases h2 : (q2 b).e ≠ 0
  · rw [if_pos h2] at h
    simp only at h
    split at h <;> cases h
  rw [if_neg h2] at h
  by_cases h3 : 8192 < nn b
  · rw [if_pos h3] at h; cases h
  rw [if_neg h3] at h
  by_cases h4 : (q4 b).e ≠ 0
  · rw [if_pos h4] at h; cases h
  rw [if_neg h4] at h
  by_cases h5 : mk8 b ≠ (nextV c (kd b) (dl b)).toList.take 8
  · rw [if_pos h5] at h; cases h
  exact ⟨h1, h2, h3, Decidable.not_not.1 h4, Decidable.not_not.1 h5⟩
theorem rdV_at {c : Dig} {b : List UInt8} (h : ¬ ((q1 b).e = 0 ∧ kd b = 0) ∧ ¬ (q2 b).e ≠ 0 ∧ ¬ 8192 < nn b ∧ (q4 b).e = 0 ∧ mk8 b = (nextV c (kd b) (dl b)).toList.take 8) : rdV c b = ⟨kd b, some (dl b), (q4 b).at_, nextV c (kd b) (dl b), 0⟩ := by
  obtain ⟨h1, h2, h3, h4, h5⟩ := h
  have hda : dat b = some (dl b) := by
    unfold dat
    by_cases ho : tkOk b (q2 b) (nn b).toNat = true
    · exact if_pos ho
    · have ho : tkOk b (q2 b) (nn b).toNat = false := by simpa using ho
      have h6 : tkOk b (q3 b) 8 = false := tk_e_no (tk_no_e ho)
      exact absurd h4 (tk_no_e h6)
  unfold rdV
  rw [if_neg h1, if_neg h2, if_neg h3, if_neg (not_not_intro h4), if_neg (not_not_intro h5), hda]
theorem rdV_data {c : Dig} {b : List UInt8} (h : (rdV c b).e = 0) : (rdV c b).data = some (dl b) := by rw [rdV_at (rdV_ok h)]
def rdR (c : Dig) (b : List UInt8) : RR := if (rdV c b).e = 0 then rdV c b else ⟨0, none, 0, z32, (rdV c b).e⟩
noncomputable def F50 : FnI := fun args H n => match args with
  | [x, y] => (dec x).bind fun (c : Dig) => (rdC H y).bind fun (b : List UInt8) => if b.length ≤ 2 ^ 39 then some (rdE n (rdR c b)) else none
  | _ => none
theorem F50_inv {args : List Value} {H : IHeap} {n : Nat} {e : Eff} (h : F50 args H n = some e) : ∃ (c : Dig) (y : Value) (b : List UInt8), args = [enc c, y] ∧ rdC H y = some b ∧ b.length ≤ 2 ^ 39 ∧ e = rdE n (rdR c b) := by
  unfold F50 at h; split at h
  · simp only [Option.bind_eq_some_iff] at h
    obtain ⟨c, hc, b, hb, h⟩ := h
    split at h
    · cases h
      exact ⟨c, _, b, by rw [dec_some hc], hb, by assumption, rfl⟩
    · cases h
  · cases h
theorem F50_ev {H : IHeap} {n : Nat} {c : Dig} {y : Value} {b : List UInt8} (hb : rdC H y = some b) (h : b.length ≤ 2 ^ 39) : F50 [enc c, y] H n = some (rdE n (rdR c b)) := by
  simp only [F50, dec_enc, Option.bind_some, hb]
  rw [if_pos h]
-- headwater/record.Read ['Vector UInt8 32', 'Sl'] -> ['Record', 'Int', 'Vector UInt8 32', 'Int'], results [[4, 69], 5, [6, 24], 7]
theorem R50 : Ref Try.prog 50 F50 := by
  refine Ref.of_iw dok Try.func50 rfl (by kernel_rfl) fun args H n e hF => ?_
  obtain ⟨c, y, b, rfl, hB, hle, rfl⟩ := F50_inv hF
  refine ⟨Nat.le_of_ble_eq_true rfl, ?_⟩
  simp only [idxL]
  have hE : Env Try.prog [(77, F77)] D K := env (fnsOk_cons R77 fnsOk_nil)
  refine IW.seq ?_
  refine IW.free (by simp) (fun hfree => ?_)
  refine IW.reg hE ?_
  refine vcS_new rfl rfl (ox_box (pl rfl) rfl) (.inl (by omega)) ?_
  refine vcS_new rfl rfl (ox_allocZ D_69 (zero_69 D_69)) (.inl (by omega)) ?_
  refine vcS_val rfl rfl (ox_assign (pl rfl)) ?_
  refine vcS_new rfl rfl (ox_allocZ (cs := encs (Vector.replicate 32 (0 : UInt8)).toList) D_24 rfl) (.inl (by omega)) ?_
  refine vcS_val rfl rfl (ox_assign (pl rfl)) ?_
  refine vcS_nil ?_
  refine IW.seq ?_
  rcases hda : (rdV c b).data with _ | l
  · refine IW.reg hE ?_
    refine vcS_val rfl rfl (ox_load (pl rfl) D_24 (hp_sk (by omega) (hp_sk (by omega) (hp_eq _ _ _ _))) (rd_all rfl (encs_vec_length _))) ?_
    refine vcS_val rfl rfl (ox_move (pl rfl)) ?_
    refine vcS_ups rfl rfl (ox_fn rfl rfl (F77_none (rdC_keep hfree hB (by exact ⟨by omega, ⟨by omega, ⟨by omega, trivial⟩⟩⟩)) hle hda)) rfl trivial ?_
    refine vcS_val rfl rfl (ox_move (pl rfl)) ?_
    refine vcS_val rfl rfl (ox_extract (pl rfl) rfl) ?_
    refine vcS_val rfl rfl (ox_extract (pl rfl) rfl) ?_
    refine vcS_val rfl rfl (ox_extract (pl rfl) rfl) ?_
    refine vcS_val rfl rfl (ox_extract (pl rfl) rfl) ?_
    refine vcS_new rfl rfl (ox_allocZ D_69 (zero_69 D_69)) (.inl (by omega)) ?_
    refine vcS_new rfl rfl (ox_allocZ (cs := encs (Vector.replicate 32 (0 : UInt8)).toList) D_24 rfl) (.inl (by omega)) ?_
    refine vcS_sto rfl rfl (ox_store (pl rfl) (pl rfl) D_69 (hp_sk (by omega) (hp_eq _ _ _ _)) (cellsOf_Record _) (Record.cells_length _) (Record.le _ rfl) (Record.cells_known _) (wr_all (by simp only [Record.cells_length]))) (.inl (by omega)) ?_
    refine vcS_val rfl rfl (ox_assign (pl rfl)) ?_
    refine vcS_sto rfl rfl (ox_store (pl rfl) (pl rfl) D_24 (hp_sk (by omega) (hp_eq _ _ _ _)) rfl (encs_vec_length _) (le_vec _ rfl) (encs_known _) (wr_all (by simp only [encs_vec_length]))) (.inl (by omega)) ?_
    refine vcS_val rfl rfl (ox_assign (pl rfl)) ?_
    refine vcS_nil ?_
    refine IW.seq ?_
    refine IW.seq ?_
    refine IW.reg hE ?_
    refine vcS_val rfl rfl (ox_move (pl rfl)) ?_
    refine vcS_val rfl rfl (ox_bin (pl rfl) (pl rfl) (bo_i64_neq _ _)) ?_
    refine vcS_nil ?_
    refine IW.cond rfl (fun hc1 => ?_) (fun hc1 => ?_)
    · have he : (rdV c b).e ≠ 0 := fun e => bne_iff_ne.1 hc1 (congrArg Int.ofNat e)
      refine IW.seq ?_
      refine IW.reg hE ?_
      refine vcS_val rfl rfl (ox_buildZ D_69 (zero_69 D_69) rfl rfl fill_nil) ?_
      refine vcS_val rfl rfl (ox_buildA0 (cs := encs (Vector.replicate 32 (0 : UInt8)).toList) D_24 rfl D_5 rfl) ?_
      refine vcS_val rfl rfl (ox_move (pl rfl)) ?_
      refine vcS_sto rfl rfl (ox_store (pl rfl) (pl rfl) D_69 (hp_sk (by omega) (hp_sk (by omega) (hp_sk (by omega) (hp_sk (by omega) (hp_sk (by omega) (hp_eq _ _ _ _)))))) (cellsOf_Record _) (Record.cells_length _) (Record.le _ rfl) (Record.cells_known _) (wr_all (by simp only [Record.cells_length]))) (.inl (by omega)) ?_
      refine vcS_val rfl rfl (ox_assign (pl rfl)) ?_
      refine vcS_sto rfl rfl (ox_store (pl rfl) (pl rfl) D_24 (hp_sk (by omega) (hp_sk (by omega) (hp_sk (by omega) (hp_sk (by omega) (hp_sk (by omega) (hp_eq _ _ _ _)))))) rfl (encs_vec_length _) (le_vec _ rfl) (encs_known _) (wr_all (by simp only [encs_vec_length]))) (.inl (by omega)) ?_
      refine vcS_val rfl rfl (ox_assign (pl rfl)) ?_
      refine vcS_nil ?_
      refine IW.ret ?_
      rw [show rdR c b = ⟨0, none, 0, z32, (rdV c b).e⟩ from if_neg he]; exact RetP.rd0 (.inr rfl) (ires_l4 (ires_cell rfl D_69 (hp_sk (by omega) (hp_eq _ _ _ _)) (rd_69 (⟨0, ⟨none, 0, 0⟩⟩ : Record) rfl rfl)) (ires_tmp rfl) (ires_cell rfl D_24 (hp_eq _ _ _ _) (rd_all rfl (encs_vec_length z32))) (ires_tmp rfl)) rfl
    · exact nomatch (rdV_data (Int.ofNat.inj (bne_eq_false_iff_eq.1 hc1))).symm.trans hda
  · refine IW.reg hE ?_
    refine vcS_val rfl rfl (ox_load (pl rfl) D_24 (hp_sk (by omega) (hp_sk (by omega) (hp_eq _ _ _ _))) (rd_all rfl (encs_vec_length _))) ?_
    refine vcS_val rfl rfl (ox_move (pl rfl)) ?_
    refine vcS_ups rfl rfl (ox_fn rfl rfl (F77_some (rdC_keep hfree hB (by exact ⟨by omega, ⟨by omega, ⟨by omega, trivial⟩⟩⟩)) hle hda)) rfl ⟨.inl (by omega), trivial⟩ ?_
    refine vcS_val rfl rfl (ox_move (pl rfl)) ?_
    refine vcS_val rfl rfl (ox_extract (pl rfl) rfl) ?_
    refine vcS_val rfl rfl (ox_extract (pl rfl) rfl) ?_
    refine vcS_val rfl rfl (ox_extract (pl rfl) rfl) ?_
    refine vcS_val rfl rfl (ox_extract (pl rfl) rfl) ?_
    refine vcS_new rfl rfl (ox_allocZ D_69 (zero_69 D_69)) (.inl (by omega)) ?_
    refine vcS_new rfl rfl (ox_allocZ (cs := encs (Vector.replicate 32 (0 : UInt8)).toList) D_24 rfl) (.inl (by omega)) ?_
    refine vcS_sto rfl rfl (ox_store (pl rfl) (pl rfl) D_69 (hp_sk (by omega) (hp_eq _ _ _ _)) (cellsOf_Record _) (Record.cells_length _) (Record.le _ rfl) (Record.cells_known _) (wr_all (by simp only [Record.cells_length]))) (.inl (by omega)) ?_
    refine vcS_val rfl rfl (ox_assign (pl rfl)) ?_
    refine vcS_sto rfl rfl (ox_store (pl rfl) (pl rfl) D_24 (hp_sk (by omega) (hp_eq _ _ _ _)) rfl (encs_vec_length _) (le_vec _ rfl) (encs_known _) (wr_all (by simp only [encs_vec_length]))) (.inl (by omega)) ?_
    refine vcS_val rfl rfl (ox_assign (pl rfl)) ?_
    refine vcS_nil ?_
    refine IW.seq ?_
    refine IW.seq ?_
    refine IW.reg hE ?_
    refine vcS_val rfl rfl (ox_move (pl rfl)) ?_
    refine vcS_val rfl rfl (ox_bin (pl rfl) (pl rfl) (bo_i64_neq _ _)) ?_
    refine vcS_nil ?_
    refine IW.cond rfl (fun hc2 => ?_) (fun hc2 => ?_)
    · have he : (rdV c b).e ≠ 0 := fun e => bne_iff_ne.1 hc2 (congrArg Int.ofNat e)
      refine IW.seq ?_
      refine IW.reg hE ?_
      refine vcS_val rfl rfl (ox_buildZ D_69 (zero_69 D_69) rfl rfl fill_nil) ?_
      refine vcS_val rfl rfl (ox_buildA0 (cs := encs (Vector.replicate 32 (0 : UInt8)).toList) D_24 rfl D_5 rfl) ?_
      refine vcS_val rfl rfl (ox_move (pl rfl)) ?_
      refine vcS_sto rfl rfl (ox_store (pl rfl) (pl rfl) D_69 (hp_sk (by omega) (hp_sk (by omega) (hp_sk (by omega) (hp_sk (by omega) (hp_sk (by omega) (hp_sk (by omega) (hp_eq _ _ _ _))))))) (cellsOf_Record _) (Record.cells_length _) (Record.le _ rfl) (Record.cells_known _) (wr_all (by simp only [Record.cells_length]))) (.inl (by omega)) ?_
      refine vcS_val rfl rfl (ox_assign (pl rfl)) ?_
      refine vcS_sto rfl rfl (ox_store (pl rfl) (pl rfl) D_24 (hp_sk (by omega) (hp_sk (by omega) (hp_sk (by omega) (hp_sk (by omega) (hp_sk (by omega) (hp_sk (by omega) (hp_eq _ _ _ _))))))) rfl (encs_vec_length _) (le_vec _ rfl) (encs_known _) (wr_all (by simp only [encs_vec_length]))) (.inl (by omega)) ?_
      refine vcS_val rfl rfl (ox_assign (pl rfl)) ?_
      refine vcS_nil ?_
      refine IW.ret ?_
      rw [show rdR c b = ⟨0, none, 0, z32, (rdV c b).e⟩ from if_neg he]; exact RetP.rd0 (.inr rfl) (ires_l4 (ires_cell rfl D_69 (hp_sk (by omega) (hp_eq _ _ _ _)) (rd_69 (⟨0, ⟨none, 0, 0⟩⟩ : Record) rfl rfl)) (ires_tmp rfl) (ires_cell rfl D_24 (hp_eq _ _ _ _) (rd_all rfl (encs_vec_length z32))) (ires_tmp rfl)) rfl
    · have he : (rdV c b).e = 0 := Int.ofNat.inj (bne_eq_false_iff_eq.1 hc2)
      refine IW.skip ?_
      refine IW.seq ?_
      refine IW.drw hE mixed [[],[],[],[0],[0,1,3],[0,1,2,3,4],[0,1,2,3,4,5]] (by kernel_rfl) (vcE_start ?_)
      refine vcE_val rfl rfl rfl rfl (ox_load (pl rfl) D_69 (hp_sk (by omega) (hp_eq _ _ _ _)) (rd_69 _ rfl rfl)) rfl (si_load (pl rfl)) (lt1 (by omega)) (trivial) ?_
      refine vcE_bl rfl rfl (fun _ => ox_move (pl rfl)) rfl rfl ?_
      refine vcE_val rfl rfl rfl rfl (ox_load (pl rfl) D_24 (hp_eq _ _ _ _) (rd_all rfl (encs_vec_length _))) rfl (si_load (pl rfl)) (lt1 (by omega)) (trivial) ?_
      refine vcE_sto rfl rfl rfl rfl (ox_store (pl rfl) (pl rfl) D_69 (hp_sk (by omega) (hp_sk (by omega) (hp_sk (by omega) (hp_sk (by omega) (hp_sk (by omega) (hp_sk (by omega) (hp_eq _ _ _ _))))))) (cellsOf_Record _) (Record.cells_length _) (Record.le _ rfl) (Record.cells_known _) (wr_all (by simp only [Record.cells_length]))) rfl (si_store (pl rfl)) (is_some (hp_sk (by omega) (hp_sk (by omega) (hp_sk (by omega) (hp_sk (by omega) (hp_sk (by omega) (hp_sk (by omega) (hp_eq _ _ _ _)))))))) (by omega) (.inl (by omega)) (trivial) (⟨cn1 (n0 := 0) (by omega), ⟨trivial, trivial⟩⟩) ?_
      refine vcE_bl rfl rfl (fun _ => ox_assign (pl rfl)) rfl rfl ?_
      refine vcE_sto rfl rfl rfl rfl (ox_store (pl rfl) (pl rfl) D_24 (hp_sk (by omega) (hp_sk (by omega) (hp_sk (by omega) (hp_sk (by omega) (hp_sk (by omega) (hp_sk (by omega) (hp_eq _ _ _ _))))))) rfl (encs_vec_length _) (le_vec _ rfl) (encs_known _) (wr_all (by simp only [encs_vec_length]))) rfl (si_store (pl rfl)) (is_some (hp_sk (by omega) (hp_sk (by omega) (hp_sk (by omega) (hp_sk (by omega) (hp_sk (by omega) (hp_sk (by omega) (hp_eq _ _ _ _)))))))) (by omega) (.inl (by omega)) (⟨trivial, trivial⟩) (⟨trivial, ⟨trivial, ⟨trivial, trivial⟩⟩⟩) ?_
      refine vcE_bl rfl rfl (fun _ => ox_assign (pl rfl)) rfl rfl ?_
      refine vcE_nil ?_
      refine IW.ret ?_
      rw [show rdR c b = rdV c b from if_pos he]; exact RetP.rd1 (.inr rfl) ((ires_l4 (ires_cell rfl D_69 (hp_sk (by omega) (hp_eq _ _ _ _)) (rd_69 (⟨(rdV c b).kind, ⟨some ⟨n + 1 + 1 + 1, 0, none⟩, l.length, l.length⟩⟩ : Record) rfl rfl)) (ires_tmp rfl) (ires_cell rfl D_24 (hp_eq _ _ _ _) (rd_all rfl (encs_vec_length (rdV c b).next))) (ires_tmp rfl)).trans (by rw [he]; rfl)) hda (by omega) ((hp_sk (by omega) (hp_sk (by omega) (hp_sk (by omega) (hp_sk (by omega) (hp_sk (by omega) (hp_sk (by omega) (hp_eq _ _ _ _))))))))
theorem F50_no {H : IHeap} {n : Nat} {c : Dig} {y : Value} {b : List UInt8} (hb : rdC H y = some b) (h : b.length ≤ 2 ^ 39) (he : (rdV c b).e ≠ 0) : F50 [enc c, y] H n = some ⟨.tuple #[enc (⟨0, ⟨none, 0, 0⟩⟩ : Record), .int .i64 0, enc z32, .int .i64 ((rdV c b).e : Int)], [], n⟩ := by
  rw [F50_ev hb h, rdR, if_neg he]; rfl
theorem F50_ok {H : IHeap} {n : Nat} {c : Dig} {y : Value} {b : List UInt8} {r : RR} {l : List UInt8} (hb : rdC H y = some b) (h : b.length ≤ 2 ^ 39) (hv : rdV c b = r) (he : r.e = 0) (hd : r.data = some l) : F50 [enc c, y] H n = some ⟨.tuple #[enc (⟨r.kind, ⟨some ⟨n, 0, none⟩, l.length, l.length⟩⟩ : Record), .int .i64 (r.size : Int), enc r.next, .int .i64 0], [(n, some (.cells (encs l) false))], n + 1⟩ := by
  subst hv
  rw [F50_ev hb h, rdR, if_pos he, rdE, hd, he]; rfl
end Go.Proofs.Ytdnnojblneccdaa
/-
  A record's bytes, written and read.
-/
namespace Go.Proofs.Ytdnnojblneccdaa
set_option linter.unusedSimpArgs false
set_option linter.unusedVariables false
open Go
def numCheck (i : Nat) : Bool :=
  let w := UInt64.ofNat i
  let h := hdV w
  let s := sizeV w
  Nat.beq (kN h) s && (Nat.ble s 2 && Nat.beq (nv (h &&& shr8 255 s).toUInt64 (tlV w) (s - 1)).toNat i)
def allB (f : Nat → Bool) : Nat → Bool
  | 0 => true
  | n + 1 => f n && allB f n
theorem allB_at {f : Nat → Bool} : ∀ {n i : Nat}, allB f n = true → i < n → f i = true
  | n + 1, i, h, hi => by
    simp only [allB, Bool.and_eq_true] at h
    by_cases e : i = n
    · subst e; exact h.1
    · exact allB_at h.2 (by omega)
theorem num_small : allB numCheck 8193 = true := by decide +kernel
theorem num_at {w : UInt64} (h : w.toNat ≤ 8192) : kN (hdV w) = sizeV w ∧ sizeV w ≤ 2 ∧ nv (hdV w &&& shr8 255 (sizeV w)).toUInt64 (tlV w) (sizeV w - 1) = w := by
  have h1 := allB_at num_small (i := w.toNat) (by omega)
  simp only [numCheck, UInt64.ofNat_toNat, Bool.and_eq_true, Nat.ble_eq] at h1
  exact ⟨Nat.eq_of_beq_eq_true h1.1, h1.2.1, UInt64.toNat_inj.1 (Nat.eq_of_beq_eq_true h1.2.2)⟩
def hCheck (i : Nat) : Bool :=
  let h := UInt8.ofNat i
  (!(Nat.beq (kN h) 1) || Nat.beq (h &&& shr8 255 1).toNat i) && (!(Nat.beq (kN h) 2) || Nat.beq (128 ||| (h &&& shr8 255 2)).toNat i)
theorem h_small : allB hCheck 256 = true := by decide +kernel
theorem h_at (h : UInt8) : (kN h = 1 → h &&& shr8 255 1 = h) ∧ (kN h = 2 → 128 ||| (h &&& shr8 255 2) = h) := by
  have h1 := allB_at h_small (i := h.toNat) h.toNat_lt
  simp only [hCheck, UInt8.ofNat_toNat, Bool.and_eq_true, Bool.or_eq_true, Bool.not_eq_true'] at h1
  refine ⟨fun e => ?_, fun e => ?_⟩
  · rcases h1.1 with h2 | h2
    · rw [e] at h2; cases h2
    · exact UInt8.toNat_inj.1 (Nat.eq_of_beq_eq_true h2)
  · rcases h1.2 with h2 | h2
    · rw [e] at h2; cases h2
    · exact UInt8.toNat_inj.1 (Nat.eq_of_beq_eq_true h2)
theorem and255 (h : UInt8) : (h &&& shr8 255 2).toNat < 64 := by
  have : (shr8 255 2).toNat = 63 := by decide
  rw [UInt8.toNat_and, this]
  exact Nat.lt_of_le_of_lt Nat.and_le_right (by decide)
theorem nv2 {a : UInt8} (c : UInt8) (ha : a.toNat < 64) : (nv a.toUInt64 [c] 1).toNat = a.toNat * 256 + c.toNat := by
  have hc := c.toNat_lt
  show (shl64 a.toUInt64 8 ||| c.toUInt64).toNat = _
  rw [UInt64.toNat_or]
  have e1 : (shl64 a.toUInt64 8).toNat = a.toNat * 256 := by
    rw [shl64, UInt64.toNat_ofNat']
    show a.toUInt64.toNat * 256 % 2 ^ 64 = _
    rw [UInt8.toNat_toUInt64]; omega
  rw [e1, UInt8.toNat_toUInt64]
  have := Nat.shiftLeft_add_eq_or_of_lt (i := 8) hc a.toNat
  rw [Nat.shiftLeft_eq] at this
  rw [show (2 : Nat) ^ 8 = 256 from rfl] at this
  exact this.symm
theorem u8_64_inj {a b : UInt8} (h : a.toUInt64 = b.toUInt64) : a = b := by
  have := congrArg UInt64.toNat h
  rw [UInt8.toNat_toUInt64, UInt8.toNat_toUInt64] at this
  exact UInt8.toNat_inj.1 this
/-- a number's bytes are no other's -/
theorem num_back {h : UInt8} {rs : List UInt8} {x : UInt64} (hr : rs.length = kN h - 1) (hx : x = nv (h &&& shr8 255 (kN h)).toUInt64 rs rs.length) (hs : sizeV x = kN h) (hl : x.toNat ≤ 8192) : numL x = h :: rs := by
  obtain ⟨n1, n2, n3⟩ := num_at hl
  have hk := kN_rng h
  have ht := tlV_length x
  rw [hs] at n1 n2 n3 ht
  unfold numL
  obtain hk1 | hk2 : kN h = 1 ∨ kN h = 2 := by omega
  · rw [hk1] at hr hx ht n1 n3
    have e1 : rs = [] := List.length_eq_zero_iff.1 hr
    have e2 : tlV x = [] := List.length_eq_zero_iff.1 ht
    subst e1
    have e3 : hdV x &&& shr8 255 1 = h &&& shr8 255 1 := u8_64_inj (n3.trans hx)
    rw [(h_at _).1 n1, (h_at _).1 hk1] at e3
    rw [e2, e3]
  · rw [hk2] at hr hx ht n1 n3
    match rs, hr with
    | [c], _ =>
      generalize hT : tlV x = T at ht n3
      match T, ht with
      | [c'], _ =>
        have e3 := congrArg UInt64.toNat (n3.trans hx)
        simp only [List.length_cons, List.length_nil] at e3
        rw [nv2 _ (and255 _), nv2 _ (and255 _)] at e3
        have hc := c.toNat_lt
        have hc' := c'.toNat_lt
        have e4 : hdV x &&& shr8 255 2 = h &&& shr8 255 2 := UInt8.toNat_inj.1 (by omega)
        have e5 : c' = c := UInt8.toNat_inj.1 (by omega)
        have e6 := (h_at (hdV x)).2 n1
        rw [e4, (h_at h).2 hk2] at e6
        rw [← e6, e5]
/-! readers that find what they look for -/
theorem tk_at {l x y : List UInt8} {s : RS} (he : s.e = 0) (hle : s.at_ ≤ l.length) (h : l.drop s.at_ = x ++ y) : tkOk l s x.length = true ∧ tkL l s x.length = x ∧ tkS l s x.length = ⟨s.at_ + x.length, 0⟩ ∧ l.drop (s.at_ + x.length) = y := by
  have hlen := congrArg List.length h
  simp only [List.length_drop, List.length_append] at hlen
  have hok : tkOk l s x.length = true := by simp only [tkOk, decide_eq_true_eq]; omega
  obtain ⟨t1, t2, _, t4⟩ := tk_ok (ib := 0) he (show s.at_ + x.length ≤ l.length by omega)
  refine ⟨hok, ?_, t2, ?_⟩
  · rw [t4, h, List.take_left]
  · rw [← List.drop_drop, h, List.drop_left]
theorem num_read {l rest : List UInt8} {s : RS} {w : UInt64} (he : s.e = 0) (hle : s.at_ ≤ l.length) (hw : w.toNat ≤ 8192) (h : l.drop s.at_ = numL w ++ rest) : numV l s = w ∧ numS l s = ⟨s.at_ + sizeV w, 0⟩ ∧ l.drop (s.at_ + sizeV w) = rest := by
  obtain ⟨n1, n2, n3⟩ := num_at hw
  have hsz := sizeV_rng w
  have h' : l.drop s.at_ = [hdV w] ++ (tlV w ++ rest) := h
  obtain ⟨a1, a2, a3, a4⟩ := tk_at he hle h'
  have a1 : tkOk l s 1 = true := a1
  have a2 : tkL l s 1 = [hdV w] := a2
  have e1 : hd1 l s = hdV w := by unfold hd1; rw [a2]; rfl
  have e2 : st1 l s = ⟨s.at_ + 1, 0⟩ := a3
  have hle2 : s.at_ + 1 ≤ l.length := (ok_st a1).2.1
  obtain ⟨b1, b2, b3, b4⟩ := tk_at (s := ⟨s.at_ + 1, 0⟩) rfl hle2 a4
  rw [tlV_length] at b1 b2 b3 b4
  have e3 : kN (hd1 l s) = sizeV w := by rw [e1]; exact n1
  have e4 : rs1 l s = tlV w := by unfold rs1; rw [e2, e3]; exact b2
  have e5 : ok2 l s = true := by unfold ok2; rw [e2, e3]; exact b1
  have e6 : xV l s = w := by unfold xV; rw [e4, e3, e1, tlV_length]; exact n3
  have e7 : sizeV (xV l s) = kN (hd1 l s) := by rw [e6, e3]
  have hok : numOk l s = true := by unfold numOk; rw [a1, e5, decide_eq_true e7]; rfl
  refine ⟨by unfold numV; rw [if_pos hok, e6], ?_, ?_⟩
  · unfold numS
    rw [if_pos a1, if_pos e5, if_pos e7, e2, e3, b3]
    rw [RS.mk.injEq]; exact ⟨by show s.at_ + 1 + (sizeV w - 1) = _; omega, rfl⟩
  · have : s.at_ + 1 + (sizeV w - 1) = s.at_ + sizeV w := by omega
    rw [← this]; exact b4
theorem word1 (k : UInt8) : (wordV [k]).toUInt8 = k := by
  show ((0 : UInt64) ||| shl64 k.toUInt64 (8 * 0)).toUInt8 = k
  have : shl64 k.toUInt64 (8 * 0) = k.toUInt64 := by
    apply UInt64.toNat_inj.1
    rw [shl64, UInt64.toNat_ofNat']
    show k.toUInt64.toNat * 1 % 2 ^ 64 = _
    have := k.toUInt64.toNat_lt
    omega
  rw [this, UInt64.zero_or]
  apply UInt8.toNat_inj.1
  rw [UInt64.toNat_toUInt8, UInt8.toNat_toUInt64]
  exact Nat.mod_eq_of_lt k.toNat_lt
theorem ofNat_small {i : Nat} (h : i ≤ 8192) : (UInt64.ofNat i).toNat = i := by rw [UInt64.toNat_ofNat', Nat.mod_eq_of_lt (by omega)]
/-- a record's bytes, another eight and more, as they are read -/
theorem rec_read {k : UInt8} {d m t : List UInt8} (hd : d.length ≤ 8192) (hm : m.length = 8) : (q1 (bodyL k d ++ m ++ t)).e = 0 ∧ kd (bodyL k d ++ m ++ t) = k ∧ (q2 (bodyL k d ++ m ++ t)).e = 0 ∧ nn (bodyL k d ++ m ++ t) = UInt64.ofNat d.length ∧ dl (bodyL k d ++ m ++ t) = d ∧ mk8 (bodyL k d ++ m ++ t) = m ∧ q4 (bodyL k d ++ m ++ t) = ⟨(bodyL k d).length + 8, 0⟩ := by
  generalize hb : bodyL k d ++ m ++ t = b
  have hw := ofNat_small hd
  have h0 : b.drop 0 = [k] ++ (numL (UInt64.ofNat d.length) ++ (d ++ (m ++ t))) := by rw [← hb]; simp [bodyL, blkL]
  obtain ⟨a1, a2, a3, a4⟩ := tk_at (s := ⟨0, 0⟩) rfl (Nat.zero_le _) h0
  have a3 : q1 b = ⟨1, 0⟩ := a3
  have a2 : tkL b ⟨0, 0⟩ 1 = [k] := a2
  have a4 : b.drop 1 = numL (UInt64.ofNat d.length) ++ (d ++ (m ++ t)) := a4
  have hkd : kd b = k := by unfold kd; rw [a2]; exact word1 k
  have hl1 : 1 ≤ b.length := by have := q1_le b; rw [a3] at this; exact this
  obtain ⟨c1, c2, c3⟩ := num_read (s := ⟨1, 0⟩) rfl hl1 (by rw [hw]; exact hd) a4
  have hnn : nn b = UInt64.ofNat d.length := by unfold nn; rw [a3]; exact c1
  have hq2 : q2 b = ⟨1 + sizeV (UInt64.ofNat d.length), 0⟩ := by unfold q2; rw [a3]; exact c2
  have hl2 := q2_le b
  rw [hq2] at hl2
  obtain ⟨d1, d2, d3, d4⟩ := tk_at (s := ⟨1 + sizeV (UInt64.ofNat d.length), 0⟩) rfl hl2 c3
  have hdl : dl b = d := by unfold dl; rw [hq2, hnn, hw]; exact d2
  have hq3 : q3 b = ⟨1 + sizeV (UInt64.ofNat d.length) + d.length, 0⟩ := by unfold q3; rw [hq2, hnn, hw]; exact d3
  have hl3 := q3_le b
  rw [hq3] at hl3
  obtain ⟨e1, e2, e3, e4⟩ := tk_at (s := ⟨1 + sizeV (UInt64.ofNat d.length) + d.length, 0⟩) rfl hl3 d4
  rw [hm] at e1 e2 e3 e4
  refine ⟨by rw [a3], hkd, by rw [hq2], hnn, hdl, by unfold mk8; rw [hq3]; exact e2, ?_⟩
  unfold q4
  rw [hq3, e3, bodyL_length]
theorem rec_bad {c : Dig} {k : UInt8} {d m t : List UInt8} (hk : k ≠ 0) (hd : d.length ≤ 8192) (hm : m.length = 8) (hne : m ≠ (nextV c k d).toList.take 8) : (rdV c (bodyL k d ++ m ++ t)).e = 4 := by
  obtain ⟨h1, h2, h3, h4, h5, h6, h7⟩ := rec_read (k := k) (t := t) hd hm
  unfold rdV
  rw [if_neg (by rw [h2]; exact fun h => hk h.2), if_neg (by rw [h3]; simp), if_neg (by rw [h4, UInt64.lt_iff_toNat_lt, ofNat_small hd]; have e : (8192 : UInt64).toNat = 8192 := rfl; omega), if_neg (by rw [h7]; simp), h2, h5, h6, if_pos hne]
theorem rec_ok {c : Dig} {k : UInt8} {d t : List UInt8} (hk : k ≠ 0) (hd : d.length ≤ 8192) : rdV c (recL c k d ++ t) = ⟨k, some d, (recL c k d).length, nextV c k d, 0⟩ := by
  obtain ⟨h1, h2, h3, h4, h5, h6, h7⟩ := rec_read (k := k) (d := d) (m := (nextV c k d).toList.take 8) (t := t) hd (by simp)
  rw [show recL c k d ++ t = bodyL k d ++ (nextV c k d).toList.take 8 ++ t from rfl]
  rw [rdV_at ⟨by rw [h2]; exact fun h => hk h.2, by rw [h3]; simp, by rw [h4, UInt64.lt_iff_toNat_lt, ofNat_small hd]; have e : (8192 : UInt64).toNat = 8192 := rfl; omega, by rw [h7], by rw [h2, h5, h6]⟩, h2, h5, h7, recL_length]
/-- what is read, written again -/
theorem read_rec {c : Dig} {t : List UInt8} (h : (rdV c t).e = 0) : kd t ≠ 0 ∧ (dl t).length ≤ 8192 ∧ rdV c t = ⟨kd t, some (dl t), (recL c (kd t) (dl t)).length, nextV c (kd t) (dl t), 0⟩ ∧ ∃ rest, t = recL c (kd t) (dl t) ++ rest := by
  have hh := rdV_ok h
  obtain ⟨h1, h2, h3, h4, h5⟩ := hh
  have h2 : (q2 t).e = 0 := Decidable.not_not.1 h2
  have hnn : (nn t).toNat ≤ 8192 := by
    have h := UInt64.le_iff_toNat_le.1 (UInt64.not_lt.1 h3)
    have e : (8192 : UInt64).toNat = 8192 := rfl
    omega
  have o3 : tkOk t (q3 t) 8 = true := by
    by_cases ho : tkOk t (q3 t) 8 = true
    · exact ho
    · exact absurd h4 (tk_no_e (by simpa using ho))
  obtain ⟨p1, p2, p3⟩ := ok_st o3
  have o2 : tkOk t (q2 t) (nn t).toNat = true := by
    by_cases ho : tkOk t (q2 t) (nn t).toNat = true
    · exact ho
    · exact absurd p1 (tk_no_e (by simpa using ho))
  obtain ⟨r1, r2, r3⟩ := ok_st o2
  have o1 : tkOk t (q1 t) 1 = true := by
    by_cases ho : tkOk t (q1 t) 1 = true
    · exact ho
    · have ho : tkOk t (q1 t) 1 = false := by simpa using ho
      have : numS t (q1 t) = st1 t (q1 t) := by unfold numS; rw [ho]; rfl
      exact absurd h2 (by unfold q2; rw [this]; exact tk_no_e ho)
  obtain ⟨u1, u2, u3⟩ := ok_st o1
  have o0 : tkOk t ⟨0, 0⟩ 1 = true := by
    by_cases ho : tkOk t ⟨0, 0⟩ 1 = true
    · exact ho
    · exact absurd u1 (tk_no_e (by simpa using ho))
  obtain ⟨v1, v2, v3⟩ := ok_st o0
  have hq1 : q1 t = ⟨1, 0⟩ := v3
  have k2 : ok2 t (q1 t) = true := by
    by_cases ho : ok2 t (q1 t) = true
    · exact ho
    · have : numS t (q1 t) = ⟨(q1 t).at_, 5⟩ := by unfold numS; rw [if_pos o1, if_neg ho]
      exact absurd h2 (by unfold q2; rw [this]; simp)
  have k3 : sizeV (xV t (q1 t)) = kN (hd1 t (q1 t)) := by
    by_cases ho : sizeV (xV t (q1 t)) = kN (hd1 t (q1 t))
    · exact ho
    · have : numS t (q1 t) = ⟨(q1 t).at_, 4⟩ := by unfold numS; rw [if_pos o1, if_pos k2, if_neg ho]
      exact absurd h2 (by unfold q2; rw [this]; simp)
  have hok : numOk t (q1 t) = true := by unfold numOk; rw [o1, k2, decide_eq_true k3]; rfl
  have hnx : nn t = xV t (q1 t) := by unfold nn numV; rw [if_pos hok]
  have hS1 : st1 t (q1 t) = ⟨2, 0⟩ := by unfold st1; rw [u3, hq1]
  have hrl : (rs1 t (q1 t)).length = kN (hd1 t (q1 t)) - 1 := tkL_len k2
  have hnum : numL (nn t) = hd1 t (q1 t) :: rs1 t (q1 t) := num_back hrl hnx (by rw [hnx]; exact k3) hnn
  have hdlen : (dl t).length = (nn t).toNat := tkL_len o2
  have hkd : t.take 1 = [kd t] := by
    have e1 : tkL t ⟨0, 0⟩ 1 = t.take 1 := (tk_ok (ib := 0) rfl v2).2.2.2
    have e2 := tkL_len o0
    rw [e1] at e2
    unfold kd
    rw [e1]
    match t.take 1, e2 with
    | [a], _ => rw [word1]
  have hH : (t.drop 1).take 1 = [hd1 t (q1 t)] := by
    have e1 : tkL t (q1 t) 1 = (t.drop 1).take 1 := by rw [(tk_ok (ib := 0) u1 u2).2.2.2, hq1]
    have e2 := tkL_len o1
    unfold hd1
    rw [e1] at e2 ⊢
    match (t.drop 1).take 1, e2 with
    | [a], _ => rfl
  have hR : (t.drop 2).take (kN (hd1 t (q1 t)) - 1) = rs1 t (q1 t) := by
    have w := ok_st k2
    have e1 := (tk_ok (ib := 0) w.1 w.2.1).2.2.2
    unfold rs1
    rw [e1, hS1]
  have hq2 : q2 t = ⟨2 + (kN (hd1 t (q1 t)) - 1), 0⟩ := by
    unfold q2 numS
    rw [if_pos o1, if_pos k2, if_pos k3]
    have w := (ok_st k2).2.2
    rw [w, hS1]
  have hD : (t.drop (2 + (kN (hd1 t (q1 t)) - 1))).take (dl t).length = dl t := by
    have e1 := (tk_ok (ib := 0) r1 r2).2.2.2
    rw [hdlen]
    conv => rhs; unfold dl
    rw [e1, hq2]
  have hq3 : q3 t = ⟨2 + (kN (hd1 t (q1 t)) - 1) + (dl t).length, 0⟩ := by unfold q3; rw [r3, hq2, hdlen]
  have hM : (t.drop (2 + (kN (hd1 t (q1 t)) - 1) + (dl t).length)).take 8 = mk8 t := by
    have e1 := (tk_ok (ib := 0) p1 p2).2.2.2
    unfold mk8
    rw [e1, hq3]
  have hq4 : q4 t = ⟨2 + (kN (hd1 t (q1 t)) - 1) + (dl t).length + 8, 0⟩ := by unfold q4; rw [p3, hq3]
  have hsplit : ∀ (l : List UInt8) (i j : Nat), l.drop i = (l.drop i).take j ++ l.drop (i + j) := fun l i j => by rw [← List.drop_drop, List.take_append_drop]
  have ht : t = recL c (kd t) (dl t) ++ t.drop (2 + (kN (hd1 t (q1 t)) - 1) + (dl t).length + 8) := by
    have hbody : bodyL (kd t) (dl t) = [kd t] ++ (([hd1 t (q1 t)] ++ rs1 t (q1 t)) ++ dl t) := by
      have : UInt64.ofNat (dl t).length = nn t := by rw [hdlen, UInt64.ofNat_toNat]
      simp only [bodyL, blkL, this, hnum, List.append_assoc]; rfl
    have hsz : recL c (kd t) (dl t) = [kd t] ++ (([hd1 t (q1 t)] ++ rs1 t (q1 t)) ++ dl t) ++ mk8 t := by
      unfold recL; rw [hbody, h5]
    rw [hsz]
    have s0 := hsplit t 0 1
    have s1 := hsplit t 1 1
    have s2 := hsplit t 2 (kN (hd1 t (q1 t)) - 1)
    have s3 := hsplit t (2 + (kN (hd1 t (q1 t)) - 1)) (dl t).length
    have s4 := hsplit t (2 + (kN (hd1 t (q1 t)) - 1) + (dl t).length) 8
    rw [List.drop_zero, hkd] at s0
    rw [hH] at s1
    rw [hR] at s2
    rw [hD] at s3
    rw [hM] at s4
    conv => lhs; rw [s0, show 0 + 1 = 1 from rfl, s1, show 1 + 1 = 2 from rfl, s2, s3, s4]
    simp only [List.append_assoc]
  have hk0 : kd t ≠ 0 := fun e => h1 ⟨by rw [hq1], e⟩
  have hlen : (recL c (kd t) (dl t)).length = 2 + (kN (hd1 t (q1 t)) - 1) + (dl t).length + 8 := by
    have : UInt64.ofNat (dl t).length = nn t := by rw [hdlen, UInt64.ofNat_toNat]
    rw [recL_length, bodyL_length, this, hnx, k3]
    have := kN_rng (hd1 t (q1 t))
    omega
  refine ⟨hk0, by rw [hdlen]; exact hnn, ?_, _, ht⟩
  rw [rdV_at ⟨h1, by rw [h2]; simp, h3, h4, h5⟩, hq4, hlen]
end Go.Proofs.Ytdnnojblneccdaa
/-
  headwaterlaw08.lives, RecordNames.
-/
namespace Go.Proofs.Ytdnnojblneccdaa
set_option linter.unusedSimpArgs false
set_option linter.unusedVariables false
open Go
open Enc (enc)
set_option maxRecDepth 100000
theorem F50_noE {H : IHeap} {n e0 : Nat} {c : Dig} {y : Value} {b : List UInt8} (hb : rdC H y = some b) (h : b.length ≤ 2 ^ 39) (he : (rdV c b).e = e0) (h0 : e0 ≠ 0) : F50 [enc c, y] H n = some ⟨.tuple #[enc (⟨0, ⟨none, 0, 0⟩⟩ : Record), .int .i64 0, enc z32, .int .i64 (e0 : Int)], [], n⟩ := by
  subst he; exact F50_no hb h h0
theorem z0e : (rdV z32 [0]).e = 4 := by decide +kernel
theorem z1e : (rdV z32 []).e = 5 := by decide +kernel
noncomputable def F47 : FnI := fn0 (.bool true)
-- headwater/headwaterlaw08.lives [] -> ['Bool'], results [0]
theorem R47 : Ref Try.prog 47 F47 := by
  refine Ref.of_iw dok Try.func47 rfl (by kernel_rfl) fun args H n e hF => ?_
  obtain ⟨rfl, rfl⟩ := fn0_inv hF
  refine ⟨Nat.le_of_ble_eq_true rfl, ?_⟩
  simp only [idxL]
  have hE : Env Try.prog [(50, F50), (54, F54)] D K := env (fnsOk_cons R50 (fnsOk_cons R54 fnsOk_nil))
  refine IW.seq ?_
  refine IW.reg hE ?_
  refine vcS_val rfl rfl (ox_assign (pl rfl)) ?_
  refine vcS_nil ?_
  refine IW.seq ?_
  refine IW.reg hE ?_
  refine vcS_val rfl rfl (ox_buildA0 (cs := encs (Vector.replicate 32 (0 : UInt8)).toList) D_24 rfl D_5 rfl) ?_
  refine vcS_new rfl rfl (ox_bsl (cs := encs [(0 : UInt8)]) D_35 rfl D_5 (Nat.le_of_ble_eq_true rfl) rfl (by kernel_rfl)) (.inl (by omega)) ?_
  refine vcS_ups rfl rfl (ox_fn rfl rfl (F50_noE (b := [0]) (rdC_1all (hp_eq _ _ _ _) rfl) (by decide) z0e (by decide))) rfl trivial ?_
  refine vcS_val rfl rfl (ox_move (pl rfl)) ?_
  refine vcS_val rfl rfl (ox_extract (pl rfl) rfl) ?_
  refine vcS_val rfl rfl (ox_extract (pl rfl) rfl) ?_
  refine vcS_val rfl rfl (ox_extract (pl rfl) rfl) ?_
  refine vcS_val rfl rfl (ox_extract (pl rfl) rfl) ?_
  refine vcS_new rfl rfl (ox_allocZ D_69 (zero_69 D_69)) (.inl (by omega)) ?_
  refine vcS_new rfl rfl (ox_allocZ (cs := encs (Vector.replicate 32 (0 : UInt8)).toList) D_24 rfl) (.inl (by omega)) ?_
  refine vcS_sto rfl rfl (ox_store (pl rfl) (pl rfl) D_69 (hp_sk (by omega) (hp_eq _ _ _ _)) (cellsOf_Record _) (Record.cells_length _) (Record.le _ rfl) (Record.cells_known _) (wr_all (by simp only [Record.cells_length]))) (.inl (by omega)) ?_
  refine vcS_val rfl rfl (ox_assign (pl rfl)) ?_
  refine vcS_sto rfl rfl (ox_store (pl rfl) (pl rfl) D_24 (hp_sk (by omega) (hp_eq _ _ _ _)) rfl (encs_vec_length _) (le_vec _ rfl) (encs_known _) (wr_all (by simp only [encs_vec_length]))) (.inl (by omega)) ?_
  refine vcS_val rfl rfl (ox_assign (pl rfl)) ?_
  refine vcS_nil ?_
  refine IW.seq ?_
  refine IW.reg hE ?_
  refine vcS_val rfl rfl (ox_buildA0 (cs := encs (Vector.replicate 32 (0 : UInt8)).toList) D_24 rfl D_5 rfl) ?_
  refine vcS_ups rfl rfl (ox_fn rfl rfl (F50_noE (b := []) rfl (by decide) z1e (by decide))) rfl trivial ?_
  refine vcS_val rfl rfl (ox_move (pl rfl)) ?_
  refine vcS_val rfl rfl (ox_extract (pl rfl) rfl) ?_
  refine vcS_val rfl rfl (ox_extract (pl rfl) rfl) ?_
  refine vcS_val rfl rfl (ox_extract (pl rfl) rfl) ?_
  refine vcS_val rfl rfl (ox_extract (pl rfl) rfl) ?_
  refine vcS_new rfl rfl (ox_allocZ D_69 (zero_69 D_69)) (.inl (by omega)) ?_
  refine vcS_new rfl rfl (ox_allocZ (cs := encs (Vector.replicate 32 (0 : UInt8)).toList) D_24 rfl) (.inl (by omega)) ?_
  refine vcS_sto rfl rfl (ox_store (pl rfl) (pl rfl) D_69 (hp_sk (by omega) (hp_eq _ _ _ _)) (cellsOf_Record _) (Record.cells_length _) (Record.le _ rfl) (Record.cells_known _) (wr_all (by simp only [Record.cells_length]))) (.inl (by omega)) ?_
  refine vcS_val rfl rfl (ox_assign (pl rfl)) ?_
  refine vcS_sto rfl rfl (ox_store (pl rfl) (pl rfl) D_24 (hp_sk (by omega) (hp_eq _ _ _ _)) rfl (encs_vec_length _) (le_vec _ rfl) (encs_known _) (wr_all (by simp only [encs_vec_length]))) (.inl (by omega)) ?_
  refine vcS_val rfl rfl (ox_assign (pl rfl)) ?_
  refine vcS_nil ?_
  refine IW.seq ?_
  refine IW.reg hE ?_
  refine vcS_new rfl rfl (ox_bsl (cs := encs [(97 : UInt8), 98, 99]) D_35 rfl D_5 (Nat.le_of_ble_eq_true rfl) rfl (by kernel_rfl)) (.inl (by omega)) ?_
  refine vcS_ups rfl rfl (ox_cvSl (pl rfl) D_35 rfl D_5 rfl (hp_eq _ _ _ _)) rfl ⟨.inl (by omega), trivial⟩ ?_
  refine vcS_val rfl rfl (ox_buildZ D_69 (zero_69 D_69) rfl rfl (fill_cons (pl_mk rfl D_5) rfl rfl (Record.le _ rfl) (wr_69_0 _ (1 : UInt8)) (fill_cons (pl_mk rfl D_35) rfl rfl (Record.le _ rfl) (wr_69_1 _ ⟨some ⟨n + 1 + 1 + 1 + 1 + 1, 0, none⟩, 3, 3⟩) fill_nil))) ?_
  refine vcS_val rfl rfl (ox_fn rfl rfl (recF_ev (a := (⟨1, ⟨some ⟨n + 1 + 1 + 1 + 1 + 1, 0, none⟩, 3, 3⟩⟩ : Record)) (c := [97, 98, 99]) (rdC_1all (hp_eq _ _ _ _) rfl) (by decide) rfl)) ?_
  refine vcS_val rfl rfl (ox_bin (pl rfl) (pl rfl) ((bo_i64_eql _ _).trans (congrArg (fun b => some (Value.bool b)) (show _ = true by kernel_rfl)))) ?_
  refine vcS_val rfl rfl (ox_move (pl rfl)) ?_
  refine vcS_T rfl (wgT rfl rfl rfl) rfl (ox_move (pl rfl)) rfl trivial ?_
  refine vcS_T rfl (wgT rfl rfl rfl) rfl (ox_bin (pl rfl) (pl rfl) ((bo_i64_eql _ _).trans (congrArg (fun b => some (Value.bool b)) (show _ = true by kernel_rfl)))) rfl trivial ?_
  refine vcS_val rfl rfl (ox_and (pl rfl) (fun hc => pl rfl) (pl rfl)) ?_
  refine vcS_val rfl rfl (ox_move (pl rfl)) ?_
  refine vcS_T rfl (wgT rfl rfl rfl) rfl (ox_move (pl rfl)) rfl trivial ?_
  refine vcS_T rfl (wgT rfl rfl rfl) rfl (ox_bin (pl rfl) (pl rfl) ((bo_i64_eql _ _).trans (congrArg (fun b => some (Value.bool b)) (show _ = true by kernel_rfl)))) rfl trivial ?_
  refine vcS_val rfl rfl (ox_and (pl rfl) (fun hc => pl rfl) (pl rfl)) ?_
  refine vcS_val rfl rfl (ox_assign (pl rfl)) ?_
  refine vcS_nil ?_
  refine IW.ret ?_
  exact RetP.ret (.inr rfl) rfl rfl trivial (rfl)
def c3 : Dig := digV (wordL 3 8)
def c4 : Dig := digV (wordL 4 8)
theorem own_open {x : Value} {H : IHeap} {n k : Nat} {l : List UInt8} (hl : rdC H x = some l) (hk : l.length = k) (h0 : k ≠ 0) (hle : k ≤ 2 ^ 47) : F36 [x] H n = some ⟨.slice (some ⟨n, 0, some 1⟩) k k, [(n, some (.cells (encs l) false))], n + 1⟩ := by
  subst hk
  have hfs : fsp l.length = some 1 := if_neg h0
  rw [← hfs]; exact own_ev2 hl hle
theorem F49_okL {H : IHeap} {n L : Nat} {c : Dig} {a : Record} {d : List UInt8} (hd : rdC H (enc a.data) = some d) (hl : d.length ≤ 2 ^ 39) (h0 : chk a.kind d.length = 0) (hL : (recL c a.kind d).length = L) : F49 [enc c, enc a] H n = some ⟨.tuple #[.slice (some ⟨n, 0, some 1⟩) L L, enc (nextV c a.kind d), .int .i64 0], [(n, some (.cells (encs (recL c a.kind d)) false))], n + 1⟩ := by
  subst hL
  exact recFc_ev hd hl (if_pos h0)
theorem eq_to {b : Bool} (h : b = true) : (some (Value.bool b)) = some (.bool true) := by rw [h]
set_option maxHeartbeats 1000000
-- headwater/headwaterlaw08.RecordNames [] -> ['Bool'], results [0]
end Go.Proofs.Ytdnnojblneccdaa
/-
  headwaterlaw08.RecordBound.
-/
namespace Go.Proofs.Ytdnnojblneccdaa
set_option linter.unusedSimpArgs false
set_option linter.unusedVariables false
open Go
open Enc (enc)
set_option maxRecDepth 100000
theorem chk_zero {k : UInt8} {len : Nat} (h : chk k len = 0) : k ≠ 0 ∧ len ≤ 8192 := by
  unfold chk at h
  split at h
  · cases h
  · rename_i h1
    simp only [Bool.or_eq_true, decide_eq_true_eq, not_or] at h1
    refine ⟨fun e => h1.1 (by rw [e]; decide), by omega⟩
theorem zero_chk {k : UInt8} {len : Nat} (h : k ≠ 0) (hl : len ≤ 8192) : chk k len = 0 := by
  unfold chk
  rw [if_neg]
  simp only [Bool.or_eq_true, decide_eq_true_eq, not_or]
  refine ⟨fun e => h ?_, by omega⟩
  have := UInt8.lt_iff_toNat_lt.1 e
  have e1 : (1 : UInt8).toNat = 1 := rfl
  exact UInt8.toNat_inj.1 (by show k.toNat = 0; omega)
theorem rec_ok0 {c : Dig} {k : UInt8} {d : List UInt8} (hk : k ≠ 0) (hd : d.length ≤ 8192) : rdV c (recL c k d) = ⟨k, some d, (recL c k d).length, nextV c k d, 0⟩ := by
  have := rec_ok (c := c) (t := []) hk hd
  rwa [List.append_nil] at this
theorem rec_other {c c' : Dig} {k : UInt8} {d : List UInt8} (hk : k ≠ 0) (hd : d.length ≤ 8192) (h : (nextV c' k d).toList.take 8 = (nextV c k d).toList.take 8) : rdV c' (recL c k d) = ⟨k, some d, (recL c k d).length, nextV c' k d, 0⟩ := by
  have e : recL c k d = recL c' k d := by unfold recL; rw [h]
  rw [e]; exact rec_ok0 hk hd
theorem rec_bad0 {c c' : Dig} {k : UInt8} {d : List UInt8} (hk : k ≠ 0) (hd : d.length ≤ 8192) (h : ¬ (nextV c' k d).toList.take 8 = (nextV c k d).toList.take 8) : (rdV c' (recL c k d)).e = 4 := by
  have := rec_bad (c := c') (k := k) (d := d) (m := (nextV c k d).toList.take 8) (t := []) hk hd (by simp) (fun e => h e.symm)
  rwa [List.append_nil] at this
/-- bytes with one of them changed -/
def chg (b : List UInt8) (i : Nat) (y : UInt8) : List UInt8 := b.set i (b.getD i 0 ^^^ y)
theorem chg_length (b : List UInt8) (i : Nat) (y : UInt8) : (chg b i y).length = b.length := by simp [chg]
theorem chg_zero (b : List UInt8) (i : Nat) : chg b i 0 = b := by
  unfold chg
  rw [UInt8.xor_zero]
  apply List.ext_getElem (by simp)
  intro j h1 h2
  rw [List.getElem_set]
  split
  · rename_i e; subst e; simp [h2]
  · rfl
theorem chg_ne {b : List UInt8} {i : Nat} {y : UInt8} (hi : i < b.length) (hy : y ≠ 0) : chg b i y ≠ b := by
  intro e
  have h1 : (chg b i y).getD i 0 = b.getD i 0 := by rw [e]
  have h2 : (chg b i y).getD i 0 = b.getD i 0 ^^^ y := by
    unfold chg
    rw [List.getD_eq_getElem?_getD, List.getElem?_set_self hi]; rfl
  rw [h2] at h1
  exact hy (by
    have h3 : b.getD i 0 ^^^ (b.getD i 0 ^^^ y) = b.getD i 0 ^^^ b.getD i 0 := by rw [h1]
    rwa [← UInt8.xor_assoc, UInt8.xor_self, UInt8.zero_xor] at h3)
theorem ne_i (a : Int) : some (Value.bool (a != a)) = some (.bool false) := by simp
theorem take_rec {c : Dig} {t : List UInt8} (h : (rdV c t).e = 0) : t.take (recL c (kd t) (dl t)).length = recL c (kd t) (dl t) := by
  obtain ⟨_, _, _, rest, e⟩ := read_rec h
  exact (congrArg (List.take _) e).trans List.take_left
theorem read_form {c : Dig} {t : List UInt8} (h : (rdV c t).e = 0) : rdV c t = ⟨kd t, some (dl t), (recL c (kd t) (dl t)).length, nextV c (kd t) (dl t), 0⟩ := (read_rec h).2.2.1
theorem not_same {c : Dig} {k : UInt8} {d : List UInt8} {i : Nat} {y : UInt8} (hi : i < (recL c k d).length) (hy : y ≠ 0) (h : (rdV c (chg (recL c k d) i y)).e = 0) : ((kd (chg (recL c k d) i y) == k) && (dl (chg (recL c k d) i y) == d)) = false := by
  rw [Bool.eq_false_iff]
  intro e
  simp only [Bool.and_eq_true, beq_iff_eq] at e
  have h1 := take_rec h
  rw [e.1, e.2, List.take_of_length_le (by rw [chg_length]; exact Nat.le_refl _)] at h1
  exact chg_ne hi hy h1
theorem size_le {c : Dig} {t : List UInt8} (h : (rdV c t).e = 0) : (recL c (kd t) (dl t)).length ≤ t.length := by
  have := congrArg List.length (take_rec h)
  rw [List.length_take] at this; omega
theorem same_rec {k : UInt8} {d : List UInt8} : ((k == k) && (d == d)) = true := by simp
theorem pick_in (x : Int) {m : Nat} (h : 0 < m) : ∃ K : Nat, pickV x (m : Int) = K ∧ K < m := by
  have := pickV_rng (n := x) (m := (m : Int)) (by omega)
  exact ⟨(pickV x (m : Int)).toNat, by omega, by omega⟩
noncomputable def F11 : FnI := fun args H n => match args with
  | [x, y, z, .int .i64 _, w] => (dec x).bind fun (a : Record) => (dec y).bind fun (_ : Dig) => (dec z).bind fun (_ : Dig) => (dec w).bind fun (_ : UInt8) => (rdC H (enc a.data)).bind fun (_ : List UInt8) => some ⟨.bool true, [], n⟩
  | _ => none
theorem F11_inv {args : List Value} {H : IHeap} {n : Nat} {e : Eff} (h : F11 args H n = some e) : ∃ (a : Record) (c c' : Dig) (i : Int) (y : UInt8) (d : List UInt8), args = [enc a, enc c, enc c', .int .i64 i, enc y] ∧ rdC H (enc a.data) = some d ∧ e = ⟨.bool true, [], n⟩ := by
  unfold F11 at h; split at h
  · simp only [Option.bind_eq_some_iff] at h
    obtain ⟨a, ha, c, hc, c', hc', y, hy, d, hd, h⟩ := h
    cases h
    exact ⟨a, c, c', _, y, d, by rw [dec_some ha, dec_some hc, dec_some hc', dec_some hy], hd, rfl⟩
  · cases h
theorem F11_ev {H : IHeap} {n : Nat} {a : Record} {c c' : Dig} {i : Int} {y : UInt8} {d : List UInt8} (hd : rdC H (enc a.data) = some d) : F11 [enc a, enc c, enc c', .int .i64 i, enc y] H n = some ⟨.bool true, [], n⟩ := by
  simp only [F11, dec_enc, Option.bind_some, hd]
set_option maxHeartbeats 2000000
-- headwater/headwaterlaw08.RecordBound ['Record', 'Vector UInt8 32', 'Vector UInt8 32', 'Int', 'UInt8'] -> ['Bool'], results [10]
theorem R11 : Ref Try.prog 11 F11 := by
  refine Ref.of_iw dok Try.func11 rfl (by kernel_rfl) fun args H n e hF => ?_
  obtain ⟨a, c, c', i, y, d, rfl, hD, rfl⟩ := F11_inv hF
  have hrl := rec_len hD
  refine ⟨Nat.le_of_ble_eq_true rfl, ?_⟩
  simp only [idxL]
  have hE : Env Try.prog [(31, F31), (36, F36), (47, F47), (48, F48), (49, F49), (50, F50), (51, F51), (52, F52)] D K := env (fnsOk_cons R31 (fnsOk_cons R36 (fnsOk_cons R47 (fnsOk_cons R48 (fnsOk_cons R49 (fnsOk_cons R50 (fnsOk_cons R51 (fnsOk_cons R52 fnsOk_nil))))))))
  refine IW.seq ?_
  refine IW.free (by simp) (fun hfree => ?_)
  refine IW.reg hE ?_
  refine vcS_new rfl rfl (ox_box (pl rfl) (cellsOf_Record _)) (.inl (by omega)) ?_
  refine vcS_new rfl rfl (ox_box (pl rfl) rfl) (.inl (by omega)) ?_
  refine vcS_new rfl rfl (ox_box (pl rfl) rfl) (.inl (by omega)) ?_
  refine vcS_val rfl rfl (ox_assign (pl rfl)) ?_
  refine vcS_nil ?_
  refine IW.seq ?_
  refine IW.seq ?_
  refine IW.reg hE ?_
  refine vcS_val rfl rfl (ox_fn rfl rfl (fn0_ev _ _ _)) ?_
  refine vcS_val rfl rfl (ox_un (pl rfl) (uo_not _)) ?_
  refine vcS_nil ?_
  refine IW.cond rfl (fun hc1 => ?_) (fun hc1 => ?_)
  · cases hc1
  · refine IW.skip ?_
    refine IW.seq ?_
    refine IW.seq ?_
    refine IW.reg hE ?_
    refine vcS_val rfl rfl (ox_fieldAddr (pl rfl) D_69 rfl rfl D_35 (by decide)) ?_
    refine vcS_val rfl rfl (ox_load (pl rfl) D_35 (hp_sk (by omega) (hp_sk (by omega) (hp_eq _ _ _ _))) (rd_69_1 _ rfl)) ?_
    refine vcS_val rfl rfl (ox_len (pl rfl) D_35 rfl) ?_
    refine vcS_val rfl rfl (ox_bin (pl rfl) (pl rfl) (bo_i64_gtr _ _)) ?_
    refine vcS_val rfl rfl (ox_move (pl rfl)) ?_
    refine vcS_opt rfl (wgF rfl rfl rfl) (fun hb => ox_load (pl rfl) D_69 (hp_sk (by omega) (hp_sk (by omega) (hp_eq _ _ _ _))) (rd_69 _ rfl rfl)) ?_
    refine vcS_opt rfl (wgF rfl rfl rfl) (fun hb => ox_fnG rfl (mp_cons (gd hb rfl) mp_nil) (fn1_ev _ _ _ _)) ?_
    refine vcS_opt rfl (wgF rfl rfl rfl) (fun hb => ox_bin (gd hb rfl) (pl rfl) (bo_i64_neq _ _)) ?_
    refine vcS_val rfl rfl (ox_or (pl rfl) (pl rfl) (fun hc => gd (by rw [hc]; rfl) rfl)) ?_
    refine vcS_nil ?_
    refine IW.cond rfl (fun hc2 => ?_) (fun hc2 => ?_)
    · refine IW.seq ?_
      refine IW.reg hE ?_
      refine vcS_val rfl rfl (ox_assign (pl rfl)) ?_
      refine vcS_nil ?_
      refine IW.ret ?_
      exact RetP.ret (.inr rfl) rfl rfl trivial (rfl)
    · obtain ⟨hl1, hl2⟩ : ¬ (9000 : Int) < a.data.len ∧ (((chk a.kind a.data.len : Nat) : Int) != 0) = false := by simpa only [Bool.or_eq_false_iff, decide_eq_false_iff_not] using hc2
      have hck : chk a.kind d.length = 0 := by rw [← hrl]; exact Int.ofNat.inj (bne_eq_false_iff_eq.1 hl2)
      obtain ⟨hk, hd8⟩ := chk_zero hck
      have hbl := bodyL_length a.kind d
      have hsz := sizeV_small (UInt64.ofNat d.length)
      have hRl := recL_length c a.kind d
      have hL0 : (recL c a.kind d).length ≠ 0 := by omega
      refine IW.skip ?_
      refine IW.seq ?_
      refine IW.reg hE ?_
      refine vcS_val rfl rfl (ox_load (pl rfl) D_24 (hp_sk (by omega) (hp_eq _ _ _ _)) (rd_all rfl (encs_vec_length _))) ?_
      refine vcS_val rfl rfl (ox_load (pl rfl) D_69 (hp_sk (by omega) (hp_sk (by omega) (hp_eq _ _ _ _))) (rd_69 _ rfl rfl)) ?_
      refine vcS_ups rfl rfl (ox_fn rfl rfl (F49_okL (c := c) (a := a) (d := d) (L := (recL c a.kind d).length) (rdC_keep hfree hD (by exact ⟨by omega, ⟨by omega, ⟨by omega, trivial⟩⟩⟩)) (by omega) hck rfl)) rfl ⟨.inl (by omega), trivial⟩ ?_
      refine vcS_val rfl rfl (ox_move (pl rfl)) ?_
      refine vcS_val rfl rfl (ox_extract (pl rfl) rfl) ?_
      refine vcS_val rfl rfl (ox_extract (pl rfl) rfl) ?_
      refine vcS_val rfl rfl (ox_extract (pl rfl) rfl) ?_
      refine vcS_new rfl rfl (ox_allocZ (cs := encs (Vector.replicate 32 (0 : UInt8)).toList) D_24 rfl) (.inl (by omega)) ?_
      refine vcS_val rfl rfl (ox_assign (pl rfl)) ?_
      refine vcS_sto rfl rfl (ox_store (pl rfl) (pl rfl) D_24 (hp_eq _ _ _ _) rfl (encs_vec_length _) (le_vec _ rfl) (encs_known _) (wr_all (by simp only [encs_vec_length]))) (.inl (by omega)) ?_
      refine vcS_val rfl rfl (ox_assign (pl rfl)) ?_
      refine vcS_nil ?_
      refine IW.seq ?_
      refine IW.reg hE ?_
      refine vcS_val rfl rfl (ox_load (pl rfl) D_24 (hp_sk (by omega) (hp_sk (by omega) (hp_sk (by omega) (hp_sk (by omega) (hp_eq _ _ _ _))))) (rd_all rfl (encs_vec_length _))) ?_
      refine vcS_val rfl rfl (ox_move (pl rfl)) ?_
      refine vcS_ups rfl rfl (ox_fn rfl rfl (F50_ok (c := c) (b := (recL c a.kind d)) (l := d) (rdC_1all (hp_sk (by omega) (hp_sk (by omega) (hp_eq _ _ _ _))) rfl) (by omega) (rec_ok0 hk hd8) rfl rfl)) rfl ⟨.inl (by omega), trivial⟩ ?_
      refine vcS_val rfl rfl (ox_move (pl rfl)) ?_
      refine vcS_val rfl rfl (ox_extract (pl rfl) rfl) ?_
      refine vcS_val rfl rfl (ox_extract (pl rfl) rfl) ?_
      refine vcS_val rfl rfl (ox_extract (pl rfl) rfl) ?_
      refine vcS_val rfl rfl (ox_extract (pl rfl) rfl) ?_
      refine vcS_new rfl rfl (ox_allocZ D_69 (zero_69 D_69)) (.inl (by omega)) ?_
      refine vcS_new rfl rfl (ox_allocZ (cs := encs (Vector.replicate 32 (0 : UInt8)).toList) D_24 rfl) (.inl (by omega)) ?_
      refine vcS_sto rfl rfl (ox_store (pl rfl) (pl rfl) D_69 (hp_sk (by omega) (hp_eq _ _ _ _)) (cellsOf_Record _) (Record.cells_length _) (Record.le _ rfl) (Record.cells_known _) (wr_all (by simp only [Record.cells_length]))) (.inl (by omega)) ?_
      refine vcS_val rfl rfl (ox_assign (pl rfl)) ?_
      refine vcS_sto rfl rfl (ox_store (pl rfl) (pl rfl) D_24 (hp_sk (by omega) (hp_eq _ _ _ _)) rfl (encs_vec_length _) (le_vec _ rfl) (encs_known _) (wr_all (by simp only [encs_vec_length]))) (.inl (by omega)) ?_
      refine vcS_val rfl rfl (ox_assign (pl rfl)) ?_
      refine vcS_nil ?_
      refine IW.seq ?_
      refine IW.seq ?_
      refine IW.reg hE ?_
      refine vcS_val rfl rfl (ox_move (pl rfl)) ?_
      refine vcS_val rfl rfl (ox_bin (pl rfl) (pl rfl) ((bo_i64_neq _ _).trans (ne_i _))) ?_
      refine vcS_val rfl rfl (ox_move (pl rfl)) ?_
      refine vcS_opt rfl (wgF rfl rfl rfl) (fun hb => ox_load (pl rfl) D_69 (hp_sk (by omega) (hp_eq _ _ _ _)) (rd_69 _ rfl rfl)) ?_
      refine vcS_opt rfl (wgF rfl rfl rfl) (fun hb => ox_load (pl rfl) D_69 (hp_sk (by omega) (hp_sk (by omega) (hp_sk (by omega) (hp_sk (by omega) (hp_sk (by omega) (hp_sk (by omega) (hp_sk (by omega) (hp_sk (by omega) (hp_sk (by omega) (hp_sk (by omega) (hp_eq _ _ _ _))))))))))) (rd_69 _ rfl rfl)) ?_
      refine vcS_opt rfl (wgF rfl rfl rfl) (fun hb => ox_fnG rfl (mp_cons (gd hb rfl) (mp_cons (gd hb rfl) mp_nil)) ((recF2_ev (a := ⟨a.kind, ⟨some ⟨n + 1 + 1 + 1 + 1 + 1, 0, none⟩, d.length, d.length⟩⟩) (b := a) (c := d) (d := d) (rdC_1all (hp_sk (by omega) (hp_sk (by omega) (hp_sk (by omega) (hp_sk (by omega) (hp_eq _ _ _ _))))) rfl) (rdC_keep hfree hD (by exact ⟨by omega, ⟨by omega, ⟨by omega, ⟨by omega, ⟨by omega, ⟨by omega, ⟨by omega, ⟨by omega, ⟨by omega, ⟨by omega, ⟨by omega, trivial⟩⟩⟩⟩⟩⟩⟩⟩⟩⟩⟩))).trans (show some (⟨.bool ((a.kind == a.kind) && (d == d)), [], _⟩ : Eff) = some ⟨.bool true, [], _⟩ by rw [same_rec]))) ?_
      refine vcS_opt rfl (wgF rfl rfl rfl) (fun hb => ox_un (gd hb rfl) (uo_not _)) ?_
      refine vcS_val rfl rfl (ox_or (pl rfl) (pl rfl) (fun hc => gd (by rw [hc]; rfl) rfl)) ?_
      refine vcS_val rfl rfl (ox_move (pl rfl)) ?_
      refine vcS_opt rfl (wgF rfl rfl rfl) (fun hb => ox_move (pl rfl)) ?_
      refine vcS_opt rfl (wgF rfl rfl rfl) (fun hb => ox_move (pl rfl)) ?_
      refine vcS_opt rfl (wgF rfl rfl rfl) (fun hb => ox_len (gd hb rfl) D_35 rfl) ?_
      refine vcS_opt rfl (wgF rfl rfl rfl) (fun hb => ox_bin (pl rfl) (pl rfl) ((bo_i64_neq _ _).trans (ne_i _))) ?_
      refine vcS_val rfl rfl (ox_or (pl rfl) (pl rfl) (fun hc => gd (by rw [hc]; rfl) rfl)) ?_
      refine vcS_val rfl rfl (ox_move (pl rfl)) ?_
      refine vcS_opt rfl (wgF rfl rfl rfl) (fun hb => ox_load (pl rfl) D_24 (hp_eq _ _ _ _) (rd_all rfl (encs_vec_length _))) ?_
      refine vcS_opt rfl (wgF rfl rfl rfl) (fun hb => ox_load (pl rfl) D_24 (hp_sk (by omega) (hp_sk (by omega) (hp_sk (by omega) (hp_sk (by omega) (hp_sk (by omega) (hp_eq _ _ _ _)))))) (rd_all rfl (encs_vec_length _))) ?_
      refine vcS_opt rfl (wgF rfl rfl rfl) (fun hb => ox_bin (pl rfl) (pl rfl) ((ne_vec K_24 cellEq_u8 _ _).trans (ne_same _))) ?_
      refine vcS_val rfl rfl (ox_or (pl rfl) (pl rfl) (fun hc => gd (by rw [hc]; rfl) rfl)) ?_
      refine vcS_nil ?_
      refine IW.cond rfl (fun hc3 => ?_) (fun hc3 => ?_)
      · exact absurd hc3 (by decide)
      · refine IW.skip ?_
        refine IW.seq ?_
        refine IW.reg hE ?_
        refine vcS_val rfl rfl (ox_load (pl rfl) D_24 (hp_sk (by omega) (hp_sk (by omega) (hp_sk (by omega) (hp_sk (by omega) (hp_sk (by omega) (hp_sk (by omega) (hp_sk (by omega) (hp_sk (by omega) (hp_eq _ _ _ _))))))))) (rd_all rfl (encs_vec_length _))) ?_
        refine vcS_val rfl rfl (ox_load (pl rfl) D_69 (hp_sk (by omega) (hp_sk (by omega) (hp_sk (by omega) (hp_sk (by omega) (hp_sk (by omega) (hp_sk (by omega) (hp_sk (by omega) (hp_sk (by omega) (hp_sk (by omega) (hp_sk (by omega) (hp_eq _ _ _ _))))))))))) (rd_69 _ rfl rfl)) ?_
        refine vcS_val rfl rfl (ox_fn rfl rfl (recFc_ev (rdC_keep hfree hD (by exact ⟨by omega, ⟨by omega, ⟨by omega, ⟨by omega, ⟨by omega, ⟨by omega, ⟨by omega, ⟨by omega, ⟨by omega, ⟨by omega, ⟨by omega, trivial⟩⟩⟩⟩⟩⟩⟩⟩⟩⟩⟩)) (by omega) rfl)) ?_
        refine vcS_new rfl rfl (ox_allocZ (cs := encs (Vector.replicate 32 (0 : UInt8)).toList) D_24 rfl) (.inl (by omega)) ?_
        refine vcS_sto rfl rfl (ox_store (pl rfl) (pl rfl) D_24 (hp_eq _ _ _ _) rfl (encs_vec_length _) (le_vec _ rfl) (encs_known _) (wr_all (by simp only [encs_vec_length]))) (.inl (by omega)) ?_
        refine vcS_nil ?_
        refine IW.seq ?_
        by_cases hs : (nextV c' a.kind d).toList.take 8 = (nextV c a.kind d).toList.take 8
        · refine IW.reg hE ?_
          refine vcS_val rfl rfl (ox_load (pl rfl) D_24 (hp_sk (by omega) (hp_sk (by omega) (hp_sk (by omega) (hp_sk (by omega) (hp_sk (by omega) (hp_sk (by omega) (hp_sk (by omega) (hp_sk (by omega) (hp_sk (by omega) (hp_sk (by omega) (hp_eq _ _ _ _))))))))))) (rd_all rfl (encs_vec_length _))) ?_
          refine vcS_val rfl rfl (ox_move (pl rfl)) ?_
          refine vcS_ups rfl rfl (ox_fn rfl rfl (F50_ok (c := c') (b := (recL c a.kind d)) (l := d) (rdC_1all (hp_sk (by omega) (hp_sk (by omega) (hp_sk (by omega) (hp_sk (by omega) (hp_sk (by omega) (hp_sk (by omega) (hp_sk (by omega) (hp_sk (by omega) (hp_sk (by omega) (hp_eq _ _ _ _)))))))))) rfl) (by omega) (rec_other hk hd8 hs) rfl rfl)) rfl ⟨.inl (by omega), trivial⟩ ?_
          refine vcS_val rfl rfl (ox_move (pl rfl)) ?_
          refine vcS_val rfl rfl (ox_extract (pl rfl) rfl) ?_
          refine vcS_val rfl rfl (ox_extract (pl rfl) rfl) ?_
          refine vcS_val rfl rfl (ox_extract (pl rfl) rfl) ?_
          refine vcS_val rfl rfl (ox_extract (pl rfl) rfl) ?_
          refine vcS_new rfl rfl (ox_allocZ D_69 (zero_69 D_69)) (.inl (by omega)) ?_
          refine vcS_new rfl rfl (ox_allocZ (cs := encs (Vector.replicate 32 (0 : UInt8)).toList) D_24 rfl) (.inl (by omega)) ?_
          refine vcS_sto rfl rfl (ox_store (pl rfl) (pl rfl) D_69 (hp_sk (by omega) (hp_eq _ _ _ _)) (cellsOf_Record _) (Record.cells_length _) (Record.le _ rfl) (Record.cells_known _) (wr_all (by simp only [Record.cells_length]))) (.inl (by omega)) ?_
          refine vcS_val rfl rfl (ox_assign (pl rfl)) ?_
          refine vcS_sto rfl rfl (ox_store (pl rfl) (pl rfl) D_24 (hp_sk (by omega) (hp_eq _ _ _ _)) rfl (encs_vec_length _) (le_vec _ rfl) (encs_known _) (wr_all (by simp only [encs_vec_length]))) (.inl (by omega)) ?_
          refine vcS_val rfl rfl (ox_assign (pl rfl)) ?_
          refine vcS_nil ?_
          refine IW.seq ?_
          refine IW.seq ?_
          refine IW.drw hE mixed [[],[0],[],[2],[],[4],[2,3,4,5],[0,1,2,3,4,5,6],[0,1,2,3,4,5,6,7],[0,1,2,3,4,5,6,7,8],[0,1,2,3,4,5,6,7,8,9],[0,1,2,3,4,5,6,7,8,9,10],[0,1,2,3,4,5,6,7,8,9,10,11],[0,1,2,3,4,5,6,7,8,9,10,11,12],[0,1,2,3,4,5,6,7,8,9,10,11,12,13],[0,1,2,3,4,5,6,7,8,9,10,11,12,13,14]] (by kernel_rfl) (vcE_start ?_)
          refine vcE_bl rfl rfl (fun _ => ox_move (pl rfl)) rfl rfl ?_
          refine vcE_bl rfl rfl (fun _ => ox_bin (pl rfl) (pl rfl) (bo_i64_eql _ _)) rfl rfl ?_
          refine vcE_bl rfl rfl (fun _ => ox_slAH (pl rfl) D_24 rfl D_5 (bndI (pl rfl) rfl) (by first | omega | decide)) rfl rfl ?_
          refine vcE_val rfl rfl rfl rfl (ox_cvS (pl rfl) D_35 rfl D_5 rfl D_9 rfl (rdC_sl0 (len := 32) (rdC_1all (hp_sk (by omega) (hp_sk (by omega) (hp_sk (by omega) (hp_sk (by omega) (hp_sk (by omega) (hp_eq _ _ _ _)))))) (by simp)) (by decide))) rfl (si_conv (pl rfl)) (lt1 (by omega)) (trivial) ?_
          refine vcE_bl rfl rfl (fun _ => ox_slAH (pl rfl) D_24 rfl D_5 (bndI (pl rfl) rfl) (by first | omega | decide)) rfl rfl ?_
          refine vcE_val rfl rfl rfl rfl (ox_cvS (pl rfl) D_35 rfl D_5 rfl D_9 rfl (rdC_sl0 (len := 32) (rdC_1all (hp_sk (by omega) (hp_sk (by omega) (hp_sk (by omega) (hp_sk (by omega) (hp_sk (by omega) (hp_sk (by omega) (hp_sk (by omega) (hp_sk (by omega) (hp_sk (by omega) (hp_sk (by omega) (hp_sk (by omega) (hp_sk (by omega) (hp_eq _ _ _ _))))))))))))) (by simp)) (by decide))) rfl (si_conv (pl rfl)) (lt1 (by omega)) (trivial) ?_
          refine vcE_bl rfl rfl (fun _ => ox_bin (pl rfl) (pl rfl) ((bo_str_eql _ _).trans (eq_to (by rw [hs]; simp)))) rfl rfl ?_
          refine vcE_bl rfl rfl (fun _ => ox_bin (pl rfl) (pl rfl) (bo_bool_neq D_4 rfl _ _)) rfl rfl ?_
          refine vcE_bl rfl rfl (fun _ => ox_move (pl rfl)) rfl rfl ?_
          refine vcE_known (wgF rfl rfl rfl) rfl ?_
          refine vcE_bl rfl rfl (fun _ => ox_move (pl rfl)) rfl rfl ?_
          refine vcE_known (wgF rfl rfl rfl) rfl ?_
          refine vcE_bl rfl rfl (fun _ => ox_bin (pl rfl) (pl rfl) (bo_i64_neq _ _)) rfl rfl ?_
          refine vcE_known (wgF rfl rfl rfl) rfl ?_
          refine vcE_bl rfl rfl (fun _ => ox_move (pl rfl)) rfl rfl ?_
          refine vcE_opt rfl (wgT rfl rfl rfl) rfl rfl (fun hb => ox_move (pl rfl)) (fun hb => vi_bl rfl rfl) hf0 (trivial) ?_
          refine vcE_opt rfl (wgT rfl rfl rfl) rfl rfl (fun hb => ox_bin (gd hb rfl) (pl rfl) (bo_i64_neq _ _)) (fun hb => vi_bl rfl rfl) hf0 (trivial) ?_
          refine vcE_known (wgF rfl rfl rfl) rfl ?_
          refine vcE_bl rfl rfl (fun _ => ox_and (pl rfl) (fun hc => gd hc rfl) (pl rfl)) rfl rfl ?_
          refine vcE_bl rfl rfl (fun _ => ox_or (pl rfl) (pl rfl) (fun hc => pl rfl)) rfl rfl ?_
          refine vcE_nil ?_
          refine IW.cond rfl (fun hc4 => ?_) (fun hc4 => ?_)
          · exact absurd hc4 (by decide)
          · refine IW.skip ?_
            refine IW.seq ?_
            refine IW.reg hE ?_
            refine vcS_val rfl rfl (ox_move (pl rfl)) ?_
            refine vcS_ups rfl rfl (ox_fn rfl rfl (own_open (l := (recL c a.kind d)) (k := (recL c a.kind d).length) (rdC_1all (hp_sk (by omega) (hp_sk (by omega) (hp_sk (by omega) (hp_sk (by omega) (hp_sk (by omega) (hp_sk (by omega) (hp_sk (by omega) (hp_sk (by omega) (hp_sk (by omega) (hp_sk (by omega) (hp_sk (by omega) (hp_sk (by omega) (hp_sk (by omega) (hp_sk (by omega) (hp_eq _ _ _ _))))))))))))))) rfl) rfl hL0 (by omega))) rfl ⟨.inl (by omega), trivial⟩ ?_
            refine vcS_val rfl rfl (ox_assign (pl rfl)) ?_
            refine vcS_nil ?_
            refine IW.seq ?_
            refine IW.reg hE ?_
            refine vcS_val rfl rfl (ox_move (pl rfl)) ?_
            refine vcS_val rfl rfl (ox_move (pl rfl)) ?_
            refine vcS_val rfl rfl (ox_len (pl rfl) D_35 rfl) ?_
            refine vcS_val rfl rfl (ox_fn rfl rfl (F31_ev _ (by omega))) ?_
            refine vcS_val rfl rfl (ox_assign (pl rfl)) ?_
            refine vcS_nil ?_
            refine IW.seq ?_
            obtain ⟨K, hK, hK2⟩ := pick_in i (m := (recL c a.kind d).length) (by omega)
            rw [hK]
            refine IW.reg hE ?_
            refine vcS_val rfl rfl (ox_move (pl rfl)) ?_
            refine vcS_val rfl rfl (ox_move (pl rfl)) ?_
            refine vcS_val rfl rfl (ox_move (pl rfl)) ?_
            refine vcS_val rfl rfl (ox_move (pl rfl)) ?_
            refine vcS_val rfl rfl (ox_iaS (pl rfl) (pl rfl) D_35 rfl D_5 (by omega) (by omega)) ?_
            refine vcS_val rfl rfl (ox_load (pl rfl) D_5 (hp_eq _ _ _ _) (rd_ix (K) (0 : UInt8) rfl (by simp) ((show K < (recL c a.kind d).length by omega)))) ?_
            refine vcS_val rfl rfl (ox_move (pl rfl)) ?_
            refine vcS_val rfl rfl (ox_bin (pl rfl) (pl rfl) (bo_u8_xor _ _)) ?_
            refine vcS_val rfl rfl (ox_iaS (pl rfl) (pl rfl) D_35 rfl D_5 (by omega) (by omega)) ?_
            refine vcS_sto rfl rfl (ox_store (pl rfl) (pl rfl) D_5 (hp_eq _ _ _ _) rfl rfl (by rw [encs_length]; have := (show K < (recL c a.kind d).length by omega); first | (simp; omega) | (simp at this ⊢; omega)) rfl (wr_ix (K) (by simp) _)) (.inl (by omega)) ?_
            refine vcS_nil ?_
            refine IW.seq ?_
            by_cases he : (rdV c (chg (recL c a.kind d) K y)).e = 0
            · have hsl := size_le he
              rw [chg_length] at hsl
              refine IW.reg hE ?_
              refine vcS_val rfl rfl (ox_load (pl rfl) D_24 (hp_sk (by omega) (hp_sk (by omega) (hp_sk (by omega) (hp_sk (by omega) (hp_sk (by omega) (hp_sk (by omega) (hp_sk (by omega) (hp_sk (by omega) (hp_sk (by omega) (hp_sk (by omega) (hp_sk (by omega) (hp_sk (by omega) (hp_sk (by omega) (hp_sk (by omega) (hp_sk (by omega) (hp_sk (by omega) (hp_sk (by omega) (hp_sk (by omega) (hp_eq _ _ _ _))))))))))))))))))) (rd_all rfl (encs_vec_length _))) ?_
              refine vcS_val rfl rfl (ox_move (pl rfl)) ?_
              refine vcS_ups rfl rfl (ox_fn rfl rfl (F50_ok (b := (chg (recL c a.kind d) K y)) (l := dl (chg (recL c a.kind d) K y)) (rdC_1all (hp_eq _ _ _ _) (chg_length _ _ _)) (by rw [chg_length]; omega) (read_form he) rfl rfl)) rfl ⟨.inl (by omega), trivial⟩ ?_
              refine vcS_val rfl rfl (ox_move (pl rfl)) ?_
              refine vcS_val rfl rfl (ox_extract (pl rfl) rfl) ?_
              refine vcS_val rfl rfl (ox_extract (pl rfl) rfl) ?_
              refine vcS_val rfl rfl (ox_extract (pl rfl) rfl) ?_
              refine vcS_val rfl rfl (ox_extract (pl rfl) rfl) ?_
              refine vcS_new rfl rfl (ox_allocZ D_69 (zero_69 D_69)) (.inl (by omega)) ?_
              refine vcS_new rfl rfl (ox_allocZ (cs := encs (Vector.replicate 32 (0 : UInt8)).toList) D_24 rfl) (.inl (by omega)) ?_
              refine vcS_sto rfl rfl (ox_store (pl rfl) (pl rfl) D_69 (hp_sk (by omega) (hp_eq _ _ _ _)) (cellsOf_Record _) (Record.cells_length _) (Record.le _ rfl) (Record.cells_known _) (wr_all (by simp only [Record.cells_length]))) (.inl (by omega)) ?_
              refine vcS_val rfl rfl (ox_assign (pl rfl)) ?_
              refine vcS_sto rfl rfl (ox_store (pl rfl) (pl rfl) D_24 (hp_sk (by omega) (hp_eq _ _ _ _)) rfl (encs_vec_length _) (le_vec _ rfl) (encs_known _) (wr_all (by simp only [encs_vec_length]))) (.inl (by omega)) ?_
              refine vcS_val rfl rfl (ox_assign (pl rfl)) ?_
              refine vcS_nil ?_
              refine IW.seq ?_
              refine IW.seq ?_
              refine IW.reg hE ?_
              refine vcS_val rfl rfl (ox_move (pl rfl)) ?_
              refine vcS_val rfl rfl (ox_bin (pl rfl) (pl rfl) (bo_i64_neq _ _)) ?_
              refine vcS_val rfl rfl (ox_move (pl rfl)) ?_
              refine vcS_opt rfl (wgF rfl rfl rfl) (fun hb => ox_move (pl rfl)) ?_
              refine vcS_opt rfl (wgF rfl rfl rfl) (fun hb => ox_bin (gd hb rfl) (pl (v := enc (0 : UInt8)) rfl) (bo_u8_eql _ _)) ?_
              refine vcS_val rfl rfl (ox_or (pl rfl) (pl rfl) (fun hc => gd (by rw [hc]; rfl) rfl)) ?_
              refine vcS_nil ?_
              refine IW.cond rfl (fun hc5 => ?_) (fun hc5 => ?_)
              · refine IW.seq ?_
                refine IW.reg hE ?_
                refine vcS_val rfl rfl (ox_move (pl rfl)) ?_
                refine vcS_val rfl rfl (ox_bin (pl rfl) (pl (v := enc (0 : UInt8)) rfl) (bo_u8_neq _ _)) ?_
                refine vcS_val rfl rfl (ox_move (pl rfl)) ?_
                refine vcS_opt rfl (wgF rfl rfl rfl) (fun hb => ox_move (pl rfl)) ?_
                refine vcS_opt rfl (wgF rfl rfl rfl) (fun hb => ox_bin (gd hb rfl) (pl rfl) (bo_i64_eql _ _)) ?_
                refine vcS_val rfl rfl (ox_or (pl rfl) (pl rfl) (fun hc => gd (by rw [hc]; rfl) rfl)) ?_
                refine vcS_val rfl rfl (ox_assign (pl rfl)) ?_
                refine vcS_nil ?_
                refine IW.ret ?_
                exact RetP.ret (.inr rfl) rfl rfl trivial (by simp)
              · have hy : y ≠ 0 := by simpa using hc5
                have hns := not_same hK2 hy he
                refine IW.skip ?_
                refine IW.seq ?_
                refine IW.reg hE ?_
                refine vcS_val rfl rfl (ox_load (pl rfl) D_24 (hp_sk (by omega) (hp_sk (by omega) (hp_sk (by omega) (hp_sk (by omega) (hp_sk (by omega) (hp_sk (by omega) (hp_sk (by omega) (hp_sk (by omega) (hp_sk (by omega) (hp_sk (by omega) (hp_sk (by omega) (hp_sk (by omega) (hp_sk (by omega) (hp_sk (by omega) (hp_sk (by omega) (hp_sk (by omega) (hp_sk (by omega) (hp_sk (by omega) (hp_sk (by omega) (hp_sk (by omega) (hp_sk (by omega) (hp_sk (by omega) (hp_sk (by omega) (hp_eq _ _ _ _)))))))))))))))))))))))) (rd_all rfl (encs_vec_length _))) ?_
                refine vcS_val rfl rfl (ox_load (pl rfl) D_69 (hp_sk (by omega) (hp_eq _ _ _ _)) (rd_69 _ rfl rfl)) ?_
                refine vcS_ups rfl rfl (ox_fn rfl rfl (F49_okL (c := c) (a := (⟨kd (chg (recL c a.kind d) K y), ⟨some ⟨n + 1 + 1 + 1 + 1 + 1 + 1 + 1 + 1 + 1 + 1 + 1 + 1 + 1, 0, none⟩, (dl (chg (recL c a.kind d) K y)).length, (dl (chg (recL c a.kind d) K y)).length⟩⟩ : Record)) (d := dl (chg (recL c a.kind d) K y)) (L := (recL c (kd (chg (recL c a.kind d) K y)) (dl (chg (recL c a.kind d) K y))).length) (rdC_1all (hp_sk (by omega) (hp_sk (by omega) (hp_sk (by omega) (hp_sk (by omega) (hp_eq _ _ _ _))))) rfl) (by have := (read_rec he).2.1; omega) (zero_chk (read_rec he).1 (read_rec he).2.1) rfl)) rfl ⟨.inl (by omega), trivial⟩ ?_
                refine vcS_val rfl rfl (ox_move (pl rfl)) ?_
                refine vcS_val rfl rfl (ox_extract (pl rfl) rfl) ?_
                refine vcS_val rfl rfl (ox_extract (pl rfl) rfl) ?_
                refine vcS_val rfl rfl (ox_extract (pl rfl) rfl) ?_
                refine vcS_new rfl rfl (ox_allocZ (cs := encs (Vector.replicate 32 (0 : UInt8)).toList) D_24 rfl) (.inl (by omega)) ?_
                refine vcS_val rfl rfl (ox_assign (pl rfl)) ?_
                refine vcS_sto rfl rfl (ox_store (pl rfl) (pl rfl) D_24 (hp_eq _ _ _ _) rfl (encs_vec_length _) (le_vec _ rfl) (encs_known _) (wr_all (by simp only [encs_vec_length]))) (.inl (by omega)) ?_
                refine vcS_val rfl rfl (ox_assign (pl rfl)) ?_
                refine vcS_nil ?_
                refine IW.seq ?_
                refine IW.drw hE mixed [[],[0],[0,1],[0,1,2],[0,1,2,3],[0,1,2],[0,1,2],[0,1,2,5,6],[0,1,2,5,6,7],[0,1,2,3,4,5,6,7,8],[0,1,2,3,4,5,6,7,8,9],[0,1,2,3,4,5,6,7,8,9,10],[0,1,2,3,4,5,6,7,8,9,10,11],[0,1,2,3,4,5,6,7,8,9,10,11],[0,1,2,3,4,5,6,7,8,9,10,11,12,13],[0,1,2,3,4,5,6,7,8,9,10,11,12,13,14],[0,1,2,3,4,5,6,7,8,9,10,11,12,13,14,15],[0,1,2,3,4,5,6,7,8,9,10,11,12,13,14,15,16]] (by kernel_rfl) (vcE_start ?_)
                refine vcE_bl rfl rfl (fun _ => ox_move (pl rfl)) rfl rfl ?_
                refine vcE_bl rfl rfl (fun _ => ox_bin (pl rfl) (pl rfl) (bo_i64_eql _ _)) rfl rfl ?_
                refine vcE_bl rfl rfl (fun _ => ox_move (pl rfl)) rfl rfl ?_
                refine vcE_known (wgT rfl rfl rfl) rfl ?_
                refine vcE_bl rfl rfl (fun _ => ox_move (pl rfl)) rfl rfl ?_
                refine vcE_known (wgT rfl rfl rfl) rfl ?_
                refine vcE_val rfl rfl rfl rfl (ox_cvS (pl rfl) D_35 rfl D_5 rfl D_9 rfl (rdC_1all (hp_sk (by omega) (hp_sk (by omega) (hp_eq _ _ _ _))) rfl)) rfl (si_conv (pl rfl)) (lt1 (by omega)) (trivial) ?_
                refine vcE_known (wgT rfl rfl rfl) rfl ?_
                refine vcE_bl rfl rfl (fun _ => ox_move (pl rfl)) rfl rfl ?_
                refine vcE_known (wgT rfl rfl rfl) rfl ?_
                refine vcE_bl rfl rfl (fun _ => ox_move (pl rfl)) rfl rfl ?_
                refine vcE_known (wgT rfl rfl rfl) rfl ?_
                refine vcE_bl rfl rfl (fun _ => ox_slH (pl rfl) D_35 rfl D_5 (bndI (pl rfl) rfl) hsl (.inr rfl)) rfl rfl ?_
                refine vcE_known (wgT rfl rfl rfl) rfl ?_
                refine vcE_val rfl rfl rfl rfl (ox_cvS (pl rfl) D_35 rfl D_5 rfl D_9 rfl (rdC_sl0 (len := (recL c a.kind d).length) (rdC_1all (l := (chg (recL c a.kind d) K y)) (hp_sk (by omega) (hp_sk (by omega) (hp_sk (by omega) (hp_sk (by omega) (hp_sk (by omega) (hp_sk (by omega) (hp_sk (by omega) (hp_sk (by omega) (hp_eq _ _ _ _))))))))) (chg_length _ _ _)) hsl)) rfl (si_conv (pl rfl)) (lt1 (by omega)) (trivial) ?_
                refine vcE_known (wgT rfl rfl rfl) rfl ?_
                refine vcE_bl rfl rfl (fun _ => ox_bin (pl rfl) (pl rfl) ((bo_str_eql _ _).trans (eq_to (by rw [take_rec he]; simp)))) rfl rfl ?_
                refine vcE_bl rfl rfl (fun _ => ox_and (pl rfl) (fun hc => pl rfl) (pl rfl)) rfl rfl ?_
                refine vcE_bl rfl rfl (fun _ => ox_move (pl rfl)) rfl rfl ?_
                refine vcE_known (wgT rfl rfl rfl) rfl ?_
                refine vcE_val rfl rfl rfl rfl (ox_load (pl rfl) D_69 (hp_sk (by omega) (hp_sk (by omega) (hp_sk (by omega) (hp_sk (by omega) (hp_eq _ _ _ _))))) (rd_69 _ rfl rfl)) rfl (si_load (pl rfl)) (lt1 (by omega)) (trivial) ?_
                refine vcE_known (wgT rfl rfl rfl) rfl ?_
                refine vcE_val rfl rfl rfl rfl (ox_load (pl rfl) D_69 (hp_sk (by omega) (hp_sk (by omega) (hp_sk (by omega) (hp_sk (by omega) (hp_sk (by omega) (hp_sk (by omega) (hp_sk (by omega) (hp_sk (by omega) (hp_sk (by omega) (hp_sk (by omega) (hp_sk (by omega) (hp_sk (by omega) (hp_sk (by omega) (hp_sk (by omega) (hp_sk (by omega) (hp_sk (by omega) (hp_sk (by omega) (hp_sk (by omega) (hp_sk (by omega) (hp_sk (by omega) (hp_sk (by omega) (hp_sk (by omega) (hp_sk (by omega) (hp_sk (by omega) (hp_sk (by omega) (hp_sk (by omega) (hp_sk (by omega) (hp_eq _ _ _ _)))))))))))))))))))))))))))) (rd_69 _ rfl rfl)) rfl (si_load (pl rfl)) (lt1 (by omega)) (trivial) ?_
                refine vcE_known (wgT rfl rfl rfl) rfl ?_
                refine vcE_call rfl rfl rfl rfl (ox_fn rfl rfl ((recF2_ev (a := (⟨kd (chg (recL c a.kind d) K y), ⟨some ⟨n + 1 + 1 + 1 + 1 + 1 + 1 + 1 + 1 + 1 + 1 + 1 + 1 + 1, 0, none⟩, (dl (chg (recL c a.kind d) K y)).length, (dl (chg (recL c a.kind d) K y)).length⟩⟩ : Record)) (b := a) (c := dl (chg (recL c a.kind d) K y)) (d := d) (rdC_1all (hp_sk (by omega) (hp_sk (by omega) (hp_sk (by omega) (hp_sk (by omega) (hp_sk (by omega) (hp_sk (by omega) (hp_sk (by omega) (hp_eq _ _ _ _)))))))) rfl) (rdC_keep hfree hD (by exact ⟨by omega, ⟨by omega, ⟨by omega, ⟨by omega, ⟨by omega, ⟨by omega, ⟨by omega, ⟨by omega, ⟨by omega, ⟨by omega, ⟨by omega, ⟨by omega, ⟨by omega, ⟨by omega, ⟨by omega, ⟨by omega, ⟨by omega, ⟨by omega, ⟨by omega, ⟨by omega, ⟨by omega, ⟨by omega, ⟨by omega, ⟨by omega, ⟨by omega, ⟨by omega, ⟨by omega, ⟨by omega, trivial⟩⟩⟩⟩⟩⟩⟩⟩⟩⟩⟩⟩⟩⟩⟩⟩⟩⟩⟩⟩⟩⟩⟩⟩⟩⟩⟩⟩))).trans (show some (⟨.bool ((kd (chg (recL c a.kind d) K y) == a.kind) && (dl (chg (recL c a.kind d) K y) == d)), [], _⟩ : Eff) = some ⟨.bool false, [], _⟩ by rw [hns]))) rfl ltu0 (trivial) ?_
                refine vcE_known (wgT rfl rfl rfl) rfl ?_
                refine vcE_bl rfl rfl (fun _ => ox_un (pl rfl) (uo_not _)) rfl rfl ?_
                refine vcE_bl rfl rfl (fun _ => ox_and (pl rfl) (fun hc => pl rfl) (pl rfl)) rfl rfl ?_
                refine vcE_bl rfl rfl (fun _ => ox_assign (pl rfl)) rfl rfl ?_
                refine vcE_nil ?_
                refine IW.ret ?_
                exact RetP.ret (.inr rfl) rfl rfl trivial (rfl)
            · refine IW.reg hE ?_
              refine vcS_val rfl rfl (ox_load (pl rfl) D_24 (hp_sk (by omega) (hp_sk (by omega) (hp_sk (by omega) (hp_sk (by omega) (hp_sk (by omega) (hp_sk (by omega) (hp_sk (by omega) (hp_sk (by omega) (hp_sk (by omega) (hp_sk (by omega) (hp_sk (by omega) (hp_sk (by omega) (hp_sk (by omega) (hp_sk (by omega) (hp_sk (by omega) (hp_sk (by omega) (hp_sk (by omega) (hp_sk (by omega) (hp_eq _ _ _ _))))))))))))))))))) (rd_all rfl (encs_vec_length _))) ?_
              refine vcS_val rfl rfl (ox_move (pl rfl)) ?_
              refine vcS_ups rfl rfl (ox_fn rfl rfl (F50_no (b := (chg (recL c a.kind d) K y)) (rdC_1all (hp_eq _ _ _ _) (chg_length _ _ _)) (by rw [chg_length]; omega) he)) rfl trivial ?_
              refine vcS_val rfl rfl (ox_move (pl rfl)) ?_
              refine vcS_val rfl rfl (ox_extract (pl rfl) rfl) ?_
              refine vcS_val rfl rfl (ox_extract (pl rfl) rfl) ?_
              refine vcS_val rfl rfl (ox_extract (pl rfl) rfl) ?_
              refine vcS_val rfl rfl (ox_extract (pl rfl) rfl) ?_
              refine vcS_new rfl rfl (ox_allocZ D_69 (zero_69 D_69)) (.inl (by omega)) ?_
              refine vcS_new rfl rfl (ox_allocZ (cs := encs (Vector.replicate 32 (0 : UInt8)).toList) D_24 rfl) (.inl (by omega)) ?_
              refine vcS_sto rfl rfl (ox_store (pl rfl) (pl rfl) D_69 (hp_sk (by omega) (hp_eq _ _ _ _)) (cellsOf_Record _) (Record.cells_length _) (Record.le _ rfl) (Record.cells_known _) (wr_all (by simp only [Record.cells_length]))) (.inl (by omega)) ?_
              refine vcS_val rfl rfl (ox_assign (pl rfl)) ?_
              refine vcS_sto rfl rfl (ox_store (pl rfl) (pl rfl) D_24 (hp_sk (by omega) (hp_eq _ _ _ _)) rfl (encs_vec_length _) (le_vec _ rfl) (encs_known _) (wr_all (by simp only [encs_vec_length]))) (.inl (by omega)) ?_
              refine vcS_val rfl rfl (ox_assign (pl rfl)) ?_
              refine vcS_nil ?_
              refine IW.seq ?_
              refine IW.seq ?_
              refine IW.reg hE ?_
              refine vcS_val rfl rfl (ox_move (pl rfl)) ?_
              refine vcS_val rfl rfl (ox_bin (pl rfl) (pl rfl) (bo_i64_neq _ _)) ?_
              refine vcS_val rfl rfl (ox_move (pl rfl)) ?_
              refine vcS_opt rfl (wgF rfl rfl rfl) (fun hb => ox_move (pl rfl)) ?_
              refine vcS_opt rfl (wgF rfl rfl rfl) (fun hb => ox_bin (gd hb rfl) (pl (v := enc (0 : UInt8)) rfl) (bo_u8_eql _ _)) ?_
              refine vcS_val rfl rfl (ox_or (pl rfl) (pl rfl) (fun hc => gd (by rw [hc]; rfl) rfl)) ?_
              refine vcS_nil ?_
              refine IW.cond rfl (fun hc6 => ?_) (fun hc6 => ?_)
              · have hy : y ≠ 0 := fun e => he (by rw [e, chg_zero, rec_ok0 hk hd8])
                refine IW.seq ?_
                refine IW.reg hE ?_
                refine vcS_val rfl rfl (ox_move (pl rfl)) ?_
                refine vcS_val rfl rfl (ox_bin (pl rfl) (pl (v := enc (0 : UInt8)) rfl) (bo_u8_neq _ _)) ?_
                refine vcS_val rfl rfl (ox_move (pl rfl)) ?_
                refine vcS_opt rfl (wgF rfl rfl rfl) (fun hb => ox_move (pl rfl)) ?_
                refine vcS_opt rfl (wgF rfl rfl rfl) (fun hb => ox_bin (gd hb rfl) (pl rfl) (bo_i64_eql _ _)) ?_
                refine vcS_val rfl rfl (ox_or (pl rfl) (pl rfl) (fun hc => gd (by rw [hc]; rfl) rfl)) ?_
                refine vcS_val rfl rfl (ox_assign (pl rfl)) ?_
                refine vcS_nil ?_
                refine IW.ret ?_
                exact RetP.ret (.inr rfl) rfl rfl trivial (by simp [hy])
              · exact absurd hc6 (by simp; intro h; exact absurd h he)
        · refine IW.reg hE ?_
          refine vcS_val rfl rfl (ox_load (pl rfl) D_24 (hp_sk (by omega) (hp_sk (by omega) (hp_sk (by omega) (hp_sk (by omega) (hp_sk (by omega) (hp_sk (by omega) (hp_sk (by omega) (hp_sk (by omega) (hp_sk (by omega) (hp_sk (by omega) (hp_eq _ _ _ _))))))))))) (rd_all rfl (encs_vec_length _))) ?_
          refine vcS_val rfl rfl (ox_move (pl rfl)) ?_
          refine vcS_ups rfl rfl (ox_fn rfl rfl (F50_noE (c := c') (b := (recL c a.kind d)) (rdC_1all (hp_sk (by omega) (hp_sk (by omega) (hp_sk (by omega) (hp_sk (by omega) (hp_sk (by omega) (hp_sk (by omega) (hp_sk (by omega) (hp_sk (by omega) (hp_sk (by omega) (hp_eq _ _ _ _)))))))))) rfl) (by omega) (rec_bad0 hk hd8 hs) (by decide))) rfl trivial ?_
          refine vcS_val rfl rfl (ox_move (pl rfl)) ?_
          refine vcS_val rfl rfl (ox_extract (pl rfl) rfl) ?_
          refine vcS_val rfl rfl (ox_extract (pl rfl) rfl) ?_
          refine vcS_val rfl rfl (ox_extract (pl rfl) rfl) ?_
          refine vcS_val rfl rfl (ox_extract (pl rfl) rfl) ?_
          refine vcS_new rfl rfl (ox_allocZ D_69 (zero_69 D_69)) (.inl (by omega)) ?_
          refine vcS_new rfl rfl (ox_allocZ (cs := encs (Vector.replicate 32 (0 : UInt8)).toList) D_24 rfl) (.inl (by omega)) ?_
          refine vcS_sto rfl rfl (ox_store (pl rfl) (pl rfl) D_69 (hp_sk (by omega) (hp_eq _ _ _ _)) (cellsOf_Record _) (Record.cells_length _) (Record.le _ rfl) (Record.cells_known _) (wr_all (by simp only [Record.cells_length]))) (.inl (by omega)) ?_
          refine vcS_val rfl rfl (ox_assign (pl rfl)) ?_
          refine vcS_sto rfl rfl (ox_store (pl rfl) (pl rfl) D_24 (hp_sk (by omega) (hp_eq _ _ _ _)) rfl (encs_vec_length _) (le_vec _ rfl) (encs_known _) (wr_all (by simp only [encs_vec_length]))) (.inl (by omega)) ?_
          refine vcS_val rfl rfl (ox_assign (pl rfl)) ?_
          refine vcS_nil ?_
          refine IW.seq ?_
          refine IW.seq ?_
          refine IW.drw hE mixed [[],[0],[],[2],[],[4],[2,3,4,5],[0,1,2,3,4,5,6],[0,1,2,3,4,5,6,7],[0,1,2,3,4,5,6,7,8],[0,1,2,3,4,5,6,7,8,9],[0,1,2,3,4,5,6,7,8,9,10],[0,1,2,3,4,5,6,7,8,9,10,11],[0,1,2,3,4,5,6,7,8,9,10,11,12],[0,1,2,3,4,5,6,7,8,9,10,11,12,13],[0,1,2,3,4,5,6,7,8,9,10,11,12,13,14]] (by kernel_rfl) (vcE_start ?_)
          refine vcE_bl rfl rfl (fun _ => ox_move (pl rfl)) rfl rfl ?_
          refine vcE_bl rfl rfl (fun _ => ox_bin (pl rfl) (pl rfl) (bo_i64_eql _ _)) rfl rfl ?_
          refine vcE_bl rfl rfl (fun _ => ox_slAH (pl rfl) D_24 rfl D_5 (bndI (pl rfl) rfl) (by first | omega | decide)) rfl rfl ?_
          refine vcE_val rfl rfl rfl rfl (ox_cvS (pl rfl) D_35 rfl D_5 rfl D_9 rfl (rdC_sl0 (len := 32) (rdC_1all (hp_sk (by omega) (hp_sk (by omega) (hp_sk (by omega) (hp_sk (by omega) (hp_eq _ _ _ _))))) (by simp)) (by decide))) rfl (si_conv (pl rfl)) (lt1 (by omega)) (trivial) ?_
          refine vcE_bl rfl rfl (fun _ => ox_slAH (pl rfl) D_24 rfl D_5 (bndI (pl rfl) rfl) (by first | omega | decide)) rfl rfl ?_
          refine vcE_val rfl rfl rfl rfl (ox_cvS (pl rfl) D_35 rfl D_5 rfl D_9 rfl (rdC_sl0 (len := 32) (rdC_1all (hp_sk (by omega) (hp_sk (by omega) (hp_sk (by omega) (hp_sk (by omega) (hp_sk (by omega) (hp_sk (by omega) (hp_sk (by omega) (hp_sk (by omega) (hp_sk (by omega) (hp_sk (by omega) (hp_sk (by omega) (hp_eq _ _ _ _)))))))))))) (by simp)) (by decide))) rfl (si_conv (pl rfl)) (lt1 (by omega)) (trivial) ?_
          refine vcE_bl rfl rfl (fun _ => ox_bin (pl rfl) (pl rfl) ((bo_str_eql _ _).trans (congrArg (fun b => some (Value.bool b)) (beq_eq_false_iff_ne.2 hs)))) rfl rfl ?_
          refine vcE_bl rfl rfl (fun _ => ox_bin (pl rfl) (pl rfl) (bo_bool_neq D_4 rfl _ _)) rfl rfl ?_
          refine vcE_bl rfl rfl (fun _ => ox_move (pl rfl)) rfl rfl ?_
          refine vcE_known (wgF rfl rfl rfl) rfl ?_
          refine vcE_bl rfl rfl (fun _ => ox_move (pl rfl)) rfl rfl ?_
          refine vcE_known (wgF rfl rfl rfl) rfl ?_
          refine vcE_bl rfl rfl (fun _ => ox_bin (pl rfl) (pl rfl) (bo_i64_neq _ _)) rfl rfl ?_
          refine vcE_known (wgF rfl rfl rfl) rfl ?_
          refine vcE_bl rfl rfl (fun _ => ox_move (pl rfl)) rfl rfl ?_
          refine vcE_opt rfl (wgT rfl rfl rfl) rfl rfl (fun hb => ox_move (pl rfl)) (fun hb => vi_bl rfl rfl) hf0 (trivial) ?_
          refine vcE_opt rfl (wgT rfl rfl rfl) rfl rfl (fun hb => ox_bin (gd hb rfl) (pl rfl) (bo_i64_neq _ _)) (fun hb => vi_bl rfl rfl) hf0 (trivial) ?_
          refine vcE_known (wgF rfl rfl rfl) rfl ?_
          refine vcE_bl rfl rfl (fun _ => ox_and (pl rfl) (fun hc => gd hc rfl) (pl rfl)) rfl rfl ?_
          refine vcE_bl rfl rfl (fun _ => ox_or (pl rfl) (pl rfl) (fun hc => pl rfl)) rfl rfl ?_
          refine vcE_nil ?_
          refine IW.cond rfl (fun hc7 => ?_) (fun hc7 => ?_)
          · exact absurd hc7 (by decide)
          · refine IW.skip ?_
            refine IW.seq ?_
            refine IW.reg hE ?_
            refine vcS_val rfl rfl (ox_move (pl rfl)) ?_
            refine vcS_ups rfl rfl (ox_fn rfl rfl (own_open (l := (recL c a.kind d)) (k := (recL c a.kind d).length) (rdC_1all (hp_sk (by omega) (hp_sk (by omega) (hp_sk (by omega) (hp_sk (by omega) (hp_sk (by omega) (hp_sk (by omega) (hp_sk (by omega) (hp_sk (by omega) (hp_sk (by omega) (hp_sk (by omega) (hp_sk (by omega) (hp_sk (by omega) (hp_sk (by omega) (hp_eq _ _ _ _)))))))))))))) rfl) rfl hL0 (by omega))) rfl ⟨.inl (by omega), trivial⟩ ?_
            refine vcS_val rfl rfl (ox_assign (pl rfl)) ?_
            refine vcS_nil ?_
            refine IW.seq ?_
            refine IW.reg hE ?_
            refine vcS_val rfl rfl (ox_move (pl rfl)) ?_
            refine vcS_val rfl rfl (ox_move (pl rfl)) ?_
            refine vcS_val rfl rfl (ox_len (pl rfl) D_35 rfl) ?_
            refine vcS_val rfl rfl (ox_fn rfl rfl (F31_ev _ (by omega))) ?_
            refine vcS_val rfl rfl (ox_assign (pl rfl)) ?_
            refine vcS_nil ?_
            refine IW.seq ?_
            obtain ⟨K, hK, hK2⟩ := pick_in i (m := (recL c a.kind d).length) (by omega)
            rw [hK]
            refine IW.reg hE ?_
            refine vcS_val rfl rfl (ox_move (pl rfl)) ?_
            refine vcS_val rfl rfl (ox_move (pl rfl)) ?_
            refine vcS_val rfl rfl (ox_move (pl rfl)) ?_
            refine vcS_val rfl rfl (ox_move (pl rfl)) ?_
            refine vcS_val rfl rfl (ox_iaS (pl rfl) (pl rfl) D_35 rfl D_5 (by omega) (by omega)) ?_
            refine vcS_val rfl rfl (ox_load (pl rfl) D_5 (hp_eq _ _ _ _) (rd_ix (K) (0 : UInt8) rfl (by simp) ((show K < (recL c a.kind d).length by omega)))) ?_
            refine vcS_val rfl rfl (ox_move (pl rfl)) ?_
            refine vcS_val rfl rfl (ox_bin (pl rfl) (pl rfl) (bo_u8_xor _ _)) ?_
            refine vcS_val rfl rfl (ox_iaS (pl rfl) (pl rfl) D_35 rfl D_5 (by omega) (by omega)) ?_
            refine vcS_sto rfl rfl (ox_store (pl rfl) (pl rfl) D_5 (hp_eq _ _ _ _) rfl rfl (by rw [encs_length]; have := (show K < (recL c a.kind d).length by omega); first | (simp; omega) | (simp at this ⊢; omega)) rfl (wr_ix (K) (by simp) _)) (.inl (by omega)) ?_
            refine vcS_nil ?_
            refine IW.seq ?_
            by_cases he : (rdV c (chg (recL c a.kind d) K y)).e = 0
            · have hsl := size_le he
              rw [chg_length] at hsl
              refine IW.reg hE ?_
              refine vcS_val rfl rfl (ox_load (pl rfl) D_24 (hp_sk (by omega) (hp_sk (by omega) (hp_sk (by omega) (hp_sk (by omega) (hp_sk (by omega) (hp_sk (by omega) (hp_sk (by omega) (hp_sk (by omega) (hp_sk (by omega) (hp_sk (by omega) (hp_sk (by omega) (hp_sk (by omega) (hp_sk (by omega) (hp_sk (by omega) (hp_sk (by omega) (hp_sk (by omega) (hp_sk (by omega) (hp_eq _ _ _ _)))))))))))))))))) (rd_all rfl (encs_vec_length _))) ?_
              refine vcS_val rfl rfl (ox_move (pl rfl)) ?_
              refine vcS_ups rfl rfl (ox_fn rfl rfl (F50_ok (b := (chg (recL c a.kind d) K y)) (l := dl (chg (recL c a.kind d) K y)) (rdC_1all (hp_eq _ _ _ _) (chg_length _ _ _)) (by rw [chg_length]; omega) (read_form he) rfl rfl)) rfl ⟨.inl (by omega), trivial⟩ ?_
              refine vcS_val rfl rfl (ox_move (pl rfl)) ?_
              refine vcS_val rfl rfl (ox_extract (pl rfl) rfl) ?_
              refine vcS_val rfl rfl (ox_extract (pl rfl) rfl) ?_
              refine vcS_val rfl rfl (ox_extract (pl rfl) rfl) ?_
              refine vcS_val rfl rfl (ox_extract (pl rfl) rfl) ?_
              refine vcS_new rfl rfl (ox_allocZ D_69 (zero_69 D_69)) (.inl (by omega)) ?_
              refine vcS_new rfl rfl (ox_allocZ (cs := encs (Vector.replicate 32 (0 : UInt8)).toList) D_24 rfl) (.inl (by omega)) ?_
              refine vcS_sto rfl rfl (ox_store (pl rfl) (pl rfl) D_69 (hp_sk (by omega) (hp_eq _ _ _ _)) (cellsOf_Record _) (Record.cells_length _) (Record.le _ rfl) (Record.cells_known _) (wr_all (by simp only [Record.cells_length]))) (.inl (by omega)) ?_
              refine vcS_val rfl rfl (ox_assign (pl rfl)) ?_
              refine vcS_sto rfl rfl (ox_store (pl rfl) (pl rfl) D_24 (hp_sk (by omega) (hp_eq _ _ _ _)) rfl (encs_vec_length _) (le_vec _ rfl) (encs_known _) (wr_all (by simp only [encs_vec_length]))) (.inl (by omega)) ?_
              refine vcS_val rfl rfl (ox_assign (pl rfl)) ?_
              refine vcS_nil ?_
              refine IW.seq ?_
              refine IW.seq ?_
              refine IW.reg hE ?_
              refine vcS_val rfl rfl (ox_move (pl rfl)) ?_
              refine vcS_val rfl rfl (ox_bin (pl rfl) (pl rfl) (bo_i64_neq _ _)) ?_
              refine vcS_val rfl rfl (ox_move (pl rfl)) ?_
              refine vcS_opt rfl (wgF rfl rfl rfl) (fun hb => ox_move (pl rfl)) ?_
              refine vcS_opt rfl (wgF rfl rfl rfl) (fun hb => ox_bin (gd hb rfl) (pl (v := enc (0 : UInt8)) rfl) (bo_u8_eql _ _)) ?_
              refine vcS_val rfl rfl (ox_or (pl rfl) (pl rfl) (fun hc => gd (by rw [hc]; rfl) rfl)) ?_
              refine vcS_nil ?_
              refine IW.cond rfl (fun hc8 => ?_) (fun hc8 => ?_)
              · refine IW.seq ?_
                refine IW.reg hE ?_
                refine vcS_val rfl rfl (ox_move (pl rfl)) ?_
                refine vcS_val rfl rfl (ox_bin (pl rfl) (pl (v := enc (0 : UInt8)) rfl) (bo_u8_neq _ _)) ?_
                refine vcS_val rfl rfl (ox_move (pl rfl)) ?_
                refine vcS_opt rfl (wgF rfl rfl rfl) (fun hb => ox_move (pl rfl)) ?_
                refine vcS_opt rfl (wgF rfl rfl rfl) (fun hb => ox_bin (gd hb rfl) (pl rfl) (bo_i64_eql _ _)) ?_
                refine vcS_val rfl rfl (ox_or (pl rfl) (pl rfl) (fun hc => gd (by rw [hc]; rfl) rfl)) ?_
                refine vcS_val rfl rfl (ox_assign (pl rfl)) ?_
                refine vcS_nil ?_
                refine IW.ret ?_
                exact RetP.ret (.inr rfl) rfl rfl trivial (by simp)
              · have hy : y ≠ 0 := by simpa using hc8
                have hns := not_same hK2 hy he
                refine IW.skip ?_
                refine IW.seq ?_
                refine IW.reg hE ?_
                refine vcS_val rfl rfl (ox_load (pl rfl) D_24 (hp_sk (by omega) (hp_sk (by omega) (hp_sk (by omega) (hp_sk (by omega) (hp_sk (by omega) (hp_sk (by omega) (hp_sk (by omega) (hp_sk (by omega) (hp_sk (by omega) (hp_sk (by omega) (hp_sk (by omega) (hp_sk (by omega) (hp_sk (by omega) (hp_sk (by omega) (hp_sk (by omega) (hp_sk (by omega) (hp_sk (by omega) (hp_sk (by omega) (hp_sk (by omega) (hp_sk (by omega) (hp_sk (by omega) (hp_sk (by omega) (hp_eq _ _ _ _))))))))))))))))))))))) (rd_all rfl (encs_vec_length _))) ?_
                refine vcS_val rfl rfl (ox_load (pl rfl) D_69 (hp_sk (by omega) (hp_eq _ _ _ _)) (rd_69 _ rfl rfl)) ?_
                refine vcS_ups rfl rfl (ox_fn rfl rfl (F49_okL (c := c) (a := (⟨kd (chg (recL c a.kind d) K y), ⟨some ⟨n + 1 + 1 + 1 + 1 + 1 + 1 + 1 + 1 + 1 + 1 + 1 + 1, 0, none⟩, (dl (chg (recL c a.kind d) K y)).length, (dl (chg (recL c a.kind d) K y)).length⟩⟩ : Record)) (d := dl (chg (recL c a.kind d) K y)) (L := (recL c (kd (chg (recL c a.kind d) K y)) (dl (chg (recL c a.kind d) K y))).length) (rdC_1all (hp_sk (by omega) (hp_sk (by omega) (hp_sk (by omega) (hp_sk (by omega) (hp_eq _ _ _ _))))) rfl) (by have := (read_rec he).2.1; omega) (zero_chk (read_rec he).1 (read_rec he).2.1) rfl)) rfl ⟨.inl (by omega), trivial⟩ ?_
                refine vcS_val rfl rfl (ox_move (pl rfl)) ?_
                refine vcS_val rfl rfl (ox_extract (pl rfl) rfl) ?_
                refine vcS_val rfl rfl (ox_extract (pl rfl) rfl) ?_
                refine vcS_val rfl rfl (ox_extract (pl rfl) rfl) ?_
                refine vcS_new rfl rfl (ox_allocZ (cs := encs (Vector.replicate 32 (0 : UInt8)).toList) D_24 rfl) (.inl (by omega)) ?_
                refine vcS_val rfl rfl (ox_assign (pl rfl)) ?_
                refine vcS_sto rfl rfl (ox_store (pl rfl) (pl rfl) D_24 (hp_eq _ _ _ _) rfl (encs_vec_length _) (le_vec _ rfl) (encs_known _) (wr_all (by simp only [encs_vec_length]))) (.inl (by omega)) ?_
                refine vcS_val rfl rfl (ox_assign (pl rfl)) ?_
                refine vcS_nil ?_
                refine IW.seq ?_
                refine IW.drw hE mixed [[],[0],[0,1],[0,1,2],[0,1,2,3],[0,1,2],[0,1,2],[0,1,2,5,6],[0,1,2,5,6,7],[0,1,2,3,4,5,6,7,8],[0,1,2,3,4,5,6,7,8,9],[0,1,2,3,4,5,6,7,8,9,10],[0,1,2,3,4,5,6,7,8,9,10,11],[0,1,2,3,4,5,6,7,8,9,10,11],[0,1,2,3,4,5,6,7,8,9,10,11,12,13],[0,1,2,3,4,5,6,7,8,9,10,11,12,13,14],[0,1,2,3,4,5,6,7,8,9,10,11,12,13,14,15],[0,1,2,3,4,5,6,7,8,9,10,11,12,13,14,15,16]] (by kernel_rfl) (vcE_start ?_)
                refine vcE_bl rfl rfl (fun _ => ox_move (pl rfl)) rfl rfl ?_
                refine vcE_bl rfl rfl (fun _ => ox_bin (pl rfl) (pl rfl) (bo_i64_eql _ _)) rfl rfl ?_
                refine vcE_bl rfl rfl (fun _ => ox_move (pl rfl)) rfl rfl ?_
                refine vcE_known (wgT rfl rfl rfl) rfl ?_
                refine vcE_bl rfl rfl (fun _ => ox_move (pl rfl)) rfl rfl ?_
                refine vcE_known (wgT rfl rfl rfl) rfl ?_
                refine vcE_val rfl rfl rfl rfl (ox_cvS (pl rfl) D_35 rfl D_5 rfl D_9 rfl (rdC_1all (hp_sk (by omega) (hp_sk (by omega) (hp_eq _ _ _ _))) rfl)) rfl (si_conv (pl rfl)) (lt1 (by omega)) (trivial) ?_
                refine vcE_known (wgT rfl rfl rfl) rfl ?_
                refine vcE_bl rfl rfl (fun _ => ox_move (pl rfl)) rfl rfl ?_
                refine vcE_known (wgT rfl rfl rfl) rfl ?_
                refine vcE_bl rfl rfl (fun _ => ox_move (pl rfl)) rfl rfl ?_
                refine vcE_known (wgT rfl rfl rfl) rfl ?_
                refine vcE_bl rfl rfl (fun _ => ox_slH (pl rfl) D_35 rfl D_5 (bndI (pl rfl) rfl) hsl (.inr rfl)) rfl rfl ?_
                refine vcE_known (wgT rfl rfl rfl) rfl ?_
                refine vcE_val rfl rfl rfl rfl (ox_cvS (pl rfl) D_35 rfl D_5 rfl D_9 rfl (rdC_sl0 (len := (recL c a.kind d).length) (rdC_1all (l := (chg (recL c a.kind d) K y)) (hp_sk (by omega) (hp_sk (by omega) (hp_sk (by omega) (hp_sk (by omega) (hp_sk (by omega) (hp_sk (by omega) (hp_sk (by omega) (hp_sk (by omega) (hp_eq _ _ _ _))))))))) (chg_length _ _ _)) hsl)) rfl (si_conv (pl rfl)) (lt1 (by omega)) (trivial) ?_
                refine vcE_known (wgT rfl rfl rfl) rfl ?_
                refine vcE_bl rfl rfl (fun _ => ox_bin (pl rfl) (pl rfl) ((bo_str_eql _ _).trans (eq_to (by rw [take_rec he]; simp)))) rfl rfl ?_
                refine vcE_bl rfl rfl (fun _ => ox_and (pl rfl) (fun hc => pl rfl) (pl rfl)) rfl rfl ?_
                refine vcE_bl rfl rfl (fun _ => ox_move (pl rfl)) rfl rfl ?_
                refine vcE_known (wgT rfl rfl rfl) rfl ?_
                refine vcE_val rfl rfl rfl rfl (ox_load (pl rfl) D_69 (hp_sk (by omega) (hp_sk (by omega) (hp_sk (by omega) (hp_sk (by omega) (hp_eq _ _ _ _))))) (rd_69 _ rfl rfl)) rfl (si_load (pl rfl)) (lt1 (by omega)) (trivial) ?_
                refine vcE_known (wgT rfl rfl rfl) rfl ?_
                refine vcE_val rfl rfl rfl rfl (ox_load (pl rfl) D_69 (hp_sk (by omega) (hp_sk (by omega) (hp_sk (by omega) (hp_sk (by omega) (hp_sk (by omega) (hp_sk (by omega) (hp_sk (by omega) (hp_sk (by omega) (hp_sk (by omega) (hp_sk (by omega) (hp_sk (by omega) (hp_sk (by omega) (hp_sk (by omega) (hp_sk (by omega) (hp_sk (by omega) (hp_sk (by omega) (hp_sk (by omega) (hp_sk (by omega) (hp_sk (by omega) (hp_sk (by omega) (hp_sk (by omega) (hp_sk (by omega) (hp_sk (by omega) (hp_sk (by omega) (hp_sk (by omega) (hp_sk (by omega) (hp_eq _ _ _ _))))))))))))))))))))))))))) (rd_69 _ rfl rfl)) rfl (si_load (pl rfl)) (lt1 (by omega)) (trivial) ?_
                refine vcE_known (wgT rfl rfl rfl) rfl ?_
                refine vcE_call rfl rfl rfl rfl (ox_fn rfl rfl ((recF2_ev (a := (⟨kd (chg (recL c a.kind d) K y), ⟨some ⟨n + 1 + 1 + 1 + 1 + 1 + 1 + 1 + 1 + 1 + 1 + 1 + 1, 0, none⟩, (dl (chg (recL c a.kind d) K y)).length, (dl (chg (recL c a.kind d) K y)).length⟩⟩ : Record)) (b := a) (c := dl (chg (recL c a.kind d) K y)) (d := d) (rdC_1all (hp_sk (by omega) (hp_sk (by omega) (hp_sk (by omega) (hp_sk (by omega) (hp_sk (by omega) (hp_sk (by omega) (hp_sk (by omega) (hp_eq _ _ _ _)))))))) rfl) (rdC_keep hfree hD (by exact ⟨by omega, ⟨by omega, ⟨by omega, ⟨by omega, ⟨by omega, ⟨by omega, ⟨by omega, ⟨by omega, ⟨by omega, ⟨by omega, ⟨by omega, ⟨by omega, ⟨by omega, ⟨by omega, ⟨by omega, ⟨by omega, ⟨by omega, ⟨by omega, ⟨by omega, ⟨by omega, ⟨by omega, ⟨by omega, ⟨by omega, ⟨by omega, ⟨by omega, ⟨by omega, ⟨by omega, trivial⟩⟩⟩⟩⟩⟩⟩⟩⟩⟩⟩⟩⟩⟩⟩⟩⟩⟩⟩⟩⟩⟩⟩⟩⟩⟩⟩))).trans (show some (⟨.bool ((kd (chg (recL c a.kind d) K y) == a.kind) && (dl (chg (recL c a.kind d) K y) == d)), [], _⟩ : Eff) = some ⟨.bool false, [], _⟩ by rw [hns]))) rfl ltu0 (trivial) ?_
                refine vcE_known (wgT rfl rfl rfl) rfl ?_
                refine vcE_bl rfl rfl (fun _ => ox_un (pl rfl) (uo_not _)) rfl rfl ?_
                refine vcE_bl rfl rfl (fun _ => ox_and (pl rfl) (fun hc => pl rfl) (pl rfl)) rfl rfl ?_
                refine vcE_bl rfl rfl (fun _ => ox_assign (pl rfl)) rfl rfl ?_
                refine vcE_nil ?_
                refine IW.ret ?_
                exact RetP.ret (.inr rfl) rfl rfl trivial (rfl)
            · refine IW.reg hE ?_
              refine vcS_val rfl rfl (ox_load (pl rfl) D_24 (hp_sk (by omega) (hp_sk (by omega) (hp_sk (by omega) (hp_sk (by omega) (hp_sk (by omega) (hp_sk (by omega) (hp_sk (by omega) (hp_sk (by omega) (hp_sk (by omega) (hp_sk (by omega) (hp_sk (by omega) (hp_sk (by omega) (hp_sk (by omega) (hp_sk (by omega) (hp_sk (by omega) (hp_sk (by omega) (hp_sk (by omega) (hp_eq _ _ _ _)))))))))))))))))) (rd_all rfl (encs_vec_length _))) ?_
              refine vcS_val rfl rfl (ox_move (pl rfl)) ?_
              refine vcS_ups rfl rfl (ox_fn rfl rfl (F50_no (b := (chg (recL c a.kind d) K y)) (rdC_1all (hp_eq _ _ _ _) (chg_length _ _ _)) (by rw [chg_length]; omega) he)) rfl trivial ?_
              refine vcS_val rfl rfl (ox_move (pl rfl)) ?_
              refine vcS_val rfl rfl (ox_extract (pl rfl) rfl) ?_
              refine vcS_val rfl rfl (ox_extract (pl rfl) rfl) ?_
              refine vcS_val rfl rfl (ox_extract (pl rfl) rfl) ?_
              refine vcS_val rfl rfl (ox_extract (pl rfl) rfl) ?_
              refine vcS_new rfl rfl (ox_allocZ D_69 (zero_69 D_69)) (.inl (by omega)) ?_
              refine vcS_new rfl rfl (ox_allocZ (cs := encs (Vector.replicate 32 (0 : UInt8)).toList) D_24 rfl) (.inl (by omega)) ?_
              refine vcS_sto rfl rfl (ox_store (pl rfl) (pl rfl) D_69 (hp_sk (by omega) (hp_eq _ _ _ _)) (cellsOf_Record _) (Record.cells_length _) (Record.le _ rfl) (Record.cells_known _) (wr_all (by simp only [Record.cells_length]))) (.inl (by omega)) ?_
              refine vcS_val rfl rfl (ox_assign (pl rfl)) ?_
              refine vcS_sto rfl rfl (ox_store (pl rfl) (pl rfl) D_24 (hp_sk (by omega) (hp_eq _ _ _ _)) rfl (encs_vec_length _) (le_vec _ rfl) (encs_known _) (wr_all (by simp only [encs_vec_length]))) (.inl (by omega)) ?_
              refine vcS_val rfl rfl (ox_assign (pl rfl)) ?_
              refine vcS_nil ?_
              refine IW.seq ?_
              refine IW.seq ?_
              refine IW.reg hE ?_
              refine vcS_val rfl rfl (ox_move (pl rfl)) ?_
              refine vcS_val rfl rfl (ox_bin (pl rfl) (pl rfl) (bo_i64_neq _ _)) ?_
              refine vcS_val rfl rfl (ox_move (pl rfl)) ?_
              refine vcS_opt rfl (wgF rfl rfl rfl) (fun hb => ox_move (pl rfl)) ?_
              refine vcS_opt rfl (wgF rfl rfl rfl) (fun hb => ox_bin (gd hb rfl) (pl (v := enc (0 : UInt8)) rfl) (bo_u8_eql _ _)) ?_
              refine vcS_val rfl rfl (ox_or (pl rfl) (pl rfl) (fun hc => gd (by rw [hc]; rfl) rfl)) ?_
              refine vcS_nil ?_
              refine IW.cond rfl (fun hc9 => ?_) (fun hc9 => ?_)
              · have hy : y ≠ 0 := fun e => he (by rw [e, chg_zero, rec_ok0 hk hd8])
                refine IW.seq ?_
                refine IW.reg hE ?_
                refine vcS_val rfl rfl (ox_move (pl rfl)) ?_
                refine vcS_val rfl rfl (ox_bin (pl rfl) (pl (v := enc (0 : UInt8)) rfl) (bo_u8_neq _ _)) ?_
                refine vcS_val rfl rfl (ox_move (pl rfl)) ?_
                refine vcS_opt rfl (wgF rfl rfl rfl) (fun hb => ox_move (pl rfl)) ?_
                refine vcS_opt rfl (wgF rfl rfl rfl) (fun hb => ox_bin (gd hb rfl) (pl rfl) (bo_i64_eql _ _)) ?_
                refine vcS_val rfl rfl (ox_or (pl rfl) (pl rfl) (fun hc => gd (by rw [hc]; rfl) rfl)) ?_
                refine vcS_val rfl rfl (ox_assign (pl rfl)) ?_
                refine vcS_nil ?_
                refine IW.ret ?_
                exact RetP.ret (.inr rfl) rfl rfl trivial (by simp [hy])
              · exact absurd hc9 (by simp; intro h; exact absurd h he)
end Go.Proofs.Ytdnnojblneccdaa
