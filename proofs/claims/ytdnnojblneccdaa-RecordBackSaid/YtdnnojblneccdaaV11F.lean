import Derived.Test.YtdnnojblneccdaaV11E
/-
  A record is read.
-/
namespace Go.Proofs.Ytdnnojblneccdaa
set_option linter.unusedSimpArgs false
set_option linter.unusedVariables false
open Go
open Enc (enc)
set_option maxRecDepth 100000
def q1 (b : List UInt8) : RS := tkS b ⟨0, 0⟩ 1
def kd (b : List UInt8) : UInt8 := (wordV (tkL b ⟨0, 0⟩ 1)).toUInt8
def q2 (b : List UInt8) : RS := numS b (q1 b)
def nn (b : List UInt8) : UInt64 := numV b (q1 b)
def q3 (b : List UInt8) : RS := tkS b (q2 b) (nn b).toNat
def q4 (b : List UInt8) : RS := tkS b (q3 b) 8
def mk8 (b : List UInt8) : List UInt8 := tkL b (q3 b) 8
def dl (b : List UInt8) : List UInt8 := tkL b (q2 b) (nn b).toNat
def dat (b : List UInt8) : Option (List UInt8) := if tkOk b (q2 b) (nn b).toNat = true then some (dl b) else none
theorem q1_le (b : List UInt8) : (q1 b).at_ ≤ b.length := tkS_le (Nat.zero_le _)
theorem numS_le {l : List UInt8} {s : RS} (h : s.at_ ≤ l.length) : (numS l s).at_ ≤ l.length := by
  unfold numS
  split
  · split
    · split
      · exact tkS_le (tkS_le h)
      · exact h
    · exact h
  · exact tkS_le h
theorem q2_le (b : List UInt8) : (q2 b).at_ ≤ b.length := numS_le (q1_le b)
theorem q3_le (b : List UInt8) : (q3 b).at_ ≤ b.length := tkS_le (q2_le b)
theorem q4_le (b : List UInt8) : (q4 b).at_ ≤ b.length := tkS_le (q3_le b)
theorem tk_no_e {l : List UInt8} {s : RS} {k : Nat} (h : tkOk l s k = false) : (tkS l s k).e ≠ 0 := by
  by_cases he : s.e = 0
  · rw [more_st h he]; simp
  · rw [(tk_err (ib := 0) he).2.1]; exact he
theorem tk_ok_e {l : List UInt8} {s : RS} {k : Nat} (h : tkOk l s k = true) : (tkS l s k).e = 0 := by
  rw [(ok_st h).2.2]
theorem tk_e_no {l : List UInt8} {s : RS} {k : Nat} (h : s.e ≠ 0) : tkOk l s k = false := (tk_err (ib := 0) h).1
structure RR where
  kind : UInt8
  data : Option (List UInt8)
  size : Nat
  next : Dig
  e : Nat
abbrev z32 : Dig := Vector.replicate 32 0
def rdV (c : Dig) (b : List UInt8) : RR :=
  if ((q1 b).e = 0 ∧ kd b = 0) then ⟨kd b, none, 0, z32, 4⟩
  else if (q2 b).e ≠ 0 then ⟨kd b, none, 0, z32, if (q2 b).e = 4 then 4 else 5⟩
  else if 8192 < nn b then ⟨kd b, none, 0, z32, 4⟩
  else if (q4 b).e ≠ 0 then ⟨kd b, dat b, 0, z32, 5⟩
  else if mk8 b ≠ (nextV c (kd b) (dl b)).toList.take 8 then ⟨kd b, dat b, 0, nextV c (kd b) (dl b), 4⟩
  else ⟨kd b, dat b, (q4 b).at_, nextV c (kd b) (dl b), 0⟩
def slO (n : Nat) : Option (List UInt8) → Sl
  | none => ⟨none, 0, 0⟩
  | some l => ⟨some ⟨n, 0, none⟩, l.length, l.length⟩
def upO (n : Nat) : Option (List UInt8) → Ups
  | none => []
  | some l => [(n, some (.cells (encs l) false))]
def nO (n : Nat) : Option (List UInt8) → Nat
  | none => n
  | some _ => n + 1
/-- what reading comes to -/
def rdE (n : Nat) (r : RR) : Eff := ⟨.tuple #[enc (⟨r.kind, slO n r.data⟩ : Record), .int .i64 (r.size : Int), enc r.next, .int .i64 (r.e : Int)], upO n r.data, nO n r.data⟩
theorem ren2_rec {g : Nat → Nat} {k : UInt8} {i l c : Nat} : ren2 g (enc (⟨k, ⟨some ⟨i, 0, none⟩, l, c⟩⟩ : Record)) = enc (⟨k, ⟨some ⟨g i, 0, none⟩, l, c⟩⟩ : Record) := by
  show Value.agg (#[Value.int .u8 (k.toNat : Int), Value.slice (some ⟨i, 0, none⟩) l c].map (ren1 g)) = .agg #[Value.int .u8 (k.toNat : Int), Value.slice (some ⟨g i, 0, none⟩) l c]
  simp [ren1]
theorem ok2_rec {p : Nat → Prop} {k : UInt8} {i l c : Nat} (h : p i) : okN2 p (enc (⟨k, ⟨some ⟨i, 0, none⟩, l, c⟩⟩ : Record)) := by
  intro x hx
  have hx : x ∈ [enc k, enc (⟨some ⟨i, 0, none⟩, l, c⟩ : Sl)] := hx
  simp only [List.mem_cons, List.not_mem_nil, or_false] at hx
  rcases hx with rfl | rfl
  · trivial
  · exact h
theorem ok2_rec0 {p : Nat → Prop} {k : UInt8} : okN2 p (enc (⟨k, ⟨none, 0, 0⟩⟩ : Record)) := by
  intro x hx
  have hx : x ∈ [enc k, enc (⟨none, 0, 0⟩ : Sl)] := hx
  simp only [List.mem_cons, List.not_mem_nil, or_false] at hx
  rcases hx with rfl | rfl <;> trivial
theorem RetP.rd0 {D : Ty} {rs : List ResultVar} {n n' : Nat} {H H' : IHeap} {ex : Exit} {t : List Value} {r : RR} (hx : ex = .normal ∨ ex = .ret) (hr : ires D t H' rs = some (.tuple #[enc (⟨r.kind, ⟨none, 0, 0⟩⟩ : Record), .int .i64 (r.size : Int), enc r.next, .int .i64 (r.e : Int)])) (hd : r.data = none) : RetP D rs n H (rdE n r) ex t H' n' := by
  obtain ⟨k, d, sz, nx, e⟩ := r
  simp only at hd; subst hd
  exact RetP.pure hx hr (okN_l4 ok2_rec0 trivial (ok2_vec8 _) trivial) (Nat.le_refl _)
theorem RetP.rd1 {D : Ty} {rs : List ResultVar} {n n' m : Nat} {H H' : IHeap} {ex : Exit} {t : List Value} {r : RR} {l : List UInt8} (hx : ex = .normal ∨ ex = .ret) (hr : ires D t H' rs = some (.tuple #[enc (⟨r.kind, ⟨some ⟨m, 0, none⟩, l.length, l.length⟩⟩ : Record), .int .i64 (r.size : Int), enc r.next, .int .i64 (r.e : Int)])) (hd : r.data = some l)
    (hm : n ≤ m) (hH : H' m = some (.cells (encs l) false)) : RetP D rs n H (rdE n r) ex t H' n' := by
  obtain ⟨k, d, sz, nx, e⟩ := r
  simp only at hd; subst hd
  refine RetP.news [m] (cs := [encs l]) hx hr ?_ rfl rfl ⟨hm, trivial⟩ (by simp) ⟨hH.trans (by rw [plains_ren (by rw [← cels_one]; exact u8_plain _)]), trivial⟩ (fun c hc => by simp only [List.mem_cons, List.not_mem_nil, or_false] at hc; subst hc; exact u8_okN1 _) (okN_l4 (ok2_rec (by show n < _; simp)) trivial (ok2_vec8 _) trivial)
  show _ = ren (gL n [m]) (.tuple #[enc (⟨k, ⟨some ⟨n, 0, none⟩, l.length, l.length⟩⟩ : Record), .int .i64 (sz : Int), enc nx, .int .i64 (e : Int)])
  rw [ren_l4, ren2_rec, ren2_vec8, gL_one]; rfl
noncomputable def F77 : FnI := fun args H n => match args with
  | [x, y] => (dec x).bind fun (c : Dig) => (rdC H y).bind fun (b : List UInt8) => if b.length ≤ 2 ^ 39 then some (rdE n (rdV c b)) else none
  | _ => none
theorem F77_inv {args : List Value} {H : IHeap} {n : Nat} {e : Eff} (h : F77 args H n = some e) : ∃ (c : Dig) (xa : Option Addr) (xc : Nat) (b : List UInt8), args = [enc c, .slice xa b.length xc] ∧ rdC H (.slice xa b.length xc) = some b ∧ b.length ≤ 2 ^ 39 ∧ e = rdE n (rdV c b) := by
  unfold F77 at h; split at h
  · simp only [Option.bind_eq_some_iff] at h
    obtain ⟨c, hc, b, hb, h⟩ := h
    split at h
    · cases h
      obtain ⟨xa, xc, rfl⟩ := rdC_len hb
      exact ⟨c, xa, xc, b, by rw [dec_some hc], hb, by assumption, rfl⟩
    · cases h
  · cases h
theorem F77_ev {H : IHeap} {n : Nat} {c : Dig} {y : Value} {b : List UInt8} (hb : rdC H y = some b) (h : b.length ≤ 2 ^ 39) : F77 [enc c, y] H n = some (rdE n (rdV c b)) := by
  simp only [F77, dec_enc, Option.bind_some, hb]
  rw [if_pos h]
set_option maxHeartbeats 1000000
-- headwater/record.read ['Vector UInt8 32', 'Sl'] -> ['Record', 'Int', 'Vector UInt8 32', 'Int'], results [[4, 69], 5, [6, 24], 7]
theorem R77 : Ref Try.prog 77 F77 := by
  refine Ref.of_iw dok Try.func77 rfl (by kernel_rfl) fun args H n e hF => ?_
  obtain ⟨c, xa, xc, b, rfl, hB, hle, rfl⟩ := F77_inv hF
  refine ⟨Nat.le_of_ble_eq_true rfl, ?_⟩
  simp only [idxL]
  have hE : Env Try.prog [(52, F52), (93, F93), (94, F94), (95, F95), (96, F96), (97, F97), (98, F98), (99, F99)] D K := env (fnsOk_cons R52 (fnsOk_cons R93 (fnsOk_cons R94 (fnsOk_cons R95 (fnsOk_cons R96 (fnsOk_cons R97 (fnsOk_cons R98 (fnsOk_cons R99 fnsOk_nil))))))))
  refine IW.seq ?_
  refine IW.free (by simp) (fun hfree => ?_)
  refine IW.reg hE ?_
  refine vcS_new rfl rfl (ox_box (pl rfl) rfl) (.inl (by omega)) ?_
  refine vcS_new rfl rfl (ox_allocZ D_69 (zero_69 D_69)) (.inl (by omega)) ?_
  refine vcS_val rfl rfl (ox_assign (pl rfl)) ?_
  refine vcS_new rfl rfl (ox_allocZ (cs := encs (Vector.replicate 32 (0 : UInt8)).toList) D_24 rfl) (.inl (by omega)) ?_
  refine vcS_val rfl rfl (ox_assign (pl rfl)) ?_
  refine vcS_nil ?_
  refine IW.seq ?_
  refine IW.reg hE ?_
  refine vcS_val rfl rfl (ox_move (pl rfl)) ?_
  refine vcS_ups rfl rfl (ox_fn rfl rfl (F93_ev (rdC_keep hfree hB (by exact ⟨by omega, ⟨by omega, ⟨by omega, trivial⟩⟩⟩)) (by omega))) rfl ⟨.inl (by omega), ⟨.inl (by omega), trivial⟩⟩ ?_
  refine vcS_val rfl rfl (ox_assign (pl rfl)) ?_
  refine vcS_nil ?_
  refine IW.seq ?_
  refine IW.reg hE ?_
  refine vcS_val rfl rfl (ox_move (pl rfl)) ?_
  refine vcS_ups rfl rfl (ox_fn rfl rfl (F94_ev 1 (IsR.mk (s := ⟨0, 0⟩) (hp_eq _ _ _ _) (hp_sk (by omega) (hp_eq _ _ _ _)) (Nat.zero_le _) (by omega) (by omega)) (by decide))) rfl ⟨.inl (by omega), trivial⟩ ?_
  refine vcS_val rfl rfl (cv_6_8 (pl rfl) D_22 D_5 rfl) ?_
  refine vcS_val rfl rfl (ox_fieldAddr (pl rfl) D_69 rfl rfl D_5 (by decide)) ?_
  refine vcS_sto rfl rfl (ox_store (pl rfl) (pl rfl) D_5 (hp_sk (by omega) (hp_sk (by omega) (hp_sk (by omega) (hp_sk (by omega) (hp_eq _ _ _ _))))) rfl rfl (Record.le _ rfl) rfl (wr_69_0 _ (kd b))) (.inl (by omega)) ?_
  refine vcS_nil ?_
  refine IW.seq ?_
  refine IW.seq ?_
  refine IW.reg hE ?_
  refine vcS_val rfl rfl (ox_move (pl rfl)) ?_
  refine vcS_val rfl rfl (ox_fn rfl rfl (F95_ev (IsR.mk (s := q1 b) (hp_sk (by omega) (hp_eq _ _ _ _)) (hp_sk (by omega) (hp_sk (by omega) (hp_sk (by omega) (hp_eq _ _ _ _)))) (q1_le b) (by omega) (by omega)))) ?_
  refine vcS_val rfl rfl (ox_bin (pl rfl) (pl rfl) (bo_i64_eql _ _)) ?_
  refine vcS_val rfl rfl (ox_move (pl rfl)) ?_
  refine vcS_opt rfl (wgT rfl rfl rfl) (fun hb => ox_fieldAddr (pl rfl) D_69 rfl rfl D_5 (by decide)) ?_
  refine vcS_opt rfl (wgT rfl rfl rfl) (fun hb => ox_load (gd hb rfl) D_5 (hp_eq _ _ _ _) (rd_69_0 _ rfl)) ?_
  refine vcS_opt rfl (wgT rfl rfl rfl) (fun hb => ox_bin (gd hb rfl) (pl (v := enc (0 : UInt8)) rfl) (bo_u8_eql _ _)) ?_
  refine vcS_val rfl rfl (ox_and (pl rfl) (fun hc => gd hc rfl) (pl rfl)) ?_
  refine vcS_nil ?_
  refine IW.cond rfl (fun hc1 => ?_) (fun hc1 => ?_)
  · have h1 : (q1 b).e = 0 ∧ kd b = 0 := by simpa using hc1
    have hv : rdV c b = ⟨kd b, none, 0, z32, 4⟩ := if_pos h1
    refine IW.seq ?_
    refine IW.drw hE mixed [[],[],[0],[0,2],[0,1,2,3],[0,1,2,3,4]] (by kernel_rfl) (vcE_start ?_)
    refine vcE_val rfl rfl rfl rfl (ox_load (pl rfl) D_69 (hp_eq _ _ _ _) (rd_69 _ rfl rfl)) rfl (si_load (pl rfl)) (lt1 (by omega)) (trivial) ?_
    refine vcE_val rfl rfl rfl rfl (ox_load (pl rfl) D_24 (hp_sk (by omega) (hp_sk (by omega) (hp_sk (by omega) (hp_sk (by omega) (hp_eq _ _ _ _))))) (rd_all rfl (encs_vec_length _))) rfl (si_load (pl rfl)) (lt1 (by omega)) (trivial) ?_
    refine vcE_sto rfl rfl rfl rfl (ox_store (pl rfl) (pl rfl) D_69 (hp_eq _ _ _ _) (cellsOf_Record _) (Record.cells_length _) (Record.le _ rfl) (Record.cells_known _) (wr_all (by simp only [Record.cells_length]))) rfl (si_store (pl rfl)) (is_some (hp_eq _ _ _ _)) (by omega) (.inl (by omega)) (trivial) (⟨cn1 (n0 := 0) (by omega), ⟨trivial, trivial⟩⟩) ?_
    refine vcE_bl rfl rfl (fun _ => ox_assign (pl rfl)) rfl rfl ?_
    refine vcE_sto rfl rfl rfl rfl (ox_store (pl rfl) (pl rfl) D_24 (hp_sk (by omega) (hp_sk (by omega) (hp_sk (by omega) (hp_sk (by omega) (hp_sk (by omega) (hp_eq _ _ _ _)))))) rfl (encs_vec_length _) (le_vec _ rfl) (encs_known _) (wr_all (by simp only [encs_vec_length]))) rfl (si_store (pl rfl)) (is_some (hp_sk (by omega) (hp_sk (by omega) (hp_sk (by omega) (hp_sk (by omega) (hp_sk (by omega) (hp_eq _ _ _ _))))))) (by omega) (.inl (by omega)) (⟨trivial, trivial⟩) (⟨trivial, ⟨trivial, ⟨trivial, trivial⟩⟩⟩) ?_
    refine vcE_bl rfl rfl (fun _ => ox_assign (pl rfl)) rfl rfl ?_
    refine vcE_nil ?_
    refine IW.ret ?_
    rw [hv]; exact RetP.rd0 (.inr rfl) (ires_l4 (ires_cell rfl D_69 (hp_sk (by omega) (hp_eq _ _ _ _)) (rd_69 (⟨kd b, ⟨none, 0, 0⟩⟩ : Record) rfl rfl)) (ires_tmp rfl) (ires_cell rfl D_24 (hp_eq _ _ _ _) (rd_all rfl (encs_vec_length z32))) (ires_tmp rfl)) rfl
  · have hn1 : ¬ ((q1 b).e = 0 ∧ kd b = 0) := fun h => by rw [h.1, h.2] at hc1; cases hc1
    refine IW.skip ?_
    refine IW.seq ?_
    refine IW.reg hE ?_
    refine vcS_val rfl rfl (ox_move (pl rfl)) ?_
    refine vcS_ups rfl rfl (ox_fn rfl rfl (F96_ev (IsR.mk (s := q1 b) (hp_sk (by omega) (hp_eq _ _ _ _)) (hp_sk (by omega) (hp_sk (by omega) (hp_sk (by omega) (hp_eq _ _ _ _)))) (q1_le b) (by omega) (by omega)))) rfl ⟨.inl (by omega), trivial⟩ ?_
    refine vcS_val rfl rfl (ox_assign (pl rfl)) ?_
    refine vcS_nil ?_
    refine IW.seq ?_
    refine IW.block ?_
    refine IW.seq ?_
    refine IW.reg hE ?_
    refine vcS_val rfl rfl (ox_move (pl rfl)) ?_
    refine vcS_val rfl rfl (ox_fn rfl rfl (F95_ev (IsR.mk (s := q2 b) (hp_eq _ _ _ _) (hp_sk (by omega) (hp_sk (by omega) (hp_sk (by omega) (hp_sk (by omega) (hp_eq _ _ _ _))))) (q2_le b) (by omega) (by omega)))) ?_
    refine vcS_val rfl rfl (ox_bin (pl rfl) (pl rfl) (bo_i64_neq _ _)) ?_
    refine vcS_val rfl rfl (ox_assign (pl rfl)) ?_
    refine vcS_nil ?_
    refine IW.cond rfl (fun hc2 => ?_) (fun hc2 => ?_)
    · have h2 : (q2 b).e ≠ 0 := by simpa using hc2
      have hv : rdV c b = ⟨kd b, none, 0, z32, if (q2 b).e = 4 then 4 else 5⟩ := by unfold rdV; rw [if_neg hn1, if_pos h2]
      refine IW.seq ?_
      refine IW.drw hE mixed [[],[],[],[2],[0,2,3],[0,2,3,4],[0,1,2,3,4,5],[0,1,2,3,4,5,6]] (by kernel_rfl) (vcE_start ?_)
      refine vcE_val rfl rfl rfl rfl (ox_load (pl rfl) D_69 (hp_sk (by omega) (hp_eq _ _ _ _)) (rd_69 _ rfl rfl)) rfl (si_load (pl rfl)) (lt1 (by omega)) (trivial) ?_
      refine vcE_val rfl rfl rfl rfl (ox_load (pl rfl) D_24 (hp_sk (by omega) (hp_sk (by omega) (hp_sk (by omega) (hp_sk (by omega) (hp_sk (by omega) (hp_eq _ _ _ _)))))) (rd_all rfl (encs_vec_length _))) rfl (si_load (pl rfl)) (lt1 (by omega)) (trivial) ?_
      refine vcE_bl rfl rfl (fun _ => ox_move (pl rfl)) rfl rfl ?_
      refine vcE_call rfl rfl rfl rfl (ox_fn rfl rfl (F97_ev (IsR.mk (s := q2 b) (hp_eq _ _ _ _) (hp_sk (by omega) (hp_sk (by omega) (hp_sk (by omega) (hp_sk (by omega) (hp_eq _ _ _ _))))) (q2_le b) (by omega) (by omega)))) rfl ltu0 (trivial) ?_
      refine vcE_sto rfl rfl rfl rfl (ox_store (pl rfl) (pl rfl) D_69 (hp_sk (by omega) (hp_eq _ _ _ _)) (cellsOf_Record _) (Record.cells_length _) (Record.le _ rfl) (Record.cells_known _) (wr_all (by simp only [Record.cells_length]))) rfl (si_store (pl rfl)) (is_some (hp_sk (by omega) (hp_eq _ _ _ _))) (by omega) (.inl (by omega)) (trivial) (⟨trivial, ⟨cn1 (n0 := 0) (by omega), ⟨trivial, trivial⟩⟩⟩) ?_
      refine vcE_bl rfl rfl (fun _ => ox_assign (pl rfl)) rfl rfl ?_
      refine vcE_sto rfl rfl rfl rfl (ox_store (pl rfl) (pl rfl) D_24 (hp_sk (by omega) (hp_sk (by omega) (hp_sk (by omega) (hp_sk (by omega) (hp_sk (by omega) (hp_sk (by omega) (hp_eq _ _ _ _))))))) rfl (encs_vec_length _) (le_vec _ rfl) (encs_known _) (wr_all (by simp only [encs_vec_length]))) rfl (si_store (pl rfl)) (is_some (hp_sk (by omega) (hp_sk (by omega) (hp_sk (by omega) (hp_sk (by omega) (hp_sk (by omega) (hp_sk (by omega) (hp_eq _ _ _ _)))))))) (by omega) (.inl (by omega)) (⟨trivial, trivial⟩) (⟨trivial, ⟨trivial, ⟨trivial, ⟨trivial, trivial⟩⟩⟩⟩) ?_
      refine vcE_bl rfl rfl (fun _ => ox_assign (pl rfl)) rfl rfl ?_
      refine vcE_nil ?_
      refine IW.ret ?_
      refine retB ?_
      rw [hv]; exact RetP.rd0 (.inr rfl) (ires_l4 (ires_cell rfl D_69 (hp_sk (by omega) (hp_eq _ _ _ _)) (rd_69 (⟨kd b, ⟨none, 0, 0⟩⟩ : Record) rfl rfl)) (ires_tmp rfl) (ires_cell rfl D_24 (hp_eq _ _ _ _) (rd_all rfl (encs_vec_length z32))) (ires_tmp rfl)) rfl
    · have h2 : ¬ (q2 b).e ≠ 0 := by simpa using hc2
      refine IW.seq ?_
      refine IW.reg hE ?_
      refine vcS_val rfl rfl (ox_move (pl rfl)) ?_
      refine vcS_val rfl rfl (ox_bin (pl rfl) (pl (v := enc (8192 : UInt64)) rfl) (bo_u64_gtr _ _)) ?_
      refine vcS_val rfl rfl (ox_assign (pl rfl)) ?_
      refine vcS_nil ?_
      refine IW.cond rfl (fun hc3 => ?_) (fun hc3 => ?_)
      · replace hc3 := of_decide_eq_true hc3
        replace hc3 : 8192 < nn b := hc3
        have hv : rdV c b = ⟨kd b, none, 0, z32, 4⟩ := by unfold rdV; rw [if_neg hn1, if_neg h2, if_pos hc3]
        refine IW.seq ?_
        refine IW.drw hE mixed [[],[],[0],[0,2],[0,1,2,3],[0,1,2,3,4]] (by kernel_rfl) (vcE_start ?_)
        refine vcE_val rfl rfl rfl rfl (ox_load (pl rfl) D_69 (hp_sk (by omega) (hp_eq _ _ _ _)) (rd_69 _ rfl rfl)) rfl (si_load (pl rfl)) (lt1 (by omega)) (trivial) ?_
        refine vcE_val rfl rfl rfl rfl (ox_load (pl rfl) D_24 (hp_sk (by omega) (hp_sk (by omega) (hp_sk (by omega) (hp_sk (by omega) (hp_sk (by omega) (hp_eq _ _ _ _)))))) (rd_all rfl (encs_vec_length _))) rfl (si_load (pl rfl)) (lt1 (by omega)) (trivial) ?_
        refine vcE_sto rfl rfl rfl rfl (ox_store (pl rfl) (pl rfl) D_69 (hp_sk (by omega) (hp_eq _ _ _ _)) (cellsOf_Record _) (Record.cells_length _) (Record.le _ rfl) (Record.cells_known _) (wr_all (by simp only [Record.cells_length]))) rfl (si_store (pl rfl)) (is_some (hp_sk (by omega) (hp_eq _ _ _ _))) (by omega) (.inl (by omega)) (trivial) (⟨cn1 (n0 := 0) (by omega), ⟨trivial, trivial⟩⟩) ?_
        refine vcE_bl rfl rfl (fun _ => ox_assign (pl rfl)) rfl rfl ?_
        refine vcE_sto rfl rfl rfl rfl (ox_store (pl rfl) (pl rfl) D_24 (hp_sk (by omega) (hp_sk (by omega) (hp_sk (by omega) (hp_sk (by omega) (hp_sk (by omega) (hp_sk (by omega) (hp_eq _ _ _ _))))))) rfl (encs_vec_length _) (le_vec _ rfl) (encs_known _) (wr_all (by simp only [encs_vec_length]))) rfl (si_store (pl rfl)) (is_some (hp_sk (by omega) (hp_sk (by omega) (hp_sk (by omega) (hp_sk (by omega) (hp_sk (by omega) (hp_sk (by omega) (hp_eq _ _ _ _)))))))) (by omega) (.inl (by omega)) (⟨trivial, trivial⟩) (⟨trivial, ⟨trivial, ⟨trivial, trivial⟩⟩⟩) ?_
        refine vcE_bl rfl rfl (fun _ => ox_assign (pl rfl)) rfl rfl ?_
        refine vcE_nil ?_
        refine IW.ret ?_
        refine retB ?_
        rw [hv]; exact RetP.rd0 (.inr rfl) (ires_l4 (ires_cell rfl D_69 (hp_sk (by omega) (hp_eq _ _ _ _)) (rd_69 (⟨kd b, ⟨none, 0, 0⟩⟩ : Record) rfl rfl)) (ires_tmp rfl) (ires_cell rfl D_24 (hp_eq _ _ _ _) (rd_all rfl (encs_vec_length z32))) (ires_tmp rfl)) rfl
      · replace hc3 := of_decide_eq_false hc3
        replace hc3 : ¬ 8192 < nn b := hc3
        have hnb : (nn b).toNat < 2 ^ 63 := by have h := UInt64.le_iff_toNat_le.1 (UInt64.not_lt.1 hc3); have e : (8192 : UInt64).toNat = 8192 := rfl; omega
        have hnb2 : (nn b).toNat ≤ 8192 := by have h := UInt64.le_iff_toNat_le.1 (UInt64.not_lt.1 hc3); have e : (8192 : UInt64).toNat = 8192 := rfl; omega
        refine IW.skip ?_
        refine IW.nilB ?_
        refine IW.seq ?_
        cases ho : tkOk b (q2 b) (nn b).toNat
        · have ho3 : tkOk b (q3 b) 8 = false := tk_e_no (tk_no_e ho)
          have hda : dat b = none := by unfold dat; rw [ho]; rfl
          have hq4 : (q4 b).e ≠ 0 := tk_no_e ho3
          refine IW.reg hE ?_
          refine vcS_val rfl rfl (ox_move (pl rfl)) ?_
          refine vcS_val rfl rfl (ox_move (pl rfl)) ?_
          refine vcS_val rfl rfl (cv_6_i (pl rfl) D_22 D_3 rfl hnb) ?_
          refine vcS_ups rfl rfl (ox_fn rfl rfl (F98_no (nn b).toNat (IsR.mk (s := q2 b) (hp_eq _ _ _ _) (hp_sk (by omega) (hp_sk (by omega) (hp_sk (by omega) (hp_sk (by omega) (hp_eq _ _ _ _))))) (q2_le b) (by omega) (by omega)) rfl (by omega) ho)) rfl ⟨.inl (by omega), trivial⟩ ?_
          refine vcS_val rfl rfl (ox_fieldAddr (pl rfl) D_69 rfl rfl D_35 (by decide)) ?_
          refine vcS_sto rfl rfl (ox_store (pl rfl) (pl rfl) D_35 (hp_sk (by omega) (hp_sk (by omega) (hp_eq _ _ _ _))) rfl rfl (Record.le _ rfl) rfl (wr_69_1 _ (⟨none, 0, 0⟩ : Sl))) (.inl (by omega)) ?_
          refine vcS_nil ?_
          refine IW.seq ?_
          refine IW.reg hE ?_
          refine vcS_val rfl rfl (ox_move (pl rfl)) ?_
          refine vcS_ups rfl rfl (ox_fn rfl rfl (F98_no 8 (IsR.mk (s := q3 b) (hp_sk (by omega) (hp_eq _ _ _ _)) (hp_sk (by omega) (hp_sk (by omega) (hp_sk (by omega) (hp_sk (by omega) (hp_sk (by omega) (hp_sk (by omega) (hp_eq _ _ _ _))))))) (q3_le b) (by omega) (by omega)) rfl (by decide) ho3)) rfl ⟨.inl (by omega), trivial⟩ ?_
          refine vcS_val rfl rfl (ox_assign (pl rfl)) ?_
          refine vcS_nil ?_
          refine IW.seq ?_
          refine IW.seq ?_
          refine IW.reg hE ?_
          refine vcS_val rfl rfl (ox_move (pl rfl)) ?_
          refine vcS_val rfl rfl (ox_fn rfl rfl (F95_ev (IsR.mk (s := q4 b) (hp_eq _ _ _ _) (hp_sk (by omega) (hp_sk (by omega) (hp_sk (by omega) (hp_sk (by omega) (hp_sk (by omega) (hp_sk (by omega) (hp_sk (by omega) (hp_eq _ _ _ _)))))))) (q4_le b) (by omega) (by omega)))) ?_
          refine vcS_val rfl rfl (ox_bin (pl rfl) (pl rfl) (bo_i64_neq _ _)) ?_
          refine vcS_nil ?_
          refine IW.cond rfl (fun hc4 => ?_) (fun hc4 => ?_)
          · have hv : rdV c b = ⟨kd b, dat b, 0, z32, 5⟩ := by unfold rdV; rw [if_neg hn1, if_neg h2, if_neg hc3, if_pos hq4]
            refine IW.seq ?_
            refine IW.drw hE mixed [[],[],[0],[0,2],[0,1,2,3],[0,1,2,3,4]] (by kernel_rfl) (vcE_start ?_)
            refine vcE_val rfl rfl rfl rfl (ox_load (pl rfl) D_69 (hp_sk (by omega) (hp_eq _ _ _ _)) (rd_69 _ rfl rfl)) rfl (si_load (pl rfl)) (lt1 (by omega)) (trivial) ?_
            refine vcE_val rfl rfl rfl rfl (ox_load (pl rfl) D_24 (hp_sk (by omega) (hp_sk (by omega) (hp_sk (by omega) (hp_sk (by omega) (hp_sk (by omega) (hp_sk (by omega) (hp_sk (by omega) (hp_sk (by omega) (hp_eq _ _ _ _))))))))) (rd_all rfl (encs_vec_length _))) rfl (si_load (pl rfl)) (lt1 (by omega)) (trivial) ?_
            refine vcE_sto rfl rfl rfl rfl (ox_store (pl rfl) (pl rfl) D_69 (hp_sk (by omega) (hp_eq _ _ _ _)) (cellsOf_Record _) (Record.cells_length _) (Record.le _ rfl) (Record.cells_known _) (wr_all (by simp only [Record.cells_length]))) rfl (si_store (pl rfl)) (is_some (hp_sk (by omega) (hp_eq _ _ _ _))) (by omega) (.inl (by omega)) (trivial) (⟨cn1 (n0 := 0) (by omega), ⟨trivial, trivial⟩⟩) ?_
            refine vcE_bl rfl rfl (fun _ => ox_assign (pl rfl)) rfl rfl ?_
            refine vcE_sto rfl rfl rfl rfl (ox_store (pl rfl) (pl rfl) D_24 (hp_sk (by omega) (hp_sk (by omega) (hp_sk (by omega) (hp_sk (by omega) (hp_sk (by omega) (hp_sk (by omega) (hp_sk (by omega) (hp_sk (by omega) (hp_sk (by omega) (hp_eq _ _ _ _)))))))))) rfl (encs_vec_length _) (le_vec _ rfl) (encs_known _) (wr_all (by simp only [encs_vec_length]))) rfl (si_store (pl rfl)) (is_some (hp_sk (by omega) (hp_sk (by omega) (hp_sk (by omega) (hp_sk (by omega) (hp_sk (by omega) (hp_sk (by omega) (hp_sk (by omega) (hp_sk (by omega) (hp_sk (by omega) (hp_eq _ _ _ _))))))))))) (by omega) (.inl (by omega)) (⟨trivial, trivial⟩) (⟨trivial, ⟨trivial, ⟨trivial, trivial⟩⟩⟩) ?_
            refine vcE_bl rfl rfl (fun _ => ox_assign (pl rfl)) rfl rfl ?_
            refine vcE_nil ?_
            refine IW.ret ?_
            rw [hv]; exact RetP.rd0 (.inr rfl) (ires_l4 (ires_cell rfl D_69 (hp_sk (by omega) (hp_eq _ _ _ _)) (rd_69 (⟨kd b, ⟨none, 0, 0⟩⟩ : Record) rfl rfl)) (ires_tmp rfl) (ires_cell rfl D_24 (hp_eq _ _ _ _) (rd_all rfl (encs_vec_length z32))) (ires_tmp rfl)) hda
          · exact absurd (show (q4 b).e = 0 by simpa using hc4) hq4
        · have hda : dat b = some (dl b) := if_pos ho
          have hdl : (dl b).length ≤ (nn b).toNat := tkL_length
          refine IW.reg hE ?_
          refine vcS_val rfl rfl (ox_move (pl rfl)) ?_
          refine vcS_val rfl rfl (ox_move (pl rfl)) ?_
          refine vcS_val rfl rfl (cv_6_i (pl rfl) D_22 D_3 rfl hnb) ?_
          refine vcS_ups rfl rfl (ox_fn rfl rfl (F98_ok (nn b).toNat (IsR.mk (s := q2 b) (hp_eq _ _ _ _) (hp_sk (by omega) (hp_sk (by omega) (hp_sk (by omega) (hp_sk (by omega) (hp_eq _ _ _ _))))) (q2_le b) (by omega) (by omega)) rfl (by omega) ho)) rfl ⟨.inl (by omega), ⟨.inl (by omega), trivial⟩⟩ ?_
          refine vcS_val rfl rfl (ox_fieldAddr (pl rfl) D_69 rfl rfl D_35 (by decide)) ?_
          refine vcS_sto rfl rfl (ox_store (pl rfl) (pl rfl) D_35 (hp_sk (by omega) (hp_sk (by omega) (hp_sk (by omega) (hp_eq _ _ _ _)))) rfl rfl (Record.le _ rfl) rfl (wr_69_1 _ (⟨some ⟨n + 1 + 1 + 1 + 2, 0, none⟩, (dl b).length, (dl b).length⟩ : Sl))) (.inl (by omega)) ?_
          refine vcS_nil ?_
          refine IW.seq ?_
          cases ho3 : tkOk b (q3 b) 8
          · have hq4 : (q4 b).e ≠ 0 := tk_no_e ho3
            refine IW.reg hE ?_
            refine vcS_val rfl rfl (ox_move (pl rfl)) ?_
            refine vcS_ups rfl rfl (ox_fn rfl rfl (F98_no 8 (IsR.mk (s := q3 b) (hp_sk (by omega) (hp_sk (by omega) (hp_eq _ _ _ _))) (hp_sk (by omega) (hp_sk (by omega) (hp_sk (by omega) (hp_sk (by omega) (hp_sk (by omega) (hp_sk (by omega) (hp_sk (by omega) (hp_eq _ _ _ _)))))))) (q3_le b) (by omega) (by omega)) rfl (by decide) ho3)) rfl ⟨.inl (by omega), trivial⟩ ?_
            refine vcS_val rfl rfl (ox_assign (pl rfl)) ?_
            refine vcS_nil ?_
            refine IW.seq ?_
            refine IW.seq ?_
            refine IW.reg hE ?_
            refine vcS_val rfl rfl (ox_move (pl rfl)) ?_
            refine vcS_val rfl rfl (ox_fn rfl rfl (F95_ev (IsR.mk (s := q4 b) (hp_eq _ _ _ _) (hp_sk (by omega) (hp_sk (by omega) (hp_sk (by omega) (hp_sk (by omega) (hp_sk (by omega) (hp_sk (by omega) (hp_sk (by omega) (hp_sk (by omega) (hp_eq _ _ _ _))))))))) (q4_le b) (by omega) (by omega)))) ?_
            refine vcS_val rfl rfl (ox_bin (pl rfl) (pl rfl) (bo_i64_neq _ _)) ?_
            refine vcS_nil ?_
            refine IW.cond rfl (fun hc5 => ?_) (fun hc5 => ?_)
            · have hv : rdV c b = ⟨kd b, dat b, 0, z32, 5⟩ := by unfold rdV; rw [if_neg hn1, if_neg h2, if_neg hc3, if_pos hq4]
              refine IW.seq ?_
              refine IW.drw hE mixed [[],[],[0],[0,2],[0,1,2,3],[0,1,2,3,4]] (by kernel_rfl) (vcE_start ?_)
              refine vcE_val rfl rfl rfl rfl (ox_load (pl rfl) D_69 (hp_sk (by omega) (hp_eq _ _ _ _)) (rd_69 _ rfl rfl)) rfl (si_load (pl rfl)) (lt1 (by omega)) (trivial) ?_
              refine vcE_val rfl rfl rfl rfl (ox_load (pl rfl) D_24 (hp_sk (by omega) (hp_sk (by omega) (hp_sk (by omega) (hp_sk (by omega) (hp_sk (by omega) (hp_sk (by omega) (hp_sk (by omega) (hp_sk (by omega) (hp_sk (by omega) (hp_eq _ _ _ _)))))))))) (rd_all rfl (encs_vec_length _))) rfl (si_load (pl rfl)) (lt1 (by omega)) (trivial) ?_
              refine vcE_sto rfl rfl rfl rfl (ox_store (pl rfl) (pl rfl) D_69 (hp_sk (by omega) (hp_eq _ _ _ _)) (cellsOf_Record _) (Record.cells_length _) (Record.le _ rfl) (Record.cells_known _) (wr_all (by simp only [Record.cells_length]))) rfl (si_store (pl rfl)) (is_some (hp_sk (by omega) (hp_eq _ _ _ _))) (by omega) (.inl (by omega)) (trivial) (⟨cn1 (n0 := 0) (by omega), ⟨trivial, trivial⟩⟩) ?_
              refine vcE_bl rfl rfl (fun _ => ox_assign (pl rfl)) rfl rfl ?_
              refine vcE_sto rfl rfl rfl rfl (ox_store (pl rfl) (pl rfl) D_24 (hp_sk (by omega) (hp_sk (by omega) (hp_sk (by omega) (hp_sk (by omega) (hp_sk (by omega) (hp_sk (by omega) (hp_sk (by omega) (hp_sk (by omega) (hp_sk (by omega) (hp_sk (by omega) (hp_eq _ _ _ _))))))))))) rfl (encs_vec_length _) (le_vec _ rfl) (encs_known _) (wr_all (by simp only [encs_vec_length]))) rfl (si_store (pl rfl)) (is_some (hp_sk (by omega) (hp_sk (by omega) (hp_sk (by omega) (hp_sk (by omega) (hp_sk (by omega) (hp_sk (by omega) (hp_sk (by omega) (hp_sk (by omega) (hp_sk (by omega) (hp_sk (by omega) (hp_eq _ _ _ _)))))))))))) (by omega) (.inl (by omega)) (⟨trivial, trivial⟩) (⟨trivial, ⟨trivial, ⟨trivial, trivial⟩⟩⟩) ?_
              refine vcE_bl rfl rfl (fun _ => ox_assign (pl rfl)) rfl rfl ?_
              refine vcE_nil ?_
              refine IW.ret ?_
              rw [hv]; exact RetP.rd1 (.inr rfl) (ires_l4 (ires_cell rfl D_69 (hp_sk (by omega) (hp_eq _ _ _ _)) (rd_69 (⟨kd b, (⟨some ⟨n + 1 + 1 + 1 + 2, 0, none⟩, (dl b).length, (dl b).length⟩ : Sl)⟩ : Record) rfl rfl)) (ires_tmp rfl) (ires_cell rfl D_24 (hp_eq _ _ _ _) (rd_all rfl (encs_vec_length z32))) (ires_tmp rfl)) hda (by omega) ((hp_sk (by omega) (hp_sk (by omega) (hp_sk (by omega) (hp_sk (by omega) (hp_eq _ _ _ _))))))
            · exact absurd (show (q4 b).e = 0 by simpa using hc5) hq4
          · have hq4 : (q4 b).e = 0 := tk_ok_e ho3
            refine IW.reg hE ?_
            refine vcS_val rfl rfl (ox_move (pl rfl)) ?_
            refine vcS_ups rfl rfl (ox_fn rfl rfl (F98_ok 8 (IsR.mk (s := q3 b) (hp_sk (by omega) (hp_sk (by omega) (hp_eq _ _ _ _))) (hp_sk (by omega) (hp_sk (by omega) (hp_sk (by omega) (hp_sk (by omega) (hp_sk (by omega) (hp_sk (by omega) (hp_sk (by omega) (hp_eq _ _ _ _)))))))) (q3_le b) (by omega) (by omega)) rfl (by decide) ho3)) rfl ⟨.inl (by omega), ⟨.inl (by omega), trivial⟩⟩ ?_
            refine vcS_val rfl rfl (ox_assign (pl rfl)) ?_
            refine vcS_nil ?_
            refine IW.seq ?_
            refine IW.seq ?_
            refine IW.reg hE ?_
            refine vcS_val rfl rfl (ox_move (pl rfl)) ?_
            refine vcS_val rfl rfl (ox_fn rfl rfl (F95_ev (IsR.mk (s := q4 b) (hp_sk (by omega) (hp_eq _ _ _ _)) (hp_sk (by omega) (hp_sk (by omega) (hp_sk (by omega) (hp_sk (by omega) (hp_sk (by omega) (hp_sk (by omega) (hp_sk (by omega) (hp_sk (by omega) (hp_sk (by omega) (hp_eq _ _ _ _)))))))))) (q4_le b) (by omega) (by omega)))) ?_
            refine vcS_val rfl rfl (ox_bin (pl rfl) (pl rfl) (bo_i64_neq _ _)) ?_
            refine vcS_nil ?_
            refine IW.cond rfl (fun hc6 => ?_) (fun hc6 => ?_)
            · exact absurd hq4 (show (q4 b).e ≠ 0 by simpa using hc6)
            · refine IW.skip ?_
              refine IW.seq ?_
              refine IW.reg hE ?_
              refine vcS_val rfl rfl (ox_load (pl rfl) D_24 (hp_sk (by omega) (hp_sk (by omega) (hp_sk (by omega) (hp_sk (by omega) (hp_sk (by omega) (hp_sk (by omega) (hp_sk (by omega) (hp_sk (by omega) (hp_sk (by omega) (hp_sk (by omega) (hp_sk (by omega) (hp_sk (by omega) (hp_eq _ _ _ _))))))))))))) (rd_all rfl (encs_vec_length _))) ?_
              refine vcS_val rfl rfl (ox_load (pl rfl) D_69 (hp_sk (by omega) (hp_sk (by omega) (hp_eq _ _ _ _))) (rd_69 _ rfl rfl)) ?_
              refine vcS_val rfl rfl (ox_fn rfl rfl (recFc_ev (a := (⟨kd b, (⟨some ⟨n + 1 + 1 + 1 + 2, 0, none⟩, (dl b).length, (dl b).length⟩ : Sl)⟩ : Record)) (c := dl b) (rdC_1all (hp_sk (by omega) (hp_sk (by omega) (hp_sk (by omega) (hp_eq _ _ _ _)))) rfl) (by omega) rfl)) ?_
              refine vcS_sto rfl rfl (ox_store (pl rfl) (pl rfl) D_24 (hp_sk (by omega) (hp_sk (by omega) (hp_sk (by omega) (hp_sk (by omega) (hp_sk (by omega) (hp_sk (by omega) (hp_sk (by omega) (hp_sk (by omega) (hp_sk (by omega) (hp_sk (by omega) (hp_eq _ _ _ _))))))))))) rfl (encs_vec_length _) (le_vec _ rfl) (encs_known _) (wr_all (by simp only [encs_vec_length]))) (.inl (by omega)) ?_
              refine vcS_nil ?_
              refine IW.seq ?_
              refine IW.seq ?_
              refine IW.drw hE mixed [[],[0],[],[2],[0,1,2,3]] (by kernel_rfl) (vcE_start ?_)
              refine vcE_bl rfl rfl (fun _ => ox_move (pl rfl)) rfl rfl ?_
              refine vcE_val rfl rfl rfl rfl (ox_cvS (pl rfl) D_35 rfl D_5 rfl D_9 rfl (rdC_1all (l := mk8 b) (hp_sk (by omega) (hp_eq _ _ _ _)) rfl)) rfl (si_conv (pl rfl)) (lt1 (by omega)) (trivial) ?_
              refine vcE_bl rfl rfl (fun _ => ox_slAH (pl rfl) D_24 rfl D_5 (bndI (pl rfl) rfl) (by first | omega | decide)) rfl rfl ?_
              refine vcE_val rfl rfl rfl rfl (ox_cvS (pl rfl) D_35 rfl D_5 rfl D_9 rfl (rdC_sl0 (len := 32) (rdC_1all (l := (nextV c (kd b) (dl b)).toList) (hp_eq _ _ _ _) (by simp)) (by decide))) rfl (si_conv (pl rfl)) (lt1 (by omega)) (trivial) ?_
              refine vcE_bl rfl rfl (fun _ => ox_bin (pl rfl) (pl rfl) (bo_str_neq _ _)) rfl rfl ?_
              refine vcE_nil ?_
              refine IW.cond rfl (fun hc7 => ?_) (fun hc7 => ?_)
              · have h7 : mk8 b ≠ (nextV c (kd b) (dl b)).toList.take 8 := by simpa using hc7
                have hv : rdV c b = ⟨kd b, dat b, 0, (nextV c (kd b) (dl b)), 4⟩ := by unfold rdV; rw [if_neg hn1, if_neg h2, if_neg hc3, if_neg (not_not_intro hq4), if_pos h7]
                refine IW.seq ?_
                refine IW.drw hE mixed [[],[],[0],[0,2],[0,1,2,3],[0,1,2,3,4]] (by kernel_rfl) (vcE_start ?_)
                refine vcE_val rfl rfl rfl rfl (ox_load (pl rfl) D_69 (hp_sk (by omega) (hp_sk (by omega) (hp_sk (by omega) (hp_eq _ _ _ _)))) (rd_69 _ rfl rfl)) rfl (si_load (pl rfl)) (lt1 (by omega)) (trivial) ?_
                refine vcE_val rfl rfl rfl rfl (ox_load (pl rfl) D_24 (hp_eq _ _ _ _) (rd_all rfl (encs_vec_length _))) rfl (si_load (pl rfl)) (lt1 (by omega)) (trivial) ?_
                refine vcE_sto rfl rfl rfl rfl (ox_store (pl rfl) (pl rfl) D_69 (hp_sk (by omega) (hp_sk (by omega) (hp_sk (by omega) (hp_eq _ _ _ _)))) (cellsOf_Record _) (Record.cells_length _) (Record.le _ rfl) (Record.cells_known _) (wr_all (by simp only [Record.cells_length]))) rfl (si_store (pl rfl)) (is_some (hp_sk (by omega) (hp_sk (by omega) (hp_sk (by omega) (hp_eq _ _ _ _))))) (by omega) (.inl (by omega)) (trivial) (⟨cn1 (n0 := 0) (by omega), ⟨trivial, trivial⟩⟩) ?_
                refine vcE_bl rfl rfl (fun _ => ox_assign (pl rfl)) rfl rfl ?_
                refine vcE_sto rfl rfl rfl rfl (ox_store (pl rfl) (pl rfl) D_24 (hp_sk (by omega) (hp_eq _ _ _ _)) rfl (encs_vec_length _) (le_vec _ rfl) (encs_known _) (wr_all (by simp only [encs_vec_length]))) rfl (si_store (pl rfl)) (is_some (hp_sk (by omega) (hp_eq _ _ _ _))) (by omega) (.inl (by omega)) (⟨trivial, trivial⟩) (⟨trivial, ⟨trivial, ⟨trivial, trivial⟩⟩⟩) ?_
                refine vcE_bl rfl rfl (fun _ => ox_assign (pl rfl)) rfl rfl ?_
                refine vcE_nil ?_
                refine IW.ret ?_
                rw [hv]; exact RetP.rd1 (.inr rfl) (ires_l4 (ires_cell rfl D_69 (hp_sk (by omega) (hp_eq _ _ _ _)) (rd_69 (⟨kd b, (⟨some ⟨n + 1 + 1 + 1 + 2, 0, none⟩, (dl b).length, (dl b).length⟩ : Sl)⟩ : Record) rfl rfl)) (ires_tmp rfl) (ires_cell rfl D_24 (hp_eq _ _ _ _) (rd_all rfl (encs_vec_length (nextV c (kd b) (dl b))))) (ires_tmp rfl)) hda (by omega) ((hp_sk (by omega) (hp_sk (by omega) (hp_sk (by omega) (hp_sk (by omega) (hp_sk (by omega) (hp_sk (by omega) (hp_eq _ _ _ _))))))))
              · have h7 : ¬ mk8 b ≠ (nextV c (kd b) (dl b)).toList.take 8 := by simpa using hc7
                have hv : rdV c b = ⟨kd b, dat b, (q4 b).at_, (nextV c (kd b) (dl b)), 0⟩ := by unfold rdV; rw [if_neg hn1, if_neg h2, if_neg hc3, if_neg (not_not_intro hq4), if_neg h7]
                refine IW.skip ?_
                refine IW.seq ?_
                refine IW.drw hE mixed [[],[],[1],[],[3],[1,2,3,4],[],[0,3,4],[0,1,2,3,4,5,7],[0,1,2,3,4,5,6,7,8],[0,1,2,3,4,5,6,7,8,9]] (by kernel_rfl) (vcE_start ?_)
                refine vcE_val rfl rfl rfl rfl (ox_load (pl rfl) D_69 (hp_sk (by omega) (hp_sk (by omega) (hp_sk (by omega) (hp_eq _ _ _ _)))) (rd_69 _ rfl rfl)) rfl (si_load (pl rfl)) (lt1 (by omega)) (trivial) ?_
                refine vcE_bl rfl rfl (fun _ => ox_move (pl rfl)) rfl rfl ?_
                refine vcE_bl rfl rfl (fun _ => ox_len (pl rfl) D_35 rfl) rfl rfl ?_
                refine vcE_bl rfl rfl (fun _ => ox_move (pl rfl)) rfl rfl ?_
                refine vcE_call rfl rfl rfl rfl (ox_fn rfl rfl (F99_ev (IsR.mk (s := q4 b) (hp_sk (by omega) (hp_sk (by omega) (hp_eq _ _ _ _))) (hp_sk (by omega) (hp_sk (by omega) (hp_sk (by omega) (hp_sk (by omega) (hp_sk (by omega) (hp_sk (by omega) (hp_sk (by omega) (hp_sk (by omega) (hp_sk (by omega) (hp_sk (by omega) (hp_eq _ _ _ _))))))))))) (q4_le b) (by omega) (by omega)))) rfl ltu0 (trivial) ?_
                refine vcE_bl rfl rfl (fun _ => ox_bin (pl rfl) (pl rfl) ((bo_i64_sub (by omega)).trans (congrArg (fun z => some (Value.int .i64 z)) (show (b.length : Int) - ((b.length - (q4 b).at_ : Nat) : Int) = (((q4 b).at_ : Nat) : Int) by have := q4_le b; omega)))) rfl rfl ?_
                refine vcE_val rfl rfl rfl rfl (ox_load (pl rfl) D_24 (hp_eq _ _ _ _) (rd_all rfl (encs_vec_length _))) rfl (si_load (pl rfl)) (lt1 (by omega)) (trivial) ?_
                refine vcE_sto rfl rfl rfl rfl (ox_store (pl rfl) (pl rfl) D_69 (hp_sk (by omega) (hp_sk (by omega) (hp_sk (by omega) (hp_eq _ _ _ _)))) (cellsOf_Record _) (Record.cells_length _) (Record.le _ rfl) (Record.cells_known _) (wr_all (by simp only [Record.cells_length]))) rfl (si_store (pl rfl)) (is_some (hp_sk (by omega) (hp_sk (by omega) (hp_sk (by omega) (hp_eq _ _ _ _))))) (by omega) (.inl (by omega)) (trivial) (⟨cn1 (n0 := 0) (by omega), ⟨trivial, ⟨trivial, trivial⟩⟩⟩) ?_
                refine vcE_bl rfl rfl (fun _ => ox_assign (pl rfl)) rfl rfl ?_
                refine vcE_sto rfl rfl rfl rfl (ox_store (pl rfl) (pl rfl) D_24 (hp_sk (by omega) (hp_eq _ _ _ _)) rfl (encs_vec_length _) (le_vec _ rfl) (encs_known _) (wr_all (by simp only [encs_vec_length]))) rfl (si_store (pl rfl)) (is_some (hp_sk (by omega) (hp_eq _ _ _ _))) (by omega) (.inl (by omega)) (⟨trivial, trivial⟩) (⟨trivial, ⟨trivial, ⟨trivial, ⟨trivial, trivial⟩⟩⟩⟩) ?_
                refine vcE_bl rfl rfl (fun _ => ox_assign (pl rfl)) rfl rfl ?_
                refine vcE_nil ?_
                refine IW.ret ?_
                rw [hv]; exact RetP.rd1 (.inr rfl) (ires_l4 (ires_cell rfl D_69 (hp_sk (by omega) (hp_eq _ _ _ _)) (rd_69 (⟨kd b, (⟨some ⟨n + 1 + 1 + 1 + 2, 0, none⟩, (dl b).length, (dl b).length⟩ : Sl)⟩ : Record) rfl rfl)) (ires_tmp rfl) (ires_cell rfl D_24 (hp_eq _ _ _ _) (rd_all rfl (encs_vec_length (nextV c (kd b) (dl b))))) (ires_tmp rfl)) hda (by omega) ((hp_sk (by omega) (hp_sk (by omega) (hp_sk (by omega) (hp_sk (by omega) (hp_sk (by omega) (hp_sk (by omega) (hp_eq _ _ _ _))))))))
end Go.Proofs.Ytdnnojblneccdaa
/-
  record.Read.
-/
namespace Go.Proofs.Ytdnnojblneccdaa
set_option linter.unusedSimpArgs false
set_option linter.unusedVariables false
open Go
open Enc (enc)
set_option maxRecDepth 100000
theorem F77_none {H : IHeap} {n : Nat} {c : Dig} {y : Value} {b : List UInt8} (hb : rdC H y = some b) (h : b.length ≤ 2 ^ 39) (hd : (rdV c b).data = none) : F77 [enc c, y] H n = some ⟨.tuple #[enc (⟨(rdV c b).kind, ⟨none, 0, 0⟩⟩ : Record), .int .i64 ((rdV c b).size : Int), enc (rdV c b).next, .int .i64 ((rdV c b).e : Int)], [], n⟩ := by
  rw [F77_ev hb h, rdE, hd]; rfl
theorem F77_some {H : IHeap} {n : Nat} {c : Dig} {y : Value} {b l : List UInt8} (hb : rdC H y = some b) (h : b.length ≤ 2 ^ 39) (hd : (rdV c b).data = some l) : F77 [enc c, y] H n = some ⟨.tuple #[enc (⟨(rdV c b).kind, ⟨some ⟨n, 0, none⟩, l.length, l.length⟩⟩ : Record), .int .i64 ((rdV c b).size : Int), enc (rdV c b).next, .int .i64 ((rdV c b).e : Int)], [(n, some (.cells (encs l) false))], n + 1⟩ := by
  rw [F77_ev hb h, rdE, hd]; rfl
theorem rdV_ok {c : Dig} {b : List UInt8} (h : (rdV c b).e = 0) : ¬ ((q1 b).e = 0 ∧ kd b = 0) ∧ ¬ (q2 b).e ≠ 0 ∧ ¬ 8192 < nn b ∧ (q4 b).e = 0 ∧ mk8 b = (nextV c (kd b) (dl b)).toList.take 8 := by
  unfold rdV at h
  by_cases h1 : (q1 b).e = 0 ∧ kd b = 0
  · rw [if_pos h1] at h; cases h
  rw [if_neg h1] at h
  by_cases h2 : (q2 b).e ≠ 0
  · rw [if_pos h2] at h
    simp only at h
    split at h <;> cases h
  rw [if_neg h2] at h
  by_cases h3 : 8192 < nn b
  · rw [if_pos h3] at h; cases h
  rw [if_neg h3] at h
  by_cases h4 : (q4 b).e ≠ 0
  · rw [if_pos h4] at h; cases h
  rw [if_neg h4] at h
  by_cases h5 : mk8 b ≠ (nextV c (kd b) (dl b)).toList.take 8
  · rw [if_pos h5] at h; cases h
  exact ⟨h1, h2, h3, Decidable.not_not.1 h4, Decidable.not_not.1 h5⟩
theorem rdV_at {c : Dig} {b : List UInt8} (h : ¬ ((q1 b).e = 0 ∧ kd b = 0) ∧ ¬ (q2 b).e ≠ 0 ∧ ¬ 8192 < nn b ∧ (q4 b).e = 0 ∧ mk8 b = (nextV c (kd b) (dl b)).toList.take 8) : rdV c b = ⟨kd b, some (dl b), (q4 b).at_, nextV c (kd b) (dl b), 0⟩ := by
  obtain ⟨h1, h2, h3, h4, h5⟩ := h
  have hda : dat b = some (dl b) := by
    unfold dat
    by_cases ho : tkOk b (q2 b) (nn b).toNat = true
    · exact if_pos ho
    · have ho : tkOk b (q2 b) (nn b).toNat = false := by simpa using ho
      have h6 : tkOk b (q3 b) 8 = false := tk_e_no (tk_no_e ho)
      exact absurd h4 (tk_no_e h6)
  unfold rdV
  rw [if_neg h1, if_neg h2, if_neg h3, if_neg (not_not_intro h4), if_neg (not_not_intro h5), hda]
theorem rdV_data {c : Dig} {b : List UInt8} (h : (rdV c b).e = 0) : (rdV c b).data = some (dl b) := by rw [rdV_at (rdV_ok h)]
def rdR (c : Dig) (b : List UInt8) : RR := if (rdV c b).e = 0 then rdV c b else ⟨0, none, 0, z32, (rdV c b).e⟩
noncomputable def F50 : FnI := fun args H n => match args with
  | [x, y] => (dec x).bind fun (c : Dig) => (rdC H y).bind fun (b : List UInt8) => if b.length ≤ 2 ^ 39 then some (rdE n (rdR c b)) else none
  | _ => none
theorem F50_inv {args : List Value} {H : IHeap} {n : Nat} {e : Eff} (h : F50 args H n = some e) : ∃ (c : Dig) (y : Value) (b : List UInt8), args = [enc c, y] ∧ rdC H y = some b ∧ b.length ≤ 2 ^ 39 ∧ e = rdE n (rdR c b) := by
  unfold F50 at h; split at h
  · simp only [Option.bind_eq_some_iff] at h
    obtain ⟨c, hc, b, hb, h⟩ := h
    split at h
    · cases h
      exact ⟨c, _, b, by rw [dec_some hc], hb, by assumption, rfl⟩
    · cases h
  · cases h
theorem F50_ev {H : IHeap} {n : Nat} {c : Dig} {y : Value} {b : List UInt8} (hb : rdC H y = some b) (h : b.length ≤ 2 ^ 39) : F50 [enc c, y] H n = some (rdE n (rdR c b)) := by
  simp only [F50, dec_enc, Option.bind_some, hb]
  rw [if_pos h]
-- headwater/record.Read ['Vector UInt8 32', 'Sl'] -> ['Record', 'Int', 'Vector UInt8 32', 'Int'], results [[4, 69], 5, [6, 24], 7]
theorem R50 : Ref Try.prog 50 F50 := by
  refine Ref.of_iw dok Try.func50 rfl (by kernel_rfl) fun args H n e hF => ?_
  obtain ⟨c, y, b, rfl, hB, hle, rfl⟩ := F50_inv hF
  refine ⟨Nat.le_of_ble_eq_true rfl, ?_⟩
  simp only [idxL]
  have hE : Env Try.prog [(77, F77)] D K := env (fnsOk_cons R77 fnsOk_nil)
  refine IW.seq ?_
  refine IW.free (by simp) (fun hfree => ?_)
  refine IW.reg hE ?_
  refine vcS_new rfl rfl (ox_box (pl rfl) rfl) (.inl (by omega)) ?_
  refine vcS_new rfl rfl (ox_allocZ D_69 (zero_69 D_69)) (.inl (by omega)) ?_
  refine vcS_val rfl rfl (ox_assign (pl rfl)) ?_
  refine vcS_new rfl rfl (ox_allocZ (cs := encs (Vector.replicate 32 (0 : UInt8)).toList) D_24 rfl) (.inl (by omega)) ?_
  refine vcS_val rfl rfl (ox_assign (pl rfl)) ?_
  refine vcS_nil ?_
  refine IW.seq ?_
  rcases hda : (rdV c b).data with _ | l
  · refine IW.reg hE ?_
    refine vcS_val rfl rfl (ox_load (pl rfl) D_24 (hp_sk (by omega) (hp_sk (by omega) (hp_eq _ _ _ _))) (rd_all rfl (encs_vec_length _))) ?_
    refine vcS_val rfl rfl (ox_move (pl rfl)) ?_
    refine vcS_ups rfl rfl (ox_fn rfl rfl (F77_none (rdC_keep hfree hB (by exact ⟨by omega, ⟨by omega, ⟨by omega, trivial⟩⟩⟩)) hle hda)) rfl trivial ?_
    refine vcS_val rfl rfl (ox_move (pl rfl)) ?_
    refine vcS_val rfl rfl (ox_extract (pl rfl) rfl) ?_
    refine vcS_val rfl rfl (ox_extract (pl rfl) rfl) ?_
    refine vcS_val rfl rfl (ox_extract (pl rfl) rfl) ?_
    refine vcS_val rfl rfl (ox_extract (pl rfl) rfl) ?_
    refine vcS_new rfl rfl (ox_allocZ D_69 (zero_69 D_69)) (.inl (by omega)) ?_
    refine vcS_new rfl rfl (ox_allocZ (cs := encs (Vector.replicate 32 (0 : UInt8)).toList) D_24 rfl) (.inl (by omega)) ?_
    refine vcS_sto rfl rfl (ox_store (pl rfl) (pl rfl) D_69 (hp_sk (by omega) (hp_eq _ _ _ _)) (cellsOf_Record _) (Record.cells_length _) (Record.le _ rfl) (Record.cells_known _) (wr_all (by simp only [Record.cells_length]))) (.inl (by omega)) ?_
    refine vcS_val rfl rfl (ox_assign (pl rfl)) ?_
    refine vcS_sto rfl rfl (ox_store (pl rfl) (pl rfl) D_24 (hp_sk (by omega) (hp_eq _ _ _ _)) rfl (encs_vec_length _) (le_vec _ rfl) (encs_known _) (wr_all (by simp only [encs_vec_length]))) (.inl (by omega)) ?_
    refine vcS_val rfl rfl (ox_assign (pl rfl)) ?_
    refine vcS_nil ?_
    refine IW.seq ?_
    refine IW.seq ?_
    refine IW.reg hE ?_
    refine vcS_val rfl rfl (ox_move (pl rfl)) ?_
    refine vcS_val rfl rfl (ox_bin (pl rfl) (pl rfl) (bo_i64_neq _ _)) ?_
    refine vcS_nil ?_
    refine IW.cond rfl (fun hc1 => ?_) (fun hc1 => ?_)
    · have he : (rdV c b).e ≠ 0 := fun e => bne_iff_ne.1 hc1 (congrArg Int.ofNat e)
      refine IW.seq ?_
      refine IW.reg hE ?_
      refine vcS_val rfl rfl (ox_buildZ D_69 (zero_69 D_69) rfl rfl fill_nil) ?_
      refine vcS_val rfl rfl (ox_buildA0 (cs := encs (Vector.replicate 32 (0 : UInt8)).toList) D_24 rfl D_5 rfl) ?_
      refine vcS_val rfl rfl (ox_move (pl rfl)) ?_
      refine vcS_sto rfl rfl (ox_store (pl rfl) (pl rfl) D_69 (hp_sk (by omega) (hp_sk (by omega) (hp_sk (by omega) (hp_sk (by omega) (hp_sk (by omega) (hp_eq _ _ _ _)))))) (cellsOf_Record _) (Record.cells_length _) (Record.le _ rfl) (Record.cells_known _) (wr_all (by simp only [Record.cells_length]))) (.inl (by omega)) ?_
      refine vcS_val rfl rfl (ox_assign (pl rfl)) ?_
      refine vcS_sto rfl rfl (ox_store (pl rfl) (pl rfl) D_24 (hp_sk (by omega) (hp_sk (by omega) (hp_sk (by omega) (hp_sk (by omega) (hp_sk (by omega) (hp_eq _ _ _ _)))))) rfl (encs_vec_length _) (le_vec _ rfl) (encs_known _) (wr_all (by simp only [encs_vec_length]))) (.inl (by omega)) ?_
      refine vcS_val rfl rfl (ox_assign (pl rfl)) ?_
      refine vcS_nil ?_
      refine IW.ret ?_
      rw [show rdR c b = ⟨0, none, 0, z32, (rdV c b).e⟩ from if_neg he]; exact RetP.rd0 (.inr rfl) (ires_l4 (ires_cell rfl D_69 (hp_sk (by omega) (hp_eq _ _ _ _)) (rd_69 (⟨0, ⟨none, 0, 0⟩⟩ : Record) rfl rfl)) (ires_tmp rfl) (ires_cell rfl D_24 (hp_eq _ _ _ _) (rd_all rfl (encs_vec_length z32))) (ires_tmp rfl)) rfl
    · exact nomatch (rdV_data (Int.ofNat.inj (bne_eq_false_iff_eq.1 hc1))).symm.trans hda
  · refine IW.reg hE ?_
    refine vcS_val rfl rfl (ox_load (pl rfl) D_24 (hp_sk (by omega) (hp_sk (by omega) (hp_eq _ _ _ _))) (rd_all rfl (encs_vec_length _))) ?_
    refine vcS_val rfl rfl (ox_move (pl rfl)) ?_
    refine vcS_ups rfl rfl (ox_fn rfl rfl (F77_some (rdC_keep hfree hB (by exact ⟨by omega, ⟨by omega, ⟨by omega, trivial⟩⟩⟩)) hle hda)) rfl ⟨.inl (by omega), trivial⟩ ?_
    refine vcS_val rfl rfl (ox_move (pl rfl)) ?_
    refine vcS_val rfl rfl (ox_extract (pl rfl) rfl) ?_
    refine vcS_val rfl rfl (ox_extract (pl rfl) rfl) ?_
    refine vcS_val rfl rfl (ox_extract (pl rfl) rfl) ?_
    refine vcS_val rfl rfl (ox_extract (pl rfl) rfl) ?_
    refine vcS_new rfl rfl (ox_allocZ D_69 (zero_69 D_69)) (.inl (by omega)) ?_
    refine vcS_new rfl rfl (ox_allocZ (cs := encs (Vector.replicate 32 (0 : UInt8)).toList) D_24 rfl) (.inl (by omega)) ?_
    refine vcS_sto rfl rfl (ox_store (pl rfl) (pl rfl) D_69 (hp_sk (by omega) (hp_eq _ _ _ _)) (cellsOf_Record _) (Record.cells_length _) (Record.le _ rfl) (Record.cells_known _) (wr_all (by simp only [Record.cells_length]))) (.inl (by omega)) ?_
    refine vcS_val rfl rfl (ox_assign (pl rfl)) ?_
    refine vcS_sto rfl rfl (ox_store (pl rfl) (pl rfl) D_24 (hp_sk (by omega) (hp_eq _ _ _ _)) rfl (encs_vec_length _) (le_vec _ rfl) (encs_known _) (wr_all (by simp only [encs_vec_length]))) (.inl (by omega)) ?_
    refine vcS_val rfl rfl (ox_assign (pl rfl)) ?_
    refine vcS_nil ?_
    refine IW.seq ?_
    refine IW.seq ?_
    refine IW.reg hE ?_
    refine vcS_val rfl rfl (ox_move (pl rfl)) ?_
    refine vcS_val rfl rfl (ox_bin (pl rfl) (pl rfl) (bo_i64_neq _ _)) ?_
    refine vcS_nil ?_
    refine IW.cond rfl (fun hc2 => ?_) (fun hc2 => ?_)
    · have he : (rdV c b).e ≠ 0 := fun e => bne_iff_ne.1 hc2 (congrArg Int.ofNat e)
      refine IW.seq ?_
      refine IW.reg hE ?_
      refine vcS_val rfl rfl (ox_buildZ D_69 (zero_69 D_69) rfl rfl fill_nil) ?_
      refine vcS_val rfl rfl (ox_buildA0 (cs := encs (Vector.replicate 32 (0 : UInt8)).toList) D_24 rfl D_5 rfl) ?_
      refine vcS_val rfl rfl (ox_move (pl rfl)) ?_
      refine vcS_sto rfl rfl (ox_store (pl rfl) (pl rfl) D_69 (hp_sk (by omega) (hp_sk (by omega) (hp_sk (by omega) (hp_sk (by omega) (hp_sk (by omega) (hp_sk (by omega) (hp_eq _ _ _ _))))))) (cellsOf_Record _) (Record.cells_length _) (Record.le _ rfl) (Record.cells_known _) (wr_all (by simp only [Record.cells_length]))) (.inl (by omega)) ?_
      refine vcS_val rfl rfl (ox_assign (pl rfl)) ?_
      refine vcS_sto rfl rfl (ox_store (pl rfl) (pl rfl) D_24 (hp_sk (by omega) (hp_sk (by omega) (hp_sk (by omega) (hp_sk (by omega) (hp_sk (by omega) (hp_sk (by omega) (hp_eq _ _ _ _))))))) rfl (encs_vec_length _) (le_vec _ rfl) (encs_known _) (wr_all (by simp only [encs_vec_length]))) (.inl (by omega)) ?_
      refine vcS_val rfl rfl (ox_assign (pl rfl)) ?_
      refine vcS_nil ?_
      refine IW.ret ?_
      rw [show rdR c b = ⟨0, none, 0, z32, (rdV c b).e⟩ from if_neg he]; exact RetP.rd0 (.inr rfl) (ires_l4 (ires_cell rfl D_69 (hp_sk (by omega) (hp_eq _ _ _ _)) (rd_69 (⟨0, ⟨none, 0, 0⟩⟩ : Record) rfl rfl)) (ires_tmp rfl) (ires_cell rfl D_24 (hp_eq _ _ _ _) (rd_all rfl (encs_vec_length z32))) (ires_tmp rfl)) rfl
    · have he : (rdV c b).e = 0 := Int.ofNat.inj (bne_eq_false_iff_eq.1 hc2)
      refine IW.skip ?_
      refine IW.seq ?_
      refine IW.drw hE mixed [[],[],[],[0],[0,1,3],[0,1,2,3,4],[0,1,2,3,4,5]] (by kernel_rfl) (vcE_start ?_)
      refine vcE_val rfl rfl rfl rfl (ox_load (pl rfl) D_69 (hp_sk (by omega) (hp_eq _ _ _ _)) (rd_69 _ rfl rfl)) rfl (si_load (pl rfl)) (lt1 (by omega)) (trivial) ?_
      refine vcE_bl rfl rfl (fun _ => ox_move (pl rfl)) rfl rfl ?_
      refine vcE_val rfl rfl rfl rfl (ox_load (pl rfl) D_24 (hp_eq _ _ _ _) (rd_all rfl (encs_vec_length _))) rfl (si_load (pl rfl)) (lt1 (by omega)) (trivial) ?_
      refine vcE_sto rfl rfl rfl rfl (ox_store (pl rfl) (pl rfl) D_69 (hp_sk (by omega) (hp_sk (by omega) (hp_sk (by omega) (hp_sk (by omega) (hp_sk (by omega) (hp_sk (by omega) (hp_eq _ _ _ _))))))) (cellsOf_Record _) (Record.cells_length _) (Record.le _ rfl) (Record.cells_known _) (wr_all (by simp only [Record.cells_length]))) rfl (si_store (pl rfl)) (is_some (hp_sk (by omega) (hp_sk (by omega) (hp_sk (by omega) (hp_sk (by omega) (hp_sk (by omega) (hp_sk (by omega) (hp_eq _ _ _ _)))))))) (by omega) (.inl (by omega)) (trivial) (⟨cn1 (n0 := 0) (by omega), ⟨trivial, trivial⟩⟩) ?_
      refine vcE_bl rfl rfl (fun _ => ox_assign (pl rfl)) rfl rfl ?_
      refine vcE_sto rfl rfl rfl rfl (ox_store (pl rfl) (pl rfl) D_24 (hp_sk (by omega) (hp_sk (by omega) (hp_sk (by omega) (hp_sk (by omega) (hp_sk (by omega) (hp_sk (by omega) (hp_eq _ _ _ _))))))) rfl (encs_vec_length _) (le_vec _ rfl) (encs_known _) (wr_all (by simp only [encs_vec_length]))) rfl (si_store (pl rfl)) (is_some (hp_sk (by omega) (hp_sk (by omega) (hp_sk (by omega) (hp_sk (by omega) (hp_sk (by omega) (hp_sk (by omega) (hp_eq _ _ _ _)))))))) (by omega) (.inl (by omega)) (⟨trivial, trivial⟩) (⟨trivial, ⟨trivial, ⟨trivial, trivial⟩⟩⟩) ?_
      refine vcE_bl rfl rfl (fun _ => ox_assign (pl rfl)) rfl rfl ?_
      refine vcE_nil ?_
      refine IW.ret ?_
      rw [show rdR c b = rdV c b from if_pos he]; exact RetP.rd1 (.inr rfl) ((ires_l4 (ires_cell rfl D_69 (hp_sk (by omega) (hp_eq _ _ _ _)) (rd_69 (⟨(rdV c b).kind, ⟨some ⟨n + 1 + 1 + 1, 0, none⟩, l.length, l.length⟩⟩ : Record) rfl rfl)) (ires_tmp rfl) (ires_cell rfl D_24 (hp_eq _ _ _ _) (rd_all rfl (encs_vec_length (rdV c b).next))) (ires_tmp rfl)).trans (by rw [he]; rfl)) hda (by omega) ((hp_sk (by omega) (hp_sk (by omega) (hp_sk (by omega) (hp_sk (by omega) (hp_sk (by omega) (hp_sk (by omega) (hp_eq _ _ _ _))))))))
theorem F50_no {H : IHeap} {n : Nat} {c : Dig} {y : Value} {b : List UInt8} (hb : rdC H y = some b) (h : b.length ≤ 2 ^ 39) (he : (rdV c b).e ≠ 0) : F50 [enc c, y] H n = some ⟨.tuple #[enc (⟨0, ⟨none, 0, 0⟩⟩ : Record), .int .i64 0, enc z32, .int .i64 ((rdV c b).e : Int)], [], n⟩ := by
  rw [F50_ev hb h, rdR, if_neg he]; rfl
end Go.Proofs.Ytdnnojblneccdaa
/-
  A record's bytes, written and read.
-/
namespace Go.Proofs.Ytdnnojblneccdaa
set_option linter.unusedSimpArgs false
set_option linter.unusedVariables false
open Go
def numCheck (i : Nat) : Bool :=
  let w := UInt64.ofNat i
  let h := hdV w
  let s := sizeV w
  Nat.beq (kN h) s && (Nat.ble s 2 && Nat.beq (nv (h &&& shr8 255 s).toUInt64 (tlV w) (s - 1)).toNat i)
def allB (f : Nat → Bool) : Nat → Bool
  | 0 => true
  | n + 1 => f n && allB f n
theorem allB_at {f : Nat → Bool} : ∀ {n i : Nat}, allB f n = true → i < n → f i = true
  | n + 1, i, h, hi => by
    simp only [allB, Bool.and_eq_true] at h
    by_cases e : i = n
    · subst e; exact h.1
    · exact allB_at h.2 (by omega)
theorem num_small : allB numCheck 8193 = true := by decide +kernel
theorem num_at {w : UInt64} (h : w.toNat ≤ 8192) : kN (hdV w) = sizeV w ∧ sizeV w ≤ 2 ∧ nv (hdV w &&& shr8 255 (sizeV w)).toUInt64 (tlV w) (sizeV w - 1) = w := by
  have h1 := allB_at num_small (i := w.toNat) (by omega)
  simp only [numCheck, UInt64.ofNat_toNat, Bool.and_eq_true, Nat.ble_eq] at h1
  exact ⟨Nat.eq_of_beq_eq_true h1.1, h1.2.1, UInt64.toNat_inj.1 (Nat.eq_of_beq_eq_true h1.2.2)⟩
def hCheck (i : Nat) : Bool :=
  let h := UInt8.ofNat i
  (!(Nat.beq (kN h) 1) || Nat.beq (h &&& shr8 255 1).toNat i) && (!(Nat.beq (kN h) 2) || Nat.beq (128 ||| (h &&& shr8 255 2)).toNat i)
theorem h_small : allB hCheck 256 = true := by decide +kernel
theorem h_at (h : UInt8) : (kN h = 1 → h &&& shr8 255 1 = h) ∧ (kN h = 2 → 128 ||| (h &&& shr8 255 2) = h) := by
  have h1 := allB_at h_small (i := h.toNat) h.toNat_lt
  simp only [hCheck, UInt8.ofNat_toNat, Bool.and_eq_true, Bool.or_eq_true, Bool.not_eq_true'] at h1
  refine ⟨fun e => ?_, fun e => ?_⟩
  · rcases h1.1 with h2 | h2
    · rw [e] at h2; cases h2
    · exact UInt8.toNat_inj.1 (Nat.eq_of_beq_eq_true h2)
  · rcases h1.2 with h2 | h2
    · rw [e] at h2; cases h2
    · exact UInt8.toNat_inj.1 (Nat.eq_of_beq_eq_true h2)
theorem and255 (h : UInt8) : (h &&& shr8 255 2).toNat < 64 := by
  have : (shr8 255 2).toNat = 63 := by decide
  rw [UInt8.toNat_and, this]
  exact Nat.lt_of_le_of_lt Nat.and_le_right (by decide)
theorem nv2 {a : UInt8} (c : UInt8) (ha : a.toNat < 64) : (nv a.toUInt64 [c] 1).toNat = a.toNat * 256 + c.toNat := by
  have hc := c.toNat_lt
  show (shl64 a.toUInt64 8 ||| c.toUInt64).toNat = _
  rw [UInt64.toNat_or]
  have e1 : (shl64 a.toUInt64 8).toNat = a.toNat * 256 := by
    rw [shl64, UInt64.toNat_ofNat']
    show a.toUInt64.toNat * 256 % 2 ^ 64 = _
    rw [UInt8.toNat_toUInt64]; omega
  rw [e1, UInt8.toNat_toUInt64]
  have := Nat.shiftLeft_add_eq_or_of_lt (i := 8) hc a.toNat
  rw [Nat.shiftLeft_eq] at this
  rw [show (2 : Nat) ^ 8 = 256 from rfl] at this
  exact this.symm
theorem u8_64_inj {a b : UInt8} (h : a.toUInt64 = b.toUInt64) : a = b := by
  have := congrArg UInt64.toNat h
  rw [UInt8.toNat_toUInt64, UInt8.toNat_toUInt64] at this
  exact UInt8.toNat_inj.1 this
/-- a number's bytes are no other's -/
theorem num_back {h : UInt8} {rs : List UInt8} {x : UInt64} (hr : rs.length = kN h - 1) (hx : x = nv (h &&& shr8 255 (kN h)).toUInt64 rs rs.length) (hs : sizeV x = kN h) (hl : x.toNat ≤ 8192) : numL x = h :: rs := by
  obtain ⟨n1, n2, n3⟩ := num_at hl
  have hk := kN_rng h
  have ht := tlV_length x
  rw [hs] at n1 n2 n3 ht
  unfold numL
  obtain hk1 | hk2 : kN h = 1 ∨ kN h = 2 := by omega
  · rw [hk1] at hr hx ht n1 n3
    have e1 : rs = [] := List.length_eq_zero_iff.1 hr
    have e2 : tlV x = [] := List.length_eq_zero_iff.1 ht
    subst e1
    have e3 : hdV x &&& shr8 255 1 = h &&& shr8 255 1 := u8_64_inj (n3.trans hx)
    rw [(h_at _).1 n1, (h_at _).1 hk1] at e3
    rw [e2, e3]
  · rw [hk2] at hr hx ht n1 n3
    match rs, hr with
    | [c], _ =>
      generalize hT : tlV x = T at ht n3
      match T, ht with
      | [c'], _ =>
        have e3 := congrArg UInt64.toNat (n3.trans hx)
        simp only [List.length_cons, List.length_nil] at e3
        rw [nv2 _ (and255 _), nv2 _ (and255 _)] at e3
        have hc := c.toNat_lt
        have hc' := c'.toNat_lt
        have e4 : hdV x &&& shr8 255 2 = h &&& shr8 255 2 := UInt8.toNat_inj.1 (by omega)
        have e5 : c' = c := UInt8.toNat_inj.1 (by omega)
        have e6 := (h_at (hdV x)).2 n1
        rw [e4, (h_at h).2 hk2] at e6
        rw [← e6, e5]
/-! readers that find what they look for -/
theorem tk_at {l x y : List UInt8} {s : RS} (he : s.e = 0) (hle : s.at_ ≤ l.length) (h : l.drop s.at_ = x ++ y) : tkOk l s x.length = true ∧ tkL l s x.length = x ∧ tkS l s x.length = ⟨s.at_ + x.length, 0⟩ ∧ l.drop (s.at_ + x.length) = y := by
  have hlen := congrArg List.length h
  simp only [List.length_drop, List.length_append] at hlen
  have hok : tkOk l s x.length = true := by simp only [tkOk, decide_eq_true_eq]; omega
  obtain ⟨t1, t2, _, t4⟩ := tk_ok (ib := 0) he (show s.at_ + x.length ≤ l.length by omega)
  refine ⟨hok, ?_, t2, ?_⟩
  · rw [t4, h, List.take_left]
  · rw [← List.drop_drop, h, List.drop_left]
theorem num_read {l rest : List UInt8} {s : RS} {w : UInt64} (he : s.e = 0) (hle : s.at_ ≤ l.length) (hw : w.toNat ≤ 8192) (h : l.drop s.at_ = numL w ++ rest) : numV l s = w ∧ numS l s = ⟨s.at_ + sizeV w, 0⟩ ∧ l.drop (s.at_ + sizeV w) = rest := by
  obtain ⟨n1, n2, n3⟩ := num_at hw
  have hsz := sizeV_rng w
  have h' : l.drop s.at_ = [hdV w] ++ (tlV w ++ rest) := h
  obtain ⟨a1, a2, a3, a4⟩ := tk_at he hle h'
  have a1 : tkOk l s 1 = true := a1
  have a2 : tkL l s 1 = [hdV w] := a2
  have e1 : hd1 l s = hdV w := by unfold hd1; rw [a2]; rfl
  have e2 : st1 l s = ⟨s.at_ + 1, 0⟩ := a3
  have hle2 : s.at_ + 1 ≤ l.length := (ok_st a1).2.1
  obtain ⟨b1, b2, b3, b4⟩ := tk_at (s := ⟨s.at_ + 1, 0⟩) rfl hle2 a4
  rw [tlV_length] at b1 b2 b3 b4
  have e3 : kN (hd1 l s) = sizeV w := by rw [e1]; exact n1
  have e4 : rs1 l s = tlV w := by unfold rs1; rw [e2, e3]; exact b2
  have e5 : ok2 l s = true := by unfold ok2; rw [e2, e3]; exact b1
  have e6 : xV l s = w := by unfold xV; rw [e4, e3, e1, tlV_length]; exact n3
  have e7 : sizeV (xV l s) = kN (hd1 l s) := by rw [e6, e3]
  have hok : numOk l s = true := by unfold numOk; rw [a1, e5, decide_eq_true e7]; rfl
  refine ⟨by unfold numV; rw [if_pos hok, e6], ?_, ?_⟩
  · unfold numS
    rw [if_pos a1, if_pos e5, if_pos e7, e2, e3, b3]
    rw [RS.mk.injEq]; exact ⟨by show s.at_ + 1 + (sizeV w - 1) = _; omega, rfl⟩
  · have : s.at_ + 1 + (sizeV w - 1) = s.at_ + sizeV w := by omega
    rw [← this]; exact b4
theorem word1 (k : UInt8) : (wordV [k]).toUInt8 = k := by
  show ((0 : UInt64) ||| shl64 k.toUInt64 (8 * 0)).toUInt8 = k
  have : shl64 k.toUInt64 (8 * 0) = k.toUInt64 := by
    apply UInt64.toNat_inj.1
    rw [shl64, UInt64.toNat_ofNat']
    show k.toUInt64.toNat * 1 % 2 ^ 64 = _
    have := k.toUInt64.toNat_lt
    omega
  rw [this, UInt64.zero_or]
  apply UInt8.toNat_inj.1
  rw [UInt64.toNat_toUInt8, UInt8.toNat_toUInt64]
  exact Nat.mod_eq_of_lt k.toNat_lt
theorem ofNat_small {i : Nat} (h : i ≤ 8192) : (UInt64.ofNat i).toNat = i := by rw [UInt64.toNat_ofNat', Nat.mod_eq_of_lt (by omega)]
/-- a record's bytes, another eight and more, as they are read -/
theorem rec_read {k : UInt8} {d m t : List UInt8} (hd : d.length ≤ 8192) (hm : m.length = 8) : (q1 (bodyL k d ++ m ++ t)).e = 0 ∧ kd (bodyL k d ++ m ++ t) = k ∧ (q2 (bodyL k d ++ m ++ t)).e = 0 ∧ nn (bodyL k d ++ m ++ t) = UInt64.ofNat d.length ∧ dl (bodyL k d ++ m ++ t) = d ∧ mk8 (bodyL k d ++ m ++ t) = m ∧ q4 (bodyL k d ++ m ++ t) = ⟨(bodyL k d).length + 8, 0⟩ := by
  generalize hb : bodyL k d ++ m ++ t = b
  have hw := ofNat_small hd
  have h0 : b.drop 0 = [k] ++ (numL (UInt64.ofNat d.length) ++ (d ++ (m ++ t))) := by rw [← hb]; simp [bodyL, blkL]
  obtain ⟨a1, a2, a3, a4⟩ := tk_at (s := ⟨0, 0⟩) rfl (Nat.zero_le _) h0
  have a3 : q1 b = ⟨1, 0⟩ := a3
  have a2 : tkL b ⟨0, 0⟩ 1 = [k] := a2
  have a4 : b.drop 1 = numL (UInt64.ofNat d.length) ++ (d ++ (m ++ t)) := a4
  have hkd : kd b = k := by unfold kd; rw [a2]; exact word1 k
  have hl1 : 1 ≤ b.length := by have := q1_le b; rw [a3] at this; exact this
  obtain ⟨c1, c2, c3⟩ := num_read (s := ⟨1, 0⟩) rfl hl1 (by rw [hw]; exact hd) a4
  have hnn : nn b = UInt64.ofNat d.length := by unfold nn; rw [a3]; exact c1
  have hq2 : q2 b = ⟨1 + sizeV (UInt64.ofNat d.length), 0⟩ := by unfold q2; rw [a3]; exact c2
  have hl2 := q2_le b
  rw [hq2] at hl2
  obtain ⟨d1, d2, d3, d4⟩ := tk_at (s := ⟨1 + sizeV (UInt64.ofNat d.length), 0⟩) rfl hl2 c3
  have hdl : dl b = d := by unfold dl; rw [hq2, hnn, hw]; exact d2
  have hq3 : q3 b = ⟨1 + sizeV (UInt64.ofNat d.length) + d.length, 0⟩ := by unfold q3; rw [hq2, hnn, hw]; exact d3
  have hl3 := q3_le b
  rw [hq3] at hl3
  obtain ⟨e1, e2, e3, e4⟩ := tk_at (s := ⟨1 + sizeV (UInt64.ofNat d.length) + d.length, 0⟩) rfl hl3 d4
  rw [hm] at e1 e2 e3 e4
  refine ⟨by rw [a3], hkd, by rw [hq2], hnn, hdl, by unfold mk8; rw [hq3]; exact e2, ?_⟩
  unfold q4
  rw [hq3, e3, bodyL_length]
theorem rec_ok {c : Dig} {k : UInt8} {d t : List UInt8} (hk : k ≠ 0) (hd : d.length ≤ 8192) : rdV c (recL c k d ++ t) = ⟨k, some d, (recL c k d).length, nextV c k d, 0⟩ := by
  obtain ⟨h1, h2, h3, h4, h5, h6, h7⟩ := rec_read (k := k) (d := d) (m := (nextV c k d).toList.take 8) (t := t) hd (by simp)
  rw [show recL c k d ++ t = bodyL k d ++ (nextV c k d).toList.take 8 ++ t from rfl]
  rw [rdV_at ⟨by rw [h2]; exact fun h => hk h.2, by rw [h3]; simp, by rw [h4, UInt64.lt_iff_toNat_lt, ofNat_small hd]; have e : (8192 : UInt64).toNat = 8192 := rfl; omega, by rw [h7], by rw [h2, h5, h6]⟩, h2, h5, h7, recL_length]
/-- what is read, written again -/
theorem read_rec {c : Dig} {t : List UInt8} (h : (rdV c t).e = 0) : kd t ≠ 0 ∧ (dl t).length ≤ 8192 ∧ rdV c t = ⟨kd t, some (dl t), (recL c (kd t) (dl t)).length, nextV c (kd t) (dl t), 0⟩ ∧ ∃ rest, t = recL c (kd t) (dl t) ++ rest := by
  have hh := rdV_ok h
  obtain ⟨h1, h2, h3, h4, h5⟩ := hh
  have h2 : (q2 t).e = 0 := Decidable.not_not.1 h2
  have hnn : (nn t).toNat ≤ 8192 := by
    have h := UInt64.le_iff_toNat_le.1 (UInt64.not_lt.1 h3)
    have e : (8192 : UInt64).toNat = 8192 := rfl
    omega
  have o3 : tkOk t (q3 t) 8 = true := by
    by_cases ho : tkOk t (q3 t) 8 = true
    · exact ho
    · exact absurd h4 (tk_no_e (by simpa using ho))
  obtain ⟨p1, p2, p3⟩ := ok_st o3
  have o2 : tkOk t (q2 t) (nn t).toNat = true := by
    by_cases ho : tkOk t (q2 t) (nn t).toNat = true
    · exact ho
    · exact absurd p1 (tk_no_e (by simpa using ho))
  obtain ⟨r1, r2, r3⟩ := ok_st o2
  have o1 : tkOk t (q1 t) 1 = true := by
    by_cases ho : tkOk t (q1 t) 1 = true
    · exact ho
    · have ho : tkOk t (q1 t) 1 = false := by simpa using ho
      have : numS t (q1 t) = st1 t (q1 t) := by unfold numS; rw [ho]; rfl
      exact absurd h2 (by unfold q2; rw [this]; exact tk_no_e ho)
  obtain ⟨u1, u2, u3⟩ := ok_st o1
  have o0 : tkOk t ⟨0, 0⟩ 1 = true := by
    by_cases ho : tkOk t ⟨0, 0⟩ 1 = true
    · exact ho
    · exact absurd u1 (tk_no_e (by simpa using ho))
  obtain ⟨v1, v2, v3⟩ := ok_st o0
  have hq1 : q1 t = ⟨1, 0⟩ := v3
  have k2 : ok2 t (q1 t) = true := by
    by_cases ho : ok2 t (q1 t) = true
    · exact ho
    · have : numS t (q1 t) = ⟨(q1 t).at_, 5⟩ := by unfold numS; rw [if_pos o1, if_neg ho]
      exact absurd h2 (by unfold q2; rw [this]; simp)
  have k3 : sizeV (xV t (q1 t)) = kN (hd1 t (q1 t)) := by
    by_cases ho : sizeV (xV t (q1 t)) = kN (hd1 t (q1 t))
    · exact ho
    · have : numS t (q1 t) = ⟨(q1 t).at_, 4⟩ := by unfold numS; rw [if_pos o1, if_pos k2, if_neg ho]
      exact absurd h2 (by unfold q2; rw [this]; simp)
  have hok : numOk t (q1 t) = true := by unfold numOk; rw [o1, k2, decide_eq_true k3]; rfl
  have hnx : nn t = xV t (q1 t) := by unfold nn numV; rw [if_pos hok]
  have hS1 : st1 t (q1 t) = ⟨2, 0⟩ := by unfold st1; rw [u3, hq1]
  have hrl : (rs1 t (q1 t)).length = kN (hd1 t (q1 t)) - 1 := tkL_len k2
  have hnum : numL (nn t) = hd1 t (q1 t) :: rs1 t (q1 t) := num_back hrl hnx (by rw [hnx]; exact k3) hnn
  have hdlen : (dl t).length = (nn t).toNat := tkL_len o2
  have hkd : t.take 1 = [kd t] := by
    have e1 : tkL t ⟨0, 0⟩ 1 = t.take 1 := (tk_ok (ib := 0) rfl v2).2.2.2
    have e2 := tkL_len o0
    rw [e1] at e2
    unfold kd
    rw [e1]
    match t.take 1, e2 with
    | [a], _ => rw [word1]
  have hH : (t.drop 1).take 1 = [hd1 t (q1 t)] := by
    have e1 : tkL t (q1 t) 1 = (t.drop 1).take 1 := by rw [(tk_ok (ib := 0) u1 u2).2.2.2, hq1]
    have e2 := tkL_len o1
    unfold hd1
    rw [e1] at e2 ⊢
    match (t.drop 1).take 1, e2 with
    | [a], _ => rfl
  have hR : (t.drop 2).take (kN (hd1 t (q1 t)) - 1) = rs1 t (q1 t) := by
    have w := ok_st k2
    have e1 := (tk_ok (ib := 0) w.1 w.2.1).2.2.2
    unfold rs1
    rw [e1, hS1]
  have hq2 : q2 t = ⟨2 + (kN (hd1 t (q1 t)) - 1), 0⟩ := by
    unfold q2 numS
    rw [if_pos o1, if_pos k2, if_pos k3]
    have w := (ok_st k2).2.2
    rw [w, hS1]
  have hD : (t.drop (2 + (kN (hd1 t (q1 t)) - 1))).take (dl t).length = dl t := by
    have e1 := (tk_ok (ib := 0) r1 r2).2.2.2
    rw [hdlen]
    conv => rhs; unfold dl
    rw [e1, hq2]
  have hq3 : q3 t = ⟨2 + (kN (hd1 t (q1 t)) - 1) + (dl t).length, 0⟩ := by unfold q3; rw [r3, hq2, hdlen]
  have hM : (t.drop (2 + (kN (hd1 t (q1 t)) - 1) + (dl t).length)).take 8 = mk8 t := by
    have e1 := (tk_ok (ib := 0) p1 p2).2.2.2
    unfold mk8
    rw [e1, hq3]
  have hq4 : q4 t = ⟨2 + (kN (hd1 t (q1 t)) - 1) + (dl t).length + 8, 0⟩ := by unfold q4; rw [p3, hq3]
  have hsplit : ∀ (l : List UInt8) (i j : Nat), l.drop i = (l.drop i).take j ++ l.drop (i + j) := fun l i j => by rw [← List.drop_drop, List.take_append_drop]
  have ht : t = recL c (kd t) (dl t) ++ t.drop (2 + (kN (hd1 t (q1 t)) - 1) + (dl t).length + 8) := by
    have hbody : bodyL (kd t) (dl t) = [kd t] ++ (([hd1 t (q1 t)] ++ rs1 t (q1 t)) ++ dl t) := by
      have : UInt64.ofNat (dl t).length = nn t := by rw [hdlen, UInt64.ofNat_toNat]
      simp only [bodyL, blkL, this, hnum, List.append_assoc]; rfl
    have hsz : recL c (kd t) (dl t) = [kd t] ++ (([hd1 t (q1 t)] ++ rs1 t (q1 t)) ++ dl t) ++ mk8 t := by
      unfold recL; rw [hbody, h5]
    rw [hsz]
    have s0 := hsplit t 0 1
    have s1 := hsplit t 1 1
    have s2 := hsplit t 2 (kN (hd1 t (q1 t)) - 1)
    have s3 := hsplit t (2 + (kN (hd1 t (q1 t)) - 1)) (dl t).length
    have s4 := hsplit t (2 + (kN (hd1 t (q1 t)) - 1) + (dl t).length) 8
    rw [List.drop_zero, hkd] at s0
    rw [hH] at s1
    rw [hR] at s2
    rw [hD] at s3
    rw [hM] at s4
    conv => lhs; rw [s0, show 0 + 1 = 1 from rfl, s1, show 1 + 1 = 2 from rfl, s2, s3, s4]
    simp only [List.append_assoc]
  have hk0 : kd t ≠ 0 := fun e => h1 ⟨by rw [hq1], e⟩
  have hlen : (recL c (kd t) (dl t)).length = 2 + (kN (hd1 t (q1 t)) - 1) + (dl t).length + 8 := by
    have : UInt64.ofNat (dl t).length = nn t := by rw [hdlen, UInt64.ofNat_toNat]
    rw [recL_length, bodyL_length, this, hnx, k3]
    have := kN_rng (hd1 t (q1 t))
    omega
  refine ⟨hk0, by rw [hdlen]; exact hnn, ?_, _, ht⟩
  rw [rdV_at ⟨h1, by rw [h2]; simp, h3, h4, h5⟩, hq4, hlen]
end Go.Proofs.Ytdnnojblneccdaa
/-
  headwaterlaw08.lives, RecordNames.
-/
namespace Go.Proofs.Ytdnnojblneccdaa
set_option linter.unusedSimpArgs false
set_option linter.unusedVariables false
open Go
open Enc (enc)
set_option maxRecDepth 100000
theorem F50_noE {H : IHeap} {n e0 : Nat} {c : Dig} {y : Value} {b : List UInt8} (hb : rdC H y = some b) (h : b.length ≤ 2 ^ 39) (he : (rdV c b).e = e0) (h0 : e0 ≠ 0) : F50 [enc c, y] H n = some ⟨.tuple #[enc (⟨0, ⟨none, 0, 0⟩⟩ : Record), .int .i64 0, enc z32, .int .i64 (e0 : Int)], [], n⟩ := by
  subst he; exact F50_no hb h h0
theorem z0e : (rdV z32 [0]).e = 4 := by decide +kernel
theorem z1e : (rdV z32 []).e = 5 := by decide +kernel
noncomputable def F47 : FnI := fn0 (.bool true)
-- headwater/headwaterlaw08.lives [] -> ['Bool'], results [0]
theorem R47 : Ref Try.prog 47 F47 := by
  refine Ref.of_iw dok Try.func47 rfl (by kernel_rfl) fun args H n e hF => ?_
  obtain ⟨rfl, rfl⟩ := fn0_inv hF
  refine ⟨Nat.le_of_ble_eq_true rfl, ?_⟩
  simp only [idxL]
  have hE : Env Try.prog [(50, F50), (54, F54)] D K := env (fnsOk_cons R50 (fnsOk_cons R54 fnsOk_nil))
  refine IW.seq ?_
  refine IW.reg hE ?_
  refine vcS_val rfl rfl (ox_assign (pl rfl)) ?_
  refine vcS_nil ?_
  refine IW.seq ?_
  refine IW.reg hE ?_
  refine vcS_val rfl rfl (ox_buildA0 (cs := encs (Vector.replicate 32 (0 : UInt8)).toList) D_24 rfl D_5 rfl) ?_
  refine vcS_new rfl rfl (ox_bsl (cs := encs [(0 : UInt8)]) D_35 rfl D_5 (Nat.le_of_ble_eq_true rfl) rfl (by kernel_rfl)) (.inl (by omega)) ?_
  refine vcS_ups rfl rfl (ox_fn rfl rfl (F50_noE (b := [0]) (rdC_1all (hp_eq _ _ _ _) rfl) (by decide) z0e (by decide))) rfl trivial ?_
  refine vcS_val rfl rfl (ox_move (pl rfl)) ?_
  refine vcS_val rfl rfl (ox_extract (pl rfl) rfl) ?_
  refine vcS_val rfl rfl (ox_extract (pl rfl) rfl) ?_
  refine vcS_val rfl rfl (ox_extract (pl rfl) rfl) ?_
  refine vcS_val rfl rfl (ox_extract (pl rfl) rfl) ?_
  refine vcS_new rfl rfl (ox_allocZ D_69 (zero_69 D_69)) (.inl (by omega)) ?_
  refine vcS_new rfl rfl (ox_allocZ (cs := encs (Vector.replicate 32 (0 : UInt8)).toList) D_24 rfl) (.inl (by omega)) ?_
  refine vcS_sto rfl rfl (ox_store (pl rfl) (pl rfl) D_69 (hp_sk (by omega) (hp_eq _ _ _ _)) (cellsOf_Record _) (Record.cells_length _) (Record.le _ rfl) (Record.cells_known _) (wr_all (by simp only [Record.cells_length]))) (.inl (by omega)) ?_
  refine vcS_val rfl rfl (ox_assign (pl rfl)) ?_
  refine vcS_sto rfl rfl (ox_store (pl rfl) (pl rfl) D_24 (hp_sk (by omega) (hp_eq _ _ _ _)) rfl (encs_vec_length _) (le_vec _ rfl) (encs_known _) (wr_all (by simp only [encs_vec_length]))) (.inl (by omega)) ?_
  refine vcS_val rfl rfl (ox_assign (pl rfl)) ?_
  refine vcS_nil ?_
  refine IW.seq ?_
  refine IW.reg hE ?_
  refine vcS_val rfl rfl (ox_buildA0 (cs := encs (Vector.replicate 32 (0 : UInt8)).toList) D_24 rfl D_5 rfl) ?_
  refine vcS_ups rfl rfl (ox_fn rfl rfl (F50_noE (b := []) rfl (by decide) z1e (by decide))) rfl trivial ?_
  refine vcS_val rfl rfl (ox_move (pl rfl)) ?_
  refine vcS_val rfl rfl (ox_extract (pl rfl) rfl) ?_
  refine vcS_val rfl rfl (ox_extract (pl rfl) rfl) ?_
  refine vcS_val rfl rfl (ox_extract (pl rfl) rfl) ?_
  refine vcS_val rfl rfl (ox_extract (pl rfl) rfl) ?_
  refine vcS_new rfl rfl (ox_allocZ D_69 (zero_69 D_69)) (.inl (by omega)) ?_
  refine vcS_new rfl rfl (ox_allocZ (cs := encs (Vector.replicate 32 (0 : UInt8)).toList) D_24 rfl) (.inl (by omega)) ?_
  refine vcS_sto rfl rfl (ox_store (pl rfl) (pl rfl) D_69 (hp_sk (by omega) (hp_eq _ _ _ _)) (cellsOf_Record _) (Record.cells_length _) (Record.le _ rfl) (Record.cells_known _) (wr_all (by simp only [Record.cells_length]))) (.inl (by omega)) ?_
  refine vcS_val rfl rfl (ox_assign (pl rfl)) ?_
  refine vcS_sto rfl rfl (ox_store (pl rfl) (pl rfl) D_24 (hp_sk (by omega) (hp_eq _ _ _ _)) rfl (encs_vec_length _) (le_vec _ rfl) (encs_known _) (wr_all (by simp only [encs_vec_length]))) (.inl (by omega)) ?_
  refine vcS_val rfl rfl (ox_assign (pl rfl)) ?_
  refine vcS_nil ?_
  refine IW.seq ?_
  refine IW.reg hE ?_
  refine vcS_new rfl rfl (ox_bsl (cs := encs [(97 : UInt8), 98, 99]) D_35 rfl D_5 (Nat.le_of_ble_eq_true rfl) rfl (by kernel_rfl)) (.inl (by omega)) ?_
  refine vcS_ups rfl rfl (ox_cvSl (pl rfl) D_35 rfl D_5 rfl (hp_eq _ _ _ _)) rfl ⟨.inl (by omega), trivial⟩ ?_
  refine vcS_val rfl rfl (ox_buildZ D_69 (zero_69 D_69) rfl rfl (fill_cons (pl_mk rfl D_5) rfl rfl (Record.le _ rfl) (wr_69_0 _ (1 : UInt8)) (fill_cons (pl_mk rfl D_35) rfl rfl (Record.le _ rfl) (wr_69_1 _ ⟨some ⟨n + 1 + 1 + 1 + 1 + 1, 0, none⟩, 3, 3⟩) fill_nil))) ?_
  refine vcS_val rfl rfl (ox_fn rfl rfl (recF_ev (a := (⟨1, ⟨some ⟨n + 1 + 1 + 1 + 1 + 1, 0, none⟩, 3, 3⟩⟩ : Record)) (c := [97, 98, 99]) (rdC_1all (hp_eq _ _ _ _) rfl) (by decide) rfl)) ?_
  refine vcS_val rfl rfl (ox_bin (pl rfl) (pl rfl) ((bo_i64_eql _ _).trans (congrArg (fun b => some (Value.bool b)) (show _ = true by kernel_rfl)))) ?_
  refine vcS_val rfl rfl (ox_move (pl rfl)) ?_
  refine vcS_T rfl (wgT rfl rfl rfl) rfl (ox_move (pl rfl)) rfl trivial ?_
  refine vcS_T rfl (wgT rfl rfl rfl) rfl (ox_bin (pl rfl) (pl rfl) ((bo_i64_eql _ _).trans (congrArg (fun b => some (Value.bool b)) (show _ = true by kernel_rfl)))) rfl trivial ?_
  refine vcS_val rfl rfl (ox_and (pl rfl) (fun hc => pl rfl) (pl rfl)) ?_
  refine vcS_val rfl rfl (ox_move (pl rfl)) ?_
  refine vcS_T rfl (wgT rfl rfl rfl) rfl (ox_move (pl rfl)) rfl trivial ?_
  refine vcS_T rfl (wgT rfl rfl rfl) rfl (ox_bin (pl rfl) (pl rfl) ((bo_i64_eql _ _).trans (congrArg (fun b => some (Value.bool b)) (show _ = true by kernel_rfl)))) rfl trivial ?_
  refine vcS_val rfl rfl (ox_and (pl rfl) (fun hc => pl rfl) (pl rfl)) ?_
  refine vcS_val rfl rfl (ox_assign (pl rfl)) ?_
  refine vcS_nil ?_
  refine IW.ret ?_
  exact RetP.ret (.inr rfl) rfl rfl trivial (rfl)
def c3 : Dig := digV (wordL 3 8)
def c4 : Dig := digV (wordL 4 8)
theorem F49_okL {H : IHeap} {n L : Nat} {c : Dig} {a : Record} {d : List UInt8} (hd : rdC H (enc a.data) = some d) (hl : d.length ≤ 2 ^ 39) (h0 : chk a.kind d.length = 0) (hL : (recL c a.kind d).length = L) : F49 [enc c, enc a] H n = some ⟨.tuple #[.slice (some ⟨n, 0, some 1⟩) L L, enc (nextV c a.kind d), .int .i64 0], [(n, some (.cells (encs (recL c a.kind d)) false))], n + 1⟩ := by
  subst hL
  exact recFc_ev hd hl (if_pos h0)
theorem F49_no {H : IHeap} {n : Nat} {c : Dig} {a : Record} {d : List UInt8} (hd : rdC H (enc a.data) = some d) (hl : d.length ≤ 2 ^ 39) (h0 : chk a.kind d.length ≠ 0) : F49 [enc c, enc a] H n = some ⟨.tuple #[.slice none 0 0, enc (Vector.replicate 32 (0 : UInt8)), .int .i64 2], [], n⟩ :=
  recFc_ev hd hl (if_neg h0)
theorem eq_to {b : Bool} (h : b = true) : (some (Value.bool b)) = some (.bool true) := by rw [h]
set_option maxHeartbeats 1000000
-- headwater/headwaterlaw08.RecordNames [] -> ['Bool'], results [0]
end Go.Proofs.Ytdnnojblneccdaa
/-
  headwaterlaw08.RecordBound.
-/
namespace Go.Proofs.Ytdnnojblneccdaa
set_option linter.unusedSimpArgs false
set_option linter.unusedVariables false
open Go
open Enc (enc)
set_option maxRecDepth 100000
theorem chk_zero {k : UInt8} {len : Nat} (h : chk k len = 0) : k ≠ 0 ∧ len ≤ 8192 := by
  unfold chk at h
  split at h
  · cases h
  · rename_i h1
    simp only [Bool.or_eq_true, decide_eq_true_eq, not_or] at h1
    refine ⟨fun e => h1.1 (by rw [e]; decide), by omega⟩
theorem read_form {c : Dig} {t : List UInt8} (h : (rdV c t).e = 0) : rdV c t = ⟨kd t, some (dl t), (recL c (kd t) (dl t)).length, nextV c (kd t) (dl t), 0⟩ := (read_rec h).2.2.1
set_option maxHeartbeats 2000000
-- headwater/headwaterlaw08.RecordBound ['Record', 'Vector UInt8 32', 'Vector UInt8 32', 'Int', 'UInt8'] -> ['Bool'], results [10]
end Go.Proofs.Ytdnnojblneccdaa
/-
  Record by record.
-/
namespace Go.Proofs.Ytdnnojblneccdaa
set_option linter.unusedSimpArgs false
set_option linter.unusedVariables false
open Go
structure It where
  at_ : Nat
  c : Dig
def itN (c : Dig) (b : List UInt8) : Nat → It
  | 0 => ⟨0, c⟩
  | i + 1 => ⟨(itN c b i).at_ + (rdV (itN c b i).c (b.drop (itN c b i).at_)).size, (rdV (itN c b i).c (b.drop (itN c b i).at_)).next⟩
def rOf (c : Dig) (b : List UInt8) (i : Nat) : RR := rdV (itN c b i).c (b.drop (itN c b i).at_)
theorem itN_succ (c : Dig) (b : List UInt8) (i : Nat) : itN c b (i + 1) = ⟨(itN c b i).at_ + (rOf c b i).size, (rOf c b i).next⟩ := rfl
def cntR (c : Dig) (b : List UInt8) : Nat → Nat → Nat
  | 0, i => i
  | f + 1, i => if (rOf c b i).e = 0 then cntR c b f (i + 1) else i
def kOf (c : Dig) (b : List UInt8) : Nat := cntR c b (b.length + 1) 0
theorem cntR_spec (c : Dig) (b : List UInt8) : ∀ f i, i ≤ cntR c b f i ∧ (∀ j, i ≤ j → j < cntR c b f i → (rOf c b j).e = 0) ∧ (cntR c b f i < i + f → (rOf c b (cntR c b f i)).e ≠ 0)
  | 0, i => ⟨Nat.le_refl _, fun j h1 h2 => absurd h2 (by simp only [cntR]; omega), fun h => absurd h (by simp only [cntR]; omega)⟩
  | f + 1, i => by
    unfold cntR
    by_cases h : (rOf c b i).e = 0
    · rw [if_pos h]
      obtain ⟨h1, h2, h3⟩ := cntR_spec c b f (i + 1)
      refine ⟨by omega, fun j a1 a2 => ?_, fun a => h3 (by omega)⟩
      by_cases e : j = i
      · subst e; exact h
      · exact h2 j (by omega) a2
    · rw [if_neg h]
      exact ⟨Nat.le_refl _, fun j a1 a2 => by omega, fun _ => h⟩
theorem rdV_size (c : Dig) (b : List UInt8) : (rdV c b).size ≤ b.length := by
  by_cases h : (rdV c b).e = 0
  · rw [rdV_at (rdV_ok h)]; exact q4_le b
  · unfold rdV at h ⊢
    split
    · exact Nat.zero_le _
    · split
      · exact Nat.zero_le _
      · split
        · exact Nat.zero_le _
        · split
          · exact Nat.zero_le _
          · split
            · exact Nat.zero_le _
            · exact q4_le b
theorem itN_le (c : Dig) (b : List UInt8) : ∀ i, (itN c b i).at_ ≤ b.length
  | 0 => Nat.zero_le _
  | i + 1 => by
    have h1 := rdV_size (itN c b i).c (b.drop (itN c b i).at_)
    have h2 := itN_le c b i
    rw [List.length_drop] at h1
    show (itN c b i).at_ + _ ≤ _
    omega
theorem itN_ge (c : Dig) (b : List UInt8) : ∀ i, (∀ j, j < i → (rOf c b j).e = 0) → i ≤ (itN c b i).at_
  | 0, _ => Nat.le_refl _
  | i + 1, h => by
    have h1 := itN_ge c b i fun j hj => h j (by omega)
    have h2 := read_form (h i (Nat.lt_succ_self _))
    have h3 : (rOf c b i).size = (recL (itN c b i).c (kd (b.drop (itN c b i).at_)) (dl (b.drop (itN c b i).at_))).length := by unfold rOf; rw [h2]
    rw [itN_succ]
    show i + 1 ≤ (itN c b i).at_ + (rOf c b i).size
    rw [h3, recL_length]
    omega
theorem kOf_ok {c : Dig} {b : List UInt8} {j : Nat} (h : j < kOf c b) : (rOf c b j).e = 0 := (cntR_spec c b (b.length + 1) 0).2.1 j (Nat.zero_le _) h
theorem kOf_end (c : Dig) (b : List UInt8) : (rOf c b (kOf c b)).e ≠ 0 := by
  refine (cntR_spec c b (b.length + 1) 0).2.2 ?_
  have h1 := itN_ge c b (kOf c b) fun j hj => kOf_ok hj
  have h2 := itN_le c b (kOf c b)
  show kOf c b < _
  omega
theorem kOf_le (c : Dig) (b : List UInt8) : kOf c b ≤ b.length := by
  have h1 := itN_ge c b (kOf c b) fun j hj => kOf_ok hj
  have h2 := itN_le c b (kOf c b)
  omega
def kdN (c : Dig) (b : List UInt8) (i : Nat) : UInt8 := kd (b.drop (itN c b i).at_)
def dlN (c : Dig) (b : List UInt8) (i : Nat) : List UInt8 := dl (b.drop (itN c b i).at_)
theorem rOf_ok {c : Dig} {b : List UInt8} {i : Nat} (h : (rOf c b i).e = 0) : rOf c b i = ⟨kdN c b i, some (dlN c b i), (rOf c b i).size, (rOf c b i).next, 0⟩ := by
  have := read_form (c := (itN c b i).c) (t := b.drop (itN c b i).at_) h
  have e : rOf c b i = _ := this
  rw [e]; rfl
end Go.Proofs.Ytdnnojblneccdaa
/-
  record.records: the iterator.
-/
namespace Go.Proofs.Ytdnnojblneccdaa
set_option linter.unusedSimpArgs false
set_option linter.unusedVariables false
open Go
open Enc (enc)
set_option maxRecDepth 100000
theorem clo1_eq {ρ : Ren} {v v' : Value} (hc : clo1 v = true) (h : VR ρ v v') : v' = v := by
  cases h <;> first | rfl | (cases hc; done)
theorem clo_agg_eq {ρ : Ren} {c : List Value} {v' : Value} (hc : ∀ x ∈ c, clo1 x = true) (h : VR ρ (.agg c.toArray) v') : v' = .agg c.toArray := by
  cases h with
  | agg hs h =>
    congr 1
    apply Array.ext hs.symm
    intro i h1 h2
    exact clo1_eq (hc _ (by simp)) (h i _ _ (Array.getElem?_eq_getElem h2) (Array.getElem?_eq_getElem h1))
theorem rec_vr {ρ : Ren} {k : UInt8} {m len cap r κ : Nat} {v' : Value} (h : VR ρ (enc (⟨k, ⟨some ⟨m, 0, none⟩, len, cap⟩⟩ : Record)) v') (hm : ρ m = some (r, κ)) : ∀ (ρ' : Ren) id κ', ρ' id = some (r, κ') → VR ρ' (enc (⟨k, ⟨some ⟨id, 0, none⟩, len, cap⟩⟩ : Record)) v' := by
  intro ρ' id κ' hid
  have h : VR ρ (.agg #[.int .u8 (k.toNat : Int), .slice (some ⟨m, 0, none⟩) len cap]) v' := h
  show VR ρ' (.agg #[.int .u8 (k.toNat : Int), .slice (some ⟨id, 0, none⟩) len cap]) v'
  cases h with
  | @agg _ b hs hc =>
    have hb2 : b.size = 2 := hs.symm
    refine .agg (by rw [hb2]; rfl) fun i x y hx hy => ?_
    have hi : i < 2 := (Array.getElem?_eq_some_iff.1 hx).1
    match i, hi, hx, hy with
    | 0, _, hx, hy =>
      cases hx
      have := hc 0 _ _ rfl hy
      cases this
      exact .int _ _
    | 1, _, hx, hy =>
      cases hx
      have := hc 1 _ _ rfl hy
      cases this with
      | slice _ _ _ h' => rw [hm] at h'; cases h'; exact .slice _ _ _ hid
      | void a => exact .void a
def vS (c : Dig) (b : List UInt8) (i : Nat) : RStep := ⟨((itN c b i).at_ : Int), (itN c b i).c⟩
theorem vS_clo (v : RStep) : ∀ x ∈ v.cells, clo1 x = true := by
  intro x hx
  simp only [RStep.cells, List.mem_append, List.mem_singleton] at hx
  rcases hx with rfl | hx
  · rfl
  · simp only [encs, List.mem_map] at hx
    obtain ⟨_, _, rfl⟩ := hx; rfl
theorem u8_clo (l : List UInt8) : ∀ x ∈ encs l, clo1 x = true := by
  intro x hx
  simp only [encs, List.mem_map] at hx
  obtain ⟨_, _, rfl⟩ := hx; rfl
theorem vS_succ (c : Dig) (b : List UInt8) (i : Nat) : vS c b (i + 1) = ⟨((itN c b i).at_ : Int) + ((rOf c b i).size : Int), (rOf c b i).next⟩ := rfl
theorem F77_is {H : IHeap} {n sz e0 : Nat} {c nx : Dig} {k : UInt8} {y : Value} {b l : List UInt8} (hb : rdC H y = some b) (h : b.length ≤ 2 ^ 39) (hd : rdV c b = ⟨k, some l, sz, nx, e0⟩) : F77 [enc c, y] H n = some ⟨.tuple #[enc (⟨k, ⟨some ⟨n, 0, none⟩, l.length, l.length⟩⟩ : Record), .int .i64 (sz : Int), enc nx, .int .i64 (e0 : Int)], [(n, some (.cells (encs l) false))], n + 1⟩ := by
  have := F77_some (n := n) hb h (l := l) (by rw [hd])
  rw [hd] at this
  exact this
def rcV (c : Dig) (b : List UInt8) (i id : Nat) : Value := enc (⟨kdN c b i, ⟨some ⟨id, 0, none⟩, (dlN c b i).length, (dlN c b i).length⟩⟩ : Record)
set_option maxHeartbeats 2000000
theorem recs_gives {H : IHeap} {n b1 b2 : Nat} {ro1 ro2 : Bool} {c : Dig} {s : Sl} {b : List UInt8} (h1 : H b1 = some (.cells (encs c.toList) ro1)) (h2 : H b2 = some (.cells [enc s] ro2)) (hb : rdC H (enc s) = some b) (hp : SlP s) (hl : b.length ≤ 2 ^ 39) :
    GivesN Try.prog 102 #[pv b1, pv b2] (kOf c b) (fun i _ => enc (vS c b (i + 1))) (rcV c b) (fun i => encs (dlN c b i)) ([b1, b2] ++ blk (enc s)) H n := by
  intro w ρ lb hbel hh hsz hcaps l J hJs hY hJ0
  have hlb : ∃ y1 y2, lb = #[y1, y2] := by
    have hsz : lb.size = 2 := hsz
    exact ⟨lb[0], lb[1], by apply Array.ext (by simp [hsz]); intro i h1 h2; match i, (show i < 2 by omega) with | 0, _ => rfl | 1, _ => rfl⟩
  obtain ⟨y1, y2, rfl⟩ := hlb
  have v1 := hcaps 0 _ _ rfl rfl
  have v2 := hcaps 1 _ _ rfl rfl
  refine callsIn_of_wp (F := FW none) (n := 1) Try.func102 rfl trivial (wpIn_any (n := 0) ?_)
  have hE : Env Try.prog [(77, F77)] D K := env (fnsOk_cons R77 fnsOk_nil)
  obtain ⟨ks, hks⟩ : ∃ ks, ks = [b1, b2] ++ blk (enc s) := ⟨_, rfl⟩
  rw [← hks] at hY
  have hslen : s.len = b.length := by
    obtain ⟨a, cap, e⟩ := rdC_len hb
    have e : Value.slice s.a s.len s.cap = Value.slice a b.length cap := e
    simp only [Value.slice.injEq] at e
    exact e.2.1
  have q1 : restr ks H b1 = some (.cells (encs c.toList) ro1) := by simp [restr, hks, h1]
  have q2 : restr ks H b2 = some (.cells [enc s] ro2) := by simp [restr, hks, h2]
  have q3 : rdC (restr ks H) (enc s) = some b := rdC_restr hb (fun id hid => by rw [hks]; simp [hid])
  have hsubH : (restr ks H).le H := restr_le _ _
  have hdom : ∀ id o, restr ks H id = some o → id ∈ ks := by
    intro id o ho
    unfold restr at ho
    split at ho
    · assumption
    · cases ho
  generalize restr ks H = Hr at q1 q2 q3 hsubH hdom
  have hhW : HR ρ Hr w := hh.sub hsubH
  have hltn : ∀ id o, Hr id = some o → id < n := by
    intro id o ho
    obtain ⟨r, κ, e1, _⟩ := hhW.obj id o ho
    exact hbel.lt e1
  have hfree : ∀ id, n ≤ id → Hr id = none := by
    intro id hid
    cases ho : Hr id with
    | none => rfl
    | some o => have := hltn id o ho; omega
  have hb1 : b1 < n := hltn _ _ q1
  have hb2 : b2 < n := hltn _ _ q2
  have hbs : ∀ at_, at_ ≤ b.length → rdC Hr (enc (slS s 1 at_ s.len)) = some (b.drop at_) := by
    intro at_ hat
    have := rdC_slS (α := UInt8) (l := at_) (h := s.len) hp q3 (by omega) (Nat.le_refl _)
    rw [List.take_of_length_le (by omega)] at this
    exact this
  have st0 : St (fun id => n ≤ id) ρ w n (dense 38 (idxL 0 [yv l, pv b1, pv b2])) (Ytdnnojblneccdaa.hp Hr []) n ρ { tmps := #[yv l, y1, y2] ++ Array.replicate (38 - (#[yv l, y1, y2] : Array Value).size) undef, defers := [] } w := by
    refine St.refl (tr_enter (args := [yv l, pv b1, pv b2]) ⟨rfl, fun i x hx => ?_⟩ (Nat.le_of_ble_eq_true rfl)) hbel hhW rfl
    have hi : i < 3 := (List.getElem?_eq_some_iff.1 hx).1
    match i, hi, hx with
    | 0, _, hx => cases hx; exact ⟨_, rfl, .func _ rfl (by simp) rfl (by simp)⟩
    | 1, _, hx => cases hx; exact ⟨_, rfl, v1⟩
    | 2, _, hx => cases hx; exact ⟨_, rfl, v2⟩
  refine wpIn_seq (wp_regs hE (Q := fun t' H' n' => ∃ L', t' = dense 38 L' ∧ subL [(4, pv n), (0, yv l), (1, pv b1), (2, pv b2)] L' ∧ (Ytdnnojblneccdaa.hp Hr [(n, some (.cells (vS c b 0).cells false))]).le H' ∧ n' = n + 1) ?_ st0 ?_)
  · refine vcS_val rfl rfl (ox_load (pl rfl) D_24 q1 (rd_all rfl (encs_vec_length _))) ?_
    refine vcS_val rfl rfl (ox_buildZ D_107 (zero_107 D_107) rfl rfl (fill_cons (pl_mk rfl D_24) rfl (encs_vec_length _) (RStep.le _ rfl) (wr_107_1 _ _) fill_nil)) ?_
    refine vcS_new rfl rfl (ox_allocZ D_107 (zero_107 D_107)) (Nat.le_refl _) ?_
    refine vcS_sto rfl rfl (ox_store (pl rfl) (pl rfl) D_107 (hp_eq _ _ _ _) (cellsOf_RStep _) (RStep.cells_length _) (RStep.le _ rfl) (RStep.cells_known _) (wr_all (by simp only [RStep.cells_length]))) (Nat.le_refl _) ?_
    exact vcS_nil ⟨_, rfl, ⟨rfl, rfl, rfl, rfl, trivial⟩, leX_le (leX_cons rfl (leX_old (by simp) leX_refl)), rfl⟩
  rintro ρ1 t1 H1 n1 a1 w1 hs1 hd1 ⟨L1, rfl, hsub1, hle1, rfl⟩
  have st1 := hs1.want hsub1 hle1 (Nat.le_refl _)
  obtain ⟨B, κ, hB, hor⟩ := st1.heap.obj n _ (hp_eq _ _ _ _)
  have hBw : w.heap.size ≤ B := by
    rcases st1.step.new n B κ (hbel n (Nat.le_refl _)) hB with h | ⟨i, κ', h, hV⟩
    · exact h
    · rw [hbel i hV] at h; cases h
  have hj1 : J B 0 w1 := hJs B 0 w w1 none hBw (hJ0 B hBw) (hs1.grows0 hbel) (fun r e => by cases e)
  refine wpIn_block ?_
  refine wpR_loop (fun j a w' => ∃ (i : Nat) (ρi : Ren), i ≤ kOf c b ∧ j = kOf c b - i ∧ ρ.le ρi ∧ ρi n = some (B, κ) ∧ Ist ρi (dense 38 [(4, pv n), (0, yv l), (1, pv b1), (2, pv b2)]) (Ytdnnojblneccdaa.hp Hr [(n, some (.cells (vS c b i).cells false))]) (n + 1 + 3 * i) a w' ∧ J B i w') (kOf c b)
    ⟨0, ρ1, Nat.zero_le _, rfl, st1.step.le, hB, ⟨st1.tr, st1.below, st1.heap, hd1⟩, hj1⟩ ?_
  rintro j a2 w2 ⟨i, ρi, hi, rfl, hle, hBi, st, hj⟩
  obtain ⟨m, hm⟩ : ∃ m, m = n + 1 + 3 * i := ⟨_, rfl⟩
  rw [← hm] at st
  have hat := itN_le c b i
  have hdl : (b.drop (itN c b i).at_).length ≤ 2 ^ 39 := by rw [List.length_drop]; omega
  have hsize : (rOf c b i).size ≤ b.length := by
    have := rdV_size (itN c b i).c (b.drop (itN c b i).at_)
    rw [List.length_drop] at this
    have e : (rOf c b i).size = (rdV (itN c b i).c (b.drop (itN c b i).at_)).size := rfl
    omega
  have stb : St (fun id => id = n ∨ m ≤ id) ρi w2 m (dense 38 [(4, pv n), (0, yv l), (1, pv b1), (2, pv b2)]) (Ytdnnojblneccdaa.hp Hr [(n, some (.cells (vS c b i).cells false))]) m ρi a2 w2 := St.refl st.tr st.below st.heap st.dfr
  refine wpIn_block ?_
  refine wpIn_seq ?_
  by_cases hk : i < kOf c b
  · have hr := rOf_ok (kOf_ok hk)
    refine wp_drawn hE mixed (pres := [[],[0],[],[],[3],[2,3,4],[0,1,2,3,4,5],[0,1,2,3,4,5,6],[0,1,2,3,4,5,6,7],[0,1,2,3,4,5,6,7],[0,1,2,3,4,5,6,7],[0,1,2,3,4,5,6,7],[],[],[0,1,2,3,4,5,6,7,8,12,13],[0,1,2,3,4,5,6,7,8,9,12,13,14],[0,1,2,3,4,5,6,7,8,9,10,12,13,14,15],[0,1,2,3,4,5,6,7,8,9,10,11,12,13,14,15,16]])
      (Q := fun t' H' n' => ∃ L', t' = dense 38 L' ∧ subL [(5, pv (m + 1)), (7, pv (m + 1 + 1)), (6, .int .i64 ((rOf c b i).size : Int)), (8, .int .i64 0), (4, pv n), (0, yv l), (1, pv b1), (2, pv b2)] L' ∧
        (Ytdnnojblneccdaa.hp Hr [(m + 1 + 1, some (.cells (encs (rOf c b i).next.toList) false)), (m + 1, some (.cells (⟨kdN c b i, ⟨some ⟨m, 0, none⟩, (dlN c b i).length, (dlN c b i).length⟩⟩ : Record).cells false)), (m, some (.cells (encs (dlN c b i)) false)), (n, some (.cells (vS c b i).cells false))]).le H' ∧ n' = m + 1 + 1 + 1) (by kernel_rfl) stb (vcE_start ?_) ?_
    · refine vcE_bl rfl rfl (fun _ => ox_fieldAddr (pl rfl) D_107 rfl rfl D_24 (by decide)) rfl rfl ?_
      refine vcE_val rfl rfl rfl rfl (ox_load (pl rfl) D_24 (hp_eq _ _ _ _) (rd_107_1 _ rfl rfl)) rfl (si_load (pl rfl)) (lt1 (by omega)) (trivial) ?_
      refine vcE_val rfl rfl rfl rfl (ox_load (pl rfl) D_35 (hp_keep hfree q2 ⟨by omega, trivial⟩) rfl) rfl (si_load (pl rfl)) (lt1 (by omega)) (trivial) ?_
      refine vcE_bl rfl rfl (fun _ => ox_fieldAddr (pl rfl) D_107 rfl rfl D_3 (by decide)) rfl rfl ?_
      refine vcE_val rfl rfl rfl rfl (ox_load (pl rfl) D_3 (hp_eq _ _ _ _) (rd_107_0 _ rfl)) rfl (si_load (pl rfl)) (lt1 (by omega)) (trivial) ?_
      refine vcE_bl rfl rfl (fun _ => ox_slP (l := (itN c b i).at_) hp (pl rfl) D_35 rfl D_5 rfl (bndI (pl rfl) rfl) bndN (by omega) (Nat.le_refl _)) rfl rfl ?_
      refine vcE_callN rfl rfl rfl rfl (ox_fn rfl rfl (F77_is (rdC_keep hfree (hbs _ hat) ⟨by omega, trivial⟩) hdl hr)) rfl ltu0 ⟨⟨.inr (by omega), by omega, by omega⟩, trivial⟩ (by omega) (trivial) ?_
      refine vcE_bl rfl rfl (fun _ => ox_move (pl rfl)) rfl rfl ?_
      refine vcE_bl rfl rfl (fun _ => ox_extract (pl rfl) rfl) rfl rfl ?_
      refine vcE_bl rfl rfl (fun _ => ox_extract (pl rfl) rfl) rfl rfl ?_
      refine vcE_bl rfl rfl (fun _ => ox_extract (pl rfl) rfl) rfl rfl ?_
      refine vcE_bl rfl rfl (fun _ => ox_extract (pl rfl) rfl) rfl rfl ?_
      refine vcE_new rfl rfl (fun _ => ox_allocZ D_69 (zero_69 D_69)) rfl rfl (.inr (by omega)) ?_
      refine vcE_new rfl rfl (fun _ => ox_allocZ (cs := encs (Vector.replicate 32 (0 : UInt8)).toList) D_24 rfl) rfl rfl (.inr (by omega)) ?_
      refine vcE_sto rfl rfl rfl rfl (ox_store (pl rfl) (pl rfl) D_69 (hp_sk (by omega) (hp_eq _ _ _ _)) (cellsOf_Record _) (Record.cells_length _) (Record.le _ rfl) (Record.cells_known _) (wr_all (by simp only [Record.cells_length]))) rfl (si_store (pl rfl)) (is_some (hp_sk (by omega) (hp_eq _ _ _ _))) (by omega) (.inr (by omega)) (⟨trivial, ⟨trivial, ⟨trivial, trivial⟩⟩⟩) (⟨trivial, ⟨trivial, ⟨trivial, ⟨trivial, trivial⟩⟩⟩⟩) ?_
      refine vcE_bl rfl rfl (fun _ => ox_assign (pl rfl)) rfl rfl ?_
      refine vcE_sto rfl rfl rfl rfl (ox_store (pl rfl) (pl rfl) D_24 (hp_sk (by omega) (hp_eq _ _ _ _)) rfl (encs_vec_length _) (le_vec _ rfl) (encs_known _) (wr_all (by simp only [encs_vec_length]))) rfl (si_store (pl rfl)) (is_some (hp_sk (by omega) (hp_eq _ _ _ _))) (by omega) (.inr (by omega)) (⟨trivial, ⟨trivial, ⟨trivial, ⟨trivial, trivial⟩⟩⟩⟩) (⟨trivial, ⟨trivial, ⟨trivial, ⟨trivial, ⟨trivial, trivial⟩⟩⟩⟩⟩) ?_
      refine vcE_bl rfl rfl (fun _ => ox_assign (pl rfl)) rfl rfl ?_
      exact vcE_nil ⟨_, rfl, ⟨rfl, rfl, rfl, rfl, rfl, rfl, rfl, rfl, trivial⟩, leX_le (leX_cons rfl (leX_cons rfl (leX_old (by simp) (leX_old (by simp) (leX_cons rfl (leX_cons rfl leX_refl)))))), rfl⟩
    rintro ρ2 t2 H2 n2 a3 w3 hs2 hd2 ⟨L2, rfl, hsub2, hle2, rfl⟩
    have st2 := hs2.want hsub2 hle2 (Nat.le_refl _)
    refine wpIn_seq (wp_regs hE (Q := fun t' H' n' => ∃ L', t' = dense 38 L' ∧ subL [(5, pv (m + 1)), (8, .int .i64 0), (4, pv n), (0, yv l), (1, pv b1), (2, pv b2)] L' ∧
        (Ytdnnojblneccdaa.hp Hr [(n, some (.cells (vS c b (i + 1)).cells false)), (m + 1, some (.cells (⟨kdN c b i, ⟨some ⟨m, 0, none⟩, (dlN c b i).length, (dlN c b i).length⟩⟩ : Record).cells false)), (m, some (.cells (encs (dlN c b i)) false))]).le H' ∧ n' = m + 1 + 1 + 1) ?_ st2 ?_)
    · refine vcS_val rfl rfl (ox_fieldAddr (pl rfl) D_107 rfl rfl D_3 (by decide)) ?_
      refine vcS_val rfl rfl (ox_load (pl rfl) D_3 (hp_sk (by omega) (hp_sk (by omega) (hp_sk (by omega) (hp_eq _ _ _ _)))) (rd_107_0 _ rfl)) ?_
      refine vcS_val rfl rfl (ox_move (pl rfl)) ?_
      refine vcS_val rfl rfl (ox_bin (pl rfl) (pl rfl) (bo_i64_add (by show _ ≤ ((itN c b i).at_ : Int) + _ ∧ ((itN c b i).at_ : Int) + _ ≤ _; omega))) ?_
      refine vcS_val rfl rfl (ox_load (pl rfl) D_24 (hp_eq _ _ _ _) (rd_all rfl (encs_vec_length _))) ?_
      refine vcS_val rfl rfl (ox_buildZ D_107 (zero_107 D_107) rfl rfl (fill_cons (pl_mk rfl D_3) rfl rfl (RStep.le _ rfl) (wr_107_0 _ _) (fill_cons (pl_mk rfl D_24) rfl (encs_vec_length _) (RStep.le _ rfl) (wr_107_1 _ _) fill_nil))) ?_
      refine vcS_sto rfl rfl (ox_store (pl rfl) (pl rfl) D_107 (hp_sk (by omega) (hp_sk (by omega) (hp_sk (by omega) (hp_eq _ _ _ _)))) (cellsOf_RStep _) (RStep.cells_length _) (RStep.le _ rfl) (RStep.cells_known _) (wr_all (by simp only [RStep.cells_length]))) (.inl rfl) ?_
      exact vcS_nil ⟨_, rfl, ⟨rfl, rfl, rfl, rfl, rfl, rfl, trivial⟩, leX_le (leX_cons (by rw [vS_succ]; rfl) (leX_new (free_hp hfree (by omega) ⟨by omega, by omega, trivial⟩) (leX_cons rfl (leX_cons rfl (leX_old (by simp) leX_refl))))), rfl⟩
    rintro ρ3 t3 H3 n3 a4 w4 hs3 hd3 ⟨L3, rfl, hsub3, hle3, rfl⟩
    have st3 := hs3.want hsub3 hle3 (Nat.le_refl _)
    refine wpIn_seq (ops_head hE 6 [6, 7, 8] (by decide) rfl (Q := fun t' H' n' => ∃ L', t' = dense 38 L' ∧ subL [(34, rcV c b i m), (33, enc (vS c b (i + 1))), (32, yv l), (31, .bool false), (4, pv n), (0, yv l), (1, pv b1), (2, pv b2)] L' ∧
        Ytdnnojblneccdaa.hp Hr [(n, some (.cells (vS c b (i + 1)).cells false)), (m + 1, some (.cells (⟨kdN c b i, ⟨some ⟨m, 0, none⟩, (dlN c b i).length, (dlN c b i).length⟩⟩ : Record).cells false)), (m, some (.cells (encs (dlN c b i)) false))] = H' ∧ n' = m + 1 + 1 + 1) ?_ st3 ?_)
    · refine vcS_val rfl rfl (ox_move (pl rfl)) ?_
      refine vcS_val rfl rfl (ox_bin (pl rfl) (pl rfl) (bo_i64_neq _ _)) ?_
      refine vcS_val rfl rfl (ox_move (pl rfl)) ?_
      refine vcS_known (wgF rfl rfl rfl) rfl (vcS_val rfl rfl (ox_move (pl rfl)) ?_)
      refine vcS_known (wgF rfl rfl rfl) rfl (vcS_val rfl rfl (ox_load (pl rfl) D_107 (hp_eq _ _ _ _) (rd_107 _ rfl rfl)) ?_)
      refine vcS_known (wgF rfl rfl rfl) rfl (vcS_val rfl rfl (ox_load (pl rfl) D_69 (hp_sk (by omega) (hp_eq _ _ _ _)) (rd_69 _ rfl rfl)) ?_)
      exact vcS_nil ⟨_, rfl, ⟨rfl, rfl, rfl, rfl, rfl, rfl, rfl, rfl, trivial⟩, rfl, rfl⟩
    rintro ρ4 t4 H4 n4 a5 w5 hs4 hd4 ⟨L4, rfl, hsub4, rfl, rfl⟩
    have st4 := hs4.want hsub4 (fun _ _ h => h) (Nat.le_refl _)
    have hd4' : a5.defers = [] := by rw [hd4, hd3, hd2]; exact st.dfr
    have i4 : Ist ρ4 _ _ _ a5 w5 := ⟨st4.tr, st4.below, st4.heap, hd4'⟩
    have e33 : a5.eval (.tmp 33) = enc (vS c b (i + 1)) := clo_agg_eq (vS_clo _) (st4.evalv (x := .tmp 33) rfl)
    obtain ⟨r, κr, hr4, f2⟩ := st4.heap.obj m _ (hp_sk (by omega) (hp_sk (by omega) (hp_eq _ _ _ _)))
    have hyv := rec_vr (st4.evalv (x := .tmp 34) (v := rcV c b i m) rfl) hr4
    have hBn : ρ4 n = some (B, κ) := st4.step.le _ _ hBi
    have hrB : r ≠ B := by
      rintro rfl
      have := st4.heap.inj m n _ _ r κr κ (hp_sk (by omega) (hp_sk (by omega) (hp_eq _ _ _ _))) (hp_eq _ _ _ _) hr4 hBn
      omega
    have hrw : w2.heap.size ≤ r := by
      rcases st4.step.new m r κr (st.below m (Nat.le_refl _)) hr4 with h | ⟨i', κ', h, rfl | hV⟩
      · exact h
      · rw [hBi] at h; cases h; exact absurd rfl hrB
      · rw [st.below i' hV] at h; cases h
    obtain ⟨c', T, fz, f3, f4, f5, f6, f7⟩ := f2
    have hrow : RowOk w5 r (encs (dlN c b i)) := ⟨c', T, fz, f3, by omega, by rw [f4]; exact f6 rfl, fun x v hv => by
      obtain ⟨v', g1, g2⟩ := f7 x v hv
      rw [clo1_eq (u8_clo _ v (List.mem_of_getElem? hv)) g2] at g1
      exact g1⟩
    obtain ⟨B', κB, f8, f9⟩ := st4.heap.obj n _ (hp_eq _ _ _ _)
    rw [hBn] at f8; cases f8
    have hy := hY B i r w2 w5 (some B) hBw hk hj (st4.grows st.below hBi) (fun r e => by cases e; rfl) hrw hrB f9.lt hrow _ hyv
    have hall : ρ.le ρ4 := Ren.le_trans hle st4.step.le
    refine op_yield2 rfl (wanted_ok (b := true) st4.tr (wgF (b := false) rfl rfl rfl)) rfl rfl (i4.fn (x := .tmp 32) rfl) (by rw [e33]; exact hy) ?_
    rintro e w6 ⟨rfl, hj6, hkp, hBk⟩
    refine ⟨_, rfl, ?_⟩
    have i4' : Ist ρ4 (dense 38 [(34, rcV c b i m), (33, enc (vS c b (i + 1))), (32, yv l), (31, .bool false), (4, pv n), (0, yv l), (1, pv b1), (2, pv b2)]) (Ytdnnojblneccdaa.hp Hr [(n, some (.cells (vS c b (i + 1)).cells false))]) (m + 1 + 1 + 1) a5 w5 :=
      ⟨i4.tr, i4.below, i4.heap.sub (leX_le (leX_cons rfl (leX_new (free_hp hfree (by omega) trivial) (leX_new (free_hp hfree (by omega) trivial) leX_refl)))), i4.dfr⟩
    have i5 := (i4'.world (w' := w6) fun id o ho r' κ' hr' => by
      by_cases hid : id = n
      · subst hid
        rw [hBn] at hr'; cases hr'
        exact hBk
      · rw [hp_ne _ _ _ hid] at ho
        have hidk := hdom id o ho
        obtain ⟨r2, κ2, g1, _⟩ := hhW.obj id o ho
        have := hall _ _ g1
        rw [hr'] at this; cases this
        exact hkp id hidk _ _ g1).put (d := 35) (VR.bool (ρ := ρ4) true)
    refine ops_run hE [7, 8] _ rfl (Q := fun t' H' n' => ∃ L', t' = dense 38 L' ∧ subL [(37, .bool false), (4, pv n), (0, yv l), (1, pv b1), (2, pv b2)] L' ∧ Ytdnnojblneccdaa.hp Hr [(n, some (.cells (vS c b (i + 1)).cells false))] = H' ∧ n' = m + 1 + 1 + 1)
      (vcS_known (wgF rfl rfl rfl) rfl (vcS_val rfl rfl (ox_un (pl rfl) (uo_not _)) (vcS_val rfl rfl (ox_or (pl rfl) (pl rfl) (fun hc => pl rfl)) (vcS_nil ⟨_, rfl, ⟨rfl, rfl, rfl, rfl, rfl, trivial⟩, rfl, rfl⟩)))) i5 ?_
    rintro ρ5 t5 H5 n5 a6 w7 hle5 st6 g5 ⟨L5, rfl, hsub5, rfl, rfl⟩
    have st6 := st6.keep hsub5
    have hj7 := hJs B (i + 1) w6 w7 none hBw hj6 g5 (fun r e => by cases e)
    refine wpIn_cond_false (st6.bool (x := .tmp 37) rfl) (wpIn_skip ?_)
    refine ⟨kOf c b - (i + 1), by omega, i + 1, ρ5, by omega, rfl, Ren.le_trans hall hle5, hle5 _ _ hBn, ?_, hj7⟩
    have hkk := st6.keep (L' := [(4, pv n), (0, yv l), (1, pv b1), (2, pv b2)]) ⟨rfl, rfl, rfl, rfl, trivial⟩
    exact ⟨hkk.tr, hkk.below.mono (by omega), hkk.heap, hkk.dfr⟩
  · have hik : i = kOf c b := by omega
    have hne : (rOf c b i).e ≠ 0 := by rw [hik]; exact kOf_end c b
    refine wp_drawn hE mixed (pres := [[],[0],[],[],[3],[2,3,4],[0,1,2,3,4,5],[0,1,2,3,4,5,6],[0,1,2,3,4,5,6,7],[0,1,2,3,4,5,6,7],[0,1,2,3,4,5,6,7],[0,1,2,3,4,5,6,7],[],[],[0,1,2,3,4,5,6,7,8,12,13],[0,1,2,3,4,5,6,7,8,9,12,13,14],[0,1,2,3,4,5,6,7,8,9,10,12,13,14,15],[0,1,2,3,4,5,6,7,8,9,10,11,12,13,14,15,16]])
      (Q := fun t' H' n' => ∃ L' r5 r7, t' = dense 38 L' ∧ m ≤ r7 ∧ subL [(5, pv r5), (7, pv r7), (6, .int .i64 ((rOf c b i).size : Int)), (8, .int .i64 ((rOf c b i).e : Int)), (4, pv n), (0, yv l), (1, pv b1), (2, pv b2)] L' ∧
        (Ytdnnojblneccdaa.hp Hr [(r7, some (.cells (encs (rOf c b i).next.toList) false)), (n, some (.cells (vS c b i).cells false))]).le H' ∧ n' ≤ m + 1 + 1 + 1) (by kernel_rfl) stb (vcE_start ?_) ?_
    · refine vcE_bl rfl rfl (fun _ => ox_fieldAddr (pl rfl) D_107 rfl rfl D_24 (by decide)) rfl rfl ?_
      refine vcE_val rfl rfl rfl rfl (ox_load (pl rfl) D_24 (hp_eq _ _ _ _) (rd_107_1 _ rfl rfl)) rfl (si_load (pl rfl)) (lt1 (by omega)) (trivial) ?_
      refine vcE_val rfl rfl rfl rfl (ox_load (pl rfl) D_35 (hp_keep hfree q2 ⟨by omega, trivial⟩) rfl) rfl (si_load (pl rfl)) (lt1 (by omega)) (trivial) ?_
      refine vcE_bl rfl rfl (fun _ => ox_fieldAddr (pl rfl) D_107 rfl rfl D_3 (by decide)) rfl rfl ?_
      refine vcE_val rfl rfl rfl rfl (ox_load (pl rfl) D_3 (hp_eq _ _ _ _) (rd_107_0 _ rfl)) rfl (si_load (pl rfl)) (lt1 (by omega)) (trivial) ?_
      refine vcE_bl rfl rfl (fun _ => ox_slP (l := (itN c b i).at_) hp (pl rfl) D_35 rfl D_5 rfl (bndI (pl rfl) rfl) bndN (by omega) (Nat.le_refl _)) rfl rfl ?_
      rcases hda : (rOf c b i).data with _ | dd
      · refine vcE_call rfl rfl rfl rfl (ox_fn rfl rfl (F77_none (rdC_keep hfree (hbs _ hat) ⟨by omega, trivial⟩) hdl hda)) rfl ltu0 (trivial) ?_
        refine vcE_bl rfl rfl (fun _ => ox_move (pl rfl)) rfl rfl ?_
        refine vcE_bl rfl rfl (fun _ => ox_extract (pl rfl) rfl) rfl rfl ?_
        refine vcE_bl rfl rfl (fun _ => ox_extract (pl rfl) rfl) rfl rfl ?_
        refine vcE_bl rfl rfl (fun _ => ox_extract (pl rfl) rfl) rfl rfl ?_
        refine vcE_bl rfl rfl (fun _ => ox_extract (pl rfl) rfl) rfl rfl ?_
        refine vcE_new rfl rfl (fun _ => ox_allocZ D_69 (zero_69 D_69)) rfl rfl (.inr (by omega)) ?_
        refine vcE_new rfl rfl (fun _ => ox_allocZ (cs := encs (Vector.replicate 32 (0 : UInt8)).toList) D_24 rfl) rfl rfl (.inr (by omega)) ?_
        refine vcE_sto rfl rfl rfl rfl (ox_store (pl rfl) (pl rfl) D_69 (hp_sk (by omega) (hp_eq _ _ _ _)) (cellsOf_Record _) (Record.cells_length _) (Record.le _ rfl) (Record.cells_known _) (wr_all (by simp only [Record.cells_length]))) rfl (si_store (pl rfl)) (is_some (hp_sk (by omega) (hp_eq _ _ _ _))) (by omega) (.inr (by omega)) (⟨trivial, ⟨trivial, trivial⟩⟩) (⟨trivial, ⟨trivial, ⟨trivial, ⟨trivial, trivial⟩⟩⟩⟩) ?_
        refine vcE_bl rfl rfl (fun _ => ox_assign (pl rfl)) rfl rfl ?_
        refine vcE_sto rfl rfl rfl rfl (ox_store (pl rfl) (pl rfl) D_24 (hp_sk (by omega) (hp_eq _ _ _ _)) rfl (encs_vec_length _) (le_vec _ rfl) (encs_known _) (wr_all (by simp only [encs_vec_length]))) rfl (si_store (pl rfl)) (is_some (hp_sk (by omega) (hp_eq _ _ _ _))) (by omega) (.inr (by omega)) (⟨trivial, ⟨trivial, ⟨trivial, trivial⟩⟩⟩) (⟨trivial, ⟨trivial, ⟨trivial, ⟨trivial, ⟨trivial, trivial⟩⟩⟩⟩⟩) ?_
        refine vcE_bl rfl rfl (fun _ => ox_assign (pl rfl)) rfl rfl ?_
        exact vcE_nil ⟨_, m, m + 1, rfl, by omega, ⟨rfl, rfl, rfl, rfl, rfl, rfl, rfl, rfl, trivial⟩, leX_le (leX_cons rfl (leX_new (free_hp hfree (by omega) ⟨by omega, trivial⟩) (leX_old (by simp) (leX_new (free_hp hfree (by omega) ⟨by omega, trivial⟩) leX_refl)))), by omega⟩
      · refine vcE_callN rfl rfl rfl rfl (ox_fn rfl rfl (F77_some (rdC_keep hfree (hbs _ hat) ⟨by omega, trivial⟩) hdl hda)) rfl ltu0 ⟨⟨.inr (by omega), by omega, by omega⟩, trivial⟩ (by omega) (trivial) ?_
        refine vcE_bl rfl rfl (fun _ => ox_move (pl rfl)) rfl rfl ?_
        refine vcE_bl rfl rfl (fun _ => ox_extract (pl rfl) rfl) rfl rfl ?_
        refine vcE_bl rfl rfl (fun _ => ox_extract (pl rfl) rfl) rfl rfl ?_
        refine vcE_bl rfl rfl (fun _ => ox_extract (pl rfl) rfl) rfl rfl ?_
        refine vcE_bl rfl rfl (fun _ => ox_extract (pl rfl) rfl) rfl rfl ?_
        refine vcE_new rfl rfl (fun _ => ox_allocZ D_69 (zero_69 D_69)) rfl rfl (.inr (by omega)) ?_
        refine vcE_new rfl rfl (fun _ => ox_allocZ (cs := encs (Vector.replicate 32 (0 : UInt8)).toList) D_24 rfl) rfl rfl (.inr (by omega)) ?_
        refine vcE_sto rfl rfl rfl rfl (ox_store (pl rfl) (pl rfl) D_69 (hp_sk (by omega) (hp_eq _ _ _ _)) (cellsOf_Record _) (Record.cells_length _) (Record.le _ rfl) (Record.cells_known _) (wr_all (by simp only [Record.cells_length]))) rfl (si_store (pl rfl)) (is_some (hp_sk (by omega) (hp_eq _ _ _ _))) (by omega) (.inr (by omega)) (⟨trivial, ⟨trivial, ⟨trivial, trivial⟩⟩⟩) (⟨trivial, ⟨trivial, ⟨trivial, ⟨trivial, trivial⟩⟩⟩⟩) ?_
        refine vcE_bl rfl rfl (fun _ => ox_assign (pl rfl)) rfl rfl ?_
        refine vcE_sto rfl rfl rfl rfl (ox_store (pl rfl) (pl rfl) D_24 (hp_sk (by omega) (hp_eq _ _ _ _)) rfl (encs_vec_length _) (le_vec _ rfl) (encs_known _) (wr_all (by simp only [encs_vec_length]))) rfl (si_store (pl rfl)) (is_some (hp_sk (by omega) (hp_eq _ _ _ _))) (by omega) (.inr (by omega)) (⟨trivial, ⟨trivial, ⟨trivial, ⟨trivial, trivial⟩⟩⟩⟩) (⟨trivial, ⟨trivial, ⟨trivial, ⟨trivial, ⟨trivial, trivial⟩⟩⟩⟩⟩) ?_
        refine vcE_bl rfl rfl (fun _ => ox_assign (pl rfl)) rfl rfl ?_
        exact vcE_nil ⟨_, m + 1, m + 1 + 1, rfl, by omega, ⟨rfl, rfl, rfl, rfl, rfl, rfl, rfl, rfl, trivial⟩, leX_le (leX_cons rfl (leX_new (free_hp hfree (by omega) ⟨by omega, trivial⟩) (leX_old (by simp) (leX_new (free_hp hfree (by omega) ⟨by omega, trivial⟩) (leX_new (free_hp hfree (by omega) ⟨by omega, trivial⟩) leX_refl))))), by omega⟩
    rintro ρ2 t2 H2 n2 a3 w3 hs2 hd2 ⟨L2, r5, r7, rfl, hr7, hsub2, hle2, hn2⟩
    have st2 := hs2.want hsub2 hle2 hn2
    refine wpIn_seq (wp_regs hE (Q := fun t' H' n' => ∃ L', t' = dense 38 L' ∧ subL [(8, .int .i64 ((rOf c b i).e : Int)), (0, yv l)] L' ∧ (Ytdnnojblneccdaa.hp Hr []).le H' ∧ n' = m + 1 + 1 + 1) ?_ st2 ?_)
    · refine vcS_val rfl rfl (ox_fieldAddr (pl rfl) D_107 rfl rfl D_3 (by decide)) ?_
      refine vcS_val rfl rfl (ox_load (pl rfl) D_3 (hp_sk (by omega) (hp_eq _ _ _ _)) (rd_107_0 _ rfl)) ?_
      refine vcS_val rfl rfl (ox_move (pl rfl)) ?_
      refine vcS_val rfl rfl (ox_bin (pl rfl) (pl rfl) (bo_i64_add (by show _ ≤ ((itN c b i).at_ : Int) + _ ∧ ((itN c b i).at_ : Int) + _ ≤ _; omega))) ?_
      refine vcS_val rfl rfl (ox_load (pl rfl) D_24 (hp_eq _ _ _ _) (rd_all rfl (encs_vec_length _))) ?_
      refine vcS_val rfl rfl (ox_buildZ D_107 (zero_107 D_107) rfl rfl (fill_cons (pl_mk rfl D_3) rfl rfl (RStep.le _ rfl) (wr_107_0 _ _) (fill_cons (pl_mk rfl D_24) rfl (encs_vec_length _) (RStep.le _ rfl) (wr_107_1 _ _) fill_nil))) ?_
      refine vcS_sto rfl rfl (ox_store (pl rfl) (pl rfl) D_107 (hp_sk (by omega) (hp_eq _ _ _ _)) (cellsOf_RStep _) (RStep.cells_length _) (RStep.le _ rfl) (RStep.cells_known _) (wr_all (by simp only [RStep.cells_length]))) (.inl rfl) ?_
      exact vcS_nil ⟨_, rfl, ⟨rfl, rfl, trivial⟩, leX_le (leX_none hfree ⟨by omega, by omega, by omega, trivial⟩), rfl⟩
    rintro ρ3 t3 H3 n3 a4 w4 hs3 hd3 ⟨L3, rfl, hsub3, hle3, rfl⟩
    have st3 := hs3.want hsub3 hle3 (Nat.le_refl _)
    have hf : (!(((rOf c b i).e : Int) != 0)) = false := by simp [hne]
    refine wpIn_seq (wp_regs hE (Q := fun t' H' n' => ∃ L' v, t' = dense 38 L' ∧ subL [(37, .bool ((((rOf c b i).e : Int) != 0) || v))] L') ?_ st3 ?_)
    · refine vcS_val rfl rfl (ox_move (pl rfl)) ?_
      refine vcS_val rfl rfl (ox_bin (pl rfl) (pl rfl) (bo_i64_neq _ _)) ?_
      refine vcS_val rfl rfl (ox_move (pl rfl)) ?_
      refine vcS_opt (v := .bool true) rfl (wgF rfl rfl rfl) (fun hb => absurd hb (by rw [hf]; simp)) ?_
      refine vcS_opt (v := .bool true) rfl (wgF rfl rfl rfl) (fun hb => absurd hb (by rw [hf]; simp)) ?_
      refine vcS_opt (v := .bool true) rfl (wgF rfl rfl rfl) (fun hb => absurd hb (by rw [hf]; simp)) ?_
      refine vcS_opt (v := .bool true) rfl (wgF rfl rfl rfl) (fun hb => absurd hb (by rw [hf]; simp)) ?_
      refine vcS_opt (v := .bool true) rfl (wgF rfl rfl rfl) (fun hb => absurd hb (by rw [hf]; simp)) ?_
      refine vcS_val rfl rfl (ox_or (pl rfl) (pl rfl) (fun hc => gd (by rw [hc]; rfl) rfl)) ?_
      exact vcS_nil ⟨_, _, rfl, ⟨rfl, trivial⟩⟩
    rintro ρ4 t4 H4 n4 a5 w5 hs4 hd4 ⟨L4, v, rfl, hsub4⟩
    have hd4' : a5.defers = [] := by rw [hd4, hd3, hd2]; exact st.dfr
    have i4 : Ist ρ4 _ _ _ a5 w5 := ⟨hs4.tr, hs4.below, hs4.heap, hd4'⟩
    have i5 := i4.keep hsub4
    refine wpIn_cond_true ((i5.bool (x := .tmp 37) rfl).trans (by simp [hne])) (wpIn_ret ?_)
    have hjk := hJs B i w2 w5 (some B) hBw hj (hs4.grows st.below hBi) (fun r e => by cases e; rfl)
    rw [hik] at hjk
    exact ⟨hd4', .tuple #[], results_none rfl _ _ _, ⟨_, rfl⟩, B, hBw, hjk⟩
end Go.Proofs.Ytdnnojblneccdaa
/-
  Lists of records: records, LightRecords, Records.
-/
namespace Go.Proofs.Ytdnnojblneccdaa
set_option linter.unusedSimpArgs false
set_option linter.unusedVariables false
open Go
open Enc (enc)
set_option maxRecDepth 100000
instance : Row Record := ⟨Record.cells, 2, by decide, Record.cells_length, fun _ _ h => Record.cells_inj h, Record.cells_known, fun _ => rfl⟩
abbrev Rc := UInt8 × List UInt8
/-- the records, with what their data span -/
noncomputable def rdRs (H : IHeap) : List Record → Option (List Rc)
  | [] => some []
  | r :: rs => (rdC H (enc r.data)).bind fun (d : List UInt8) => (rdRs H rs).map fun l => (r.kind, d) :: l
theorem rdRs_get {H : IHeap} : ∀ {rs : List Record} {l : List Rc}, rdRs H rs = some l → rs.length = l.length ∧ ∀ (i : Nat) (h : i < rs.length) (h' : i < l.length), rs[i].kind = l[i].1 ∧ rdC H (enc rs[i].data) = some l[i].2
  | [], l, h => by cases h; exact ⟨rfl, fun i h => by simp at h⟩
  | r :: rs, l, h => by
    simp only [rdRs, Option.bind_eq_some_iff, Option.map_eq_some_iff] at h
    obtain ⟨d, hd, l', hl', rfl⟩ := h
    obtain ⟨h1, h2⟩ := rdRs_get hl'
    refine ⟨by simp [h1], fun i h3 h4 => ?_⟩
    cases i with
    | zero => exact ⟨rfl, hd⟩
    | succ i => exact h2 i (by simpa using h3) (by simpa using h4)
theorem rdRs_mk {H : IHeap} : ∀ {rs : List Record} {l : List Rc}, rs.length = l.length → (∀ (i : Nat) (h : i < rs.length) (h' : i < l.length), rs[i].kind = l[i].1 ∧ rdC H (enc rs[i].data) = some l[i].2) → rdRs H rs = some l
  | [], [], _, _ => rfl
  | r :: rs, (k, d) :: l, h, h1 => by
    have e := h1 0 (by simp) (by simp)
    have e1 : r.kind = k := e.1
    have e2 : rdC H (enc r.data) = some d := e.2
    simp only [rdRs, e2, Option.bind_some, rdRs_mk (rs := rs) (l := l) (by simpa using h) (fun i h3 h4 => h1 (i + 1) (by simpa using h3) (by simpa using h4)), Option.map_some, e1]
theorem beqR_ne {a b : List Rc} (h : ¬ a = b) : (a == b) = false := beq_eq_false_iff_ne.2 h
theorem beqR_take {a b : List Rc} {s : Nat} (hab : a.length = b.length) (h : a.take s = b.take s) (hs : a.length ≤ s) : (a == b) = true := by
  rw [List.take_of_length_le hs, List.take_of_length_le (by omega)] at h
  exact beq_iff_eq.2 h
theorem takeR_next {a b : List Rc} {s : Nat} (h : a.take s = b.take s) (h1 : s < a.length) (h2 : s < b.length) (h3 : a[s] = b[s]) : a.take (s + 1) = b.take (s + 1) := by
  rw [List.take_succ_eq_append_getElem h1, List.take_succ_eq_append_getElem h2, h, h3]
theorem dig1_plain (c : Dig) : (encs c.toList).all plain = true := by rw [← cels_one]; exact u8_plain _
theorem rdRs_le {H H' : IHeap} (hh : ∀ (x : Value) (d : List UInt8), rdC H x = some d → rdC H' x = some d) : ∀ {rs : List Record} {l : List Rc}, rdRs H rs = some l → rdRs H' rs = some l := fun {rs l} h => by
  obtain ⟨h1, h2⟩ := rdRs_get h
  exact rdRs_mk h1 fun i h3 h4 => ⟨(h2 i h3 h4).1, hh _ _ (h2 i h3 h4).2⟩
/-! the iterator is made -/
noncomputable def F79 : FnI := fun args H n => match args with
  | [x, y] => (dec x).bind fun (c : Dig) => (dec y).bind fun (s : Sl) => (rdC H (enc s)).bind fun (_ : List UInt8) => some ⟨.func (.func 102) #[] #[pv n, pv (n + 1)], [(n, some (.cells (encs c.toList) false)), (n + 1, some (.cells [enc s] false))], n + 2⟩
  | _ => none
theorem F79_inv {args : List Value} {H : IHeap} {n : Nat} {e : Eff} (h : F79 args H n = some e) : ∃ (c : Dig) (s : Sl) (b : List UInt8), args = [enc c, enc s] ∧ rdC H (enc s) = some b ∧ e = ⟨.func (.func 102) #[] #[pv n, pv (n + 1)], [(n, some (.cells (encs c.toList) false)), (n + 1, some (.cells [enc s] false))], n + 2⟩ := by
  unfold F79 at h; split at h
  · simp only [Option.bind_eq_some_iff] at h
    obtain ⟨c, hc, s, hs, b, hb, h⟩ := h
    cases h
    exact ⟨c, s, b, by rw [dec_some hc, dec_some hs], hb, rfl⟩
  · cases h
theorem F79_ev {H : IHeap} {n : Nat} {c : Dig} {s : Sl} {b : List UInt8} (hb : rdC H (enc s) = some b) : F79 [enc c, enc s] H n = some ⟨.func (.func 102) #[] #[pv n, pv (n + 1)], [(n, some (.cells (encs c.toList) false)), (n + 1, some (.cells [enc s] false))], n + 2⟩ := by
  simp only [F79, dec_enc, Option.bind_some, hb]
theorem okSl_of {H : IHeap} {n m : Nat} {s : Sl} {b : List UInt8} (hb : rdC H (enc s) = some b) (hf : ∀ id, n ≤ id → H id = none) (hm : n ≤ m) : okN1 (fun id => id < m) (enc s) := by
  refine ok_sl fun a ha => ?_
  rcases rdC_inv (show rdC H (.slice s.a s.len s.cap) = some b from hb) with ⟨h1, _⟩ | ⟨id, off, sp, c, ro, h1, hc, _⟩
  · rw [ha] at h1; cases h1
  · rw [ha] at h1; cases h1
    show id < m
    by_cases hid : n ≤ id
    · rw [hf id hid] at hc; cases hc
    · omega
theorem renSl_of {H : IHeap} {n : Nat} {s : Sl} {b : List UInt8} {g : Nat → Nat} (hb : rdC H (enc s) = some b) (hf : ∀ id, n ≤ id → H id = none) (hg : ∀ id, id < n → g id = id) : ren1 g (enc s) = enc s := by
  rw [ren_sl]
  congr 1
  unfold renSl
  obtain ⟨a, len, cap⟩ := s
  rcases rdC_inv (show rdC H (.slice a len cap) = some b from hb) with ⟨h1, _⟩ | ⟨id, off, sp, c, ro, h1, hc, _⟩
  · subst h1; rfl
  · subst h1
    have : id < n := by
      by_cases hid : n ≤ id
      · rw [hf id hid] at hc; cases hc
      · omega
    simp only [Option.map_some, hg id this]
-- headwater/record.records ['Vector UInt8 32', 'Sl'] -> ['?'], results [4]
theorem R79 : Ref Try.prog 79 F79 := by
  refine Ref.of_iw dok Try.func79 rfl (by kernel_rfl) fun args H n e hF => ?_
  obtain ⟨c, s, b, rfl, hb0, rfl⟩ := F79_inv hF
  refine ⟨Nat.le_of_ble_eq_true rfl, ?_⟩
  simp only [idxL]
  have hE : Env Try.prog [] D K := env fnsOk_nil
  refine IW.seq ?_
  refine IW.free (by simp) (fun hfree => ?_)
  refine IW.reg hE ?_
  refine vcS_new rfl rfl (ox_box (pl rfl) rfl) (.inl (by omega)) ?_
  refine vcS_new rfl rfl (ox_box (pl rfl) rfl) (.inl (by omega)) ?_
  refine vcS_val rfl rfl (ox_assign (pl rfl)) ?_
  refine vcS_nil ?_
  refine IW.seq ?_
  refine IW.reg hE ?_
  refine vcS_val rfl rfl (ox_makeFunc2 (pl rfl) (pl rfl)) ?_
  refine vcS_val rfl rfl (ox_assign (pl rfl)) ?_
  refine vcS_nil ?_
  refine IW.ret ?_
  refine RetP.news [n, n + 1] (cs := [encs c.toList, [enc s]]) (.inr rfl) (ires_tmp rfl) ?_ rfl rfl ⟨by omega, by omega, trivial⟩ (by simp) ⟨(hp_sk (by omega) (hp_eq _ _ _ _)).trans ?_, (hp_eq _ _ _ _).trans ?_, trivial⟩ ?_ ?_
  · simp [Ytdnnojblneccdaa.ren, ren2, pv, ren1, gL_at (m := n) (n := n) (ms := [n, n + 1]) (Nat.le_refl _) (by simp), gL_at (m := n + 1) (n := n) (ms := [n, n + 1]) (Nat.le_succ _) (by simp)]
  · rw [plains_ren (dig1_plain c)]
  · simp only [List.map_cons, List.map_nil]; rw [renSl_of hb0 hfree (fun id h => gL_lt h)]
  · intro c1 hc x hx
    simp only [List.mem_cons, List.not_mem_nil, or_false] at hc
    rcases hc with rfl | rfl
    · exact plain_okN1 (dig1_plain c) x hx
    · simp only [List.mem_singleton] at hx; subst hx
      exact okSl_of hb0 hfree (by simp)
  · exact ⟨fun x hx => by simp at hx, fun x hx => by simp at hx; rcases hx with rfl | rfl <;> (show _ < _; simp)⟩
def lightR (l : List Record) (m k : Int) : Bool := !decide (m < l.length) && l.all fun b => !decide (k < b.data.len)
noncomputable def F56 : FnI := fun args H n => match args with
  | [x, .int .i64 m, .int .i64 k] => (rdC H x).bind fun (l : List Record) => if l.length ≤ 2 ^ 63 - 1 then some ⟨.bool (lightR l m k), [], n⟩ else none
  | _ => none
theorem F56_inv {args : List Value} {H : IHeap} {n : Nat} {e : Eff} (h : F56 args H n = some e) : ∃ xa xc m k, ∃ l : List Record, args = [.slice xa l.length xc, .int .i64 m, .int .i64 k] ∧ rdC H (.slice xa l.length xc) = some l ∧ l.length ≤ 2 ^ 63 - 1 ∧ e = ⟨.bool (lightR l m k), [], n⟩ := by
  unfold F56 at h; split at h
  · simp only [Option.bind_eq_some_iff] at h
    obtain ⟨l, hl, h⟩ := h
    split at h
    · rename_i hle
      cases h
      obtain ⟨xa, xc, rfl⟩ := rdC_len hl
      exact ⟨xa, xc, _, _, l, rfl, hl, hle, rfl⟩
    · cases h
  · cases h
theorem F56_ev {x : Value} {H : IHeap} {n : Nat} {m k : Int} {l : List Record} (hl : rdC H x = some l) (hle : l.length ≤ 2 ^ 63 - 1) : F56 [x, .int .i64 m, .int .i64 k] H n = some ⟨.bool (lightR l m k), [], n⟩ := by
  simp only [F56, hl, Option.bind_some, if_pos hle]
theorem lightR1 {l : List Record} {m k : Int} (h : m < l.length) : lightR l m k = false := by simp [lightR, h]
theorem lightR2 {l : List Record} {m k : Int} {s : Nat} (hs : s < l.length) (h : k < l[s].data.len) : lightR l m k = false := by
  have : l.all (fun b => !decide (k < b.data.len)) = false := by
    rw [List.all_eq_false]
    exact ⟨l[s], List.getElem_mem hs, by simp [h]⟩
  simp [lightR, this]
theorem lightR3 {l : List Record} {m k : Int} {s : Nat} (hs : l.length ≤ s) (hm : ¬ m < l.length) (h : ∀ b ∈ l.take s, ¬ k < (b.data.len : Int)) : lightR l m k = true := by
  rw [List.take_of_length_le hs] at h
  simp only [lightR, Bool.and_eq_true, Bool.not_eq_true', decide_eq_false_iff_not, List.all_eq_true]
  exact ⟨hm, h⟩
theorem lightR_next {l : List Record} {k : Int} {s : Nat} (hs : s < l.length) (h : ∀ b ∈ l.take s, ¬ k < (b.data.len : Int)) (h1 : ¬ k < (l[s].data.len : Int)) : ∀ b ∈ l.take (s + 1), ¬ k < (b.data.len : Int) := by
  intro b hb
  rw [List.take_succ_eq_append_getElem hs] at hb
  rcases List.mem_append.1 hb with h2 | h2
  · exact h b h2
  · simp only [List.mem_singleton] at h2; rw [h2]; exact h1
-- headwater/headwaterkit.LightRecords ['Sl', 'Int', 'Int'] -> ['Bool'], results [6]
theorem R56 : Ref Try.prog 56 F56 := by
  refine Ref.of_iw dok Try.func56 rfl (by kernel_rfl) fun args H n e hF => ?_
  obtain ⟨xa, xc, m, k, l, rfl, ha, hle, rfl⟩ := F56_inv hF
  refine ⟨Nat.le_of_ble_eq_true rfl, ?_⟩
  simp only [idxL]
  have hE : Env Try.prog [] D K := env fnsOk_nil
  refine IW.seq ?_
  refine IW.reg hE ?_
  refine vcS_val rfl rfl (ox_assign (pl rfl)) ?_
  refine vcS_nil ?_
  refine IW.seq ?_
  refine IW.seq ?_
  refine IW.reg hE ?_
  refine vcS_val rfl rfl (ox_move (pl rfl)) ?_
  refine vcS_val rfl rfl (ox_len (pl rfl) D_80 rfl) ?_
  refine vcS_val rfl rfl (ox_move (pl rfl)) ?_
  refine vcS_val rfl rfl (ox_bin (pl rfl) (pl rfl) (bo_i64_gtr _ _)) ?_
  refine vcS_nil ?_
  refine IW.cond rfl (fun hc1 => ?_) (fun hc1 => ?_)
  · replace hc1 := of_decide_eq_true hc1
    refine IW.seq ?_
    refine IW.reg hE ?_
    refine vcS_val rfl rfl (ox_assign (pl rfl)) ?_
    refine vcS_nil ?_
    refine IW.ret ?_
    exact RetP.ret (.inr rfl) rfl rfl trivial (by rw [lightR1 hc1])
  · replace hc1 := of_decide_eq_false hc1
    refine IW.skip ?_
    refine IW.seq ?_
    refine IW.seq ?_
    refine IW.reg hE ?_
    refine vcS_val rfl rfl (ox_assign (pl rfl)) ?_
    refine vcS_nil ?_
    refine IW.block ?_
    refine IW.loop (S := Nat) (fun s => [(0, .slice xa l.length xc), (2, .int .i64 k), (7, .int .i64 s)]) (fun s => []) (fun s => n) (fun s => s ≤ l.length ∧ ∀ b ∈ l.take s, ¬ k < (b.data.len : Int)) (fun s => l.length - s) (0) (by simp) (⟨rfl, ⟨rfl, ⟨rfl, trivial⟩⟩⟩) (fun _ _ h => h) (Nat.le_refl _) (fun s hs => ?_)
    obtain ⟨hs1, hs2⟩ := hs
    refine IW.seq ?_
    refine IW.seq ?_
    refine IW.reg hE ?_
    refine vcS_val rfl rfl (ox_move (pl rfl)) ?_
    refine vcS_val rfl rfl (ox_move (pl rfl)) ?_
    refine vcS_val rfl rfl (ox_len (pl rfl) D_80 rfl) ?_
    refine vcS_val rfl rfl (ox_bin (pl rfl) (pl rfl) (bo_i64_lss _ _)) ?_
    refine vcS_nil ?_
    refine IW.cond rfl (fun hc2 => ?_) (fun hc2 => ?_)
    · replace hc2 := of_decide_eq_true hc2
      have hc2 : s < l.length := by omega
      obtain ⟨i1, o1, p1, c1, r1, e1, m1, l1⟩ := rdC_at ha hc2
      subst e1
      refine IW.skip ?_
      refine IW.seq ?_
      refine IW.block ?_
      refine IW.seq ?_
      refine IW.reg hE ?_
      refine vcS_val rfl rfl (ox_move (pl rfl)) ?_
      refine vcS_val rfl rfl (ox_move (pl rfl)) ?_
      refine vcS_val rfl rfl (ox_iaS (pl rfl) (pl rfl) D_80 rfl D_69 (by omega) (by omega)) ?_
      refine vcS_val rfl rfl (ox_fieldAddr (pl rfl) D_69 rfl rfl D_35 (by decide)) ?_
      refine vcS_val rfl rfl (ox_load (pl rfl) D_35 m1 (rd_celIn l1 hc2 (rd_69_1 _ rfl) rfl)) ?_
      refine vcS_val rfl rfl (ox_len (pl rfl) D_35 rfl) ?_
      refine vcS_val rfl rfl (ox_move (pl rfl)) ?_
      refine vcS_val rfl rfl (ox_bin (pl rfl) (pl rfl) (bo_i64_gtr _ _)) ?_
      refine vcS_nil ?_
      refine IW.cond rfl (fun hc3 => ?_) (fun hc3 => ?_)
      · replace hc3 := of_decide_eq_true hc3
        refine IW.seq ?_
        refine IW.reg hE ?_
        refine vcS_val rfl rfl (ox_assign (pl rfl)) ?_
        refine vcS_nil ?_
        refine IW.ret ?_
        refine retB ?_
        refine retS (retS ?_)
        refine retB ?_
        exact RetP.ret (.inr rfl) rfl rfl trivial (by rw [lightR2 hc2 hc3])
      · replace hc3 := of_decide_eq_false hc3
        refine IW.skip ?_
        refine IW.nilB ?_
        refine IW.reg hE ?_
        refine vcS_val rfl rfl (ox_move (pl rfl)) ?_
        refine vcS_val rfl rfl (ox_bin (pl rfl) (pl rfl) (bo_i64_add (by omega))) ?_
        refine vcS_val rfl rfl (ox_assign (pl rfl)) ?_
        refine vcS_nil ?_
        refine IW.nilS ?_
        exact ⟨s + 1, _, _, ⟨by omega, lightR_next hc2 hs2 hc3⟩, by omega, rfl, ⟨rfl, ⟨rfl, ⟨rfl, trivial⟩⟩⟩, rfl, fun _ _ h => h, Nat.le_refl _⟩
    · replace hc2 := of_decide_eq_false hc2
      refine IW.exit ?_
      refine exS (exS ?_)
      refine blkQ_exit ?_
      refine IW.seq ?_
      refine IW.reg hE ?_
      refine vcS_val rfl rfl (ox_assign (pl rfl)) ?_
      refine vcS_nil ?_
      refine IW.ret ?_
      exact RetP.ret (.inr rfl) rfl rfl trivial (by rw [lightR3 (by omega) hc1 hs2])
noncomputable def F58 : FnI := fun args H n => match args with
  | [x, y] => (rdC H x).bind fun (ra : List Record) => (rdC H y).bind fun (rb : List Record) => (rdRs H ra).bind fun A => (rdRs H rb).bind fun B => if A.length ≤ 2 ^ 47 then some ⟨.bool (A == B), [], n⟩ else none
  | _ => none
theorem F58_inv {args : List Value} {H : IHeap} {n : Nat} {e : Eff} (h : F58 args H n = some e) : ∃ xa xc ya yc, ∃ (a b : List Record) (A B : List Rc), args = [.slice xa a.length xc, .slice ya b.length yc] ∧ rdC H (.slice xa a.length xc) = some a ∧ rdC H (.slice ya b.length yc) = some b ∧ rdRs H a = some A ∧ rdRs H b = some B ∧ A.length ≤ 2 ^ 47 ∧ e = ⟨.bool (A == B), [], n⟩ := by
  unfold F58 at h; split at h
  · simp only [Option.bind_eq_some_iff] at h
    obtain ⟨a, ha, b, hb, A, hA, B, hB, h⟩ := h
    split at h
    · rename_i hle
      cases h
      obtain ⟨xa, xc, rfl⟩ := rdC_len ha
      obtain ⟨ya, yc, rfl⟩ := rdC_len hb
      exact ⟨xa, xc, ya, yc, a, b, A, B, rfl, ha, hb, hA, hB, hle, rfl⟩
    · cases h
  · cases h
theorem F58_ev {x y : Value} {H : IHeap} {n : Nat} {a b : List Record} {A B : List Rc} (ha : rdC H x = some a) (hb : rdC H y = some b) (hA : rdRs H a = some A) (hB : rdRs H b = some B) (hle : A.length ≤ 2 ^ 47) : F58 [x, y] H n = some ⟨.bool (A == B), [], n⟩ := by
  simp only [F58, ha, hb, hA, hB, Option.bind_some, if_pos hle]
-- headwater/headwaterkit.Records ['Sl', 'Sl'] -> ['Bool'], results [4]
theorem R58 : Ref Try.prog 58 F58 := by
  refine Ref.of_iw dok Try.func58 rfl (by kernel_rfl) fun args H n e hF => ?_
  obtain ⟨xa, xc, ya, yc, a, b, A, B, rfl, ha, hbb, hA, hB, hle, rfl⟩ := F58_inv hF
  obtain ⟨lA, gA⟩ := rdRs_get hA
  obtain ⟨lB, gB⟩ := rdRs_get hB
  refine ⟨Nat.le_of_ble_eq_true rfl, ?_⟩
  simp only [idxL]
  have hE : Env Try.prog [(51, F51)] D K := env (fnsOk_cons R51 fnsOk_nil)
  refine IW.seq ?_
  refine IW.free (by simp) (fun hfree => ?_)
  refine IW.reg hE ?_
  refine vcS_val rfl rfl (ox_assign (pl rfl)) ?_
  refine vcS_nil ?_
  refine IW.seq ?_
  refine IW.seq ?_
  refine IW.reg hE ?_
  refine vcS_val rfl rfl (ox_move (pl rfl)) ?_
  refine vcS_val rfl rfl (ox_len (pl rfl) D_80 rfl) ?_
  refine vcS_val rfl rfl (ox_move (pl rfl)) ?_
  refine vcS_val rfl rfl (ox_len (pl rfl) D_80 rfl) ?_
  refine vcS_val rfl rfl (ox_bin (pl rfl) (pl rfl) (bo_i64_neq _ _)) ?_
  refine vcS_nil ?_
  refine IW.cond rfl (fun hc1 => ?_) (fun hc1 => ?_)
  · refine IW.seq ?_
    refine IW.reg hE ?_
    refine vcS_val rfl rfl (ox_assign (pl rfl)) ?_
    refine vcS_nil ?_
    refine IW.ret ?_
    exact RetP.ret (.inr rfl) rfl rfl trivial (by rw [beqR_ne (fun e => by subst e; simp [lA, lB] at hc1)])
  · have hab : a.length = b.length := by have := bne_eq_false_iff_eq.1 hc1; omega
    refine IW.skip ?_
    refine IW.seq ?_
    refine IW.seq ?_
    refine IW.reg hE ?_
    refine vcS_val rfl rfl (ox_assign (pl rfl)) ?_
    refine vcS_nil ?_
    refine IW.block ?_
    refine IW.loop (S := Nat) (fun s => [(0, .slice xa a.length xc), (1, .slice ya b.length yc), (5, .int .i64 s)]) (fun s => []) (fun s => n) (fun s => s ≤ A.length ∧ A.take s = B.take s) (fun s => A.length - s) (0) (by simp) (⟨rfl, ⟨rfl, ⟨rfl, trivial⟩⟩⟩) (fun _ _ h => h) (Nat.le_refl _) (fun s hs => ?_)
    obtain ⟨hs1, hs2⟩ := hs
    refine IW.seq ?_
    refine IW.seq ?_
    refine IW.reg hE ?_
    refine vcS_val rfl rfl (ox_move (pl rfl)) ?_
    refine vcS_val rfl rfl (ox_move (pl rfl)) ?_
    refine vcS_val rfl rfl (ox_len (pl rfl) D_80 rfl) ?_
    refine vcS_val rfl rfl (ox_bin (pl rfl) (pl rfl) (bo_i64_lss _ _)) ?_
    refine vcS_nil ?_
    refine IW.cond rfl (fun hc2 => ?_) (fun hc2 => ?_)
    · replace hc2 := of_decide_eq_true hc2
      have hc2 : s < a.length := by omega
      have hc2b : s < b.length := by omega
      have hcA : s < A.length := by omega
      have hcB : s < B.length := by omega
      obtain ⟨i1, o1, p1, c1, r1, e1, m1, l1⟩ := rdC_at ha hc2
      obtain ⟨i2, o2, p2, c2, r2, e2, m2, l2⟩ := rdC_at hbb hc2b
      subst e1
      subst e2
      refine IW.lt (by simp) (id := i1) m1 (fun hi1 => ?_)
      refine IW.lt (by simp) (id := i2) m2 (fun hi2 => ?_)
      refine IW.skip ?_
      refine IW.seq ?_
      refine IW.block ?_
      refine IW.seq ?_
      refine IW.drw hE mixed [[],[],[0,1],[0,1,2],[],[],[4,5],[4,5,6],[0,1,2,3,4,5,6,7],[0,1,2,3,4,5,6,7,8]] (by kernel_rfl) (vcE_start ?_)
      refine vcE_bl rfl rfl (fun _ => ox_move (pl rfl)) rfl rfl ?_
      refine vcE_bl rfl rfl (fun _ => ox_move (pl rfl)) rfl rfl ?_
      refine vcE_bl rfl rfl (fun _ => ox_iaS (pl rfl) (pl rfl) D_80 rfl D_69 (by omega) (by omega)) rfl rfl ?_
      refine vcE_val rfl rfl rfl rfl (ox_load (pl rfl) D_69 m1 (rd_celIn l1 hc2 (rd_69 _ rfl rfl) rfl)) rfl (si_load (pl rfl)) (lt1 (by omega)) (trivial) ?_
      refine vcE_bl rfl rfl (fun _ => ox_move (pl rfl)) rfl rfl ?_
      refine vcE_bl rfl rfl (fun _ => ox_move (pl rfl)) rfl rfl ?_
      refine vcE_bl rfl rfl (fun _ => ox_iaS (pl rfl) (pl rfl) D_80 rfl D_69 (by omega) (by omega)) rfl rfl ?_
      refine vcE_val rfl rfl rfl rfl (ox_load (pl rfl) D_69 m2 (rd_celIn l2 hc2b (rd_69 _ rfl rfl) rfl)) rfl (si_load (pl rfl)) (lt1 (by omega)) (trivial) ?_
      refine vcE_call rfl rfl rfl rfl (ox_fn rfl rfl (recF2_ev (rdC_keep hfree (gA s hc2 hcA).2 (by exact trivial)) (rdC_keep hfree (gB s hc2b hcB).2 (by exact trivial)))) rfl ltu0 (trivial) ?_
      refine vcE_bl rfl rfl (fun _ => ox_un (pl rfl) (uo_not _)) rfl rfl ?_
      refine vcE_nil ?_
      refine IW.cond rfl (fun hc3 => ?_) (fun hc3 => ?_)
      · have hc3 : ¬ A[s] = B[s] := fun e => by rw [(gA s hc2 hcA).1, (gB s hc2b hcB).1, e] at hc3; simp at hc3
        refine IW.seq ?_
        refine IW.reg hE ?_
        refine vcS_val rfl rfl (ox_assign (pl rfl)) ?_
        refine vcS_nil ?_
        refine IW.ret ?_
        refine retB ?_
        refine retS (retS ?_)
        refine retB ?_
        exact RetP.ret (.inr rfl) rfl rfl trivial (by rw [beqR_ne (fun e => by subst e; exact hc3 rfl)])
      · have hc3 : A[s] = B[s] := by rw [(gA s hc2 hcA).1, (gB s hc2b hcB).1] at hc3; simp at hc3; exact Prod.ext hc3.1 hc3.2
        refine IW.skip ?_
        refine IW.nilB ?_
        refine IW.reg hE ?_
        refine vcS_val rfl rfl (ox_move (pl rfl)) ?_
        refine vcS_val rfl rfl (ox_bin (pl rfl) (pl rfl) (bo_i64_add (by omega))) ?_
        refine vcS_val rfl rfl (ox_assign (pl rfl)) ?_
        refine vcS_nil ?_
        refine IW.nilS ?_
        exact ⟨s + 1, _, _, ⟨by omega, takeR_next hs2 hcA hcB hc3⟩, by omega, rfl, ⟨rfl, ⟨rfl, ⟨rfl, trivial⟩⟩⟩, rfl, fun _ _ h => h, Nat.le_refl _⟩
    · replace hc2 := of_decide_eq_false hc2
      refine IW.exit ?_
      refine exS (exS ?_)
      refine blkQ_exit ?_
      refine IW.seq ?_
      refine IW.reg hE ?_
      refine vcS_val rfl rfl (ox_assign (pl rfl)) ?_
      refine vcS_nil ?_
      refine IW.ret ?_
      exact RetP.ret (.inr rfl) rfl rfl trivial (by rw [beqR_take (by omega) hs2 (by omega)])
end Go.Proofs.Ytdnnojblneccdaa
/-
  Lists of records as they come from outside.
-/
namespace Go.Proofs.Ytdnnojblneccdaa
set_option linter.unusedSimpArgs false
set_option linter.unusedVariables false
open Go Go.ChangeShapes Go.WideShapes Go.ChangeAt Go.RowKit
open Enc (enc)
set_option maxRecDepth 100000
theorem elemR_rec {T : Type} {W : World} : ElemR T Try.prog W 69 Record fun a => ∃ d : List UInt8, rdC (HW2 W) (enc a.data) = some d := by
  refine ⟨by kernel_rfl, fun en held fuel cs x r hr h => ?_⟩
  obtain ⟨xs, m, _, _, h1, h4, h5⟩ := DataW.trod_struct Try.underlying69 h
  have c0 : Try.prog.cellsOf 5 = 1 := by kernel_rfl
  have c1 : Try.prog.cellsOf 35 = 1 := by kernel_rfl
  have c2 : Try.prog.cellsOf 69 = 2 := by kernel_rfl
  have e0 : DataW.trod en Try.prog W 0 (fun _ => true) held m 5 ((cs.drop 0).take (Try.prog.cellsOf 5)) = xs[0]? := h5 0 _ rfl
  have e1 : DataW.trod en Try.prog W 0 (fun _ => true) held m 35 ((cs.drop 1).take (Try.prog.cellsOf 35)) = xs[1]? := h5 1 _ rfl
  rw [c0, show xs[0]? = some (xs[0]'(by rw [h4]; decide)) from List.getElem?_eq_getElem _] at e0
  rw [c1, show xs[1]? = some (xs[1]'(by rw [h4]; decide)) from List.getElem?_eq_getElem _] at e1
  have hcs : ∃ a b, cs = [a, b] := by
    rw [c2] at h1
    match cs, h1 with
    | [a, b], _ => exact ⟨a, b, rfl⟩
  obtain ⟨a, b, rfl⟩ := hcs
  have e0 : DataW.trod en Try.prog W 0 (fun _ => true) held m 5 [a] = _ := e0
  have e1 : DataW.trod en Try.prog W 0 (fun _ => true) held m 35 [b] = _ := e1
  obtain ⟨k, hk, _⟩ := (elemOk_u8 (H := T) (W := W) Try.underlying5 (by kernel_rfl)).2 en _ held m _ _ e0
  obtain ⟨s, l, g1, g2, _⟩ := sl_in (r := r) Try.underlying35 (elemR_u8 (T := T) Try.underlying5 (by kernel_rfl)) hr e1
  have hk : [a] = [Value.int .u8 (k.toNat : Int)] := hk
  cases hk
  refine ⟨⟨k, s⟩, ?_, l, g2⟩
  show [conv2 W r (.int .u8 (k.toNat : Int)), conv2 W r b] = [.int .u8 (k.toNat : Int), enc s]
  rw [g1]; rfl
theorem recs_mem {T : Type} {en : TypeId × Value → T} {W : World} {hd : Bool} {s : Sl} {d : DataW T} {p : List MemPlace} (h1 : SlOk W s) (h : DataW.Trod en Try.prog W 0 (fun _ => true) hd 80 (enc s) d p) :
    ∃ (rs : List Record) (A : List Rc), rdC (HW2 W) (enc s) = some rs ∧ rdRs (HW2 W) rs = some A ∧ rs.length ≤ 2 ^ 63 - 1 := by
  obtain ⟨fuel, h⟩ := h
  have h : DataW.trod en Try.prog W 0 (fun _ => true) hd fuel 80 [enc s] = some (d, p) := h
  have key : ∃ rs : List Record, rdC (HW2 W) (enc s) = some rs ∧ ∀ a ∈ rs, ∃ d : List UInt8, rdC (HW2 W) (enc a.data) = some d := by
    obtain ⟨a, len, cap⟩ := s
    rcases h1 with ⟨h1, h2, h3⟩ | ⟨r, off, c, Ty, fz, h1, h2, h3⟩
    · simp only at h1 h2 h3; subst h1; subst h2; subst h3
      exact ⟨[], rfl, fun a ha => by cases ha⟩
    · simp only at h1; subst h1
      exact rdC_world2 Try.underlying80 elemR_rec h2 h3 h
  obtain ⟨rs, g1, g2⟩ := key
  have hA : ∀ rs : List Record, (∀ a ∈ rs, ∃ d : List UInt8, rdC (HW2 W) (enc a.data) = some d) → ∃ A, rdRs (HW2 W) rs = some A := by
    intro rs
    induction rs with
    | nil => intro _; exact ⟨[], rfl⟩
    | cons a rs ih =>
      intro hh
      obtain ⟨d, hd⟩ := hh a (List.mem_cons_self ..)
      obtain ⟨A, hA⟩ := ih fun b hb => hh b (List.mem_cons_of_mem _ hb)
      exact ⟨(a.kind, d) :: A, by simp only [rdRs, hd, hA, Option.bind_some, Option.map_some]⟩
  obtain ⟨A, hA⟩ := hA rs g2
  refine ⟨rs, A, g1, hA, ?_⟩
  obtain ⟨a', cap', e'⟩ := rdC_len g1
  rw [e'] at h
  rcases DataW.trod_slice Try.underlying80 h with ⟨h1, _⟩ | ⟨a, len, cap, elems, rest, m, _, h1, _, _, h2, h3, _⟩
  · simp only [List.cons.injEq, and_true, Value.slice.injEq] at h1
    rw [h1.2.1]; exact Nat.zero_le _
  · simp only [List.cons.injEq, and_true, Value.slice.injEq] at h1
    rw [h1.2.1]
    exact Nat.le_trans h2 h3
end Go.Proofs.Ytdnnojblneccdaa
/-
  record.All.
-/
namespace Go.Proofs.Ytdnnojblneccdaa
set_option linter.unusedSimpArgs false
set_option linter.unusedVariables false
open Go
open Enc (enc)
open Row (cel)
set_option maxRecDepth 100000
def recN (f : Nat → Nat) (c : Dig) (b : List UInt8) (i : Nat) : List Record := (List.range i).map fun j => ⟨kdN c b j, ⟨some ⟨f j, 0, none⟩, (dlN c b j).length, (dlN c b j).length⟩⟩
theorem recN_length (f : Nat → Nat) (c : Dig) (b : List UInt8) (i : Nat) : (recN f c b i).length = i := by simp [recN]
theorem recN_succ (f : Nat → Nat) (c : Dig) (b : List UInt8) (i : Nat) : recN f c b (i + 1) = recN f c b i ++ [⟨kdN c b i, ⟨some ⟨f i, 0, none⟩, (dlN c b i).length, (dlN c b i).length⟩⟩] := by simp [recN, List.range_succ]
/-- the list under way: its slice, its row; the rows handed out -/
def oS (z : Nat) : Nat → Sl
  | 0 => ⟨none, 0, 0⟩
  | i + 1 => ⟨some ⟨z + 5 * i + 4, 0, some 2⟩, i + 1, i + 1⟩
def oM (z : Nat) (c : Dig) (b : List UInt8) : Nat → Ups
  | 0 => []
  | i + 1 => [(z + 5 * i + 4, some (.cells (cels (recN (fun j => z + 5 * j) c b (i + 1))) false))]
def dM (z : Nat) (c : Dig) (b : List UInt8) : Nat → Ups
  | 0 => []
  | i + 1 => (z + 5 * i, some (.cells (encs (dlN c b i)) false)) :: dM z c b i
theorem hp_app {H : IHeap} : ∀ {A B : Ups} {id : Nat}, (∀ p ∈ A, p.1 ≠ id) → hp H (A ++ B) id = hp H B id
  | [], B, id, h => rfl
  | (a, x) :: A, B, id, h => by
    rw [List.cons_append, hp_ne _ _ _ (fun e => h _ (List.mem_cons_self ..) e.symm)]
    exact hp_app fun p hp => h p (List.mem_cons_of_mem _ hp)
theorem oM_mem {z : Nat} {c : Dig} {b : List UInt8} {i : Nat} {p : Nat × Option IObj} (h : p ∈ oM z c b i) : ∃ j, i = j + 1 ∧ p.1 = z + 5 * j + 4 := by
  cases i with
  | zero => cases h
  | succ j => simp only [oM, List.mem_singleton] at h; subst h; exact ⟨j, rfl, rfl⟩
theorem dM_mem {z : Nat} {c : Dig} {b : List UInt8} : ∀ {i : Nat} {p : Nat × Option IObj}, p ∈ dM z c b i → ∃ j, j < i ∧ p.1 = z + 5 * j
  | 0, p, h => by cases h
  | i + 1, p, h => by
    simp only [dM, List.mem_cons] at h
    rcases h with rfl | h
    · exact ⟨i, by omega, rfl⟩
    · obtain ⟨j, h1, h2⟩ := dM_mem h
      exact ⟨j, by omega, h2⟩
theorem dM_at {H : IHeap} {z : Nat} {c : Dig} {b : List UInt8} {B : Ups} : ∀ {i j : Nat}, j < i → hp H (dM z c b i ++ B) (z + 5 * j) = some (.cells (encs (dlN c b j)) false)
  | i + 1, j, h => by
    by_cases e : j = i
    · subst e; exact hp_eq _ _ _ _
    · rw [dM, List.cons_append, hp_ne _ _ _ (by omega)]
      exact dM_at (by omega)
def rsM (z : Nat) (c : Dig) (b : List UInt8) (B : Ups) (i : Nat) : Ups := oM z c b i ++ (dM z c b i ++ B)
theorem rsM_low {H : IHeap} {z : Nat} {c : Dig} {b : List UInt8} {B : Ups} {i id : Nat} (h : id < z) : hp H (rsM z c b B i) id = hp H B id := by
  rw [rsM, hp_app (fun p hp => by obtain ⟨j, _, e⟩ := oM_mem hp; omega), hp_app (fun p hp => by obtain ⟨j, _, e⟩ := dM_mem hp; omega)]
theorem rsM_out {H : IHeap} {z : Nat} {c : Dig} {b : List UInt8} {B : Ups} {i : Nat} : hp H (rsM z c b B (i + 1)) (z + 5 * i + 4) = some (.cells (cels (recN (fun j => z + 5 * j) c b (i + 1))) false) := hp_eq _ _ _ _
theorem rsM_dat {H : IHeap} {z : Nat} {c : Dig} {b : List UInt8} {B : Ups} {i j : Nat} (h : j < i) : hp H (rsM z c b B i) (z + 5 * j) = some (.cells (encs (dlN c b j)) false) := by
  rw [rsM, hp_app (fun p hp => by obtain ⟨j, _, e⟩ := oM_mem hp; omega)]
  exact dM_at h
theorem allC_app : ∀ {A B : Ups}, allC A = true → allC B = true → allC (A ++ B) = true
  | [], B, _, h => h
  | (_, none) :: A, B, h, h2 => allC_app (A := A) h h2
  | (_, some (.cells _ _)) :: A, B, h, h2 => allC_app (A := A) h h2
  | (_, some (.map _)) :: A, B, h, h2 => by cases h
theorem allC_dM {z : Nat} {c : Dig} {b : List UInt8} : ∀ i, allC (dM z c b i) = true
  | 0 => rfl
  | i + 1 => allC_dM i
theorem allC_rsM {z : Nat} {c : Dig} {b : List UInt8} {B : Ups} {i : Nat} (h : allC B = true) : allC (rsM z c b B i) = true := allC_app (by cases i <;> rfl) (allC_app (allC_dM i) h)
/-- what an id shows in the next round's rows -/
theorem rsM_next {H : IHeap} {z : Nat} {c : Dig} {b : List UInt8} {B : Ups} {i id : Nat} {o : IObj} (h : hp H (rsM z c b B (i + 1)) id = some o) :
    (id = z + 5 * i + 4 ∧ o = .cells (cels (recN (fun j => z + 5 * j) c b (i + 1))) false) ∨ (id = z + 5 * i ∧ o = .cells (encs (dlN c b i)) false) ∨ (id ≠ z + 5 * i + 4 ∧ id ≠ z + 5 * i ∧ hp H (dM z c b i ++ B) id = some o) := by
  have h : hp H ((z + 5 * i + 4, some (.cells (cels (recN (fun j => z + 5 * j) c b (i + 1))) false)) :: (z + 5 * i, some (.cells (encs (dlN c b i)) false)) :: (dM z c b i ++ B)) id = some o := h
  by_cases h1 : id = z + 5 * i + 4
  · subst h1; rw [hp_eq] at h; cases h; exact .inl ⟨rfl, rfl⟩
  · rw [hp_ne _ _ _ h1] at h
    by_cases h2 : id = z + 5 * i
    · subst h2; rw [hp_eq] at h; cases h; exact .inr (.inl ⟨rfl, rfl⟩)
    · rw [hp_ne _ _ _ h2] at h; exact .inr (.inr ⟨h1, h2, h⟩)
/-- what lies below in one round lies there in the next -/
theorem rsM_old {H : IHeap} {z : Nat} {c : Dig} {b : List UInt8} {B : Ups} {i id : Nat} {o : IObj} (hB : ∀ id, z ≤ id → hp H B id = none) (h : hp H (dM z c b i ++ B) id = some o) : hp H (rsM z c b B i) id = some o ∧ (∀ j, i = j + 1 → id ≠ z + 5 * j + 4) ∧ id < z + 5 * i := by
  have hne : ∀ j, i = j + 1 → id ≠ z + 5 * j + 4 := by
    intro j hj e
    subst e
    rw [hp_app (fun p hp => by obtain ⟨j2, _, e⟩ := dM_mem hp; omega), hB _ (by omega)] at h
    cases h
  refine ⟨?_, hne, ?_⟩
  · rw [rsM, hp_app (fun p hp => by obtain ⟨j, e1, e⟩ := oM_mem hp; have := hne j e1; omega)]; exact h
  · by_cases hlt : id < z + 5 * i
    · exact hlt
    · rw [hp_app (fun p hp => by obtain ⟨j2, _, e⟩ := dM_mem hp; omega), hB _ (by omega)] at h
      cases h
/-- the contract of All -/
def allRows (n : Nat) (c : Dig) (b : List UInt8) (k : Nat) : List (List Value) := (List.range k).map (fun i => encs (dlN c b i)) ++ (if k = 0 then [] else [cels (recN (fun j => n + j) c b k)])
def allSl (n : Nat) (k : Nat) : Sl := if k = 0 then ⟨none, 0, 0⟩ else ⟨some ⟨n + k, 0, some 2⟩, k, k⟩
def allE (n : Nat) (c : Dig) (b : List UInt8) : Eff := ⟨.tuple #[enc (allSl n (kOf c b)), .int .i64 ((itN c b (kOf c b)).at_ : Int), enc (itN c b (kOf c b)).c], upL n (allRows n c b (kOf c b)), n + (allRows n c b (kOf c b)).length⟩
open Classical in
noncomputable def F57 : FnI := fun args H n => match args with
  | [x, y] => (dec x).bind fun (c : Dig) => (dec y).bind fun (s : Sl) => (rdC H (enc s)).bind fun (b : List UInt8) => if SlP s ∧ b.length ≤ 2 ^ 39 then some (allE n c b) else none
  | _ => none
theorem F57_inv {args : List Value} {H : IHeap} {n : Nat} {e : Eff} (h : F57 args H n = some e) : ∃ (c : Dig) (s : Sl) (b : List UInt8), args = [enc c, enc s] ∧ rdC H (enc s) = some b ∧ SlP s ∧ b.length ≤ 2 ^ 39 ∧ e = allE n c b := by
  unfold F57 at h; split at h
  · simp only [Option.bind_eq_some_iff] at h
    obtain ⟨c, hc, s, hs, b, hb, h⟩ := h
    split at h
    · rename_i h1
      cases h
      exact ⟨c, s, b, by rw [dec_some hc, dec_some hs], hb, h1.1, h1.2, rfl⟩
    · cases h
  · cases h
theorem F57_ev {H : IHeap} {n : Nat} {c : Dig} {s : Sl} {b : List UInt8} (hb : rdC H (enc s) = some b) (hp : SlP s) (hl : b.length ≤ 2 ^ 39) : F57 [enc c, enc s] H n = some (allE n c b) := by
  simp only [F57, dec_enc, Option.bind_some, hb]
  rw [if_pos ⟨hp, hl⟩]
/-! the rows in their order -/
def allMs (z k : Nat) : List Nat := (List.range k).map (fun i => z + 5 * i) ++ (if k = 0 then [] else [z + 5 * (k - 1) + 4])
theorem rowsAt_map {H : IHeap} {g : Nat → Nat} {f : Nat → Nat} {r : Nat → List Value} : ∀ (l : List Nat) {ms : List Nat} {cs : List (List Value)}, (∀ i ∈ l, H (f i) = some (.cells ((r i).map (ren1 g)) false)) → rowsAt H g ms cs → rowsAt H g (l.map f ++ ms) (l.map r ++ cs)
  | [], _, _, _, h => h
  | i :: l, _, _, h, h2 => ⟨h i (by simp), rowsAt_map l (fun j hj => h j (List.mem_cons_of_mem _ hj)) h2⟩
theorem allRows_len (n : Nat) (c : Dig) (b : List UInt8) (k : Nat) : (allRows n c b k).length = k + (if k = 0 then 0 else 1) := by unfold allRows; split <;> simp
theorem allMs_at {z k i : Nat} (h : i < k) : (allMs z k)[i]? = some (z + 5 * i) := by
  unfold allMs
  rw [List.getElem?_append_left (by simpa using h)]
  simp [h]
theorem allMs_last {z k : Nat} (h : k ≠ 0) : (allMs z k)[k]? = some (z + 5 * (k - 1) + 4) := by
  unfold allMs
  rw [if_neg h, List.getElem?_append_right (by simp)]
  simp
theorem allMs_nd (z k : Nat) : (allMs z k).Nodup := by
  unfold allMs
  rw [List.nodup_append]
  refine ⟨List.pairwise_map.2 (List.nodup_range.imp fun h e => h (by omega)), by split <;> simp, fun a ha a' hb e => ?_⟩
  subst e
  split at hb
  · cases hb
  · simp only [List.mem_map, List.mem_range, List.mem_singleton] at ha hb
    obtain ⟨i, h1, h2⟩ := ha
    omega
theorem allMs_ge {n z k : Nat} (h : n ≤ z) : allL (fun m => n ≤ m) (allMs z k) := by
  have : ∀ l : List Nat, (∀ x ∈ l, n ≤ x) → allL (fun m => n ≤ m) l := by
    intro l
    induction l with
    | nil => intro _; trivial
    | cons x l ih => intro h; exact ⟨h x (by simp), ih fun y hy => h y (List.mem_cons_of_mem _ hy)⟩
  refine this _ fun x hx => ?_
  unfold allMs at hx
  rcases List.mem_append.1 hx with hx | hx
  · simp only [List.mem_map, List.mem_range] at hx
    obtain ⟨i, _, rfl⟩ := hx; omega
  · split at hx
    · cases hx
    · simp only [List.mem_singleton] at hx; omega
theorem u8e_plain (l : List UInt8) : (encs l).all plain = true := by rw [← cels_one]; exact u8_plain l
theorem cels_ren {g : Nat → Nat} {f f' : Nat → Nat} {c : Dig} {b : List UInt8} {k : Nat} (h : ∀ j, j < k → g (f j) = f' j) : (cels (recN f c b k)).map (ren1 g) = cels (recN f' c b k) := by
  unfold recN
  rw [cels, cels, List.map_flatMap, List.flatMap_map, List.flatMap_map, List.flatMap_def, List.flatMap_def]
  congr 1
  refine List.map_congr_left fun j hj => ?_
  have hj : j < k := List.mem_range.1 hj
  show List.map (ren1 g) [.int .u8 ((kdN c b j).toNat : Int), .slice (some ⟨f j, 0, none⟩) _ _] = [_, .slice (some ⟨f' j, 0, none⟩) _ _]
  simp only [List.map_cons, List.map_nil, ren1, h j hj, List.cons.injEq, and_true]
  rfl
theorem all_rows {H : IHeap} {n z : Nat} {c : Dig} {b : List UInt8} {k : Nat} (hd : ∀ j, j < k → H (z + 5 * j) = some (.cells (encs (dlN c b j)) false)) (ho : k ≠ 0 → H (z + 5 * (k - 1) + 4) = some (.cells (cels (recN (fun j => z + 5 * j) c b k)) false)) :
    rowsAt H (gL n (allMs z k)) (allMs z k) (allRows n c b k) := by
  conv in (allRows _ _ _ _) => unfold allRows
  have e : rowsAt H (gL n (allMs z k)) ((List.range k).map (fun i => z + 5 * i) ++ (if k = 0 then [] else [z + 5 * (k - 1) + 4])) ((List.range k).map (fun i => encs (dlN c b i)) ++ (if k = 0 then [] else [cels (recN (fun j => n + j) c b k)])) := by
    refine rowsAt_map _ (fun i hi => ?_) ?_
    · rw [plains_ren (u8e_plain _)]; exact hd i (List.mem_range.1 hi)
    · by_cases hk : k = 0
      · rw [if_pos hk, if_pos hk]; trivial
      · rw [if_neg hk, if_neg hk]
        refine ⟨?_, trivial⟩
        rw [ho hk, cels_ren (f' := fun j => z + 5 * j) fun j hj => gL_at (by omega) (by rw [Nat.add_sub_cancel_left]; exact allMs_at hj)]
  exact e
theorem all_ok {n : Nat} {c : Dig} {b : List UInt8} {k : Nat} : ∀ r ∈ allRows n c b k, ∀ x ∈ r, okN1 (fun id => id < n + (allRows n c b k).length) x := by
  rw [allRows_len]
  intro r hr x hx
  unfold allRows at hr
  rcases List.mem_append.1 hr with hr | hr
  · simp only [List.mem_map] at hr
    obtain ⟨i, _, rfl⟩ := hr
    exact plain_okN1 (u8e_plain _) x hx
  · split at hr
    · cases hr
    · rename_i hk
      simp only [List.mem_singleton] at hr; subst hr
      simp only [cels, recN, List.mem_flatMap, List.mem_map, List.mem_range] at hx
      obtain ⟨rr, ⟨j, hj, rfl⟩, hx⟩ := hx
      have hx : x ∈ [Value.int .u8 ((kdN c b j).toNat : Int), .slice (some ⟨n + j, 0, none⟩) (dlN c b j).length (dlN c b j).length] := hx
      simp only [List.mem_cons, List.not_mem_nil, or_false] at hx
      rcases hx with rfl | rfl
      · exact plain_ok rfl
      · show n + j < _
        rw [if_neg hk]; omega
theorem rdC_row1 {α : Type} [Row α] {H : IHeap} {id cap : Nat} {sp : Option Nat} {ro : Bool} {a : α} (h : H id = some (.cells (cel a) ro)) : rdC H (.slice (some ⟨id, 0, sp⟩) 1 cap) = some [a] := by
  refine rdC_all (ro := ro) ?_ rfl
  rw [h, cels_cons, cels_nil, List.append_nil]
theorem vr_vS {ρ : Ren} (v : RStep) : VR ρ (enc v) (enc v) := by
  show VR ρ (.agg v.cells.toArray) (.agg v.cells.toArray)
  refine .agg rfl fun i x y hx hy => ?_
  rw [hx] at hy; cases hy
  exact VR.clo1 ρ (vS_clo v x (by simpa using Array.mem_of_getElem? hx))
theorem rdC_blk {α : Type} [Row α] {H : IHeap} {x : Value} {l : List α} {id : Nat} (h : rdC H x = some l) (hid : id ∈ blk x) : (H id).isSome = true := by
  obtain ⟨a, cap, rfl⟩ := rdC_len h
  rcases rdC_inv h with ⟨rfl, _⟩ | ⟨id', off, sp, c, ro, rfl, hc, _⟩
  · cases hid
  · simp only [blk, List.mem_singleton] at hid
    subst hid; exact is_some hc
theorem all_step {H : IHeap} {z a1 a2 : Nat} {x1 x2 : Option IObj} {c : Dig} {b : List UInt8} {B M' : Ups} {i : Nat} (hB : ∀ id, z ≤ id → hp H B id = none) (h1 : hp H M' a1 = x1) (h2 : hp H M' a2 = x2) (h3 : hp H M' (z + 5 * i + 4) = some (.cells (cels (recN (fun j => z + 5 * j) c b (i + 1))) false)) (h4 : hp H M' (z + 5 * i) = some (.cells (encs (dlN c b i)) false))
    (h5 : ∀ id, id < z + 5 * i → id ≠ a1 → id ≠ a2 → (∀ j, i = j + 1 → id ≠ z + 5 * j + 4) → hp H M' id = hp H (rsM z c b B i) id) : (hp H ((a1, x1) :: (a2, x2) :: rsM z c b B (i + 1))).le (hp H M') := by
  intro id o ho
  by_cases e1 : id = a1
  · subst e1; rw [hp_eq] at ho; rw [h1]; exact ho
  · rw [hp_ne _ _ _ e1] at ho
    by_cases e2 : id = a2
    · subst e2; rw [hp_eq] at ho; rw [h2]; exact ho
    · rw [hp_ne _ _ _ e2] at ho
      rcases rsM_next ho with ⟨rfl, rfl⟩ | ⟨rfl, rfl⟩ | ⟨_, _, h⟩
      · exact h3
      · exact h4
      · obtain ⟨g1, g2, g3⟩ := rsM_old hB h
        rw [h5 id g3 e1 e2 g2]; exact g1
theorem allSl_ren {n z k : Nat} : enc (oS z k) = ren2 (gL n (allMs z k)) (enc (allSl n k)) := by
  cases k with
  | zero => rfl
  | succ j =>
    have h : ¬ j + 1 = 0 := by omega
    unfold allSl
    rw [if_neg h]
    show _ = Value.slice (some ⟨gL n (allMs z (j + 1)) (n + (j + 1)), 0, some 2⟩) (j + 1) (j + 1)
    rw [gL_at (by omega) (by rw [Nat.add_sub_cancel_left]; exact allMs_last h)]
    rfl
theorem allSl_ok {n : Nat} {c : Dig} {b : List UInt8} {k : Nat} : okN2 (fun id => id < n + (allRows n c b k).length) (enc (allSl n k)) := by
  rw [allRows_len]
  unfold allSl
  split
  · trivial
  · rename_i h
    show n + k < _
    omega
set_option maxHeartbeats 2000000
-- headwater/record.All ['Vector UInt8 32', 'Sl'] -> ['Sl', 'Int', 'Vector UInt8 32'], results [4, 5, [6, 24]]
theorem R57 : Ref Try.prog 57 F57 := by
  refine Ref.of_iw dok Try.func57 rfl (by kernel_rfl) fun args H n e hF => ?_
  obtain ⟨c, s, b, rfl, hb0, hsp, hlen, rfl⟩ := F57_inv hF
  have hkl := kOf_le c b
  refine ⟨Nat.le_of_ble_eq_true rfl, ?_⟩
  simp only [idxL]
  have hE : Env Try.prog [(79, F79)] D K := env (fnsOk_cons R79 fnsOk_nil)
  refine IW.seq ?_
  refine IW.cells (by simp) ?_
  replace hb0 := rdC_cellsH hb0
  refine IW.blk (by simp) hb0 (fun hlt => ?_)
  refine IW.free (by simp) (fun hfree => ?_)
  refine IW.reg hE ?_
  refine vcS_new rfl rfl (ox_box (pl rfl) rfl) (.inl (by omega)) ?_
  refine vcS_val rfl rfl (ox_assign (pl rfl)) ?_
  refine vcS_val rfl rfl (ox_assign (pl rfl)) ?_
  refine vcS_new rfl rfl (ox_allocZ (cs := encs (Vector.replicate 32 (0 : UInt8)).toList) D_24 rfl) (.inl (by omega)) ?_
  refine vcS_nil ?_
  refine IW.seq ?_
  refine IW.reg hE ?_
  refine vcS_new rfl rfl (ox_alloc D_80) (.inl (by omega)) ?_
  refine vcS_nil ?_
  refine IW.seq ?_
  refine IW.reg hE ?_
  refine vcS_val rfl rfl (ox_load (pl rfl) D_24 (hp_sk (by omega) (hp_sk (by omega) (hp_eq _ _ _ _))) (rd_all rfl (encs_vec_length _))) ?_
  refine vcS_val rfl rfl (ox_buildZ D_107 (zero_107 D_107) rfl rfl (fill_cons (pl_mk rfl D_24) rfl (encs_vec_length _) (RStep.le _ rfl) (wr_107_1 _ _) fill_nil)) ?_
  refine vcS_new rfl rfl (ox_allocZ D_107 (zero_107 D_107)) (.inl (by omega)) ?_
  refine vcS_sto rfl rfl (ox_store (pl rfl) (pl rfl) D_107 (hp_eq _ _ _ _) (cellsOf_RStep _) (RStep.cells_length _) (RStep.le _ rfl) (RStep.cells_known _) (wr_all (by simp only [RStep.cells_length]))) (.inl (by omega)) ?_
  refine vcS_nil ?_
  refine IW.seq ?_
  refine IW.seq ?_
  refine IW.reg hE ?_
  refine vcS_val rfl rfl (ox_load (pl rfl) D_24 (hp_sk (by omega) (hp_sk (by omega) (hp_sk (by omega) (hp_sk (by omega) (hp_eq _ _ _ _))))) (rd_all rfl (encs_vec_length _))) ?_
  refine vcS_val rfl rfl (ox_move (pl rfl)) ?_
  refine vcS_ups rfl rfl (ox_fn rfl rfl (F79_ev (rdC_keep hfree hb0 (by exact ⟨by omega, ⟨by omega, ⟨by omega, ⟨by omega, ⟨by omega, trivial⟩⟩⟩⟩⟩)))) rfl ⟨.inl (by omega), ⟨.inl (by omega), trivial⟩⟩ ?_
  refine vcS_nil ?_
  refine IW.block ?_
  refine IW.rangeFuncN (k := kOf c b) (ks := [n + 1 + 1 + 1 + 1, n + 1 + 1 + 1 + 1 + 1] ++ blk (enc s)) (ws := [n + 1 + 1, n + 1 + 1 + 1]) (fun i _ => enc (vS c b (i + 1))) (rcV c b) (fun i => encs (dlN c b i)) (fun i => (n + 1 + 1, some (.cells [enc (oS (n + 1 + 1 + 1 + 1 + 2) i)] false)) :: (n + 1 + 1 + 1, some (.cells (vS c b i).cells false)) :: rsM (n + 1 + 1 + 1 + 1 + 2) c b [(n + 1 + 1 + 1 + 1 + 1, some (.cells [enc s] false)), (n + 1 + 1 + 1 + 1, some (.cells (encs c.toList) false)), (n + 1, some (.cells (encs (Vector.replicate 32 (0 : UInt8)).toList) false)), (n, some (.cells (encs c.toList) false))] i) (fun i => (n + 1 + 1 + 1 + 1 + 2) + 5 * i) hE rfl rfl rfl Try.func102 rfl (by kernel_rfl) (recs_gives (hp_sk (by omega) (hp_eq _ _ _ _)) (hp_eq _ _ _ _) (rdC_keep hfree hb0 (by exact ⟨by omega, ⟨by omega, ⟨by omega, ⟨by omega, ⟨by omega, ⟨by omega, ⟨by omega, trivial⟩⟩⟩⟩⟩⟩⟩)) hsp hlen) (fun ρ i id r κ h => vr_vS _) (fun i => u8_clo _) ?_ (Nat.le_refl _) (fun id hid => .inl (by omega)) ?_ ?_ (fun i => allC_is (by exact allC_rsM rfl)) ?_ (fun i => by omega) (fun i => by omega) ?_ ?_
  · exact leX_le (leX_same (hp_sk (by omega) (hp_sk (by omega) (hp_sk (by omega) (hp_sk (by omega) (hp_eq _ _ _ _))))) rfl (leX_same (hp_sk (by omega) (hp_sk (by omega) (hp_eq _ _ _ _))) rfl (leX_cons rfl (leX_cons rfl (leX_old (by simp) (leX_old (by simp) (leX_old (by simp) (leX_cons rfl (leX_cons rfl leX_refl)))))))))
  · intro i id hid
    simp only [List.mem_append, List.mem_cons, List.not_mem_nil, or_false] at hid
    rcases hid with (rfl | rfl) | hid
    · exact is_some (hp_sk (by omega) (hp_sk (by omega) ((rsM_low (by omega)).trans (hp_sk (by omega) (hp_eq _ _ _ _)))))
    · exact is_some (hp_sk (by omega) (hp_sk (by omega) ((rsM_low (by omega)).trans (hp_eq _ _ _ _))))
    · have h1 := hlt id hid
      obtain ⟨o, ho⟩ := Option.isSome_iff_exists.1 (rdC_blk hb0 hid)
      exact is_some (hp_sk (by omega) (hp_sk (by omega) ((rsM_low (by omega)).trans (hp_keep hfree ho (by exact ⟨by omega, ⟨by omega, ⟨by omega, ⟨by omega, trivial⟩⟩⟩⟩)))))
  · intro id hid
    have hnb : ∀ m, n ≤ m → m ∉ blk (enc s) := fun m h1 h2 => by have := hlt m h2; omega
    simp only [List.mem_cons, List.not_mem_nil, or_false] at hid
    rcases hid with rfl | rfl
    · exact ⟨.inl (by omega), by simp only [List.mem_append, List.mem_cons, List.not_mem_nil, or_false, not_or]; exact ⟨⟨by omega, by omega⟩, hnb _ (by omega)⟩, by omega, fun i => is_some (hp_eq _ _ _ _)⟩
    · exact ⟨.inl (by omega), by simp only [List.mem_append, List.mem_cons, List.not_mem_nil, or_false, not_or]; exact ⟨⟨by omega, by omega⟩, hnb _ (by omega)⟩, by omega, fun i => is_some (hp_sk (by omega) (hp_eq _ _ _ _))⟩
  · intro i id h1 h2
    by_cases e1 : id = n + 1 + 1
    · subst e1; exact is_some (hp_eq _ _ _ _)
    · by_cases e2 : id = n + 1 + 1 + 1
      · subst e2; exact is_some (hp_sk (by omega) (hp_eq _ _ _ _))
      · rw [hp_ne _ _ _ e1, hp_ne _ _ _ e2, rsM_low (by omega)] at h1 ⊢
        exact h1
  · intro l i Wb hi hWn hWo
    refine vcS_new rfl rfl (ox_allocZ D_107 (zero_107 D_107)) (hWn _ (by omega)) ?_
    refine vcS_sto rfl rfl (ox_store (pl rfl) (pl rfl) D_107 (hp_eq _ _ _ _) (cellsOf_RStep _) (RStep.cells_length _) (RStep.le _ rfl) (RStep.cells_known _) (wr_all (by simp only [RStep.cells_length]))) (hWn _ (by omega)) ?_
    refine vcS_nil ?_
    refine vcS_new rfl rfl (ox_allocZ D_69 (zero_69 D_69)) (hWn _ (by omega)) ?_
    refine vcS_sto rfl rfl (ox_store (pl rfl) (pl rfl) D_69 (hp_eq _ _ _ _) (cellsOf_Record _) (Record.cells_length _) (Record.le _ rfl) (Record.cells_known _) (wr_all (by simp only [Record.cells_length]))) (hWn _ (by omega)) ?_
    refine vcS_nil ?_
    refine IW.block ?_
    rcases i with _ | i
    · refine IW.drw hE mixed [[],[],[1],[0,1,2],[],[0,1,2,3],[0,1,2,3,4,5]] (by kernel_rfl) (vcE_start ?_)
      refine vcE_val rfl rfl rfl rfl (ox_load (pl rfl) D_80 (hp_sk (by omega) (hp_sk (by omega) (hp_sk (by omega) (hp_sk (by omega) (hp_sk (by omega) (hp_eq _ _ _ _)))))) rfl) rfl (si_load (pl rfl)) (lt1 (by omega)) (trivial) ?_
      refine vcE_val rfl rfl rfl rfl (ox_load (pl rfl) D_69 (hp_eq _ _ _ _) (rd_69 _ rfl rfl)) rfl (si_load (pl rfl)) (lt1 (by omega)) (trivial) ?_
      refine vcE_new rfl rfl (fun _ => ox_bsl (cs := (⟨kdN c b 0, ⟨some ⟨((n + 1 + 1 + 1 + 1 + 2) + 5 * 0), 0, none⟩, (dlN c b 0).length, (dlN c b 0).length⟩⟩ : Record).cells) D_80 rfl D_69 (Nat.le_of_ble_eq_true rfl) rfl (fill_cons rfl (cellsOf_Record _) (Record.cells_length _) (Nat.le_of_ble_eq_true rfl) (wr_all (by rw [Record.cells_length]; rfl)) fill_nil)) rfl rfl (hWn _ (by omega)) ?_
      refine vcE_app1 [((n + 1 + 1 + 1 + 1 + 2) + 5 * 0 + 1 + 1 + 1)] rfl rfl rfl rfl (ox_app1 (α := Record) (pl rfl) (pl rfl) D_80 rfl D_69 D_80 rfl rfl (rdC_row1 (a := (⟨kdN c b 0, ⟨some ⟨((n + 1 + 1 + 1 + 1 + 2) + 5 * 0), 0, none⟩, (dlN c b 0).length, (dlN c b 0).length⟩⟩ : Record)) (hp_eq _ _ _ _)) (by simp) rfl (fun b e => by cases e) (by show 1 * 32 ≤ most; decide) (by decide)) rfl rfl (hWn _ (by omega)) (lt1 (by omega)) (⟨trivial, trivial⟩) ?_
      refine vcE_val rfl rfl rfl rfl (ox_load (pl rfl) D_107 (hp_sk (by omega) (hp_sk (by omega) (hp_eq _ _ _ _))) (rd_107 _ rfl rfl)) rfl (si_load (pl rfl)) (lt1 (by omega)) (⟨qn1 (n0 := 0) (by omega), ⟨qn1 (n0 := 0) (by omega), trivial⟩⟩) ?_
      refine vcE_sto rfl rfl rfl rfl (ox_store (pl rfl) (pl rfl) D_80 (hp_sk (by omega) (hp_sk (by omega) (hp_sk (by omega) (hp_sk (by omega) (hp_sk (by omega) (hp_sk (by omega) (hp_sk (by omega) (hp_eq _ _ _ _)))))))) rfl rfl (Nat.le_refl _) rfl rfl) rfl (si_store (pl rfl)) (is_some (hp_sk (by omega) (hp_sk (by omega) (hp_sk (by omega) (hp_sk (by omega) (hp_sk (by omega) (hp_sk (by omega) (hp_sk (by omega) (hp_eq _ _ _ _))))))))) (by omega) (hWo _ (by simp)) (⟨trivial, ⟨trivial, trivial⟩⟩) (⟨cn1 (n0 := 0) (by omega), ⟨trivial, ⟨trivial, ⟨trivial, trivial⟩⟩⟩⟩) ?_
      refine vcE_sto rfl rfl rfl rfl (ox_store (pl rfl) (pl rfl) D_107 (hp_sk (by omega) (hp_sk (by omega) (hp_sk (by omega) (hp_sk (by omega) (hp_sk (by omega) (hp_sk (by omega) (hp_sk (by omega) (hp_sk (by omega) (hp_sk (by omega) (hp_eq _ _ _ _)))))))))) (cellsOf_RStep _) (RStep.cells_length _) (RStep.le _ rfl) (RStep.cells_known _) (wr_all (by simp only [RStep.cells_length]))) rfl (si_store (pl rfl)) (is_some (hp_sk (by omega) (hp_sk (by omega) (hp_sk (by omega) (hp_sk (by omega) (hp_sk (by omega) (hp_sk (by omega) (hp_sk (by omega) (hp_sk (by omega) (hp_sk (by omega) (hp_eq _ _ _ _))))))))))) (by omega) (hWo _ (by simp)) (⟨trivial, ⟨trivial, ⟨trivial, trivial⟩⟩⟩) (⟨trivial, ⟨trivial, ⟨trivial, ⟨trivial, ⟨trivial, trivial⟩⟩⟩⟩⟩) ?_
      refine vcE_nil ?_
      refine IW.nilB ?_
      refine IW.nilS ?_
      exact ⟨_, rfl, all_step (fun id hid => free_hp hfree (by omega) (by exact ⟨by omega, ⟨by omega, ⟨by omega, ⟨by omega, trivial⟩⟩⟩⟩)) (hp_sk (by omega) (hp_eq _ _ _ _)) (hp_eq _ _ _ _) ((hp_sk (by omega) (hp_sk (by omega) (hp_eq _ _ _ _))).trans (by rw [recN_succ, cels_append, cels_cons, cels_nil]; rfl)) ((hp_sk (by omega) (hp_sk (by omega) (hp_sk (by omega) (hp_sk (by omega) (hp_sk (by omega) (hp_sk (by omega) (hp_sk (by omega) (hp_sk (by omega) (hp_eq _ _ _ _)))))))))) (fun id h1 h2 h3 h4 => by exact ((hp_ne _ _ _ (by omega)).trans ((hp_ne _ _ _ (by omega)).trans ((hp_ne _ _ _ (by omega)).trans ((hp_ne _ _ _ (by omega)).trans ((hp_ne _ _ _ (by omega)).trans ((hp_ne _ _ _ (by omega)).trans ((hp_ne _ _ _ (by omega)).trans ((hp_ne _ _ _ (by omega)).trans ((hp_ne _ _ _ (by omega)).trans ((hp_ne _ _ _ (by omega)).trans ((hp_ne _ _ _ (by omega)).trans rfl)))))))))))), by omega⟩
    · refine IW.drw hE mixed [[],[],[1],[0,1,2],[],[0,1,2,3],[0,1,2,3,4,5]] (by kernel_rfl) (vcE_start ?_)
      refine vcE_val rfl rfl rfl rfl (ox_load (pl rfl) D_80 (hp_sk (by omega) (hp_sk (by omega) (hp_sk (by omega) (hp_sk (by omega) (hp_sk (by omega) (hp_eq _ _ _ _)))))) rfl) rfl (si_load (pl rfl)) (lt1 (by omega)) (trivial) ?_
      refine vcE_val rfl rfl rfl rfl (ox_load (pl rfl) D_69 (hp_eq _ _ _ _) (rd_69 _ rfl rfl)) rfl (si_load (pl rfl)) (lt1 (by omega)) (trivial) ?_
      refine vcE_new rfl rfl (fun _ => ox_bsl (cs := (⟨kdN c b (i + 1), ⟨some ⟨((n + 1 + 1 + 1 + 1 + 2) + 5 * (i + 1)), 0, none⟩, (dlN c b (i + 1)).length, (dlN c b (i + 1)).length⟩⟩ : Record).cells) D_80 rfl D_69 (Nat.le_of_ble_eq_true rfl) rfl (fill_cons rfl (cellsOf_Record _) (Record.cells_length _) (Nat.le_of_ble_eq_true rfl) (wr_all (by rw [Record.cells_length]; rfl)) fill_nil)) rfl rfl (hWn _ (by omega)) ?_
      refine vcE_app2 [(n + 1 + 1 + 1 + 1 + 2) + 5 * i + 4, ((n + 1 + 1 + 1 + 1 + 2) + 5 * (i + 1) + 1 + 1 + 1)] rfl rfl rfl rfl (ox_appO (α := Record) (l1 := recN (fun j => (n + 1 + 1 + 1 + 1 + 2) + 5 * j) c b (i + 1)) (l := [(⟨kdN c b (i + 1), ⟨some ⟨((n + 1 + 1 + 1 + 1 + 2) + 5 * (i + 1)), 0, none⟩, (dlN c b (i + 1)).length, (dlN c b (i + 1)).length⟩⟩ : Record)]) (pl rfl) (pl rfl) D_80 rfl D_69 D_80 rfl rfl rfl (hp_sk (by omega) (hp_sk (by omega) (hp_sk (by omega) (hp_sk (by omega) (hp_sk (by omega) (hp_sk (by omega) (hp_sk (by omega) (hp_sk (by omega) rsM_out)))))))) (recN_length _ _ _ _) (by rw [cels_length, recN_length]; exact Nat.le_refl _) (List.take_of_length_le (by rw [cels_length, recN_length]; exact Nat.le_refl _)) (rdC_row1 (a := (⟨kdN c b (i + 1), ⟨some ⟨((n + 1 + 1 + 1 + 1 + 2) + 5 * (i + 1)), 0, none⟩, (dlN c b (i + 1)).length, (dlN c b (i + 1)).length⟩⟩ : Record)) (hp_eq _ _ _ _)) (by show (i + 1 + 1) * _ ≤ _; have e : (2 : Nat) ^ 39 = 549755813888 := rfl; simp only [most]; show (i + 1 + 1) * 32 ≤ _; omega) (by decide)) rfl rfl (hWn _ (by omega)) (by simp) (is_some (hp_sk (by omega) (hp_sk (by omega) (hp_sk (by omega) (hp_sk (by omega) (hp_sk (by omega) (hp_sk (by omega) (hp_sk (by omega) (hp_sk (by omega) rsM_out))))))))) (by omega) (hWn _ (by omega)) (lt2 (by omega) (by omega)) (⟨trivial, trivial⟩) (⟨trivial, ⟨trivial, trivial⟩⟩) ?_
      refine vcE_val rfl rfl rfl rfl (ox_load (pl rfl) D_107 (hp_sk (by omega) (hp_sk (by omega) (hp_eq _ _ _ _))) (rd_107 _ rfl rfl)) rfl (si_load (pl rfl)) (lt1 (by omega)) (⟨qn1 (n0 := 0) (by omega), ⟨qn2 (n0 := 0) (by omega) (by omega), trivial⟩⟩) ?_
      refine vcE_sto rfl rfl rfl rfl (ox_store (pl rfl) (pl rfl) D_80 (hp_sk (by omega) (hp_sk (by omega) (hp_sk (by omega) (hp_sk (by omega) (hp_sk (by omega) (hp_sk (by omega) (hp_sk (by omega) (hp_sk (by omega) (hp_eq _ _ _ _))))))))) rfl rfl (Nat.le_refl _) rfl rfl) rfl (si_store (pl rfl)) (is_some (hp_sk (by omega) (hp_sk (by omega) (hp_sk (by omega) (hp_sk (by omega) (hp_sk (by omega) (hp_sk (by omega) (hp_sk (by omega) (hp_sk (by omega) (hp_eq _ _ _ _)))))))))) (by omega) (hWo _ (by simp)) (⟨trivial, ⟨trivial, trivial⟩⟩) (⟨cn1 (n0 := 0) (by omega), ⟨trivial, ⟨trivial, ⟨trivial, trivial⟩⟩⟩⟩) ?_
      refine vcE_sto rfl rfl rfl rfl (ox_store (pl rfl) (pl rfl) D_107 (hp_sk (by omega) (hp_sk (by omega) (hp_sk (by omega) (hp_sk (by omega) (hp_sk (by omega) (hp_sk (by omega) (hp_sk (by omega) (hp_sk (by omega) (hp_sk (by omega) (hp_sk (by omega) (hp_eq _ _ _ _))))))))))) (cellsOf_RStep _) (RStep.cells_length _) (RStep.le _ rfl) (RStep.cells_known _) (wr_all (by simp only [RStep.cells_length]))) rfl (si_store (pl rfl)) (is_some (hp_sk (by omega) (hp_sk (by omega) (hp_sk (by omega) (hp_sk (by omega) (hp_sk (by omega) (hp_sk (by omega) (hp_sk (by omega) (hp_sk (by omega) (hp_sk (by omega) (hp_sk (by omega) (hp_eq _ _ _ _)))))))))))) (by omega) (hWo _ (by simp)) (⟨trivial, ⟨trivial, ⟨trivial, trivial⟩⟩⟩) (⟨trivial, ⟨trivial, ⟨trivial, ⟨trivial, ⟨trivial, trivial⟩⟩⟩⟩⟩) ?_
      refine vcE_nil ?_
      refine IW.nilB ?_
      refine IW.nilS ?_
      exact ⟨_, rfl, all_step (fun id hid => free_hp hfree (by omega) (by exact ⟨by omega, ⟨by omega, ⟨by omega, ⟨by omega, trivial⟩⟩⟩⟩)) (hp_sk (by omega) (hp_eq _ _ _ _)) (hp_eq _ _ _ _) ((hp_sk (by omega) (hp_sk (by omega) (hp_eq _ _ _ _))).trans (by rw [recN_succ _ _ _ (i + 1)])) ((hp_sk (by omega) (hp_sk (by omega) (hp_sk (by omega) (hp_sk (by omega) (hp_sk (by omega) (hp_sk (by omega) (hp_sk (by omega) (hp_sk (by omega) (hp_sk (by omega) (hp_eq _ _ _ _))))))))))) (fun id h1 h2 h3 h4 => by have := h4 i rfl; exact ((hp_ne _ _ _ (by omega)).trans ((hp_ne _ _ _ (by omega)).trans ((hp_ne _ _ _ (by omega)).trans ((hp_ne _ _ _ (by omega)).trans ((hp_ne _ _ _ (by omega)).trans ((hp_ne _ _ _ (by omega)).trans ((hp_ne _ _ _ (by omega)).trans ((hp_ne _ _ _ (by omega)).trans ((hp_ne _ _ _ (by omega)).trans ((hp_ne _ _ _ (by omega)).trans ((hp_ne _ _ _ (by omega)).trans ((hp_ne _ _ _ (by omega)).trans rfl))))))))))))), by omega⟩
  · skip
    refine IW.nilB ?_
    refine IW.seq ?_
    refine IW.drw hE mixed [[],[],[1],[],[3],[0],[0,1,2,5],[0,1,2,3,4,5,6]] (by kernel_rfl) (vcE_start ?_)
    refine vcE_val rfl rfl rfl rfl (ox_load (pl rfl) D_80 (hp_eq _ _ _ _) rfl) rfl (si_load (pl rfl)) (lt1 (by omega)) (trivial) ?_
    refine vcE_bl rfl rfl (fun _ => ox_fieldAddr (pl rfl) D_107 rfl rfl D_3 (by decide)) rfl rfl ?_
    refine vcE_val rfl rfl rfl rfl (ox_load (pl rfl) D_3 (hp_sk (by omega) (hp_eq _ _ _ _)) (rd_107_0 _ rfl)) rfl (si_load (pl rfl)) (lt1 (by omega)) (trivial) ?_
    refine vcE_bl rfl rfl (fun _ => ox_fieldAddr (pl rfl) D_107 rfl rfl D_24 (by decide)) rfl rfl ?_
    refine vcE_val rfl rfl rfl rfl (ox_load (pl rfl) D_24 (hp_sk (by omega) (hp_eq _ _ _ _)) (rd_107_1 _ rfl rfl)) rfl (si_load (pl rfl)) (lt1 (by omega)) (trivial) ?_
    refine vcE_bl rfl rfl (fun _ => ox_assign (pl rfl)) rfl rfl ?_
    refine vcE_bl rfl rfl (fun _ => ox_assign (pl rfl)) rfl rfl ?_
    refine vcE_sto rfl rfl rfl rfl (ox_store (pl rfl) (pl rfl) D_24 (hp_sk (by omega) (hp_sk (by omega) ((rsM_low (by omega)).trans (hp_sk (by omega) (hp_sk (by omega) (hp_eq _ _ _ _)))))) rfl (encs_vec_length _) (le_vec _ rfl) (encs_known _) (wr_all (by simp only [encs_vec_length]))) rfl (si_store (pl rfl)) (is_some (hp_sk (by omega) (hp_sk (by omega) ((rsM_low (by omega)).trans (hp_sk (by omega) (hp_sk (by omega) (hp_eq _ _ _ _))))))) (by omega) (.inl (by omega)) (trivial) (⟨trivial, ⟨trivial, ⟨trivial, trivial⟩⟩⟩) ?_
    refine vcE_nil ?_
    refine IW.ret ?_
    refine RetP.news (allMs (n + 1 + 1 + 1 + 1 + 2) (kOf c b)) (cs := allRows n c b (kOf c b)) (.inr rfl) (ires_l3 (ires_tmp rfl) (ires_tmp rfl) (ires_cell rfl D_24 (hp_eq _ _ _ _) (rd_all rfl (encs_vec_length (itN c b (kOf c b)).c)))) (by rw [ren_l3, ren2_vec8, ← allSl_ren]; rfl) rfl rfl (allMs_ge (by omega)) (allMs_nd _ _) (all_rows (fun j hj => hp_sk (by omega) (hp_sk (by omega) (hp_sk (by omega) (rsM_dat hj)))) (fun hk => ?_)) all_ok (okN_l3 allSl_ok trivial (ok2_vec8 _))
    obtain ⟨j, hj⟩ : ∃ j, kOf c b = j + 1 := ⟨kOf c b - 1, by omega⟩
    rw [hj]
    exact hp_sk (by omega) (hp_sk (by omega) (hp_sk (by omega) rsM_out))
end Go.Proofs.Ytdnnojblneccdaa
/-
  Records one behind the other, cut anywhere, and read again.
-/
namespace Go.Proofs.Ytdnnojblneccdaa
set_option linter.unusedSimpArgs false
set_option linter.unusedVariables false
open Go
def lastC (c : Dig) (G : List Rc) : Dig := G.foldl (fun c a => nextV c a.1 a.2) c
def catL : Dig → List Rc → List UInt8
  | _, [] => []
  | c, a :: G => recL c a.1 a.2 ++ catL (nextV c a.1 a.2) G
theorem catL_app : ∀ (c : Dig) (G G' : List Rc), catL c (G ++ G') = catL c G ++ catL (lastC c G) G'
  | c, [], G' => rfl
  | c, a :: G, G' => by
    show recL c a.1 a.2 ++ catL (nextV c a.1 a.2) (G ++ G') = recL c a.1 a.2 ++ catL (nextV c a.1 a.2) G ++ catL (lastC (nextV c a.1 a.2) G) G'
    rw [catL_app, List.append_assoc]
theorem lastC_snoc (c : Dig) (G : List Rc) (a : Rc) : lastC c (G ++ [a]) = nextV (lastC c G) a.1 a.2 := by simp [lastC]
theorem catL_snoc (c : Dig) (G : List Rc) (a : Rc) : catL c (G ++ [a]) = catL c G ++ recL (lastC c G) a.1 a.2 := by
  rw [catL_app]; simp [catL]
/-- where the j-th ends; the chain there -/
def eN (c : Dig) (G : List Rc) (j : Nat) : Nat := (catL c (G.take j)).length
def cN (c : Dig) (G : List Rc) (j : Nat) : Dig := lastC c (G.take j)
def endsL (c : Dig) (G : List Rc) : List Int := (List.range (G.length + 1)).map fun j => (eN c G j : Int)
def chsL (c : Dig) (G : List Rc) : List Dig := (List.range (G.length + 1)).map fun j => cN c G j
theorem endsL_length (c : Dig) (G : List Rc) : (endsL c G).length = G.length + 1 := by simp [endsL]
theorem chsL_length (c : Dig) (G : List Rc) : (chsL c G).length = G.length + 1 := by simp [chsL]
theorem eN_snoc {c : Dig} {G : List Rc} {a : Rc} {j : Nat} (h : j ≤ G.length) : eN c (G ++ [a]) j = eN c G j := by unfold eN; rw [List.take_append_of_le_length h]
theorem cN_snoc {c : Dig} {G : List Rc} {a : Rc} {j : Nat} (h : j ≤ G.length) : cN c (G ++ [a]) j = cN c G j := by unfold cN; rw [List.take_append_of_le_length h]
theorem endsL_snoc (c : Dig) (G : List Rc) (a : Rc) : endsL c (G ++ [a]) = endsL c G ++ [((catL c (G ++ [a])).length : Int)] := by
  unfold endsL
  rw [List.length_append, List.length_singleton, List.range_succ, List.map_append]
  congr 1
  · exact List.map_congr_left fun j hj => by rw [eN_snoc (by have := List.mem_range.1 hj; omega)]
  · simp only [List.map_cons, List.map_nil, eN]
    rw [List.take_of_length_le (by simp)]
theorem chsL_snoc (c : Dig) (G : List Rc) (a : Rc) : chsL c (G ++ [a]) = chsL c G ++ [nextV (lastC c G) a.1 a.2] := by
  unfold chsL
  rw [List.length_append, List.length_singleton, List.range_succ, List.map_append]
  congr 1
  · exact List.map_congr_left fun j hj => by rw [cN_snoc (by have := List.mem_range.1 hj; omega)]
  · simp only [List.map_cons, List.map_nil, cN]
    rw [List.take_of_length_le (by simp), lastC_snoc]
theorem endsL_at {c : Dig} {G : List Rc} {j : Nat} (h : j < (endsL c G).length) : (endsL c G)[j] = (eN c G j : Int) := by simp [endsL]
theorem chsL_at {c : Dig} {G : List Rc} {j : Nat} (h : j < (chsL c G).length) : (chsL c G)[j] = cN c G j := by simp [chsL]
theorem cN_all {c : Dig} {G : List Rc} : cN c G G.length = lastC c G := by unfold cN; rw [List.take_length]
theorem take_succ_at {G : List Rc} {j : Nat} (h : j < G.length) : G.take (j + 1) = G.take j ++ [G[j]] := List.take_succ_eq_append_getElem h
theorem eN_succ {c : Dig} {G : List Rc} {j : Nat} (h : j < G.length) : eN c G (j + 1) = eN c G j + (recL (cN c G j) G[j].1 G[j].2).length := by
  unfold eN cN
  rw [take_succ_at h, catL_snoc, List.length_append]
theorem cN_succ {c : Dig} {G : List Rc} {j : Nat} (h : j < G.length) : cN c G (j + 1) = nextV (cN c G j) G[j].1 G[j].2 := by
  unfold cN
  rw [take_succ_at h, lastC_snoc]
theorem catL_drop {c : Dig} {G : List Rc} {j : Nat} (h : j ≤ G.length) : (catL c G).drop (eN c G j) = catL (cN c G j) (G.drop j) := by
  have e : catL c G = catL c (G.take j) ++ catL (cN c G j) (G.drop j) := by
    conv => lhs; rw [← List.take_append_drop j G]
    rw [catL_app]; rfl
  rw [e]; unfold eN; rw [List.drop_left]
theorem recL_pos (c : Dig) (k : UInt8) (d : List UInt8) : 0 < (recL c k d).length := by rw [recL_length]; omega
/-- a proper beginning of a record is none -/
theorem rec_short {c : Dig} {k : UInt8} {d : List UInt8} {m : Nat} {y : List UInt8} (hk : k ≠ 0) (hd : d.length ≤ 8192) (hm : m < (recL c k d).length) : (rdV c ((recL c k d ++ y).take m)).e ≠ 0 := by
  intro h
  obtain ⟨h1, h2, _, rest, h3⟩ := read_rec h
  generalize ht : (recL c k d ++ y).take m = t at h h1 h2 h3
  have hl : t.length ≤ m := by rw [← ht, List.length_take]; omega
  have hs : recL c k d ++ y = t ++ (recL c k d ++ y).drop m := by rw [← ht, List.take_append_drop]
  have e1 := rec_ok (c := c) (t := y) hk hd
  have e2 := rec_ok (c := c) (t := rest ++ (recL c k d ++ y).drop m) h1 h2
  rw [← List.append_assoc, ← h3, ← hs, e1] at e2
  have e3 := congrArg RR.size e2
  simp only at e3
  have e4 := congrArg List.length h3
  rw [List.length_append] at e4
  omega
theorem rec_nil (c : Dig) : (rdV c []).e ≠ 0 := by
  intro h
  obtain ⟨_, _, _, rest, h3⟩ := read_rec h
  have := congrArg List.length h3
  rw [List.length_append, recL_length, List.length_nil] at this
  omega
theorem all_at {c : Dig} {G : List Rc} {K k : Nat} (hG : ∀ a ∈ G, a.1 ≠ 0 ∧ a.2.length ≤ 8192) (hk : k ≤ G.length) (h1 : eN c G k ≤ K) : ∀ j, j ≤ k → itN c ((catL c G).take K) j = ⟨eN c G j, cN c G j⟩ ∧ ∀ i, i < j → (rOf c ((catL c G).take K) i).e = 0 ∧ ∀ h : i < G.length, (kdN c ((catL c G).take K) i, dlN c ((catL c G).take K) i) = G[i]
  | 0, _ => ⟨by simp [itN, eN, cN, catL, lastC], fun i h => by omega⟩
  | j + 1, hj => by
    obtain ⟨e1, e2⟩ := all_at hG hk h1 j (by omega)
    have hjl : j < G.length := by omega
    have hmono : ∀ i, j + 1 ≤ i → i ≤ k → eN c G (j + 1) ≤ eN c G i := by
      intro i h2 h3
      induction i with
      | zero => omega
      | succ i ih =>
        by_cases e : i = j
        · subst e; exact Nat.le_refl _
        · have := ih (by omega) (by omega)
          have := eN_succ (c := c) (G := G) (j := i) (by omega)
          omega
    have hle : eN c G (j + 1) ≤ K := Nat.le_trans (hmono k hj (Nat.le_refl _)) h1
    have hs := eN_succ (c := c) hjl
    have hd : ((catL c G).take K).drop (eN c G j) = recL (cN c G j) G[j].1 G[j].2 ++ (catL (cN c G (j + 1)) (G.drop (j + 1))).take (K - eN c G (j + 1)) := by
      rw [List.drop_take, catL_drop (by omega), List.drop_eq_getElem_cons hjl]
      show (recL (cN c G j) G[j].1 G[j].2 ++ catL (nextV (cN c G j) G[j].1 G[j].2) (G.drop (j + 1))).take _ = _
      rw [List.take_append, List.take_of_length_le (by omega), ← cN_succ hjl]
      congr 2
      omega
    obtain ⟨g1, g2⟩ := hG _ (List.getElem_mem hjl)
    have hr : rOf c ((catL c G).take K) j = ⟨G[j].1, some G[j].2, (recL (cN c G j) G[j].1 G[j].2).length, nextV (cN c G j) G[j].1 G[j].2, 0⟩ := by
      unfold rOf
      rw [e1]
      show rdV (cN c G j) (((catL c G).take K).drop (eN c G j)) = _
      rw [hd, rec_ok g1 g2]
    refine ⟨?_, fun i hi => ?_⟩
    · rw [itN_succ, hr, e1, hs, cN_succ hjl]
    · by_cases e : i = j
      · subst e
        have h0 : (rOf c ((catL c G).take K) i).e = 0 := by rw [hr]
        refine ⟨h0, fun h => ?_⟩
        have h3 := rOf_ok h0
        rw [hr] at h3
        have h4 := congrArg RR.kind h3
        have h5 := congrArg RR.data h3
        simp only [Option.some.injEq] at h4 h5
        rw [← h4, ← h5]
      · exact e2 i (by omega)
theorem all_back {c : Dig} {G : List Rc} {K k : Nat} (hG : ∀ a ∈ G, a.1 ≠ 0 ∧ a.2.length ≤ 8192) (hK : K ≤ (catL c G).length) (hk : k ≤ G.length) (h1 : eN c G k ≤ K) (h2 : k < G.length → K < eN c G (k + 1)) :
    kOf c ((catL c G).take K) = k ∧ itN c ((catL c G).take K) k = ⟨eN c G k, cN c G k⟩ ∧ ∀ i, i < k → ∀ h : i < G.length, (kdN c ((catL c G).take K) i, dlN c ((catL c G).take K) i) = G[i] := by
  obtain ⟨e1, e2⟩ := all_at hG hk h1 k (Nat.le_refl _)
  have hend : (rOf c ((catL c G).take K) k).e ≠ 0 := by
    unfold rOf
    rw [e1]
    show (rdV (cN c G k) (((catL c G).take K).drop (eN c G k))).e ≠ 0
    rw [List.drop_take, catL_drop hk]
    by_cases hkl : k < G.length
    · rw [List.drop_eq_getElem_cons hkl]
      obtain ⟨g1, g2⟩ := hG _ (List.getElem_mem hkl)
      have hs := eN_succ (c := c) hkl
      have := h2 hkl
      exact rec_short g1 g2 (by omega)
    · rw [List.drop_eq_nil_of_le (by omega)]
      show (rdV _ (([] : List UInt8).take _)).e ≠ 0
      rw [List.take_nil]
      exact rec_nil _
  refine ⟨?_, e1, fun i hi h => (e2 i hi).2 h⟩
  have hko := kOf_end c ((catL c G).take K)
  by_cases hlt : kOf c ((catL c G).take K) < k
  · exact absurd (e2 _ hlt).1 hko
  · by_cases hgt : k < kOf c ((catL c G).take K)
    · exact absurd (kOf_ok hgt) hend
    · omega
/-- those of the records that may be written -/
def okR (p : Record × Rc) : Bool := Nat.beq (chk p.2.1 p.2.2.length) 0
def zf (rs : List Record) (A : List Rc) (i : Nat) : List (Record × Rc) := ((rs.zip A).take i).filter okR
def gl (rs : List Record) (A : List Rc) (i : Nat) : List Rc := (zf rs A i).map (·.2)
def gR (rs : List Record) (A : List Rc) (i : Nat) : List Record := (zf rs A i).map (·.1)
theorem gR_len (rs : List Record) (A : List Rc) (i : Nat) : (gR rs A i).length = (gl rs A i).length := by simp [gR, gl]
theorem zf_ok {rs : List Record} {A : List Rc} {i : Nat} (h1 : i < rs.length) (h2 : i < A.length) (h : chk A[i].1 A[i].2.length = 0) : gl rs A (i + 1) = gl rs A i ++ [A[i]] ∧ gR rs A (i + 1) = gR rs A i ++ [rs[i]] := by
  have hz : i < (rs.zip A).length := by simp; omega
  have hg : (rs.zip A)[i] = (rs[i], A[i]) := by simp
  have : zf rs A (i + 1) = zf rs A i ++ [(rs[i], A[i])] := by
    unfold zf
    rw [List.take_succ_eq_append_getElem hz, List.filter_append, hg]
    have : okR (rs[i], A[i]) = true := by unfold okR; simp only [h]; rfl
    simp only [List.filter_cons, List.filter_nil, this, if_true]
  unfold gl gR
  rw [this, List.map_append, List.map_append]; exact ⟨rfl, rfl⟩
theorem zf_no {rs : List Record} {A : List Rc} {i : Nat} (h1 : i < rs.length) (h2 : i < A.length) (h : ¬ chk A[i].1 A[i].2.length = 0) : gl rs A (i + 1) = gl rs A i ∧ gR rs A (i + 1) = gR rs A i := by
  have hz : i < (rs.zip A).length := by simp; omega
  have hg : (rs.zip A)[i] = (rs[i], A[i]) := by simp
  have : zf rs A (i + 1) = zf rs A i := by
    unfold zf
    rw [List.take_succ_eq_append_getElem hz, List.filter_append, hg]
    have : okR (rs[i], A[i]) = false := by
      unfold okR
      rw [Bool.eq_false_iff]
      intro e
      exact h (Nat.eq_of_beq_eq_true e)
    simp [List.filter_cons, List.filter_nil, this]
  unfold gl gR
  rw [this]; exact ⟨rfl, rfl⟩
theorem gl_good {rs : List Record} {A : List Rc} {i : Nat} : ∀ a ∈ gl rs A i, a.1 ≠ 0 ∧ a.2.length ≤ 8192 := by
  intro a ha
  unfold gl zf at ha
  simp only [List.mem_map, List.mem_filter] at ha
  obtain ⟨p, ⟨_, h⟩, rfl⟩ := ha
  exact chk_zero (Nat.eq_of_beq_eq_true h)
theorem gl_le {rs : List Record} {A : List Rc} {i : Nat} : (gl rs A i).length ≤ i := by
  unfold gl zf
  rw [List.length_map]
  have := List.length_filter_le okR ((rs.zip A).take i)
  rw [List.length_take] at this
  omega
theorem catL_le : ∀ (c : Dig) (G : List Rc), (∀ a ∈ G, a.1 ≠ 0 ∧ a.2.length ≤ 8192) → (catL c G).length ≤ 8300 * G.length
  | c, [], _ => Nat.zero_le _
  | c, a :: G, h => by
    have h1 := catL_le (nextV c a.1 a.2) G fun x hx => h x (List.mem_cons_of_mem _ hx)
    have h2 := (h a (List.mem_cons_self ..)).2
    have h3 := sizeV_small (UInt64.ofNat a.2.length)
    show (recL c a.1 a.2 ++ catL (nextV c a.1 a.2) G).length ≤ _
    rw [List.length_append, recL_length, bodyL_length, List.length_cons]
    omega
/-- what the good ones' data span -/
theorem gl_rd {H : IHeap} {rs : List Record} {A : List Rc} {i : Nat} (hl : rs.length = A.length) (h : ∀ (i : Nat) (h : i < rs.length) (h' : i < A.length), rs[i].kind = A[i].1 ∧ rdC H (Enc.enc rs[i].data) = some A[i].2) : rdRs H (gR rs A i) = some (gl rs A i) := by
  have hz : ∀ p ∈ zf rs A i, p.1.kind = p.2.1 ∧ rdC H (Enc.enc p.1.data) = some p.2.2 := by
    intro p hp
    have hp := List.mem_of_mem_take (List.mem_filter.1 hp).1
    obtain ⟨j, hj, rfl⟩ := List.getElem_of_mem hp
    rw [List.getElem_zip]
    exact h j (by simp at hj; omega) (by simp at hj; omega)
  refine rdRs_mk (gR_len _ _ _) fun j h1 h2 => ?_
  have h3 : j < (zf rs A i).length := by simpa [gR] using h1
  have e1 : (gR rs A i)[j] = ((zf rs A i)[j]).1 := by simp [gR]
  have e2 : (gl rs A i)[j] = ((zf rs A i)[j]).2 := by simp [gl]
  rw [e1, e2]
  exact hz _ (List.getElem_mem _)
end Go.Proofs.Ytdnnojblneccdaa
