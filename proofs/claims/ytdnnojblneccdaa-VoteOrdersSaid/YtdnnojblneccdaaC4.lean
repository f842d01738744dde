/-
  The law on votes' order.
-/
import Derived.Test.YtdnnojblneccdaaP1
namespace Go.Proofs.Ytdnnojblneccdaa
open Go
open Enc (enc)
set_option maxRecDepth 100000
set_option linter.unusedSimpArgs false

theorem lawV1 (a b c : Vote) : ((((cmpV a b != -cmpV b a || decide (cmpV a b < -1)) || decide (1 < cmpV a b)) || ((cmpV a b == 0) != decide ({ a with sig := Vector.replicate 64 (0 : UInt8) } = { b with sig := Vector.replicate 64 (0 : UInt8) }))) ||
    ((decide (cmpV a b < 0) && decide (cmpV b c < 0)) && decide (0 ≤ cmpV a c))) = false := by
  have h1 := isCmpV.anti a b
  have h2 := isCmpV.rng a b
  have h3 : ((cmpV a b == 0) != decide ({ a with sig := Vector.replicate 64 (0 : UInt8) } = { b with sig := Vector.replicate 64 (0 : UInt8) })) = false := by
    rw [bne_eq_false_iff_eq, Bool.eq_iff_iff, beq_iff_eq, decide_eq_true_iff, cmpV_zero, Vote.ext_iff]
    constructor
    · rintro ⟨e1, e2, e3, e4, e5, e6⟩; exact ⟨e1, e2, e3, e5, e6, e4, rfl⟩
    · rintro ⟨e1, e2, e3, e5, e6, e4, _⟩; exact ⟨e1, e2, e3, e4, e5, e6⟩
  rw [h3]
  simp only [Bool.or_eq_false_iff, Bool.and_eq_false_iff, bne_eq_false_iff_eq, decide_eq_false_iff_not, Bool.or_false]
  refine ⟨⟨⟨h1, by omega⟩, by omega⟩, ?_⟩
  by_cases c1 : cmpV a b < 0
  · by_cases c2 : cmpV b c < 0
    · right; have := isCmpV.lt c1 (Int.le_of_lt c2); omega
    · left; right; exact c2
  · left; left; exact c1
theorem lawV2 (a b : Vote) : ((against a b != (((((a.voter == b.voter) && (a.height == b.height)) && (a.round == b.round)) && (a.phase == b.phase)) && (!(a.value == b.value) || (a.proof != b.proof)))) || (against a b != against b a)) = false := by
  have h : against a b = against b a := by
    have e1 : (a.voter == b.voter) = (b.voter == a.voter) := by rw [Bool.eq_iff_iff]; simp only [beq_iff_eq]; exact eq_comm
    have e2 : (a.height == b.height) = (b.height == a.height) := by rw [Bool.eq_iff_iff]; simp only [beq_iff_eq]; exact eq_comm
    have e3 : (a.round == b.round) = (b.round == a.round) := by rw [Bool.eq_iff_iff]; simp only [beq_iff_eq]; exact eq_comm
    have e4 : (a.phase == b.phase) = (b.phase == a.phase) := by rw [Bool.eq_iff_iff]; simp only [beq_iff_eq]; exact eq_comm
    have e5 : (a.value == b.value) = (b.value == a.value) := by rw [Bool.eq_iff_iff]; simp only [beq_iff_eq]; exact eq_comm
    have e6 : (a.proof != b.proof) = (b.proof != a.proof) := by rw [Bool.eq_iff_iff]; simp only [bne_iff_ne]; exact ne_comm
    unfold against
    rw [e1, e2, e3, e4, e5, e6]
  rw [← h, bne_self_eq_false, Bool.or_false]
  unfold against
  rw [bne_self_eq_false]
theorem orL_ne {x : Int} {l : List Int} (h : x ≠ 0) : orL (x :: l) = x := by simp only [orL]; rw [if_pos h]
theorem orL_z {x : Int} {l : List Int} (h : x = 0) : orL (x :: l) = orL l := by simp only [orL]; rw [if_neg (by simpa using h)]
theorem cmp64_neg {x y : UInt64} : (decide (cmp64 x y < 0) == decide (x < y)) = true := by
  rw [beq_iff_eq, Bool.eq_iff_iff, decide_eq_true_iff, decide_eq_true_iff]
  unfold cmp64
  split
  · simp [*]
  · split <;> simp [*]
theorem cmpI_neg {x y : Int} : (decide (cmpI x y < 0) == decide (x < y)) = true := by
  rw [beq_iff_eq, Bool.eq_iff_iff, decide_eq_true_iff, decide_eq_true_iff]
  unfold cmpI
  split
  · simp [*]
  · split <;> simp [*]
theorem lawV3 (a b : Vote) (h : (a.height != b.height) = true) : (decide (cmpV a b < 0) == decide (a.height < b.height)) = true := by
  have h1 : cmp64 a.height b.height ≠ 0 := fun e => (bne_iff_ne.1 h) (cmp64_zero.1 e)
  rw [cmpV, cmpVs, orL_ne h1]; exact cmp64_neg
theorem lawV4 (a b : Vote) (h : (a.height != b.height) = false) (h2 : (a.round != b.round) = true) : (decide (cmpV a b < 0) == decide (a.round < b.round)) = true := by
  have h1 : cmp64 a.height b.height = 0 := cmp64_zero.2 (bne_eq_false_iff_eq.1 h)
  have h3 : cmp64 a.round b.round ≠ 0 := fun e => (bne_iff_ne.1 h2) (cmp64_zero.1 e)
  rw [cmpV, cmpVs, orL_z h1, orL_ne h3]; exact cmp64_neg
theorem lawV5 (a b : Vote) (h : (a.height != b.height) = false) (h2 : (a.round != b.round) = false) (h3 : (a.phase != b.phase) = true) : (decide (cmpV a b < 0) == decide (a.phase < b.phase)) = true := by
  have h1 : cmp64 a.height b.height = 0 := cmp64_zero.2 (bne_eq_false_iff_eq.1 h)
  have h4 : cmp64 a.round b.round = 0 := cmp64_zero.2 (bne_eq_false_iff_eq.1 h2)
  have h5 : cmpI a.phase b.phase ≠ 0 := fun e => (bne_iff_ne.1 h3) (cmpI_zero.1 e)
  rw [cmpV, cmpVs, orL_z h1, orL_z h4, orL_ne h5]; exact cmpI_neg
noncomputable def F3 : FnI := fn3 fun (_ _ _ : Vote) => .bool true
-- headwater/headwaterlaw20.VoteOrders ['Vote', 'Vote', 'Vote'] -> ['Bool'], results [6]
theorem R3 : Ref Try.prog 3 F3 := by
  refine Ref.of_iw dok Try.func3 rfl (by kernel_rfl) fun args H n e hF => ?_
  obtain ⟨a, b, c, rfl, rfl⟩ := fn3_inv hF
  have hr1 := isCmpV.rng b a
  refine ⟨Nat.le_of_ble_eq_true rfl, ?_⟩
  simp only [idxL]
  have hE : Env Try.prog [(14, F14), (15, F15), (16, F16)] D K := env (fnsOk_cons R14 (fnsOk_cons R15 (fnsOk_cons R16 fnsOk_nil)))
  refine IW.seq ?_
  refine IW.reg hE ?_
  refine vcS_new rfl rfl (ox_box (pl rfl) (cellsOf_Vote _)) (.inl (by omega)) ?_
  refine vcS_new rfl rfl (ox_box (pl rfl) (cellsOf_Vote _)) (.inl (by omega)) ?_
  refine vcS_new rfl rfl (ox_box (pl rfl) (cellsOf_Vote _)) (.inl (by omega)) ?_
  refine vcS_val rfl rfl (ox_assign (pl rfl)) ?_
  refine vcS_nil ?_
  refine IW.seq ?_
  refine IW.seq ?_
  refine IW.reg hE ?_
  refine vcS_val rfl rfl (ox_fn rfl rfl (fn0_ev _ _ _)) ?_
  refine vcS_val rfl rfl (ox_un (pl rfl) (uo_not _)) ?_
  refine vcS_nil ?_
  refine IW.cond rfl (fun hc1 => ?_) (fun hc1 => ?_)
  · cases hc1
  · refine IW.skip ?_
    refine IW.seq ?_
    refine IW.drw hE mixed [[],[],[],[],[0,2,3],[0,1,2,3,4]] (by kernel_rfl) (vcE_start ?_)
    refine vcE_val rfl rfl rfl rfl (ox_load (pl rfl) D_29 (hp_sk (by omega) (hp_sk (by omega) (hp_eq _ _ _ _))) (rd_29 _ rfl rfl)) rfl (si_load (pl rfl)) (lt1 (by omega)) (trivial) ?_
    refine vcE_val rfl rfl rfl rfl (ox_load (pl rfl) D_29 (hp_sk (by omega) (hp_eq _ _ _ _)) (rd_29 _ rfl rfl)) rfl (si_load (pl rfl)) (lt1 (by omega)) (trivial) ?_
    refine vcE_new rfl rfl (fun _ => ox_allocZ D_29 (zero_29 D_29)) rfl rfl (.inl (by omega)) ?_
    refine vcE_new rfl rfl (fun _ => ox_allocZ D_29 (zero_29 D_29)) rfl rfl (.inl (by omega)) ?_
    refine vcE_sto rfl rfl rfl rfl (ox_store (pl rfl) (pl rfl) D_29 (hp_sk (by omega) (hp_eq _ _ _ _)) (cellsOf_Vote _) (Vote.cells_length _) (Vote.le _ rfl) (Vote.cells_known _) (wr_all (by rw [Vote.cells_length, Vote.cells_length]))) rfl (si_store (pl rfl)) (is_some (hp_sk (by omega) (hp_eq _ _ _ _))) (by omega) (.inl (by omega)) (⟨trivial, ⟨trivial, trivial⟩⟩) (⟨cn1 (n0 := 0) (by omega), ⟨trivial, trivial⟩⟩) ?_
    refine vcE_sto rfl rfl rfl rfl (ox_store (pl rfl) (pl rfl) D_29 (hp_sk (by omega) (hp_eq _ _ _ _)) (cellsOf_Vote _) (Vote.cells_length _) (Vote.le _ rfl) (Vote.cells_known _) (wr_all (by rw [Vote.cells_length, Vote.cells_length]))) rfl (si_store (pl rfl)) (is_some (hp_sk (by omega) (hp_eq _ _ _ _))) (by omega) (.inl (by omega)) (⟨trivial, ⟨trivial, ⟨trivial, trivial⟩⟩⟩) (⟨trivial, ⟨trivial, ⟨trivial, trivial⟩⟩⟩) ?_
    refine vcE_nil ?_
    refine IW.seq ?_
    refine IW.reg hE ?_
    refine vcS_val rfl rfl (ox_buildA0 (cs := encs (Vector.replicate 64 (0 : UInt8)).toList) D_27 rfl D_5 rfl) ?_
    refine vcS_val rfl rfl (ox_buildA0 (cs := encs (Vector.replicate 64 (0 : UInt8)).toList) D_27 rfl D_5 rfl) ?_
    refine vcS_val rfl rfl (ox_fieldAddr (pl rfl) D_29 rfl rfl D_27 (by decide)) ?_
    refine vcS_sto rfl rfl (ox_store (pl rfl) (pl rfl) D_27 (hp_sk (by omega) (hp_eq _ _ _ _)) rfl (encs_vec_length _) (Vote.le _ rfl) (encs_known _) (wr_29_6 _ _)) (.inl (by omega)) ?_
    refine vcS_val rfl rfl (ox_fieldAddr (pl rfl) D_29 rfl rfl D_27 (by decide)) ?_
    refine vcS_sto rfl rfl (ox_store (pl rfl) (pl rfl) D_27 (hp_sk (by omega) (hp_eq _ _ _ _)) rfl (encs_vec_length _) (Vote.le _ rfl) (encs_known _) (wr_29_6 _ _)) (.inl (by omega)) ?_
    refine vcS_nil ?_
    refine IW.seq ?_
    refine IW.reg hE ?_
    refine vcS_val rfl rfl (ox_load (pl rfl) D_29 (hp_sk (by omega) (hp_sk (by omega) (hp_sk (by omega) (hp_sk (by omega) (hp_sk (by omega) (hp_sk (by omega) (hp_sk (by omega) (hp_sk (by omega) (hp_eq _ _ _ _))))))))) (rd_29 _ rfl rfl)) ?_
    refine vcS_val rfl rfl (ox_load (pl rfl) D_29 (hp_sk (by omega) (hp_sk (by omega) (hp_sk (by omega) (hp_sk (by omega) (hp_sk (by omega) (hp_sk (by omega) (hp_sk (by omega) (hp_eq _ _ _ _)))))))) (rd_29 _ rfl rfl)) ?_
    refine vcS_val rfl rfl (ox_fn rfl rfl (fn2_ev _ _ _ _ _)) ?_
    refine vcS_val rfl rfl (ox_assign (pl rfl)) ?_
    refine vcS_nil ?_
    refine IW.seq ?_
    refine IW.seq ?_
    refine IW.reg hE ?_
    refine vcS_val rfl rfl (ox_move (pl rfl)) ?_
    refine vcS_val rfl rfl (ox_load (pl rfl) D_29 (hp_sk (by omega) (hp_sk (by omega) (hp_sk (by omega) (hp_sk (by omega) (hp_sk (by omega) (hp_sk (by omega) (hp_sk (by omega) (hp_eq _ _ _ _)))))))) (rd_29 _ rfl rfl)) ?_
    refine vcS_val rfl rfl (ox_load (pl rfl) D_29 (hp_sk (by omega) (hp_sk (by omega) (hp_sk (by omega) (hp_sk (by omega) (hp_sk (by omega) (hp_sk (by omega) (hp_sk (by omega) (hp_sk (by omega) (hp_eq _ _ _ _))))))))) (rd_29 _ rfl rfl)) ?_
    refine vcS_val rfl rfl (ox_fn rfl rfl (fn2_ev _ _ _ _ _)) ?_
    refine vcS_val rfl rfl (ox_un (pl rfl) (uo_neg_i64 (by omega))) ?_
    refine vcS_val rfl rfl (ox_bin (pl rfl) (pl rfl) (bo_i64_neq _ _)) ?_
    refine vcS_val rfl rfl (ox_move (pl rfl)) ?_
    refine vcS_opt rfl (wgF rfl rfl rfl) (fun hb => ox_move (pl rfl)) ?_
    refine vcS_opt rfl (wgF rfl rfl rfl) (fun hb => ox_bin (gd hb rfl) (pl rfl) (bo_i64_lss _ _)) ?_
    refine vcS_val rfl rfl (ox_or (pl rfl) (pl rfl) (fun hc => gd (by rw [hc]; rfl) rfl)) ?_
    refine vcS_val rfl rfl (ox_move (pl rfl)) ?_
    refine vcS_opt rfl (wgF rfl rfl rfl) (fun hb => ox_move (pl rfl)) ?_
    refine vcS_opt rfl (wgF rfl rfl rfl) (fun hb => ox_bin (gd hb rfl) (pl rfl) (bo_i64_gtr _ _)) ?_
    refine vcS_val rfl rfl (ox_or (pl rfl) (pl rfl) (fun hc => gd (by rw [hc]; rfl) rfl)) ?_
    refine vcS_val rfl rfl (ox_move (pl rfl)) ?_
    refine vcS_opt rfl (wgF rfl rfl rfl) (fun hb => ox_move (pl rfl)) ?_
    refine vcS_opt rfl (wgF rfl rfl rfl) (fun hb => ox_bin (gd hb rfl) (pl rfl) (bo_i64_eql _ _)) ?_
    refine vcS_opt rfl (wgF rfl rfl rfl) (fun hb => ox_load (pl rfl) D_29 (hp_sk (by omega) (hp_eq _ _ _ _)) (rd_29 _ rfl rfl)) ?_
    refine vcS_opt rfl (wgF rfl rfl rfl) (fun hb => ox_load (pl rfl) D_29 (hp_eq _ _ _ _) (rd_29 _ rfl rfl)) ?_
    refine vcS_opt rfl (wgF rfl rfl rfl) (fun hb => ox_bin (gd hb rfl) (gd hb rfl) (bo_Vote_eql29 _ _)) ?_
    refine vcS_opt rfl (wgF rfl rfl rfl) (fun hb => ox_bin (gd hb rfl) (gd hb rfl) (bo_bool_neq D_4 rfl _ _)) ?_
    refine vcS_val rfl rfl (ox_or (pl rfl) (pl rfl) (fun hc => gd (by rw [hc]; rfl) rfl)) ?_
    refine vcS_val rfl rfl (ox_move (pl rfl)) ?_
    refine vcS_opt rfl (wgF rfl rfl rfl) (fun hb => ox_move (pl rfl)) ?_
    refine vcS_opt rfl (wgF rfl rfl rfl) (fun hb => ox_bin (gd hb rfl) (pl rfl) (bo_i64_lss _ _)) ?_
    refine vcS_opt rfl (wgF rfl rfl rfl) (fun hb => ox_move (gd hb rfl)) ?_
    refine vcS_opt rfl (wgT2 rfl rfl rfl) (fun hb => ox_load (pl rfl) D_29 (hp_sk (by omega) (hp_sk (by omega) (hp_sk (by omega) (hp_sk (by omega) (hp_sk (by omega) (hp_sk (by omega) (hp_sk (by omega) (hp_eq _ _ _ _)))))))) (rd_29 _ rfl rfl)) ?_
    refine vcS_opt rfl (wgT2 rfl rfl rfl) (fun hb => ox_load (pl rfl) D_29 (hp_sk (by omega) (hp_sk (by omega) (hp_sk (by omega) (hp_sk (by omega) (hp_sk (by omega) (hp_sk (by omega) (hp_eq _ _ _ _))))))) (rd_29 _ rfl rfl)) ?_
    refine vcS_opt rfl (wgT2 rfl rfl rfl) (fun hb => ox_fnG rfl (mp_cons (gd hb rfl) (mp_cons (gd hb rfl) mp_nil)) (fn2_ev _ _ _ _ _)) ?_
    refine vcS_opt rfl (wgT2 rfl rfl rfl) (fun hb => ox_bin (gd hb rfl) (pl rfl) (bo_i64_lss _ _)) ?_
    refine vcS_opt rfl (wgF rfl rfl rfl) (fun hb => ox_and (gd hb rfl) (fun hc => gd (by rw [hb, hc]; rfl) rfl) (pl rfl)) ?_
    refine vcS_opt rfl (wgF rfl rfl rfl) (fun hb => ox_move (gd hb rfl)) ?_
    refine vcS_opt rfl (wgT2 rfl rfl rfl) (fun hb => ox_load (pl rfl) D_29 (hp_sk (by omega) (hp_sk (by omega) (hp_sk (by omega) (hp_sk (by omega) (hp_sk (by omega) (hp_sk (by omega) (hp_sk (by omega) (hp_sk (by omega) (hp_eq _ _ _ _))))))))) (rd_29 _ rfl rfl)) ?_
    refine vcS_opt rfl (wgT2 rfl rfl rfl) (fun hb => ox_load (pl rfl) D_29 (hp_sk (by omega) (hp_sk (by omega) (hp_sk (by omega) (hp_sk (by omega) (hp_sk (by omega) (hp_sk (by omega) (hp_eq _ _ _ _))))))) (rd_29 _ rfl rfl)) ?_
    refine vcS_opt rfl (wgT2 rfl rfl rfl) (fun hb => ox_fnG rfl (mp_cons (gd hb rfl) (mp_cons (gd hb rfl) mp_nil)) (fn2_ev _ _ _ _ _)) ?_
    refine vcS_opt rfl (wgT2 rfl rfl rfl) (fun hb => ox_bin (gd hb rfl) (pl rfl) (bo_i64_geq _ _)) ?_
    refine vcS_opt rfl (wgF rfl rfl rfl) (fun hb => ox_and (gd hb rfl) (fun hc => gd (by rw [hb, hc]; rfl) rfl) (pl rfl)) ?_
    refine vcS_val rfl rfl (ox_or (pl rfl) (pl rfl) (fun hc => gd (by rw [hc]; rfl) rfl)) ?_
    refine vcS_nil ?_
    refine IW.cond rfl (fun hc2 => ?_) (fun hc2 => ?_)
    · refine IW.seq ?_
      refine IW.reg hE ?_
      refine vcS_val rfl rfl (ox_assign (pl rfl)) ?_
      refine vcS_nil ?_
      refine IW.ret ?_
      exact RetP.ret (.inr rfl) rfl rfl trivial (nomatch (lawV1 a b c).symm.trans hc2)
    · refine IW.skip ?_
      refine IW.seq ?_
      refine IW.reg hE ?_
      refine vcS_val rfl rfl (ox_fieldAddr (pl rfl) D_29 rfl rfl D_25 (by decide)) ?_
      refine vcS_val rfl rfl (ox_load (pl rfl) D_25 (hp_sk (by omega) (hp_sk (by omega) (hp_sk (by omega) (hp_sk (by omega) (hp_sk (by omega) (hp_sk (by omega) (hp_sk (by omega) (hp_sk (by omega) (hp_eq _ _ _ _))))))))) (rd_29_5 _ rfl rfl)) ?_
      refine vcS_val rfl rfl (ox_fieldAddr (pl rfl) D_29 rfl rfl D_25 (by decide)) ?_
      refine vcS_val rfl rfl (ox_load (pl rfl) D_25 (hp_sk (by omega) (hp_sk (by omega) (hp_sk (by omega) (hp_sk (by omega) (hp_sk (by omega) (hp_sk (by omega) (hp_sk (by omega) (hp_eq _ _ _ _)))))))) (rd_29_5 _ rfl rfl)) ?_
      refine vcS_val rfl rfl (ox_bin (pl rfl) (pl rfl) (eq_vec K_25 cellEq_u8 _ _)) ?_
      refine vcS_val rfl rfl (ox_move (pl rfl)) ?_
      refine vcS_opt rfl (wgT rfl rfl rfl) (fun hb => ox_fieldAddr (pl rfl) D_29 rfl rfl D_22 (by decide)) ?_
      refine vcS_opt rfl (wgT rfl rfl rfl) (fun hb => ox_load (gd hb rfl) D_22 (hp_sk (by omega) (hp_sk (by omega) (hp_sk (by omega) (hp_sk (by omega) (hp_sk (by omega) (hp_sk (by omega) (hp_sk (by omega) (hp_sk (by omega) (hp_eq _ _ _ _))))))))) (rd_29_0 _ rfl)) ?_
      refine vcS_opt rfl (wgT rfl rfl rfl) (fun hb => ox_fieldAddr (pl rfl) D_29 rfl rfl D_22 (by decide)) ?_
      refine vcS_opt rfl (wgT rfl rfl rfl) (fun hb => ox_load (gd hb rfl) D_22 (hp_sk (by omega) (hp_sk (by omega) (hp_sk (by omega) (hp_sk (by omega) (hp_sk (by omega) (hp_sk (by omega) (hp_sk (by omega) (hp_eq _ _ _ _)))))))) (rd_29_0 _ rfl)) ?_
      refine vcS_opt rfl (wgT rfl rfl rfl) (fun hb => ox_bin (gd hb rfl) (gd hb rfl) (bo_u64_eql _ _)) ?_
      refine vcS_val rfl rfl (ox_and (pl rfl) (fun hc => gd hc rfl) (pl rfl)) ?_
      refine vcS_val rfl rfl (ox_move (pl rfl)) ?_
      refine vcS_opt rfl (wgT rfl rfl rfl) (fun hb => ox_fieldAddr (pl rfl) D_29 rfl rfl D_22 (by decide)) ?_
      refine vcS_opt rfl (wgT rfl rfl rfl) (fun hb => ox_load (gd hb rfl) D_22 (hp_sk (by omega) (hp_sk (by omega) (hp_sk (by omega) (hp_sk (by omega) (hp_sk (by omega) (hp_sk (by omega) (hp_sk (by omega) (hp_sk (by omega) (hp_eq _ _ _ _))))))))) (rd_29_1 _ rfl)) ?_
      refine vcS_opt rfl (wgT rfl rfl rfl) (fun hb => ox_fieldAddr (pl rfl) D_29 rfl rfl D_22 (by decide)) ?_
      refine vcS_opt rfl (wgT rfl rfl rfl) (fun hb => ox_load (gd hb rfl) D_22 (hp_sk (by omega) (hp_sk (by omega) (hp_sk (by omega) (hp_sk (by omega) (hp_sk (by omega) (hp_sk (by omega) (hp_sk (by omega) (hp_eq _ _ _ _)))))))) (rd_29_1 _ rfl)) ?_
      refine vcS_opt rfl (wgT rfl rfl rfl) (fun hb => ox_bin (gd hb rfl) (gd hb rfl) (bo_u64_eql _ _)) ?_
      refine vcS_val rfl rfl (ox_and (pl rfl) (fun hc => gd hc rfl) (pl rfl)) ?_
      refine vcS_val rfl rfl (ox_move (pl rfl)) ?_
      refine vcS_opt rfl (wgT rfl rfl rfl) (fun hb => ox_fieldAddr (pl rfl) D_29 rfl rfl D_3 (by decide)) ?_
      refine vcS_opt rfl (wgT rfl rfl rfl) (fun hb => ox_load (gd hb rfl) D_3 (hp_sk (by omega) (hp_sk (by omega) (hp_sk (by omega) (hp_sk (by omega) (hp_sk (by omega) (hp_sk (by omega) (hp_sk (by omega) (hp_sk (by omega) (hp_eq _ _ _ _))))))))) (rd_29_2 _ rfl)) ?_
      refine vcS_opt rfl (wgT rfl rfl rfl) (fun hb => ox_fieldAddr (pl rfl) D_29 rfl rfl D_3 (by decide)) ?_
      refine vcS_opt rfl (wgT rfl rfl rfl) (fun hb => ox_load (gd hb rfl) D_3 (hp_sk (by omega) (hp_sk (by omega) (hp_sk (by omega) (hp_sk (by omega) (hp_sk (by omega) (hp_sk (by omega) (hp_sk (by omega) (hp_eq _ _ _ _)))))))) (rd_29_2 _ rfl)) ?_
      refine vcS_opt rfl (wgT rfl rfl rfl) (fun hb => ox_bin (gd hb rfl) (gd hb rfl) (bo_i64_eql _ _)) ?_
      refine vcS_val rfl rfl (ox_and (pl rfl) (fun hc => gd hc rfl) (pl rfl)) ?_
      refine vcS_val rfl rfl (ox_assign (pl rfl)) ?_
      refine vcS_nil ?_
      refine IW.seq ?_
      refine IW.seq ?_
      refine IW.drw hE mixed [[],[],[0,1],[],[0,1,2,3],[0,1,2,3,4],[0,1,2,3,4,5],[0,1,2,3,4],[0,1,2,3,4,7],[0,1,2,3,4,5,6,7,8],[0,1,2,3,4,5,6,7,8,9],[0,1,2,3,4,5,6,7,8,9,10],[0,1,2,3,4,5,6,7,8,9,10,11],[0,1,2,3,4,5,6,7,8,9,10],[0,1,2,3,4,5,6,7,8,9,10,13],[0,1,2,3,4,5,6,7,8,9,10,11,12,13,14],[0,1,2,3,4,5,6,7,8,9,10,11,12,13,14,15],[0,1,2,3,4,5,6,7,8,9,10,11,12,13,14,15,16],[0,1,2,3,4,5,6,7,8,9,10,11,12,13,14,15,16,17],[0,1,2,3,4,5,6,7,8,9,10,11,12,13,14,15,16,17,18],[0,1,2,3,4,5,6,7,8,9,10,11,12,13,14,15,16,17,18,19],[0,1,2,3,4,5,6,7,8,9,10,11,12,13,14,15,16,17,18,19],[0,1,2,3,4,5,6,7,8,9,10,11,12,13,14,15,16,17,18,19,20,21],[0,1,2,3,4,5,6,7,8,9,10,11,12,13,14,15,16,17,18,19],[0,1,2,3,4,5,6,7,8,9,10,11,12,13,14,15,16,17,18,19],[0,1,2,3,4,5,6,7,8,9,10,11,12,13,14,15,16,17,18,19,20,21,22,23,24],[0,1,2,3,4,5,6,7,8,9,10,11,12,13,14,15,16,17,18,19,20,21,22,23,24,25],[0,1,2,3,4,5,6,7,8,9,10,11,12,13,14,15,16,17,18,19,20,21,22,23,24,25,26]] (by kernel_rfl) (vcE_start ?_)
      refine vcE_val rfl rfl rfl rfl (ox_load (pl rfl) D_29 (hp_sk (by omega) (hp_sk (by omega) (hp_sk (by omega) (hp_sk (by omega) (hp_sk (by omega) (hp_sk (by omega) (hp_sk (by omega) (hp_sk (by omega) (hp_eq _ _ _ _))))))))) (rd_29 _ rfl rfl)) rfl (si_load (pl rfl)) (lt1 (by omega)) (trivial) ?_
      refine vcE_val rfl rfl rfl rfl (ox_load (pl rfl) D_29 (hp_sk (by omega) (hp_sk (by omega) (hp_sk (by omega) (hp_sk (by omega) (hp_sk (by omega) (hp_sk (by omega) (hp_sk (by omega) (hp_eq _ _ _ _)))))))) (rd_29 _ rfl rfl)) rfl (si_load (pl rfl)) (lt1 (by omega)) (trivial) ?_
      refine vcE_call rfl rfl rfl rfl (ox_fn rfl rfl (fn2_ev _ _ _ _ _)) rfl ltu0 (trivial) ?_
      refine vcE_bl rfl rfl (fun _ => ox_move (pl rfl)) rfl rfl ?_
      refine vcE_bl rfl rfl (fun _ => ox_move (pl rfl)) rfl rfl ?_
      refine vcE_opt rfl (wgT rfl rfl rfl) rfl rfl (fun hb => ox_fieldAddr (pl rfl) D_29 rfl rfl D_24 (by decide)) (fun hb => vi_bl rfl rfl) hf0 (trivial) ?_
      refine vcE_opt rfl (wgT rfl rfl rfl) rfl rfl (fun hb => ox_load (gd hb rfl) D_24 (hp_sk (by omega) (hp_sk (by omega) (hp_sk (by omega) (hp_sk (by omega) (hp_sk (by omega) (hp_sk (by omega) (hp_sk (by omega) (hp_sk (by omega) (hp_eq _ _ _ _))))))))) (rd_29_3 _ rfl rfl)) (fun hb => vi_load (gd hb rfl)) (hf1 (by omega)) (trivial) ?_
      refine vcE_opt rfl (wgT rfl rfl rfl) rfl rfl (fun hb => ox_fieldAddr (pl rfl) D_29 rfl rfl D_24 (by decide)) (fun hb => vi_bl rfl rfl) hf0 (trivial) ?_
      refine vcE_opt rfl (wgT rfl rfl rfl) rfl rfl (fun hb => ox_load (gd hb rfl) D_24 (hp_sk (by omega) (hp_sk (by omega) (hp_sk (by omega) (hp_sk (by omega) (hp_sk (by omega) (hp_sk (by omega) (hp_sk (by omega) (hp_eq _ _ _ _)))))))) (rd_29_3 _ rfl rfl)) (fun hb => vi_load (gd hb rfl)) (hf1 (by omega)) (trivial) ?_
      refine vcE_opt rfl (wgT rfl rfl rfl) rfl rfl (fun hb => ox_bin (gd hb rfl) (gd hb rfl) (ne_vec K_24 cellEq_u8 _ _)) (fun hb => vi_bl rfl rfl) hf0 (trivial) ?_
      refine vcE_opt rfl (wgT rfl rfl rfl) rfl rfl (fun hb => ox_move (gd hb rfl)) (fun hb => vi_bl rfl rfl) hf0 (trivial) ?_
      refine vcE_opt rfl (wgF2 rfl rfl rfl) rfl rfl (fun hb => ox_fieldAddr (pl rfl) D_29 rfl rfl D_22 (by decide)) (fun hb => vi_bl rfl rfl) hf0 (trivial) ?_
      refine vcE_opt rfl (wgF2 rfl rfl rfl) rfl rfl (fun hb => ox_load (gd hb rfl) D_22 (hp_sk (by omega) (hp_sk (by omega) (hp_sk (by omega) (hp_sk (by omega) (hp_sk (by omega) (hp_sk (by omega) (hp_sk (by omega) (hp_sk (by omega) (hp_eq _ _ _ _))))))))) (rd_29_4 _ rfl)) (fun hb => vi_load (gd hb rfl)) (hf1 (by omega)) (trivial) ?_
      refine vcE_opt rfl (wgF2 rfl rfl rfl) rfl rfl (fun hb => ox_fieldAddr (pl rfl) D_29 rfl rfl D_22 (by decide)) (fun hb => vi_bl rfl rfl) hf0 (trivial) ?_
      refine vcE_opt rfl (wgF2 rfl rfl rfl) rfl rfl (fun hb => ox_load (gd hb rfl) D_22 (hp_sk (by omega) (hp_sk (by omega) (hp_sk (by omega) (hp_sk (by omega) (hp_sk (by omega) (hp_sk (by omega) (hp_sk (by omega) (hp_eq _ _ _ _)))))))) (rd_29_4 _ rfl)) (fun hb => vi_load (gd hb rfl)) (hf1 (by omega)) (trivial) ?_
      refine vcE_opt rfl (wgF2 rfl rfl rfl) rfl rfl (fun hb => ox_bin (gd hb rfl) (gd hb rfl) (bo_u64_neq _ _)) (fun hb => vi_bl rfl rfl) hf0 (trivial) ?_
      refine vcE_opt rfl (wgT rfl rfl rfl) rfl rfl (fun hb => ox_or (gd hb rfl) (pl rfl) (fun hc => gd (by rw [hb, hc]; rfl) rfl)) (fun hb => vi_bl rfl rfl) hf0 (trivial) ?_
      refine vcE_bl rfl rfl (fun _ => ox_and (pl rfl) (fun hc => gd hc rfl) (pl rfl)) rfl rfl ?_
      refine vcE_bl rfl rfl (fun _ => ox_bin (pl rfl) (pl rfl) (bo_bool_neq D_4 rfl _ _)) rfl rfl ?_
      refine vcE_bl rfl rfl (fun _ => ox_move (pl rfl)) rfl rfl ?_
      refine vcE_opt rfl (wgF rfl rfl rfl) rfl rfl (fun hb => ox_load (pl rfl) D_29 (hp_sk (by omega) (hp_sk (by omega) (hp_sk (by omega) (hp_sk (by omega) (hp_sk (by omega) (hp_sk (by omega) (hp_sk (by omega) (hp_sk (by omega) (hp_eq _ _ _ _))))))))) (rd_29 _ rfl rfl)) (fun hb => vi_load (pl rfl)) (hf1 (by omega)) (trivial) ?_
      refine vcE_opt rfl (wgF rfl rfl rfl) rfl rfl (fun hb => ox_load (pl rfl) D_29 (hp_sk (by omega) (hp_sk (by omega) (hp_sk (by omega) (hp_sk (by omega) (hp_sk (by omega) (hp_sk (by omega) (hp_sk (by omega) (hp_eq _ _ _ _)))))))) (rd_29 _ rfl rfl)) (fun hb => vi_load (pl rfl)) (hf1 (by omega)) (trivial) ?_
      refine vcE_opt rfl (wgF rfl rfl rfl) rfl rfl (fun hb => ox_fnG rfl (mp_cons (gd hb rfl) (mp_cons (gd hb rfl) mp_nil)) (fn2_ev _ _ _ _ _)) (fun hb => vi_call rfl) hfa0 (trivial) ?_
      refine vcE_opt rfl (wgF rfl rfl rfl) rfl rfl (fun hb => ox_load (pl rfl) D_29 (hp_sk (by omega) (hp_sk (by omega) (hp_sk (by omega) (hp_sk (by omega) (hp_sk (by omega) (hp_sk (by omega) (hp_sk (by omega) (hp_eq _ _ _ _)))))))) (rd_29 _ rfl rfl)) (fun hb => vi_load (pl rfl)) (hf1 (by omega)) (trivial) ?_
      refine vcE_opt rfl (wgF rfl rfl rfl) rfl rfl (fun hb => ox_load (pl rfl) D_29 (hp_sk (by omega) (hp_sk (by omega) (hp_sk (by omega) (hp_sk (by omega) (hp_sk (by omega) (hp_sk (by omega) (hp_sk (by omega) (hp_sk (by omega) (hp_eq _ _ _ _))))))))) (rd_29 _ rfl rfl)) (fun hb => vi_load (pl rfl)) (hf1 (by omega)) (trivial) ?_
      refine vcE_opt rfl (wgF rfl rfl rfl) rfl rfl (fun hb => ox_fnG rfl (mp_cons (gd hb rfl) (mp_cons (gd hb rfl) mp_nil)) (fn2_ev _ _ _ _ _)) (fun hb => vi_call rfl) hfa0 (trivial) ?_
      refine vcE_opt rfl (wgF rfl rfl rfl) rfl rfl (fun hb => ox_bin (gd hb rfl) (gd hb rfl) (bo_bool_neq D_4 rfl _ _)) (fun hb => vi_bl rfl rfl) hf0 (trivial) ?_
      refine vcE_bl rfl rfl (fun _ => ox_or (pl rfl) (pl rfl) (fun hc => gd (by rw [hc]; rfl) rfl)) rfl rfl ?_
      refine vcE_nil ?_
      refine IW.cond rfl (fun hc3 => ?_) (fun hc3 => ?_)
      · refine IW.seq ?_
        refine IW.reg hE ?_
        refine vcS_val rfl rfl (ox_assign (pl rfl)) ?_
        refine vcS_nil ?_
        refine IW.ret ?_
        exact RetP.ret (.inr rfl) rfl rfl trivial (nomatch (lawV2 a b).symm.trans hc3)
      · refine IW.skip ?_
        refine IW.seq ?_
        refine IW.block ?_
        refine IW.seq ?_
        refine IW.reg hE ?_
        refine vcS_val rfl rfl (ox_fieldAddr (pl rfl) D_29 rfl rfl D_22 (by decide)) ?_
        refine vcS_val rfl rfl (ox_load (pl rfl) D_22 (hp_sk (by omega) (hp_sk (by omega) (hp_sk (by omega) (hp_sk (by omega) (hp_sk (by omega) (hp_sk (by omega) (hp_sk (by omega) (hp_sk (by omega) (hp_eq _ _ _ _))))))))) (rd_29_0 _ rfl)) ?_
        refine vcS_val rfl rfl (ox_fieldAddr (pl rfl) D_29 rfl rfl D_22 (by decide)) ?_
        refine vcS_val rfl rfl (ox_load (pl rfl) D_22 (hp_sk (by omega) (hp_sk (by omega) (hp_sk (by omega) (hp_sk (by omega) (hp_sk (by omega) (hp_sk (by omega) (hp_sk (by omega) (hp_eq _ _ _ _)))))))) (rd_29_0 _ rfl)) ?_
        refine vcS_val rfl rfl (ox_bin (pl rfl) (pl rfl) (bo_u64_neq _ _)) ?_
        refine vcS_val rfl rfl (ox_assign (pl rfl)) ?_
        refine vcS_nil ?_
        refine IW.cond rfl (fun hc4 => ?_) (fun hc4 => ?_)
        · refine IW.seq ?_
          refine IW.reg hE ?_
          refine vcS_val rfl rfl (ox_move (pl rfl)) ?_
          refine vcS_val rfl rfl (ox_bin (pl rfl) (pl rfl) (bo_i64_lss _ _)) ?_
          refine vcS_val rfl rfl (ox_fieldAddr (pl rfl) D_29 rfl rfl D_22 (by decide)) ?_
          refine vcS_val rfl rfl (ox_load (pl rfl) D_22 (hp_sk (by omega) (hp_sk (by omega) (hp_sk (by omega) (hp_sk (by omega) (hp_sk (by omega) (hp_sk (by omega) (hp_sk (by omega) (hp_sk (by omega) (hp_eq _ _ _ _))))))))) (rd_29_0 _ rfl)) ?_
          refine vcS_val rfl rfl (ox_fieldAddr (pl rfl) D_29 rfl rfl D_22 (by decide)) ?_
          refine vcS_val rfl rfl (ox_load (pl rfl) D_22 (hp_sk (by omega) (hp_sk (by omega) (hp_sk (by omega) (hp_sk (by omega) (hp_sk (by omega) (hp_sk (by omega) (hp_sk (by omega) (hp_eq _ _ _ _)))))))) (rd_29_0 _ rfl)) ?_
          refine vcS_val rfl rfl (ox_bin (pl rfl) (pl rfl) (bo_u64_lss _ _)) ?_
          refine vcS_val rfl rfl (ox_bin (pl rfl) (pl rfl) (bo_bool_eql D_4 rfl _ _)) ?_
          refine vcS_val rfl rfl (ox_assign (pl rfl)) ?_
          refine vcS_nil ?_
          refine IW.ret ?_
          refine retB ?_
          exact RetP.ret (.inr rfl) rfl rfl trivial (congrArg Value.bool (lawV3 a b hc4))
        · refine IW.seq ?_
          refine IW.reg hE ?_
          refine vcS_val rfl rfl (ox_fieldAddr (pl rfl) D_29 rfl rfl D_22 (by decide)) ?_
          refine vcS_val rfl rfl (ox_load (pl rfl) D_22 (hp_sk (by omega) (hp_sk (by omega) (hp_sk (by omega) (hp_sk (by omega) (hp_sk (by omega) (hp_sk (by omega) (hp_sk (by omega) (hp_sk (by omega) (hp_eq _ _ _ _))))))))) (rd_29_1 _ rfl)) ?_
          refine vcS_val rfl rfl (ox_fieldAddr (pl rfl) D_29 rfl rfl D_22 (by decide)) ?_
          refine vcS_val rfl rfl (ox_load (pl rfl) D_22 (hp_sk (by omega) (hp_sk (by omega) (hp_sk (by omega) (hp_sk (by omega) (hp_sk (by omega) (hp_sk (by omega) (hp_sk (by omega) (hp_eq _ _ _ _)))))))) (rd_29_1 _ rfl)) ?_
          refine vcS_val rfl rfl (ox_bin (pl rfl) (pl rfl) (bo_u64_neq _ _)) ?_
          refine vcS_val rfl rfl (ox_assign (pl rfl)) ?_
          refine vcS_nil ?_
          refine IW.cond rfl (fun hc5 => ?_) (fun hc5 => ?_)
          · refine IW.seq ?_
            refine IW.reg hE ?_
            refine vcS_val rfl rfl (ox_move (pl rfl)) ?_
            refine vcS_val rfl rfl (ox_bin (pl rfl) (pl rfl) (bo_i64_lss _ _)) ?_
            refine vcS_val rfl rfl (ox_fieldAddr (pl rfl) D_29 rfl rfl D_22 (by decide)) ?_
            refine vcS_val rfl rfl (ox_load (pl rfl) D_22 (hp_sk (by omega) (hp_sk (by omega) (hp_sk (by omega) (hp_sk (by omega) (hp_sk (by omega) (hp_sk (by omega) (hp_sk (by omega) (hp_sk (by omega) (hp_eq _ _ _ _))))))))) (rd_29_1 _ rfl)) ?_
            refine vcS_val rfl rfl (ox_fieldAddr (pl rfl) D_29 rfl rfl D_22 (by decide)) ?_
            refine vcS_val rfl rfl (ox_load (pl rfl) D_22 (hp_sk (by omega) (hp_sk (by omega) (hp_sk (by omega) (hp_sk (by omega) (hp_sk (by omega) (hp_sk (by omega) (hp_sk (by omega) (hp_eq _ _ _ _)))))))) (rd_29_1 _ rfl)) ?_
            refine vcS_val rfl rfl (ox_bin (pl rfl) (pl rfl) (bo_u64_lss _ _)) ?_
            refine vcS_val rfl rfl (ox_bin (pl rfl) (pl rfl) (bo_bool_eql D_4 rfl _ _)) ?_
            refine vcS_val rfl rfl (ox_assign (pl rfl)) ?_
            refine vcS_nil ?_
            refine IW.ret ?_
            refine retB ?_
            exact RetP.ret (.inr rfl) rfl rfl trivial (congrArg Value.bool (lawV4 a b hc4 hc5))
          · refine IW.seq ?_
            refine IW.reg hE ?_
            refine vcS_val rfl rfl (ox_fieldAddr (pl rfl) D_29 rfl rfl D_3 (by decide)) ?_
            refine vcS_val rfl rfl (ox_load (pl rfl) D_3 (hp_sk (by omega) (hp_sk (by omega) (hp_sk (by omega) (hp_sk (by omega) (hp_sk (by omega) (hp_sk (by omega) (hp_sk (by omega) (hp_sk (by omega) (hp_eq _ _ _ _))))))))) (rd_29_2 _ rfl)) ?_
            refine vcS_val rfl rfl (ox_fieldAddr (pl rfl) D_29 rfl rfl D_3 (by decide)) ?_
            refine vcS_val rfl rfl (ox_load (pl rfl) D_3 (hp_sk (by omega) (hp_sk (by omega) (hp_sk (by omega) (hp_sk (by omega) (hp_sk (by omega) (hp_sk (by omega) (hp_sk (by omega) (hp_eq _ _ _ _)))))))) (rd_29_2 _ rfl)) ?_
            refine vcS_val rfl rfl (ox_bin (pl rfl) (pl rfl) (bo_i64_neq _ _)) ?_
            refine vcS_val rfl rfl (ox_assign (pl rfl)) ?_
            refine vcS_nil ?_
            refine IW.cond rfl (fun hc6 => ?_) (fun hc6 => ?_)
            · refine IW.seq ?_
              refine IW.reg hE ?_
              refine vcS_val rfl rfl (ox_move (pl rfl)) ?_
              refine vcS_val rfl rfl (ox_bin (pl rfl) (pl rfl) (bo_i64_lss _ _)) ?_
              refine vcS_val rfl rfl (ox_fieldAddr (pl rfl) D_29 rfl rfl D_3 (by decide)) ?_
              refine vcS_val rfl rfl (ox_load (pl rfl) D_3 (hp_sk (by omega) (hp_sk (by omega) (hp_sk (by omega) (hp_sk (by omega) (hp_sk (by omega) (hp_sk (by omega) (hp_sk (by omega) (hp_sk (by omega) (hp_eq _ _ _ _))))))))) (rd_29_2 _ rfl)) ?_
              refine vcS_val rfl rfl (ox_fieldAddr (pl rfl) D_29 rfl rfl D_3 (by decide)) ?_
              refine vcS_val rfl rfl (ox_load (pl rfl) D_3 (hp_sk (by omega) (hp_sk (by omega) (hp_sk (by omega) (hp_sk (by omega) (hp_sk (by omega) (hp_sk (by omega) (hp_sk (by omega) (hp_eq _ _ _ _)))))))) (rd_29_2 _ rfl)) ?_
              refine vcS_val rfl rfl (ox_bin (pl rfl) (pl rfl) (bo_i64_lss _ _)) ?_
              refine vcS_val rfl rfl (ox_bin (pl rfl) (pl rfl) (bo_bool_eql D_4 rfl _ _)) ?_
              refine vcS_val rfl rfl (ox_assign (pl rfl)) ?_
              refine vcS_nil ?_
              refine IW.ret ?_
              refine retB ?_
              exact RetP.ret (.inr rfl) rfl rfl trivial (congrArg Value.bool (lawV5 a b hc4 hc5 hc6))
            · refine IW.skip ?_
              refine IW.nilB ?_
              refine IW.seq ?_
              refine IW.reg hE ?_
              refine vcS_val rfl rfl (ox_assign (pl rfl)) ?_
              refine vcS_nil ?_
              refine IW.ret ?_
              exact RetP.ret (.inr rfl) rfl rfl trivial (rfl)
end Go.Proofs.Ytdnnojblneccdaa
