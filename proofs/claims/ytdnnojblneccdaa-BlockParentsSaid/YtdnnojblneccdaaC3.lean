/-
  Votes: Compare, Against, Check.
-/
import Derived.Test.YtdnnojblneccdaaC2
import Derived.Test.YtdnnojblneccdaaE33
namespace Go.Proofs.Ytdnnojblneccdaa
set_option linter.unusedSimpArgs false
set_option linter.unusedVariables false
open Go
open Enc (enc)
set_option maxRecDepth 100000

def cmpVs (a b : Vote) : List Int := [cmp64 a.height b.height, cmp64 a.round b.round, cmpI a.phase b.phase, cmpL a.voter.toList b.voter.toList, cmpL a.value.toList b.value.toList, cmp64 a.proof b.proof]
def cmpV (a b : Vote) : Int := orL (cmpVs a b)
noncomputable def F15 : FnI := fn2 fun a b => .int .i64 (cmpV a b)
-- headwater/vote.Compare ['Vote', 'Vote'] -> ['Int'], results [4]
theorem R15 : Ref Try.prog 15 F15 := by
  refine Ref.of_iw dok Try.func15 rfl (by kernel_rfl) fun args H n e hF => ?_
  obtain ⟨a, b, rfl, rfl⟩ := fn2_inv hF
  refine ⟨Nat.le_of_ble_eq_true rfl, ?_⟩
  simp only [idxL]
  have hE : Env Try.prog [(60, F60), (61, F61), (62, F62), (63, F63)] D K := env (fnsOk_cons R60 (fnsOk_cons R61 (fnsOk_cons R62 (fnsOk_cons R63 fnsOk_nil))))
  refine IW.seq ?_
  refine IW.reg hE ?_
  refine vcS_new rfl rfl (ox_box (pl rfl) (cellsOf_Vote _)) (.inl (by omega)) ?_
  refine vcS_new rfl rfl (ox_box (pl rfl) (cellsOf_Vote _)) (.inl (by omega)) ?_
  refine vcS_val rfl rfl (ox_assign (pl rfl)) ?_
  refine vcS_nil ?_
  refine IW.seq ?_
  refine IW.drw hE mixed [[],[0],[],[2],[0,1,2,3],[],[5],[],[7],[0,1,2,3,4,5,6,7,8],[],[10],[],[12],[0,1,2,3,4,5,6,7,8,9,10,11,12,13],[],[15],[],[17],[0,1,2,3,4,5,6,7,8,9,10,11,12,13,14,15,16,17,18],[],[20],[],[22],[0,1,2,3,4,5,6,7,8,9,10,11,12,13,14,15,16,17,18,19,20,21,22,23],[],[25],[],[27],[0,1,2,3,4,5,6,7,8,9,10,11,12,13,14,15,16,17,18,19,20,21,22,23,24,25,26,27,28],[0,1,2,3,4,5,6,7,8,9,10,11,12,13,14,15,16,17,18,19,20,21,22,23,24,25,26,27,28,29],[],[0,1,2,3,4,5,6,7,8,9,10,11,12,13,14,15,16,17,18,19,20,21,22,23,24,25,26,27,28,29,30,31]] (by kernel_rfl) (vcE_start ?_)
  refine vcE_bl rfl rfl (fun _ => ox_fieldAddr (pl rfl) D_29 rfl rfl D_22 (by decide)) rfl rfl ?_
  refine vcE_val rfl rfl rfl rfl (ox_load (pl rfl) D_22 (hp_sk (by omega) (hp_eq _ _ _ _)) (rd_29_0 _ rfl)) rfl (si_load (pl rfl)) (lt1 (by omega)) (trivial) ?_
  refine vcE_bl rfl rfl (fun _ => ox_fieldAddr (pl rfl) D_29 rfl rfl D_22 (by decide)) rfl rfl ?_
  refine vcE_val rfl rfl rfl rfl (ox_load (pl rfl) D_22 (hp_eq _ _ _ _) (rd_29_0 _ rfl)) rfl (si_load (pl rfl)) (lt1 (by omega)) (trivial) ?_
  refine vcE_call rfl rfl rfl rfl (ox_fn rfl rfl (fn2_ev _ _ _ _ _)) rfl ltu0 (trivial) ?_
  refine vcE_bl rfl rfl (fun _ => ox_fieldAddr (pl rfl) D_29 rfl rfl D_22 (by decide)) rfl rfl ?_
  refine vcE_val rfl rfl rfl rfl (ox_load (pl rfl) D_22 (hp_sk (by omega) (hp_eq _ _ _ _)) (rd_29_1 _ rfl)) rfl (si_load (pl rfl)) (lt1 (by omega)) (trivial) ?_
  refine vcE_bl rfl rfl (fun _ => ox_fieldAddr (pl rfl) D_29 rfl rfl D_22 (by decide)) rfl rfl ?_
  refine vcE_val rfl rfl rfl rfl (ox_load (pl rfl) D_22 (hp_eq _ _ _ _) (rd_29_1 _ rfl)) rfl (si_load (pl rfl)) (lt1 (by omega)) (trivial) ?_
  refine vcE_call rfl rfl rfl rfl (ox_fn rfl rfl (fn2_ev _ _ _ _ _)) rfl ltu0 (trivial) ?_
  refine vcE_bl rfl rfl (fun _ => ox_fieldAddr (pl rfl) D_29 rfl rfl D_3 (by decide)) rfl rfl ?_
  refine vcE_val rfl rfl rfl rfl (ox_load (pl rfl) D_3 (hp_sk (by omega) (hp_eq _ _ _ _)) (rd_29_2 _ rfl)) rfl (si_load (pl rfl)) (lt1 (by omega)) (trivial) ?_
  refine vcE_bl rfl rfl (fun _ => ox_fieldAddr (pl rfl) D_29 rfl rfl D_3 (by decide)) rfl rfl ?_
  refine vcE_val rfl rfl rfl rfl (ox_load (pl rfl) D_3 (hp_eq _ _ _ _) (rd_29_2 _ rfl)) rfl (si_load (pl rfl)) (lt1 (by omega)) (trivial) ?_
  refine vcE_call rfl rfl rfl rfl (ox_fn rfl rfl (fn2_ev _ _ _ _ _)) rfl ltu0 (trivial) ?_
  refine vcE_bl rfl rfl (fun _ => ox_fieldAddr (pl rfl) D_29 rfl rfl D_25 (by decide)) rfl rfl ?_
  refine vcE_bl rfl rfl (fun _ => ox_slAll (pl rfl) D_25 rfl D_5) rfl rfl ?_
  refine vcE_bl rfl rfl (fun _ => ox_fieldAddr (pl rfl) D_29 rfl rfl D_25 (by decide)) rfl rfl ?_
  refine vcE_bl rfl rfl (fun _ => ox_slAll (pl rfl) D_25 rfl D_5) rfl rfl ?_
  refine vcE_call rfl rfl rfl rfl (ox_fn rfl rfl (F82_ev (rs_29_5 (hp_sk (by omega) (hp_eq _ _ _ _))) (rs_29_5 (hp_eq _ _ _ _)))) rfl ltu0 (trivial) ?_
  refine vcE_bl rfl rfl (fun _ => ox_fieldAddr (pl rfl) D_29 rfl rfl D_24 (by decide)) rfl rfl ?_
  refine vcE_bl rfl rfl (fun _ => ox_slAll (pl rfl) D_24 rfl D_5) rfl rfl ?_
  refine vcE_bl rfl rfl (fun _ => ox_fieldAddr (pl rfl) D_29 rfl rfl D_24 (by decide)) rfl rfl ?_
  refine vcE_bl rfl rfl (fun _ => ox_slAll (pl rfl) D_24 rfl D_5) rfl rfl ?_
  refine vcE_call rfl rfl rfl rfl (ox_fn rfl rfl (F82_ev (rs_29_3 (hp_sk (by omega) (hp_eq _ _ _ _))) (rs_29_3 (hp_eq _ _ _ _)))) rfl ltu0 (trivial) ?_
  refine vcE_bl rfl rfl (fun _ => ox_fieldAddr (pl rfl) D_29 rfl rfl D_22 (by decide)) rfl rfl ?_
  refine vcE_val rfl rfl rfl rfl (ox_load (pl rfl) D_22 (hp_sk (by omega) (hp_eq _ _ _ _)) (rd_29_4 _ rfl)) rfl (si_load (pl rfl)) (lt1 (by omega)) (trivial) ?_
  refine vcE_bl rfl rfl (fun _ => ox_fieldAddr (pl rfl) D_29 rfl rfl D_22 (by decide)) rfl rfl ?_
  refine vcE_val rfl rfl rfl rfl (ox_load (pl rfl) D_22 (hp_eq _ _ _ _) (rd_29_4 _ rfl)) rfl (si_load (pl rfl)) (lt1 (by omega)) (trivial) ?_
  refine vcE_call rfl rfl rfl rfl (ox_fn rfl rfl (fn2_ev _ _ _ _ _)) rfl ltu0 (trivial) ?_
  refine vcE_bl rfl rfl (fun _ => ox_buildA D_90 rfl D_3 rfl rfl) rfl rfl ?_
  refine vcE_new rfl rfl (fun _ => ox_allocZ (cs := encs (Vector.replicate 6 (0 : Int)).toList) D_90 rfl) rfl rfl (.inl (by omega)) ?_
  refine vcE_sto rfl rfl rfl rfl (ox_store (pl rfl) (pl rfl) D_90 (hp_eq _ _ _ _) rfl rfl (Nat.le_of_ble_eq_true rfl) rfl rfl) rfl (si_store (pl rfl)) (is_some (hp_eq _ _ _ _)) (by omega) (.inl (by omega)) (⟨trivial, trivial⟩) (⟨trivial, ⟨trivial, ⟨trivial, ⟨trivial, ⟨trivial, ⟨trivial, ⟨trivial, ⟨trivial, ⟨trivial, ⟨trivial, ⟨trivial, ⟨trivial, ⟨trivial, ⟨trivial, trivial⟩⟩⟩⟩⟩⟩⟩⟩⟩⟩⟩⟩⟩⟩) ?_
  refine vcE_nil ?_
  refine IW.seq ?_
  refine IW.reg hE ?_
  refine vcS_val rfl rfl (ox_slAll (pl rfl) D_90 rfl D_3) ?_
  refine vcS_val rfl rfl (ox_fn rfl rfl (F63_ev (A := []) (C := []) (l := cmpVs a b) (hp_eq _ _ _ _) rfl rfl rfl (by decide))) ?_
  refine vcS_val rfl rfl (ox_assign (pl rfl)) ?_
  refine vcS_nil ?_
  refine IW.ret ?_
  exact RetP.ret (.inr rfl) rfl rfl trivial (rfl)
def against (a b : Vote) : Bool := a.voter == b.voter && a.height == b.height && a.round == b.round && a.phase == b.phase && (!(a.value == b.value) || a.proof != b.proof)
noncomputable def F16 : FnI := fn2 fun a b => .bool (against a b)
-- headwater/vote.Against ['Vote', 'Vote'] -> ['Bool'], results [4]
theorem R16 : Ref Try.prog 16 F16 := by
  refine Ref.of_iw dok Try.func16 rfl (by kernel_rfl) fun args H n e hF => ?_
  obtain ⟨a, b, rfl, rfl⟩ := fn2_inv hF
  refine ⟨Nat.le_of_ble_eq_true rfl, ?_⟩
  simp only [idxL]
  have hE : Env Try.prog [] D K := env fnsOk_nil
  refine IW.seq ?_
  refine IW.reg hE ?_
  refine vcS_new rfl rfl (ox_box (pl rfl) (cellsOf_Vote _)) (.inl (by omega)) ?_
  refine vcS_new rfl rfl (ox_box (pl rfl) (cellsOf_Vote _)) (.inl (by omega)) ?_
  refine vcS_val rfl rfl (ox_assign (pl rfl)) ?_
  refine vcS_nil ?_
  refine IW.seq ?_
  refine IW.reg hE ?_
  refine vcS_val rfl rfl (ox_fieldAddr (pl rfl) D_29 rfl rfl D_25 (by decide)) ?_
  refine vcS_val rfl rfl (ox_load (pl rfl) D_25 (hp_sk (by omega) (hp_eq _ _ _ _)) (rd_29_5 _ rfl rfl)) ?_
  refine vcS_val rfl rfl (ox_fieldAddr (pl rfl) D_29 rfl rfl D_25 (by decide)) ?_
  refine vcS_val rfl rfl (ox_load (pl rfl) D_25 (hp_eq _ _ _ _) (rd_29_5 _ rfl rfl)) ?_
  refine vcS_val rfl rfl (ox_bin (pl rfl) (pl rfl) (eq_vec K_25 cellEq_u8 _ _)) ?_
  refine vcS_val rfl rfl (ox_move (pl rfl)) ?_
  refine vcS_opt rfl (wgT rfl rfl rfl) (fun hb => ox_fieldAddr (pl rfl) D_29 rfl rfl D_22 (by decide)) ?_
  refine vcS_opt rfl (wgT rfl rfl rfl) (fun hb => ox_load (gd hb rfl) D_22 (hp_sk (by omega) (hp_eq _ _ _ _)) (rd_29_0 _ rfl)) ?_
  refine vcS_opt rfl (wgT rfl rfl rfl) (fun hb => ox_fieldAddr (pl rfl) D_29 rfl rfl D_22 (by decide)) ?_
  refine vcS_opt rfl (wgT rfl rfl rfl) (fun hb => ox_load (gd hb rfl) D_22 (hp_eq _ _ _ _) (rd_29_0 _ rfl)) ?_
  refine vcS_opt rfl (wgT rfl rfl rfl) (fun hb => ox_bin (gd hb rfl) (gd hb rfl) (bo_u64_eql _ _)) ?_
  refine vcS_val rfl rfl (ox_and (pl rfl) (fun hc => gd hc rfl) (pl rfl)) ?_
  refine vcS_val rfl rfl (ox_move (pl rfl)) ?_
  refine vcS_opt rfl (wgT rfl rfl rfl) (fun hb => ox_fieldAddr (pl rfl) D_29 rfl rfl D_22 (by decide)) ?_
  refine vcS_opt rfl (wgT rfl rfl rfl) (fun hb => ox_load (gd hb rfl) D_22 (hp_sk (by omega) (hp_eq _ _ _ _)) (rd_29_1 _ rfl)) ?_
  refine vcS_opt rfl (wgT rfl rfl rfl) (fun hb => ox_fieldAddr (pl rfl) D_29 rfl rfl D_22 (by decide)) ?_
  refine vcS_opt rfl (wgT rfl rfl rfl) (fun hb => ox_load (gd hb rfl) D_22 (hp_eq _ _ _ _) (rd_29_1 _ rfl)) ?_
  refine vcS_opt rfl (wgT rfl rfl rfl) (fun hb => ox_bin (gd hb rfl) (gd hb rfl) (bo_u64_eql _ _)) ?_
  refine vcS_val rfl rfl (ox_and (pl rfl) (fun hc => gd hc rfl) (pl rfl)) ?_
  refine vcS_val rfl rfl (ox_move (pl rfl)) ?_
  refine vcS_opt rfl (wgT rfl rfl rfl) (fun hb => ox_fieldAddr (pl rfl) D_29 rfl rfl D_3 (by decide)) ?_
  refine vcS_opt rfl (wgT rfl rfl rfl) (fun hb => ox_load (gd hb rfl) D_3 (hp_sk (by omega) (hp_eq _ _ _ _)) (rd_29_2 _ rfl)) ?_
  refine vcS_opt rfl (wgT rfl rfl rfl) (fun hb => ox_fieldAddr (pl rfl) D_29 rfl rfl D_3 (by decide)) ?_
  refine vcS_opt rfl (wgT rfl rfl rfl) (fun hb => ox_load (gd hb rfl) D_3 (hp_eq _ _ _ _) (rd_29_2 _ rfl)) ?_
  refine vcS_opt rfl (wgT rfl rfl rfl) (fun hb => ox_bin (gd hb rfl) (gd hb rfl) (bo_i64_eql _ _)) ?_
  refine vcS_val rfl rfl (ox_and (pl rfl) (fun hc => gd hc rfl) (pl rfl)) ?_
  refine vcS_val rfl rfl (ox_move (pl rfl)) ?_
  refine vcS_opt rfl (wgT rfl rfl rfl) (fun hb => ox_fieldAddr (pl rfl) D_29 rfl rfl D_24 (by decide)) ?_
  refine vcS_opt rfl (wgT rfl rfl rfl) (fun hb => ox_load (gd hb rfl) D_24 (hp_sk (by omega) (hp_eq _ _ _ _)) (rd_29_3 _ rfl rfl)) ?_
  refine vcS_opt rfl (wgT rfl rfl rfl) (fun hb => ox_fieldAddr (pl rfl) D_29 rfl rfl D_24 (by decide)) ?_
  refine vcS_opt rfl (wgT rfl rfl rfl) (fun hb => ox_load (gd hb rfl) D_24 (hp_eq _ _ _ _) (rd_29_3 _ rfl rfl)) ?_
  refine vcS_opt rfl (wgT rfl rfl rfl) (fun hb => ox_bin (gd hb rfl) (gd hb rfl) (ne_vec K_24 cellEq_u8 _ _)) ?_
  refine vcS_opt rfl (wgT rfl rfl rfl) (fun hb => ox_move (gd hb rfl)) ?_
  refine vcS_opt rfl (wgF2 rfl rfl rfl) (fun hb => ox_fieldAddr (pl rfl) D_29 rfl rfl D_22 (by decide)) ?_
  refine vcS_opt rfl (wgF2 rfl rfl rfl) (fun hb => ox_load (gd hb rfl) D_22 (hp_sk (by omega) (hp_eq _ _ _ _)) (rd_29_4 _ rfl)) ?_
  refine vcS_opt rfl (wgF2 rfl rfl rfl) (fun hb => ox_fieldAddr (pl rfl) D_29 rfl rfl D_22 (by decide)) ?_
  refine vcS_opt rfl (wgF2 rfl rfl rfl) (fun hb => ox_load (gd hb rfl) D_22 (hp_eq _ _ _ _) (rd_29_4 _ rfl)) ?_
  refine vcS_opt rfl (wgF2 rfl rfl rfl) (fun hb => ox_bin (gd hb rfl) (gd hb rfl) (bo_u64_neq _ _)) ?_
  refine vcS_opt rfl (wgT rfl rfl rfl) (fun hb => ox_or (gd hb rfl) (pl rfl) (fun hc => gd (by rw [hb, hc]; rfl) rfl)) ?_
  refine vcS_val rfl rfl (ox_and (pl rfl) (fun hc => gd hc rfl) (pl rfl)) ?_
  refine vcS_val rfl rfl (ox_assign (pl rfl)) ?_
  refine vcS_nil ?_
  refine IW.ret ?_
  exact RetP.ret (.inr rfl) rfl rfl trivial (rfl)
def checkV (a : Vote) : Int :=
  bif decide (a.height < 1) || decide (4294967295 < a.height) || decide (20 < a.round) || decide (a.phase < 1) || decide (3 < a.phase) then 2
  else bif a.phase != 1 then (bif a.proof != 0 then 2 else 0)
  else bif a.value == Vector.replicate 32 0 || decide (a.round < a.proof) then 2 else 0
noncomputable def F59 : FnI := fn1 fun a => .int .i64 (checkV a)
-- headwater/vote.Check ['Vote'] -> ['Int'], results [2]
theorem R59 : Ref Try.prog 59 F59 := by
  refine Ref.of_iw dok Try.func59 rfl (by kernel_rfl) fun args H n e hF => ?_
  obtain ⟨a, rfl, rfl⟩ := fn1_inv hF
  refine ⟨Nat.le_of_ble_eq_true rfl, ?_⟩
  simp only [idxL]
  have hE : Env Try.prog [] D K := env fnsOk_nil
  refine IW.seq ?_
  refine IW.reg hE ?_
  refine vcS_new rfl rfl (ox_box (pl rfl) (cellsOf_Vote _)) (.inl (by omega)) ?_
  refine vcS_val rfl rfl (ox_assign (pl rfl)) ?_
  refine vcS_nil ?_
  refine IW.seq ?_
  refine IW.seq ?_
  refine IW.reg hE ?_
  refine vcS_val rfl rfl (ox_fieldAddr (pl rfl) D_29 rfl rfl D_22 (by decide)) ?_
  refine vcS_val rfl rfl (ox_load (pl rfl) D_22 (hp_eq _ _ _ _) (rd_29_0 _ rfl)) ?_
  refine vcS_val rfl rfl (ox_bin (pl rfl) (pl (v := enc (1 : UInt64)) rfl) (bo_u64_lss _ _)) ?_
  refine vcS_val rfl rfl (ox_move (pl rfl)) ?_
  refine vcS_opt rfl (wgF rfl rfl rfl) (fun hb => ox_fieldAddr (pl rfl) D_29 rfl rfl D_22 (by decide)) ?_
  refine vcS_opt rfl (wgF rfl rfl rfl) (fun hb => ox_load (gd hb rfl) D_22 (hp_eq _ _ _ _) (rd_29_0 _ rfl)) ?_
  refine vcS_opt rfl (wgF rfl rfl rfl) (fun hb => ox_bin (gd hb rfl) (pl (v := enc (4294967295 : UInt64)) rfl) (bo_u64_gtr _ _)) ?_
  refine vcS_val rfl rfl (ox_or (pl rfl) (pl rfl) (fun hc => gd (by rw [hc]; rfl) rfl)) ?_
  refine vcS_val rfl rfl (ox_move (pl rfl)) ?_
  refine vcS_opt rfl (wgF rfl rfl rfl) (fun hb => ox_fieldAddr (pl rfl) D_29 rfl rfl D_22 (by decide)) ?_
  refine vcS_opt rfl (wgF rfl rfl rfl) (fun hb => ox_load (gd hb rfl) D_22 (hp_eq _ _ _ _) (rd_29_1 _ rfl)) ?_
  refine vcS_opt rfl (wgF rfl rfl rfl) (fun hb => ox_bin (gd hb rfl) (pl (v := enc (20 : UInt64)) rfl) (bo_u64_gtr _ _)) ?_
  refine vcS_val rfl rfl (ox_or (pl rfl) (pl rfl) (fun hc => gd (by rw [hc]; rfl) rfl)) ?_
  refine vcS_val rfl rfl (ox_move (pl rfl)) ?_
  refine vcS_opt rfl (wgF rfl rfl rfl) (fun hb => ox_fieldAddr (pl rfl) D_29 rfl rfl D_3 (by decide)) ?_
  refine vcS_opt rfl (wgF rfl rfl rfl) (fun hb => ox_load (gd hb rfl) D_3 (hp_eq _ _ _ _) (rd_29_2 _ rfl)) ?_
  refine vcS_opt rfl (wgF rfl rfl rfl) (fun hb => ox_bin (gd hb rfl) (pl rfl) (bo_i64_lss _ _)) ?_
  refine vcS_val rfl rfl (ox_or (pl rfl) (pl rfl) (fun hc => gd (by rw [hc]; rfl) rfl)) ?_
  refine vcS_val rfl rfl (ox_move (pl rfl)) ?_
  refine vcS_opt rfl (wgF rfl rfl rfl) (fun hb => ox_fieldAddr (pl rfl) D_29 rfl rfl D_3 (by decide)) ?_
  refine vcS_opt rfl (wgF rfl rfl rfl) (fun hb => ox_load (gd hb rfl) D_3 (hp_eq _ _ _ _) (rd_29_2 _ rfl)) ?_
  refine vcS_opt rfl (wgF rfl rfl rfl) (fun hb => ox_bin (gd hb rfl) (pl rfl) (bo_i64_gtr _ _)) ?_
  refine vcS_val rfl rfl (ox_or (pl rfl) (pl rfl) (fun hc => gd (by rw [hc]; rfl) rfl)) ?_
  refine vcS_nil ?_
  refine IW.cond rfl (fun hc1 => ?_) (fun hc1 => ?_)
  · refine IW.seq ?_
    refine IW.reg hE ?_
    refine vcS_val rfl rfl (ox_assign (pl rfl)) ?_
    refine vcS_nil ?_
    refine IW.ret ?_
    exact RetP.ret (.inr rfl) rfl rfl trivial (by simp only [checkV, *, cond_true, cond_false])
  · refine IW.skip ?_
    refine IW.seq ?_
    refine IW.seq ?_
    refine IW.reg hE ?_
    refine vcS_val rfl rfl (ox_fieldAddr (pl rfl) D_29 rfl rfl D_3 (by decide)) ?_
    refine vcS_val rfl rfl (ox_load (pl rfl) D_3 (hp_eq _ _ _ _) (rd_29_2 _ rfl)) ?_
    refine vcS_val rfl rfl (ox_bin (pl rfl) (pl rfl) (bo_i64_neq _ _)) ?_
    refine vcS_nil ?_
    refine IW.cond rfl (fun hc2 => ?_) (fun hc2 => ?_)
    · refine IW.seq ?_
      refine IW.seq ?_
      refine IW.reg hE ?_
      refine vcS_val rfl rfl (ox_fieldAddr (pl rfl) D_29 rfl rfl D_22 (by decide)) ?_
      refine vcS_val rfl rfl (ox_load (pl rfl) D_22 (hp_eq _ _ _ _) (rd_29_4 _ rfl)) ?_
      refine vcS_val rfl rfl (ox_bin (pl rfl) (pl (v := enc (0 : UInt64)) rfl) (bo_u64_neq _ _)) ?_
      refine vcS_nil ?_
      refine IW.cond rfl (fun hc3 => ?_) (fun hc3 => ?_)
      · refine IW.seq ?_
        refine IW.reg hE ?_
        refine vcS_val rfl rfl (ox_assign (pl rfl)) ?_
        refine vcS_nil ?_
        refine IW.ret ?_
        exact RetP.ret (.inr rfl) rfl rfl trivial (by simp only [checkV, *, cond_true, cond_false])
      · refine IW.skip ?_
        refine IW.seq ?_
        refine IW.reg hE ?_
        refine vcS_val rfl rfl (ox_assign (pl rfl)) ?_
        refine vcS_nil ?_
        refine IW.ret ?_
        exact RetP.ret (.inr rfl) rfl rfl trivial (by simp only [checkV, *, cond_true, cond_false])
    · refine IW.skip ?_
      refine IW.seq ?_
      refine IW.seq ?_
      refine IW.reg hE ?_
      refine vcS_val rfl rfl (ox_fieldAddr (pl rfl) D_29 rfl rfl D_24 (by decide)) ?_
      refine vcS_val rfl rfl (ox_load (pl rfl) D_24 (hp_eq _ _ _ _) (rd_29_3 _ rfl rfl)) ?_
      refine vcS_val rfl rfl (ox_buildA0 (cs := encs (Vector.replicate 32 (0 : UInt8)).toList) D_24 rfl D_5 rfl) ?_
      refine vcS_val rfl rfl (ox_bin (pl rfl) (pl rfl) (eq_vec K_24 cellEq_u8 _ _)) ?_
      refine vcS_val rfl rfl (ox_move (pl rfl)) ?_
      refine vcS_opt rfl (wgF rfl rfl rfl) (fun hb => ox_fieldAddr (pl rfl) D_29 rfl rfl D_22 (by decide)) ?_
      refine vcS_opt rfl (wgF rfl rfl rfl) (fun hb => ox_load (gd hb rfl) D_22 (hp_eq _ _ _ _) (rd_29_4 _ rfl)) ?_
      refine vcS_opt rfl (wgF rfl rfl rfl) (fun hb => ox_fieldAddr (pl rfl) D_29 rfl rfl D_22 (by decide)) ?_
      refine vcS_opt rfl (wgF rfl rfl rfl) (fun hb => ox_load (gd hb rfl) D_22 (hp_eq _ _ _ _) (rd_29_1 _ rfl)) ?_
      refine vcS_opt rfl (wgF rfl rfl rfl) (fun hb => ox_bin (gd hb rfl) (gd hb rfl) (bo_u64_gtr _ _)) ?_
      refine vcS_val rfl rfl (ox_or (pl rfl) (pl rfl) (fun hc => gd (by rw [hc]; rfl) rfl)) ?_
      refine vcS_nil ?_
      refine IW.cond rfl (fun hc4 => ?_) (fun hc4 => ?_)
      · refine IW.seq ?_
        refine IW.reg hE ?_
        refine vcS_val rfl rfl (ox_assign (pl rfl)) ?_
        refine vcS_nil ?_
        refine IW.ret ?_
        exact RetP.ret (.inr rfl) rfl rfl trivial (by simp only [checkV, *, cond_true, cond_false])
      · refine IW.skip ?_
        refine IW.seq ?_
        refine IW.reg hE ?_
        refine vcS_val rfl rfl (ox_assign (pl rfl)) ?_
        refine vcS_nil ?_
        refine IW.ret ?_
        exact RetP.ret (.inr rfl) rfl rfl trivial (by simp only [checkV, *, cond_true, cond_false])
noncomputable def F14 : FnI := fn0 (.bool true)
-- headwater/headwaterlaw20.lives [] -> ['Bool'], results [0]
theorem R14 : Ref Try.prog 14 F14 := by
  refine Ref.of_iw dok Try.func14 rfl (by kernel_rfl) fun args H n e hF => ?_
  obtain ⟨rfl, rfl⟩ := fn0_inv hF
  refine ⟨Nat.le_of_ble_eq_true rfl, ?_⟩
  simp only [idxL]
  have hE : Env Try.prog [(15, F15), (59, F59)] D K := env (fnsOk_cons R15 (fnsOk_cons R59 fnsOk_nil))
  refine IW.seq ?_
  refine IW.reg hE ?_
  refine vcS_val rfl rfl (ox_assign (pl rfl)) ?_
  refine vcS_nil ?_
  refine IW.seq ?_
  refine IW.reg hE ?_
  refine vcS_val rfl rfl (ox_buildZ D_29 (zero_29 D_29) rfl rfl (fill_cons (pl_mk rfl D_22) rfl rfl (Vote.le _ rfl) (wr_29_0 _ (1 : UInt64)) (fill_cons (pl_mk rfl D_3) rfl rfl (Vote.le _ rfl) (wr_29_2 _ (2 : Int)) fill_nil))) ?_
  refine vcS_val rfl rfl (ox_fn rfl rfl (fn1_ev _ _ _ _)) ?_
  refine vcS_val rfl rfl (ox_bin (pl rfl) (pl rfl) (bo_i64_eql _ _)) ?_
  refine vcS_val rfl rfl (ox_move (pl rfl)) ?_
  refine vcS_opt rfl (wgT rfl rfl rfl) (fun hb => ox_buildZG D_29 (zero_29 D_29) rfl (mq_cons (pl (v := enc (1 : UInt64)) rfl) (mq_cons (pl rfl) mq_nil)) (fill_cons (pl_mk rfl D_22) rfl rfl (Vote.le _ rfl) (wr_29_0 _ (1 : UInt64)) (fill_cons (pl_mk rfl D_3) rfl rfl (Vote.le _ rfl) (wr_29_2 _ (1 : Int)) fill_nil))) ?_
  refine vcS_opt rfl (wgT rfl rfl rfl) (fun hb => ox_fnG rfl (mp_cons (gd hb rfl) mp_nil) (fn1_ev _ _ _ _)) ?_
  refine vcS_opt rfl (wgT rfl rfl rfl) (fun hb => ox_bin (gd hb rfl) (pl rfl) (bo_i64_eql _ _)) ?_
  refine vcS_val rfl rfl (ox_and (pl rfl) (fun hc => gd hc rfl) (pl rfl)) ?_
  refine vcS_val rfl rfl (ox_move (pl rfl)) ?_
  refine vcS_opt rfl (wgT rfl rfl rfl) (fun hb => ox_buildZG D_29 (zero_29 D_29) rfl (mq_cons (pl (v := enc (1 : UInt64)) rfl) (mq_cons (pl rfl) (mq_cons (pl (v := enc (1 : UInt64)) rfl) mq_nil))) (fill_cons (pl_mk rfl D_22) rfl rfl (Vote.le _ rfl) (wr_29_0 _ (1 : UInt64)) (fill_cons (pl_mk rfl D_3) rfl rfl (Vote.le _ rfl) (wr_29_2 _ (2 : Int)) (fill_cons (pl_mk rfl D_22) rfl rfl (Vote.le _ rfl) (wr_29_4 _ (1 : UInt64)) fill_nil)))) ?_
  refine vcS_opt rfl (wgT rfl rfl rfl) (fun hb => ox_fnG rfl (mp_cons (gd hb rfl) mp_nil) (fn1_ev _ _ _ _)) ?_
  refine vcS_opt rfl (wgT rfl rfl rfl) (fun hb => ox_bin (gd hb rfl) (pl rfl) (bo_i64_eql _ _)) ?_
  refine vcS_val rfl rfl (ox_and (pl rfl) (fun hc => gd hc rfl) (pl rfl)) ?_
  refine vcS_val rfl rfl (ox_move (pl rfl)) ?_
  refine vcS_opt rfl (wgT rfl rfl rfl) (fun hb => ox_buildA (cs := encs ((Vector.replicate 32 (0 : UInt8)).set 0 (1 : UInt8)).toList) D_24 rfl D_5 rfl rfl) ?_
  refine vcS_opt rfl (wgT rfl rfl rfl) (fun hb => ox_buildZG D_29 (zero_29 D_29) rfl (mq_cons (pl (v := enc (1 : UInt64)) rfl) (mq_cons (pl (v := enc (1 : UInt64)) rfl) (mq_cons (pl rfl) (mq_cons (gd hb rfl) (mq_cons (pl (v := enc (2 : UInt64)) rfl) mq_nil))))) (fill_cons (pl_mk rfl D_22) rfl rfl (Vote.le _ rfl) (wr_29_0 _ (1 : UInt64)) (fill_cons (pl_mk rfl D_22) rfl rfl (Vote.le _ rfl) (wr_29_1 _ (1 : UInt64)) (fill_cons (pl_mk rfl D_3) rfl rfl (Vote.le _ rfl) (wr_29_2 _ (1 : Int)) (fill_cons (pl_mk rfl D_24) rfl (encs_vec_length _) (Vote.le _ rfl) (wr_29_3 _ _) (fill_cons (pl_mk rfl D_22) rfl rfl (Vote.le _ rfl) (wr_29_4 _ (2 : UInt64)) fill_nil)))))) ?_
  refine vcS_opt rfl (wgT rfl rfl rfl) (fun hb => ox_fnG rfl (mp_cons (gd hb rfl) mp_nil) (fn1_ev _ _ _ _)) ?_
  refine vcS_opt rfl (wgT rfl rfl rfl) (fun hb => ox_bin (gd hb rfl) (pl rfl) (bo_i64_eql _ _)) ?_
  refine vcS_val rfl rfl (ox_and (pl rfl) (fun hc => gd hc rfl) (pl rfl)) ?_
  refine vcS_val rfl rfl (ox_move (pl rfl)) ?_
  refine vcS_opt rfl (wgT rfl rfl rfl) (fun hb => ox_buildZG D_29 (zero_29 D_29) rfl (mq_cons (pl (v := enc (1 : UInt64)) rfl) mq_nil) (fill_cons (pl_mk rfl D_22) rfl rfl (Vote.le _ rfl) (wr_29_0 _ (1 : UInt64)) fill_nil)) ?_
  refine vcS_opt rfl (wgT rfl rfl rfl) (fun hb => ox_buildZG D_29 (zero_29 D_29) rfl (mq_cons (pl (v := enc (2 : UInt64)) rfl) mq_nil) (fill_cons (pl_mk rfl D_22) rfl rfl (Vote.le _ rfl) (wr_29_0 _ (2 : UInt64)) fill_nil)) ?_
  refine vcS_opt rfl (wgT rfl rfl rfl) (fun hb => ox_fnG rfl (mp_cons (gd hb rfl) (mp_cons (gd hb rfl) mp_nil)) (fn2_ev _ _ _ _ _)) ?_
  refine vcS_opt rfl (wgT rfl rfl rfl) (fun hb => ox_bin (gd hb rfl) (pl rfl) (bo_i64_eql _ _)) ?_
  refine vcS_val rfl rfl (ox_and (pl rfl) (fun hc => gd hc rfl) (pl rfl)) ?_
  refine vcS_val rfl rfl (ox_assign (pl rfl)) ?_
  refine vcS_nil ?_
  refine IW.ret ?_
  exact RetP.ret (.inr rfl) rfl rfl trivial (by kernel_rfl)
end Go.Proofs.Ytdnnojblneccdaa
