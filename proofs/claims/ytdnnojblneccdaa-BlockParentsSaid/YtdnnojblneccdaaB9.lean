/-
  headwaterlaw15.lives.
-/
import Derived.Test.YtdnnojblneccdaaB8
namespace Go.Proofs.Ytdnnojblneccdaa
set_option linter.unusedSimpArgs false
set_option linter.unusedVariables false
open Go
open Enc (enc)
open Row (cel)
set_option maxRecDepth 100000

abbrev oneD : Dig := (Vector.replicate 32 (0 : UInt8)).set 0 (1 : UInt8)
abbrev twoD : Dig := (Vector.replicate 32 (0 : UInt8)).set 0 (2 : UInt8)
theorem F20_lit {H : IHeap} {n : Nat} {b : Block} (k : Int) {l : List Dig} (hl : rdC H (enc b.links) = some l) (hk : checkB b l = k) : F20 [enc b] H n = some ⟨.int .i64 k, [], n⟩ := by
  subst hk; exact F20_ev hl
noncomputable def F17 : FnI := fn0 (.bool true)
-- headwater/headwaterlaw15.lives [] -> ['Bool'], results [0]
theorem R17 : Ref Try.prog 17 F17 := by
  refine Ref.of_iw dok Try.func17 rfl (by kernel_rfl) fun args H n e hF => ?_
  obtain ⟨rfl, rfl⟩ := fn0_inv hF
  refine ⟨Nat.le_of_ble_eq_true rfl, ?_⟩
  simp only [idxL]
  have hE : Env Try.prog [(20, F20)] D K := env (fnsOk_cons R20 fnsOk_nil)
  refine IW.seq ?_
  refine IW.reg hE ?_
  refine vcS_val rfl rfl (ox_assign (pl rfl)) ?_
  refine vcS_nil ?_
  refine IW.seq ?_
  refine IW.reg hE ?_
  refine vcS_val rfl rfl (ox_buildA (cs := encs ((Vector.replicate 32 (0 : UInt8)).set 0 (1 : UInt8)).toList) D_24 rfl D_5 rfl rfl) ?_
  refine vcS_val rfl rfl (ox_buildA (cs := encs ((Vector.replicate 32 (0 : UInt8)).set 0 (2 : UInt8)).toList) D_24 rfl D_5 rfl rfl) ?_
  refine vcS_new rfl rfl (ox_allocZ (cs := encs (Vector.replicate 32 (0 : UInt8)).toList) D_24 rfl) (.inl (by omega)) ?_
  refine vcS_new rfl rfl (ox_allocZ (cs := encs (Vector.replicate 32 (0 : UInt8)).toList) D_24 rfl) (.inl (by omega)) ?_
  refine vcS_sto rfl rfl (ox_store (pl rfl) (pl rfl) D_24 (hp_sk (by omega) (hp_eq _ _ _ _)) rfl (encs_vec_length _) (le_vec _ rfl) (encs_known _) (wr_all (by simp only [encs_vec_length]))) (.inl (by omega)) ?_
  refine vcS_sto rfl rfl (ox_store (pl rfl) (pl rfl) D_24 (hp_sk (by omega) (hp_eq _ _ _ _)) rfl (encs_vec_length _) (le_vec _ rfl) (encs_known _) (wr_all (by simp only [encs_vec_length]))) (.inl (by omega)) ?_
  refine vcS_nil ?_
  refine IW.seq ?_
  refine IW.reg hE ?_
  refine vcS_val rfl rfl (ox_buildZ D_37 (zero_37 D_37) rfl rfl fill_nil) ?_
  refine vcS_val rfl rfl (ox_fn rfl rfl (F20_lit 0 (l := []) rfl (by kernel_rfl))) ?_
  refine vcS_val rfl rfl (ox_bin (pl rfl) (pl rfl) (bo_i64_eql _ _)) ?_
  refine vcS_val rfl rfl (ox_move (pl rfl)) ?_
  refine vcS_T rfl (wgT rfl rfl rfl) rfl (ox_buildZ D_37 (zero_37 D_37) rfl rfl (fill_cons (pl_mk rfl D_22) rfl rfl (Block.le _ rfl) (wr_37_1 _ (1 : UInt64)) fill_nil)) rfl trivial ?_
  refine vcS_T rfl (wgT rfl rfl rfl) rfl (ox_fn rfl rfl (F20_lit 2 (l := []) rfl (by kernel_rfl))) rfl trivial ?_
  refine vcS_T rfl (wgT rfl rfl rfl) rfl (ox_bin (pl rfl) (pl rfl) (bo_i64_eql _ _)) rfl trivial ?_
  refine vcS_val rfl rfl (ox_and (pl rfl) (fun hc => pl rfl) (pl rfl)) ?_
  refine vcS_val rfl rfl (ox_move (pl rfl)) ?_
  refine vcS_T rfl (wgT rfl rfl rfl) rfl (ox_buildA0 (cs := encs (Vector.replicate 32 (0 : UInt8)).toList) D_24 rfl D_5 rfl) rfl trivial ?_
  refine vcS_T rfl (wgT rfl rfl rfl) rfl (ox_bsl (cs := cels [zD]) D_34 rfl D_24 (Nat.le_of_ble_eq_true rfl) rfl (by kernel_rfl)) rfl ⟨.inl (by omega), trivial⟩ ?_
  refine vcS_T rfl (wgT rfl rfl rfl) rfl (ox_buildZ D_37 (zero_37 D_37) rfl rfl (fill_cons (pl_mk rfl D_34) rfl rfl (Block.le _ rfl) (wr_37_3 _ ⟨some ⟨n + 1 + 1, 0, none⟩, 1, 1⟩) fill_nil)) rfl trivial ?_
  refine vcS_T rfl (wgT rfl rfl rfl) rfl (ox_fn rfl rfl (F20_lit 2 (l := [zD]) (rdC_all (hp_eq _ _ _ _) rfl) (by kernel_rfl))) rfl trivial ?_
  refine vcS_T rfl (wgT rfl rfl rfl) rfl (ox_bin (pl rfl) (pl rfl) (bo_i64_eql _ _)) rfl trivial ?_
  refine vcS_val rfl rfl (ox_and (pl rfl) (fun hc => pl rfl) (pl rfl)) ?_
  refine vcS_val rfl rfl (ox_move (pl rfl)) ?_
  refine vcS_T rfl (wgT rfl rfl rfl) rfl (ox_load (pl rfl) D_24 (hp_sk (by omega) (hp_eq _ _ _ _)) (rd_all rfl (encs_vec_length _))) rfl trivial ?_
  refine vcS_T rfl (wgT rfl rfl rfl) rfl (ox_load (pl rfl) D_24 (hp_sk (by omega) (hp_sk (by omega) (hp_eq _ _ _ _))) (rd_all rfl (encs_vec_length _))) rfl trivial ?_
  refine vcS_T rfl (wgT rfl rfl rfl) rfl (ox_bsl (cs := cels [twoD, oneD]) D_34 rfl D_24 (Nat.le_of_ble_eq_true rfl) rfl (by kernel_rfl)) rfl ⟨.inl (by omega), trivial⟩ ?_
  refine vcS_T rfl (wgT rfl rfl rfl) rfl (ox_buildZ D_37 (zero_37 D_37) rfl rfl (fill_cons (pl_mk rfl D_34) rfl rfl (Block.le _ rfl) (wr_37_3 _ ⟨some ⟨n + 1 + 1 + 1, 0, none⟩, 2, 2⟩) fill_nil)) rfl trivial ?_
  refine vcS_T rfl (wgT rfl rfl rfl) rfl (ox_fn rfl rfl (F20_lit 2 (l := [twoD, oneD]) (rdC_all (hp_eq _ _ _ _) rfl) (by kernel_rfl))) rfl trivial ?_
  refine vcS_T rfl (wgT rfl rfl rfl) rfl (ox_bin (pl rfl) (pl rfl) (bo_i64_eql _ _)) rfl trivial ?_
  refine vcS_val rfl rfl (ox_and (pl rfl) (fun hc => pl rfl) (pl rfl)) ?_
  refine vcS_val rfl rfl (ox_move (pl rfl)) ?_
  refine vcS_T rfl (wgT rfl rfl rfl) rfl (ox_load (pl rfl) D_24 (hp_sk (by omega) (hp_sk (by omega) (hp_sk (by omega) (hp_eq _ _ _ _)))) (rd_all rfl (encs_vec_length _))) rfl trivial ?_
  refine vcS_T rfl (wgT rfl rfl rfl) rfl (ox_load (pl rfl) D_24 (hp_sk (by omega) (hp_sk (by omega) (hp_eq _ _ _ _))) (rd_all rfl (encs_vec_length _))) rfl trivial ?_
  refine vcS_T rfl (wgT rfl rfl rfl) rfl (ox_bsl (cs := cels [oneD, twoD]) D_34 rfl D_24 (Nat.le_of_ble_eq_true rfl) rfl (by kernel_rfl)) rfl ⟨.inl (by omega), trivial⟩ ?_
  refine vcS_T rfl (wgT rfl rfl rfl) rfl (ox_buildZ D_37 (zero_37 D_37) rfl rfl (fill_cons (pl_mk rfl D_34) rfl rfl (Block.le _ rfl) (wr_37_3 _ ⟨some ⟨n + 1 + 1 + 1 + 1, 0, none⟩, 2, 2⟩) fill_nil)) rfl trivial ?_
  refine vcS_T rfl (wgT rfl rfl rfl) rfl (ox_fn rfl rfl (F20_lit 0 (l := [oneD, twoD]) (rdC_all (hp_eq _ _ _ _) rfl) (by kernel_rfl))) rfl trivial ?_
  refine vcS_T rfl (wgT rfl rfl rfl) rfl (ox_bin (pl rfl) (pl rfl) (bo_i64_eql _ _)) rfl trivial ?_
  refine vcS_val rfl rfl (ox_and (pl rfl) (fun hc => pl rfl) (pl rfl)) ?_
  refine vcS_val rfl rfl (ox_assign (pl rfl)) ?_
  refine vcS_nil ?_
  refine IW.ret ?_
  exact RetP.ret (.inr rfl) rfl rfl trivial (rfl)
end Go.Proofs.Ytdnnojblneccdaa
