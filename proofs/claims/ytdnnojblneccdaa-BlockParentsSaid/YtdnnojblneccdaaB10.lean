/-
  headwaterlaw15.BlockParents.
-/
import Derived.Test.YtdnnojblneccdaaB9
import Derived.Test.YtdnnojblneccdaaP2
import Derived.Test.YtdnnojblneccdaaE34
namespace Go.Proofs.Ytdnnojblneccdaa
set_option linter.unusedSimpArgs false
set_option linter.unusedVariables false
open Go
open Enc (enc)
open Row (cel)
set_option maxRecDepth 100000

theorem hdr_len {α : Type} [Row α] {H : IHeap} {s : Sl} {l : List α} (hl : rdC H (enc s) = some l) : s.len = l.length := by
  obtain ⟨a, cap, e⟩ := rdC_len hl
  have e : Value.slice s.a s.len s.cap = Value.slice a l.length cap := e
  simp only [Value.slice.injEq] at e
  exact e.2.1
noncomputable def F4 : FnI := fun args H n => match args with
  | [x, y, z, u] => (dec x).bind fun (b : Block) => (dec y).bind fun (_ : Dig) => (dec z).bind fun (_ : Dig) => (dec u).bind fun (_ : Dig) => (rdC H (enc b.links)).bind fun (_ : List Dig) => (rdC H (enc b.data)).bind fun (_ : List UInt8) => some ⟨.bool true, [], n⟩
  | _ => none
theorem F4_inv {args : List Value} {H : IHeap} {n : Nat} {e : Eff} (h : F4 args H n = some e) : ∃ b : Block, ∃ x y z : Dig, ∃ l : List Dig, ∃ d : List UInt8, args = [enc b, enc x, enc y, enc z] ∧ rdC H (enc b.links) = some l ∧ rdC H (enc b.data) = some d ∧ e = ⟨.bool true, [], n⟩ := by
  unfold F4 at h; split at h
  · simp only [Option.bind_eq_some_iff] at h
    obtain ⟨b, hb, x, hx, y, hy, z, hz, l, hl, d, hd, h⟩ := h
    cases h
    exact ⟨b, x, y, z, l, d, by rw [dec_some hb, dec_some hx, dec_some hy, dec_some hz], hl, hd, rfl⟩
  · cases h
theorem F4_ev {H : IHeap} {n : Nat} {b : Block} {x y z : Dig} {l : List Dig} {d : List UInt8} (hl : rdC H (enc b.links) = some l) (hd : rdC H (enc b.data) = some d) : F4 [enc b, enc x, enc y, enc z] H n = some ⟨.bool true, [], n⟩ := by
  simp only [F4, dec_enc, Option.bind_some, hl, hd]
theorem parE_own {b : Block} {l : List Dig} {m n : Nat} {dd : Sl} : parE { b with links := slF m 32 l.length, data := dd } l n = ⟨enc (slF n 32 (parL b l).length), [(n, some (.cells (cels (parL b l)) false))], n + 1⟩ := by
  unfold parE
  rw [if_neg]
  · rfl
  · simp [slF]
theorem F21_own {H : IHeap} {m n : Nat} {b : Block} {l : List Dig} {dd : Sl} (hl : H m = some (.cells (cels l) false)) (hle : l.length ≤ 2 ^ 40) :
    F21 [enc { b with links := slF m 32 l.length, data := dd }] H n = some ⟨enc (slF n 32 (parL b l).length), [(n, some (.cells (cels (parL b l)) false))], n + 1⟩ := by
  rw [F21_ev (l := l) (rdC_all hl rfl) hle, parE_own]
theorem kB_le (b : Block) : kB b ≤ 1 := by unfold kB; split <;> omega
theorem own_cels {l : List Dig} : ((cels l).drop 0).take (l.length * Row.sz Dig) = cels l := by
  rw [List.drop_zero, ← cels_length, List.take_length]
theorem pos_kb {a : Bool} {b : Block} {l : List Dig} (h : (a && ((kB b : Int) == 1)) = true) : 0 < (parL b l).length := by
  rw [Bool.and_eq_true, beq_iff_eq] at h
  rw [kB_par]; omega
set_option maxHeartbeats 1000000
-- headwater/headwaterlaw15.BlockParents ['Block', 'Vector UInt8 32', 'Vector UInt8 32', 'Vector UInt8 32'] -> ['Bool'], results [8]
theorem R4 : Ref Try.prog 4 F4 := by
  refine Ref.of_iw dok Try.func4 rfl (by kernel_rfl) fun args H n e hF => ?_
  obtain ⟨b, x, y, z, l, d, rfl, hl, hd, rfl⟩ := F4_inv hF
  have hlen := hdr_len hl
  have hdl := hdr_len hd
  have hwr := want_rng x y
  have hkp := kB_par b l
  have hk1 := kB_le b
  refine ⟨Nat.le_of_ble_eq_true rfl, ?_⟩
  simp only [idxL]
  have hE : Env Try.prog [(17, F17), (18, F18), (19, F19), (20, F20), (21, F21), (22, F22), (23, F23)] D K := env (fnsOk_cons R17 (fnsOk_cons R18 (fnsOk_cons R19 (fnsOk_cons R20 (fnsOk_cons R21 (fnsOk_cons R22 (fnsOk_cons R23 fnsOk_nil)))))))
  refine IW.seq ?_
  refine IW.free (by simp) (fun hfree => ?_)
  refine IW.reg hE ?_
  refine vcS_new rfl rfl (ox_box (pl rfl) (cellsOf_Block _)) (.inl (by omega)) ?_
  refine vcS_new rfl rfl (ox_box (pl rfl) rfl) (.inl (by omega)) ?_
  refine vcS_new rfl rfl (ox_box (pl rfl) rfl) (.inl (by omega)) ?_
  refine vcS_new rfl rfl (ox_box (pl rfl) rfl) (.inl (by omega)) ?_
  refine vcS_val rfl rfl (ox_assign (pl rfl)) ?_
  refine vcS_nil ?_
  refine IW.seq ?_
  refine IW.seq ?_
  refine IW.reg hE ?_
  refine vcS_val rfl rfl (ox_fn rfl rfl (fn0_ev _ _ _)) ?_
  refine vcS_val rfl rfl (ox_un (pl rfl) (uo_not _)) ?_
  refine vcS_nil ?_
  refine IW.cond rfl (fun hc1 => ?_) (fun hc1 => ?_)
  · cases hc1
  · refine IW.skip ?_
    refine IW.seq ?_
    refine IW.seq ?_
    refine IW.reg hE ?_
    refine vcS_val rfl rfl (ox_load (pl rfl) D_37 (hp_sk (by omega) (hp_sk (by omega) (hp_sk (by omega) (hp_eq _ _ _ _)))) (rd_37 _ rfl rfl)) ?_
    refine vcS_new rfl rfl (ox_bsl (cs := b.cells) D_39 rfl D_37 (Nat.le_of_ble_eq_true rfl) rfl (fill_cons rfl (cellsOf_Block _) (Block.cells_length _) (Nat.le_of_ble_eq_true rfl) (wr_all (by rw [Block.cells_length]; rfl)) fill_nil)) (.inl (by omega)) ?_
    refine vcS_val rfl rfl (ox_fn rfl rfl (F18_ev (l := [b]) (rdC_one (hp_eq _ _ _ _)) (Nat.le_of_ble_eq_true rfl))) ?_
    refine vcS_val rfl rfl (ox_un (pl rfl) (uo_not _)) ?_
    refine vcS_nil ?_
    refine IW.cond rfl (fun hc2 => ?_) (fun hc2 => ?_)
    · refine IW.seq ?_
      refine IW.reg hE ?_
      refine vcS_val rfl rfl (ox_assign (pl rfl)) ?_
      refine vcS_nil ?_
      refine IW.ret ?_
      exact RetP.ret (.inr rfl) rfl rfl trivial (rfl)
    · obtain ⟨hw1, hw2⟩ := light_of hc2
      refine IW.skip ?_
      refine IW.seq ?_
      refine IW.reg hE ?_
      refine vcS_val rfl rfl (ox_assign (pl rfl)) ?_
      refine vcS_nil ?_
      refine IW.seq ?_
      refine IW.seq ?_
      refine IW.drw hE mixed [[],[0],[],[2],[0,1,2,3]] (by kernel_rfl) (vcE_start ?_)
      refine vcE_bl rfl rfl (fun _ => ox_slAll (pl rfl) D_24 rfl D_5) rfl rfl ?_
      refine vcE_val rfl rfl rfl rfl (ox_cvS (pl rfl) D_35 rfl D_5 rfl D_9 rfl (rdC_u8 (hp_sk (by omega) (hp_sk (by omega) (hp_sk (by omega) (hp_eq _ _ _ _)))) (by simp))) rfl (si_conv (pl rfl)) (lt1 (by omega)) (trivial) ?_
      refine vcE_bl rfl rfl (fun _ => ox_slAll (pl rfl) D_24 rfl D_5) rfl rfl ?_
      refine vcE_val rfl rfl rfl rfl (ox_cvS (pl rfl) D_35 rfl D_5 rfl D_9 rfl (rdC_u8 (hp_sk (by omega) (hp_sk (by omega) (hp_eq _ _ _ _))) (by simp))) rfl (si_conv (pl rfl)) (lt1 (by omega)) (trivial) ?_
      refine vcE_bl rfl rfl (fun _ => ox_bin (pl rfl) (pl rfl) (bo_str_lss _ _)) rfl rfl ?_
      refine vcE_nil ?_
      refine IW.condA (w := .int .i64 (want1 x y)) hE rfl rfl rfl (fun hc3 => by rw [want1, if_pos hc3]) (fun hc3 => by rw [want1, if_neg (by rw [hc3]; simp)]) ?_
      refine IW.seq ?_
      refine IW.seq ?_
      refine IW.drw hE mixed [[],[0],[],[2],[0,1,2,3]] (by kernel_rfl) (vcE_start ?_)
      refine vcE_bl rfl rfl (fun _ => ox_slAll (pl rfl) D_24 rfl D_5) rfl rfl ?_
      refine vcE_val rfl rfl rfl rfl (ox_cvS (pl rfl) D_35 rfl D_5 rfl D_9 rfl (rdC_u8 (hp_sk (by omega) (hp_sk (by omega) (hp_sk (by omega) (hp_eq _ _ _ _)))) (by simp))) rfl (si_conv (pl rfl)) (lt1 (by omega)) (trivial) ?_
      refine vcE_bl rfl rfl (fun _ => ox_slAll (pl rfl) D_24 rfl D_5) rfl rfl ?_
      refine vcE_val rfl rfl rfl rfl (ox_cvS (pl rfl) D_35 rfl D_5 rfl D_9 rfl (rdC_u8 (hp_sk (by omega) (hp_sk (by omega) (hp_eq _ _ _ _))) (by simp))) rfl (si_conv (pl rfl)) (lt1 (by omega)) (trivial) ?_
      refine vcE_bl rfl rfl (fun _ => ox_bin (pl rfl) (pl rfl) (bo_str_gtr _ _)) rfl rfl ?_
      refine vcE_nil ?_
      refine IW.condA (w := .int .i64 (want2 x y)) hE rfl rfl rfl (fun hc4 => by rw [want2, if_pos hc4]) (fun hc4 => by rw [want2, if_neg (by rw [hc4]; simp)]) ?_
      refine IW.seq ?_
      refine IW.seq ?_
      refine IW.reg hE ?_
      refine vcS_val rfl rfl (ox_load (pl rfl) D_24 (hp_sk (by omega) (hp_sk (by omega) (hp_sk (by omega) (hp_eq _ _ _ _)))) (rd_all rfl (encs_vec_length _))) ?_
      refine vcS_val rfl rfl (ox_load (pl rfl) D_24 (hp_sk (by omega) (hp_sk (by omega) (hp_eq _ _ _ _))) (rd_all rfl (encs_vec_length _))) ?_
      refine vcS_val rfl rfl (ox_fn rfl rfl (fn2_ev _ _ _ _ _)) ?_
      refine vcS_val rfl rfl (ox_move (pl rfl)) ?_
      refine vcS_val rfl rfl (ox_bin (pl rfl) (pl rfl) (bo_i64_neq _ _)) ?_
      refine vcS_val rfl rfl (ox_move (pl rfl)) ?_
      refine vcS_opt rfl (wgF rfl rfl rfl) (fun hb => ox_load (pl rfl) D_24 (hp_sk (by omega) (hp_sk (by omega) (hp_eq _ _ _ _))) (rd_all rfl (encs_vec_length _))) ?_
      refine vcS_opt rfl (wgF rfl rfl rfl) (fun hb => ox_load (pl rfl) D_24 (hp_sk (by omega) (hp_sk (by omega) (hp_sk (by omega) (hp_eq _ _ _ _)))) (rd_all rfl (encs_vec_length _))) ?_
      refine vcS_opt rfl (wgF rfl rfl rfl) (fun hb => ox_fnG rfl (mp_cons (gd hb rfl) (mp_cons (gd hb rfl) mp_nil)) (fn2_ev _ _ _ _ _)) ?_
      refine vcS_opt rfl (wgF rfl rfl rfl) (fun hb => ox_move (pl rfl)) ?_
      refine vcS_opt rfl (wgF rfl rfl rfl) (fun hb => ox_un (gd hb rfl) (uo_neg_i64 (by omega))) ?_
      refine vcS_opt rfl (wgF rfl rfl rfl) (fun hb => ox_bin (gd hb rfl) (gd hb rfl) (bo_i64_neq _ _)) ?_
      refine vcS_val rfl rfl (ox_or (pl rfl) (pl rfl) (fun hc => gd (by rw [hc]; rfl) rfl)) ?_
      refine vcS_val rfl rfl (ox_move (pl rfl)) ?_
      refine vcS_opt rfl (wgF rfl rfl rfl) (fun hb => ox_load (pl rfl) D_24 (hp_sk (by omega) (hp_sk (by omega) (hp_sk (by omega) (hp_eq _ _ _ _)))) (rd_all rfl (encs_vec_length _))) ?_
      refine vcS_opt rfl (wgF rfl rfl rfl) (fun hb => ox_load (pl rfl) D_24 (hp_sk (by omega) (hp_sk (by omega) (hp_eq _ _ _ _))) (rd_all rfl (encs_vec_length _))) ?_
      refine vcS_opt rfl (wgF rfl rfl rfl) (fun hb => ox_fnG rfl (mp_cons (gd hb rfl) (mp_cons (gd hb rfl) mp_nil)) (fn2_ev _ _ _ _ _)) ?_
      refine vcS_opt rfl (wgF rfl rfl rfl) (fun hb => ox_bin (gd hb rfl) (pl rfl) (bo_i64_leq _ _)) ?_
      refine vcS_opt rfl (wgF rfl rfl rfl) (fun hb => ox_move (gd hb rfl)) ?_
      refine vcS_opt rfl (wgT2 rfl rfl rfl) (fun hb => ox_load (pl rfl) D_24 (hp_sk (by omega) (hp_sk (by omega) (hp_eq _ _ _ _))) (rd_all rfl (encs_vec_length _))) ?_
      refine vcS_opt rfl (wgT2 rfl rfl rfl) (fun hb => ox_load (pl rfl) D_24 (hp_sk (by omega) (hp_eq _ _ _ _)) (rd_all rfl (encs_vec_length _))) ?_
      refine vcS_opt rfl (wgT2 rfl rfl rfl) (fun hb => ox_fnG rfl (mp_cons (gd hb rfl) (mp_cons (gd hb rfl) mp_nil)) (fn2_ev _ _ _ _ _)) ?_
      refine vcS_opt rfl (wgT2 rfl rfl rfl) (fun hb => ox_bin (gd hb rfl) (pl rfl) (bo_i64_leq _ _)) ?_
      refine vcS_opt rfl (wgF rfl rfl rfl) (fun hb => ox_and (gd hb rfl) (fun hc => gd (by rw [hb, hc]; rfl) rfl) (pl rfl)) ?_
      refine vcS_opt rfl (wgF rfl rfl rfl) (fun hb => ox_move (gd hb rfl)) ?_
      refine vcS_opt rfl (wgT2 rfl rfl rfl) (fun hb => ox_load (pl rfl) D_24 (hp_sk (by omega) (hp_sk (by omega) (hp_sk (by omega) (hp_eq _ _ _ _)))) (rd_all rfl (encs_vec_length _))) ?_
      refine vcS_opt rfl (wgT2 rfl rfl rfl) (fun hb => ox_load (pl rfl) D_24 (hp_sk (by omega) (hp_eq _ _ _ _)) (rd_all rfl (encs_vec_length _))) ?_
      refine vcS_opt rfl (wgT2 rfl rfl rfl) (fun hb => ox_fnG rfl (mp_cons (gd hb rfl) (mp_cons (gd hb rfl) mp_nil)) (fn2_ev _ _ _ _ _)) ?_
      refine vcS_opt rfl (wgT2 rfl rfl rfl) (fun hb => ox_bin (gd hb rfl) (pl rfl) (bo_i64_gtr _ _)) ?_
      refine vcS_opt rfl (wgF rfl rfl rfl) (fun hb => ox_and (gd hb rfl) (fun hc => gd (by rw [hb, hc]; rfl) rfl) (pl rfl)) ?_
      refine vcS_val rfl rfl (ox_or (pl rfl) (pl rfl) (fun hc => gd (by rw [hc]; rfl) rfl)) ?_
      refine vcS_nil ?_
      refine IW.cond rfl (fun hc5 => ?_) (fun hc5 => ?_)
      · refine IW.seq ?_
        refine IW.reg hE ?_
        refine vcS_val rfl rfl (ox_assign (pl rfl)) ?_
        refine vcS_nil ?_
        refine IW.ret ?_
        exact RetP.ret (.inr rfl) rfl rfl trivial (nomatch (lawB5 x y z).symm.trans hc5)
      · refine IW.skip ?_
        refine IW.seq ?_
        refine IW.seq ?_
        refine IW.reg hE ?_
        refine vcS_val rfl rfl (ox_load (pl rfl) D_37 (hp_sk (by omega) (hp_sk (by omega) (hp_sk (by omega) (hp_sk (by omega) (hp_eq _ _ _ _))))) (rd_37 _ rfl rfl)) ?_
        refine vcS_val rfl rfl (ox_fn rfl rfl (F20_ev (rdC_keep hfree hl (by exact ⟨by omega, ⟨by omega, ⟨by omega, ⟨by omega, ⟨by omega, trivial⟩⟩⟩⟩⟩)))) ?_
        refine vcS_val rfl rfl (ox_bin (pl rfl) (pl rfl) (bo_i64_neq _ _)) ?_
        refine vcS_nil ?_
        refine IW.cond rfl (fun hc6 => ?_) (fun hc6 => ?_)
        · refine IW.seq ?_
          refine IW.reg hE ?_
          refine vcS_val rfl rfl (ox_assign (pl rfl)) ?_
          refine vcS_nil ?_
          refine IW.ret ?_
          exact RetP.ret (.inr rfl) rfl rfl trivial (rfl)
        · refine IW.skip ?_
          refine IW.seq ?_
          refine IW.reg hE ?_
          refine vcS_val rfl rfl (ox_load (pl rfl) D_37 (hp_sk (by omega) (hp_sk (by omega) (hp_sk (by omega) (hp_sk (by omega) (hp_eq _ _ _ _))))) (rd_37 _ rfl rfl)) ?_
          refine vcS_ups rfl rfl (ox_fn rfl rfl (F22_ev (rdC_keep hfree hl (by exact ⟨by omega, ⟨by omega, ⟨by omega, ⟨by omega, ⟨by omega, trivial⟩⟩⟩⟩⟩)) (rdC_keep hfree hd (by exact ⟨by omega, ⟨by omega, ⟨by omega, ⟨by omega, ⟨by omega, trivial⟩⟩⟩⟩⟩)) (by omega) (by omega))) rfl ⟨.inl (by omega), ⟨.inl (by omega), trivial⟩⟩ ?_
          refine vcS_ups rfl rfl (ox_fn rfl rfl (F21_own (l := l) (hp_sk (by omega) (hp_eq _ _ _ _)) (by omega))) rfl ⟨.inl (by omega), trivial⟩ ?_
          refine vcS_val rfl rfl (ox_assign (pl rfl)) ?_
          refine vcS_nil ?_
          refine IW.seq ?_
          refine IW.reg hE ?_
          refine vcS_val rfl rfl (ox_assign (pl rfl)) ?_
          refine vcS_nil ?_
          refine IW.seq ?_
          refine IW.seq ?_
          refine IW.reg hE ?_
          refine vcS_val rfl rfl (ox_fieldAddr (pl rfl) D_37 rfl rfl D_22 (by decide)) ?_
          refine vcS_val rfl rfl (ox_load (pl rfl) D_22 (hp_sk (by omega) (hp_sk (by omega) (hp_sk (by omega) (hp_sk (by omega) (hp_sk (by omega) (hp_sk (by omega) (hp_sk (by omega) (hp_eq _ _ _ _)))))))) (rd_37_1 _ rfl)) ?_
          refine vcS_val rfl rfl (ox_bin (pl rfl) (pl (v := enc (0 : UInt64)) rfl) (bo_u64_gtr _ _)) ?_
          refine vcS_nil ?_
          refine IW.condA (w := .int .i64 (kB b : Nat)) hE rfl rfl rfl (fun hc7 => by rw [kB_one hc7]; rfl) (fun hc7 => by rw [kB_zero hc7]; rfl) ?_
          refine IW.seq ?_
          refine IW.seq ?_
          refine IW.close (len := (parL b l).length) (cap := (parL b l).length) 10 (by simp) rfl (fun cp hcp => ?_)
          refine IW.drw hE mixed [[],[0],[],[],[3],[3,4],[2,3,4,5],[0,1,2,3,4,5,6],[0,1,2,3,4,5,6,7],[0,1,2,3,4,5,6,7,8],[0,1,2,3,4,5,6,7,8,9],[0,1,2,3,4,5,6,7,8,9,10],[0,1,2,3,4,5,6,7,8,9,10,11],[0,1,2,3,4,5,6,7,8,9,10,11,12],[0,1,2,3,4,5,6,7,8,9,10,11,12,13],[0,1,2,3,4,5,6,7,8,9,10,11],[0,1,2,3,4,5,6,7,8,9,10,11,15],[0,1,2,3,4,5,6,7,8,9,10,11,12,13,14,15,16],[0,1,2,3,4,5,6,7,8,9,10,11,12,13,14,15,16,17],[0,1,2,3,4,5,6,7,8,9,10,11,12,13,14,15,16,17,18],[0,1,2,3,4,5,6,7,8,9,10,11,12,13,14,15,16,17,18,19],[0,1,2,3,4,5,6,7,8,9,10,11,12,13,14,15,16,17,18,19,20],[0,1,2,3,4,5,6,7,8,9,10,11,12,13,14,15,16,17,18,19,20],[0,1,2,3,4,5,6,7,8,9,10,11,12,13,14,15,16,17,18,19,20,21,22],[0,1,2,3,4,5,6,7,8,9,10,11,12,13,14,15,16,17,18,19,20],[0,1,2,3,4,5,6,7,8,9,10,11,12,13,14,15,16,17,18,19,20,24],[0,1,2,3,4,5,6,7,8,9,10,11,12,13,14,15,16,17,18,19,20,21,22,23,24,25],[0,1,2,3,4,5,6,7,8,9,10,11,12,13,14,15,16,17,18,19,20,21,22,23,24,25,26],[0,1,2,3,4,5,6,7,8,9,10,11,12,13,14,15,16,17,18,19,20,21,22,23,24,25,26,27]] (by kernel_rfl) (vcE_start ?_)
          refine vcE_bl rfl rfl (fun _ => ox_move (pl rfl)) rfl rfl ?_
          refine vcE_bl rfl rfl (fun _ => ox_len (pl rfl) D_34 rfl) rfl rfl ?_
          refine vcE_bl rfl rfl (fun _ => ox_move (pl rfl)) rfl rfl ?_
          refine vcE_bl rfl rfl (fun _ => ox_fieldAddr (pl rfl) D_37 rfl rfl D_34 (by decide)) rfl rfl ?_
          refine vcE_val rfl rfl rfl rfl (ox_load (pl rfl) D_34 (hp_sk (by omega) (hp_sk (by omega) (hp_sk (by omega) (hp_sk (by omega) (hp_sk (by omega) (hp_sk (by omega) (hp_sk (by omega) (hp_eq _ _ _ _)))))))) (rd_37_3 _ rfl)) rfl (si_load (pl rfl)) (lt1 (by omega)) (trivial) ?_
          refine vcE_bl rfl rfl (fun _ => ox_len (pl rfl) D_34 rfl) rfl rfl ?_
          refine vcE_bl rfl rfl (fun _ => ox_bin (pl rfl) (pl rfl) (bo_i64_add (by omega))) rfl rfl ?_
          refine vcE_bl rfl rfl (fun _ => ox_bin (pl rfl) (pl rfl) (bo_i64_neq _ _)) rfl rfl ?_
          refine vcE_bl rfl rfl (fun _ => ox_move (pl rfl)) rfl rfl ?_
          refine vcE_opt rfl (wgF rfl rfl rfl) rfl rfl (fun hb => ox_move (pl rfl)) (fun hb => vi_bl rfl rfl) hf0 (trivial) ?_
          refine vcE_opt rfl (wgF rfl rfl rfl) rfl rfl (fun hb => ox_bin (gd hb rfl) (pl rfl) (bo_i64_eql _ _)) (fun hb => vi_bl rfl rfl) hf0 (trivial) ?_
          refine vcE_opt rfl (wgF rfl rfl rfl) rfl rfl (fun hb => ox_move (gd hb rfl)) (fun hb => vi_bl rfl rfl) hf0 (trivial) ?_
          refine vcE_opt rfl (wgT2 rfl rfl rfl) rfl rfl (fun hb => ox_move (pl rfl)) (fun hb => vi_bl rfl rfl) hf0 (trivial) ?_
          refine vcE_opt rfl (wgT2 rfl rfl rfl) rfl rfl (fun hb => ox_iaS (gd hb rfl) (pl rfl) D_34 rfl D_24 (Int.le_refl _) (Int.ofNat_lt.2 (pos_kb hb))) (fun hb => vi_bl rfl rfl) hf0 (trivial) ?_
          refine vcE_opt rfl (wgT2 rfl rfl rfl) rfl rfl (fun hb => ox_load (gd hb rfl) D_24 (hp_eq _ _ _ _) (rd_cellD (i := 0) (z := zD) own_cels (pos_kb hb) rfl rfl rfl rfl)) (fun hb => vi_load (gd hb rfl)) (hf1 (by omega)) (trivial) ?_
          refine vcE_opt rfl (wgT2 rfl rfl rfl) rfl rfl (fun hb => ox_fieldAddr (pl rfl) D_37 rfl rfl D_24 (by decide)) (fun hb => vi_bl rfl rfl) hf0 (trivial) ?_
          refine vcE_opt rfl (wgT2 rfl rfl rfl) rfl rfl (fun hb => ox_load (gd hb rfl) D_24 (hp_sk (by omega) (hp_sk (by omega) (hp_sk (by omega) (hp_sk (by omega) (hp_sk (by omega) (hp_sk (by omega) (hp_sk (by omega) (hp_eq _ _ _ _)))))))) (rd_37_2 _ rfl rfl)) (fun hb => vi_load (gd hb rfl)) (hf1 (by omega)) (trivial) ?_
          refine vcE_opt rfl (wgT2 rfl rfl rfl) rfl rfl (fun hb => ox_bin (gd hb rfl) (gd hb rfl) (ne_vec K_24 cellEq_u8 _ _)) (fun hb => vi_bl rfl rfl) hf0 (trivial) ?_
          refine vcE_opt rfl (wgF rfl rfl rfl) rfl rfl (fun hb => ox_and (gd hb rfl) (fun hc => gd (by rw [hb, hc]; rfl) rfl) (pl rfl)) (fun hb => vi_bl rfl rfl) hf0 (trivial) ?_
          refine vcE_bl rfl rfl (fun _ => ox_or (pl rfl) (pl rfl) (fun hc => gd (by rw [hc]; rfl) rfl)) rfl rfl ?_
          refine vcE_bl rfl rfl (fun _ => ox_move (pl rfl)) rfl rfl ?_
          refine vcE_opt rfl (wgF rfl rfl rfl) rfl rfl (fun hb => ox_move (pl rfl)) (fun hb => vi_bl rfl rfl) hf0 (trivial) ?_
          refine vcE_opt rfl (wgF rfl rfl rfl) rfl rfl (fun hb => ox_move (pl rfl)) (fun hb => vi_bl rfl rfl) hf0 (trivial) ?_
          refine vcE_opt rfl (wgF rfl rfl rfl) rfl rfl (fun hb => ox_sl (gd hb rfl) D_34 rfl D_24 (bndI (gd hb rfl) rfl) bndN (by omega) (by omega) (.inl rfl)) (fun hb => vi_bl rfl rfl) hf0 (trivial) ?_
          refine vcE_opt rfl (wgF rfl rfl rfl) rfl rfl (fun hb => ox_fieldAddr (pl rfl) D_37 rfl rfl D_34 (by decide)) (fun hb => vi_bl rfl rfl) hf0 (trivial) ?_
          refine vcE_opt rfl (wgF rfl rfl rfl) rfl rfl (fun hb => ox_load (gd hb rfl) D_34 (hp_sk (by omega) (hp_sk (by omega) (hp_sk (by omega) (hp_sk (by omega) (hp_sk (by omega) (hp_sk (by omega) (hp_sk (by omega) (hp_eq _ _ _ _)))))))) (rd_37_3 _ rfl)) (fun hb => vi_load (gd hb rfl)) (hf1 (by omega)) (trivial) ?_
          refine vcE_opt rfl (wgF rfl rfl rfl) rfl rfl (fun hb => ox_fnG rfl (mp_cons (gd hb rfl) (mp_cons (gd hb rfl) mp_nil)) (F23_ev (rdC_sl (rdC_all (hp_eq _ _ _ _) rfl) (by omega) (Nat.le_refl _) hcp) (rdC_keep hfree hl (by exact ⟨by omega, ⟨by omega, ⟨by omega, ⟨by omega, ⟨by omega, ⟨by omega, ⟨by omega, ⟨by omega, trivial⟩⟩⟩⟩⟩⟩⟩⟩)) (by rw [List.take_length, kB_drop]; omega))) (fun hb => vi_call rfl) hfa0 (trivial) ?_
          refine vcE_opt rfl (wgF rfl rfl rfl) rfl rfl (fun hb => ox_un (gd hb rfl) (uo_not _)) (fun hb => vi_bl rfl rfl) hf0 (trivial) ?_
          refine vcE_bl rfl rfl (fun _ => ox_or (pl rfl) (pl rfl) (fun hc => gd (by rw [hc]; rfl) rfl)) rfl rfl ?_
          refine vcE_nil ?_
          refine IW.cond rfl (fun hc8 => ?_) (fun hc8 => ?_)
          · refine IW.seq ?_
            refine IW.reg hE ?_
            refine vcS_val rfl rfl (ox_assign (pl rfl)) ?_
            refine vcS_nil ?_
            refine IW.ret ?_
            exact RetP.ret (.inr rfl) rfl rfl trivial (nomatch (lawB8 b l hlen).symm.trans hc8)
          · refine IW.skip ?_
            refine IW.seq ?_
            refine IW.seq ?_
            refine IW.reg hE ?_
            refine vcS_val rfl rfl (ox_assign (pl rfl)) ?_
            refine vcS_nil ?_
            refine IW.block ?_
            refine IW.loop (S := Nat) (fun s => [(10, .slice (some ⟨n + 1 + 1 + 1 + 1 + 1 + 2, 0, none⟩) (parL b l).length cp), (12, .int .i64 s)]) (fun s => [(n + 1 + 1 + 1 + 1 + 1 + 2, some (.cells (cels (parL b l)) false))]) (fun s => n + 1 + 1 + 1 + 1 + 1 + 2 + 1) (fun s => s ≤ (parL b l).length) (fun s => (parL b l).length - s) (0) (Nat.zero_le _) (⟨rfl, ⟨rfl, trivial⟩⟩) (leX_le (leX_cons rfl (leX_new (free_hp hfree (by omega) trivial) (leX_new (free_hp hfree (by omega) trivial) (leX_new (free_hp hfree (by omega) trivial) (leX_new (free_hp hfree (by omega) trivial) (leX_new (free_hp hfree (by omega) trivial) (leX_new (free_hp hfree (by omega) trivial) (leX_new (free_hp hfree (by omega) trivial) leX_refl))))))))) (Nat.le_refl _) (fun s hs => ?_)
            refine IW.seq ?_
            refine IW.seq ?_
            refine IW.reg hE ?_
            refine vcS_val rfl rfl (ox_move (pl rfl)) ?_
            refine vcS_val rfl rfl (ox_move (pl rfl)) ?_
            refine vcS_val rfl rfl (ox_len (pl rfl) D_34 rfl) ?_
            refine vcS_val rfl rfl (ox_bin (pl rfl) (pl rfl) (bo_i64_lss _ _)) ?_
            refine vcS_nil ?_
            refine IW.cond rfl (fun hc9 => ?_) (fun hc9 => ?_)
            · replace hc9 := of_decide_eq_true hc9
              have hi : s < (parL b l).length := by omega
              refine IW.skip ?_
              refine IW.seq ?_
              refine IW.block ?_
              refine IW.seq ?_
              refine IW.reg hE ?_
              refine vcS_val rfl rfl (ox_assign (pl rfl)) ?_
              refine vcS_nil ?_
              refine IW.block ?_
              refine IW.loop (S := Nat) (fun j => [(10, .slice (some ⟨n + 1 + 1 + 1 + 1 + 1 + 2, 0, none⟩) (parL b l).length cp), (12, .int .i64 s), (13, .int .i64 j)]) (fun j => [(n + 1 + 1 + 1 + 1 + 1 + 2, some (.cells (cels (parL b l)) false))]) (fun j => n + 1 + 1 + 1 + 1 + 1 + 2 + 1) (fun j => j ≤ s) (fun j => s - j) (0) (Nat.zero_le _) (⟨rfl, ⟨rfl, ⟨rfl, trivial⟩⟩⟩) (fun _ _ h => h) (Nat.le_refl _) (fun j hj => ?_)
              refine IW.seq ?_
              refine IW.seq ?_
              refine IW.reg hE ?_
              refine vcS_val rfl rfl (ox_move (pl rfl)) ?_
              refine vcS_val rfl rfl (ox_move (pl rfl)) ?_
              refine vcS_val rfl rfl (ox_bin (pl rfl) (pl rfl) (bo_i64_lss _ _)) ?_
              refine vcS_nil ?_
              refine IW.cond rfl (fun hc10 => ?_) (fun hc10 => ?_)
              · replace hc10 := of_decide_eq_true hc10
                have hj : j < s := by omega
                have hj2 : j < (parL b l).length := by omega
                refine IW.skip ?_
                refine IW.seq ?_
                refine IW.block ?_
                refine IW.seq ?_
                refine IW.drw hE mixed [[],[],[0,1],[0,1,2],[],[],[4,5],[4,5,6],[0,1,2,3,4,5,6,7]] (by kernel_rfl) (vcE_start ?_)
                refine vcE_bl rfl rfl (fun _ => ox_move (pl rfl)) rfl rfl ?_
                refine vcE_bl rfl rfl (fun _ => ox_move (pl rfl)) rfl rfl ?_
                refine vcE_bl rfl rfl (fun _ => ox_iaS (pl rfl) (pl rfl) D_34 rfl D_24 (by omega) (by omega)) rfl rfl ?_
                refine vcE_val rfl rfl rfl rfl (ox_load (pl rfl) D_24 (hp_eq _ _ _ _) (rd_cel own_cels hi rfl rfl (by simp))) rfl (si_load (pl rfl)) (lt1 (by omega)) (trivial) ?_
                refine vcE_bl rfl rfl (fun _ => ox_move (pl rfl)) rfl rfl ?_
                refine vcE_bl rfl rfl (fun _ => ox_move (pl rfl)) rfl rfl ?_
                refine vcE_bl rfl rfl (fun _ => ox_iaS (pl rfl) (pl rfl) D_34 rfl D_24 (by omega) (by omega)) rfl rfl ?_
                refine vcE_val rfl rfl rfl rfl (ox_load (pl rfl) D_24 (hp_eq _ _ _ _) (rd_cel own_cels hj2 rfl rfl (by simp))) rfl (si_load (pl rfl)) (lt1 (by omega)) (trivial) ?_
                refine vcE_bl rfl rfl (fun _ => ox_bin (pl rfl) (pl rfl) (eq_vec K_24 cellEq_u8 _ _)) rfl rfl ?_
                refine vcE_nil ?_
                refine IW.cond rfl (fun hc11 => ?_) (fun hc11 => ?_)
                · refine IW.seq ?_
                  refine IW.reg hE ?_
                  refine vcS_val rfl rfl (ox_assign (pl rfl)) ?_
                  refine vcS_nil ?_
                  refine IW.ret ?_
                  refine retB ?_
                  refine retS (retS ?_)
                  refine retB ?_
                  refine retB ?_
                  refine retS (retS ?_)
                  refine retB ?_
                  exact RetP.ret (.inr rfl) rfl rfl trivial (nomatch (par_ne hc6 hj hi).symm.trans hc11)
                · refine IW.skip ?_
                  refine IW.nilB ?_
                  refine IW.reg hE ?_
                  refine vcS_val rfl rfl (ox_move (pl rfl)) ?_
                  refine vcS_val rfl rfl (ox_bin (pl rfl) (pl rfl) (bo_i64_add (by omega))) ?_
                  refine vcS_val rfl rfl (ox_assign (pl rfl)) ?_
                  refine vcS_nil ?_
                  refine IW.nilS ?_
                  exact ⟨j + 1, _, _, by omega, by omega, rfl, ⟨rfl, ⟨rfl, ⟨rfl, trivial⟩⟩⟩, rfl, fun _ _ h => h, Nat.le_refl _⟩
              · replace hc10 := of_decide_eq_false hc10
                refine IW.exit ?_
                refine exS (exS ?_)
                refine blkQ_exit ?_
                refine IW.nilB ?_
                refine IW.reg hE ?_
                refine vcS_val rfl rfl (ox_move (pl rfl)) ?_
                refine vcS_val rfl rfl (ox_bin (pl rfl) (pl rfl) (bo_i64_add (by omega))) ?_
                refine vcS_val rfl rfl (ox_assign (pl rfl)) ?_
                refine vcS_nil ?_
                refine IW.nilS ?_
                exact ⟨s + 1, _, _, by omega, by omega, rfl, ⟨rfl, ⟨rfl, trivial⟩⟩, rfl, fun _ _ h => h, Nat.le_refl _⟩
            · replace hc9 := of_decide_eq_false hc9
              refine IW.exit ?_
              refine exS (exS ?_)
              refine blkQ_exit ?_
              refine IW.seq ?_
              refine IW.reg hE ?_
              refine vcS_val rfl rfl (ox_assign (pl rfl)) ?_
              refine vcS_nil ?_
              refine IW.ret ?_
              exact RetP.ret (.inr rfl) rfl rfl trivial (rfl)
end Go.Proofs.Ytdnnojblneccdaa
