/-
  block.Check.
-/
import Derived.Test.YtdnnojblneccdaaB6
import Derived.Test.YtdnnojblneccdaaE33
namespace Go.Proofs.Ytdnnojblneccdaa
set_option linter.unusedSimpArgs false
set_option linter.unusedVariables false
open Go
open Enc (enc)
set_option maxRecDepth 100000

abbrev zD : Dig := Vector.replicate 32 0
/-- the links go up, and none is p -/
def okL (p : Dig) : Dig → List Dig → Bool
  | _, [] => true
  | last, x :: l => !(x == p || decide (0 ≤ cmpL last.toList x.toList)) && okL p x l
def headB (b : Block) : Bool := ((decide (4294967295 < b.seq) || ((b.seq == 0) != (b.prev == zD))) || decide ((512 : Int) < b.data.len)) || decide ((16 : Int) < b.links.len)
def checkB (b : Block) (l : List Dig) : Int := if headB b = true then 2 else if okL b.prev zD l = true then 0 else 2
def lastD (l : List Dig) (s : Nat) : Dig := (zD :: l).getD s zD
theorem lastD_succ {l : List Dig} {s : Nat} (h : s < l.length) : lastD l (s + 1) = l[s] := by simp [lastD, h]
theorem okL_drop {p last : Dig} {l : List Dig} {s : Nat} (h : s < l.length) : okL p last (l.drop s) = (!(l[s] == p || decide (0 ≤ cmpL last.toList l[s].toList)) && okL p l[s] (l.drop (s + 1))) := by
  rw [List.drop_eq_getElem_cons h]; rfl
noncomputable def F20 : FnI := fun args H n => match args with
  | [x] => (dec x).bind fun (b : Block) => (rdC H (enc b.links)).bind fun (l : List Dig) => some ⟨.int .i64 (checkB b l), [], n⟩
  | _ => none
theorem F20_inv {args : List Value} {H : IHeap} {n : Nat} {e : Eff} (h : F20 args H n = some e) : ∃ b : Block, ∃ l : List Dig, args = [enc b] ∧ rdC H (enc b.links) = some l ∧ e = ⟨.int .i64 (checkB b l), [], n⟩ := by
  unfold F20 at h; split at h
  · simp only [Option.bind_eq_some_iff] at h
    obtain ⟨b, hb, l, hl, h⟩ := h
    cases h
    exact ⟨b, l, by rw [dec_some hb], hl, rfl⟩
  · cases h
theorem F20_ev {H : IHeap} {n : Nat} {b : Block} {l : List Dig} (hl : rdC H (enc b.links) = some l) : F20 [enc b] H n = some ⟨.int .i64 (checkB b l), [], n⟩ := by
  simp only [F20, dec_enc, Option.bind_some, hl]
theorem links_len {H : IHeap} {b : Block} {l : List Dig} (hl : rdC H (enc b.links) = some l) : b.links.len = l.length := by
  obtain ⟨a, cap, e⟩ := rdC_len hl
  have e : Value.slice b.links.a b.links.len b.links.cap = Value.slice a l.length cap := e
  simp only [Value.slice.injEq] at e
  exact e.2.1
-- headwater/block.Check ['Block'] -> ['Int'], results [2]
theorem R20 : Ref Try.prog 20 F20 := by
  refine Ref.of_iw dok Try.func20 rfl (by kernel_rfl) fun args H n e hF => ?_
  obtain ⟨b, l, rfl, hl, rfl⟩ := F20_inv hF
  have hlen := links_len hl
  refine ⟨Nat.le_of_ble_eq_true rfl, ?_⟩
  simp only [idxL]
  have hE : Env Try.prog [(19, F19)] D K := env (fnsOk_cons R19 fnsOk_nil)
  refine IW.seq ?_
  refine IW.free (by simp) (fun hfree => ?_)
  refine IW.reg hE ?_
  refine vcS_new rfl rfl (ox_box (pl rfl) (cellsOf_Block _)) (.inl (by omega)) ?_
  refine vcS_val rfl rfl (ox_assign (pl rfl)) ?_
  refine vcS_nil ?_
  refine IW.seq ?_
  refine IW.reg hE ?_
  refine vcS_val rfl rfl (ox_buildA0 (cs := encs (Vector.replicate 32 (0 : UInt8)).toList) D_24 rfl D_5 rfl) ?_
  refine vcS_new rfl rfl (ox_allocZ (cs := encs (Vector.replicate 32 (0 : UInt8)).toList) D_24 rfl) (.inl (by omega)) ?_
  refine vcS_sto rfl rfl (ox_store (pl rfl) (pl rfl) D_24 (hp_eq _ _ _ _) rfl (encs_vec_length _) (le_vec _ rfl) (encs_known _) (wr_all (by simp only [encs_vec_length]))) (.inl (by omega)) ?_
  refine vcS_nil ?_
  refine IW.seq ?_
  refine IW.seq ?_
  refine IW.drw hE mixed [[],[0],[0,1],[0,1,2],[0,1,2,3],[0,1,2,3,4],[0,1,2,3,4,5],[0,1,2,3],[0,1,2,3,7],[0,1,2,3],[0,1,2,3,7,8,9],[0,1,2,3,4,5,6,7,8,9,10],[0,1,2,3,4,5,6,7,8,9,10,11],[0,1,2,3,4,5,6,7,8,9,10,11,12],[0,1,2,3,4,5,6,7,8,9,10,11,12,13],[0,1,2,3,4,5,6,7,8,9,10,11,12,13,14],[0,1,2,3,4,5,6,7,8,9,10,11,12,13,14,15],[0,1,2,3,4,5,6,7,8,9,10,11,12,13,14,15,16],[0,1,2,3,4,5,6,7,8,9,10,11,12,13,14,15,16,17],[0,1,2,3,4,5,6,7,8,9,10,11,12,13,14,15,16,17,18],[0,1,2,3,4,5,6,7,8,9,10,11,12,13,14,15,16,17,18,19],[0,1,2,3,4,5,6,7,8,9,10,11,12,13,14,15,16,17,18,19,20],[0,1,2,3,4,5,6,7,8,9,10,11,12,13,14,15,16,17,18,19,20,21],[0,1,2,3,4,5,6,7,8,9,10,11,12,13,14,15,16,17,18,19,20,21,22],[0,1,2,3,4,5,6,7,8,9,10,11,12,13,14,15,16,17,18,19,20,21,22,23]] (by kernel_rfl) (vcE_start ?_)
  refine vcE_bl rfl rfl (fun _ => ox_fieldAddr (pl rfl) D_37 rfl rfl D_22 (by decide)) rfl rfl ?_
  refine vcE_val rfl rfl rfl rfl (ox_load (pl rfl) D_22 (hp_sk (by omega) (hp_sk (by omega) (hp_eq _ _ _ _))) (rd_37_1 _ rfl)) rfl (si_load (pl rfl)) (lt1 (by omega)) (trivial) ?_
  refine vcE_bl rfl rfl (fun _ => ox_bin (pl rfl) (pl (v := enc (4294967295 : UInt64)) rfl) (bo_u64_gtr _ _)) rfl rfl ?_
  refine vcE_bl rfl rfl (fun _ => ox_move (pl rfl)) rfl rfl ?_
  refine vcE_opt rfl (wgF rfl rfl rfl) rfl rfl (fun hb => ox_fieldAddr (pl rfl) D_37 rfl rfl D_22 (by decide)) (fun hb => vi_bl rfl rfl) hf0 (trivial) ?_
  refine vcE_opt rfl (wgF rfl rfl rfl) rfl rfl (fun hb => ox_load (gd hb rfl) D_22 (hp_sk (by omega) (hp_sk (by omega) (hp_eq _ _ _ _))) (rd_37_1 _ rfl)) (fun hb => vi_load (gd hb rfl)) (hf1 (by omega)) (trivial) ?_
  refine vcE_opt rfl (wgF rfl rfl rfl) rfl rfl (fun hb => ox_bin (gd hb rfl) (pl (v := enc (0 : UInt64)) rfl) (bo_u64_eql _ _)) (fun hb => vi_bl rfl rfl) hf0 (trivial) ?_
  refine vcE_opt rfl (wgF rfl rfl rfl) rfl rfl (fun hb => ox_fieldAddr (pl rfl) D_37 rfl rfl D_24 (by decide)) (fun hb => vi_bl rfl rfl) hf0 (trivial) ?_
  refine vcE_opt rfl (wgF rfl rfl rfl) rfl rfl (fun hb => ox_load (gd hb rfl) D_24 (hp_sk (by omega) (hp_sk (by omega) (hp_eq _ _ _ _))) (rd_37_2 _ rfl rfl)) (fun hb => vi_load (gd hb rfl)) (hf1 (by omega)) (trivial) ?_
  refine vcE_opt rfl (wgF rfl rfl rfl) rfl rfl (fun hb => ox_load (pl rfl) D_24 (hp_eq _ _ _ _) (rd_all rfl (encs_vec_length _))) (fun hb => vi_load (pl rfl)) (hf1 (by omega)) (trivial) ?_
  refine vcE_opt rfl (wgF rfl rfl rfl) rfl rfl (fun hb => ox_bin (gd hb rfl) (gd hb rfl) (eq_vec K_24 cellEq_u8 _ _)) (fun hb => vi_bl rfl rfl) hf0 (trivial) ?_
  refine vcE_opt rfl (wgF rfl rfl rfl) rfl rfl (fun hb => ox_bin (gd hb rfl) (gd hb rfl) (bo_bool_neq D_4 rfl _ _)) (fun hb => vi_bl rfl rfl) hf0 (trivial) ?_
  refine vcE_bl rfl rfl (fun _ => ox_or (pl rfl) (pl rfl) (fun hc => gd (by rw [hc]; rfl) rfl)) rfl rfl ?_
  refine vcE_bl rfl rfl (fun _ => ox_move (pl rfl)) rfl rfl ?_
  refine vcE_opt rfl (wgF rfl rfl rfl) rfl rfl (fun hb => ox_fieldAddr (pl rfl) D_37 rfl rfl D_35 (by decide)) (fun hb => vi_bl rfl rfl) hf0 (trivial) ?_
  refine vcE_opt rfl (wgF rfl rfl rfl) rfl rfl (fun hb => ox_load (gd hb rfl) D_35 (hp_sk (by omega) (hp_sk (by omega) (hp_eq _ _ _ _))) (rd_37_4 _ rfl)) (fun hb => vi_load (gd hb rfl)) (hf1 (by omega)) (trivial) ?_
  refine vcE_opt rfl (wgF rfl rfl rfl) rfl rfl (fun hb => ox_len (gd hb rfl) D_35 rfl) (fun hb => vi_len (gd hb rfl)) hf0 (trivial) ?_
  refine vcE_opt rfl (wgF rfl rfl rfl) rfl rfl (fun hb => ox_bin (gd hb rfl) (pl rfl) (bo_i64_gtr _ _)) (fun hb => vi_bl rfl rfl) hf0 (trivial) ?_
  refine vcE_bl rfl rfl (fun _ => ox_or (pl rfl) (pl rfl) (fun hc => gd (by rw [hc]; rfl) rfl)) rfl rfl ?_
  refine vcE_bl rfl rfl (fun _ => ox_move (pl rfl)) rfl rfl ?_
  refine vcE_opt rfl (wgF rfl rfl rfl) rfl rfl (fun hb => ox_fieldAddr (pl rfl) D_37 rfl rfl D_34 (by decide)) (fun hb => vi_bl rfl rfl) hf0 (trivial) ?_
  refine vcE_opt rfl (wgF rfl rfl rfl) rfl rfl (fun hb => ox_load (gd hb rfl) D_34 (hp_sk (by omega) (hp_sk (by omega) (hp_eq _ _ _ _))) (rd_37_3 _ rfl)) (fun hb => vi_load (gd hb rfl)) (hf1 (by omega)) (trivial) ?_
  refine vcE_opt rfl (wgF rfl rfl rfl) rfl rfl (fun hb => ox_len (gd hb rfl) D_34 rfl) (fun hb => vi_len (gd hb rfl)) hf0 (trivial) ?_
  refine vcE_opt rfl (wgF rfl rfl rfl) rfl rfl (fun hb => ox_bin (gd hb rfl) (pl rfl) (bo_i64_gtr _ _)) (fun hb => vi_bl rfl rfl) hf0 (trivial) ?_
  refine vcE_bl rfl rfl (fun _ => ox_or (pl rfl) (pl rfl) (fun hc => gd (by rw [hc]; rfl) rfl)) rfl rfl ?_
  refine vcE_nil ?_
  refine IW.cond rfl (fun hc1 => ?_) (fun hc1 => ?_)
  · refine IW.seq ?_
    refine IW.reg hE ?_
    refine vcS_val rfl rfl (ox_assign (pl rfl)) ?_
    refine vcS_nil ?_
    refine IW.ret ?_
    exact RetP.ret (.inr rfl) rfl rfl trivial (by rw [checkB, if_pos (show headB b = true from hc1)])
  · have hln : b.links.len ≤ 16 := by
      simp only [Bool.or_eq_false_iff, decide_eq_false_iff_not] at hc1
      omega
    refine IW.skip ?_
    refine IW.seq ?_
    refine IW.reg hE ?_
    refine vcS_val rfl rfl (ox_load (pl rfl) D_24 (hp_eq _ _ _ _) (rd_all rfl (encs_vec_length _))) ?_
    refine vcS_new rfl rfl (ox_allocZ (cs := encs (Vector.replicate 32 (0 : UInt8)).toList) D_24 rfl) (.inl (by omega)) ?_
    refine vcS_sto rfl rfl (ox_store (pl rfl) (pl rfl) D_24 (hp_eq _ _ _ _) rfl (encs_vec_length _) (le_vec _ rfl) (encs_known _) (wr_all (by simp only [encs_vec_length]))) (.inl (by omega)) ?_
    refine vcS_nil ?_
    refine IW.seq ?_
    refine IW.seq ?_
    refine IW.reg hE ?_
    refine vcS_val rfl rfl (ox_fieldAddr (pl rfl) D_37 rfl rfl D_34 (by decide)) ?_
    refine vcS_val rfl rfl (ox_load (pl rfl) D_34 (hp_sk (by omega) (hp_sk (by omega) (hp_sk (by omega) (hp_sk (by omega) (hp_eq _ _ _ _))))) (rd_37_3 _ rfl)) ?_
    refine vcS_val rfl rfl (ox_len (pl rfl) D_34 rfl) ?_
    refine vcS_val rfl rfl (ox_move (pl rfl)) ?_
    refine vcS_nil ?_
    refine IW.block ?_
    refine IW.loop (S := Nat) (fun s => [(0, enc b), (1, .pointer (some ⟨n, 0, none⟩)), (2, .int .i64 0), (4, .pointer (some ⟨n + 1 + 1, 0, none⟩)), (35, enc b.links), (36, .int .i64 b.links.len), (37, .int .i64 s)]) (fun s => [(n + 1 + 1, some (.cells (encs (lastD l s).toList) false)), (n, some (.cells b.cells false))]) (fun s => n + 1 + 1 + 1 + s) (fun s => s ≤ l.length ∧ okL b.prev zD l = okL b.prev (lastD l s) (l.drop s)) (fun s => l.length - s) (0) (⟨by simp, rfl⟩) (⟨rfl, ⟨rfl, ⟨rfl, ⟨rfl, ⟨rfl, ⟨rfl, ⟨rfl, trivial⟩⟩⟩⟩⟩⟩⟩) (leX_le (leX_cons rfl (leX_old (by simp) (leX_new (free_hp hfree (by omega) ⟨by omega, trivial⟩) (leX_new (free_hp hfree (by omega) ⟨by omega, trivial⟩) leX_refl))))) (Nat.le_refl _) (fun s hs => ?_)
    obtain ⟨hs1, hs2⟩ := hs
    refine IW.seq ?_
    refine IW.reg hE ?_
    refine vcS_val rfl rfl (ox_bin (pl rfl) (pl rfl) (bo_i64_lss _ _)) ?_
    refine vcS_nil ?_
    refine IW.seq ?_
    refine IW.cond rfl (fun hc2 => ?_) (fun hc2 => ?_)
    · replace hc2 := of_decide_eq_true hc2
      have hc2 : s < l.length := by omega
      obtain ⟨i1, o1, p1, c1, r1, e1, m1, l1⟩ := rdC_at (a := b.links.a) (len := b.links.len) (cap := b.links.cap) hl hc2
      have hi1 : i1 < n := rdC_free hfree hl i1 o1 p1 b.links.len b.links.cap (by rw [← e1]; rfl)
      refine IW.skip ?_
      refine IW.seq ?_
      refine IW.block ?_
      refine IW.seq ?_
      refine IW.reg hE ?_
      refine vcS_val rfl rfl (ox_iaS ((pl (v := enc b.links) rfl).trans (show _ = Value.slice (some ⟨i1, o1, p1⟩) b.links.len b.links.cap by rw [← e1]; rfl)) (pl rfl) D_34 rfl D_24 (by omega) (by omega)) ?_
      refine vcS_val rfl rfl (ox_load (pl rfl) D_24 (hp_sk (by omega) (hp_sk (by omega) m1)) (rd_cel l1 hc2 rfl rfl rfl)) ?_
      refine vcS_new rfl rfl (ox_allocZ (cs := encs (Vector.replicate 32 (0 : UInt8)).toList) D_24 rfl) (.inl (by omega)) ?_
      refine vcS_sto rfl rfl (ox_store (pl rfl) (pl rfl) D_24 (hp_eq _ _ _ _) rfl (encs_vec_length _) (le_vec _ rfl) (encs_known _) (wr_all (by simp only [encs_vec_length]))) (.inl (by omega)) ?_
      refine vcS_nil ?_
      refine IW.seq ?_
      refine IW.seq ?_
      refine IW.reg hE ?_
      refine vcS_val rfl rfl (ox_load (pl rfl) D_24 (hp_eq _ _ _ _) (rd_all rfl (encs_vec_length _))) ?_
      refine vcS_val rfl rfl (ox_fieldAddr (pl rfl) D_37 rfl rfl D_24 (by decide)) ?_
      refine vcS_val rfl rfl (ox_load (pl rfl) D_24 (hp_sk (by omega) (hp_sk (by omega) (hp_sk (by omega) (hp_eq _ _ _ _)))) (rd_37_2 _ rfl rfl)) ?_
      refine vcS_val rfl rfl (ox_bin (pl rfl) (pl rfl) (eq_vec K_24 cellEq_u8 _ _)) ?_
      refine vcS_val rfl rfl (ox_move (pl rfl)) ?_
      refine vcS_opt rfl (wgF rfl rfl rfl) (fun hb => ox_load (pl rfl) D_24 (hp_sk (by omega) (hp_sk (by omega) (hp_eq _ _ _ _))) (rd_all rfl (encs_vec_length _))) ?_
      refine vcS_opt rfl (wgF rfl rfl rfl) (fun hb => ox_load (pl rfl) D_24 (hp_eq _ _ _ _) (rd_all rfl (encs_vec_length _))) ?_
      refine vcS_opt rfl (wgF rfl rfl rfl) (fun hb => ox_fnG rfl (mp_cons (gd hb rfl) (mp_cons (gd hb rfl) mp_nil)) (fn2_ev _ _ _ _ _)) ?_
      refine vcS_opt rfl (wgF rfl rfl rfl) (fun hb => ox_bin (gd hb rfl) (pl rfl) (bo_i64_geq _ _)) ?_
      refine vcS_val rfl rfl (ox_or (pl rfl) (pl rfl) (fun hc => gd (by rw [hc]; rfl) rfl)) ?_
      refine vcS_nil ?_
      refine IW.cond rfl (fun hc3 => ?_) (fun hc3 => ?_)
      · refine IW.seq ?_
        refine IW.reg hE ?_
        refine vcS_val rfl rfl (ox_assign (pl rfl)) ?_
        refine vcS_nil ?_
        refine IW.ret ?_
        refine retB ?_
        refine retS (retS ?_)
        refine retB ?_
        exact RetP.ret (.inr rfl) rfl rfl trivial (by rw [checkB, if_neg (show ¬ headB b = true from by rw [show headB b = false from hc1]; simp), hs2, okL_drop hc2, hc3]; rfl)
      · refine IW.skip ?_
        refine IW.reg hE ?_
        refine vcS_val rfl rfl (ox_load (pl rfl) D_24 (hp_eq _ _ _ _) (rd_all rfl (encs_vec_length _))) ?_
        refine vcS_sto rfl rfl (ox_store (pl rfl) (pl rfl) D_24 (hp_sk (by omega) (hp_sk (by omega) (hp_eq _ _ _ _))) rfl (encs_vec_length _) (le_vec _ rfl) (encs_known _) (wr_all (by simp only [encs_vec_length]))) (.inl (by omega)) ?_
        refine vcS_nil ?_
        refine IW.nilB ?_
        refine IW.reg hE ?_
        refine vcS_val rfl rfl (ox_bin (pl rfl) (pl rfl) (bo_i64_add (by omega))) ?_
        refine vcS_val rfl rfl (ox_move (pl rfl)) ?_
        refine vcS_nil ?_
        refine IW.nilS ?_
        exact ⟨s + 1, _, _, ⟨by omega, by rw [hs2, okL_drop hc2, lastD_succ hc2, hc3]; rfl⟩, by omega, rfl, ⟨rfl, ⟨rfl, ⟨rfl, ⟨rfl, ⟨rfl, ⟨rfl, ⟨rfl, trivial⟩⟩⟩⟩⟩⟩⟩, rfl, leX_le (leX_cons (by rw [lastD_succ hc2]) (leX_new (free_hp hfree (by omega) ⟨by omega, trivial⟩) (leX_new (free_hp hfree (by omega) ⟨by omega, trivial⟩) (leX_old (by simp) leX_refl)))), by omega⟩
    · replace hc2 := of_decide_eq_false hc2
      refine IW.exit ?_
      refine exS (exS ?_)
      refine blkQ_exit ?_
      refine IW.seq ?_
      refine IW.reg hE ?_
      refine vcS_val rfl rfl (ox_assign (pl rfl)) ?_
      refine vcS_nil ?_
      refine IW.ret ?_
      exact RetP.ret (.inr rfl) rfl rfl trivial (by rw [checkB, if_neg (show ¬ headB b = true from by rw [show headB b = false from hc1]; simp), hs2, List.drop_of_length_le (by omega)]; rfl)
end Go.Proofs.Ytdnnojblneccdaa
