import Derived.Test.YtdnnojblneccdaaV11D
/-
  Sums: sum, Sum512, Sum.
-/
namespace Go.Proofs.Ytdnnojblneccdaa
set_option linter.unusedSimpArgs false
set_option linter.unusedVariables false
open Go
open Enc (enc)
set_option maxRecDepth 100000
/-- the bytes of the first i words -/
def sb (ws : List UInt64) (i : Nat) : List UInt8 := (ws.take i).flatMap be8
theorem sb_length {ws : List UInt64} {i : Nat} (h : i ≤ ws.length) : (sb ws i).length = 8 * i := by
  have : ∀ l : List UInt64, (l.flatMap be8).length = 8 * l.length := by
    intro l
    induction l with
    | nil => rfl
    | cons a l ih => rw [List.flatMap_cons, List.length_append, be8_length, ih, List.length_cons]; omega
  rw [sb, this, List.length_take]; omega
theorem sb_succ {ws : List UInt64} {i : Nat} (h : i < ws.length) : sb ws (i + 1) = sb ws i ++ be8 (ws.getD i 0) := by
  unfold sb
  rw [List.take_succ_eq_append_getElem h, List.flatMap_append]
  simp [h]
def bytesV (w : Vector UInt64 8) : Vector UInt8 64 := ⟨(sb w.toList 8).toArray, by simp [sb_length]⟩
theorem bytesV_toList (w : Vector UInt64 8) : (bytesV w).toList = sb w.toList 8 := by simp [bytesV]
def sumV (start : Vector UInt64 8) (b : List UInt8) : Vector UInt8 64 := bytesV (allV kL (padL b) start)
noncomputable def sumF (f : List UInt8 → Value) : FnI := fun args H n => match args with
  | [x] => (rdC H x).bind fun (S : List Sl) => (rdL UInt8 H S).bind fun ls => if S.length ≤ 2 ^ 47 ∧ ls.flatten.length ≤ 2 ^ 40 then some ⟨f ls.flatten, [], n⟩ else none
  | _ => none
theorem sumF_inv {f : List UInt8 → Value} {args : List Value} {H : IHeap} {n : Nat} {e : Eff} (h : sumF f args H n = some e) : ∃ (x : Value) (S : List Sl) (ls : List (List UInt8)), args = [x] ∧ rdC H x = some S ∧ rdL UInt8 H S = some ls ∧ S.length ≤ 2 ^ 47 ∧ ls.flatten.length ≤ 2 ^ 40 ∧ e = ⟨f ls.flatten, [], n⟩ := by
  unfold sumF at h; split at h
  · simp only [Option.bind_eq_some_iff] at h
    obtain ⟨S, hS, ls, hls, h⟩ := h
    split at h
    · rename_i hl; cases h
      exact ⟨_, S, ls, rfl, hS, hls, hl.1, hl.2, rfl⟩
    · cases h
  · cases h
theorem sumF_ev {f : List UInt8 → Value} {x : Value} {H : IHeap} {n : Nat} {S : List Sl} {ls : List (List UInt8)} {l : List UInt8} (hS : rdC H x = some S) (hls : rdL UInt8 H S = some ls) (h1 : S.length ≤ 2 ^ 47) (hl : ls.flatten = l) (h2 : l.length ≤ 2 ^ 40) : sumF f [x] H n = some ⟨f l, [], n⟩ := by
  subst hl
  simp only [sumF, hS, hls, Option.bind_some]
  rw [if_pos ⟨h1, h2⟩]
noncomputable def F67 : FnI := fun args H n => match args with
  | [y, x] => (dec y).bind fun (st : Vector UInt64 8) => sumF (fun b => enc (sumV st b)) [x] H n
  | _ => none
theorem F67_inv {args : List Value} {H : IHeap} {n : Nat} {e : Eff} (h : F67 args H n = some e) : ∃ (s : Vector UInt64 8) (x : Value) (S : List Sl) (ls : List (List UInt8)), args = [enc s, x] ∧ rdC H x = some S ∧ rdL UInt8 H S = some ls ∧ S.length ≤ 2 ^ 47 ∧ ls.flatten.length ≤ 2 ^ 40 ∧ e = ⟨enc (sumV s ls.flatten), [], n⟩ := by
  unfold F67 at h; split at h
  · simp only [Option.bind_eq_some_iff] at h
    obtain ⟨s, hs, h⟩ := h
    obtain ⟨x, S, ls, h1, h2, h3, h4, h5, h6⟩ := sumF_inv h
    cases h1
    exact ⟨s, _, S, ls, by rw [dec_some hs], h2, h3, h4, h5, h6⟩
  · cases h
theorem F67_ev {s : Vector UInt64 8} {x : Value} {H : IHeap} {n : Nat} {S : List Sl} {ls : List (List UInt8)} (hS : rdC H x = some S) (hls : rdL UInt8 H S = some ls) (h1 : S.length ≤ 2 ^ 47) (h2 : ls.flatten.length ≤ 2 ^ 40) : F67 [enc s, x] H n = some ⟨enc (sumV s ls.flatten), [], n⟩ := by
  simp only [F67, dec_enc, Option.bind_some]
  exact sumF_ev hS hls h1 rfl h2
theorem rdL_keep {α : Type} [Row α] {H : IHeap} {n : Nat} {M : Ups} (hf : ∀ id, n ≤ id → H id = none) (hM : wAll (fun m => n ≤ m) M) : ∀ {S : List Sl} {ls : List (List α)}, rdL α H S = some ls → rdL α (hp H M) S = some ls
  | [], ls, h => h
  | s :: S, ls, h => by
    simp only [rdL] at h ⊢
    split at h
    · rename_i l ls' h1 h2
      cases h
      rw [rdC_keep hf h1 hM, rdL_keep hf hM h2]
    · cases h
theorem concE_zero' {n : Nat} {l : List UInt8} {bytes : Nat} {x : Value} {H : IHeap} {S : List Sl} {ls : List (List UInt8)} (hS : rdC H x = some S) (hls : rdL UInt8 H S = some ls) (h1 : S.length ≤ 2 ^ 47) (h2 : ls.flatten.length * bytes ≤ most) (h : ls.flatten.length = 0) : concF UInt8 bytes [x] H n = some ⟨.slice none 0 0, [], n⟩ := by
  rw [concF_ev hS hls h1 rfl h2, concE_zero h]
theorem concE_pos' {n : Nat} {l : List UInt8} {bytes : Nat} {x : Value} {H : IHeap} {S : List Sl} {ls : List (List UInt8)} (hS : rdC H x = some S) (hls : rdL UInt8 H S = some ls) (h1 : S.length ≤ 2 ^ 47) (h2 : ls.flatten.length * bytes ≤ most) (h : ls.flatten.length ≠ 0) : concF UInt8 bytes [x] H n = some ⟨.slice (some ⟨n, 0, some 1⟩) ls.flatten.length ls.flatten.length, [(n, some (.cells (cels ls.flatten) false))], n + 1⟩ := by
  rw [concF_ev hS hls h1 rfl h2, concE_pos h]; rfl
theorem ovw_all {l x : List UInt8} (h : x.length = l.length) : ovw l 0 x = x := by
  unfold ovw
  rw [List.take_zero, List.nil_append, List.drop_of_length_le (by omega), List.append_nil]
-- headwater/sha.sum ['Vector UInt64 8', 'Sl'] -> ['Vector UInt8 64'], results [[4, 26]]
theorem R67 : Ref Try.prog 67 F67 := by
  refine Ref.of_iw dok Try.func67 rfl (by kernel_rfl) fun args H n e hF => ?_
  obtain ⟨s, x, S, ls, rfl, hS, hls, hle, hto, rfl⟩ := F67_inv hF
  refine ⟨Nat.le_of_ble_eq_true rfl, ?_⟩
  simp only [idxL]
  have hE : Env Try.prog [(25, F25), (69, F69), (84, F84), (85, F85)] D K := env (fnsOk_cons R25 (fnsOk_cons R69 (fnsOk_cons R84 (fnsOk_cons R85 fnsOk_nil))))
  refine IW.seq ?_
  refine IW.free (by simp) (fun hfree => ?_)
  refine IW.reg hE ?_
  refine vcS_new rfl rfl (ox_box (pl rfl) rfl) (.inl (by omega)) ?_
  refine vcS_new rfl rfl (ox_allocZ (cs := encs (Vector.replicate 64 (0 : UInt8)).toList) D_26 rfl) (.inl (by omega)) ?_
  refine vcS_nil ?_
  refine IW.seq ?_
  refine IW.reg hE ?_
  refine vcS_val rfl rfl (ox_fn rfl rfl (fn0_ev _ _ _)) ?_
  refine vcS_new rfl rfl (ox_allocZ (cs := encs (Vector.replicate 80 (0 : UInt64)).toList) D_48 rfl) (.inl (by omega)) ?_
  refine vcS_sto rfl rfl (ox_store (pl rfl) (pl rfl) D_48 (hp_eq _ _ _ _) rfl (encs_vec_length _) (le_vec _ rfl) (encs_known _) (wr_all (by simp only [encs_vec_length]))) (.inl (by omega)) ?_
  refine vcS_nil ?_
  refine IW.seq ?_
  by_cases h0 : ls.flatten.length = 0
  · refine IW.drw hE mixed [[],[],[1],[0,1,2],[],[0,1,2,3,4]] (by kernel_rfl) (vcE_start ?_)
    refine vcE_val rfl rfl rfl rfl (ox_load (pl rfl) D_50 (hp_sk (by omega) (hp_sk (by omega) (hp_sk (by omega) (hp_eq _ _ _ _)))) (rd_all rfl (encs_vec_length _))) rfl (si_load (pl rfl)) (lt1 (by omega)) (trivial) ?_
    refine vcE_bl rfl rfl (fun _ => ox_move (pl rfl)) rfl rfl ?_
    refine vcE_call rfl rfl rfl rfl (ox_fn rfl rfl (concE_zero' (l := []) (rdC_keep hfree hS (by exact ⟨by omega, ⟨by omega, ⟨by omega, ⟨by omega, trivial⟩⟩⟩⟩)) (rdL_keep hfree (by exact ⟨by omega, ⟨by omega, ⟨by omega, ⟨by omega, trivial⟩⟩⟩⟩) hls) hle (by simp only [most]; omega) h0)) rfl ltu0 (trivial) ?_
    refine vcE_call rfl rfl rfl rfl (ox_fn rfl rfl (F84_ev (b := ls.flatten) (kl := kL) (congrArg some (List.length_eq_zero_iff.1 h0).symm) (hp_eq _ _ _ _) (by decide) hto)) rfl ltu0 (trivial) ?_
    refine vcE_new rfl rfl (fun _ => ox_allocZ (cs := encs (Vector.replicate 8 (0 : UInt64)).toList) D_50 rfl) rfl rfl (.inl (by omega)) ?_
    refine vcE_sto rfl rfl rfl rfl (ox_store (pl rfl) (pl rfl) D_50 (hp_eq _ _ _ _) rfl (encs_vec_length _) (le_vec _ rfl) (encs_known _) (wr_all (by simp only [encs_vec_length]))) rfl (si_store (pl rfl)) (is_some (hp_eq _ _ _ _)) (by omega) (.inl (by omega)) (⟨trivial, trivial⟩) (⟨trivial, ⟨trivial, ⟨trivial, trivial⟩⟩⟩) ?_
    refine vcE_nil ?_
    refine IW.seq ?_
    refine IW.reg hE ?_
    refine vcS_val rfl rfl (ox_slAH (pl rfl) D_26 rfl D_5 (bndI (pl rfl) rfl) (Nat.zero_le _)) ?_
    refine vcS_val rfl rfl (ox_assign (pl rfl)) ?_
    refine vcS_nil ?_
    refine IW.seq ?_
    refine IW.seq ?_
    refine IW.reg hE ?_
    refine vcS_val rfl rfl (ox_load (pl rfl) D_50 (hp_eq _ _ _ _) (rd_all rfl (encs_vec_length _))) ?_
    refine vcS_val rfl rfl (ox_move (pl rfl)) ?_
    refine vcS_nil ?_
    refine IW.block ?_
    refine IW.loop (S := Nat) (fun i => [(4, .pointer (some ⟨n + 1, 0, none⟩)), (7, .slice (some ⟨n + 1, 0, none⟩) (8 * i) 64), (16, enc (allV kL (padL ls.flatten) s)), (17, .int .i64 i)]) (fun i => [(n + 1, some (.cells (encs (ovw (Vector.replicate 64 (0 : UInt8)).toList 0 (sb (allV kL (padL ls.flatten) s).toList i))) false))]) (fun i => n + 1 + 1 + 1 + 1) (fun i => i ≤ 8) (fun i => 8 - i) (0) (by simp) (⟨rfl, ⟨rfl, ⟨rfl, ⟨rfl, trivial⟩⟩⟩⟩) (leX_le (leX_same (hp_sk (by omega) (hp_sk (by omega) (hp_sk (by omega) (hp_sk (by omega) (hp_eq _ _ _ _))))) (by rw [show sb (allV kL (padL ls.flatten) s).toList 0 = [] from rfl, ovw_nil]) (leX_none hfree (by exact ⟨by omega, ⟨by omega, ⟨by omega, ⟨by omega, ⟨by omega, ⟨by omega, trivial⟩⟩⟩⟩⟩⟩)))) (Nat.le_refl _) (fun i hi => ?_)
    refine IW.seq ?_
    refine IW.reg hE ?_
    refine vcS_val rfl rfl (ox_bin (pl rfl) (pl rfl) (bo_i64_lss _ _)) ?_
    refine vcS_nil ?_
    refine IW.seq ?_
    refine IW.cond rfl (fun hc1 => ?_) (fun hc1 => ?_)
    · replace hc1 := of_decide_eq_true hc1
      have hi8 : i < (allV kL (padL ls.flatten) s).toList.length := by simp; omega
      have hz : (Vector.replicate 64 (0 : UInt8)).toList.length = 64 := by simp
      have hsl : (sb (allV kL (padL ls.flatten) s).toList i).length = 8 * i := sb_length (by simp; omega)
      have hov : ovw (ovw (Vector.replicate 64 (0 : UInt8)).toList 0 (sb (allV kL (padL ls.flatten) s).toList i)) (8 * i) (be8 ((allV kL (padL ls.flatten) s).toList.getD i 0)) = ovw (Vector.replicate 64 (0 : UInt8)).toList 0 (sb (allV kL (padL ls.flatten) s).toList i ++ be8 ((allV kL (padL ls.flatten) s).toList.getD i 0)) := ovw_ovw (by rw [hsl]; omega) (by rw [hsl, be8_length, hz]; omega)
      refine IW.skip ?_
      refine IW.seq ?_
      refine IW.block ?_
      refine IW.seq ?_
      refine IW.reg hE ?_
      refine vcS_val rfl rfl (ox_ixA (pl rfl) (pl rfl) D_50 rfl D_22 (by omega) (by omega) (rd_ix (i) (0 : UInt64) rfl (by simp) (by simp; omega))) ?_
      refine vcS_val rfl rfl (ox_assign (pl rfl)) ?_
      refine vcS_nil ?_
      refine IW.reg hE ?_
      refine vcS_val rfl rfl (ox_move (pl rfl)) ?_
      refine vcS_val rfl rfl (ox_move (pl rfl)) ?_
      refine vcS_ups rfl rfl (ox_fn rfl rfl (F69_ev (l := ovw (Vector.replicate 64 (0 : UInt8)).toList 0 (sb (allV kL (padL ls.flatten) s).toList i)) (hp_eq _ _ _ _) (by omega) (by rw [ovw_length (by rw [hsl, hz]; omega), hz]; omega) (by omega))) rfl ⟨.inl (by omega), trivial⟩ ?_
      refine vcS_val rfl rfl (ox_assign (pl rfl)) ?_
      refine vcS_nil ?_
      refine IW.nilB ?_
      refine IW.reg hE ?_
      refine vcS_val rfl rfl (ox_bin (pl rfl) (pl rfl) (bo_i64_add (by omega))) ?_
      refine vcS_val rfl rfl (ox_move (pl rfl)) ?_
      refine vcS_nil ?_
      refine IW.nilS ?_
      exact ⟨i + 1, _, _, by omega, by omega, rfl, ⟨rfl, ⟨rfl, ⟨rfl, ⟨rfl, trivial⟩⟩⟩⟩, rfl, leX_le (leX_cons (by rw [sb_succ hi8, hov]) (leX_old (by simp) leX_refl)), Nat.le_refl _⟩
    · replace hc1 := of_decide_eq_false hc1
      have h8 : i = 8 := by omega
      subst h8
      have hfin : ovw (Vector.replicate 64 (0 : UInt8)).toList 0 (sb (allV kL (padL ls.flatten) s).toList 8) = (sumV s ls.flatten).toList := by rw [ovw_all (by rw [sb_length (by simp)]; simp)]; exact (bytesV_toList _).symm
      rw [hfin]
      refine IW.exit ?_
      refine exS (exS ?_)
      refine blkQ_exit ?_
      refine IW.seq ?_
      refine IW.reg hE ?_
      refine vcS_val rfl rfl (ox_load (pl rfl) D_26 (hp_eq _ _ _ _) (rd_all rfl (encs_vec_length _))) ?_
      refine vcS_sto rfl rfl (ox_store (pl rfl) (pl rfl) D_26 (hp_eq _ _ _ _) rfl (encs_vec_length _) (le_vec _ rfl) (encs_known _) (wr_all (by simp only [encs_vec_length]))) (.inl (by omega)) ?_
      refine vcS_nil ?_
      refine IW.ret ?_
      exact RetP.pure (.inr rfl) (ires_cell rfl D_26 (hp_eq _ _ _ _) (rd_all rfl (encs_vec_length _))) (okV8 _) (by omega)
  · refine IW.drw hE mixed [[],[],[1],[0,1,2],[],[0,1,2,3,4]] (by kernel_rfl) (vcE_start ?_)
    refine vcE_val rfl rfl rfl rfl (ox_load (pl rfl) D_50 (hp_sk (by omega) (hp_sk (by omega) (hp_sk (by omega) (hp_eq _ _ _ _)))) (rd_all rfl (encs_vec_length _))) rfl (si_load (pl rfl)) (lt1 (by omega)) (trivial) ?_
    refine vcE_bl rfl rfl (fun _ => ox_move (pl rfl)) rfl rfl ?_
    refine vcE_callN rfl rfl rfl rfl (ox_fn rfl rfl (concE_pos' (l := []) (rdC_keep hfree hS (by exact ⟨by omega, ⟨by omega, ⟨by omega, ⟨by omega, trivial⟩⟩⟩⟩)) (rdL_keep hfree (by exact ⟨by omega, ⟨by omega, ⟨by omega, ⟨by omega, trivial⟩⟩⟩⟩) hls) hle (by simp only [most]; omega) h0)) rfl ltu0 ⟨⟨.inl (by omega), by omega, by omega⟩, trivial⟩ (by omega) (trivial) ?_
    refine vcE_call rfl rfl rfl rfl (ox_fn rfl rfl (F84_ev (b := ls.flatten) (kl := kL) (rdC_all (hp_eq _ _ _ _) rfl) (hp_sk (by omega) (hp_eq _ _ _ _)) (by decide) hto)) rfl (ltuc (by omega) ltu0) (⟨trivial, trivial⟩) ?_
    refine vcE_new rfl rfl (fun _ => ox_allocZ (cs := encs (Vector.replicate 8 (0 : UInt64)).toList) D_50 rfl) rfl rfl (.inl (by omega)) ?_
    refine vcE_sto rfl rfl rfl rfl (ox_store (pl rfl) (pl rfl) D_50 (hp_eq _ _ _ _) rfl (encs_vec_length _) (le_vec _ rfl) (encs_known _) (wr_all (by simp only [encs_vec_length]))) rfl (si_store (pl rfl)) (is_some (hp_eq _ _ _ _)) (by omega) (.inl (by omega)) (⟨trivial, ⟨trivial, trivial⟩⟩) (⟨trivial, ⟨trivial, ⟨trivial, trivial⟩⟩⟩) ?_
    refine vcE_nil ?_
    refine IW.seq ?_
    refine IW.reg hE ?_
    refine vcS_val rfl rfl (ox_slAH (pl rfl) D_26 rfl D_5 (bndI (pl rfl) rfl) (Nat.zero_le _)) ?_
    refine vcS_val rfl rfl (ox_assign (pl rfl)) ?_
    refine vcS_nil ?_
    refine IW.seq ?_
    refine IW.seq ?_
    refine IW.reg hE ?_
    refine vcS_val rfl rfl (ox_load (pl rfl) D_50 (hp_eq _ _ _ _) (rd_all rfl (encs_vec_length _))) ?_
    refine vcS_val rfl rfl (ox_move (pl rfl)) ?_
    refine vcS_nil ?_
    refine IW.block ?_
    refine IW.loop (S := Nat) (fun i => [(4, .pointer (some ⟨n + 1, 0, none⟩)), (7, .slice (some ⟨n + 1, 0, none⟩) (8 * i) 64), (16, enc (allV kL (padL ls.flatten) s)), (17, .int .i64 i)]) (fun i => [(n + 1, some (.cells (encs (ovw (Vector.replicate 64 (0 : UInt8)).toList 0 (sb (allV kL (padL ls.flatten) s).toList i))) false))]) (fun i => n + 1 + 1 + 1 + 1 + 1) (fun i => i ≤ 8) (fun i => 8 - i) (0) (by simp) (⟨rfl, ⟨rfl, ⟨rfl, ⟨rfl, trivial⟩⟩⟩⟩) (leX_le (leX_same (hp_sk (by omega) (hp_sk (by omega) (hp_sk (by omega) (hp_sk (by omega) (hp_sk (by omega) (hp_eq _ _ _ _)))))) (by rw [show sb (allV kL (padL ls.flatten) s).toList 0 = [] from rfl, ovw_nil]) (leX_none hfree (by exact ⟨by omega, ⟨by omega, ⟨by omega, ⟨by omega, ⟨by omega, ⟨by omega, ⟨by omega, trivial⟩⟩⟩⟩⟩⟩⟩)))) (Nat.le_refl _) (fun i hi => ?_)
    refine IW.seq ?_
    refine IW.reg hE ?_
    refine vcS_val rfl rfl (ox_bin (pl rfl) (pl rfl) (bo_i64_lss _ _)) ?_
    refine vcS_nil ?_
    refine IW.seq ?_
    refine IW.cond rfl (fun hc2 => ?_) (fun hc2 => ?_)
    · replace hc2 := of_decide_eq_true hc2
      have hi8 : i < (allV kL (padL ls.flatten) s).toList.length := by simp; omega
      have hz : (Vector.replicate 64 (0 : UInt8)).toList.length = 64 := by simp
      have hsl : (sb (allV kL (padL ls.flatten) s).toList i).length = 8 * i := sb_length (by simp; omega)
      have hov : ovw (ovw (Vector.replicate 64 (0 : UInt8)).toList 0 (sb (allV kL (padL ls.flatten) s).toList i)) (8 * i) (be8 ((allV kL (padL ls.flatten) s).toList.getD i 0)) = ovw (Vector.replicate 64 (0 : UInt8)).toList 0 (sb (allV kL (padL ls.flatten) s).toList i ++ be8 ((allV kL (padL ls.flatten) s).toList.getD i 0)) := ovw_ovw (by rw [hsl]; omega) (by rw [hsl, be8_length, hz]; omega)
      refine IW.skip ?_
      refine IW.seq ?_
      refine IW.block ?_
      refine IW.seq ?_
      refine IW.reg hE ?_
      refine vcS_val rfl rfl (ox_ixA (pl rfl) (pl rfl) D_50 rfl D_22 (by omega) (by omega) (rd_ix (i) (0 : UInt64) rfl (by simp) (by simp; omega))) ?_
      refine vcS_val rfl rfl (ox_assign (pl rfl)) ?_
      refine vcS_nil ?_
      refine IW.reg hE ?_
      refine vcS_val rfl rfl (ox_move (pl rfl)) ?_
      refine vcS_val rfl rfl (ox_move (pl rfl)) ?_
      refine vcS_ups rfl rfl (ox_fn rfl rfl (F69_ev (l := ovw (Vector.replicate 64 (0 : UInt8)).toList 0 (sb (allV kL (padL ls.flatten) s).toList i)) (hp_eq _ _ _ _) (by omega) (by rw [ovw_length (by rw [hsl, hz]; omega), hz]; omega) (by omega))) rfl ⟨.inl (by omega), trivial⟩ ?_
      refine vcS_val rfl rfl (ox_assign (pl rfl)) ?_
      refine vcS_nil ?_
      refine IW.nilB ?_
      refine IW.reg hE ?_
      refine vcS_val rfl rfl (ox_bin (pl rfl) (pl rfl) (bo_i64_add (by omega))) ?_
      refine vcS_val rfl rfl (ox_move (pl rfl)) ?_
      refine vcS_nil ?_
      refine IW.nilS ?_
      exact ⟨i + 1, _, _, by omega, by omega, rfl, ⟨rfl, ⟨rfl, ⟨rfl, ⟨rfl, trivial⟩⟩⟩⟩, rfl, leX_le (leX_cons (by rw [sb_succ hi8, hov]) (leX_old (by simp) leX_refl)), Nat.le_refl _⟩
    · replace hc2 := of_decide_eq_false hc2
      have h8 : i = 8 := by omega
      subst h8
      have hfin : ovw (Vector.replicate 64 (0 : UInt8)).toList 0 (sb (allV kL (padL ls.flatten) s).toList 8) = (sumV s ls.flatten).toList := by rw [ovw_all (by rw [sb_length (by simp)]; simp)]; exact (bytesV_toList _).symm
      rw [hfin]
      refine IW.exit ?_
      refine exS (exS ?_)
      refine blkQ_exit ?_
      refine IW.seq ?_
      refine IW.reg hE ?_
      refine vcS_val rfl rfl (ox_load (pl rfl) D_26 (hp_eq _ _ _ _) (rd_all rfl (encs_vec_length _))) ?_
      refine vcS_sto rfl rfl (ox_store (pl rfl) (pl rfl) D_26 (hp_eq _ _ _ _) rfl (encs_vec_length _) (le_vec _ rfl) (encs_known _) (wr_all (by simp only [encs_vec_length]))) (.inl (by omega)) ?_
      refine vcS_nil ?_
      refine IW.ret ?_
      exact RetP.pure (.inr rfl) (ires_cell rfl D_26 (hp_eq _ _ _ _) (rd_all rfl (encs_vec_length _))) (okV8 _) (by omega)
def digOf (v : Vector UInt8 64) : Dig := ⟨(v.toList.take 32).toArray, by simp⟩
def digV (b : List UInt8) : Dig := digOf (sumV shortV b)
noncomputable def F38 : FnI := sumF fun b => enc (digV b)
theorem rd_dig (v : Vector UInt8 64) {d : TD} (hk : d.k.isAgg = true) (hs : d.size = 32) : rdVar d (encs v.toList) 0 = some (enc (digOf v)) := by
  have hl : (digOf v).toList = v.toList.take 32 := by simp [digOf]
  refine rd_part (A := []) (B := encs (digOf v).toList) (C := encs (v.toList.drop 32)) hk ?_ rfl (by rw [encs_vec_length, hs])
  rw [hl, List.nil_append, ← encs_append, List.take_append_drop]
-- headwater/sha.Sum ['Sl'] -> ['Vector UInt8 32'], results [[2, 24]]
theorem R38 : Ref Try.prog 38 F38 := by
  refine Ref.of_iw dok Try.func38 rfl (by kernel_rfl) fun args H n e hF => ?_
  obtain ⟨x, S, ls, rfl, hS, hls, hle, hto, rfl⟩ := sumF_inv hF
  refine ⟨Nat.le_of_ble_eq_true rfl, ?_⟩
  simp only [idxL]
  have hE : Env Try.prog [(45, F45), (67, F67)] D K := env (fnsOk_cons R45 (fnsOk_cons R67 fnsOk_nil))
  refine IW.seq ?_
  refine IW.free (by simp) (fun hfree => ?_)
  refine IW.reg hE ?_
  refine vcS_new rfl rfl (ox_allocZ (cs := encs (Vector.replicate 32 (0 : UInt8)).toList) D_24 rfl) (.inl (by omega)) ?_
  refine vcS_nil ?_
  refine IW.seq ?_
  refine IW.reg hE ?_
  refine vcS_val rfl rfl (ox_fn rfl rfl (fn0_ev _ _ _)) ?_
  refine vcS_val rfl rfl (ox_move (pl rfl)) ?_
  refine vcS_val rfl rfl (ox_fn rfl rfl (F67_ev (rdC_keep hfree hS (by exact ⟨by omega, trivial⟩)) (rdL_keep hfree (by exact ⟨by omega, trivial⟩) hls) hle hto)) ?_
  refine vcS_new rfl rfl (ox_allocZ (cs := encs (Vector.replicate 64 (0 : UInt8)).toList) D_26 rfl) (.inl (by omega)) ?_
  refine vcS_sto rfl rfl (ox_store (pl rfl) (pl rfl) D_26 (hp_eq _ _ _ _) rfl (encs_vec_length _) (le_vec _ rfl) (encs_known _) (wr_all (by simp only [encs_vec_length]))) (.inl (by omega)) ?_
  refine vcS_nil ?_
  refine IW.seq ?_
  refine IW.reg hE ?_
  refine vcS_val rfl rfl (ox_slAH (pl rfl) D_26 rfl D_5 (bndI (l := 32) (pl rfl) rfl) (by decide)) ?_
  refine vcS_val rfl rfl (ox_s2ap (pl rfl) D_24 rfl (by decide)) ?_
  refine vcS_val rfl rfl (ox_load (pl rfl) D_24 (hp_eq _ _ _ _) (rd_dig _ rfl rfl)) ?_
  refine vcS_sto rfl rfl (ox_store (pl rfl) (pl rfl) D_24 (hp_sk (by omega) (hp_sk (by omega) (hp_eq _ _ _ _))) rfl (encs_vec_length _) (le_vec _ rfl) (encs_known _) (wr_all (by simp only [encs_vec_length]))) (.inl (by omega)) ?_
  refine vcS_nil ?_
  refine IW.ret ?_
  exact RetP.pure (.inr rfl) (ires_cell rfl D_24 (hp_eq _ _ _ _) (rd_all rfl (encs_vec_length _))) (okV8 _) (by omega)
end Go.Proofs.Ytdnnojblneccdaa
/-
  Roots: bit by bit.
-/
namespace Go.Proofs.Ytdnnojblneccdaa
set_option linter.unusedSimpArgs false
set_option linter.unusedVariables false
open Go
open Enc (enc)
set_option maxRecDepth 100000
/-! one bit -/
/-- two words -/
def yL (y : Nat) : List UInt64 := [UInt64.ofNat y, UInt64.ofNat (y / 2 ^ 64)]
@[simp] theorem yL_length (y : Nat) : (yL y).length = 2 := rfl
end Go.Proofs.Ytdnnojblneccdaa
/-
  Plain law: a sum is that of its pieces; its bytes are those of the words.
-/
namespace Go.Proofs.Ytdnnojblneccdaa
set_option linter.unusedSimpArgs false
set_option linter.unusedVariables false
open Go
open Enc (enc)
set_option maxRecDepth 100000
/-! a number, brought into bounds -/
def pickV (n m : Int) : Int := if m < 1 then 0 else if n.tmod m < 0 then n.tmod m + m else n.tmod m
theorem pickV_rng {n m : Int} (h : 1 ≤ m) : 0 ≤ pickV n m ∧ pickV n m < m := by
  have h1 := Int.tmod_lt_of_pos n (show 0 < m by omega)
  have h2 : -m < n.tmod m := by
    have := Int.tmod_lt_of_pos (-n) (show 0 < m by omega)
    rw [Int.neg_tmod] at this; omega
  unfold pickV
  rw [if_neg (by omega)]
  split <;> omega
end Go.Proofs.Ytdnnojblneccdaa
/-
  kit.Pick.
-/
namespace Go.Proofs.Ytdnnojblneccdaa
set_option linter.unusedSimpArgs false
set_option linter.unusedVariables false
open Go
open Enc (enc)
set_option maxRecDepth 100000
theorem tmod_rng (n : Int) {m : Int} (h : 1 ≤ m) : -m < n.tmod m ∧ n.tmod m < m := by
  have h1 := Int.tmod_lt_of_pos n (show 0 < m by omega)
  have := Int.tmod_lt_of_pos (-n) (show 0 < m by omega)
  rw [Int.neg_tmod] at this
  exact ⟨by omega, h1⟩
noncomputable def F31 : FnI := fun args H n => match args with
  | [.int .i64 x, .int .i64 m] => if m ≤ 2 ^ 62 then some ⟨.int .i64 (pickV x m), [], n⟩ else none
  | _ => none
theorem F31_inv {args : List Value} {H : IHeap} {n : Nat} {e : Eff} (h : F31 args H n = some e) : ∃ x m : Int, args = [.int .i64 x, .int .i64 m] ∧ m ≤ 2 ^ 62 ∧ e = ⟨.int .i64 (pickV x m), [], n⟩ := by
  unfold F31 at h; split at h
  · split at h
    · rename_i hm; cases h; exact ⟨_, _, rfl, hm, rfl⟩
    · cases h
  · cases h
theorem F31_ev {H : IHeap} {n : Nat} (x : Int) {m : Int} (hm : m ≤ 2 ^ 62) : F31 [.int .i64 x, .int .i64 m] H n = some ⟨.int .i64 (pickV x m), [], n⟩ := by
  simp only [F31, if_pos hm]
-- headwater/headwaterkit.Pick ['Int', 'Int'] -> ['Int'], results [4]
theorem R31 : Ref Try.prog 31 F31 := by
  refine Ref.of_iw dok Try.func31 rfl (by kernel_rfl) fun args H n e hF => ?_
  obtain ⟨x, m, rfl, hm, rfl⟩ := F31_inv hF
  refine ⟨Nat.le_of_ble_eq_true rfl, ?_⟩
  simp only [idxL]
  have hE : Env Try.prog [] D K := env fnsOk_nil
  refine IW.seq ?_
  refine IW.reg hE ?_
  refine vcS_val rfl rfl (ox_assign (pl rfl)) ?_
  refine vcS_nil ?_
  refine IW.seq ?_
  refine IW.seq ?_
  refine IW.reg hE ?_
  refine vcS_val rfl rfl (ox_move (pl rfl)) ?_
  refine vcS_val rfl rfl (ox_bin (pl rfl) (pl rfl) (bo_i64_lss _ _)) ?_
  refine vcS_nil ?_
  refine IW.cond rfl (fun hc1 => ?_) (fun hc1 => ?_)
  · replace hc1 := of_decide_eq_true hc1
    refine IW.seq ?_
    refine IW.reg hE ?_
    refine vcS_val rfl rfl (ox_assign (pl rfl)) ?_
    refine vcS_nil ?_
    refine IW.ret ?_
    exact RetP.ret (.inr rfl) rfl rfl trivial (by unfold pickV; rw [if_pos hc1])
  · replace hc1 := of_decide_eq_false hc1
    have hr := tmod_rng x (show 1 ≤ m by omega)
    refine IW.skip ?_
    refine IW.seq ?_
    refine IW.reg hE ?_
    refine vcS_val rfl rfl (ox_move (pl rfl)) ?_
    refine vcS_val rfl rfl (ox_move (pl rfl)) ?_
    refine vcS_val rfl rfl (ox_bin (pl rfl) (pl rfl) (bo_i64_remI (by omega))) ?_
    refine vcS_val rfl rfl (ox_assign (pl rfl)) ?_
    refine vcS_nil ?_
    refine IW.seq ?_
    refine IW.seq ?_
    refine IW.reg hE ?_
    refine vcS_val rfl rfl (ox_move (pl rfl)) ?_
    refine vcS_val rfl rfl (ox_bin (pl rfl) (pl rfl) (bo_i64_lss _ _)) ?_
    refine vcS_nil ?_
    refine IW.cond rfl (fun hc2 => ?_) (fun hc2 => ?_)
    · replace hc2 := of_decide_eq_true hc2
      refine IW.reg hE ?_
      refine vcS_val rfl rfl (ox_move (pl rfl)) ?_
      refine vcS_val rfl rfl (ox_move (pl rfl)) ?_
      refine vcS_val rfl rfl (ox_bin (pl rfl) (pl rfl) (bo_i64_add (by omega))) ?_
      refine vcS_val rfl rfl (ox_assign (pl rfl)) ?_
      refine vcS_nil ?_
      refine IW.seq ?_
      refine IW.reg hE ?_
      refine vcS_val rfl rfl (ox_move (pl rfl)) ?_
      refine vcS_val rfl rfl (ox_assign (pl rfl)) ?_
      refine vcS_nil ?_
      refine IW.ret ?_
      exact RetP.ret (.inr rfl) rfl rfl trivial (by unfold pickV; rw [if_neg hc1, if_pos hc2])
    · replace hc2 := of_decide_eq_false hc2
      refine IW.skip ?_
      refine IW.seq ?_
      refine IW.reg hE ?_
      refine vcS_val rfl rfl (ox_move (pl rfl)) ?_
      refine vcS_val rfl rfl (ox_assign (pl rfl)) ?_
      refine vcS_nil ?_
      refine IW.ret ?_
      exact RetP.ret (.inr rfl) rfl rfl trivial (by unfold pickV; rw [if_neg hc1, if_neg hc2])
end Go.Proofs.Ytdnnojblneccdaa
/-
  headwaterlaw02.ShaParts.
-/
namespace Go.Proofs.Ytdnnojblneccdaa
set_option linter.unusedSimpArgs false
set_option linter.unusedVariables false
open Go
open Enc (enc)
set_option maxRecDepth 100000
theorem pick_nat (i : Int) (m : Nat) : ∃ I : Nat, pickV i ((m : Int) + 1) = I ∧ I ≤ m := by
  have := pickV_rng (n := i) (m := (m : Int) + 1) (by omega)
  exact ⟨(pickV i ((m : Int) + 1)).toNat, by omega, by omega⟩
theorem ev38_2 {x : Value} {H : IHeap} {n : Nat} {s1 s2 : Sl} {l1 l2 l : List UInt8} (hS : rdC H x = some [s1, s2]) (h1 : rdC H (enc s1) = some l1) (h2 : rdC H (enc s2) = some l2) (hf : [l1, l2].flatten = l) (hl : l.length ≤ 2 ^ 40) : F38 [x] H n = some ⟨enc (digV l), [], n⟩ :=
  sumF_ev (ls := [l1, l2]) hS (by simp only [rdL, h1, h2]) (by simp) hf hl
theorem ne_same {α : Type} [BEq α] [LawfulBEq α] (a : α) : some (Value.bool (!(a == a))) = some (.bool false) := by simp
end Go.Proofs.Ytdnnojblneccdaa
/-
  Plain laws: numbers of many words of 32 bits.
-/
namespace Go.Proofs.Ytdnnojblneccdaa
set_option linter.unusedSimpArgs false
set_option linter.unusedVariables false
set_option maxRecDepth 100000
/-! three words -/
def xL (y : Nat) : List UInt32 := [UInt32.ofNat y, UInt32.ofNat (y / 2 ^ 32), UInt32.ofNat (y / 2 ^ 64)]
@[simp] theorem xL_length (y : Nat) : (xL y).length = 3 := rfl
end Go.Proofs.Ytdnnojblneccdaa
/-
  The document's padding, run, join, sums.
-/
namespace Go.Proofs.Ytdnnojblneccdaa
set_option linter.unusedSimpArgs false
set_option linter.unusedVariables false
open Go
open Enc (enc)
set_option maxRecDepth 100000
theorem rdC_nilE {H : IHeap} {x : Value} {b : List UInt8} (h0 : b = []) (h : rdC H x = some b) : rdC H x = some ([] : List UInt8) := h0 ▸ h
end Go.Proofs.Ytdnnojblneccdaa
/-
  headwaterlaw02.ShaCalls.
-/
namespace Go.Proofs.Ytdnnojblneccdaa
set_option linter.unusedSimpArgs false
set_option linter.unusedVariables false
open Go
open Enc (enc)
set_option maxRecDepth 100000
theorem eq_same {α : Type} [BEq α] [LawfulBEq α] (a : α) : some (Value.bool (a == a)) = some (.bool true) := by simp
def fsp (k : Nat) : Option Nat := if k = 0 then none else some 1
set_option maxHeartbeats 1000000
-- headwater/headwaterlaw02.ShaCalls ['Sl', 'Sl', 'Vector UInt64 8', 'Vector UInt8 128'] -> ['Bool'], results [8]
end Go.Proofs.Ytdnnojblneccdaa
/-
  The structs of this program.
-/
namespace Go.Proofs.Ytdnnojblneccdaa
open Go
open Enc (enc)
set_option linter.unusedSimpArgs false
@[ext] structure Reader where
  b : Sl
  at_ : Int
  e : Int
  made : Bool
def Reader.cells (v : Reader) : List Value := [enc v.b] ++ ([enc v.at_] ++ ([enc v.e] ++ ([enc v.made])))
theorem Reader.cells_length (v : Reader) : v.cells.length = 4 := by simp only [Reader.cells, List.length_append, encs_vec_length, List.length_singleton, List.length_nil, List.length_cons]
theorem Reader.cells_inj {a b : Reader} (h : a.cells = b.cells) : a = b := by
  simp only [Reader.cells] at h
  obtain ⟨h0, h⟩ := app_inj h (by simp only [List.length_append, encs_vec_length, List.length_singleton, List.length_nil, List.length_cons])
  obtain ⟨h1, h⟩ := app_inj h (by simp only [List.length_append, encs_vec_length, List.length_singleton, List.length_nil, List.length_cons])
  obtain ⟨h2, h⟩ := app_inj h (by simp only [List.length_append, encs_vec_length, List.length_singleton, List.length_nil, List.length_cons])
  have h3 := h
  ext1
  · exact Enc.inj _ _ (by simpa using h0)
  · exact Enc.inj _ _ (by simpa using h1)
  · exact Enc.inj _ _ (by simpa using h2)
  · exact Enc.inj _ _ (by simpa using h3)
instance : Enc Reader := ⟨fun v => .agg v.cells.toArray, fun _ _ h => Reader.cells_inj (agg_inj h)⟩
theorem cellsOf_Reader (v : Reader) : cellsOf (enc v) = some v.cells := rfl
def Reader.zero : Reader := ⟨⟨none, 0, 0⟩, 0, 0, false⟩
theorem zero_143 {d : TD} (h : D 143 = some d) : d.zero = Reader.zero.cells := by
  rw [D_143] at h; cases h; kernel_rfl
theorem Reader.le (v : Reader) {k : Nat} (h : Nat.ble k 4 = true) : k ≤ v.cells.length := by rw [v.cells_length]; exact Nat.le_of_ble_eq_true h
theorem Reader.cells_known (v : Reader) : v.cells.all known = true := by simp only [Reader.cells, List.all_append, encs_known, List.all_cons, List.all_nil, Enc1.agg1, Bool.and_self]
theorem rd_143_0 (v : Reader) {d : TD} (hd : d.k.isAgg = false) : rdVar d v.cells 0 = some (enc v.b) :=
  rd_one (A := []) (C := [enc v.at_] ++ ([enc v.e] ++ ([enc v.made]))) hd (by simp only [Reader.cells, List.append_assoc, List.nil_append, List.append_nil]) (by simp only [List.length_append, encs_vec_length, List.length_singleton, List.length_nil, List.length_cons])
theorem wr_143_0 (v : Reader) (x : Sl) : wrCells v.cells 0 ([enc x]) = ({ v with b := x } : Reader).cells := by
  rw [wr_part (A := []) (B := [enc v.b]) (C := [enc v.at_] ++ ([enc v.e] ++ ([enc v.made]))) (c := v.cells) (by simp only [Reader.cells, List.append_assoc, List.nil_append, List.append_nil]) (by simp only [List.length_append, encs_vec_length, List.length_singleton, List.length_nil, List.length_cons]) (by simp only [List.length_append, encs_vec_length, List.length_singleton, List.length_nil, List.length_cons])]
  simp only [Reader.cells, List.append_assoc, List.nil_append, List.append_nil]
theorem rd_143_1 (v : Reader) {d : TD} (hd : d.k.isAgg = false) : rdVar d v.cells 1 = some (enc v.at_) :=
  rd_one (A := [enc v.b]) (C := [enc v.e] ++ ([enc v.made])) hd (by simp only [Reader.cells, List.append_assoc, List.nil_append, List.append_nil]) (by simp only [List.length_append, encs_vec_length, List.length_singleton, List.length_nil, List.length_cons])
theorem wr_143_1 (v : Reader) (x : Int) : wrCells v.cells 1 ([enc x]) = ({ v with at_ := x } : Reader).cells := by
  rw [wr_part (A := [enc v.b]) (B := [enc v.at_]) (C := [enc v.e] ++ ([enc v.made])) (c := v.cells) (by simp only [Reader.cells, List.append_assoc, List.nil_append, List.append_nil]) (by simp only [List.length_append, encs_vec_length, List.length_singleton, List.length_nil, List.length_cons]) (by simp only [List.length_append, encs_vec_length, List.length_singleton, List.length_nil, List.length_cons])]
  simp only [Reader.cells, List.append_assoc, List.nil_append, List.append_nil]
theorem rd_143_2 (v : Reader) {d : TD} (hd : d.k.isAgg = false) : rdVar d v.cells 2 = some (enc v.e) :=
  rd_one (A := [enc v.b] ++ ([enc v.at_])) (C := [enc v.made]) hd (by simp only [Reader.cells, List.append_assoc, List.nil_append, List.append_nil]) (by simp only [List.length_append, encs_vec_length, List.length_singleton, List.length_nil, List.length_cons])
theorem wr_143_2 (v : Reader) (x : Int) : wrCells v.cells 2 ([enc x]) = ({ v with e := x } : Reader).cells := by
  rw [wr_part (A := [enc v.b] ++ ([enc v.at_])) (B := [enc v.e]) (C := [enc v.made]) (c := v.cells) (by simp only [Reader.cells, List.append_assoc, List.nil_append, List.append_nil]) (by simp only [List.length_append, encs_vec_length, List.length_singleton, List.length_nil, List.length_cons]) (by simp only [List.length_append, encs_vec_length, List.length_singleton, List.length_nil, List.length_cons])]
  simp only [Reader.cells, List.append_assoc, List.nil_append, List.append_nil]
theorem rd_143_3 (v : Reader) {d : TD} (hd : d.k.isAgg = false) : rdVar d v.cells 3 = some (enc v.made) :=
  rd_one (A := [enc v.b] ++ ([enc v.at_] ++ ([enc v.e]))) (C := []) hd (by simp only [Reader.cells, List.append_assoc, List.nil_append, List.append_nil]) (by simp only [List.length_append, encs_vec_length, List.length_singleton, List.length_nil, List.length_cons])
theorem wr_143_3 (v : Reader) (x : Bool) : wrCells v.cells 3 ([enc x]) = ({ v with made := x } : Reader).cells := by
  rw [wr_part (A := [enc v.b] ++ ([enc v.at_] ++ ([enc v.e]))) (B := [enc v.made]) (C := []) (c := v.cells) (by simp only [Reader.cells, List.append_assoc, List.nil_append, List.append_nil]) (by simp only [List.length_append, encs_vec_length, List.length_singleton, List.length_nil, List.length_cons]) (by simp only [List.length_append, encs_vec_length, List.length_singleton, List.length_nil, List.length_cons])]
  simp only [Reader.cells, List.append_assoc, List.nil_append, List.append_nil]
end Go.Proofs.Ytdnnojblneccdaa
/-
  Lengths of numbers.
-/
namespace Go.Proofs.Ytdnnojblneccdaa
set_option linter.unusedSimpArgs false
set_option linter.unusedVariables false
open Go
open Enc (enc)
set_option maxRecDepth 100000
def lenT : List UInt8 := [0, 1, 2, 2, 3, 3, 3, 3, 4, 4, 4, 4, 4, 4, 4, 4, 5, 5, 5, 5, 5, 5, 5, 5, 5, 5, 5, 5, 5, 5, 5, 5, 6, 6, 6, 6, 6, 6, 6, 6, 6, 6, 6, 6, 6, 6, 6, 6, 6, 6, 6, 6, 6, 6, 6, 6, 6, 6, 6, 6, 6, 6, 6, 6, 7, 7, 7, 7, 7, 7, 7, 7, 7, 7, 7, 7, 7, 7, 7, 7, 7, 7, 7, 7, 7, 7, 7, 7, 7, 7, 7, 7, 7, 7, 7, 7, 7, 7, 7, 7, 7, 7, 7, 7, 7, 7, 7, 7, 7, 7, 7, 7, 7, 7, 7, 7, 7, 7, 7, 7, 7, 7, 7, 7, 7, 7, 7, 7, 8, 8, 8, 8, 8, 8, 8, 8, 8, 8, 8, 8, 8, 8, 8, 8, 8, 8, 8, 8, 8, 8, 8, 8, 8, 8, 8, 8, 8, 8, 8, 8, 8, 8, 8, 8, 8, 8, 8, 8, 8, 8, 8, 8, 8, 8, 8, 8, 8, 8, 8, 8, 8, 8, 8, 8, 8, 8, 8, 8, 8, 8, 8, 8, 8, 8, 8, 8, 8, 8, 8, 8, 8, 8, 8, 8, 8, 8, 8, 8, 8, 8, 8, 8, 8, 8, 8, 8, 8, 8, 8, 8, 8, 8, 8, 8, 8, 8, 8, 8, 8, 8, 8, 8, 8, 8, 8, 8, 8, 8, 8, 8, 8, 8, 8, 8, 8, 8, 8, 8, 8, 8, 8, 8, 8, 8, 8, 8]
theorem lenT_length : lenT.length = 256 := by decide
def len8 (x : UInt8) : UInt8 := lenT.getD x.toNat 0
noncomputable def F116 : FnI := fn1 fun (x : UInt8) => .int .i64 ((len8 x).toNat : Int)
-- math/bits.Len8 ['UInt8'] -> ['Int'], results [2]
theorem R116 : Ref Try.prog 116 F116 := by
  refine Ref.of_iw dok Try.func116 rfl (by kernel_rfl) fun args H n e hF => ?_
  obtain ⟨a, rfl, rfl⟩ := fn1_inv hF
  refine ⟨Nat.le_of_ble_eq_true rfl, ?_⟩
  simp only [idxL]
  have hE : Env Try.prog [] D K := env fnsOk_nil
  refine IW.seq ?_
  refine IW.reg hE ?_
  refine vcS_val rfl rfl (ox_assign (pl rfl)) ?_
  refine vcS_nil ?_
  refine IW.seq ?_
  refine IW.reg hE ?_
  refine vcS_val rfl rfl (ox_move (pl rfl)) ?_
  refine vcS_val rfl rfl (ox_ixStr a.toNat (pl (v := .string (bs lenT)) rfl) (pl rfl) D_9 rfl rfl (by rw [lenT_length]; exact a.toNat_lt)) ?_
  refine vcS_val rfl rfl (cv_8_i (pl rfl) D_5 D_3 rfl) ?_
  refine vcS_val rfl rfl (ox_assign (pl rfl)) ?_
  refine vcS_nil ?_
  refine IW.ret ?_
  exact RetP.ret (.inr rfl) rfl rfl trivial (rfl)
theorem len8_le (y : UInt8) : (len8 y).toNat ≤ 255 := by have := (len8 y).toNat_lt; omega
noncomputable def F111 : FnI := fn1 fun (x : UInt8) => .int .i64 (8 - ((len8 x).toNat : Int))
-- math/bits.LeadingZeros8 ['UInt8'] -> ['Int'], results [2]
theorem R111 : Ref Try.prog 111 F111 := by
  refine Ref.of_iw dok Try.func111 rfl (by kernel_rfl) fun args H n e hF => ?_
  obtain ⟨a, rfl, rfl⟩ := fn1_inv hF
  have h8 := len8_le a
  refine ⟨Nat.le_of_ble_eq_true rfl, ?_⟩
  simp only [idxL]
  have hE : Env Try.prog [(116, F116)] D K := env (fnsOk_cons R116 fnsOk_nil)
  refine IW.seq ?_
  refine IW.reg hE ?_
  refine vcS_val rfl rfl (ox_assign (pl rfl)) ?_
  refine vcS_nil ?_
  refine IW.seq ?_
  refine IW.reg hE ?_
  refine vcS_val rfl rfl (ox_move (pl rfl)) ?_
  refine vcS_val rfl rfl (ox_fn rfl rfl (fn1_ev _ _ _ _)) ?_
  refine vcS_val rfl rfl (ox_bin (pl rfl) (pl rfl) (bo_i64_sub (by omega))) ?_
  refine vcS_val rfl rfl (ox_assign (pl rfl)) ?_
  refine vcS_nil ?_
  refine IW.ret ?_
  exact RetP.ret (.inr rfl) rfl rfl trivial (rfl)
def l2 (x : UInt64) (k : Nat) : Nat := if 256 ≤ x then k + 8 + (len8 (shr64 x 8).toUInt8).toNat else k + (len8 x.toUInt8).toNat
def l1 (x : UInt64) (k : Nat) : Nat := if 65536 ≤ x then l2 (shr64 x 16) (k + 16) else l2 x k
def len64 (x : UInt64) : Nat := if 4294967296 ≤ x then l1 (shr64 x 32) 32 else l1 x 0
noncomputable def F117 : FnI := fn1 fun (x : UInt64) => .int .i64 (len64 x : Int)
-- math/bits.Len64 ['UInt64'] -> ['Int'], results [2]
theorem R117 : Ref Try.prog 117 F117 := by
  refine Ref.of_iw dok Try.func117 rfl (by kernel_rfl) fun args H n e hF => ?_
  obtain ⟨a, rfl, rfl⟩ := fn1_inv hF
  refine ⟨Nat.le_of_ble_eq_true rfl, ?_⟩
  simp only [idxL]
  have hE : Env Try.prog [] D K := env fnsOk_nil
  refine IW.seq ?_
  refine IW.reg hE ?_
  refine vcS_val rfl rfl (ox_assign (pl rfl)) ?_
  refine vcS_nil ?_
  refine IW.seq ?_
  refine IW.seq ?_
  refine IW.reg hE ?_
  refine vcS_val rfl rfl (ox_move (pl rfl)) ?_
  refine vcS_val rfl rfl (ox_bin (pl rfl) (pl (v := enc (4294967296 : UInt64)) rfl) (bo_u64_geq _ _)) ?_
  refine vcS_nil ?_
  refine IW.cond rfl (fun hc1 => ?_) (fun hc1 => ?_)
  · replace hc1 := of_decide_eq_true hc1
    refine IW.seq ?_
    refine IW.reg hE ?_
    refine vcS_val rfl rfl (ox_move (pl rfl)) ?_
    refine vcS_val rfl rfl (ox_bin (pl rfl) (pl (v := enc (32 : UInt64)) rfl) (bo_u64_shr _ (by omega))) ?_
    refine vcS_val rfl rfl (ox_assign (pl rfl)) ?_
    refine vcS_nil ?_
    refine IW.reg hE ?_
    refine vcS_val rfl rfl (ox_assign (pl rfl)) ?_
    refine vcS_nil ?_
    refine IW.seq ?_
    refine IW.seq ?_
    refine IW.reg hE ?_
    refine vcS_val rfl rfl (ox_move (pl rfl)) ?_
    refine vcS_val rfl rfl (ox_bin (pl rfl) (pl (v := enc (65536 : UInt64)) rfl) (bo_u64_geq _ _)) ?_
    refine vcS_nil ?_
    refine IW.cond rfl (fun hc2 => ?_) (fun hc2 => ?_)
    · replace hc2 := of_decide_eq_true hc2
      refine IW.seq ?_
      refine IW.reg hE ?_
      refine vcS_val rfl rfl (ox_move (pl rfl)) ?_
      refine vcS_val rfl rfl (ox_bin (pl rfl) (pl (v := enc (16 : UInt64)) rfl) (bo_u64_shr _ (by omega))) ?_
      refine vcS_val rfl rfl (ox_assign (pl rfl)) ?_
      refine vcS_nil ?_
      refine IW.reg hE ?_
      refine vcS_val rfl rfl (ox_move (pl rfl)) ?_
      refine vcS_val rfl rfl (ox_bin (pl rfl) (pl rfl) (bo_i64_add (by omega))) ?_
      refine vcS_val rfl rfl (ox_assign (pl rfl)) ?_
      refine vcS_nil ?_
      refine IW.seq ?_
      refine IW.seq ?_
      refine IW.reg hE ?_
      refine vcS_val rfl rfl (ox_move (pl rfl)) ?_
      refine vcS_val rfl rfl (ox_bin (pl rfl) (pl (v := enc (256 : UInt64)) rfl) (bo_u64_geq _ _)) ?_
      refine vcS_nil ?_
      refine IW.cond rfl (fun hc3 => ?_) (fun hc3 => ?_)
      · replace hc3 := of_decide_eq_true hc3
        refine IW.seq ?_
        refine IW.reg hE ?_
        refine vcS_val rfl rfl (ox_move (pl rfl)) ?_
        refine vcS_val rfl rfl (ox_bin (pl rfl) (pl (v := enc (8 : UInt64)) rfl) (bo_u64_shr _ (by omega))) ?_
        refine vcS_val rfl rfl (ox_assign (pl rfl)) ?_
        refine vcS_nil ?_
        refine IW.reg hE ?_
        refine vcS_val rfl rfl (ox_move (pl rfl)) ?_
        refine vcS_val rfl rfl (ox_bin (pl rfl) (pl rfl) (bo_i64_add (by omega))) ?_
        refine vcS_val rfl rfl (ox_assign (pl rfl)) ?_
        refine vcS_nil ?_
        refine IW.seq ?_
        refine IW.reg hE ?_
        refine vcS_val rfl rfl (ox_move (pl rfl)) ?_
        refine vcS_val rfl rfl (ox_move (pl rfl)) ?_
        refine vcS_val rfl rfl (cv_6_8 (pl rfl) D_22 D_5 rfl) ?_
        refine vcS_val rfl rfl (ox_ixStr (shr64 (shr64 (shr64 a 32) 16) 8).toUInt8.toNat (pl (v := .string (bs lenT)) rfl) (pl rfl) D_9 rfl rfl (by rw [lenT_length]; exact (shr64 (shr64 (shr64 a 32) 16) 8).toUInt8.toNat_lt)) ?_
        refine vcS_val rfl rfl (cv_8_i (pl rfl) D_5 D_3 rfl) ?_
        refine vcS_val rfl rfl (ox_bin (pl rfl) (pl rfl) (bo_i64_add (by have := (lenT.getD (shr64 (shr64 (shr64 a 32) 16) 8).toUInt8.toNat 0).toNat_lt; omega))) ?_
        refine vcS_val rfl rfl (ox_assign (pl rfl)) ?_
        refine vcS_nil ?_
        refine IW.ret ?_
        exact RetP.ret (.inr rfl) rfl rfl trivial (congrArg (Value.int .i64) (by simp only [len64, l1, l2, len8]; rw [if_pos (show 4294967296 ≤ a from hc1), if_pos (show 65536 ≤ shr64 a 32 from hc2), if_pos (show 256 ≤ shr64 (shr64 a 32) 16 from hc3)]; omega))
      · replace hc3 := of_decide_eq_false hc3
        refine IW.skip ?_
        refine IW.seq ?_
        refine IW.reg hE ?_
        refine vcS_val rfl rfl (ox_move (pl rfl)) ?_
        refine vcS_val rfl rfl (ox_move (pl rfl)) ?_
        refine vcS_val rfl rfl (cv_6_8 (pl rfl) D_22 D_5 rfl) ?_
        refine vcS_val rfl rfl (ox_ixStr (shr64 (shr64 a 32) 16).toUInt8.toNat (pl (v := .string (bs lenT)) rfl) (pl rfl) D_9 rfl rfl (by rw [lenT_length]; exact (shr64 (shr64 a 32) 16).toUInt8.toNat_lt)) ?_
        refine vcS_val rfl rfl (cv_8_i (pl rfl) D_5 D_3 rfl) ?_
        refine vcS_val rfl rfl (ox_bin (pl rfl) (pl rfl) (bo_i64_add (by have := (lenT.getD (shr64 (shr64 a 32) 16).toUInt8.toNat 0).toNat_lt; omega))) ?_
        refine vcS_val rfl rfl (ox_assign (pl rfl)) ?_
        refine vcS_nil ?_
        refine IW.ret ?_
        exact RetP.ret (.inr rfl) rfl rfl trivial (congrArg (Value.int .i64) (by simp only [len64, l1, l2, len8]; rw [if_pos (show 4294967296 ≤ a from hc1), if_pos (show 65536 ≤ shr64 a 32 from hc2), if_neg (show ¬ 256 ≤ shr64 (shr64 a 32) 16 from hc3)]; omega))
    · replace hc2 := of_decide_eq_false hc2
      refine IW.skip ?_
      refine IW.seq ?_
      refine IW.seq ?_
      refine IW.reg hE ?_
      refine vcS_val rfl rfl (ox_move (pl rfl)) ?_
      refine vcS_val rfl rfl (ox_bin (pl rfl) (pl (v := enc (256 : UInt64)) rfl) (bo_u64_geq _ _)) ?_
      refine vcS_nil ?_
      refine IW.cond rfl (fun hc4 => ?_) (fun hc4 => ?_)
      · replace hc4 := of_decide_eq_true hc4
        refine IW.seq ?_
        refine IW.reg hE ?_
        refine vcS_val rfl rfl (ox_move (pl rfl)) ?_
        refine vcS_val rfl rfl (ox_bin (pl rfl) (pl (v := enc (8 : UInt64)) rfl) (bo_u64_shr _ (by omega))) ?_
        refine vcS_val rfl rfl (ox_assign (pl rfl)) ?_
        refine vcS_nil ?_
        refine IW.reg hE ?_
        refine vcS_val rfl rfl (ox_move (pl rfl)) ?_
        refine vcS_val rfl rfl (ox_bin (pl rfl) (pl rfl) (bo_i64_add (by omega))) ?_
        refine vcS_val rfl rfl (ox_assign (pl rfl)) ?_
        refine vcS_nil ?_
        refine IW.seq ?_
        refine IW.reg hE ?_
        refine vcS_val rfl rfl (ox_move (pl rfl)) ?_
        refine vcS_val rfl rfl (ox_move (pl rfl)) ?_
        refine vcS_val rfl rfl (cv_6_8 (pl rfl) D_22 D_5 rfl) ?_
        refine vcS_val rfl rfl (ox_ixStr (shr64 (shr64 a 32) 8).toUInt8.toNat (pl (v := .string (bs lenT)) rfl) (pl rfl) D_9 rfl rfl (by rw [lenT_length]; exact (shr64 (shr64 a 32) 8).toUInt8.toNat_lt)) ?_
        refine vcS_val rfl rfl (cv_8_i (pl rfl) D_5 D_3 rfl) ?_
        refine vcS_val rfl rfl (ox_bin (pl rfl) (pl rfl) (bo_i64_add (by have := (lenT.getD (shr64 (shr64 a 32) 8).toUInt8.toNat 0).toNat_lt; omega))) ?_
        refine vcS_val rfl rfl (ox_assign (pl rfl)) ?_
        refine vcS_nil ?_
        refine IW.ret ?_
        exact RetP.ret (.inr rfl) rfl rfl trivial (congrArg (Value.int .i64) (by simp only [len64, l1, l2, len8]; rw [if_pos (show 4294967296 ≤ a from hc1), if_neg (show ¬ 65536 ≤ shr64 a 32 from hc2), if_pos (show 256 ≤ shr64 a 32 from hc4)]; omega))
      · replace hc4 := of_decide_eq_false hc4
        refine IW.skip ?_
        refine IW.seq ?_
        refine IW.reg hE ?_
        refine vcS_val rfl rfl (ox_move (pl rfl)) ?_
        refine vcS_val rfl rfl (ox_move (pl rfl)) ?_
        refine vcS_val rfl rfl (cv_6_8 (pl rfl) D_22 D_5 rfl) ?_
        refine vcS_val rfl rfl (ox_ixStr (shr64 a 32).toUInt8.toNat (pl (v := .string (bs lenT)) rfl) (pl rfl) D_9 rfl rfl (by rw [lenT_length]; exact (shr64 a 32).toUInt8.toNat_lt)) ?_
        refine vcS_val rfl rfl (cv_8_i (pl rfl) D_5 D_3 rfl) ?_
        refine vcS_val rfl rfl (ox_bin (pl rfl) (pl rfl) (bo_i64_add (by have := (lenT.getD (shr64 a 32).toUInt8.toNat 0).toNat_lt; omega))) ?_
        refine vcS_val rfl rfl (ox_assign (pl rfl)) ?_
        refine vcS_nil ?_
        refine IW.ret ?_
        exact RetP.ret (.inr rfl) rfl rfl trivial (congrArg (Value.int .i64) (by simp only [len64, l1, l2, len8]; rw [if_pos (show 4294967296 ≤ a from hc1), if_neg (show ¬ 65536 ≤ shr64 a 32 from hc2), if_neg (show ¬ 256 ≤ shr64 a 32 from hc4)]; omega))
  · replace hc1 := of_decide_eq_false hc1
    refine IW.skip ?_
    refine IW.seq ?_
    refine IW.seq ?_
    refine IW.reg hE ?_
    refine vcS_val rfl rfl (ox_move (pl rfl)) ?_
    refine vcS_val rfl rfl (ox_bin (pl rfl) (pl (v := enc (65536 : UInt64)) rfl) (bo_u64_geq _ _)) ?_
    refine vcS_nil ?_
    refine IW.cond rfl (fun hc5 => ?_) (fun hc5 => ?_)
    · replace hc5 := of_decide_eq_true hc5
      refine IW.seq ?_
      refine IW.reg hE ?_
      refine vcS_val rfl rfl (ox_move (pl rfl)) ?_
      refine vcS_val rfl rfl (ox_bin (pl rfl) (pl (v := enc (16 : UInt64)) rfl) (bo_u64_shr _ (by omega))) ?_
      refine vcS_val rfl rfl (ox_assign (pl rfl)) ?_
      refine vcS_nil ?_
      refine IW.reg hE ?_
      refine vcS_val rfl rfl (ox_move (pl rfl)) ?_
      refine vcS_val rfl rfl (ox_bin (pl rfl) (pl rfl) (bo_i64_add (by omega))) ?_
      refine vcS_val rfl rfl (ox_assign (pl rfl)) ?_
      refine vcS_nil ?_
      refine IW.seq ?_
      refine IW.seq ?_
      refine IW.reg hE ?_
      refine vcS_val rfl rfl (ox_move (pl rfl)) ?_
      refine vcS_val rfl rfl (ox_bin (pl rfl) (pl (v := enc (256 : UInt64)) rfl) (bo_u64_geq _ _)) ?_
      refine vcS_nil ?_
      refine IW.cond rfl (fun hc6 => ?_) (fun hc6 => ?_)
      · replace hc6 := of_decide_eq_true hc6
        refine IW.seq ?_
        refine IW.reg hE ?_
        refine vcS_val rfl rfl (ox_move (pl rfl)) ?_
        refine vcS_val rfl rfl (ox_bin (pl rfl) (pl (v := enc (8 : UInt64)) rfl) (bo_u64_shr _ (by omega))) ?_
        refine vcS_val rfl rfl (ox_assign (pl rfl)) ?_
        refine vcS_nil ?_
        refine IW.reg hE ?_
        refine vcS_val rfl rfl (ox_move (pl rfl)) ?_
        refine vcS_val rfl rfl (ox_bin (pl rfl) (pl rfl) (bo_i64_add (by omega))) ?_
        refine vcS_val rfl rfl (ox_assign (pl rfl)) ?_
        refine vcS_nil ?_
        refine IW.seq ?_
        refine IW.reg hE ?_
        refine vcS_val rfl rfl (ox_move (pl rfl)) ?_
        refine vcS_val rfl rfl (ox_move (pl rfl)) ?_
        refine vcS_val rfl rfl (cv_6_8 (pl rfl) D_22 D_5 rfl) ?_
        refine vcS_val rfl rfl (ox_ixStr (shr64 (shr64 a 16) 8).toUInt8.toNat (pl (v := .string (bs lenT)) rfl) (pl rfl) D_9 rfl rfl (by rw [lenT_length]; exact (shr64 (shr64 a 16) 8).toUInt8.toNat_lt)) ?_
        refine vcS_val rfl rfl (cv_8_i (pl rfl) D_5 D_3 rfl) ?_
        refine vcS_val rfl rfl (ox_bin (pl rfl) (pl rfl) (bo_i64_add (by have := (lenT.getD (shr64 (shr64 a 16) 8).toUInt8.toNat 0).toNat_lt; omega))) ?_
        refine vcS_val rfl rfl (ox_assign (pl rfl)) ?_
        refine vcS_nil ?_
        refine IW.ret ?_
        exact RetP.ret (.inr rfl) rfl rfl trivial (congrArg (Value.int .i64) (by simp only [len64, l1, l2, len8]; rw [if_neg (show ¬ 4294967296 ≤ a from hc1), if_pos (show 65536 ≤ a from hc5), if_pos (show 256 ≤ shr64 (a) 16 from hc6)]; omega))
      · replace hc6 := of_decide_eq_false hc6
        refine IW.skip ?_
        refine IW.seq ?_
        refine IW.reg hE ?_
        refine vcS_val rfl rfl (ox_move (pl rfl)) ?_
        refine vcS_val rfl rfl (ox_move (pl rfl)) ?_
        refine vcS_val rfl rfl (cv_6_8 (pl rfl) D_22 D_5 rfl) ?_
        refine vcS_val rfl rfl (ox_ixStr (shr64 a 16).toUInt8.toNat (pl (v := .string (bs lenT)) rfl) (pl rfl) D_9 rfl rfl (by rw [lenT_length]; exact (shr64 a 16).toUInt8.toNat_lt)) ?_
        refine vcS_val rfl rfl (cv_8_i (pl rfl) D_5 D_3 rfl) ?_
        refine vcS_val rfl rfl (ox_bin (pl rfl) (pl rfl) (bo_i64_add (by have := (lenT.getD (shr64 a 16).toUInt8.toNat 0).toNat_lt; omega))) ?_
        refine vcS_val rfl rfl (ox_assign (pl rfl)) ?_
        refine vcS_nil ?_
        refine IW.ret ?_
        exact RetP.ret (.inr rfl) rfl rfl trivial (congrArg (Value.int .i64) (by simp only [len64, l1, l2, len8]; rw [if_neg (show ¬ 4294967296 ≤ a from hc1), if_pos (show 65536 ≤ a from hc5), if_neg (show ¬ 256 ≤ shr64 (a) 16 from hc6)]; omega))
    · replace hc5 := of_decide_eq_false hc5
      refine IW.skip ?_
      refine IW.seq ?_
      refine IW.seq ?_
      refine IW.reg hE ?_
      refine vcS_val rfl rfl (ox_move (pl rfl)) ?_
      refine vcS_val rfl rfl (ox_bin (pl rfl) (pl (v := enc (256 : UInt64)) rfl) (bo_u64_geq _ _)) ?_
      refine vcS_nil ?_
      refine IW.cond rfl (fun hc7 => ?_) (fun hc7 => ?_)
      · replace hc7 := of_decide_eq_true hc7
        refine IW.seq ?_
        refine IW.reg hE ?_
        refine vcS_val rfl rfl (ox_move (pl rfl)) ?_
        refine vcS_val rfl rfl (ox_bin (pl rfl) (pl (v := enc (8 : UInt64)) rfl) (bo_u64_shr _ (by omega))) ?_
        refine vcS_val rfl rfl (ox_assign (pl rfl)) ?_
        refine vcS_nil ?_
        refine IW.reg hE ?_
        refine vcS_val rfl rfl (ox_move (pl rfl)) ?_
        refine vcS_val rfl rfl (ox_bin (pl rfl) (pl rfl) (bo_i64_add (by omega))) ?_
        refine vcS_val rfl rfl (ox_assign (pl rfl)) ?_
        refine vcS_nil ?_
        refine IW.seq ?_
        refine IW.reg hE ?_
        refine vcS_val rfl rfl (ox_move (pl rfl)) ?_
        refine vcS_val rfl rfl (ox_move (pl rfl)) ?_
        refine vcS_val rfl rfl (cv_6_8 (pl rfl) D_22 D_5 rfl) ?_
        refine vcS_val rfl rfl (ox_ixStr (shr64 a 8).toUInt8.toNat (pl (v := .string (bs lenT)) rfl) (pl rfl) D_9 rfl rfl (by rw [lenT_length]; exact (shr64 a 8).toUInt8.toNat_lt)) ?_
        refine vcS_val rfl rfl (cv_8_i (pl rfl) D_5 D_3 rfl) ?_
        refine vcS_val rfl rfl (ox_bin (pl rfl) (pl rfl) (bo_i64_add (by have := (lenT.getD (shr64 a 8).toUInt8.toNat 0).toNat_lt; omega))) ?_
        refine vcS_val rfl rfl (ox_assign (pl rfl)) ?_
        refine vcS_nil ?_
        refine IW.ret ?_
        exact RetP.ret (.inr rfl) rfl rfl trivial (congrArg (Value.int .i64) (by simp only [len64, l1, l2, len8]; rw [if_neg (show ¬ 4294967296 ≤ a from hc1), if_neg (show ¬ 65536 ≤ a from hc5), if_pos (show 256 ≤ a from hc7)]; omega))
      · replace hc7 := of_decide_eq_false hc7
        refine IW.skip ?_
        refine IW.seq ?_
        refine IW.reg hE ?_
        refine vcS_val rfl rfl (ox_move (pl rfl)) ?_
        refine vcS_val rfl rfl (ox_move (pl rfl)) ?_
        refine vcS_val rfl rfl (cv_6_8 (pl rfl) D_22 D_5 rfl) ?_
        refine vcS_val rfl rfl (ox_ixStr (a).toUInt8.toNat (pl (v := .string (bs lenT)) rfl) (pl rfl) D_9 rfl rfl (by rw [lenT_length]; exact (a).toUInt8.toNat_lt)) ?_
        refine vcS_val rfl rfl (cv_8_i (pl rfl) D_5 D_3 rfl) ?_
        refine vcS_val rfl rfl (ox_bin (pl rfl) (pl rfl) (bo_i64_add (by have := (lenT.getD (a).toUInt8.toNat 0).toNat_lt; omega))) ?_
        refine vcS_val rfl rfl (ox_assign (pl rfl)) ?_
        refine vcS_nil ?_
        refine IW.ret ?_
        exact RetP.ret (.inr rfl) rfl rfl trivial (congrArg (Value.int .i64) (by simp only [len64, l1, l2, len8]; rw [if_neg (show ¬ 4294967296 ≤ a from hc1), if_neg (show ¬ 65536 ≤ a from hc5), if_neg (show ¬ 256 ≤ a from hc7)]; omega))
theorem l2_le (x : UInt64) (k : Nat) : l2 x k ≤ k + 263 := by
  unfold l2
  have h1 := len8_le (shr64 x 8).toUInt8
  have h2 := len8_le x.toUInt8
  split <;> omega
theorem l1_le (x : UInt64) (k : Nat) : l1 x k ≤ k + 279 := by
  unfold l1
  have h1 := l2_le (shr64 x 16) (k + 16)
  have h2 := l2_le x k
  split <;> omega
theorem len64_le (x : UInt64) : len64 x ≤ 311 := by
  unfold len64
  have h1 := l1_le (shr64 x 32) 32
  have h2 := l1_le x 0
  split <;> omega
def sizeV (x : UInt64) : Nat := min 9 (max 1 ((len64 x + 6) / 7))
theorem sizeV_rng (x : UInt64) : 1 ≤ sizeV x ∧ sizeV x ≤ 9 := by unfold sizeV; omega
noncomputable def F113 : FnI := fn1 fun (x : UInt64) => .int .i64 (sizeV x : Int)
-- headwater/octet.size ['UInt64'] -> ['Int'], results [2]
theorem R113 : Ref Try.prog 113 F113 := by
  refine Ref.of_iw dok Try.func113 rfl (by kernel_rfl) fun args H n e hF => ?_
  obtain ⟨a, rfl, rfl⟩ := fn1_inv hF
  have hl64 := len64_le a
  refine ⟨Nat.le_of_ble_eq_true rfl, ?_⟩
  simp only [idxL]
  have hE : Env Try.prog [(117, F117)] D K := env (fnsOk_cons R117 fnsOk_nil)
  refine IW.seq ?_
  refine IW.reg hE ?_
  refine vcS_val rfl rfl (ox_assign (pl rfl)) ?_
  refine vcS_nil ?_
  refine IW.seq ?_
  refine IW.reg hE ?_
  refine vcS_val rfl rfl (ox_move (pl rfl)) ?_
  refine vcS_val rfl rfl (ox_fn rfl rfl (fn1_ev _ _ _ _)) ?_
  refine vcS_val rfl rfl (ox_bin (pl rfl) (pl rfl) (bo_i64_add (by omega))) ?_
  refine vcS_val rfl rfl (ox_bin (pl rfl) (pl rfl) (bo_i64_quo (len64 a + 6) 7 (by omega) rfl (by decide) (by omega))) ?_
  refine vcS_val rfl rfl (ox_maxM 1 ((len64 a + 6) / 7) (pl rfl) (pl rfl) rfl rfl) ?_
  refine vcS_val rfl rfl (ox_minN 9 (max 1 ((len64 a + 6) / 7)) (pl rfl) (pl rfl) rfl rfl) ?_
  refine vcS_val rfl rfl (ox_assign (pl rfl)) ?_
  refine vcS_nil ?_
  refine IW.ret ?_
  exact RetP.ret (.inr rfl) rfl rfl trivial (rfl)
noncomputable def F101 : FnI := fun args H n => match args with
  | [.int .i64 a] => if 0 ≤ a ∧ a ≤ 100 then some ⟨.int .i64 ((max 1 (min a.toNat 8) : Nat) : Int), [], n⟩ else none
  | _ => none
theorem F101_inv {args : List Value} {H : IHeap} {n : Nat} {e : Eff} (h : F101 args H n = some e) : ∃ a : Nat, args = [.int .i64 a] ∧ a ≤ 100 ∧ e = ⟨.int .i64 ((max 1 (min a 8) : Nat) : Int), [], n⟩ := by
  unfold F101 at h; split at h
  · split at h
    · rename_i a hh; cases h
      exact ⟨a.toNat, by rw [Int.toNat_of_nonneg hh.1], by omega, rfl⟩
    · cases h
  · cases h
theorem F101_ev {H : IHeap} {n : Nat} (a : Nat) (h : a ≤ 100) : F101 [.int .i64 (a : Int)] H n = some ⟨.int .i64 ((max 1 (min a 8) : Nat) : Int), [], n⟩ := by
  simp only [F101]
  rw [if_pos (by omega), Int.toNat_natCast]
-- headwater/octet.clamp ['Int'] -> ['Int'], results [2]
theorem R101 : Ref Try.prog 101 F101 := by
  refine Ref.of_iw dok Try.func101 rfl (by kernel_rfl) fun args H n e hF => ?_
  obtain ⟨a, rfl, ha, rfl⟩ := F101_inv hF
  refine ⟨Nat.le_of_ble_eq_true rfl, ?_⟩
  simp only [idxL]
  have hE : Env Try.prog [] D K := env fnsOk_nil
  refine IW.seq ?_
  refine IW.reg hE ?_
  refine vcS_val rfl rfl (ox_assign (pl rfl)) ?_
  refine vcS_nil ?_
  refine IW.seq ?_
  refine IW.reg hE ?_
  refine vcS_val rfl rfl (ox_move (pl rfl)) ?_
  refine vcS_val rfl rfl (ox_minN a 8 (pl rfl) (pl rfl) rfl rfl) ?_
  refine vcS_val rfl rfl (ox_maxM 1 (min a 8) (pl rfl) (pl rfl) rfl rfl) ?_
  refine vcS_val rfl rfl (ox_assign (pl rfl)) ?_
  refine vcS_nil ?_
  refine IW.ret ?_
  exact RetP.ret (.inr rfl) rfl rfl trivial (rfl)
end Go.Proofs.Ytdnnojblneccdaa
/-
  Bytes with numbers, blocks and words behind them.
-/
namespace Go.Proofs.Ytdnnojblneccdaa
set_option linter.unusedSimpArgs false
set_option linter.unusedVariables false
open Go
open Enc (enc)
set_option maxRecDepth 100000
/-- bytes with room behind them -/
def buf (l : List UInt8) (m : Nat) : List UInt8 := l ++ List.replicate m 0
theorem buf_length (l : List UInt8) (m : Nat) : (buf l m).length = l.length + m := by simp [buf]
theorem buf_zero (l : List UInt8) : buf l 0 = l := by simp [buf]
theorem ovw_buf {l x : List UInt8} {m : Nat} (h : x.length ≤ m) : ovw (buf l m) l.length x = buf (l ++ x) (m - x.length) := by
  unfold ovw buf
  rw [List.take_left, List.drop_append]
  simp only [List.append_assoc]
  congr 2
  rw [List.drop_of_length_le (by omega), List.nil_append, List.drop_replicate]
  congr 1; omega
theorem splice_buf {l x : List UInt8} {m p m' : Nat} (hp : p = l.length) (h : x.length ≤ m) (hm : m' = m - x.length) : splice (encs (buf l m)) p (encs x) = encs (buf (l ++ x) m') := by
  subst hp; subst hm
  rw [splice_encs, ovw_buf h]
theorem rd_buf {H : IHeap} {id len cap : Nat} {sp : Option Nat} {ro : Bool} {l : List UInt8} {m : Nat} (hH : H id = some (.cells (encs (buf l m)) ro)) (hl : l.length = len) : rdC H (.slice (some ⟨id, 0, sp⟩) len cap) = some l := by
  subst hl
  refine rdC_mk (α := UInt8) hH ?_ ?_ rfl
  · rw [encs_length, buf_length]; show 0 + l.length * 1 ≤ _; omega
  · rw [cels_one]
    show List.take (l.length * 1) _ = _
    rw [Nat.mul_one, List.drop_zero, encs, ← List.map_take, buf, List.take_left]; rfl
noncomputable def F100 : FnI := fun args H n => match args with
  | [x, .int .i64 m] => (rdC H x).bind fun (b : List UInt8) => if 0 ≤ m ∧ m.toNat + b.length ≤ 2 ^ 42 then some ⟨.slice (some ⟨n, 0, none⟩) b.length (b.length + m.toNat), [(n, some (.cells (encs (buf b m.toNat)) false))], n + 1⟩ else none
  | _ => none
theorem F100_inv {args : List Value} {H : IHeap} {n : Nat} {e : Eff} (h : F100 args H n = some e) : ∃ xa xc, ∃ (b : List UInt8) (m : Nat), args = [.slice xa b.length xc, .int .i64 m] ∧ rdC H (.slice xa b.length xc) = some b ∧ m + b.length ≤ 2 ^ 42 ∧ e = ⟨.slice (some ⟨n, 0, none⟩) b.length (b.length + m), [(n, some (.cells (encs (buf b m)) false))], n + 1⟩ := by
  unfold F100 at h; split at h
  · simp only [Option.bind_eq_some_iff] at h
    obtain ⟨b, hb, h⟩ := h
    split at h
    · rename_i m hh; cases h
      obtain ⟨xa, xc, rfl⟩ := rdC_len hb
      exact ⟨xa, xc, b, m.toNat, by rw [Int.toNat_of_nonneg hh.1], hb, hh.2, rfl⟩
    · cases h
  · cases h
theorem F100_ev {x : Value} {H : IHeap} {n : Nat} {b : List UInt8} {a : Int} (m : Nat) (hb : rdC H x = some b) (ha : a = m) (h : m + b.length ≤ 2 ^ 42) : F100 [x, .int .i64 a] H n = some ⟨.slice (some ⟨n, 0, none⟩) b.length (b.length + m), [(n, some (.cells (encs (buf b m)) false))], n + 1⟩ := by
  subst ha
  simp only [F100, hb, Option.bind_some]
  rw [if_pos (by omega), Int.toNat_natCast]
-- headwater/octet.grown ['Sl', 'Int'] -> ['Sl'], results [4]
theorem R100 : Ref Try.prog 100 F100 := by
  refine Ref.of_iw dok Try.func100 rfl (by kernel_rfl) fun args H n e hF => ?_
  obtain ⟨xa, xc, b, m, rfl, hB, hle, rfl⟩ := F100_inv hF
  refine ⟨Nat.le_of_ble_eq_true rfl, ?_⟩
  simp only [idxL]
  have hE : Env Try.prog [] D K := env fnsOk_nil
  refine IW.seq ?_
  refine IW.free (by simp) (fun hfree => ?_)
  refine IW.reg hE ?_
  refine vcS_val rfl rfl (ox_assign (pl rfl)) ?_
  refine vcS_nil ?_
  refine IW.seq ?_
  refine IW.reg hE ?_
  refine vcS_val rfl rfl (ox_move (pl rfl)) ?_
  refine vcS_val rfl rfl (ox_len (pl rfl) D_35 rfl) ?_
  refine vcS_val rfl rfl (ox_move (pl rfl)) ?_
  refine vcS_val rfl rfl (ox_bin (pl rfl) (pl rfl) (bo_i64_add (by omega))) ?_
  refine vcS_new rfl rfl (ox_makeN 0 (b.length + m) (0 : UInt8) (pl rfl) rfl (pl rfl) (by omega) D_35 rfl D_5 rfl (Nat.zero_le _) (by simp only [most]; omega) (by show 1 * _ ≤ _; omega)) (.inl (by omega)) ?_
  refine vcS_val rfl rfl (ox_move (pl rfl)) ?_
  refine vcS_appC (p := 0) (k := b.length) (c := encs (buf [] (b.length + m))) rfl rfl rfl rfl rfl D_35 rfl D_5 (srcArg_u8 D_35 rfl rfl (rdC_keep hfree hB (by exact ⟨by omega, trivial⟩))) (by omega) (hp_eq _ _ _ _) rfl (by rw [encs_length, encs_length (α := UInt8), buf_length]; simp) (encs_known _) (.inl (by omega)) (splice_buf (m' := m) rfl (by omega) (by omega)) ?_
  refine vcS_val rfl rfl (ox_assign (pl rfl)) ?_
  refine vcS_nil ?_
  refine IW.ret ?_
  exact RetP.new1 (.inr rfl) ((ires_tmp rfl).trans (by rw [Nat.zero_add])) (by omega) (hp_eq _ _ _ _) (by rw [← cels_one]; exact u8_plain _)
/-! numbers -/
def hdV (w : UInt64) : UInt8 := if sizeV w < 9 then ~~~(shr8 255 (sizeV w - 1)) ||| (shr64 w (8 * (sizeV w - 1))).toUInt8 else ~~~(shr8 255 (sizeV w - 1))
def tlV (w : UInt64) : List UInt8 := (List.range (sizeV w - 1)).map fun j => (shr64 w (8 * (sizeV w - 2 - j))).toUInt8
def numL (w : UInt64) : List UInt8 := hdV w :: tlV w
theorem tlV_length (w : UInt64) : (tlV w).length = sizeV w - 1 := by simp [tlV]
theorem numL_length (w : UInt64) : (numL w).length = sizeV w := by have := sizeV_rng w; simp [numL, tlV_length]; omega
theorem tlV_succ {w : UInt64} {s : Nat} (h : s < sizeV w - 1) : (tlV w).take (s + 1) = (tlV w).take s ++ [(shr64 w (8 * (sizeV w - 2 - s))).toUInt8] := by
  rw [List.take_succ_eq_append_getElem (by rw [tlV_length]; exact h)]
  simp [tlV]
def nbf (b : List UInt8) (w : UInt64) (s : Nat) : List UInt8 := b ++ [hdV w] ++ (tlV w).take s
theorem nbf_length {b : List UInt8} {w : UInt64} {s : Nat} (h : s ≤ sizeV w - 1) : (nbf b w s).length = b.length + 1 + s := by simp [nbf, tlV_length]; omega
theorem nbf_succ {b : List UInt8} {w : UInt64} {s : Nat} (h : s < sizeV w - 1) : nbf b w s ++ [(shr64 w (8 * (sizeV w - 2 - s))).toUInt8] = nbf b w (s + 1) := by simp [nbf, tlV_succ h]
theorem nbf_all (b : List UInt8) (w : UInt64) : nbf b w (sizeV w - 1) = b ++ numL w := by
  rw [nbf, List.take_of_length_le (by rw [tlV_length]; exact Nat.le_refl _)]; simp [numL]
noncomputable def F109 : FnI := fun args H n => match args with
  | [x, y] => (rdC H x).bind fun (b : List UInt8) => (dec y).bind fun (w : UInt64) => if b.length ≤ 2 ^ 41 then some ⟨.slice (some ⟨n, 0, none⟩) (b.length + sizeV w) (b.length + sizeV w), [(n, some (.cells (encs (b ++ numL w)) false))], n + 1⟩ else none
  | _ => none
theorem F109_inv {args : List Value} {H : IHeap} {n : Nat} {e : Eff} (h : F109 args H n = some e) : ∃ (x : Value) (b : List UInt8) (w : UInt64), args = [x, enc w] ∧ rdC H x = some b ∧ b.length ≤ 2 ^ 41 ∧ e = ⟨.slice (some ⟨n, 0, none⟩) (b.length + sizeV w) (b.length + sizeV w), [(n, some (.cells (encs (b ++ numL w)) false))], n + 1⟩ := by
  unfold F109 at h; split at h
  · simp only [Option.bind_eq_some_iff] at h
    obtain ⟨b, hb, w, hw, h⟩ := h
    split at h
    · rename_i hh; cases h
      exact ⟨_, b, w, by rw [dec_some hw], hb, hh, rfl⟩
    · cases h
  · cases h
theorem F109_ev {x : Value} {H : IHeap} {n : Nat} {b : List UInt8} {w : UInt64} (hb : rdC H x = some b) (h : b.length ≤ 2 ^ 41) : F109 [x, enc w] H n = some ⟨.slice (some ⟨n, 0, none⟩) (b.length + sizeV w) (b.length + sizeV w), [(n, some (.cells (encs (b ++ numL w)) false))], n + 1⟩ := by
  simp only [F109, hb, dec_enc, Option.bind_some]
  rw [if_pos h]
-- headwater/octet.Number ['Sl', 'UInt64'] -> ['Sl'], results [4]
theorem R109 : Ref Try.prog 109 F109 := by
  refine Ref.of_iw dok Try.func109 rfl (by kernel_rfl) fun args H n e hF => ?_
  obtain ⟨x, b, w, rfl, hB, hle, rfl⟩ := F109_inv hF
  have hsz := sizeV_rng w
  refine ⟨Nat.le_of_ble_eq_true rfl, ?_⟩
  simp only [idxL]
  have hE : Env Try.prog [(100, F100), (113, F113)] D K := env (fnsOk_cons R100 (fnsOk_cons R113 fnsOk_nil))
  refine IW.seq ?_
  refine IW.free (by simp) (fun hfree => ?_)
  refine IW.reg hE ?_
  refine vcS_val rfl rfl (ox_assign (pl rfl)) ?_
  refine vcS_nil ?_
  refine IW.seq ?_
  refine IW.reg hE ?_
  refine vcS_val rfl rfl (ox_move (pl rfl)) ?_
  refine vcS_val rfl rfl (ox_fn rfl rfl (fn1_ev _ _ _ _)) ?_
  refine vcS_val rfl rfl (ox_assign (pl rfl)) ?_
  refine vcS_nil ?_
  refine IW.seq ?_
  refine IW.reg hE ?_
  refine vcS_val rfl rfl (ox_move (pl rfl)) ?_
  refine vcS_val rfl rfl (ox_move (pl rfl)) ?_
  refine vcS_ups rfl rfl (ox_fn rfl rfl (F100_ev (sizeV w) (rdC_keep hfree hB (by exact trivial)) rfl (by omega))) rfl ⟨.inl (by omega), trivial⟩ ?_
  refine vcS_val rfl rfl (ox_assign (pl rfl)) ?_
  refine vcS_nil ?_
  refine IW.seq ?_
  refine IW.reg hE ?_
  refine vcS_val rfl rfl (ox_move (pl rfl)) ?_
  refine vcS_val rfl rfl (ox_bin (pl rfl) (pl rfl) (bo_i64_sub (by omega))) ?_
  refine vcS_val rfl rfl (ox_bin (pl (v := enc (255 : UInt8)) rfl) (pl rfl) (bo_u8_shrN 255 (sizeV w - 1) (by omega))) ?_
  refine vcS_val rfl rfl (ox_un (pl rfl) (uo_u8_xor _)) ?_
  refine vcS_val rfl rfl (ox_assign (pl rfl)) ?_
  refine vcS_nil ?_
  refine IW.seq ?_
  refine IW.seq ?_
  refine IW.reg hE ?_
  refine vcS_val rfl rfl (ox_move (pl rfl)) ?_
  refine vcS_val rfl rfl (ox_bin (pl rfl) (pl rfl) (bo_i64_lss _ _)) ?_
  refine vcS_nil ?_
  refine IW.cond rfl (fun hc1 => ?_) (fun hc1 => ?_)
  · replace hc1 := of_decide_eq_true hc1
    have hhd : hdV w = ~~~(shr8 255 (sizeV w - 1)) ||| (shr64 w (8 * (sizeV w - 1))).toUInt8 := if_pos (by omega)
    refine IW.reg hE ?_
    refine vcS_val rfl rfl (ox_move (pl rfl)) ?_
    refine vcS_val rfl rfl (ox_move (pl rfl)) ?_
    refine vcS_val rfl rfl (ox_move (pl rfl)) ?_
    refine vcS_val rfl rfl (ox_bin (pl rfl) (pl rfl) (bo_i64_sub (by omega))) ?_
    refine vcS_val rfl rfl (ox_bin (pl rfl) (pl rfl) (bo_i64_mul (by omega))) ?_
    refine vcS_val rfl rfl (ox_bin (pl rfl) (pl rfl) (bo_u64_shrN w (8 * (sizeV w - 1)) (by omega))) ?_
    refine vcS_val rfl rfl (cv_6_8 (pl rfl) D_22 D_5 rfl) ?_
    refine vcS_val rfl rfl (ox_bin (pl rfl) (pl rfl) (bo_u8_or _ _)) ?_
    refine vcS_val rfl rfl (ox_assign (pl rfl)) ?_
    refine vcS_nil ?_
    refine IW.seq ?_
    refine IW.reg hE ?_
    refine vcS_val rfl rfl (ox_move (pl rfl)) ?_
    refine vcS_val rfl rfl (ox_move (pl rfl)) ?_
    refine vcS_new rfl rfl (ox_bsl (cs := encs [hdV w]) D_35 rfl D_5 (Nat.le_of_ble_eq_true rfl) rfl (by rw [hhd]; rfl)) (.inl (by omega)) ?_
    refine vcS_appC (p := b.length) (k := 1) rfl rfl rfl rfl rfl D_35 rfl D_5 (srcArg_u8 D_35 rfl rfl (rdC_1all (hp_eq _ _ _ _) rfl)) (by omega) (hp_sk (by omega) (hp_eq _ _ _ _)) (by show _ + _ * 1 = _; omega) (by rw [encs_length, encs_length (α := UInt8), buf_length]; simp; omega) (encs_known _) (.inl (by omega)) (splice_buf (m := sizeV w) (m' := sizeV w - 1) (by omega) (by simp; try omega) (by simp; try omega)) ?_
    refine vcS_val rfl rfl (ox_assign (pl rfl)) ?_
    refine vcS_nil ?_
    refine IW.seq ?_
    refine IW.seq ?_
    refine IW.reg hE ?_
    refine vcS_val rfl rfl (ox_move (pl rfl)) ?_
    refine vcS_val rfl rfl (ox_bin (pl rfl) (pl rfl) (bo_i64_sub (by omega))) ?_
    refine vcS_val rfl rfl (ox_assign (pl rfl)) ?_
    refine vcS_nil ?_
    refine IW.block ?_
    refine IW.loop (S := Nat) (fun s => [(1, enc w), (6, .slice (some ⟨n, 0, none⟩) (b.length + 1 + s) (b.length + sizeV w)), (8, .int .i64 ((sizeV w : Int) - 2 - s))]) (fun s => [(n, some (.cells (encs (buf (nbf b w s) (sizeV w - 1 - s))) false))]) (fun s => n + 1 + 1 + s) (fun s => s ≤ sizeV w - 1) (fun s => sizeV w - s) (0) (Nat.zero_le _) (⟨rfl, ⟨rfl, ⟨(congrArg (fun z => some (Value.int .i64 z)) (by omega)), trivial⟩⟩⟩) (leX_le (leX_cons (by rw [show nbf b w 0 = b ++ [hdV w] by simp [nbf]]; rfl) (leX_none hfree (by exact ⟨by omega, by omega, trivial⟩)))) (Nat.le_refl _) (fun s hs => ?_)
    refine IW.seq ?_
    refine IW.seq ?_
    refine IW.reg hE ?_
    refine vcS_val rfl rfl (ox_move (pl rfl)) ?_
    refine vcS_val rfl rfl (ox_bin (pl rfl) (pl rfl) (bo_i64_geq _ _)) ?_
    refine vcS_nil ?_
    refine IW.cond rfl (fun hc2 => ?_) (fun hc2 => ?_)
    · replace hc2 := of_decide_eq_true hc2
      have hs1 : s < sizeV w - 1 := by omega
      have hnl := nbf_length (b := b) hs
      refine IW.skip ?_
      refine IW.seq ?_
      refine IW.block ?_
      refine IW.reg hE ?_
      refine vcS_val rfl rfl (ox_move (pl rfl)) ?_
      refine vcS_val rfl rfl (ox_move (pl rfl)) ?_
      refine vcS_val rfl rfl (ox_move (pl rfl)) ?_
      refine vcS_val rfl rfl (ox_bin (pl rfl) (pl rfl) (bo_i64_mul (by omega))) ?_
      refine vcS_val rfl rfl (ox_bin (pl rfl) (pl rfl) (bo_u64_shrN w (8 * (sizeV w - 2 - s)) (by omega))) ?_
      refine vcS_val rfl rfl (cv_6_8 (pl rfl) D_22 D_5 rfl) ?_
      refine vcS_new rfl rfl (ox_bsl (cs := encs [(shr64 w (8 * (sizeV w - 2 - s))).toUInt8]) D_35 rfl D_5 (Nat.le_of_ble_eq_true rfl) rfl rfl) (.inl (by omega)) ?_
      refine vcS_appC (p := b.length + 1 + s) (k := 1) rfl rfl rfl rfl rfl D_35 rfl D_5 (srcArg_u8 D_35 rfl rfl (rdC_1all (hp_eq _ _ _ _) rfl)) (by omega) (hp_sk (by omega) (hp_eq _ _ _ _)) (by show _ + _ * 1 = _; omega) (by rw [encs_length, encs_length (α := UInt8), buf_length]; rw [hnl]; simp; omega) (encs_known _) (.inl (by omega)) (splice_buf (m := sizeV w - 1 - s) (m' := sizeV w - 1 - (s + 1)) hnl.symm (by simp; omega) (by simp; omega)) ?_
      refine vcS_val rfl rfl (ox_assign (pl rfl)) ?_
      refine vcS_nil ?_
      refine IW.nilB ?_
      refine IW.reg hE ?_
      refine vcS_val rfl rfl (ox_move (pl rfl)) ?_
      refine vcS_val rfl rfl (ox_bin (pl rfl) (pl rfl) (bo_i64_sub (by omega))) ?_
      refine vcS_val rfl rfl (ox_assign (pl rfl)) ?_
      refine vcS_nil ?_
      refine IW.nilS ?_
      exact ⟨s + 1, _, _, by omega, by omega, rfl, ⟨rfl, ⟨rfl, ⟨(congrArg (fun z => some (Value.int .i64 z)) (by omega)), trivial⟩⟩⟩, rfl, leX_le (leX_cons (by rw [nbf_succ hs1]) (leX_none hfree (by exact ⟨by omega, by omega, trivial⟩))), by omega⟩
    · replace hc2 := of_decide_eq_false hc2
      have hse : s = sizeV w - 1 := by omega
      subst hse
      refine IW.exit ?_
      refine exS (exS ?_)
      refine blkQ_exit ?_
      refine IW.seq ?_
      refine IW.reg hE ?_
      refine vcS_val rfl rfl (ox_move (pl rfl)) ?_
      refine vcS_val rfl rfl (ox_assign (pl rfl)) ?_
      refine vcS_nil ?_
      refine IW.ret ?_
      exact RetP.new1 (.inr rfl) ((ires_tmp rfl).trans (by rw [show b.length + 1 + (sizeV w - 1) = b.length + sizeV w by omega])) (by omega) ((hp_eq _ _ _ _).trans (by rw [nbf_all, Nat.sub_self, buf_zero])) (by rw [← cels_one]; exact u8_plain _)
  · replace hc1 := of_decide_eq_false hc1
    have hhd : hdV w = ~~~(shr8 255 (sizeV w - 1)) := if_neg (by omega)
    refine IW.skip ?_
    refine IW.seq ?_
    refine IW.reg hE ?_
    refine vcS_val rfl rfl (ox_move (pl rfl)) ?_
    refine vcS_val rfl rfl (ox_move (pl rfl)) ?_
    refine vcS_new rfl rfl (ox_bsl (cs := encs [hdV w]) D_35 rfl D_5 (Nat.le_of_ble_eq_true rfl) rfl (by rw [hhd]; rfl)) (.inl (by omega)) ?_
    refine vcS_appC (p := b.length) (k := 1) rfl rfl rfl rfl rfl D_35 rfl D_5 (srcArg_u8 D_35 rfl rfl (rdC_1all (hp_eq _ _ _ _) rfl)) (by omega) (hp_sk (by omega) (hp_eq _ _ _ _)) (by show _ + _ * 1 = _; omega) (by rw [encs_length, encs_length (α := UInt8), buf_length]; simp; omega) (encs_known _) (.inl (by omega)) (splice_buf (m := sizeV w) (m' := sizeV w - 1) (by omega) (by simp; try omega) (by simp; try omega)) ?_
    refine vcS_val rfl rfl (ox_assign (pl rfl)) ?_
    refine vcS_nil ?_
    refine IW.seq ?_
    refine IW.seq ?_
    refine IW.reg hE ?_
    refine vcS_val rfl rfl (ox_move (pl rfl)) ?_
    refine vcS_val rfl rfl (ox_bin (pl rfl) (pl rfl) (bo_i64_sub (by omega))) ?_
    refine vcS_val rfl rfl (ox_assign (pl rfl)) ?_
    refine vcS_nil ?_
    refine IW.block ?_
    refine IW.loop (S := Nat) (fun s => [(1, enc w), (6, .slice (some ⟨n, 0, none⟩) (b.length + 1 + s) (b.length + sizeV w)), (8, .int .i64 ((sizeV w : Int) - 2 - s))]) (fun s => [(n, some (.cells (encs (buf (nbf b w s) (sizeV w - 1 - s))) false))]) (fun s => n + 1 + 1 + s) (fun s => s ≤ sizeV w - 1) (fun s => sizeV w - s) (0) (Nat.zero_le _) (⟨rfl, ⟨rfl, ⟨(congrArg (fun z => some (Value.int .i64 z)) (by omega)), trivial⟩⟩⟩) (leX_le (leX_cons (by rw [show nbf b w 0 = b ++ [hdV w] by simp [nbf]]; rfl) (leX_none hfree (by exact ⟨by omega, by omega, trivial⟩)))) (Nat.le_refl _) (fun s hs => ?_)
    refine IW.seq ?_
    refine IW.seq ?_
    refine IW.reg hE ?_
    refine vcS_val rfl rfl (ox_move (pl rfl)) ?_
    refine vcS_val rfl rfl (ox_bin (pl rfl) (pl rfl) (bo_i64_geq _ _)) ?_
    refine vcS_nil ?_
    refine IW.cond rfl (fun hc3 => ?_) (fun hc3 => ?_)
    · replace hc3 := of_decide_eq_true hc3
      have hs1 : s < sizeV w - 1 := by omega
      have hnl := nbf_length (b := b) hs
      refine IW.skip ?_
      refine IW.seq ?_
      refine IW.block ?_
      refine IW.reg hE ?_
      refine vcS_val rfl rfl (ox_move (pl rfl)) ?_
      refine vcS_val rfl rfl (ox_move (pl rfl)) ?_
      refine vcS_val rfl rfl (ox_move (pl rfl)) ?_
      refine vcS_val rfl rfl (ox_bin (pl rfl) (pl rfl) (bo_i64_mul (by omega))) ?_
      refine vcS_val rfl rfl (ox_bin (pl rfl) (pl rfl) (bo_u64_shrN w (8 * (sizeV w - 2 - s)) (by omega))) ?_
      refine vcS_val rfl rfl (cv_6_8 (pl rfl) D_22 D_5 rfl) ?_
      refine vcS_new rfl rfl (ox_bsl (cs := encs [(shr64 w (8 * (sizeV w - 2 - s))).toUInt8]) D_35 rfl D_5 (Nat.le_of_ble_eq_true rfl) rfl rfl) (.inl (by omega)) ?_
      refine vcS_appC (p := b.length + 1 + s) (k := 1) rfl rfl rfl rfl rfl D_35 rfl D_5 (srcArg_u8 D_35 rfl rfl (rdC_1all (hp_eq _ _ _ _) rfl)) (by omega) (hp_sk (by omega) (hp_eq _ _ _ _)) (by show _ + _ * 1 = _; omega) (by rw [encs_length, encs_length (α := UInt8), buf_length]; rw [hnl]; simp; omega) (encs_known _) (.inl (by omega)) (splice_buf (m := sizeV w - 1 - s) (m' := sizeV w - 1 - (s + 1)) hnl.symm (by simp; omega) (by simp; omega)) ?_
      refine vcS_val rfl rfl (ox_assign (pl rfl)) ?_
      refine vcS_nil ?_
      refine IW.nilB ?_
      refine IW.reg hE ?_
      refine vcS_val rfl rfl (ox_move (pl rfl)) ?_
      refine vcS_val rfl rfl (ox_bin (pl rfl) (pl rfl) (bo_i64_sub (by omega))) ?_
      refine vcS_val rfl rfl (ox_assign (pl rfl)) ?_
      refine vcS_nil ?_
      refine IW.nilS ?_
      exact ⟨s + 1, _, _, by omega, by omega, rfl, ⟨rfl, ⟨rfl, ⟨(congrArg (fun z => some (Value.int .i64 z)) (by omega)), trivial⟩⟩⟩, rfl, leX_le (leX_cons (by rw [nbf_succ hs1]) (leX_none hfree (by exact ⟨by omega, by omega, trivial⟩))), by omega⟩
    · replace hc3 := of_decide_eq_false hc3
      have hse : s = sizeV w - 1 := by omega
      subst hse
      refine IW.exit ?_
      refine exS (exS ?_)
      refine blkQ_exit ?_
      refine IW.seq ?_
      refine IW.reg hE ?_
      refine vcS_val rfl rfl (ox_move (pl rfl)) ?_
      refine vcS_val rfl rfl (ox_assign (pl rfl)) ?_
      refine vcS_nil ?_
      refine IW.ret ?_
      exact RetP.new1 (.inr rfl) ((ires_tmp rfl).trans (by rw [show b.length + 1 + (sizeV w - 1) = b.length + sizeV w by omega])) (by omega) ((hp_eq _ _ _ _).trans (by rw [nbf_all, Nat.sub_self, buf_zero])) (by rw [← cels_one]; exact u8_plain _)
/-! blocks -/
def blkL (b p : List UInt8) : List UInt8 := b ++ numL (UInt64.ofNat p.length) ++ p
theorem blkL_length (b p : List UInt8) : (blkL b p).length = b.length + sizeV (UInt64.ofNat p.length) + p.length := by simp [blkL, numL_length]; omega
noncomputable def F92 : FnI := fun args H n => match args with
  | [x, y] => (rdC H x).bind fun (b : List UInt8) => (rdC H y).bind fun (p : List UInt8) => if b.length + p.length ≤ 2 ^ 40 then some ⟨.slice (some ⟨n, 0, fsp p.length⟩) (blkL b p).length (blkL b p).length, [(n, some (.cells (encs (blkL b p)) false))], n + 1⟩ else none
  | _ => none
theorem F92_inv {args : List Value} {H : IHeap} {n : Nat} {e : Eff} (h : F92 args H n = some e) : ∃ xa xc ya yc, ∃ b p : List UInt8, args = [.slice xa b.length xc, .slice ya p.length yc] ∧ rdC H (.slice xa b.length xc) = some b ∧ rdC H (.slice ya p.length yc) = some p ∧ b.length + p.length ≤ 2 ^ 40 ∧ e = ⟨.slice (some ⟨n, 0, fsp p.length⟩) (blkL b p).length (blkL b p).length, [(n, some (.cells (encs (blkL b p)) false))], n + 1⟩ := by
  unfold F92 at h; split at h
  · simp only [Option.bind_eq_some_iff] at h
    obtain ⟨b, hb, p, hp, h⟩ := h
    split at h
    · rename_i hh; cases h
      obtain ⟨xa, xc, rfl⟩ := rdC_len hb
      obtain ⟨ya, yc, rfl⟩ := rdC_len hp
      exact ⟨xa, xc, ya, yc, b, p, rfl, hb, hp, hh, rfl⟩
    · cases h
  · cases h
theorem F92_ev {x y : Value} {H : IHeap} {n : Nat} {b p : List UInt8} (hb : rdC H x = some b) (hp : rdC H y = some p) (h : b.length + p.length ≤ 2 ^ 40) : F92 [x, y] H n = some ⟨.slice (some ⟨n, 0, fsp p.length⟩) (blkL b p).length (blkL b p).length, [(n, some (.cells (encs (blkL b p)) false))], n + 1⟩ := by
  simp only [F92, hb, hp, Option.bind_some]
  rw [if_pos h]
-- headwater/octet.Block ['Sl', 'Sl'] -> ['Sl'], results [4]
theorem R92 : Ref Try.prog 92 F92 := by
  refine Ref.of_iw dok Try.func92 rfl (by kernel_rfl) fun args H n e hF => ?_
  obtain ⟨xa, xc, ya, yc, b, p, rfl, hB, hP, hle, rfl⟩ := F92_inv hF
  have hsz := sizeV_rng (UInt64.ofNat p.length)
  have hbl := blkL_length b p
  refine ⟨Nat.le_of_ble_eq_true rfl, ?_⟩
  simp only [idxL]
  have hE : Env Try.prog [(100, F100), (109, F109)] D K := env (fnsOk_cons R100 (fnsOk_cons R109 fnsOk_nil))
  refine IW.seq ?_
  refine IW.free (by simp) (fun hfree => ?_)
  refine IW.reg hE ?_
  refine vcS_val rfl rfl (ox_assign (pl rfl)) ?_
  refine vcS_nil ?_
  refine IW.seq ?_
  refine IW.reg hE ?_
  refine vcS_val rfl rfl (ox_move (pl rfl)) ?_
  refine vcS_val rfl rfl (ox_move (pl rfl)) ?_
  refine vcS_val rfl rfl (ox_len (pl rfl) D_35 rfl) ?_
  refine vcS_val rfl rfl (ox_bin (pl rfl) (pl rfl) (bo_i64_add (by omega))) ?_
  refine vcS_ups rfl rfl (ox_fn rfl rfl (F100_ev (9 + p.length) (rdC_keep hfree hB (by exact trivial)) (by omega) (by omega))) rfl ⟨.inl (by omega), trivial⟩ ?_
  refine vcS_val rfl rfl (ox_move (pl rfl)) ?_
  refine vcS_val rfl rfl (ox_len (pl rfl) D_35 rfl) ?_
  refine vcS_val rfl rfl (cv_i_6 p.length (pl rfl) D_3 D_22 rfl rfl) ?_
  refine vcS_ups rfl rfl (ox_fn rfl rfl (F109_ev (b := b) (rd_buf (hp_eq _ _ _ _) rfl) (by omega))) rfl ⟨.inl (by omega), trivial⟩ ?_
  refine vcS_val rfl rfl (ox_assign (pl rfl)) ?_
  refine vcS_nil ?_
  refine IW.seq ?_
  by_cases h0 : p = []
  · refine IW.reg hE ?_
    refine vcS_val rfl rfl (ox_move (pl rfl)) ?_
    refine vcS_val rfl rfl (ox_move (pl rfl)) ?_
    refine vcS_val rfl rfl (ox_app0 (α := UInt8) (pl rfl) (pl rfl) D_35 rfl D_5 D_35 rfl rfl (rdC_nilE h0 (rdC_keep hfree hP (by exact ⟨by omega, ⟨by omega, trivial⟩⟩))) rfl (Nat.le_refl _)) ?_
    refine vcS_val rfl rfl (ox_assign (pl rfl)) ?_
    refine vcS_nil ?_
    refine IW.ret ?_
    subst h0; exact RetP.new1 (.inr rfl) ((ires_tmp rfl).trans (by rw [hbl]; rfl)) (by omega) ((hp_eq _ _ _ _).trans (by unfold blkL; rw [List.append_nil])) (by rw [← cels_one]; exact u8_plain _)
  · refine IW.reg hE ?_
    refine vcS_val rfl rfl (ox_move (pl rfl)) ?_
    refine vcS_val rfl rfl (ox_move (pl rfl)) ?_
    refine vcS_new rfl rfl (ox_appG (α := UInt8) (l1 := b ++ numL (UInt64.ofNat p.length)) (len2 := (blkL b p).length) (pl rfl) (pl rfl) D_35 rfl D_5 rfl (srcArg_1 (l := p) D_35 rfl rfl (rdC_keep hfree hP (by exact ⟨by omega, ⟨by omega, trivial⟩⟩))) rfl (rdC_1all (hp_eq _ _ _ _) (by simp [numL_length])) (by have := List.length_pos_iff.2 h0; omega) (by omega) (by simp only [most]; omega) (by decide)) (.inl (by omega)) ?_
    refine vcS_val rfl rfl (ox_assign (pl rfl)) ?_
    refine vcS_nil ?_
    refine IW.ret ?_
    have hfs : fsp p.length = some 1 := if_neg (fun e => h0 (List.length_eq_zero_iff.1 e))
    rw [hfs]; exact RetP.new1 (.inr rfl) (ires_tmp rfl) (by omega) (hp_eq _ _ _ _) (by rw [← cels_one]; exact u8_plain _)
/-! words -/
def wsh (w : UInt64) : Nat → UInt64
  | 0 => w
  | i + 1 => shr64 (wsh w i) 8
def wordL (w : UInt64) (k : Nat) : List UInt8 := (List.range k).map fun i => (wsh w i).toUInt8
end Go.Proofs.Ytdnnojblneccdaa
/-
  The reader of bytes.
-/
namespace Go.Proofs.Ytdnnojblneccdaa
set_option linter.unusedSimpArgs false
set_option linter.unusedVariables false
open Go
open Enc (enc)
set_option maxRecDepth 100000
structure RS where
  at_ : Nat
  e : Nat
def rdr (ib len : Nat) (s : RS) : Reader := ⟨⟨some ⟨ib, 0, none⟩, len, len⟩, s.at_, s.e, true⟩
/-- a reader of these bytes, so far -/
structure IsR (H : IHeap) (id ib : Nat) (l : List UInt8) (s : RS) : Prop where
  hd : H id = some (.cells (rdr ib l.length s).cells false)
  bs : H ib = some (.cells (encs l) false)
  le : s.at_ ≤ l.length
  lim : l.length ≤ 2 ^ 40
  ne : ib ≠ id
theorem IsR.uniq {H : IHeap} {id ib ib' : Nat} {l l' : List UInt8} {s s' : RS} (h : IsR H id ib l s) (h' : IsR H id ib' l' s') : ib = ib' ∧ l = l' ∧ s = s' := by
  have h1 := h.hd.symm.trans h'.hd
  simp only [Option.some.injEq, IObj.cells.injEq, and_true] at h1
  have h2 := Reader.cells_inj h1
  simp only [rdr, Reader.mk.injEq, Sl.mk.injEq, Option.some.injEq, Addr.mk.injEq, and_true] at h2
  obtain ⟨⟨e1, e2, _⟩, e3, e4⟩ := h2
  subst e1
  have h3 := h.bs.symm.trans h'.bs
  simp only [Option.some.injEq, IObj.cells.injEq, and_true] at h3
  refine ⟨rfl, encs_inj h3, ?_⟩
  obtain ⟨a, b⟩ := s
  obtain ⟨a', b'⟩ := s'
  simp only at e3 e4
  rw [RS.mk.injEq]; omega
noncomputable def rdOf (H : IHeap) (id : Nat) : Option (Nat × List UInt8 × RS) := open Classical in if h : ∃ x : Nat × List UInt8 × RS, IsR H id x.1 x.2.1 x.2.2 then some h.choose else none
theorem rdOf_some {H : IHeap} {id ib : Nat} {l : List UInt8} {s : RS} (h : IsR H id ib l s) : rdOf H id = some (ib, l, s) := by
  have hx : ∃ x : Nat × List UInt8 × RS, IsR H id x.1 x.2.1 x.2.2 := ⟨(ib, l, s), h⟩
  unfold rdOf
  rw [dif_pos hx]
  obtain ⟨h1, h2, h3⟩ := hx.choose_spec.uniq h
  congr 1
  exact Prod.ext h1 (Prod.ext h2 h3)
theorem rdOf_inv {H : IHeap} {id : Nat} {x : Nat × List UInt8 × RS} (h : rdOf H id = some x) : IsR H id x.1 x.2.1 x.2.2 := by
  unfold rdOf at h
  split at h
  · rename_i hx
    cases h
    exact hx.choose_spec
  · cases h
theorem IsR.set {H : IHeap} {M : Ups} {id ib : Nat} {l : List UInt8} {s s' : RS} (h : IsR (hp H M) id ib l s) (hs : s'.at_ ≤ l.length) : IsR (hp H ((id, some (.cells (rdr ib l.length s').cells false)) :: M)) id ib l s' :=
  ⟨hp_eq _ _ _ _, hp_sk h.ne h.bs, hs, h.lim, h.ne⟩
theorem rdr_okN {p : Nat → Prop} {ib len : Nat} {s : RS} (h : p ib) : ∀ x ∈ (rdr ib len s).cells, okN1 p x := by
  intro x hx
  simp only [Reader.cells, rdr, List.cons_append, List.nil_append, List.mem_cons, List.not_mem_nil, or_false] at hx
  rcases hx with rfl | rfl | rfl | rfl
  · exact h
  · trivial
  · trivial
  · trivial
theorem rdr_ren {g : Nat → Nat} {ib len : Nat} {s : RS} (h : g ib = ib) : (rdr ib len s).cells.map (ren1 g) = (rdr ib len s).cells := by
  show [Value.slice (some ⟨g ib, 0, none⟩) len len, .int .i64 s.at_, .int .i64 s.e, .bool true] = _
  rw [h]; rfl
/-- a contract of a reader's method -/
noncomputable def rdF (f : Nat → Nat → List UInt8 → RS → Nat → Option Eff) : FnI := fun args H n => match args with
  | [.pointer (some ⟨id, 0, none⟩)] => (rdOf H id).bind fun x => f id x.1 x.2.1 x.2.2 n
  | _ => none
theorem rdF_inv {f : Nat → Nat → List UInt8 → RS → Nat → Option Eff} {args : List Value} {H : IHeap} {n : Nat} {e : Eff} (h : rdF f args H n = some e) : ∃ (id ib : Nat) (l : List UInt8) (s : RS), args = [.pointer (some ⟨id, 0, none⟩)] ∧ IsR H id ib l s ∧ f id ib l s n = some e := by
  unfold rdF at h; split at h
  · simp only [Option.bind_eq_some_iff] at h
    obtain ⟨x, hx, h⟩ := h
    exact ⟨_, x.1, x.2.1, x.2.2, rfl, rdOf_inv hx, h⟩
  · cases h
theorem rdF_ev {f : Nat → Nat → List UInt8 → RS → Nat → Option Eff} {H : IHeap} {n id ib : Nat} {l : List UInt8} {s : RS} {e : Eff} (h : IsR H id ib l s) (he : f id ib l s n = some e) : rdF f [.pointer (some ⟨id, 0, none⟩)] H n = some e := by
  simp only [rdF, rdOf_some h, Option.bind_some]
  exact he
noncomputable def F95 : FnI := rdF fun _ _ _ s n => some ⟨.int .i64 (s.e : Int), [], n⟩
theorem F95_ev {H : IHeap} {n id ib : Nat} {l : List UInt8} {s : RS} (h : IsR H id ib l s) : F95 [.pointer (some ⟨id, 0, none⟩)] H n = some ⟨.int .i64 (s.e : Int), [], n⟩ := rdF_ev h rfl
-- (*headwater/octet.Reader).Err ['?'] -> ['Int'], results [2]
theorem R95 : Ref Try.prog 95 F95 := by
  refine Ref.of_iw dok Try.func95 rfl (by kernel_rfl) fun args H n e hF => ?_
  obtain ⟨id, ib, l, s, rfl, hR, hF2⟩ := rdF_inv hF
  cases hF2
  refine ⟨Nat.le_of_ble_eq_true rfl, ?_⟩
  simp only [idxL]
  have hE : Env Try.prog [] D K := env fnsOk_nil
  refine IW.seq ?_
  have hd := hR.hd
  have hbs := hR.bs
  have hle := hR.le
  have hlim := hR.lim
  have hne := hR.ne
  refine IW.lt (by simp) hd (fun hid => ?_)
  refine IW.lt (by simp) hbs (fun hib => ?_)
  refine IW.free (by simp) (fun hfree => ?_)
  refine IW.reg hE ?_
  refine vcS_val rfl rfl (ox_assign (pl rfl)) ?_
  refine vcS_nil ?_
  refine IW.seq ?_
  refine IW.seq ?_
  refine IW.reg hE ?_
  refine vcS_val rfl rfl (ox_move (pl rfl)) ?_
  refine vcS_val rfl rfl (ox_bin (pl rfl) (pl rfl) (bo_ptr_nil D_126 rfl)) ?_
  refine vcS_val rfl rfl (ox_move (pl rfl)) ?_
  refine vcS_T rfl (wgF rfl rfl rfl) rfl (ox_move (pl rfl)) rfl trivial ?_
  refine vcS_T rfl (wgF rfl rfl rfl) rfl (ox_nilCheck (pl rfl)) rfl trivial ?_
  refine vcS_T rfl (wgF rfl rfl rfl) rfl (ox_fieldAddr (pl rfl) D_143 rfl rfl D_4 (by decide)) rfl trivial ?_
  refine vcS_T rfl (wgF rfl rfl rfl) rfl (ox_load (pl rfl) D_4 (hp_keep hfree hd (by exact trivial)) (rd_143_3 _ rfl)) rfl trivial ?_
  refine vcS_T rfl (wgF rfl rfl rfl) rfl (ox_un (pl rfl) (uo_not _)) rfl trivial ?_
  refine vcS_val rfl rfl (ox_or (pl rfl) (pl rfl) (fun hc => pl rfl)) ?_
  refine vcS_nil ?_
  refine IW.cond rfl (fun hc1 => ?_) (fun hc1 => ?_)
  · nomatch hc1
  · refine IW.skip ?_
    refine IW.seq ?_
    refine IW.reg hE ?_
    refine vcS_val rfl rfl (ox_move (pl rfl)) ?_
    refine vcS_val rfl rfl (ox_nilCheck (pl rfl)) ?_
    refine vcS_val rfl rfl (ox_fieldAddr (pl rfl) D_143 rfl rfl D_41 (by decide)) ?_
    refine vcS_val rfl rfl (ox_load (pl rfl) D_41 (hp_keep hfree hd (by exact trivial)) (rd_143_2 _ rfl)) ?_
    refine vcS_val rfl rfl (ox_assign (pl rfl)) ?_
    refine vcS_nil ?_
    refine IW.ret ?_
    exact RetP.ret (.inr rfl) rfl rfl trivial (rfl)
noncomputable def F99 : FnI := rdF fun _ _ l s n => some ⟨.int .i64 ((l.length - s.at_ : Nat) : Int), [], n⟩
theorem F99_ev {H : IHeap} {n id ib : Nat} {l : List UInt8} {s : RS} (h : IsR H id ib l s) : F99 [.pointer (some ⟨id, 0, none⟩)] H n = some ⟨.int .i64 ((l.length - s.at_ : Nat) : Int), [], n⟩ := rdF_ev h rfl
-- (*headwater/octet.Reader).Left ['?'] -> ['Int'], results [2]
theorem R99 : Ref Try.prog 99 F99 := by
  refine Ref.of_iw dok Try.func99 rfl (by kernel_rfl) fun args H n e hF => ?_
  obtain ⟨id, ib, l, s, rfl, hR, hF2⟩ := rdF_inv hF
  cases hF2
  refine ⟨Nat.le_of_ble_eq_true rfl, ?_⟩
  simp only [idxL]
  have hE : Env Try.prog [] D K := env fnsOk_nil
  refine IW.seq ?_
  have hd := hR.hd
  have hbs := hR.bs
  have hle := hR.le
  have hlim := hR.lim
  have hne := hR.ne
  refine IW.lt (by simp) hd (fun hid => ?_)
  refine IW.lt (by simp) hbs (fun hib => ?_)
  refine IW.free (by simp) (fun hfree => ?_)
  refine IW.reg hE ?_
  refine vcS_val rfl rfl (ox_assign (pl rfl)) ?_
  refine vcS_nil ?_
  refine IW.seq ?_
  refine IW.seq ?_
  refine IW.reg hE ?_
  refine vcS_val rfl rfl (ox_move (pl rfl)) ?_
  refine vcS_val rfl rfl (ox_bin (pl rfl) (pl rfl) (bo_ptr_nil D_126 rfl)) ?_
  refine vcS_nil ?_
  refine IW.cond rfl (fun hc1 => ?_) (fun hc1 => ?_)
  · cases hc1
  · refine IW.skip ?_
    refine IW.seq ?_
    refine IW.drw hE mixed [[],[0],[0,1],[0,1,2],[0,1,2,3],[],[5],[5,6],[5,6,7],[0,1,2,3,4,5,6,7,8],[0,1,2,3,4,5,6,7,8,9]] (by kernel_rfl) (vcE_start ?_)
    refine vcE_bl rfl rfl (fun _ => ox_move (pl rfl)) rfl rfl ?_
    refine vcE_bl rfl rfl (fun _ => ox_nilCheck (pl rfl)) rfl rfl ?_
    refine vcE_bl rfl rfl (fun _ => ox_fieldAddr (pl rfl) D_143 rfl rfl D_35 (by decide)) rfl rfl ?_
    refine vcE_val rfl rfl rfl rfl (ox_load (pl rfl) D_35 (hp_keep hfree hd (by exact trivial)) (rd_143_0 _ rfl)) rfl (si_load (pl rfl)) (lt1 (by omega)) (trivial) ?_
    refine vcE_bl rfl rfl (fun _ => ox_len (pl rfl) D_35 rfl) rfl rfl ?_
    refine vcE_bl rfl rfl (fun _ => ox_move (pl rfl)) rfl rfl ?_
    refine vcE_bl rfl rfl (fun _ => ox_nilCheck (pl rfl)) rfl rfl ?_
    refine vcE_bl rfl rfl (fun _ => ox_fieldAddr (pl rfl) D_143 rfl rfl D_3 (by decide)) rfl rfl ?_
    refine vcE_val rfl rfl rfl rfl (ox_load (pl rfl) D_3 (hp_keep hfree hd (by exact trivial)) (rd_143_1 _ rfl)) rfl (si_load (pl rfl)) (lt1 (by omega)) (trivial) ?_
    refine vcE_bl rfl rfl (fun _ => ox_bin (pl rfl) (pl rfl) ((bo_i64_sub (by simp only [rdr]; omega)).trans (congrArg (fun z => some (Value.int .i64 z)) (show (l.length : Int) - (s.at_ : Int) = ((l.length - s.at_ : Nat) : Int) by omega)))) rfl rfl ?_
    refine vcE_bl rfl rfl (fun _ => ox_assign (pl rfl)) rfl rfl ?_
    refine vcE_nil ?_
    refine IW.ret ?_
    exact RetP.ret (.inr rfl) rfl rfl trivial (rfl)
def failS (s : RS) (a e : Nat) : RS := ⟨a, if s.e = 0 then e else s.e⟩
noncomputable def F112 : FnI := fun args H n => match args with
  | [.pointer (some ⟨id, 0, none⟩), .int .i64 a, .int .i64 e] => (rdOf H id).bind fun x => if 0 ≤ a ∧ a ≤ x.2.1.length ∧ 0 ≤ e then some ⟨.tuple #[], [(id, some (.cells (rdr x.1 x.2.1.length (failS x.2.2 a.toNat e.toNat)).cells false))], n⟩ else none
  | _ => none
theorem F112_inv {args : List Value} {H : IHeap} {n : Nat} {ef : Eff} (h : F112 args H n = some ef) : ∃ (id ib : Nat) (l : List UInt8) (s : RS) (a e : Nat), args = [.pointer (some ⟨id, 0, none⟩), .int .i64 a, .int .i64 e] ∧ IsR H id ib l s ∧ a ≤ l.length ∧ ef = ⟨.tuple #[], [(id, some (.cells (rdr ib l.length (failS s a e)).cells false))], n⟩ := by
  unfold F112 at h; split at h
  · simp only [Option.bind_eq_some_iff] at h
    obtain ⟨x, hx, h⟩ := h
    split at h
    · rename_i id a e hh; cases h
      exact ⟨_, x.1, x.2.1, x.2.2, a.toNat, e.toNat, by rw [Int.toNat_of_nonneg hh.1, Int.toNat_of_nonneg hh.2.2], rdOf_inv hx, by omega, rfl⟩
    · cases h
  · cases h
theorem F112_ev {H : IHeap} {n id ib : Nat} {l : List UInt8} {s : RS} {x : Int} (a e : Nat) (h : IsR H id ib l s) (hx : x = a) (ha : a ≤ l.length) : F112 [.pointer (some ⟨id, 0, none⟩), .int .i64 x, .int .i64 (e : Int)] H n = some ⟨.tuple #[], [(id, some (.cells (rdr ib l.length (failS s a e)).cells false))], n⟩ := by
  subst hx
  simp only [F112, rdOf_some h, Option.bind_some]
  rw [if_pos (by omega)]
  simp only [Int.toNat_natCast]
-- (*headwater/octet.Reader).fail ['?', 'Int', 'Int'] -> [], results []
theorem R112 : Ref Try.prog 112 F112 := by
  refine Ref.of_iw dok Try.func112 rfl (by kernel_rfl) fun args H n e hF => ?_
  obtain ⟨id, ib, l, s, a, e, rfl, hR, ha, rfl⟩ := F112_inv hF
  refine ⟨Nat.le_of_ble_eq_true rfl, ?_⟩
  simp only [idxL]
  have hE : Env Try.prog [] D K := env fnsOk_nil
  refine IW.seq ?_
  refine IW.seq ?_
  have hd := hR.hd
  have hbs := hR.bs
  have hle := hR.le
  have hlim := hR.lim
  have hne := hR.ne
  refine IW.lt (by simp) hd (fun hid => ?_)
  refine IW.lt (by simp) hbs (fun hib => ?_)
  refine IW.free (by simp) (fun hfree => ?_)
  refine IW.reg hE ?_
  refine vcS_val rfl rfl (ox_move (pl rfl)) ?_
  refine vcS_val rfl rfl (ox_nilCheck (pl rfl)) ?_
  refine vcS_val rfl rfl (ox_fieldAddr (pl rfl) D_143 rfl rfl D_41 (by decide)) ?_
  refine vcS_val rfl rfl (ox_load (pl rfl) D_41 (hp_keep hfree hd (by exact trivial)) (rd_143_2 _ rfl)) ?_
  refine vcS_val rfl rfl (ox_bin (pl rfl) (pl rfl) (bo_i64_eql _ _)) ?_
  refine vcS_nil ?_
  refine IW.cond rfl (fun hc1 => ?_) (fun hc1 => ?_)
  · have he0 : s.e = 0 := by simpa [rdr] using hc1
    refine IW.reg hE ?_
    refine vcS_val rfl rfl (ox_move (pl rfl)) ?_
    refine vcS_val rfl rfl (ox_move (pl rfl)) ?_
    refine vcS_val rfl rfl (ox_nilCheck (pl rfl)) ?_
    refine vcS_val rfl rfl (ox_fieldAddr (pl rfl) D_143 rfl rfl D_41 (by decide)) ?_
    refine vcS_sto rfl rfl (ox_store (pl rfl) (pl rfl) D_41 (hp_keep hfree hd (by exact trivial)) rfl rfl (Reader.le _ rfl) rfl (wr_143_2 _ _)) (.inr (by simp [Eff.ids])) ?_
    refine vcS_nil ?_
    refine IW.reg hE ?_
    refine vcS_val rfl rfl (ox_move (pl rfl)) ?_
    refine vcS_val rfl rfl (ox_move (pl rfl)) ?_
    refine vcS_val rfl rfl (ox_nilCheck (pl rfl)) ?_
    refine vcS_val rfl rfl (ox_fieldAddr (pl rfl) D_143 rfl rfl D_3 (by decide)) ?_
    refine vcS_sto rfl rfl (ox_store (pl rfl) (pl rfl) D_3 (hp_eq _ _ _ _) rfl rfl (Reader.le _ rfl) rfl (wr_143_1 _ _)) (.inr (by simp [Eff.ids])) ?_
    refine vcS_nil ?_
    refine IW.nil ?_
    exact RetP.upd1 (.inl rfl) rfl hid (is_some hd) ((hp_eq _ _ _ _).trans (by rw [failS, if_pos he0]; rfl)) (rdr_okN hib) (fun x hx => by simp at hx)
  · have he0 : s.e ≠ 0 := by simpa [rdr] using hc1
    refine IW.skip ?_
    refine IW.reg hE ?_
    refine vcS_val rfl rfl (ox_move (pl rfl)) ?_
    refine vcS_val rfl rfl (ox_move (pl rfl)) ?_
    refine vcS_val rfl rfl (ox_nilCheck (pl rfl)) ?_
    refine vcS_val rfl rfl (ox_fieldAddr (pl rfl) D_143 rfl rfl D_3 (by decide)) ?_
    refine vcS_sto rfl rfl (ox_store (pl rfl) (pl rfl) D_3 (hp_keep hfree hd (by exact trivial)) rfl rfl (Reader.le _ rfl) rfl (wr_143_1 _ _)) (.inr (by simp [Eff.ids])) ?_
    refine vcS_nil ?_
    refine IW.nil ?_
    exact RetP.upd1 (.inl rfl) rfl hid (is_some hd) ((hp_eq _ _ _ _).trans (by rw [failS, if_neg he0]; rfl)) (rdr_okN hib) (fun x hx => by simp at hx)
/-! to go on -/
def tkOk (l : List UInt8) (s : RS) (k : Nat) : Bool := decide (s.e = 0 ∧ s.at_ + k ≤ l.length)
def tkS (l : List UInt8) (s : RS) (k : Nat) : RS := if s.e = 0 then (if s.at_ + k ≤ l.length then ⟨s.at_ + k, 0⟩ else ⟨s.at_, 5⟩) else s
def tkL (l : List UInt8) (s : RS) (k : Nat) : List UInt8 := if tkOk l s k = true then (l.drop s.at_).take k else []
def tkV (ib : Nat) (l : List UInt8) (s : RS) (k : Nat) : Value := if tkOk l s k = true then .slice (some (slA ⟨ib, 0, none⟩ l.length 1 s.at_)) k (l.length - s.at_) else .slice none 0 0
theorem tkS_le {l : List UInt8} {s : RS} {k : Nat} (h : s.at_ ≤ l.length) : (tkS l s k).at_ ≤ l.length := by
  unfold tkS
  split
  · split
    · assumption
    · exact h
  · exact h
theorem tk_err {l : List UInt8} {s : RS} {k ib : Nat} (h : s.e ≠ 0) : tkOk l s k = false ∧ tkS l s k = s ∧ tkV ib l s k = .slice none 0 0 ∧ tkL l s k = [] := by
  have h1 : tkOk l s k = false := by simp [tkOk, h]
  exact ⟨h1, if_neg h, by simp [tkV, h1], by simp [tkL, h1]⟩
theorem tk_more {l : List UInt8} {s : RS} {k ib : Nat} (h : s.e = 0) (hk : l.length < s.at_ + k) : tkOk l s k = false ∧ tkS l s k = ⟨s.at_, 5⟩ ∧ tkV ib l s k = .slice none 0 0 ∧ tkL l s k = [] := by
  have h1 : tkOk l s k = false := by simp [tkOk]; omega
  refine ⟨h1, ?_, by simp [tkV, h1], by simp [tkL, h1]⟩
  unfold tkS
  rw [if_pos h, if_neg (by omega)]
theorem tk_ok {l : List UInt8} {s : RS} {k ib : Nat} (h : s.e = 0) (hk : s.at_ + k ≤ l.length) : tkOk l s k = true ∧ tkS l s k = ⟨s.at_ + k, 0⟩ ∧ tkV ib l s k = .slice (some (slA ⟨ib, 0, none⟩ l.length 1 s.at_)) k (l.length - s.at_) ∧ tkL l s k = (l.drop s.at_).take k := by
  have h1 : tkOk l s k = true := by simp [tkOk]; omega
  refine ⟨h1, ?_, by simp [tkV, h1], by simp [tkL, h1]⟩
  unfold tkS
  rw [if_pos h, if_pos hk]
theorem tk_rd {H : IHeap} {ib k : Nat} {l : List UInt8} {s : RS} (h : H ib = some (.cells (encs l) false)) : rdC H (tkV ib l s k) = some (tkL l s k) := by
  by_cases hok : tkOk l s k = true
  · have h2 := hok
    simp only [tkOk, decide_eq_true_eq] at h2
    obtain ⟨_, _, e1, e2⟩ := tk_ok (ib := ib) h2.1 h2.2
    rw [e1, e2]
    have := rdC_sl (α := UInt8) (a := ⟨ib, 0, none⟩) (l := s.at_) (h := s.at_ + k) (rdC_1all (cap := l.length) h rfl) (by omega) h2.2 (Nat.le_refl _)
    rw [Nat.add_sub_cancel_left, List.drop_take, Nat.add_sub_cancel_left] at this
    exact this
  · have h1 : tkOk l s k = false := by simpa using hok
    simp only [tkV, tkL, h1]; rfl
theorem tk_form {ib : Nat} {l : List UInt8} {s : RS} {k : Nat} : ∃ a c, tkV ib l s k = .slice a (tkL l s k).length c := by
  obtain ⟨a, c, e⟩ := rdC_len (tk_rd (H := fun i => if i = ib then some (.cells (encs l) false) else none) (ib := ib) (l := l) (s := s) (k := k) (by simp))
  exact ⟨a, c, e⟩
theorem tkV_okN {p : Nat → Prop} {ib : Nat} {l : List UInt8} {s : RS} {k : Nat} {b : Bool} (h : p ib) : okN p (.tuple #[tkV ib l s k, .bool b]) := by
  intro x hx
  simp only [List.mem_cons, List.not_mem_nil, or_false] at hx
  rcases hx with rfl | rfl
  · unfold tkV
    split
    · show p _
      unfold slA goOn
      split
      · exact h
      · split <;> exact h
    · trivial
  · trivial
noncomputable def F110 : FnI := fun args H n => match args with
  | [.pointer (some ⟨id, 0, none⟩), .int .i64 k] => (rdOf H id).bind fun x => if 0 ≤ k ∧ k ≤ 2 ^ 41 then some ⟨.tuple #[tkV x.1 x.2.1 x.2.2 k.toNat, .bool (tkOk x.2.1 x.2.2 k.toNat)], [(id, some (.cells (rdr x.1 x.2.1.length (tkS x.2.1 x.2.2 k.toNat)).cells false))], n⟩ else none
  | _ => none
theorem F110_inv {args : List Value} {H : IHeap} {n : Nat} {ef : Eff} (h : F110 args H n = some ef) : ∃ (id ib : Nat) (l : List UInt8) (s : RS) (k : Nat), args = [.pointer (some ⟨id, 0, none⟩), .int .i64 k] ∧ IsR H id ib l s ∧ k ≤ 2 ^ 41 ∧ ef = ⟨.tuple #[tkV ib l s k, .bool (tkOk l s k)], [(id, some (.cells (rdr ib l.length (tkS l s k)).cells false))], n⟩ := by
  unfold F110 at h; split at h
  · simp only [Option.bind_eq_some_iff] at h
    obtain ⟨x, hx, h⟩ := h
    split at h
    · rename_i id k hh; cases h
      exact ⟨_, x.1, x.2.1, x.2.2, k.toNat, by rw [Int.toNat_of_nonneg hh.1], rdOf_inv hx, by omega, rfl⟩
    · cases h
  · cases h
theorem F110_ev {H : IHeap} {n id ib : Nat} {l : List UInt8} {s : RS} {x : Int} (k : Nat) (h : IsR H id ib l s) (hx : x = k) (hk : k ≤ 2 ^ 41) : F110 [.pointer (some ⟨id, 0, none⟩), .int .i64 x] H n = some ⟨.tuple #[tkV ib l s k, .bool (tkOk l s k)], [(id, some (.cells (rdr ib l.length (tkS l s k)).cells false))], n⟩ := by
  subst hx
  simp only [F110, rdOf_some h, Option.bind_some]
  rw [if_pos (by omega)]
  simp only [Int.toNat_natCast]
-- (*headwater/octet.Reader).take ['?', 'Int'] -> ['Sl', 'Bool'], results [4, 5]
theorem R110 : Ref Try.prog 110 F110 := by
  refine Ref.of_iw dok Try.func110 rfl (by kernel_rfl) fun args H n e hF => ?_
  obtain ⟨id, ib, l, s, k, rfl, hR, hk, rfl⟩ := F110_inv hF
  refine ⟨Nat.le_of_ble_eq_true rfl, ?_⟩
  simp only [idxL]
  have hE : Env Try.prog [(95, F95), (99, F99), (112, F112)] D K := env (fnsOk_cons R95 (fnsOk_cons R99 (fnsOk_cons R112 fnsOk_nil)))
  refine IW.seq ?_
  have hd := hR.hd
  have hbs := hR.bs
  have hle := hR.le
  have hlim := hR.lim
  have hne := hR.ne
  refine IW.lt (by simp) hd (fun hid => ?_)
  refine IW.lt (by simp) hbs (fun hib => ?_)
  refine IW.free (by simp) (fun hfree => ?_)
  refine IW.reg hE ?_
  refine vcS_val rfl rfl (ox_assign (pl rfl)) ?_
  refine vcS_val rfl rfl (ox_assign (pl rfl)) ?_
  refine vcS_nil ?_
  refine IW.seq ?_
  refine IW.seq ?_
  refine IW.reg hE ?_
  refine vcS_val rfl rfl (ox_move (pl rfl)) ?_
  refine vcS_val rfl rfl (ox_fn rfl rfl (F95_ev hR)) ?_
  refine vcS_val rfl rfl (ox_bin (pl rfl) (pl rfl) (bo_i64_neq _ _)) ?_
  refine vcS_nil ?_
  refine IW.cond rfl (fun hc1 => ?_) (fun hc1 => ?_)
  · have he : s.e ≠ 0 := by simpa using hc1
    obtain ⟨t1, t2, t3, _⟩ := tk_err (l := l) (k := k) (ib := ib) he
    refine IW.seq ?_
    refine IW.reg hE ?_
    refine vcS_val rfl rfl (ox_assign (pl rfl)) ?_
    refine vcS_val rfl rfl (ox_assign (pl rfl)) ?_
    refine vcS_nil ?_
    refine IW.ret ?_
    rw [t1, t2, t3]; exact RetP.upd1 (.inr rfl) rfl hid (is_some hd) hd (rdr_okN hib) (by rw [← t3]; exact tkV_okN hib)
  · have he : s.e = 0 := by simpa using hc1
    refine IW.skip ?_
    refine IW.seq ?_
    refine IW.seq ?_
    refine IW.reg hE ?_
    refine vcS_val rfl rfl (ox_move (pl rfl)) ?_
    refine vcS_val rfl rfl (ox_move (pl rfl)) ?_
    refine vcS_val rfl rfl (ox_fn rfl rfl (F99_ev hR)) ?_
    refine vcS_val rfl rfl (ox_bin (pl rfl) (pl rfl) (bo_i64_gtr _ _)) ?_
    refine vcS_nil ?_
    refine IW.cond rfl (fun hc2 => ?_) (fun hc2 => ?_)
    · replace hc2 := of_decide_eq_true hc2
      obtain ⟨t1, t2, t3, _⟩ := tk_more (l := l) (k := k) (ib := ib) he (by omega)
      refine IW.seq ?_
      refine IW.reg hE ?_
      refine vcS_val rfl rfl (ox_move (pl rfl)) ?_
      refine vcS_val rfl rfl (ox_move (pl rfl)) ?_
      refine vcS_val rfl rfl (ox_nilCheck (pl rfl)) ?_
      refine vcS_val rfl rfl (ox_fieldAddr (pl rfl) D_143 rfl rfl D_3 (by decide)) ?_
      refine vcS_val rfl rfl (ox_load (pl rfl) D_3 (hp_keep hfree hd (by exact trivial)) (rd_143_1 _ rfl)) ?_
      refine vcS_ups rfl rfl (ox_fn rfl rfl (F112_ev s.at_ 5 hR rfl hle)) rfl ⟨.inr (by simp [Eff.ids]), trivial⟩ ?_
      refine vcS_nil ?_
      refine IW.seq ?_
      refine IW.reg hE ?_
      refine vcS_val rfl rfl (ox_assign (pl rfl)) ?_
      refine vcS_val rfl rfl (ox_assign (pl rfl)) ?_
      refine vcS_nil ?_
      refine IW.ret ?_
      rw [t1, t2, t3]; exact RetP.upd1 (.inr rfl) rfl hid (is_some hd) ((hp_eq _ _ _ _).trans (by rw [failS, if_pos he])) (rdr_okN hib) (by rw [← t3]; exact tkV_okN hib)
    · replace hc2 := of_decide_eq_false hc2
      have hkl : s.at_ + k ≤ l.length := by omega
      obtain ⟨t1, t2, t3, _⟩ := tk_ok (ib := ib) he hkl
      refine IW.skip ?_
      refine IW.seq ?_
      refine IW.drw hE mixed [[],[0],[0,1],[0,1,2],[],[4],[4,5],[4,5,6],[],[8],[8,9],[8,9,10],[],[8,9,10,11,12],[0,1,2,3,4,5,6,7,8,9,10,11,12,13],[0,1,2,3,4,5,6,7,8,9,10,11,12,13,14]] (by kernel_rfl) (vcE_start ?_)
      refine vcE_bl rfl rfl (fun _ => ox_move (pl rfl)) rfl rfl ?_
      refine vcE_bl rfl rfl (fun _ => ox_nilCheck (pl rfl)) rfl rfl ?_
      refine vcE_bl rfl rfl (fun _ => ox_fieldAddr (pl rfl) D_143 rfl rfl D_35 (by decide)) rfl rfl ?_
      refine vcE_val rfl rfl rfl rfl (ox_load (pl rfl) D_35 (hp_keep hfree hd (by exact trivial)) (rd_143_0 _ rfl)) rfl (si_load (pl rfl)) (lt1 (by omega)) (trivial) ?_
      refine vcE_bl rfl rfl (fun _ => ox_move (pl rfl)) rfl rfl ?_
      refine vcE_bl rfl rfl (fun _ => ox_nilCheck (pl rfl)) rfl rfl ?_
      refine vcE_bl rfl rfl (fun _ => ox_fieldAddr (pl rfl) D_143 rfl rfl D_3 (by decide)) rfl rfl ?_
      refine vcE_val rfl rfl rfl rfl (ox_load (pl rfl) D_3 (hp_keep hfree hd (by exact trivial)) (rd_143_1 _ rfl)) rfl (si_load (pl rfl)) (lt1 (by omega)) (trivial) ?_
      refine vcE_bl rfl rfl (fun _ => ox_move (pl rfl)) rfl rfl ?_
      refine vcE_bl rfl rfl (fun _ => ox_nilCheck (pl rfl)) rfl rfl ?_
      refine vcE_bl rfl rfl (fun _ => ox_fieldAddr (pl rfl) D_143 rfl rfl D_3 (by decide)) rfl rfl ?_
      refine vcE_val rfl rfl rfl rfl (ox_load (pl rfl) D_3 (hp_keep hfree hd (by exact trivial)) (rd_143_1 _ rfl)) rfl (si_load (pl rfl)) (lt1 (by omega)) (trivial) ?_
      refine vcE_bl rfl rfl (fun _ => ox_move (pl rfl)) rfl rfl ?_
      refine vcE_bl rfl rfl (fun _ => ox_bin (pl rfl) (pl rfl) (bo_i64_add (by simp only [rdr]; omega))) rfl rfl ?_
      refine vcE_bl rfl rfl (fun _ => (ox_sl (l := s.at_) (h := s.at_ + k) (pl rfl) D_35 rfl D_5 (bndI (pl rfl) rfl) (bndI (pl rfl) (by simp only [rdr]; omega)) (by omega) hkl (.inl rfl)).trans (by rw [Nat.add_sub_cancel_left])) rfl rfl ?_
      refine vcE_bl rfl rfl (fun _ => ox_assign (pl rfl)) rfl rfl ?_
      refine vcE_nil ?_
      refine IW.seq ?_
      refine IW.reg hE ?_
      refine vcS_val rfl rfl (ox_move (pl rfl)) ?_
      refine vcS_val rfl rfl (ox_nilCheck (pl rfl)) ?_
      refine vcS_val rfl rfl (ox_fieldAddr (pl rfl) D_143 rfl rfl D_3 (by decide)) ?_
      refine vcS_val rfl rfl (ox_load (pl rfl) D_3 (hp_keep hfree hd (by exact trivial)) (rd_143_1 _ rfl)) ?_
      refine vcS_val rfl rfl (ox_move (pl rfl)) ?_
      refine vcS_val rfl rfl (ox_bin (pl rfl) (pl rfl) (bo_i64_add (by simp only [rdr]; omega))) ?_
      refine vcS_val rfl rfl (ox_nilCheck (pl rfl)) ?_
      refine vcS_val rfl rfl (ox_fieldAddr (pl rfl) D_143 rfl rfl D_3 (by decide)) ?_
      refine vcS_sto rfl rfl (ox_store (pl rfl) (pl rfl) D_3 (hp_keep hfree hd (by exact trivial)) rfl rfl (Reader.le _ rfl) rfl (wr_143_1 _ _)) (.inr (by simp [Eff.ids])) ?_
      refine vcS_nil ?_
      refine IW.seq ?_
      refine IW.reg hE ?_
      refine vcS_val rfl rfl (ox_move (pl rfl)) ?_
      refine vcS_val rfl rfl (ox_assign (pl rfl)) ?_
      refine vcS_val rfl rfl (ox_assign (pl rfl)) ?_
      refine vcS_nil ?_
      refine IW.ret ?_
      rw [t1, t2, t3]; exact RetP.upd1 (.inr rfl) rfl hid (is_some hd) ((hp_eq _ _ _ _).trans (by simp only [rdr, he]; rfl)) (rdr_okN hib) (by rw [← t3]; exact tkV_okN hib)
noncomputable def F93 : FnI := fun args H n => match args with
  | [x] => (rdC H x).bind fun (b : List UInt8) => if b.length ≤ 2 ^ 40 then some ⟨.pointer (some ⟨n + 1, 0, none⟩), [(n, some (.cells (encs b) false)), (n + 1, some (.cells (rdr n b.length ⟨0, 0⟩).cells false))], n + 2⟩ else none
  | _ => none
theorem F93_inv {args : List Value} {H : IHeap} {n : Nat} {e : Eff} (h : F93 args H n = some e) : ∃ (x : Value) (b : List UInt8), args = [x] ∧ rdC H x = some b ∧ b.length ≤ 2 ^ 40 ∧ e = ⟨.pointer (some ⟨n + 1, 0, none⟩), [(n, some (.cells (encs b) false)), (n + 1, some (.cells (rdr n b.length ⟨0, 0⟩).cells false))], n + 2⟩ := by
  unfold F93 at h; split at h
  · simp only [Option.bind_eq_some_iff] at h
    obtain ⟨b, hb, h⟩ := h
    split at h
    · rename_i hh; cases h; exact ⟨_, b, rfl, hb, hh, rfl⟩
    · cases h
  · cases h
theorem F93_ev {x : Value} {H : IHeap} {n : Nat} {b : List UInt8} (hb : rdC H x = some b) (h : b.length ≤ 2 ^ 40) : F93 [x] H n = some ⟨.pointer (some ⟨n + 1, 0, none⟩), [(n, some (.cells (encs b) false)), (n + 1, some (.cells (rdr n b.length ⟨0, 0⟩).cells false))], n + 2⟩ := by
  simp only [F93, hb, Option.bind_some]
  rw [if_pos h]
-- headwater/octet.Read ['Sl'] -> ['?'], results [2]
theorem R93 : Ref Try.prog 93 F93 := by
  refine Ref.of_iw dok Try.func93 rfl (by kernel_rfl) fun args H n e hF => ?_
  obtain ⟨x, b, rfl, hB, hle, rfl⟩ := F93_inv hF
  refine ⟨Nat.le_of_ble_eq_true rfl, ?_⟩
  simp only [idxL]
  have hE : Env Try.prog [(100, F100)] D K := env (fnsOk_cons R100 fnsOk_nil)
  refine IW.seq ?_
  refine IW.free (by simp) (fun hfree => ?_)
  refine IW.reg hE ?_
  refine vcS_val rfl rfl (ox_assign (pl rfl)) ?_
  refine vcS_nil ?_
  refine IW.seq ?_
  refine IW.reg hE ?_
  refine vcS_val rfl rfl (ox_move (pl rfl)) ?_
  refine vcS_ups rfl rfl (ox_fn rfl rfl (F100_ev 0 (rdC_keep hfree hB (by exact trivial)) rfl (by omega))) rfl ⟨.inl (by omega), trivial⟩ ?_
  refine vcS_val rfl rfl (ox_buildZ D_143 (zero_143 D_143) rfl rfl (fill_cons (pl_mk rfl D_35) rfl rfl (Reader.le _ rfl) (wr_143_0 _ ⟨some ⟨n, 0, none⟩, b.length, b.length⟩) (fill_cons (pl_mk rfl D_4) rfl rfl (Reader.le _ rfl) (wr_143_3 _ true) fill_nil))) ?_
  refine vcS_new rfl rfl (ox_box (pl rfl) (cellsOf_Reader _)) (.inl (by omega)) ?_
  refine vcS_val rfl rfl (ox_assign (pl rfl)) ?_
  refine vcS_nil ?_
  refine IW.ret ?_
  refine RetP.news [n, n + 1] (cs := [encs b, (rdr n b.length ⟨0, 0⟩).cells]) (.inr rfl) (ires_tmp rfl) ?_ rfl rfl ⟨by omega, by omega, trivial⟩ (by simp) ⟨(hp_sk (by omega) (hp_eq _ _ _ _)).trans (by rw [buf_zero, plains_ren (by rw [← cels_one]; exact u8_plain _)]), (hp_eq _ _ _ _).trans ?_, trivial⟩ ?_ ?_
  · simp [ren, ren2, ren1, gL_at (m := n + 1) (n := n) (ms := [n, n + 1]) (Nat.le_succ _) (by simp)]
  · rw [rdr_ren (gL_at (m := n) (n := n) (ms := [n, n + 1]) (Nat.le_refl _) (by simp))]; rfl
  · intro c hc
    simp only [List.mem_cons, List.not_mem_nil, or_false] at hc
    rcases hc with rfl | rfl
    · exact u8_okN1 _
    · exact rdr_okN (by simp)
  · show n + 1 < _; simp
end Go.Proofs.Ytdnnojblneccdaa
/-
  The reader's words, numbers and bytes.
-/
namespace Go.Proofs.Ytdnnojblneccdaa
set_option linter.unusedSimpArgs false
set_option linter.unusedVariables false
open Go
open Enc (enc)
set_option maxRecDepth 100000
noncomputable def F97 : FnI := rdF fun _ _ _ s n => some ⟨.int .i64 ((if s.e = 4 then 4 else 5 : Nat) : Int), [], n⟩
theorem F97_ev {H : IHeap} {n id ib : Nat} {l : List UInt8} {s : RS} (h : IsR H id ib l s) : F97 [.pointer (some ⟨id, 0, none⟩)] H n = some ⟨.int .i64 ((if s.e = 4 then 4 else 5 : Nat) : Int), [], n⟩ := rdF_ev h rfl
-- headwater/record.fault ['?'] -> ['Int'], results [2]
theorem R97 : Ref Try.prog 97 F97 := by
  refine Ref.of_iw dok Try.func97 rfl (by kernel_rfl) fun args H n e hF => ?_
  obtain ⟨id, ib, l, s, rfl, hR, hF2⟩ := rdF_inv hF
  cases hF2
  refine ⟨Nat.le_of_ble_eq_true rfl, ?_⟩
  simp only [idxL]
  have hE : Env Try.prog [(95, F95)] D K := env (fnsOk_cons R95 fnsOk_nil)
  refine IW.seq ?_
  have hd := hR.hd
  have hbs := hR.bs
  have hle := hR.le
  have hlim := hR.lim
  have hne := hR.ne
  refine IW.lt (by simp) hd (fun hid => ?_)
  refine IW.lt (by simp) hbs (fun hib => ?_)
  refine IW.free (by simp) (fun hfree => ?_)
  refine IW.reg hE ?_
  refine vcS_val rfl rfl (ox_assign (pl rfl)) ?_
  refine vcS_nil ?_
  refine IW.seq ?_
  refine IW.seq ?_
  refine IW.reg hE ?_
  refine vcS_val rfl rfl (ox_move (pl rfl)) ?_
  refine vcS_val rfl rfl (ox_fn rfl rfl (F95_ev hR)) ?_
  refine vcS_val rfl rfl (ox_bin (pl rfl) (pl rfl) (bo_i64_eql _ _)) ?_
  refine vcS_nil ?_
  refine IW.cond rfl (fun hc1 => ?_) (fun hc1 => ?_)
  · have he : s.e = 4 := by
      have h : (s.e : Int) = 4 := by simpa using hc1
      omega
    refine IW.seq ?_
    refine IW.reg hE ?_
    refine vcS_val rfl rfl (ox_assign (pl rfl)) ?_
    refine vcS_nil ?_
    refine IW.ret ?_
    exact RetP.ret (.inr rfl) rfl rfl trivial (by rw [if_pos he]; rfl)
  · have he : ¬ s.e = 4 := by
      have h : ¬ (s.e : Int) = 4 := by simpa using hc1
      omega
    refine IW.skip ?_
    refine IW.seq ?_
    refine IW.reg hE ?_
    refine vcS_val rfl rfl (ox_assign (pl rfl)) ?_
    refine vcS_nil ?_
    refine IW.ret ?_
    exact RetP.ret (.inr rfl) rfl rfl trivial (by rw [if_neg he]; rfl)
theorem tkL_length {l : List UInt8} {s : RS} {k : Nat} : (tkL l s k).length ≤ k := by
  unfold tkL; split
  · rw [List.length_take]; omega
  · exact Nat.zero_le _
theorem tkL_len {l : List UInt8} {s : RS} {k : Nat} (h : tkOk l s k = true) : (tkL l s k).length = k := by
  have h2 := h
  simp only [tkOk, decide_eq_true_eq] at h2
  simp only [tkL, h, if_true, List.length_take, List.length_drop]; omega
theorem tk_adr {n ib k : Nat} {l : List UInt8} {s : RS} (h : ib < n) : adrId (tkV ib l s k) < n := by
  unfold tkV
  split
  · show (slA _ _ _ _).block < n
    unfold slA goOn
    split
    · exact h
    · split <;> exact h
  · show 0 < n
    omega
/-- a word out of bytes, the low one first -/
def wv (q : List UInt8) : Nat → UInt64
  | 0 => 0
  | i + 1 => wv q i ||| shl64 (q.getD i 0).toUInt64 (8 * i)
def wordV (q : List UInt8) : UInt64 := wv q q.length
noncomputable def F94 : FnI := fun args H n => match args with
  | [.pointer (some ⟨id, 0, none⟩), .int .i64 k] => (rdOf H id).bind fun x => if 1 ≤ k ∧ k ≤ 8 then some ⟨enc (wordV (tkL x.2.1 x.2.2 k.toNat)), [(id, some (.cells (rdr x.1 x.2.1.length (tkS x.2.1 x.2.2 k.toNat)).cells false))], n⟩ else none
  | _ => none
theorem F94_inv {args : List Value} {H : IHeap} {n : Nat} {ef : Eff} (h : F94 args H n = some ef) : ∃ (id ib : Nat) (l : List UInt8) (s : RS) (k : Nat), args = [.pointer (some ⟨id, 0, none⟩), .int .i64 k] ∧ IsR H id ib l s ∧ (1 ≤ k ∧ k ≤ 8) ∧ ef = ⟨enc (wordV (tkL l s k)), [(id, some (.cells (rdr ib l.length (tkS l s k)).cells false))], n⟩ := by
  unfold F94 at h; split at h
  · simp only [Option.bind_eq_some_iff] at h
    obtain ⟨x, hx, h⟩ := h
    split at h
    · rename_i id k hh; cases h
      exact ⟨_, x.1, x.2.1, x.2.2, k.toNat, by rw [Int.toNat_of_nonneg (by omega)], rdOf_inv hx, by omega, rfl⟩
    · cases h
  · cases h
theorem F94_ev {H : IHeap} {n id ib : Nat} {l : List UInt8} {s : RS} (k : Nat) (h : IsR H id ib l s) (hk : 1 ≤ k ∧ k ≤ 8) : F94 [.pointer (some ⟨id, 0, none⟩), .int .i64 (k : Int)] H n = some ⟨enc (wordV (tkL l s k)), [(id, some (.cells (rdr ib l.length (tkS l s k)).cells false))], n⟩ := by
  simp only [F94, rdOf_some h, Option.bind_some]
  rw [if_pos (by omega)]
  simp only [Int.toNat_natCast]
-- (*headwater/octet.Reader).Word ['?', 'Int'] -> ['UInt64'], results [4]
theorem R94 : Ref Try.prog 94 F94 := by
  refine Ref.of_iw dok Try.func94 rfl (by kernel_rfl) fun args H n e hF => ?_
  obtain ⟨id, ib, l, s, k, rfl, hR, hk, rfl⟩ := F94_inv hF
  refine ⟨Nat.le_of_ble_eq_true rfl, ?_⟩
  simp only [idxL]
  have hE : Env Try.prog [(101, F101), (110, F110)] D K := env (fnsOk_cons R101 (fnsOk_cons R110 fnsOk_nil))
  refine IW.seq ?_
  have hd := hR.hd
  have hbs := hR.bs
  have hle := hR.le
  have hlim := hR.lim
  have hne := hR.ne
  refine IW.lt (by simp) hd (fun hid => ?_)
  refine IW.lt (by simp) hbs (fun hib => ?_)
  refine IW.free (by simp) (fun hfree => ?_)
  refine IW.reg hE ?_
  refine vcS_val rfl rfl (ox_assign (pl (v := enc (0 : UInt64)) rfl)) ?_
  refine vcS_nil ?_
  refine IW.seq ?_
  refine IW.reg hE ?_
  refine vcS_val rfl rfl (ox_move (pl rfl)) ?_
  refine vcS_val rfl rfl (ox_move (pl rfl)) ?_
  refine vcS_val rfl rfl (ox_fn rfl rfl (F101_ev k (by omega))) ?_
  refine vcS_ups rfl rfl (ox_fn rfl rfl (F110_ev (s := s) k hR (by omega) (by omega))) rfl ⟨.inr (by simp [Eff.ids]), trivial⟩ ?_
  refine vcS_val rfl rfl (ox_move (pl rfl)) ?_
  refine vcS_val rfl rfl (ox_extract (pl rfl) rfl) ?_
  refine vcS_val rfl rfl (ox_extract (pl rfl) rfl) ?_
  refine vcS_val rfl rfl (ox_assign (pl rfl)) ?_
  refine vcS_val rfl rfl (ox_assign (pl rfl)) ?_
  refine vcS_nil ?_
  refine IW.seq ?_
  obtain ⟨qa, qc, hqv⟩ := tk_form (ib := ib) (l := l) (s := s) (k := k)
  have hq := tk_rd (H := hp H [(id, some (.cells (rdr ib l.length (tkS l s k)).cells false))]) (s := s) (k := k) (hp_sk hne hbs)
  rw [hqv]
  rw [hqv] at hq
  have hql := tkL_length (l := l) (s := s) (k := k)
  refine IW.reg hE ?_
  refine vcS_val rfl rfl (ox_assign (pl (v := enc (0 : UInt64)) rfl)) ?_
  refine vcS_nil ?_
  refine IW.seq ?_
  refine IW.seq ?_
  refine IW.reg hE ?_
  refine vcS_val rfl rfl (ox_move (pl rfl)) ?_
  refine vcS_val rfl rfl (ox_len (pl rfl) D_35 rfl) ?_
  refine vcS_val rfl rfl (ox_move (pl rfl)) ?_
  refine vcS_nil ?_
  refine IW.block ?_
  refine IW.loop (S := Nat) (fun i => [(7, enc (wv (tkL l s k) i)), (17, .slice qa (tkL l s k).length qc), (18, .int .i64 (tkL l s k).length), (19, .int .i64 i)]) (fun i => [(id, some (.cells (rdr ib l.length (tkS l s k)).cells false))]) (fun i => n) (fun i => i ≤ (tkL l s k).length) (fun i => (tkL l s k).length - i) (0) (Nat.zero_le _) (⟨rfl, ⟨rfl, ⟨rfl, ⟨rfl, trivial⟩⟩⟩⟩) (fun _ _ h => h) (Nat.le_refl _) (fun i hi => ?_)
  refine IW.seq ?_
  refine IW.reg hE ?_
  refine vcS_val rfl rfl (ox_bin (pl rfl) (pl rfl) (bo_i64_lss _ _)) ?_
  refine vcS_nil ?_
  refine IW.seq ?_
  refine IW.cond rfl (fun hc1 => ?_) (fun hc1 => ?_)
  · replace hc1 := of_decide_eq_true hc1
    have hi2 : i < (tkL l s k).length := by omega
    refine IW.skip ?_
    refine IW.seq ?_
    refine IW.block ?_
    refine IW.seq ?_
    refine IW.reg hE ?_
    refine vcS_val rfl rfl (ox_move (pl rfl)) ?_
    refine vcS_val rfl rfl (ox_iaC (α := UInt8) (v := .slice qa (tkL l s k).length qc) i (pl rfl) (pl rfl) D_35 rfl D_5 rfl hq rfl hi2) ?_
    refine vcS_val rfl rfl (ox_ldC (v := .slice qa (tkL l s k).length qc) i (0 : UInt8) (pl rfl) D_5 rfl hq hi2) ?_
    refine vcS_val rfl rfl (ox_assign (pl rfl)) ?_
    refine vcS_val rfl rfl (ox_assign (pl rfl)) ?_
    refine vcS_nil ?_
    refine IW.reg hE ?_
    refine vcS_val rfl rfl (ox_move (pl rfl)) ?_
    refine vcS_val rfl rfl (ox_move (pl rfl)) ?_
    refine vcS_val rfl rfl (cv_8_6 (pl rfl) D_5 D_22 rfl) ?_
    refine vcS_val rfl rfl (ox_move (pl rfl)) ?_
    refine vcS_val rfl rfl (ox_bin (pl rfl) (pl rfl) (bo_i64_mul (by omega))) ?_
    refine vcS_val rfl rfl (ox_bin (pl rfl) (pl rfl) (bo_u64_shlN _ (8 * i) (by omega))) ?_
    refine vcS_val rfl rfl (ox_bin (pl rfl) (pl rfl) (bo_u64_or _ _)) ?_
    refine vcS_val rfl rfl (ox_assign (pl rfl)) ?_
    refine vcS_nil ?_
    refine IW.nilB ?_
    refine IW.reg hE ?_
    refine vcS_val rfl rfl (ox_bin (pl rfl) (pl rfl) (bo_i64_add (by omega))) ?_
    refine vcS_val rfl rfl (ox_move (pl rfl)) ?_
    refine vcS_nil ?_
    refine IW.nilS ?_
    exact ⟨i + 1, _, _, by omega, by omega, rfl, ⟨rfl, ⟨rfl, ⟨rfl, ⟨rfl, trivial⟩⟩⟩⟩, rfl, fun _ _ h => h, Nat.le_refl _⟩
  · replace hc1 := of_decide_eq_false hc1
    have hie : i = (tkL l s k).length := by omega
    subst hie
    refine IW.exit ?_
    refine exS (exS ?_)
    refine blkQ_exit ?_
    refine IW.seq ?_
    refine IW.reg hE ?_
    refine vcS_val rfl rfl (ox_move (pl rfl)) ?_
    refine vcS_val rfl rfl (ox_assign (pl rfl)) ?_
    refine vcS_nil ?_
    refine IW.ret ?_
    exact RetP.upd1 (.inr rfl) (ires_tmp rfl) hid (is_some hd) (hp_eq _ _ _ _) (rdr_okN hib) trivial
/-! numbers -/
theorem len8_8 (x : UInt8) : (len8 x).toNat ≤ 8 := by
  have h : ∀ y ∈ lenT, y.toNat ≤ 8 := by decide
  unfold len8
  rw [List.getD_eq_getElem?_getD, List.getElem?_eq_getElem (by rw [lenT_length]; exact x.toNat_lt)]
  exact h _ (List.getElem_mem _)
def kN (h : UInt8) : Nat := 9 - (len8 (~~~h)).toNat
theorem kN_rng (h : UInt8) : 1 ≤ kN h ∧ kN h ≤ 9 := by have := len8_8 (~~~h); unfold kN; omega
def nv (x : UInt64) (q : List UInt8) : Nat → UInt64
  | 0 => x
  | i + 1 => shl64 (nv x q i) 8 ||| (q.getD i 0).toUInt64
def hd1 (l : List UInt8) (s : RS) : UInt8 := (tkL l s 1).getD 0 0
def st1 (l : List UInt8) (s : RS) : RS := tkS l s 1
def rs1 (l : List UInt8) (s : RS) : List UInt8 := tkL l (st1 l s) (kN (hd1 l s) - 1)
def ok2 (l : List UInt8) (s : RS) : Bool := tkOk l (st1 l s) (kN (hd1 l s) - 1)
def xV (l : List UInt8) (s : RS) : UInt64 := nv (hd1 l s &&& shr8 255 (kN (hd1 l s))).toUInt64 (rs1 l s) (rs1 l s).length
def numOk (l : List UInt8) (s : RS) : Bool := tkOk l s 1 && (ok2 l s && decide (sizeV (xV l s) = kN (hd1 l s)))
def numV (l : List UInt8) (s : RS) : UInt64 := if numOk l s = true then xV l s else 0
def numS (l : List UInt8) (s : RS) : RS := if tkOk l s 1 = true then (if ok2 l s = true then (if sizeV (xV l s) = kN (hd1 l s) then tkS l (st1 l s) (kN (hd1 l s) - 1) else ⟨s.at_, 4⟩) else ⟨s.at_, 5⟩) else st1 l s
noncomputable def F96 : FnI := rdF fun id ib l s n => some ⟨enc (numV l s), [(id, some (.cells (rdr ib l.length (numS l s)).cells false))], n⟩
theorem F96_ev {H : IHeap} {n id ib : Nat} {l : List UInt8} {s : RS} (h : IsR H id ib l s) : F96 [.pointer (some ⟨id, 0, none⟩)] H n = some ⟨enc (numV l s), [(id, some (.cells (rdr ib l.length (numS l s)).cells false))], n⟩ := rdF_ev h rfl
theorem ok_st {l : List UInt8} {s : RS} {k : Nat} (h : tkOk l s k = true) : s.e = 0 ∧ s.at_ + k ≤ l.length ∧ tkS l s k = ⟨s.at_ + k, 0⟩ := by
  have h2 := h
  simp only [tkOk, decide_eq_true_eq] at h2
  exact ⟨h2.1, h2.2, (tk_ok (ib := 0) h2.1 h2.2).2.1⟩
theorem more_st {l : List UInt8} {s : RS} {k : Nat} (h : tkOk l s k = false) (he : s.e = 0) : tkS l s k = ⟨s.at_, 5⟩ := by
  have h2 : ¬ (s.e = 0 ∧ s.at_ + k ≤ l.length) := by simpa [tkOk] using h
  exact (tk_more (ib := 0) he (by omega)).2.1
-- (*headwater/octet.Reader).Number ['?'] -> ['UInt64'], results [2]
theorem R96 : Ref Try.prog 96 F96 := by
  refine Ref.of_iw dok Try.func96 rfl (by kernel_rfl) fun args H n e hF => ?_
  obtain ⟨id, ib, l, s, rfl, hR, hF2⟩ := rdF_inv hF
  cases hF2
  refine ⟨Nat.le_of_ble_eq_true rfl, ?_⟩
  simp only [idxL]
  have hE : Env Try.prog [(110, F110), (111, F111), (112, F112), (113, F113)] D K := env (fnsOk_cons R110 (fnsOk_cons R111 (fnsOk_cons R112 (fnsOk_cons R113 fnsOk_nil))))
  refine IW.seq ?_
  have hd := hR.hd
  have hbs := hR.bs
  have hle := hR.le
  have hlim := hR.lim
  have hne := hR.ne
  refine IW.lt (by simp) hd (fun hid => ?_)
  refine IW.lt (by simp) hbs (fun hib => ?_)
  refine IW.free (by simp) (fun hfree => ?_)
  refine IW.reg hE ?_
  refine vcS_val rfl rfl (ox_assign (pl (v := enc (0 : UInt64)) rfl)) ?_
  refine vcS_nil ?_
  refine IW.seq ?_
  refine IW.reg hE ?_
  refine vcS_val rfl rfl (ox_move (pl rfl)) ?_
  refine vcS_ups rfl rfl (ox_fn rfl rfl (F110_ev (s := s) 1 hR rfl (by decide))) rfl ⟨.inr (by simp [Eff.ids]), trivial⟩ ?_
  refine vcS_val rfl rfl (ox_move (pl rfl)) ?_
  refine vcS_val rfl rfl (ox_extract (pl rfl) rfl) ?_
  refine vcS_val rfl rfl (ox_extract (pl rfl) rfl) ?_
  refine vcS_val rfl rfl (ox_assign (pl rfl)) ?_
  refine vcS_val rfl rfl (ox_assign (pl rfl)) ?_
  refine vcS_nil ?_
  refine IW.seq ?_
  refine IW.seq ?_
  obtain ⟨qa, qc, hqv⟩ := tk_form (ib := ib) (l := l) (s := s) (k := 1)
  have hq := tk_rd (H := hp H [(id, some (.cells (rdr ib l.length (st1 l s)).cells false))]) (s := s) (k := 1) (hp_sk hne hbs)
  rw [hqv]
  rw [hqv] at hq
  refine IW.reg hE ?_
  refine vcS_val rfl rfl (ox_move (pl rfl)) ?_
  refine vcS_val rfl rfl (ox_un (pl rfl) (uo_not _)) ?_
  refine vcS_nil ?_
  refine IW.cond rfl (fun hc1 => ?_) (fun hc1 => ?_)
  · have ho : tkOk l s 1 = false := by simpa using hc1
    refine IW.seq ?_
    refine IW.reg hE ?_
    refine vcS_val rfl rfl (ox_assign (pl (v := enc (0 : UInt64)) rfl)) ?_
    refine vcS_nil ?_
    refine IW.ret ?_
    have e1 : numV l s = 0 := by unfold numV numOk; rw [ho]; rfl
    have e2 : numS l s = st1 l s := by unfold numS; rw [ho]; rfl
    rw [e1, e2]; exact RetP.upd1 (.inr rfl) (ires_tmp rfl) hid (is_some hd) (hp_eq _ _ _ _) (rdr_okN hib) trivial
  · have ho : tkOk l s 1 = true := by simpa using hc1
    obtain ⟨o1, o2, o3⟩ := ok_st ho
    have hs1 : (st1 l s).at_ = s.at_ + 1 := by unfold st1; rw [o3]
    have hs1e : (st1 l s).e = 0 := by unfold st1; rw [o3]
    have hs1t : (tkS l s 1).at_ = s.at_ + 1 := hs1
    have hkv := kN_rng (hd1 l s)
    have hl8t := len8_8 (~~~((tkL l s 1).getD 0 0))
    have hl8 := len8_8 (~~~(hd1 l s))
    have hq0 : 0 < (tkL l s 1).length := by rw [tkL_len ho]; decide
    have hR1 : IsR (hp H [(id, some (.cells (rdr ib l.length (st1 l s)).cells false))]) id ib l (st1 l s) := IsR.set hR (tkS_le hle)
    have hR2 : IsR (hp H [(id, some (.cells (rdr ib l.length (tkS l (st1 l s) (kN (hd1 l s) - 1))).cells false)), (id, some (.cells (rdr ib l.length (st1 l s)).cells false))]) id ib l (tkS l (st1 l s) (kN (hd1 l s) - 1)) := IsR.set hR1 (tkS_le hR1.le)
    have hq2 : rdC (hp H [(id, some (.cells (rdr ib l.length (tkS l (st1 l s) (kN (hd1 l s) - 1))).cells false)), (id, some (.cells (rdr ib l.length (st1 l s)).cells false))]) (.slice qa (tkL l s 1).length qc) = some (tkL l s 1) := by rw [← hqv]; exact tk_rd hR2.bs
    refine IW.skip ?_
    refine IW.seq ?_
    refine IW.reg hE ?_
    refine vcS_val rfl rfl (ox_move (pl rfl)) ?_
    refine vcS_val rfl rfl (ox_nilCheck (pl rfl)) ?_
    refine vcS_val rfl rfl (ox_fieldAddr (pl rfl) D_143 rfl rfl D_3 (by decide)) ?_
    refine vcS_val rfl rfl (ox_load (pl rfl) D_3 (hp_eq _ _ _ _) (rd_143_1 _ rfl)) ?_
    refine vcS_val rfl rfl (ox_bin (pl rfl) (pl rfl) ((bo_i64_sub (by simp only [rdr]; omega)).trans (congrArg (fun z => some (Value.int .i64 z)) (show ((st1 l s).at_ : Int) - 1 = ((s.at_ : Nat) : Int) by omega)))) ?_
    refine vcS_val rfl rfl (ox_assign (pl rfl)) ?_
    refine vcS_nil ?_
    refine IW.seq ?_
    refine IW.reg hE ?_
    refine vcS_val rfl rfl (ox_move (pl rfl)) ?_
    refine vcS_val rfl rfl (ox_iaC (α := UInt8) (v := .slice qa (tkL l s 1).length qc) 0 (pl rfl) (pl rfl) D_35 rfl D_5 rfl hq rfl hq0) ?_
    refine vcS_val rfl rfl (ox_ldC (v := .slice qa (tkL l s 1).length qc) 0 (0 : UInt8) (pl rfl) D_5 rfl hq hq0) ?_
    refine vcS_val rfl rfl (ox_un (pl rfl) (uo_u8_xor _)) ?_
    refine vcS_val rfl rfl (ox_fn rfl rfl (fn1_ev _ _ _ _)) ?_
    refine vcS_val rfl rfl (ox_bin (pl rfl) (pl rfl) ((bo_i64_add (by omega)).trans (congrArg (fun z => some (Value.int .i64 z)) (show (1 : Int) + (8 - ((len8 (~~~(hd1 l s))).toNat : Int)) = ((kN (hd1 l s) : Nat) : Int) by unfold kN; omega)))) ?_
    refine vcS_val rfl rfl (ox_assign (pl rfl)) ?_
    refine vcS_nil ?_
    refine IW.seq ?_
    refine IW.reg hE ?_
    refine vcS_val rfl rfl (ox_move (pl rfl)) ?_
    refine vcS_val rfl rfl (ox_move (pl rfl)) ?_
    refine vcS_val rfl rfl (ox_bin (pl rfl) (pl rfl) (bo_i64_sub (by omega))) ?_
    refine vcS_ups rfl rfl (ox_fn rfl rfl (F110_ev (s := st1 l s) (kN (hd1 l s) - 1) hR1 (by omega) (by omega))) rfl ⟨.inr (by simp [Eff.ids]), trivial⟩ ?_
    refine vcS_val rfl rfl (ox_move (pl rfl)) ?_
    refine vcS_val rfl rfl (ox_extract (pl rfl) rfl) ?_
    refine vcS_val rfl rfl (ox_extract (pl rfl) rfl) ?_
    refine vcS_val rfl rfl (ox_assign (pl rfl)) ?_
    refine vcS_val rfl rfl (ox_assign (pl rfl)) ?_
    refine vcS_nil ?_
    refine IW.seq ?_
    refine IW.seq ?_
    obtain ⟨ra, rc, hrv⟩ := tk_form (ib := ib) (l := l) (s := st1 l s) (k := kN (hd1 l s) - 1)
    have hr := tk_rd (H := hp H [(id, some (.cells (rdr ib l.length (tkS l (st1 l s) (kN (hd1 l s) - 1))).cells false)), (id, some (.cells (rdr ib l.length (st1 l s)).cells false))]) (s := st1 l s) (k := kN (hd1 l s) - 1) (hp_sk hne (hp_sk hne hbs))
    rw [hrv]
    rw [hrv] at hr
    have hrl : (rs1 l s).length ≤ kN (hd1 l s) - 1 := tkL_length
    refine IW.reg hE ?_
    refine vcS_val rfl rfl (ox_move (pl rfl)) ?_
    refine vcS_val rfl rfl (ox_un (pl rfl) (uo_not _)) ?_
    refine vcS_nil ?_
    refine IW.cond rfl (fun hc2 => ?_) (fun hc2 => ?_)
    · have ho2 : ok2 l s = false := by show tkOk _ _ _ = false; simpa using hc2
      refine IW.seq ?_
      refine IW.reg hE ?_
      refine vcS_val rfl rfl (ox_move (pl rfl)) ?_
      refine vcS_val rfl rfl (ox_move (pl rfl)) ?_
      refine vcS_ups rfl rfl (ox_fn rfl rfl (F112_ev (s := tkS l (st1 l s) (kN (hd1 l s) - 1)) s.at_ 5 hR2 rfl hle)) rfl ⟨.inr (by simp [Eff.ids]), trivial⟩ ?_
      refine vcS_nil ?_
      refine IW.seq ?_
      refine IW.reg hE ?_
      refine vcS_val rfl rfl (ox_assign (pl (v := enc (0 : UInt64)) rfl)) ?_
      refine vcS_nil ?_
      refine IW.ret ?_
      have e1 : numV l s = 0 := by unfold numV numOk; rw [ho, ho2]; rfl
      have e2 : numS l s = ⟨s.at_, 5⟩ := by unfold numS; rw [ho, ho2]; rfl
      have e3 := more_st ho2 hs1e
      rw [e1, e2]; exact RetP.upd1 (.inr rfl) (ires_tmp rfl) hid (is_some hd) ((hp_eq _ _ _ _).trans (by rw [e3]; rfl)) (rdr_okN hib) trivial
    · have ho2 : ok2 l s = true := by show tkOk _ _ _ = true; simpa using hc2
      have hqa : adrId (.slice qa (tkL l s 1).length qc) < n := by rw [← hqv]; exact tk_adr hib
      refine IW.skip ?_
      refine IW.seq ?_
      refine IW.drw hE mixed [[],[0],[0,1],[],[3],[0,1,2,3,4],[0,1,2,3,4,5],[0,1,2,3,4,5,6]] (by kernel_rfl) (vcE_start ?_)
      refine vcE_bl rfl rfl (fun _ => ox_move (pl rfl)) rfl rfl ?_
      refine vcE_bl rfl rfl (fun _ => ox_iaC2 (α := UInt8) (v := .slice qa (tkL l s 1).length qc) 0 (pl rfl) (pl rfl) D_35 rfl D_5 rfl hq2 rfl hq0) rfl rfl ?_
      refine vcE_val rfl rfl rfl rfl (ox_ldC (v := .slice qa (tkL l s 1).length qc) 0 (0 : UInt8) (pl rfl) D_5 rfl hq2 hq0) rfl (si_load (pl rfl)) (lt1 (by omega)) (trivial) ?_
      refine vcE_bl rfl rfl (fun _ => ox_move (pl rfl)) rfl rfl ?_
      refine vcE_bl rfl rfl (fun _ => ox_bin (pl (v := enc (255 : UInt8)) rfl) (pl rfl) (bo_u8_shrN 255 (kN (hd1 l s)) rfl)) rfl rfl ?_
      refine vcE_bl rfl rfl (fun _ => ox_bin (pl rfl) (pl rfl) (bo_u8_and _ _)) rfl rfl ?_
      refine vcE_bl rfl rfl (fun _ => cv_8_6 (pl rfl) D_5 D_22 rfl) rfl rfl ?_
      refine vcE_bl rfl rfl (fun _ => ox_assign (pl rfl)) rfl rfl ?_
      refine vcE_nil ?_
      refine IW.seq ?_
      refine IW.seq ?_
      refine IW.reg hE ?_
      refine vcS_val rfl rfl (ox_move (pl rfl)) ?_
      refine vcS_val rfl rfl (ox_len (pl rfl) D_35 rfl) ?_
      refine vcS_val rfl rfl (ox_move (pl rfl)) ?_
      refine vcS_nil ?_
      refine IW.block ?_
      refine IW.loop (S := Nat) (fun i => [(0, .pointer (some ⟨id, 0, none⟩)), (5, .int .i64 s.at_), (6, .int .i64 (kN (hd1 l s))), (8, enc (nv (hd1 l s &&& shr8 255 (kN (hd1 l s))).toUInt64 (rs1 l s) i)), (48, .slice ra (rs1 l s).length rc), (49, .int .i64 (rs1 l s).length), (50, .int .i64 i)]) (fun i => [(id, some (.cells (rdr ib l.length (tkS l (st1 l s) (kN (hd1 l s) - 1))).cells false)), (id, some (.cells (rdr ib l.length (st1 l s)).cells false))]) (fun i => n) (fun i => i ≤ (rs1 l s).length) (fun i => (rs1 l s).length - i) (0) (Nat.zero_le _) (⟨rfl, ⟨rfl, ⟨rfl, ⟨rfl, ⟨rfl, ⟨rfl, ⟨rfl, trivial⟩⟩⟩⟩⟩⟩⟩) (fun _ _ h => h) (Nat.le_refl _) (fun i hi => ?_)
      refine IW.seq ?_
      refine IW.reg hE ?_
      refine vcS_val rfl rfl (ox_bin (pl rfl) (pl rfl) (bo_i64_lss _ _)) ?_
      refine vcS_nil ?_
      refine IW.seq ?_
      refine IW.cond rfl (fun hc3 => ?_) (fun hc3 => ?_)
      · replace hc3 := of_decide_eq_true hc3
        have hi2 : i < (rs1 l s).length := by omega
        refine IW.skip ?_
        refine IW.seq ?_
        refine IW.block ?_
        refine IW.seq ?_
        refine IW.reg hE ?_
        refine vcS_val rfl rfl (ox_iaC (α := UInt8) (v := .slice ra (rs1 l s).length rc) i (pl rfl) (pl rfl) D_35 rfl D_5 rfl hr rfl hi2) ?_
        refine vcS_val rfl rfl (ox_ldC (v := .slice ra (rs1 l s).length rc) i (0 : UInt8) (pl rfl) D_5 rfl hr hi2) ?_
        refine vcS_val rfl rfl (ox_assign (pl rfl)) ?_
        refine vcS_nil ?_
        refine IW.reg hE ?_
        refine vcS_val rfl rfl (ox_move (pl rfl)) ?_
        refine vcS_val rfl rfl (ox_bin (pl rfl) (pl (v := enc (8 : UInt64)) rfl) (bo_u64_shlN _ 8 rfl)) ?_
        refine vcS_val rfl rfl (ox_move (pl rfl)) ?_
        refine vcS_val rfl rfl (cv_8_6 (pl rfl) D_5 D_22 rfl) ?_
        refine vcS_val rfl rfl (ox_bin (pl rfl) (pl rfl) (bo_u64_or _ _)) ?_
        refine vcS_val rfl rfl (ox_assign (pl rfl)) ?_
        refine vcS_nil ?_
        refine IW.nilB ?_
        refine IW.reg hE ?_
        refine vcS_val rfl rfl (ox_bin (pl rfl) (pl rfl) (bo_i64_add (by omega))) ?_
        refine vcS_val rfl rfl (ox_move (pl rfl)) ?_
        refine vcS_nil ?_
        refine IW.nilS ?_
        exact ⟨i + 1, _, _, by omega, by omega, rfl, ⟨rfl, ⟨rfl, ⟨rfl, ⟨rfl, ⟨rfl, ⟨rfl, ⟨rfl, trivial⟩⟩⟩⟩⟩⟩⟩, rfl, fun _ _ h => h, Nat.le_refl _⟩
      · replace hc3 := of_decide_eq_false hc3
        have hie : i = (rs1 l s).length := by omega
        subst hie
        refine IW.exit ?_
        refine exS (exS ?_)
        refine blkQ_exit ?_
        refine IW.seq ?_
        refine IW.seq ?_
        refine IW.reg hE ?_
        refine vcS_val rfl rfl (ox_move (pl rfl)) ?_
        refine vcS_val rfl rfl (ox_fn rfl rfl (fn1_ev _ _ _ _)) ?_
        refine vcS_val rfl rfl (ox_move (pl rfl)) ?_
        refine vcS_val rfl rfl (ox_bin (pl rfl) (pl rfl) (bo_i64_neq _ _)) ?_
        refine vcS_nil ?_
        refine IW.cond rfl (fun hc4 => ?_) (fun hc4 => ?_)
        · have hsz : ¬ sizeV (xV l s) = kN (hd1 l s) := fun e => bne_iff_ne.1 hc4 (congrArg Int.ofNat e)
          refine IW.seq ?_
          refine IW.reg hE ?_
          refine vcS_val rfl rfl (ox_move (pl rfl)) ?_
          refine vcS_val rfl rfl (ox_move (pl rfl)) ?_
          refine vcS_ups rfl rfl (ox_fn rfl rfl (F112_ev (s := tkS l (st1 l s) (kN (hd1 l s) - 1)) s.at_ 4 hR2 rfl hle)) rfl ⟨.inr (by simp [Eff.ids]), trivial⟩ ?_
          refine vcS_nil ?_
          refine IW.seq ?_
          refine IW.reg hE ?_
          refine vcS_val rfl rfl (ox_assign (pl (v := enc (0 : UInt64)) rfl)) ?_
          refine vcS_nil ?_
          refine IW.ret ?_
          have e1 : numV l s = 0 := by unfold numV numOk; rw [ho, ho2, decide_eq_false hsz]; rfl
          have e2 : numS l s = ⟨s.at_, 4⟩ := by unfold numS; rw [if_pos ho, if_pos ho2, if_neg hsz]
          have e3 := (ok_st ho2).2.2
          rw [e1, e2]; exact RetP.upd1 (.inr rfl) (ires_tmp rfl) hid (is_some hd) ((hp_eq _ _ _ _).trans (by rw [e3]; rfl)) (rdr_okN hib) trivial
        · have hsz : sizeV (xV l s) = kN (hd1 l s) := Int.ofNat.inj (bne_eq_false_iff_eq.1 hc4)
          refine IW.skip ?_
          refine IW.seq ?_
          refine IW.reg hE ?_
          refine vcS_val rfl rfl (ox_move (pl rfl)) ?_
          refine vcS_val rfl rfl (ox_assign (pl rfl)) ?_
          refine vcS_nil ?_
          refine IW.ret ?_
          have e1 : numV l s = xV l s := by unfold numV numOk; rw [ho, ho2, decide_eq_true hsz]; rfl
          have e2 : numS l s = tkS l (st1 l s) (kN (hd1 l s) - 1) := by unfold numS; rw [if_pos ho, if_pos ho2, if_pos hsz]
          rw [e1, e2]; exact RetP.upd1 (.inr rfl) (ires_tmp rfl) hid (is_some hd) (hp_eq _ _ _ _) (rdr_okN hib) trivial
/-! bytes -/
noncomputable def F98 : FnI := fun args H n => match args with
  | [.pointer (some ⟨id, 0, none⟩), .int .i64 k] => (rdOf H id).bind fun x => if 0 ≤ k ∧ k ≤ 2 ^ 41 then (if tkOk x.2.1 x.2.2 k.toNat = true then
      some ⟨.slice (some ⟨n, 0, none⟩) (tkL x.2.1 x.2.2 k.toNat).length (tkL x.2.1 x.2.2 k.toNat).length, [(id, some (.cells (rdr x.1 x.2.1.length (tkS x.2.1 x.2.2 k.toNat)).cells false)), (n, some (.cells (encs (tkL x.2.1 x.2.2 k.toNat)) false))], n + 1⟩
      else some ⟨.slice none 0 0, [(id, some (.cells (rdr x.1 x.2.1.length (tkS x.2.1 x.2.2 k.toNat)).cells false))], n⟩) else none
  | _ => none
theorem F98_inv {args : List Value} {H : IHeap} {n : Nat} {ef : Eff} (h : F98 args H n = some ef) : ∃ (id ib : Nat) (l : List UInt8) (s : RS) (k : Nat), args = [.pointer (some ⟨id, 0, none⟩), .int .i64 k] ∧ IsR H id ib l s ∧ k ≤ 2 ^ 41 ∧
    (tkOk l s k = true → ef = ⟨.slice (some ⟨n, 0, none⟩) (tkL l s k).length (tkL l s k).length, [(id, some (.cells (rdr ib l.length (tkS l s k)).cells false)), (n, some (.cells (encs (tkL l s k)) false))], n + 1⟩) ∧
    (tkOk l s k = false → ef = ⟨.slice none 0 0, [(id, some (.cells (rdr ib l.length (tkS l s k)).cells false))], n⟩) := by
  unfold F98 at h; split at h
  · simp only [Option.bind_eq_some_iff] at h
    obtain ⟨x, hx, h⟩ := h
    split at h
    · rename_i id k hh
      refine ⟨_, x.1, x.2.1, x.2.2, k.toNat, by rw [Int.toNat_of_nonneg hh.1], rdOf_inv hx, by omega, fun hok => ?_, fun hok => ?_⟩
      · rw [if_pos hok] at h; exact (Option.some.inj h).symm
      · rw [if_neg (by rw [hok]; simp)] at h; exact (Option.some.inj h).symm
    · cases h
  · cases h
theorem F98_ok {H : IHeap} {n id ib : Nat} {l : List UInt8} {s : RS} {x : Int} (k : Nat) (h : IsR H id ib l s) (hx : x = k) (hk : k ≤ 2 ^ 41) (hok : tkOk l s k = true) : F98 [.pointer (some ⟨id, 0, none⟩), .int .i64 x] H n = some ⟨.slice (some ⟨n, 0, none⟩) (tkL l s k).length (tkL l s k).length, [(id, some (.cells (rdr ib l.length (tkS l s k)).cells false)), (n, some (.cells (encs (tkL l s k)) false))], n + 1⟩ := by
  subst hx
  simp only [F98, rdOf_some h, Option.bind_some]
  rw [if_pos (by omega)]
  simp only [Int.toNat_natCast]
  rw [if_pos hok]
theorem F98_no {H : IHeap} {n id ib : Nat} {l : List UInt8} {s : RS} {x : Int} (k : Nat) (h : IsR H id ib l s) (hx : x = k) (hk : k ≤ 2 ^ 41) (hok : tkOk l s k = false) : F98 [.pointer (some ⟨id, 0, none⟩), .int .i64 x] H n = some ⟨.slice none 0 0, [(id, some (.cells (rdr ib l.length (tkS l s k)).cells false))], n⟩ := by
  subst hx
  simp only [F98, rdOf_some h, Option.bind_some]
  rw [if_pos (by omega)]
  simp only [Int.toNat_natCast]
  rw [if_neg (by rw [hok]; simp)]
-- (*headwater/octet.Reader).Take ['?', 'Int'] -> ['Sl'], results [4]
theorem R98 : Ref Try.prog 98 F98 := by
  refine Ref.of_iw dok Try.func98 rfl (by kernel_rfl) fun args H n e hF => ?_
  obtain ⟨id, ib, l, s, k, rfl, hR, hk, h1, h2⟩ := F98_inv hF
  refine ⟨Nat.le_of_ble_eq_true rfl, ?_⟩
  simp only [idxL]
  have hE : Env Try.prog [(100, F100), (110, F110)] D K := env (fnsOk_cons R100 (fnsOk_cons R110 fnsOk_nil))
  refine IW.seq ?_
  cases ho : tkOk l s k
  · cases h2 ho
    have hd := hR.hd
    have hbs := hR.bs
    have hle := hR.le
    have hlim := hR.lim
    have hne := hR.ne
    refine IW.lt (by simp) hd (fun hid => ?_)
    refine IW.lt (by simp) hbs (fun hib => ?_)
    refine IW.free (by simp) (fun hfree => ?_)
    refine IW.reg hE ?_
    refine vcS_val rfl rfl (ox_assign (pl rfl)) ?_
    refine vcS_nil ?_
    refine IW.seq ?_
    refine IW.reg hE ?_
    refine vcS_val rfl rfl (ox_move (pl rfl)) ?_
    refine vcS_val rfl rfl (ox_move (pl rfl)) ?_
    refine vcS_val rfl rfl ((ox_maxM 0 k (pl rfl) (pl rfl) rfl rfl).trans (by rw [Nat.zero_max])) ?_
    refine vcS_ups rfl rfl (ox_fn rfl rfl (F110_ev (s := s) k hR rfl hk)) rfl ⟨.inr (by simp [Eff.ids]), trivial⟩ ?_
    refine vcS_val rfl rfl (ox_move (pl rfl)) ?_
    refine vcS_val rfl rfl (ox_extract (pl rfl) rfl) ?_
    refine vcS_val rfl rfl (ox_extract (pl rfl) rfl) ?_
    refine vcS_val rfl rfl (ox_assign (pl rfl)) ?_
    refine vcS_val rfl rfl (ox_assign (pl rfl)) ?_
    refine vcS_nil ?_
    refine IW.seq ?_
    refine IW.seq ?_
    refine IW.reg hE ?_
    refine vcS_val rfl rfl (ox_move (pl rfl)) ?_
    refine vcS_val rfl rfl (ox_un (pl rfl) (uo_not _)) ?_
    refine vcS_nil ?_
    refine IW.cond rfl (fun hc1 => ?_) (fun hc1 => ?_)
    · refine IW.seq ?_
      refine IW.reg hE ?_
      refine vcS_val rfl rfl (ox_assign (pl rfl)) ?_
      refine vcS_nil ?_
      refine IW.ret ?_
      exact RetP.upd1 (.inr rfl) (ires_tmp rfl) hid (is_some hd) (hp_eq _ _ _ _) (rdr_okN hib) trivial
    · exact absurd (show tkOk l s k = true by simpa using hc1) (by rw [ho]; simp)
  · cases h1 ho
    have hd := hR.hd
    have hbs := hR.bs
    have hle := hR.le
    have hlim := hR.lim
    have hne := hR.ne
    refine IW.lt (by simp) hd (fun hid => ?_)
    refine IW.lt (by simp) hbs (fun hib => ?_)
    refine IW.free (by simp) (fun hfree => ?_)
    refine IW.reg hE ?_
    refine vcS_val rfl rfl (ox_assign (pl rfl)) ?_
    refine vcS_nil ?_
    refine IW.seq ?_
    refine IW.reg hE ?_
    refine vcS_val rfl rfl (ox_move (pl rfl)) ?_
    refine vcS_val rfl rfl (ox_move (pl rfl)) ?_
    refine vcS_val rfl rfl ((ox_maxM 0 k (pl rfl) (pl rfl) rfl rfl).trans (by rw [Nat.zero_max])) ?_
    refine vcS_ups rfl rfl (ox_fn rfl rfl (F110_ev (s := s) k hR rfl hk)) rfl ⟨.inr (by simp [Eff.ids]), trivial⟩ ?_
    refine vcS_val rfl rfl (ox_move (pl rfl)) ?_
    refine vcS_val rfl rfl (ox_extract (pl rfl) rfl) ?_
    refine vcS_val rfl rfl (ox_extract (pl rfl) rfl) ?_
    refine vcS_val rfl rfl (ox_assign (pl rfl)) ?_
    refine vcS_val rfl rfl (ox_assign (pl rfl)) ?_
    refine vcS_nil ?_
    refine IW.seq ?_
    refine IW.seq ?_
    obtain ⟨qa, qc, hqv⟩ := tk_form (ib := ib) (l := l) (s := s) (k := k)
    have hq := tk_rd (H := hp H [(id, some (.cells (rdr ib l.length (tkS l s k)).cells false))]) (s := s) (k := k) (hp_sk hne hbs)
    rw [hqv]
    rw [hqv] at hq
    have hql := tkL_length (l := l) (s := s) (k := k)
    refine IW.reg hE ?_
    refine vcS_val rfl rfl (ox_move (pl rfl)) ?_
    refine vcS_val rfl rfl (ox_un (pl rfl) (uo_not _)) ?_
    refine vcS_nil ?_
    refine IW.cond rfl (fun hc2 => ?_) (fun hc2 => ?_)
    · exact absurd (show tkOk l s k = false by simpa using hc2) (by rw [ho]; simp)
    · refine IW.skip ?_
      refine IW.seq ?_
      refine IW.reg hE ?_
      refine vcS_val rfl rfl (ox_move (pl rfl)) ?_
      refine vcS_ups rfl rfl (ox_fn rfl rfl (F100_ev 0 hq rfl (by omega))) rfl ⟨.inl (by omega), trivial⟩ ?_
      refine vcS_val rfl rfl (ox_assign (pl rfl)) ?_
      refine vcS_nil ?_
      refine IW.ret ?_
      exact RetP.upnew [n] (cs := [encs (tkL l s k)]) (.inr rfl) (ires_tmp rfl) (by simp [ren, ren2, ren1, gL_at (m := n) (n := n) (ms := [n]) (Nat.le_refl _) (by simp)]) rfl rfl ⟨by omega, trivial⟩ (by simp) ⟨(hp_eq _ _ _ _).trans (by rw [buf_zero, plains_ren (by rw [← cels_one]; exact u8_plain _)]), trivial⟩ (fun c hc => by simp only [List.mem_cons, List.not_mem_nil, or_false] at hc; subst hc; exact u8_okN1 _) (by show n < _; simp) hid (is_some hd) (hp_sk (by omega) (hp_eq _ _ _ _)) (rdr_okN hib)
end Go.Proofs.Ytdnnojblneccdaa
/-
  Records: bytes, sums, sameness.
-/
namespace Go.Proofs.Ytdnnojblneccdaa
set_option linter.unusedSimpArgs false
set_option linter.unusedVariables false
open Go
open Enc (enc)
set_option maxRecDepth 100000
theorem srcArg_k {α : Type} [Row1 α] {D : Ty} {H : IHeap} {t2 el2 k : Nat} {d2 de : TD} {x : Value} {l : List α} (hd : D t2 = some d2) (hk : d2.k = .slice el2) (hs : de.size = Row.sz α) (h : rdC H x = some l) (hl : l.length = k) : srcArg D H t2 de x = some (k, encs l) := by
  subst hl; exact srcArg_1 hd hk hs h
def chk (k : UInt8) (len : Nat) : Nat := if (decide (k < 1) || decide ((8192 : Int) < len)) = true then 2 else 0
noncomputable def F48 : FnI := fn1 fun (r : Record) => .int .i64 ((chk r.kind r.data.len : Nat) : Int)
-- headwater/record.Check ['Record'] -> ['Int'], results [2]
theorem R48 : Ref Try.prog 48 F48 := by
  refine Ref.of_iw dok Try.func48 rfl (by kernel_rfl) fun args H n e hF => ?_
  obtain ⟨a, rfl, rfl⟩ := fn1_inv hF
  refine ⟨Nat.le_of_ble_eq_true rfl, ?_⟩
  simp only [idxL]
  have hE : Env Try.prog [] D K := env fnsOk_nil
  refine IW.seq ?_
  refine IW.reg hE ?_
  refine vcS_new rfl rfl (ox_box (pl rfl) (cellsOf_Record _)) (.inl (by omega)) ?_
  refine vcS_val rfl rfl (ox_assign (pl rfl)) ?_
  refine vcS_nil ?_
  refine IW.seq ?_
  refine IW.seq ?_
  refine IW.reg hE ?_
  refine vcS_val rfl rfl (ox_fieldAddr (pl rfl) D_69 rfl rfl D_5 (by decide)) ?_
  refine vcS_val rfl rfl (ox_load (pl rfl) D_5 (hp_eq _ _ _ _) (rd_69_0 _ rfl)) ?_
  refine vcS_val rfl rfl (ox_bin (pl rfl) (pl (v := enc (1 : UInt8)) rfl) (bo_u8_lss _ _)) ?_
  refine vcS_val rfl rfl (ox_move (pl rfl)) ?_
  refine vcS_opt rfl (wgF rfl rfl rfl) (fun hb => ox_fieldAddr (pl rfl) D_69 rfl rfl D_35 (by decide)) ?_
  refine vcS_opt rfl (wgF rfl rfl rfl) (fun hb => ox_load (gd hb rfl) D_35 (hp_eq _ _ _ _) (rd_69_1 _ rfl)) ?_
  refine vcS_opt rfl (wgF rfl rfl rfl) (fun hb => ox_len (gd hb rfl) D_35 rfl) ?_
  refine vcS_opt rfl (wgF rfl rfl rfl) (fun hb => ox_bin (gd hb rfl) (pl rfl) (bo_i64_gtr _ _)) ?_
  refine vcS_val rfl rfl (ox_or (pl rfl) (pl rfl) (fun hc => gd (by rw [hc]; rfl) rfl)) ?_
  refine vcS_nil ?_
  refine IW.cond rfl (fun hc1 => ?_) (fun hc1 => ?_)
  · refine IW.seq ?_
    refine IW.reg hE ?_
    refine vcS_val rfl rfl (ox_assign (pl rfl)) ?_
    refine vcS_nil ?_
    refine IW.ret ?_
    exact RetP.ret (.inr rfl) rfl rfl trivial (by rw [chk, if_pos hc1]; rfl)
  · refine IW.skip ?_
    refine IW.seq ?_
    refine IW.reg hE ?_
    refine vcS_val rfl rfl (ox_assign (pl rfl)) ?_
    refine vcS_nil ?_
    refine IW.ret ?_
    exact RetP.ret (.inr rfl) rfl rfl trivial (by rw [chk, if_neg (by rw [hc1]; simp)]; rfl)
theorem rec_len {H : IHeap} {r : Record} {d : List UInt8} (h : rdC H (enc r.data) = some d) : r.data.len = d.length := by
  obtain ⟨a, cap, e⟩ := rdC_len h
  have e : Value.slice r.data.a r.data.len r.data.cap = Value.slice a d.length cap := e
  simp only [Value.slice.injEq] at e
  exact e.2.1
/-- a contract of two records -/
noncomputable def recF2 (f : UInt8 → List UInt8 → UInt8 → List UInt8 → Value) : FnI := fun args H n => match args with
  | [x, y] => (dec x).bind fun (a : Record) => (dec y).bind fun (b : Record) => (rdC H (enc a.data)).bind fun (c : List UInt8) => (rdC H (enc b.data)).bind fun (d : List UInt8) => some ⟨f a.kind c b.kind d, [], n⟩
  | _ => none
theorem recF2_inv {f : UInt8 → List UInt8 → UInt8 → List UInt8 → Value} {args : List Value} {H : IHeap} {n : Nat} {e : Eff} (h : recF2 f args H n = some e) : ∃ (a b : Record) (c d : List UInt8), args = [enc a, enc b] ∧ rdC H (enc a.data) = some c ∧ rdC H (enc b.data) = some d ∧ e = ⟨f a.kind c b.kind d, [], n⟩ := by
  unfold recF2 at h; split at h
  · simp only [Option.bind_eq_some_iff] at h
    obtain ⟨a, ha, b, hb, c, hc, d, hd, h⟩ := h
    cases h
    exact ⟨a, b, c, d, by rw [dec_some ha, dec_some hb], hc, hd, rfl⟩
  · cases h
theorem recF2_ev {f : UInt8 → List UInt8 → UInt8 → List UInt8 → Value} {H : IHeap} {n : Nat} {a b : Record} {c d : List UInt8} (hc : rdC H (enc a.data) = some c) (hd : rdC H (enc b.data) = some d) : recF2 f [enc a, enc b] H n = some ⟨f a.kind c b.kind d, [], n⟩ := by
  simp only [recF2, dec_enc, Option.bind_some, hc, hd]
noncomputable def F51 : FnI := recF2 fun k c j d => .bool ((k == j) && (c == d))
-- headwater/headwaterkit.Record ['Record', 'Record'] -> ['Bool'], results [4]
theorem R51 : Ref Try.prog 51 F51 := by
  refine Ref.of_iw dok Try.func51 rfl (by kernel_rfl) fun args H n e hF => ?_
  obtain ⟨a, b, c, d, rfl, hA, hB, rfl⟩ := recF2_inv hF
  refine ⟨Nat.le_of_ble_eq_true rfl, ?_⟩
  simp only [idxL]
  have hE : Env Try.prog [] D K := env fnsOk_nil
  refine IW.seq ?_
  refine IW.blk (by simp) hA (fun hlta => ?_)
  refine IW.blk (by simp) hB (fun hltb => ?_)
  refine IW.free (by simp) (fun hfree => ?_)
  refine IW.reg hE ?_
  refine vcS_new rfl rfl (ox_box (pl rfl) (cellsOf_Record _)) (.inl (by omega)) ?_
  refine vcS_new rfl rfl (ox_box (pl rfl) (cellsOf_Record _)) (.inl (by omega)) ?_
  refine vcS_val rfl rfl (ox_assign (pl rfl)) ?_
  refine vcS_nil ?_
  refine IW.seq ?_
  refine IW.reg hE ?_
  refine vcS_val rfl rfl (ox_fieldAddr (pl rfl) D_69 rfl rfl D_5 (by decide)) ?_
  refine vcS_val rfl rfl (ox_load (pl rfl) D_5 (hp_sk (by omega) (hp_eq _ _ _ _)) (rd_69_0 _ rfl)) ?_
  refine vcS_val rfl rfl (ox_fieldAddr (pl rfl) D_69 rfl rfl D_5 (by decide)) ?_
  refine vcS_val rfl rfl (ox_load (pl rfl) D_5 (hp_eq _ _ _ _) (rd_69_0 _ rfl)) ?_
  refine vcS_val rfl rfl (ox_bin (pl rfl) (pl rfl) (bo_u8_eql _ _)) ?_
  refine vcS_val rfl rfl (ox_move (pl rfl)) ?_
  refine vcS_opt rfl (wgT rfl rfl rfl) (fun hb => ox_fieldAddr (pl rfl) D_69 rfl rfl D_35 (by decide)) ?_
  refine vcS_opt rfl (wgT rfl rfl rfl) (fun hb => ox_load (gd hb rfl) D_35 (hp_sk (by omega) (hp_eq _ _ _ _)) (rd_69_1 _ rfl)) ?_
  refine vcS_opt rfl (wgT rfl rfl rfl) (fun hb => ox_cvS (gd hb rfl) D_35 rfl D_5 rfl D_9 rfl (rdC_keep hfree hA (by exact ⟨by omega, ⟨by omega, trivial⟩⟩))) ?_
  refine vcS_opt rfl (wgT rfl rfl rfl) (fun hb => ox_fieldAddr (pl rfl) D_69 rfl rfl D_35 (by decide)) ?_
  refine vcS_opt rfl (wgT rfl rfl rfl) (fun hb => ox_load (gd hb rfl) D_35 (hp_eq _ _ _ _) (rd_69_1 _ rfl)) ?_
  refine vcS_opt rfl (wgT rfl rfl rfl) (fun hb => ox_cvS (gd hb rfl) D_35 rfl D_5 rfl D_9 rfl (rdC_keep hfree hB (by exact ⟨by omega, ⟨by omega, trivial⟩⟩))) ?_
  refine vcS_opt rfl (wgT rfl rfl rfl) (fun hb => ox_bin (gd hb rfl) (gd hb rfl) (bo_str_eql _ _)) ?_
  refine vcS_val rfl rfl (ox_and (pl rfl) (fun hc => gd hc rfl) (pl rfl)) ?_
  refine vcS_val rfl rfl (ox_assign (pl rfl)) ?_
  refine vcS_nil ?_
  refine IW.ret ?_
  exact RetP.ret (.inr rfl) rfl rfl trivial (rfl)
def bodyL (k : UInt8) (d : List UInt8) : List UInt8 := blkL [k] d
theorem sizeV_small (w : UInt64) : sizeV w ≤ 9 := (sizeV_rng w).2
theorem bodyL_length (k : UInt8) (d : List UInt8) : (bodyL k d).length = 1 + sizeV (UInt64.ofNat d.length) + d.length := blkL_length [k] d
/-- a contract of one record -/
noncomputable def recF (f : UInt8 → List UInt8 → Nat → Option Eff) : FnI := fun args H n => match args with
  | [x] => (dec x).bind fun (a : Record) => (rdC H (enc a.data)).bind fun (c : List UInt8) => if c.length ≤ 2 ^ 39 then f a.kind c n else none
  | _ => none
theorem recF_inv {f : UInt8 → List UInt8 → Nat → Option Eff} {args : List Value} {H : IHeap} {n : Nat} {e : Eff} (h : recF f args H n = some e) : ∃ (a : Record) (c : List UInt8), args = [enc a] ∧ rdC H (enc a.data) = some c ∧ c.length ≤ 2 ^ 39 ∧ f a.kind c n = some e := by
  unfold recF at h; split at h
  · simp only [Option.bind_eq_some_iff] at h
    obtain ⟨a, ha, c, hc, h⟩ := h
    split at h
    · exact ⟨a, c, by rw [dec_some ha], hc, by assumption, h⟩
    · cases h
  · cases h
theorem recF_ev {f : UInt8 → List UInt8 → Nat → Option Eff} {H : IHeap} {n : Nat} {a : Record} {c : List UInt8} {e : Eff} (hc : rdC H (enc a.data) = some c) (hl : c.length ≤ 2 ^ 39) (he : f a.kind c n = some e) : recF f [enc a] H n = some e := by
  simp only [recF, dec_enc, Option.bind_some, hc]
  rw [if_pos hl]; exact he
noncomputable def F76 : FnI := recF fun k d n => some ⟨.slice (some ⟨n, 0, fsp d.length⟩) (bodyL k d).length (bodyL k d).length, [(n, some (.cells (encs (bodyL k d)) false))], n + 1⟩
-- headwater/record.body ['Record'] -> ['Sl'], results [2]
theorem R76 : Ref Try.prog 76 F76 := by
  refine Ref.of_iw dok Try.func76 rfl (by kernel_rfl) fun args H n e hF => ?_
  obtain ⟨a, d, rfl, hD, hle, hF2⟩ := recF_inv hF
  cases hF2
  refine ⟨Nat.le_of_ble_eq_true rfl, ?_⟩
  simp only [idxL]
  have hE : Env Try.prog [(92, F92)] D K := env (fnsOk_cons R92 fnsOk_nil)
  refine IW.seq ?_
  refine IW.free (by simp) (fun hfree => ?_)
  refine IW.reg hE ?_
  refine vcS_new rfl rfl (ox_box (pl rfl) (cellsOf_Record _)) (.inl (by omega)) ?_
  refine vcS_val rfl rfl (ox_assign (pl rfl)) ?_
  refine vcS_nil ?_
  refine IW.seq ?_
  refine IW.reg hE ?_
  refine vcS_val rfl rfl (ox_fieldAddr (pl rfl) D_69 rfl rfl D_5 (by decide)) ?_
  refine vcS_val rfl rfl (ox_load (pl rfl) D_5 (hp_eq _ _ _ _) (rd_69_0 _ rfl)) ?_
  refine vcS_new rfl rfl (ox_bsl (cs := encs [a.kind]) D_35 rfl D_5 (Nat.le_of_ble_eq_true rfl) rfl rfl) (.inl (by omega)) ?_
  refine vcS_val rfl rfl (ox_fieldAddr (pl rfl) D_69 rfl rfl D_35 (by decide)) ?_
  refine vcS_val rfl rfl (ox_load (pl rfl) D_35 (hp_sk (by omega) (hp_eq _ _ _ _)) (rd_69_1 _ rfl)) ?_
  refine vcS_ups rfl rfl (ox_fn rfl rfl (F92_ev (b := [a.kind]) (rdC_1all (hp_eq _ _ _ _) rfl) (rdC_keep hfree hD (by exact ⟨by omega, ⟨by omega, trivial⟩⟩)) (by show 1 + _ ≤ _; omega))) rfl ⟨.inl (by omega), trivial⟩ ?_
  refine vcS_val rfl rfl (ox_assign (pl rfl)) ?_
  refine vcS_nil ?_
  refine IW.ret ?_
  exact RetP.new1 (.inr rfl) (ires_tmp rfl) (by omega) (hp_eq _ _ _ _) (by rw [← cels_one]; exact u8_plain _)
theorem F76_ev0 {H : IHeap} {n : Nat} {a : Record} {d : List UInt8} (hc : rdC H (enc a.data) = some d) (hl : d.length ≤ 2 ^ 39) (h0 : d.length = 0) : F76 [enc a] H n = some ⟨.slice (some ⟨n, 0, none⟩) (bodyL a.kind d).length (bodyL a.kind d).length, [(n, some (.cells (encs (bodyL a.kind d)) false))], n + 1⟩ := by
  have hfs : fsp d.length = none := if_pos h0
  rw [← hfs]; exact recF_ev hc hl rfl
theorem F76_ev1 {H : IHeap} {n : Nat} {a : Record} {d : List UInt8} (hc : rdC H (enc a.data) = some d) (hl : d.length ≤ 2 ^ 39) (h0 : ¬ d.length = 0) : F76 [enc a] H n = some ⟨.slice (some ⟨n, 0, some 1⟩) (bodyL a.kind d).length (bodyL a.kind d).length, [(n, some (.cells (encs (bodyL a.kind d)) false))], n + 1⟩ := by
  have hfs : fsp d.length = some 1 := if_neg h0
  rw [← hfs]; exact recF_ev hc hl rfl
noncomputable def F54 : FnI := recF fun k d n => some ⟨.int .i64 ((if chk k d.length = 0 then (bodyL k d).length + 8 else 0 : Nat) : Int), [], n⟩
-- headwater/record.Size ['Record'] -> ['Int'], results [2]
theorem R54 : Ref Try.prog 54 F54 := by
  refine Ref.of_iw dok Try.func54 rfl (by kernel_rfl) fun args H n e hF => ?_
  obtain ⟨a, d, rfl, hD, hle, hF2⟩ := recF_inv hF
  cases hF2
  have hrl := rec_len hD
  have hbl := bodyL_length a.kind d
  have hsz := sizeV_small (UInt64.ofNat d.length)
  refine ⟨Nat.le_of_ble_eq_true rfl, ?_⟩
  simp only [idxL]
  have hE : Env Try.prog [(48, F48), (76, F76)] D K := env (fnsOk_cons R48 (fnsOk_cons R76 fnsOk_nil))
  refine IW.seq ?_
  refine IW.free (by simp) (fun hfree => ?_)
  refine IW.reg hE ?_
  refine vcS_new rfl rfl (ox_box (pl rfl) (cellsOf_Record _)) (.inl (by omega)) ?_
  refine vcS_val rfl rfl (ox_assign (pl rfl)) ?_
  refine vcS_nil ?_
  refine IW.seq ?_
  refine IW.seq ?_
  refine IW.reg hE ?_
  refine vcS_val rfl rfl (ox_load (pl rfl) D_69 (hp_eq _ _ _ _) (rd_69 _ rfl rfl)) ?_
  refine vcS_val rfl rfl (ox_fn rfl rfl (fn1_ev _ _ _ _)) ?_
  refine vcS_val rfl rfl (ox_bin (pl rfl) (pl rfl) (bo_i64_neq _ _)) ?_
  refine vcS_nil ?_
  refine IW.cond rfl (fun hc1 => ?_) (fun hc1 => ?_)
  · have h0 : ¬ chk a.kind d.length = 0 := fun e => bne_iff_ne.1 hc1 (by rw [hrl, e]; rfl)
    refine IW.seq ?_
    refine IW.reg hE ?_
    refine vcS_val rfl rfl (ox_assign (pl rfl)) ?_
    refine vcS_nil ?_
    refine IW.ret ?_
    exact RetP.ret (.inr rfl) rfl rfl trivial (by rw [if_neg h0]; rfl)
  · have h0 : chk a.kind d.length = 0 := by rw [← hrl]; exact Int.ofNat.inj (bne_eq_false_iff_eq.1 hc1)
    refine IW.skip ?_
    refine IW.seq ?_
    refine IW.reg hE ?_
    refine vcS_val rfl rfl (ox_load (pl rfl) D_69 (hp_eq _ _ _ _) (rd_69 _ rfl rfl)) ?_
    refine vcS_ups rfl rfl (ox_fn rfl rfl (recF_ev (rdC_keep hfree hD (by exact ⟨by omega, trivial⟩)) hle rfl)) rfl ⟨.inl (by omega), trivial⟩ ?_
    refine vcS_val rfl rfl (ox_len (pl rfl) D_35 rfl) ?_
    refine vcS_val rfl rfl (ox_bin (pl rfl) (pl rfl) (bo_i64_add (by omega))) ?_
    refine vcS_val rfl rfl (ox_assign (pl rfl)) ?_
    refine vcS_nil ?_
    refine IW.ret ?_
    exact RetP.ret (.inr rfl) rfl rfl trivial (by rw [if_pos h0]; rfl)
def nextV (c : Dig) (k : UInt8) (d : List UInt8) : Dig := digV (c.toList ++ bodyL k d)
/-- a contract of a chain and a record -/
noncomputable def recFc (f : Dig → UInt8 → List UInt8 → Nat → Option Eff) : FnI := fun args H n => match args with
  | [w, x] => (dec w).bind fun (w : Dig) => recF (f w) [x] H n
  | _ => none
theorem recFc_inv {f : Dig → UInt8 → List UInt8 → Nat → Option Eff} {args : List Value} {H : IHeap} {n : Nat} {e : Eff} (h : recFc f args H n = some e) : ∃ (w : Dig) (a : Record) (c : List UInt8), args = [enc w, enc a] ∧ rdC H (enc a.data) = some c ∧ c.length ≤ 2 ^ 39 ∧ f w a.kind c n = some e := by
  unfold recFc at h; split at h
  · simp only [Option.bind_eq_some_iff] at h
    obtain ⟨w, hw, h⟩ := h
    obtain ⟨a, c, h1, h2, h3, h4⟩ := recF_inv h
    cases h1
    exact ⟨w, a, c, by rw [dec_some hw], h2, h3, h4⟩
  · cases h
theorem recFc_ev {f : Dig → UInt8 → List UInt8 → Nat → Option Eff} {H : IHeap} {n : Nat} {w : Dig} {a : Record} {c : List UInt8} {e : Eff} (hc : rdC H (enc a.data) = some c) (hl : c.length ≤ 2 ^ 39) (he : f w a.kind c n = some e) : recFc f [enc w, enc a] H n = some e := by
  simp only [recFc, dec_enc, Option.bind_some]
  exact recF_ev hc hl he
noncomputable def F52 : FnI := recFc fun c k d n => some ⟨enc (nextV c k d), [], n⟩
-- headwater/record.Next ['Vector UInt8 32', 'Record'] -> ['Vector UInt8 32'], results [[4, 24]]
theorem R52 : Ref Try.prog 52 F52 := by
  refine Ref.of_iw dok Try.func52 rfl (by kernel_rfl) fun args H n e hF => ?_
  obtain ⟨c, a, d, rfl, hD, hle, hF2⟩ := recFc_inv hF
  cases hF2
  have hbl := bodyL_length a.kind d
  have hsz := sizeV_small (UInt64.ofNat d.length)
  refine ⟨Nat.le_of_ble_eq_true rfl, ?_⟩
  simp only [idxL]
  have hE : Env Try.prog [(38, F38), (76, F76)] D K := env (fnsOk_cons R38 (fnsOk_cons R76 fnsOk_nil))
  refine IW.seq ?_
  refine IW.free (by simp) (fun hfree => ?_)
  refine IW.reg hE ?_
  refine vcS_new rfl rfl (ox_box (pl rfl) rfl) (.inl (by omega)) ?_
  refine vcS_new rfl rfl (ox_box (pl rfl) (cellsOf_Record _)) (.inl (by omega)) ?_
  refine vcS_new rfl rfl (ox_allocZ (cs := encs (Vector.replicate 32 (0 : UInt8)).toList) D_24 rfl) (.inl (by omega)) ?_
  refine vcS_nil ?_
  refine IW.seq ?_
  refine IW.drw hE mixed [[],[],[1],[0,1,2],[0,1,2,3],[0,1,2,3,4]] (by kernel_rfl) (vcE_start ?_)
  refine vcE_bl rfl rfl (fun _ => ox_slAll (pl rfl) D_24 rfl D_5) rfl rfl ?_
  refine vcE_val rfl rfl rfl rfl (ox_load (pl rfl) D_69 (hp_sk (by omega) (hp_eq _ _ _ _)) (rd_69 _ rfl rfl)) rfl (si_load (pl rfl)) (lt1 (by omega)) (trivial) ?_
  refine vcE_callN rfl rfl rfl rfl (ox_fn rfl rfl (recF_ev (rdC_keep hfree hD (by exact ⟨by omega, ⟨by omega, ⟨by omega, trivial⟩⟩⟩)) hle rfl)) rfl ltu0 ⟨⟨.inl (by omega), by omega, by omega⟩, trivial⟩ (by omega) (trivial) ?_
  refine vcE_new rfl rfl (fun _ => ox_bsl (cs := cels [(⟨some ⟨n, 0, none⟩, 32, 32⟩ : Sl), (⟨some ⟨n + 1 + 1 + 1, 0, fsp d.length⟩, (bodyL a.kind d).length, (bodyL a.kind d).length⟩ : Sl)]) D_94 rfl D_35 (Nat.le_of_ble_eq_true rfl) rfl rfl) rfl rfl (.inl (by omega)) ?_
  refine vcE_call rfl rfl rfl rfl (ox_fn rfl rfl (ev38_2 (l1 := c.toList) (l2 := bodyL a.kind d) (l := c.toList ++ bodyL a.kind d) (rdC_all (hp_eq _ _ _ _) rfl) (rdC_1all (hp_sk (by omega) (hp_sk (by omega) (hp_sk (by omega) (hp_sk (by omega) (hp_eq _ _ _ _))))) (by simp)) (rdC_1all (hp_sk (by omega) (hp_eq _ _ _ _)) rfl) (by simp) (by simp; omega))) rfl (ltuc (by omega) (ltuc (by omega) ltu0)) (⟨trivial, ⟨trivial, trivial⟩⟩) ?_
  refine vcE_sto rfl rfl rfl rfl (ox_store (pl rfl) (pl rfl) D_24 (hp_sk (by omega) (hp_sk (by omega) (hp_eq _ _ _ _))) rfl (encs_vec_length _) (le_vec _ rfl) (encs_known _) (wr_all (by simp only [encs_vec_length]))) rfl (si_store (pl rfl)) (is_some (hp_sk (by omega) (hp_sk (by omega) (hp_eq _ _ _ _)))) (by omega) (.inl (by omega)) (⟨trivial, ⟨trivial, trivial⟩⟩) (⟨trivial, ⟨trivial, ⟨trivial, trivial⟩⟩⟩) ?_
  refine vcE_nil ?_
  refine IW.ret ?_
  exact RetP.pure (.inr rfl) (ires_cell rfl D_24 (hp_eq _ _ _ _) (rd_all rfl (encs_vec_length _))) (okV8 _) (by omega)
def recL (c : Dig) (k : UInt8) (d : List UInt8) : List UInt8 := bodyL k d ++ (nextV c k d).toList.take 8
theorem recL_length (c : Dig) (k : UInt8) (d : List UInt8) : (recL c k d).length = (bodyL k d).length + 8 := by simp [recL]
noncomputable def F49 : FnI := recFc fun c k d n => if chk k d.length = 0 then some ⟨.tuple #[.slice (some ⟨n, 0, some 1⟩) (recL c k d).length (recL c k d).length, enc (nextV c k d), .int .i64 0], [(n, some (.cells (encs (recL c k d)) false))], n + 1⟩
  else some ⟨.tuple #[.slice none 0 0, enc (Vector.replicate 32 (0 : UInt8)), .int .i64 2], [], n⟩
theorem chk_two (k : UInt8) (len : Nat) : chk k len = 0 ∨ chk k len = 2 := by unfold chk; split <;> simp
-- headwater/record.Bytes ['Vector UInt8 32', 'Record'] -> ['Sl', 'Vector UInt8 32', 'Int'], results [4, [5, 24], 6]
theorem R49 : Ref Try.prog 49 F49 := by
  refine Ref.of_iw dok Try.func49 rfl (by kernel_rfl) fun args H n e hF => ?_
  obtain ⟨c, a, d, rfl, hD, hle, hF2⟩ := recFc_inv hF
  have hrl := rec_len hD
  have hbl := bodyL_length a.kind d
  have hsz := sizeV_small (UInt64.ofNat d.length)
  refine ⟨Nat.le_of_ble_eq_true rfl, ?_⟩
  simp only [idxL]
  have hE : Env Try.prog [(48, F48), (52, F52), (76, F76)] D K := env (fnsOk_cons R48 (fnsOk_cons R52 (fnsOk_cons R76 fnsOk_nil)))
  refine IW.seq ?_
  refine IW.free (by simp) (fun hfree => ?_)
  refine IW.reg hE ?_
  refine vcS_new rfl rfl (ox_box (pl rfl) rfl) (.inl (by omega)) ?_
  refine vcS_new rfl rfl (ox_box (pl rfl) (cellsOf_Record _)) (.inl (by omega)) ?_
  refine vcS_val rfl rfl (ox_assign (pl rfl)) ?_
  refine vcS_new rfl rfl (ox_allocZ (cs := encs (Vector.replicate 32 (0 : UInt8)).toList) D_24 rfl) (.inl (by omega)) ?_
  refine vcS_val rfl rfl (ox_assign (pl rfl)) ?_
  refine vcS_nil ?_
  refine IW.seq ?_
  refine IW.seq ?_
  refine IW.reg hE ?_
  refine vcS_val rfl rfl (ox_load (pl rfl) D_69 (hp_sk (by omega) (hp_eq _ _ _ _)) (rd_69 _ rfl rfl)) ?_
  refine vcS_val rfl rfl (ox_fn rfl rfl (fn1_ev _ _ _ _)) ?_
  refine vcS_val rfl rfl (ox_assign (pl rfl)) ?_
  refine vcS_nil ?_
  refine IW.seq ?_
  refine IW.reg hE ?_
  refine vcS_val rfl rfl (ox_move (pl rfl)) ?_
  refine vcS_val rfl rfl (ox_bin (pl rfl) (pl rfl) (bo_i64_neq _ _)) ?_
  refine vcS_nil ?_
  refine IW.cond rfl (fun hc1 => ?_) (fun hc1 => ?_)
  · have h0 : ¬ chk a.kind d.length = 0 := fun e => bne_iff_ne.1 hc1 (by rw [hrl, e]; rfl)
    have h2 : chk a.kind d.length = 2 := (chk_two _ _).resolve_left h0
    refine IW.seq ?_
    refine IW.reg hE ?_
    refine vcS_val rfl rfl (ox_buildA0 (cs := encs (Vector.replicate 32 (0 : UInt8)).toList) D_24 rfl D_5 rfl) ?_
    refine vcS_val rfl rfl (ox_move (pl rfl)) ?_
    refine vcS_val rfl rfl (ox_assign (pl rfl)) ?_
    refine vcS_sto rfl rfl (ox_store (pl rfl) (pl rfl) D_24 (hp_eq _ _ _ _) rfl (encs_vec_length _) (le_vec _ rfl) (encs_known _) (wr_all (by simp only [encs_vec_length]))) (.inl (by omega)) ?_
    refine vcS_val rfl rfl (ox_assign (pl rfl)) ?_
    refine vcS_nil ?_
    refine IW.ret ?_
    rw [if_neg h0] at hF2; cases hF2
    exact RetP.pure (.inr rfl) (ires_l3 (ires_tmp rfl) (ires_cell rfl D_24 (hp_eq _ _ _ _) (rd_all rfl (encs_vec_length (Vector.replicate 32 (0 : UInt8))))) ((ires_tmp rfl).trans (by rw [hrl, h2]; rfl))) (okN_l3 trivial (ok2_vec8 _) trivial) (by omega)
  · have h0 : chk a.kind d.length = 0 := by rw [← hrl]; exact Int.ofNat.inj (bne_eq_false_iff_eq.1 hc1)
    refine IW.skip ?_
    refine IW.seq ?_
    refine IW.reg hE ?_
    refine vcS_val rfl rfl (ox_load (pl rfl) D_24 (hp_sk (by omega) (hp_sk (by omega) (hp_eq _ _ _ _))) (rd_all rfl (encs_vec_length _))) ?_
    refine vcS_val rfl rfl (ox_load (pl rfl) D_69 (hp_sk (by omega) (hp_eq _ _ _ _)) (rd_69 _ rfl rfl)) ?_
    refine vcS_val rfl rfl (ox_fn rfl rfl (recFc_ev (rdC_keep hfree hD (by exact ⟨by omega, ⟨by omega, ⟨by omega, trivial⟩⟩⟩)) hle rfl)) ?_
    refine vcS_new rfl rfl (ox_allocZ (cs := encs (Vector.replicate 32 (0 : UInt8)).toList) D_24 rfl) (.inl (by omega)) ?_
    refine vcS_sto rfl rfl (ox_store (pl rfl) (pl rfl) D_24 (hp_eq _ _ _ _) rfl (encs_vec_length _) (le_vec _ rfl) (encs_known _) (wr_all (by simp only [encs_vec_length]))) (.inl (by omega)) ?_
    refine vcS_nil ?_
    refine IW.seq ?_
    by_cases hd0 : d.length = 0
    · refine IW.drw hE mixed [[],[0],[],[0,1,2],[],[0,1,2,3],[0,1,2,3,4,5],[0,1,2,3,4,5,6]] (by kernel_rfl) (vcE_start ?_)
      refine vcE_val rfl rfl rfl rfl (ox_load (pl rfl) D_69 (hp_sk (by omega) (hp_sk (by omega) (hp_sk (by omega) (hp_eq _ _ _ _)))) (rd_69 _ rfl rfl)) rfl (si_load (pl rfl)) (lt1 (by omega)) (trivial) ?_
      refine vcE_callN rfl rfl rfl rfl (ox_fn rfl rfl (F76_ev0 (rdC_keep hfree hD (by exact ⟨by omega, ⟨by omega, ⟨by omega, ⟨by omega, ⟨by omega, trivial⟩⟩⟩⟩⟩)) hle hd0)) rfl ltu0 ⟨⟨.inl (by omega), by omega, by omega⟩, trivial⟩ (by omega) (trivial) ?_
      refine vcE_bl rfl rfl (fun _ => ox_slAH (pl rfl) D_24 rfl D_5 (bndI (pl rfl) rfl) (by first | omega | decide)) rfl rfl ?_
      refine vcE_app1 [n + 1 + 1 + 1 + 1, n + 1 + 1 + 1] rfl rfl rfl rfl (ox_appG (α := UInt8) (l1 := bodyL a.kind d) (len2 := (recL c a.kind d).length) (pl rfl) (pl rfl) D_35 rfl D_5 rfl (srcArg_k (α := UInt8) (k := 8) (l := (nextV c a.kind d).toList.take 8) D_35 rfl rfl (rdC_sl0 (len := 32) (rdC_1all (hp_sk (by omega) (hp_eq _ _ _ _)) (by simp)) (by decide)) (by simp)) (by simp) (rdC_1all (hp_eq _ _ _ _) rfl) (by omega) (recL_length c a.kind d).symm (by simp only [most]; have := recL_length c a.kind d; omega) (by decide)) rfl rfl (.inl (by omega)) (lt2 (by omega) (by omega)) (⟨trivial, trivial⟩) ?_
      refine vcE_val rfl rfl rfl rfl (ox_load (pl rfl) D_24 (hp_eq _ _ _ _) (rd_all rfl (encs_vec_length _))) rfl (si_load (pl rfl)) (lt1 (by omega)) (⟨qn1 (n0 := 0) (by omega), ⟨qn1 (n0 := 0) (by omega), trivial⟩⟩) ?_
      refine vcE_bl rfl rfl (fun _ => ox_assign (pl rfl)) rfl rfl ?_
      refine vcE_sto rfl rfl rfl rfl (ox_store (pl rfl) (pl rfl) D_24 (hp_sk (by omega) (hp_sk (by omega) (hp_sk (by omega) (hp_sk (by omega) (hp_eq _ _ _ _))))) rfl (encs_vec_length _) (le_vec _ rfl) (encs_known _) (wr_all (by simp only [encs_vec_length]))) rfl (si_store (pl rfl)) (is_some (hp_sk (by omega) (hp_sk (by omega) (hp_sk (by omega) (hp_sk (by omega) (hp_eq _ _ _ _)))))) (by omega) (.inl (by omega)) (⟨trivial, ⟨trivial, trivial⟩⟩) (⟨trivial, ⟨trivial, ⟨trivial, ⟨trivial, trivial⟩⟩⟩⟩) ?_
      refine vcE_bl rfl rfl (fun _ => ox_assign (pl rfl)) rfl rfl ?_
      refine vcE_nil ?_
      refine IW.ret ?_
      rw [if_pos h0] at hF2; cases hF2
      refine RetP.news [n + 1 + 1 + 1 + 1 + 1] (cs := [encs (recL c a.kind d)]) (.inr rfl) (ires_l3 (ires_tmp rfl) (ires_cell rfl D_24 (hp_eq _ _ _ _) (rd_all rfl (encs_vec_length (nextV c a.kind d)))) (ires_tmp rfl)) (by rw [ren_l3, ren2_slice, gL_one, ren2_vec8]; rfl) rfl rfl ⟨by omega, trivial⟩ (by simp) ⟨(hp_sk (by omega) (hp_eq _ _ _ _)).trans (by rw [plains_ren (by rw [← cels_one]; exact u8_plain _)]; rfl), trivial⟩ (fun c hc => by simp only [List.mem_cons, List.not_mem_nil, or_false] at hc; subst hc; exact u8_okN1 _) (okN_l3 (by show n < _; simp) (ok2_vec8 _) trivial)
    · refine IW.drw hE mixed [[],[0],[],[0,1,2],[],[0,1,2,3],[0,1,2,3,4,5],[0,1,2,3,4,5,6]] (by kernel_rfl) (vcE_start ?_)
      refine vcE_val rfl rfl rfl rfl (ox_load (pl rfl) D_69 (hp_sk (by omega) (hp_sk (by omega) (hp_sk (by omega) (hp_eq _ _ _ _)))) (rd_69 _ rfl rfl)) rfl (si_load (pl rfl)) (lt1 (by omega)) (trivial) ?_
      refine vcE_callN rfl rfl rfl rfl (ox_fn rfl rfl (F76_ev1 (rdC_keep hfree hD (by exact ⟨by omega, ⟨by omega, ⟨by omega, ⟨by omega, ⟨by omega, trivial⟩⟩⟩⟩⟩)) hle hd0)) rfl ltu0 ⟨⟨.inl (by omega), by omega, by omega⟩, trivial⟩ (by omega) (trivial) ?_
      refine vcE_bl rfl rfl (fun _ => ox_slAH (pl rfl) D_24 rfl D_5 (bndI (pl rfl) rfl) (by first | omega | decide)) rfl rfl ?_
      refine vcE_app2 [n + 1 + 1 + 1 + 1, n + 1 + 1 + 1] rfl rfl rfl rfl (ox_appOE (α := UInt8) (l1 := bodyL a.kind d) (len2 := (recL c a.kind d).length) (pl rfl) (pl rfl) D_35 rfl D_5 rfl rfl (srcArg_k (α := UInt8) (k := 8) (l := (nextV c a.kind d).toList.take 8) D_35 rfl rfl (rdC_sl0 (len := 32) (rdC_1all (hp_sk (by omega) (hp_eq _ _ _ _)) (by simp)) (by decide)) (by simp)) (by simp) (hp_eq _ _ _ _) rfl (recL_length c a.kind d).symm (by simp only [most]; have := recL_length c a.kind d; omega) (by decide)) rfl rfl (.inl (by omega)) (by simp) (is_some (hp_eq _ _ _ _)) (by omega) (.inl (by omega)) (lt2 (by omega) (by omega)) (⟨trivial, trivial⟩) (⟨trivial, ⟨trivial, trivial⟩⟩) ?_
      refine vcE_val rfl rfl rfl rfl (ox_load (pl rfl) D_24 (hp_eq _ _ _ _) (rd_all rfl (encs_vec_length _))) rfl (si_load (pl rfl)) (lt1 (by omega)) (⟨qn1 (n0 := 0) (by omega), ⟨qn2 (n0 := 0) (by omega) (by omega), trivial⟩⟩) ?_
      refine vcE_bl rfl rfl (fun _ => ox_assign (pl rfl)) rfl rfl ?_
      refine vcE_sto rfl rfl rfl rfl (ox_store (pl rfl) (pl rfl) D_24 (hp_sk (by omega) (hp_sk (by omega) (hp_sk (by omega) (hp_sk (by omega) (hp_sk (by omega) (hp_eq _ _ _ _)))))) rfl (encs_vec_length _) (le_vec _ rfl) (encs_known _) (wr_all (by simp only [encs_vec_length]))) rfl (si_store (pl rfl)) (is_some (hp_sk (by omega) (hp_sk (by omega) (hp_sk (by omega) (hp_sk (by omega) (hp_sk (by omega) (hp_eq _ _ _ _))))))) (by omega) (.inl (by omega)) (⟨trivial, ⟨trivial, trivial⟩⟩) (⟨trivial, ⟨trivial, ⟨trivial, ⟨trivial, trivial⟩⟩⟩⟩) ?_
      refine vcE_bl rfl rfl (fun _ => ox_assign (pl rfl)) rfl rfl ?_
      refine vcE_nil ?_
      refine IW.ret ?_
      rw [if_pos h0] at hF2; cases hF2
      refine RetP.news [n + 1 + 1 + 1 + 1 + 1] (cs := [encs (recL c a.kind d)]) (.inr rfl) (ires_l3 (ires_tmp rfl) (ires_cell rfl D_24 (hp_eq _ _ _ _) (rd_all rfl (encs_vec_length (nextV c a.kind d)))) (ires_tmp rfl)) (by rw [ren_l3, ren2_slice, gL_one, ren2_vec8]; rfl) rfl rfl ⟨by omega, trivial⟩ (by simp) ⟨(hp_sk (by omega) (hp_eq _ _ _ _)).trans (by rw [plains_ren (by rw [← cels_one]; exact u8_plain _)]; rfl), trivial⟩ (fun c hc => by simp only [List.mem_cons, List.not_mem_nil, or_false] at hc; subst hc; exact u8_okN1 _) (okN_l3 (by show n < _; simp) (ok2_vec8 _) trivial)
end Go.Proofs.Ytdnnojblneccdaa
