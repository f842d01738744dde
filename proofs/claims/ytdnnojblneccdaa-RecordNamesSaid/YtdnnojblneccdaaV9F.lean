import Derived.Test.YtdnnojblneccdaaV9E
/-
  record.Read.
-/
namespace Go.Proofs.Ytdnnojblneccdaa
set_option linter.unusedSimpArgs false
set_option linter.unusedVariables false
open Go
open Enc (enc)
set_option maxRecDepth 100000
theorem F77_none {H : IHeap} {n : Nat} {c : Dig} {y : Value} {b : List UInt8} (hb : rdC H y = some b) (h : b.length ≤ 2 ^ 39) (hd : (rdV c b).data = none) : F77 [enc c, y] H n = some ⟨.tuple #[enc (⟨(rdV c b).kind, ⟨none, 0, 0⟩⟩ : Record), .int .i64 ((rdV c b).size : Int), enc (rdV c b).next, .int .i64 ((rdV c b).e : Int)], [], n⟩ := by
  rw [F77_ev hb h, rdE, hd]; rfl
theorem F77_some {H : IHeap} {n : Nat} {c : Dig} {y : Value} {b l : List UInt8} (hb : rdC H y = some b) (h : b.length ≤ 2 ^ 39) (hd : (rdV c b).data = some l) : F77 [enc c, y] H n = some ⟨.tuple #[enc (⟨(rdV c b).kind, ⟨some ⟨n, 0, none⟩, l.length, l.length⟩⟩ : Record), .int .i64 ((rdV c b).size : Int), enc (rdV c b).next, .int .i64 ((rdV c b).e : Int)], [(n, some (.cells (encs l) false))], n + 1⟩ := by
  rw [F77_ev hb h, rdE, hd]; rfl
theorem rdV_ok {c : Dig} {b : List UInt8} (h : (rdV c b).e = 0) : ¬ ((q1 b).e = 0 ∧ kd b = 0) ∧ ¬ (q2 b).e ≠ 0 ∧ ¬ 8192 < nn b ∧ (q4 b).e = 0 ∧ mk8 b = (nextV c (kd b) (dl b)).toList.take 8 := by
  unfold rdV at h
  by_cases h1 : (q1 b).e = 0 ∧ kd b = 0
  · rw [if_pos h1] at h; cases h
  rw [if_neg h1] at h
  by_cases h2 : (q2 b).e ≠ 0
  · rw [if_pos h2] at h
    simp only at h
    split at h <;> cases h
  rw [if_neg h2] at h
  by_cases h3 : 8192 < nn b
  · rw [if_pos h3] at h; cases h
  rw [if_neg h3] at h
  by_cases h4 : (q4 b).e ≠ 0
  · rw [if_pos h4] at h; cases h
  rw [if_neg h4] at h
  by_cases h5 : mk8 b ≠ (nextV c (kd b) (dl b)).toList.take 8
  · rw [if_pos h5] at h; cases h
  exact ⟨h1, h2, h3, Decidable.not_not.1 h4, Decidable.not_not.1 h5⟩
theorem rdV_at {c : Dig} {b : List UInt8} (h : ¬ ((q1 b).e = 0 ∧ kd b = 0) ∧ ¬ (q2 b).e ≠ 0 ∧ ¬ 8192 < nn b ∧ (q4 b).e = 0 ∧ mk8 b = (nextV c (kd b) (dl b)).toList.take 8) : rdV c b = ⟨kd b, some (dl b), (q4 b).at_, nextV c (kd b) (dl b), 0⟩ := by
  obtain ⟨h1, h2, h3, h4, h5⟩ := h
  have hda : dat b = some (dl b) := by
    unfold dat
    by_cases ho : tkOk b (q2 b) (nn b).toNat = true
    · exact if_pos ho
    · have ho : tkOk b (q2 b) (nn b).toNat = false := by simpa using ho
      have h6 : tkOk b (q3 b) 8 = false := tk_e_no (tk_no_e ho)
      exact absurd h4 (tk_no_e h6)
  unfold rdV
  rw [if_neg h1, if_neg h2, if_neg h3, if_neg (not_not_intro h4), if_neg (not_not_intro h5), hda]
theorem rdV_data {c : Dig} {b : List UInt8} (h : (rdV c b).e = 0) : (rdV c b).data = some (dl b) := by rw [rdV_at (rdV_ok h)]
def rdR (c : Dig) (b : List UInt8) : RR := if (rdV c b).e = 0 then rdV c b else ⟨0, none, 0, z32, (rdV c b).e⟩
noncomputable def F50 : FnI := fun args H n => match args with
  | [x, y] => (dec x).bind fun (c : Dig) => (rdC H y).bind fun (b : List UInt8) => if b.length ≤ 2 ^ 39 then some (rdE n (rdR c b)) else none
  | _ => none
theorem F50_inv {args : List Value} {H : IHeap} {n : Nat} {e : Eff} (h : F50 args H n = some e) : ∃ (c : Dig) (y : Value) (b : List UInt8), args = [enc c, y] ∧ rdC H y = some b ∧ b.length ≤ 2 ^ 39 ∧ e = rdE n (rdR c b) := by
  unfold F50 at h; split at h
  · simp only [Option.bind_eq_some_iff] at h
    obtain ⟨c, hc, b, hb, h⟩ := h
    split at h
    · cases h
      exact ⟨c, _, b, by rw [dec_some hc], hb, by assumption, rfl⟩
    · cases h
  · cases h
theorem F50_ev {H : IHeap} {n : Nat} {c : Dig} {y : Value} {b : List UInt8} (hb : rdC H y = some b) (h : b.length ≤ 2 ^ 39) : F50 [enc c, y] H n = some (rdE n (rdR c b)) := by
  simp only [F50, dec_enc, Option.bind_some, hb]
  rw [if_pos h]
-- headwater/record.Read ['Vector UInt8 32', 'Sl'] -> ['Record', 'Int', 'Vector UInt8 32', 'Int'], results [[4, 69], 5, [6, 24], 7]
theorem R50 : Ref Try.prog 50 F50 := by
  refine Ref.of_iw dok Try.func50 rfl (by kernel_rfl) fun args H n e hF => ?_
  obtain ⟨c, y, b, rfl, hB, hle, rfl⟩ := F50_inv hF
  refine ⟨Nat.le_of_ble_eq_true rfl, ?_⟩
  simp only [idxL]
  have hE : Env Try.prog [(77, F77)] D K := env (fnsOk_cons R77 fnsOk_nil)
  refine IW.seq ?_
  refine IW.free (by simp) (fun hfree => ?_)
  refine IW.reg hE ?_
  refine vcS_new rfl rfl (ox_box (pl rfl) rfl) (.inl (by omega)) ?_
  refine vcS_new rfl rfl (ox_allocZ D_69 (zero_69 D_69)) (.inl (by omega)) ?_
  refine vcS_val rfl rfl (ox_assign (pl rfl)) ?_
  refine vcS_new rfl rfl (ox_allocZ (cs := encs (Vector.replicate 32 (0 : UInt8)).toList) D_24 rfl) (.inl (by omega)) ?_
  refine vcS_val rfl rfl (ox_assign (pl rfl)) ?_
  refine vcS_nil ?_
  refine IW.seq ?_
  rcases hda : (rdV c b).data with _ | l
  · refine IW.reg hE ?_
    refine vcS_val rfl rfl (ox_load (pl rfl) D_24 (hp_sk (by omega) (hp_sk (by omega) (hp_eq _ _ _ _))) (rd_all rfl (encs_vec_length _))) ?_
    refine vcS_val rfl rfl (ox_move (pl rfl)) ?_
    refine vcS_ups rfl rfl (ox_fn rfl rfl (F77_none (rdC_keep hfree hB (by exact ⟨by omega, ⟨by omega, ⟨by omega, trivial⟩⟩⟩)) hle hda)) rfl trivial ?_
    refine vcS_val rfl rfl (ox_move (pl rfl)) ?_
    refine vcS_val rfl rfl (ox_extract (pl rfl) rfl) ?_
    refine vcS_val rfl rfl (ox_extract (pl rfl) rfl) ?_
    refine vcS_val rfl rfl (ox_extract (pl rfl) rfl) ?_
    refine vcS_val rfl rfl (ox_extract (pl rfl) rfl) ?_
    refine vcS_new rfl rfl (ox_allocZ D_69 (zero_69 D_69)) (.inl (by omega)) ?_
    refine vcS_new rfl rfl (ox_allocZ (cs := encs (Vector.replicate 32 (0 : UInt8)).toList) D_24 rfl) (.inl (by omega)) ?_
    refine vcS_sto rfl rfl (ox_store (pl rfl) (pl rfl) D_69 (hp_sk (by omega) (hp_eq _ _ _ _)) (cellsOf_Record _) (Record.cells_length _) (Record.le _ rfl) (Record.cells_known _) (wr_all (by simp only [Record.cells_length]))) (.inl (by omega)) ?_
    refine vcS_val rfl rfl (ox_assign (pl rfl)) ?_
    refine vcS_sto rfl rfl (ox_store (pl rfl) (pl rfl) D_24 (hp_sk (by omega) (hp_eq _ _ _ _)) rfl (encs_vec_length _) (le_vec _ rfl) (encs_known _) (wr_all (by simp only [encs_vec_length]))) (.inl (by omega)) ?_
    refine vcS_val rfl rfl (ox_assign (pl rfl)) ?_
    refine vcS_nil ?_
    refine IW.seq ?_
    refine IW.seq ?_
    refine IW.reg hE ?_
    refine vcS_val rfl rfl (ox_move (pl rfl)) ?_
    refine vcS_val rfl rfl (ox_bin (pl rfl) (pl rfl) (bo_i64_neq _ _)) ?_
    refine vcS_nil ?_
    refine IW.cond rfl (fun hc1 => ?_) (fun hc1 => ?_)
    · have he : (rdV c b).e ≠ 0 := fun e => bne_iff_ne.1 hc1 (congrArg Int.ofNat e)
      refine IW.seq ?_
      refine IW.reg hE ?_
      refine vcS_val rfl rfl (ox_buildZ D_69 (zero_69 D_69) rfl rfl fill_nil) ?_
      refine vcS_val rfl rfl (ox_buildA0 (cs := encs (Vector.replicate 32 (0 : UInt8)).toList) D_24 rfl D_5 rfl) ?_
      refine vcS_val rfl rfl (ox_move (pl rfl)) ?_
      refine vcS_sto rfl rfl (ox_store (pl rfl) (pl rfl) D_69 (hp_sk (by omega) (hp_sk (by omega) (hp_sk (by omega) (hp_sk (by omega) (hp_sk (by omega) (hp_eq _ _ _ _)))))) (cellsOf_Record _) (Record.cells_length _) (Record.le _ rfl) (Record.cells_known _) (wr_all (by simp only [Record.cells_length]))) (.inl (by omega)) ?_
      refine vcS_val rfl rfl (ox_assign (pl rfl)) ?_
      refine vcS_sto rfl rfl (ox_store (pl rfl) (pl rfl) D_24 (hp_sk (by omega) (hp_sk (by omega) (hp_sk (by omega) (hp_sk (by omega) (hp_sk (by omega) (hp_eq _ _ _ _)))))) rfl (encs_vec_length _) (le_vec _ rfl) (encs_known _) (wr_all (by simp only [encs_vec_length]))) (.inl (by omega)) ?_
      refine vcS_val rfl rfl (ox_assign (pl rfl)) ?_
      refine vcS_nil ?_
      refine IW.ret ?_
      rw [show rdR c b = ⟨0, none, 0, z32, (rdV c b).e⟩ from if_neg he]; exact RetP.rd0 (.inr rfl) (ires_l4 (ires_cell rfl D_69 (hp_sk (by omega) (hp_eq _ _ _ _)) (rd_69 (⟨0, ⟨none, 0, 0⟩⟩ : Record) rfl rfl)) (ires_tmp rfl) (ires_cell rfl D_24 (hp_eq _ _ _ _) (rd_all rfl (encs_vec_length z32))) (ires_tmp rfl)) rfl
    · exact nomatch (rdV_data (Int.ofNat.inj (bne_eq_false_iff_eq.1 hc1))).symm.trans hda
  · refine IW.reg hE ?_
    refine vcS_val rfl rfl (ox_load (pl rfl) D_24 (hp_sk (by omega) (hp_sk (by omega) (hp_eq _ _ _ _))) (rd_all rfl (encs_vec_length _))) ?_
    refine vcS_val rfl rfl (ox_move (pl rfl)) ?_
    refine vcS_ups rfl rfl (ox_fn rfl rfl (F77_some (rdC_keep hfree hB (by exact ⟨by omega, ⟨by omega, ⟨by omega, trivial⟩⟩⟩)) hle hda)) rfl ⟨.inl (by omega), trivial⟩ ?_
    refine vcS_val rfl rfl (ox_move (pl rfl)) ?_
    refine vcS_val rfl rfl (ox_extract (pl rfl) rfl) ?_
    refine vcS_val rfl rfl (ox_extract (pl rfl) rfl) ?_
    refine vcS_val rfl rfl (ox_extract (pl rfl) rfl) ?_
    refine vcS_val rfl rfl (ox_extract (pl rfl) rfl) ?_
    refine vcS_new rfl rfl (ox_allocZ D_69 (zero_69 D_69)) (.inl (by omega)) ?_
    refine vcS_new rfl rfl (ox_allocZ (cs := encs (Vector.replicate 32 (0 : UInt8)).toList) D_24 rfl) (.inl (by omega)) ?_
    refine vcS_sto rfl rfl (ox_store (pl rfl) (pl rfl) D_69 (hp_sk (by omega) (hp_eq _ _ _ _)) (cellsOf_Record _) (Record.cells_length _) (Record.le _ rfl) (Record.cells_known _) (wr_all (by simp only [Record.cells_length]))) (.inl (by omega)) ?_
    refine vcS_val rfl rfl (ox_assign (pl rfl)) ?_
    refine vcS_sto rfl rfl (ox_store (pl rfl) (pl rfl) D_24 (hp_sk (by omega) (hp_eq _ _ _ _)) rfl (encs_vec_length _) (le_vec _ rfl) (encs_known _) (wr_all (by simp only [encs_vec_length]))) (.inl (by omega)) ?_
    refine vcS_val rfl rfl (ox_assign (pl rfl)) ?_
    refine vcS_nil ?_
    refine IW.seq ?_
    refine IW.seq ?_
    refine IW.reg hE ?_
    refine vcS_val rfl rfl (ox_move (pl rfl)) ?_
    refine vcS_val rfl rfl (ox_bin (pl rfl) (pl rfl) (bo_i64_neq _ _)) ?_
    refine vcS_nil ?_
    refine IW.cond rfl (fun hc2 => ?_) (fun hc2 => ?_)
    · have he : (rdV c b).e ≠ 0 := fun e => bne_iff_ne.1 hc2 (congrArg Int.ofNat e)
      refine IW.seq ?_
      refine IW.reg hE ?_
      refine vcS_val rfl rfl (ox_buildZ D_69 (zero_69 D_69) rfl rfl fill_nil) ?_
      refine vcS_val rfl rfl (ox_buildA0 (cs := encs (Vector.replicate 32 (0 : UInt8)).toList) D_24 rfl D_5 rfl) ?_
      refine vcS_val rfl rfl (ox_move (pl rfl)) ?_
      refine vcS_sto rfl rfl (ox_store (pl rfl) (pl rfl) D_69 (hp_sk (by omega) (hp_sk (by omega) (hp_sk (by omega) (hp_sk (by omega) (hp_sk (by omega) (hp_sk (by omega) (hp_eq _ _ _ _))))))) (cellsOf_Record _) (Record.cells_length _) (Record.le _ rfl) (Record.cells_known _) (wr_all (by simp only [Record.cells_length]))) (.inl (by omega)) ?_
      refine vcS_val rfl rfl (ox_assign (pl rfl)) ?_
      refine vcS_sto rfl rfl (ox_store (pl rfl) (pl rfl) D_24 (hp_sk (by omega) (hp_sk (by omega) (hp_sk (by omega) (hp_sk (by omega) (hp_sk (by omega) (hp_sk (by omega) (hp_eq _ _ _ _))))))) rfl (encs_vec_length _) (le_vec _ rfl) (encs_known _) (wr_all (by simp only [encs_vec_length]))) (.inl (by omega)) ?_
      refine vcS_val rfl rfl (ox_assign (pl rfl)) ?_
      refine vcS_nil ?_
      refine IW.ret ?_
      rw [show rdR c b = ⟨0, none, 0, z32, (rdV c b).e⟩ from if_neg he]; exact RetP.rd0 (.inr rfl) (ires_l4 (ires_cell rfl D_69 (hp_sk (by omega) (hp_eq _ _ _ _)) (rd_69 (⟨0, ⟨none, 0, 0⟩⟩ : Record) rfl rfl)) (ires_tmp rfl) (ires_cell rfl D_24 (hp_eq _ _ _ _) (rd_all rfl (encs_vec_length z32))) (ires_tmp rfl)) rfl
    · have he : (rdV c b).e = 0 := Int.ofNat.inj (bne_eq_false_iff_eq.1 hc2)
      refine IW.skip ?_
      refine IW.seq ?_
      refine IW.drw hE mixed [[],[],[],[0],[0,1,3],[0,1,2,3,4],[0,1,2,3,4,5]] (by kernel_rfl) (vcE_start ?_)
      refine vcE_val rfl rfl rfl rfl (ox_load (pl rfl) D_69 (hp_sk (by omega) (hp_eq _ _ _ _)) (rd_69 _ rfl rfl)) rfl (si_load (pl rfl)) (lt1 (by omega)) (trivial) ?_
      refine vcE_bl rfl rfl (fun _ => ox_move (pl rfl)) rfl rfl ?_
      refine vcE_val rfl rfl rfl rfl (ox_load (pl rfl) D_24 (hp_eq _ _ _ _) (rd_all rfl (encs_vec_length _))) rfl (si_load (pl rfl)) (lt1 (by omega)) (trivial) ?_
      refine vcE_sto rfl rfl rfl rfl (ox_store (pl rfl) (pl rfl) D_69 (hp_sk (by omega) (hp_sk (by omega) (hp_sk (by omega) (hp_sk (by omega) (hp_sk (by omega) (hp_sk (by omega) (hp_eq _ _ _ _))))))) (cellsOf_Record _) (Record.cells_length _) (Record.le _ rfl) (Record.cells_known _) (wr_all (by simp only [Record.cells_length]))) rfl (si_store (pl rfl)) (is_some (hp_sk (by omega) (hp_sk (by omega) (hp_sk (by omega) (hp_sk (by omega) (hp_sk (by omega) (hp_sk (by omega) (hp_eq _ _ _ _)))))))) (by omega) (.inl (by omega)) (trivial) (⟨cn1 (n0 := 0) (by omega), ⟨trivial, trivial⟩⟩) ?_
      refine vcE_bl rfl rfl (fun _ => ox_assign (pl rfl)) rfl rfl ?_
      refine vcE_sto rfl rfl rfl rfl (ox_store (pl rfl) (pl rfl) D_24 (hp_sk (by omega) (hp_sk (by omega) (hp_sk (by omega) (hp_sk (by omega) (hp_sk (by omega) (hp_sk (by omega) (hp_eq _ _ _ _))))))) rfl (encs_vec_length _) (le_vec _ rfl) (encs_known _) (wr_all (by simp only [encs_vec_length]))) rfl (si_store (pl rfl)) (is_some (hp_sk (by omega) (hp_sk (by omega) (hp_sk (by omega) (hp_sk (by omega) (hp_sk (by omega) (hp_sk (by omega) (hp_eq _ _ _ _)))))))) (by omega) (.inl (by omega)) (⟨trivial, trivial⟩) (⟨trivial, ⟨trivial, ⟨trivial, trivial⟩⟩⟩) ?_
      refine vcE_bl rfl rfl (fun _ => ox_assign (pl rfl)) rfl rfl ?_
      refine vcE_nil ?_
      refine IW.ret ?_
      rw [show rdR c b = rdV c b from if_pos he]; exact RetP.rd1 (.inr rfl) ((ires_l4 (ires_cell rfl D_69 (hp_sk (by omega) (hp_eq _ _ _ _)) (rd_69 (⟨(rdV c b).kind, ⟨some ⟨n + 1 + 1 + 1, 0, none⟩, l.length, l.length⟩⟩ : Record) rfl rfl)) (ires_tmp rfl) (ires_cell rfl D_24 (hp_eq _ _ _ _) (rd_all rfl (encs_vec_length (rdV c b).next))) (ires_tmp rfl)).trans (by rw [he]; rfl)) hda (by omega) ((hp_sk (by omega) (hp_sk (by omega) (hp_sk (by omega) (hp_sk (by omega) (hp_sk (by omega) (hp_sk (by omega) (hp_eq _ _ _ _))))))))
theorem F50_no {H : IHeap} {n : Nat} {c : Dig} {y : Value} {b : List UInt8} (hb : rdC H y = some b) (h : b.length ≤ 2 ^ 39) (he : (rdV c b).e ≠ 0) : F50 [enc c, y] H n = some ⟨.tuple #[enc (⟨0, ⟨none, 0, 0⟩⟩ : Record), .int .i64 0, enc z32, .int .i64 ((rdV c b).e : Int)], [], n⟩ := by
  rw [F50_ev hb h, rdR, if_neg he]; rfl
theorem F50_ok {H : IHeap} {n : Nat} {c : Dig} {y : Value} {b : List UInt8} {r : RR} {l : List UInt8} (hb : rdC H y = some b) (h : b.length ≤ 2 ^ 39) (hv : rdV c b = r) (he : r.e = 0) (hd : r.data = some l) : F50 [enc c, y] H n = some ⟨.tuple #[enc (⟨r.kind, ⟨some ⟨n, 0, none⟩, l.length, l.length⟩⟩ : Record), .int .i64 (r.size : Int), enc r.next, .int .i64 0], [(n, some (.cells (encs l) false))], n + 1⟩ := by
  subst hv
  rw [F50_ev hb h, rdR, if_pos he, rdE, hd, he]; rfl
end Go.Proofs.Ytdnnojblneccdaa
/-
  A record's bytes, written and read.
-/
namespace Go.Proofs.Ytdnnojblneccdaa
set_option linter.unusedSimpArgs false
set_option linter.unusedVariables false
open Go
def numCheck (i : Nat) : Bool :=
  let w := UInt64.ofNat i
  let h := hdV w
  let s := sizeV w
  Nat.beq (kN h) s && (Nat.ble s 2 && Nat.beq (nv (h &&& shr8 255 s).toUInt64 (tlV w) (s - 1)).toNat i)
def allB (f : Nat → Bool) : Nat → Bool
  | 0 => true
  | n + 1 => f n && allB f n
theorem allB_at {f : Nat → Bool} : ∀ {n i : Nat}, allB f n = true → i < n → f i = true
  | n + 1, i, h, hi => by
    simp only [allB, Bool.and_eq_true] at h
    by_cases e : i = n
    · subst e; exact h.1
    · exact allB_at h.2 (by omega)
theorem num_small : allB numCheck 8193 = true := by decide +kernel
theorem num_at {w : UInt64} (h : w.toNat ≤ 8192) : kN (hdV w) = sizeV w ∧ sizeV w ≤ 2 ∧ nv (hdV w &&& shr8 255 (sizeV w)).toUInt64 (tlV w) (sizeV w - 1) = w := by
  have h1 := allB_at num_small (i := w.toNat) (by omega)
  simp only [numCheck, UInt64.ofNat_toNat, Bool.and_eq_true, Nat.ble_eq] at h1
  exact ⟨Nat.eq_of_beq_eq_true h1.1, h1.2.1, UInt64.toNat_inj.1 (Nat.eq_of_beq_eq_true h1.2.2)⟩
/-! readers that find what they look for -/
theorem tk_at {l x y : List UInt8} {s : RS} (he : s.e = 0) (hle : s.at_ ≤ l.length) (h : l.drop s.at_ = x ++ y) : tkOk l s x.length = true ∧ tkL l s x.length = x ∧ tkS l s x.length = ⟨s.at_ + x.length, 0⟩ ∧ l.drop (s.at_ + x.length) = y := by
  have hlen := congrArg List.length h
  simp only [List.length_drop, List.length_append] at hlen
  have hok : tkOk l s x.length = true := by simp only [tkOk, decide_eq_true_eq]; omega
  obtain ⟨t1, t2, _, t4⟩ := tk_ok (ib := 0) he (show s.at_ + x.length ≤ l.length by omega)
  refine ⟨hok, ?_, t2, ?_⟩
  · rw [t4, h, List.take_left]
  · rw [← List.drop_drop, h, List.drop_left]
theorem num_read {l rest : List UInt8} {s : RS} {w : UInt64} (he : s.e = 0) (hle : s.at_ ≤ l.length) (hw : w.toNat ≤ 8192) (h : l.drop s.at_ = numL w ++ rest) : numV l s = w ∧ numS l s = ⟨s.at_ + sizeV w, 0⟩ ∧ l.drop (s.at_ + sizeV w) = rest := by
  obtain ⟨n1, n2, n3⟩ := num_at hw
  have hsz := sizeV_rng w
  have h' : l.drop s.at_ = [hdV w] ++ (tlV w ++ rest) := h
  obtain ⟨a1, a2, a3, a4⟩ := tk_at he hle h'
  have a1 : tkOk l s 1 = true := a1
  have a2 : tkL l s 1 = [hdV w] := a2
  have e1 : hd1 l s = hdV w := by unfold hd1; rw [a2]; rfl
  have e2 : st1 l s = ⟨s.at_ + 1, 0⟩ := a3
  have hle2 : s.at_ + 1 ≤ l.length := (ok_st a1).2.1
  obtain ⟨b1, b2, b3, b4⟩ := tk_at (s := ⟨s.at_ + 1, 0⟩) rfl hle2 a4
  rw [tlV_length] at b1 b2 b3 b4
  have e3 : kN (hd1 l s) = sizeV w := by rw [e1]; exact n1
  have e4 : rs1 l s = tlV w := by unfold rs1; rw [e2, e3]; exact b2
  have e5 : ok2 l s = true := by unfold ok2; rw [e2, e3]; exact b1
  have e6 : xV l s = w := by unfold xV; rw [e4, e3, e1, tlV_length]; exact n3
  have e7 : sizeV (xV l s) = kN (hd1 l s) := by rw [e6, e3]
  have hok : numOk l s = true := by unfold numOk; rw [a1, e5, decide_eq_true e7]; rfl
  refine ⟨by unfold numV; rw [if_pos hok, e6], ?_, ?_⟩
  · unfold numS
    rw [if_pos a1, if_pos e5, if_pos e7, e2, e3, b3]
    rw [RS.mk.injEq]; exact ⟨by show s.at_ + 1 + (sizeV w - 1) = _; omega, rfl⟩
  · have : s.at_ + 1 + (sizeV w - 1) = s.at_ + sizeV w := by omega
    rw [← this]; exact b4
theorem word1 (k : UInt8) : (wordV [k]).toUInt8 = k := by
  show ((0 : UInt64) ||| shl64 k.toUInt64 (8 * 0)).toUInt8 = k
  have : shl64 k.toUInt64 (8 * 0) = k.toUInt64 := by
    apply UInt64.toNat_inj.1
    rw [shl64, UInt64.toNat_ofNat']
    show k.toUInt64.toNat * 1 % 2 ^ 64 = _
    have := k.toUInt64.toNat_lt
    omega
  rw [this, UInt64.zero_or]
  apply UInt8.toNat_inj.1
  rw [UInt64.toNat_toUInt8, UInt8.toNat_toUInt64]
  exact Nat.mod_eq_of_lt k.toNat_lt
theorem ofNat_small {i : Nat} (h : i ≤ 8192) : (UInt64.ofNat i).toNat = i := by rw [UInt64.toNat_ofNat', Nat.mod_eq_of_lt (by omega)]
/-- a record's bytes, another eight and more, as they are read -/
theorem rec_read {k : UInt8} {d m t : List UInt8} (hd : d.length ≤ 8192) (hm : m.length = 8) : (q1 (bodyL k d ++ m ++ t)).e = 0 ∧ kd (bodyL k d ++ m ++ t) = k ∧ (q2 (bodyL k d ++ m ++ t)).e = 0 ∧ nn (bodyL k d ++ m ++ t) = UInt64.ofNat d.length ∧ dl (bodyL k d ++ m ++ t) = d ∧ mk8 (bodyL k d ++ m ++ t) = m ∧ q4 (bodyL k d ++ m ++ t) = ⟨(bodyL k d).length + 8, 0⟩ := by
  generalize hb : bodyL k d ++ m ++ t = b
  have hw := ofNat_small hd
  have h0 : b.drop 0 = [k] ++ (numL (UInt64.ofNat d.length) ++ (d ++ (m ++ t))) := by rw [← hb]; simp [bodyL, blkL]
  obtain ⟨a1, a2, a3, a4⟩ := tk_at (s := ⟨0, 0⟩) rfl (Nat.zero_le _) h0
  have a3 : q1 b = ⟨1, 0⟩ := a3
  have a2 : tkL b ⟨0, 0⟩ 1 = [k] := a2
  have a4 : b.drop 1 = numL (UInt64.ofNat d.length) ++ (d ++ (m ++ t)) := a4
  have hkd : kd b = k := by unfold kd; rw [a2]; exact word1 k
  have hl1 : 1 ≤ b.length := by have := q1_le b; rw [a3] at this; exact this
  obtain ⟨c1, c2, c3⟩ := num_read (s := ⟨1, 0⟩) rfl hl1 (by rw [hw]; exact hd) a4
  have hnn : nn b = UInt64.ofNat d.length := by unfold nn; rw [a3]; exact c1
  have hq2 : q2 b = ⟨1 + sizeV (UInt64.ofNat d.length), 0⟩ := by unfold q2; rw [a3]; exact c2
  have hl2 := q2_le b
  rw [hq2] at hl2
  obtain ⟨d1, d2, d3, d4⟩ := tk_at (s := ⟨1 + sizeV (UInt64.ofNat d.length), 0⟩) rfl hl2 c3
  have hdl : dl b = d := by unfold dl; rw [hq2, hnn, hw]; exact d2
  have hq3 : q3 b = ⟨1 + sizeV (UInt64.ofNat d.length) + d.length, 0⟩ := by unfold q3; rw [hq2, hnn, hw]; exact d3
  have hl3 := q3_le b
  rw [hq3] at hl3
  obtain ⟨e1, e2, e3, e4⟩ := tk_at (s := ⟨1 + sizeV (UInt64.ofNat d.length) + d.length, 0⟩) rfl hl3 d4
  rw [hm] at e1 e2 e3 e4
  refine ⟨by rw [a3], hkd, by rw [hq2], hnn, hdl, by unfold mk8; rw [hq3]; exact e2, ?_⟩
  unfold q4
  rw [hq3, e3, bodyL_length]
theorem rec_bad {c : Dig} {k : UInt8} {d m t : List UInt8} (hk : k ≠ 0) (hd : d.length ≤ 8192) (hm : m.length = 8) (hne : m ≠ (nextV c k d).toList.take 8) : (rdV c (bodyL k d ++ m ++ t)).e = 4 := by
  obtain ⟨h1, h2, h3, h4, h5, h6, h7⟩ := rec_read (k := k) (t := t) hd hm
  unfold rdV
  rw [if_neg (by rw [h2]; exact fun h => hk h.2), if_neg (by rw [h3]; simp), if_neg (by rw [h4, UInt64.lt_iff_toNat_lt, ofNat_small hd]; have e : (8192 : UInt64).toNat = 8192 := rfl; omega), if_neg (by rw [h7]; simp), h2, h5, h6, if_pos hne]
theorem rec_ok {c : Dig} {k : UInt8} {d t : List UInt8} (hk : k ≠ 0) (hd : d.length ≤ 8192) : rdV c (recL c k d ++ t) = ⟨k, some d, (recL c k d).length, nextV c k d, 0⟩ := by
  obtain ⟨h1, h2, h3, h4, h5, h6, h7⟩ := rec_read (k := k) (d := d) (m := (nextV c k d).toList.take 8) (t := t) hd (by simp)
  rw [show recL c k d ++ t = bodyL k d ++ (nextV c k d).toList.take 8 ++ t from rfl]
  rw [rdV_at ⟨by rw [h2]; exact fun h => hk h.2, by rw [h3]; simp, by rw [h4, UInt64.lt_iff_toNat_lt, ofNat_small hd]; have e : (8192 : UInt64).toNat = 8192 := rfl; omega, by rw [h7], by rw [h2, h5, h6]⟩, h2, h5, h7, recL_length]
end Go.Proofs.Ytdnnojblneccdaa
/-
  headwaterlaw08.lives, RecordNames.
-/
namespace Go.Proofs.Ytdnnojblneccdaa
set_option linter.unusedSimpArgs false
set_option linter.unusedVariables false
open Go
open Enc (enc)
set_option maxRecDepth 100000
theorem F50_noE {H : IHeap} {n e0 : Nat} {c : Dig} {y : Value} {b : List UInt8} (hb : rdC H y = some b) (h : b.length ≤ 2 ^ 39) (he : (rdV c b).e = e0) (h0 : e0 ≠ 0) : F50 [enc c, y] H n = some ⟨.tuple #[enc (⟨0, ⟨none, 0, 0⟩⟩ : Record), .int .i64 0, enc z32, .int .i64 (e0 : Int)], [], n⟩ := by
  subst he; exact F50_no hb h h0
theorem z0e : (rdV z32 [0]).e = 4 := by decide +kernel
theorem z1e : (rdV z32 []).e = 5 := by decide +kernel
noncomputable def F47 : FnI := fn0 (.bool true)
-- headwater/headwaterlaw08.lives [] -> ['Bool'], results [0]
theorem R47 : Ref Try.prog 47 F47 := by
  refine Ref.of_iw dok Try.func47 rfl (by kernel_rfl) fun args H n e hF => ?_
  obtain ⟨rfl, rfl⟩ := fn0_inv hF
  refine ⟨Nat.le_of_ble_eq_true rfl, ?_⟩
  simp only [idxL]
  have hE : Env Try.prog [(50, F50), (54, F54)] D K := env (fnsOk_cons R50 (fnsOk_cons R54 fnsOk_nil))
  refine IW.seq ?_
  refine IW.reg hE ?_
  refine vcS_val rfl rfl (ox_assign (pl rfl)) ?_
  refine vcS_nil ?_
  refine IW.seq ?_
  refine IW.reg hE ?_
  refine vcS_val rfl rfl (ox_buildA0 (cs := encs (Vector.replicate 32 (0 : UInt8)).toList) D_24 rfl D_5 rfl) ?_
  refine vcS_new rfl rfl (ox_bsl (cs := encs [(0 : UInt8)]) D_35 rfl D_5 (Nat.le_of_ble_eq_true rfl) rfl (by kernel_rfl)) (.inl (by omega)) ?_
  refine vcS_ups rfl rfl (ox_fn rfl rfl (F50_noE (b := [0]) (rdC_1all (hp_eq _ _ _ _) rfl) (by decide) z0e (by decide))) rfl trivial ?_
  refine vcS_val rfl rfl (ox_move (pl rfl)) ?_
  refine vcS_val rfl rfl (ox_extract (pl rfl) rfl) ?_
  refine vcS_val rfl rfl (ox_extract (pl rfl) rfl) ?_
  refine vcS_val rfl rfl (ox_extract (pl rfl) rfl) ?_
  refine vcS_val rfl rfl (ox_extract (pl rfl) rfl) ?_
  refine vcS_new rfl rfl (ox_allocZ D_69 (zero_69 D_69)) (.inl (by omega)) ?_
  refine vcS_new rfl rfl (ox_allocZ (cs := encs (Vector.replicate 32 (0 : UInt8)).toList) D_24 rfl) (.inl (by omega)) ?_
  refine vcS_sto rfl rfl (ox_store (pl rfl) (pl rfl) D_69 (hp_sk (by omega) (hp_eq _ _ _ _)) (cellsOf_Record _) (Record.cells_length _) (Record.le _ rfl) (Record.cells_known _) (wr_all (by simp only [Record.cells_length]))) (.inl (by omega)) ?_
  refine vcS_val rfl rfl (ox_assign (pl rfl)) ?_
  refine vcS_sto rfl rfl (ox_store (pl rfl) (pl rfl) D_24 (hp_sk (by omega) (hp_eq _ _ _ _)) rfl (encs_vec_length _) (le_vec _ rfl) (encs_known _) (wr_all (by simp only [encs_vec_length]))) (.inl (by omega)) ?_
  refine vcS_val rfl rfl (ox_assign (pl rfl)) ?_
  refine vcS_nil ?_
  refine IW.seq ?_
  refine IW.reg hE ?_
  refine vcS_val rfl rfl (ox_buildA0 (cs := encs (Vector.replicate 32 (0 : UInt8)).toList) D_24 rfl D_5 rfl) ?_
  refine vcS_ups rfl rfl (ox_fn rfl rfl (F50_noE (b := []) rfl (by decide) z1e (by decide))) rfl trivial ?_
  refine vcS_val rfl rfl (ox_move (pl rfl)) ?_
  refine vcS_val rfl rfl (ox_extract (pl rfl) rfl) ?_
  refine vcS_val rfl rfl (ox_extract (pl rfl) rfl) ?_
  refine vcS_val rfl rfl (ox_extract (pl rfl) rfl) ?_
  refine vcS_val rfl rfl (ox_extract (pl rfl) rfl) ?_
  refine vcS_new rfl rfl (ox_allocZ D_69 (zero_69 D_69)) (.inl (by omega)) ?_
  refine vcS_new rfl rfl (ox_allocZ (cs := encs (Vector.replicate 32 (0 : UInt8)).toList) D_24 rfl) (.inl (by omega)) ?_
  refine vcS_sto rfl rfl (ox_store (pl rfl) (pl rfl) D_69 (hp_sk (by omega) (hp_eq _ _ _ _)) (cellsOf_Record _) (Record.cells_length _) (Record.le _ rfl) (Record.cells_known _) (wr_all (by simp only [Record.cells_length]))) (.inl (by omega)) ?_
  refine vcS_val rfl rfl (ox_assign (pl rfl)) ?_
  refine vcS_sto rfl rfl (ox_store (pl rfl) (pl rfl) D_24 (hp_sk (by omega) (hp_eq _ _ _ _)) rfl (encs_vec_length _) (le_vec _ rfl) (encs_known _) (wr_all (by simp only [encs_vec_length]))) (.inl (by omega)) ?_
  refine vcS_val rfl rfl (ox_assign (pl rfl)) ?_
  refine vcS_nil ?_
  refine IW.seq ?_
  refine IW.reg hE ?_
  refine vcS_new rfl rfl (ox_bsl (cs := encs [(97 : UInt8), 98, 99]) D_35 rfl D_5 (Nat.le_of_ble_eq_true rfl) rfl (by kernel_rfl)) (.inl (by omega)) ?_
  refine vcS_ups rfl rfl (ox_cvSl (pl rfl) D_35 rfl D_5 rfl (hp_eq _ _ _ _)) rfl ⟨.inl (by omega), trivial⟩ ?_
  refine vcS_val rfl rfl (ox_buildZ D_69 (zero_69 D_69) rfl rfl (fill_cons (pl_mk rfl D_5) rfl rfl (Record.le _ rfl) (wr_69_0 _ (1 : UInt8)) (fill_cons (pl_mk rfl D_35) rfl rfl (Record.le _ rfl) (wr_69_1 _ ⟨some ⟨n + 1 + 1 + 1 + 1 + 1, 0, none⟩, 3, 3⟩) fill_nil))) ?_
  refine vcS_val rfl rfl (ox_fn rfl rfl (recF_ev (a := (⟨1, ⟨some ⟨n + 1 + 1 + 1 + 1 + 1, 0, none⟩, 3, 3⟩⟩ : Record)) (c := [97, 98, 99]) (rdC_1all (hp_eq _ _ _ _) rfl) (by decide) rfl)) ?_
  refine vcS_val rfl rfl (ox_bin (pl rfl) (pl rfl) ((bo_i64_eql _ _).trans (congrArg (fun b => some (Value.bool b)) (show _ = true by kernel_rfl)))) ?_
  refine vcS_val rfl rfl (ox_move (pl rfl)) ?_
  refine vcS_T rfl (wgT rfl rfl rfl) rfl (ox_move (pl rfl)) rfl trivial ?_
  refine vcS_T rfl (wgT rfl rfl rfl) rfl (ox_bin (pl rfl) (pl rfl) ((bo_i64_eql _ _).trans (congrArg (fun b => some (Value.bool b)) (show _ = true by kernel_rfl)))) rfl trivial ?_
  refine vcS_val rfl rfl (ox_and (pl rfl) (fun hc => pl rfl) (pl rfl)) ?_
  refine vcS_val rfl rfl (ox_move (pl rfl)) ?_
  refine vcS_T rfl (wgT rfl rfl rfl) rfl (ox_move (pl rfl)) rfl trivial ?_
  refine vcS_T rfl (wgT rfl rfl rfl) rfl (ox_bin (pl rfl) (pl rfl) ((bo_i64_eql _ _).trans (congrArg (fun b => some (Value.bool b)) (show _ = true by kernel_rfl)))) rfl trivial ?_
  refine vcS_val rfl rfl (ox_and (pl rfl) (fun hc => pl rfl) (pl rfl)) ?_
  refine vcS_val rfl rfl (ox_assign (pl rfl)) ?_
  refine vcS_nil ?_
  refine IW.ret ?_
  exact RetP.ret (.inr rfl) rfl rfl trivial (rfl)
def xy : List UInt8 := [120, 121]
def c3 : Dig := digV (wordL 3 8)
def c4 : Dig := digV (wordL 4 8)
def R3 : List UInt8 := recL c3 9 xy
theorem R3_length : R3.length = 12 := by
  unfold R3
  rw [recL_length]; decide
theorem R3_0 : R3.getD 0 0 = 9 := by simp [R3, recL, bodyL, blkL]
theorem R3_1 : R3.getD 1 0 = 2 := by
  have : numL (UInt64.ofNat xy.length) = [2] := by decide
  simp [R3, recL, bodyL, blkL, this]
theorem R3_read : rdV c3 (R3 ++ [7]) = ⟨9, some xy, 12, nextV c3 9 xy, 0⟩ := by
  rw [show R3 = recL c3 9 xy from rfl, rec_ok (by decide) (by decide)]
  rw [← R3_length]; rfl
theorem R3_ne : (nextV c3 9 xy).toList.take 8 ≠ (nextV c4 9 xy).toList.take 8 := by decide +kernel
theorem R3_bad : (rdV c4 R3).e = 4 := by
  have := rec_bad (c := c4) (k := 9) (d := xy) (m := (nextV c3 9 xy).toList.take 8) (t := []) (by decide) (by decide) (by simp) R3_ne
  rw [List.append_nil] at this
  exact this
theorem own_open {x : Value} {H : IHeap} {n k : Nat} {l : List UInt8} (hl : rdC H x = some l) (hk : l.length = k) (h0 : k ≠ 0) (hle : k ≤ 2 ^ 47) : F36 [x] H n = some ⟨.slice (some ⟨n, 0, some 1⟩) k k, [(n, some (.cells (encs l) false))], n + 1⟩ := by
  subst hk
  have hfs : fsp l.length = some 1 := if_neg h0
  rw [← hfs]; exact own_ev2 hl hle
theorem F49_okL {H : IHeap} {n L : Nat} {c : Dig} {a : Record} {d : List UInt8} (hd : rdC H (enc a.data) = some d) (hl : d.length ≤ 2 ^ 39) (h0 : chk a.kind d.length = 0) (hL : (recL c a.kind d).length = L) : F49 [enc c, enc a] H n = some ⟨.tuple #[.slice (some ⟨n, 0, some 1⟩) L L, enc (nextV c a.kind d), .int .i64 0], [(n, some (.cells (encs (recL c a.kind d)) false))], n + 1⟩ := by
  subst hL
  exact recFc_ev hd hl (if_pos h0)
theorem F49_no {H : IHeap} {n : Nat} {c : Dig} {a : Record} {d : List UInt8} (hd : rdC H (enc a.data) = some d) (hl : d.length ≤ 2 ^ 39) (h0 : chk a.kind d.length ≠ 0) : F49 [enc c, enc a] H n = some ⟨.tuple #[.slice none 0 0, enc (Vector.replicate 32 (0 : UInt8)), .int .i64 2], [], n⟩ :=
  recFc_ev hd hl (if_neg h0)
theorem eq_to {b : Bool} (h : b = true) : (some (Value.bool b)) = some (.bool true) := by rw [h]
noncomputable def F12 : FnI := fn0 (.bool true)
set_option maxHeartbeats 1000000
-- headwater/headwaterlaw08.RecordNames [] -> ['Bool'], results [0]
theorem R12 : Ref Try.prog 12 F12 := by
  refine Ref.of_iw dok Try.func12 rfl (by kernel_rfl) fun args H n e hF => ?_
  obtain ⟨rfl, rfl⟩ := fn0_inv hF
  refine ⟨Nat.le_of_ble_eq_true rfl, ?_⟩
  simp only [idxL]
  have hE : Env Try.prog [(36, F36), (47, F47), (48, F48), (49, F49), (50, F50), (51, F51), (53, F53), (54, F54), (55, F55)] D K := env (fnsOk_cons R36 (fnsOk_cons R47 (fnsOk_cons R48 (fnsOk_cons R49 (fnsOk_cons R50 (fnsOk_cons R51 (fnsOk_cons R53 (fnsOk_cons R54 (fnsOk_cons R55 fnsOk_nil)))))))))
  refine IW.seq ?_
  refine IW.reg hE ?_
  refine vcS_val rfl rfl (ox_assign (pl rfl)) ?_
  refine vcS_nil ?_
  refine IW.seq ?_
  refine IW.reg hE ?_
  refine vcS_val rfl rfl (ox_fn rfl rfl (fn1_to (3 : UInt64) (v := enc c3) rfl)) ?_
  refine vcS_new rfl rfl (ox_allocZ (cs := encs (Vector.replicate 32 (0 : UInt8)).toList) D_24 rfl) (.inl (by omega)) ?_
  refine vcS_sto rfl rfl (ox_store (pl rfl) (pl rfl) D_24 (hp_eq _ _ _ _) rfl (encs_vec_length _) (le_vec _ rfl) (encs_known _) (wr_all (by simp only [encs_vec_length]))) (.inl (by omega)) ?_
  refine vcS_nil ?_
  refine IW.seq ?_
  refine IW.reg hE ?_
  refine vcS_val rfl rfl (ox_load (pl rfl) D_24 (hp_eq _ _ _ _) (rd_all rfl (encs_vec_length _))) ?_
  refine vcS_new rfl rfl (ox_bsl (cs := encs [(120 : UInt8), 121]) D_35 rfl D_5 (Nat.le_of_ble_eq_true rfl) rfl (by kernel_rfl)) (.inl (by omega)) ?_
  refine vcS_ups rfl rfl (ox_cvSl (pl rfl) D_35 rfl D_5 rfl (hp_eq _ _ _ _)) rfl ⟨.inl (by omega), trivial⟩ ?_
  refine vcS_val rfl rfl (ox_buildZ D_69 (zero_69 D_69) rfl rfl (fill_cons (pl_mk rfl D_5) rfl rfl (Record.le _ rfl) (wr_69_0 _ (9 : UInt8)) (fill_cons (pl_mk rfl D_35) rfl rfl (Record.le _ rfl) (wr_69_1 _ ⟨some ⟨n + 1, 0, none⟩, 2, 2⟩) fill_nil))) ?_
  refine vcS_ups rfl rfl (ox_fn rfl rfl (F49_okL (c := c3) (a := (⟨9, ⟨some ⟨n + 1, 0, none⟩, 2, 2⟩⟩ : Record)) (d := xy) (L := 12) (rdC_1all (hp_eq _ _ _ _) rfl) (by decide) (show chk 9 2 = 0 by decide) R3_length)) rfl ⟨.inl (by omega), trivial⟩ ?_
  refine vcS_val rfl rfl (ox_move (pl rfl)) ?_
  refine vcS_val rfl rfl (ox_extract (pl rfl) rfl) ?_
  refine vcS_val rfl rfl (ox_extract (pl rfl) rfl) ?_
  refine vcS_val rfl rfl (ox_extract (pl rfl) rfl) ?_
  refine vcS_new rfl rfl (ox_allocZ (cs := encs (Vector.replicate 32 (0 : UInt8)).toList) D_24 rfl) (.inl (by omega)) ?_
  refine vcS_val rfl rfl (ox_assign (pl rfl)) ?_
  refine vcS_sto rfl rfl (ox_store (pl rfl) (pl rfl) D_24 (hp_eq _ _ _ _) rfl (encs_vec_length _) (le_vec _ rfl) (encs_known _) (wr_all (by simp only [encs_vec_length]))) (.inl (by omega)) ?_
  refine vcS_val rfl rfl (ox_assign (pl rfl)) ?_
  refine vcS_nil ?_
  refine IW.seq ?_
  refine IW.drw hE mixed [[],[],[1],[],[1,2,3],[0,1,2,3,4],[0,1,2,3,4,5],[0,1,2,3,4,5,6],[0,1,2,3,4,5,6],[0,1,2,3,4,5,6],[0,1,2,3,4,5,6],[],[],[0,1,2,3,4,5,6,7,11,12],[0,1,2,3,4,5,6,7,8,11,12,13],[0,1,2,3,4,5,6,7,8,9,11,12,13,14],[0,1,2,3,4,5,6,7,8,9,10,11,12,13,14,15]] (by kernel_rfl) (vcE_start ?_)
  refine vcE_val rfl rfl rfl rfl (ox_load (pl rfl) D_24 (hp_sk (by omega) (hp_sk (by omega) (hp_sk (by omega) (hp_sk (by omega) (hp_sk (by omega) (hp_eq _ _ _ _)))))) (rd_all rfl (encs_vec_length _))) rfl (si_load (pl rfl)) (lt1 (by omega)) (trivial) ?_
  refine vcE_bl rfl rfl (fun _ => ox_move (pl rfl)) rfl rfl ?_
  refine vcE_callN rfl rfl rfl rfl (ox_fn rfl rfl (own_open (l := R3) (k := 12) (rdC_1all (hp_sk (by omega) (hp_sk (by omega) (hp_eq _ _ _ _))) R3_length) R3_length (by decide) (by decide))) rfl ltu0 ⟨⟨.inl (by omega), by omega, by omega⟩, trivial⟩ (by omega) (trivial) ?_
  refine vcE_new rfl rfl (fun _ => ox_bsl (cs := encs [(7 : UInt8)]) D_35 rfl D_5 (Nat.le_of_ble_eq_true rfl) rfl (by kernel_rfl)) rfl rfl (.inl (by omega)) ?_
  refine vcE_app2 [n + 1 + 1 + 1 + 1, n + 1 + 1 + 1 + 1 + 1] rfl rfl rfl rfl (ox_appOE (α := UInt8) (l1 := R3) (l := [7]) (k := 1) (len2 := 13) (pl rfl) (pl rfl) D_35 rfl D_5 rfl rfl (srcArg_k D_35 rfl rfl (rdC_1all (hp_eq _ _ _ _) rfl) rfl) rfl (hp_sk (by omega) (hp_eq _ _ _ _)) R3_length rfl (by decide) (by decide)) rfl rfl (.inl (by omega)) (by simp) (is_some (hp_sk (by omega) (hp_eq _ _ _ _))) (by omega) (.inl (by omega)) (lt2 (by omega) (by omega)) (⟨trivial, ⟨trivial, trivial⟩⟩) (⟨trivial, ⟨cn1 (n0 := 0) (by omega), trivial⟩⟩) ?_
  refine vcE_callN rfl rfl rfl rfl (ox_fn rfl rfl (F50_ok (b := R3 ++ [7]) (l := xy) (rdC_1all (hp_eq _ _ _ _) (by rw [List.length_append, R3_length]; rfl)) (by rw [List.length_append, R3_length]; decide) R3_read rfl rfl)) rfl (ltuc (by omega) (ltuc (by omega) (ltuc (by omega) (ltuc (by omega) ltu0)))) ⟨⟨.inl (by omega), by omega, by omega⟩, trivial⟩ (by omega) (⟨trivial, ⟨trivial, ⟨trivial, trivial⟩⟩⟩) ?_
  refine vcE_bl rfl rfl (fun _ => ox_move (pl rfl)) rfl rfl ?_
  refine vcE_bl rfl rfl (fun _ => ox_extract (pl rfl) rfl) rfl rfl ?_
  refine vcE_bl rfl rfl (fun _ => ox_extract (pl rfl) rfl) rfl rfl ?_
  refine vcE_bl rfl rfl (fun _ => ox_extract (pl rfl) rfl) rfl rfl ?_
  refine vcE_bl rfl rfl (fun _ => ox_extract (pl rfl) rfl) rfl rfl ?_
  refine vcE_new rfl rfl (fun _ => ox_allocZ D_69 (zero_69 D_69)) rfl rfl (.inl (by omega)) ?_
  refine vcE_new rfl rfl (fun _ => ox_allocZ (cs := encs (Vector.replicate 32 (0 : UInt8)).toList) D_24 rfl) rfl rfl (.inl (by omega)) ?_
  refine vcE_sto rfl rfl rfl rfl (ox_store (pl rfl) (pl rfl) D_69 (hp_sk (by omega) (hp_eq _ _ _ _)) (cellsOf_Record _) (Record.cells_length _) (Record.le _ rfl) (Record.cells_known _) (wr_all (by simp only [Record.cells_length]))) rfl (si_store (pl rfl)) (is_some (hp_sk (by omega) (hp_eq _ _ _ _))) (by omega) (.inl (by omega)) (⟨trivial, ⟨trivial, ⟨trivial, ⟨trivial, ⟨trivial, ⟨trivial, trivial⟩⟩⟩⟩⟩⟩) (⟨trivial, ⟨trivial, ⟨trivial, ⟨trivial, trivial⟩⟩⟩⟩) ?_
  refine vcE_bl rfl rfl (fun _ => ox_assign (pl rfl)) rfl rfl ?_
  refine vcE_sto rfl rfl rfl rfl (ox_store (pl rfl) (pl rfl) D_24 (hp_sk (by omega) (hp_eq _ _ _ _)) rfl (encs_vec_length _) (le_vec _ rfl) (encs_known _) (wr_all (by simp only [encs_vec_length]))) rfl (si_store (pl rfl)) (is_some (hp_sk (by omega) (hp_eq _ _ _ _))) (by omega) (.inl (by omega)) (⟨trivial, ⟨trivial, ⟨trivial, ⟨trivial, ⟨trivial, ⟨trivial, ⟨trivial, trivial⟩⟩⟩⟩⟩⟩⟩) (⟨trivial, ⟨trivial, ⟨trivial, ⟨trivial, ⟨trivial, trivial⟩⟩⟩⟩⟩) ?_
  refine vcE_bl rfl rfl (fun _ => ox_assign (pl rfl)) rfl rfl ?_
  refine vcE_nil ?_
  refine IW.seq ?_
  refine IW.reg hE ?_
  refine vcS_val rfl rfl (ox_fn rfl rfl (fn1_to (4 : UInt64) (v := enc c4) rfl)) ?_
  refine vcS_val rfl rfl (ox_move (pl rfl)) ?_
  refine vcS_ups rfl rfl (ox_fn rfl rfl (F50_noE (c := c4) (b := R3) (rdC_1all (hp_sk (by omega) (hp_sk (by omega) (hp_sk (by omega) (hp_sk (by omega) (hp_sk (by omega) (hp_sk (by omega) (hp_sk (by omega) (hp_sk (by omega) (hp_sk (by omega) (hp_sk (by omega) (hp_sk (by omega) (hp_eq _ _ _ _)))))))))))) R3_length) (by rw [R3_length]; decide) R3_bad (by decide))) rfl trivial ?_
  refine vcS_val rfl rfl (ox_move (pl rfl)) ?_
  refine vcS_val rfl rfl (ox_extract (pl rfl) rfl) ?_
  refine vcS_val rfl rfl (ox_extract (pl rfl) rfl) ?_
  refine vcS_val rfl rfl (ox_extract (pl rfl) rfl) ?_
  refine vcS_val rfl rfl (ox_extract (pl rfl) rfl) ?_
  refine vcS_new rfl rfl (ox_allocZ D_69 (zero_69 D_69)) (.inl (by omega)) ?_
  refine vcS_new rfl rfl (ox_allocZ (cs := encs (Vector.replicate 32 (0 : UInt8)).toList) D_24 rfl) (.inl (by omega)) ?_
  refine vcS_sto rfl rfl (ox_store (pl rfl) (pl rfl) D_69 (hp_sk (by omega) (hp_eq _ _ _ _)) (cellsOf_Record _) (Record.cells_length _) (Record.le _ rfl) (Record.cells_known _) (wr_all (by simp only [Record.cells_length]))) (.inl (by omega)) ?_
  refine vcS_val rfl rfl (ox_assign (pl rfl)) ?_
  refine vcS_sto rfl rfl (ox_store (pl rfl) (pl rfl) D_24 (hp_sk (by omega) (hp_eq _ _ _ _)) rfl (encs_vec_length _) (le_vec _ rfl) (encs_known _) (wr_all (by simp only [encs_vec_length]))) (.inl (by omega)) ?_
  refine vcS_val rfl rfl (ox_assign (pl rfl)) ?_
  refine vcS_nil ?_
  refine IW.seq ?_
  refine IW.reg hE ?_
  refine vcS_val rfl rfl (ox_load (pl rfl) D_24 (hp_sk (by omega) (hp_sk (by omega) (hp_sk (by omega) (hp_sk (by omega) (hp_sk (by omega) (hp_sk (by omega) (hp_sk (by omega) (hp_sk (by omega) (hp_sk (by omega) (hp_sk (by omega) (hp_sk (by omega) (hp_sk (by omega) (hp_sk (by omega) (hp_sk (by omega) (hp_sk (by omega) (hp_sk (by omega) (hp_sk (by omega) (hp_sk (by omega) (hp_eq _ _ _ _))))))))))))))))))) (rd_all rfl (encs_vec_length _))) ?_
  refine vcS_val rfl rfl (ox_buildZ D_69 (zero_69 D_69) rfl rfl fill_nil) ?_
  refine vcS_ups rfl rfl (ox_fn rfl rfl (F49_no (c := c3) (a := Record.zero) (d := []) rfl (by decide) (by decide))) rfl trivial ?_
  refine vcS_val rfl rfl (ox_move (pl rfl)) ?_
  refine vcS_val rfl rfl (ox_extract (pl rfl) rfl) ?_
  refine vcS_val rfl rfl (ox_extract (pl rfl) rfl) ?_
  refine vcS_val rfl rfl (ox_extract (pl rfl) rfl) ?_
  refine vcS_new rfl rfl (ox_allocZ (cs := encs (Vector.replicate 32 (0 : UInt8)).toList) D_24 rfl) (.inl (by omega)) ?_
  refine vcS_val rfl rfl (ox_assign (pl rfl)) ?_
  refine vcS_sto rfl rfl (ox_store (pl rfl) (pl rfl) D_24 (hp_eq _ _ _ _) rfl (encs_vec_length _) (le_vec _ rfl) (encs_known _) (wr_all (by simp only [encs_vec_length]))) (.inl (by omega)) ?_
  refine vcS_val rfl rfl (ox_assign (pl rfl)) ?_
  refine vcS_nil ?_
  refine IW.seq ?_
  refine IW.reg hE ?_
  refine vcS_val rfl rfl (ox_fn rfl rfl (fn0_ev _ _ _)) ?_
  refine vcS_val rfl rfl (ox_move (pl rfl)) ?_
  refine vcS_T rfl (wgT rfl rfl rfl) rfl (ox_move (pl rfl)) rfl trivial ?_
  refine vcS_T rfl (wgT rfl rfl rfl) rfl (ox_bin (pl rfl) (pl rfl) ((bo_i64_eql _ _).trans (congrArg (fun b => some (Value.bool b)) (show _ = true by kernel_rfl)))) rfl trivial ?_
  refine vcS_val rfl rfl (ox_and (pl rfl) (fun hc => pl rfl) (pl rfl)) ?_
  refine vcS_val rfl rfl (ox_move (pl rfl)) ?_
  refine vcS_T rfl (wgT rfl rfl rfl) rfl (ox_move (pl rfl)) rfl trivial ?_
  refine vcS_T rfl (wgT rfl rfl rfl) rfl (ox_len (pl rfl) D_35 rfl) rfl trivial ?_
  refine vcS_T rfl (wgT rfl rfl rfl) rfl (ox_bin (pl rfl) (pl rfl) ((bo_i64_eql _ _).trans (eq_to rfl))) rfl trivial ?_
  refine vcS_val rfl rfl (ox_and (pl rfl) (fun hc => pl rfl) (pl rfl)) ?_
  refine vcS_val rfl rfl (ox_move (pl rfl)) ?_
  refine vcS_T rfl (wgT rfl rfl rfl) rfl (ox_move (pl rfl)) rfl trivial ?_
  refine vcS_T rfl (wgT rfl rfl rfl) rfl (ox_iaS (pl rfl) (pl rfl) D_35 rfl D_5 (by decide) (by decide)) rfl trivial ?_
  refine vcS_T rfl (wgT rfl rfl rfl) rfl (ox_load (pl rfl) D_5 (hp_sk (by omega) (hp_sk (by omega) (hp_sk (by omega) (hp_sk (by omega) (hp_sk (by omega) (hp_sk (by omega) (hp_sk (by omega) (hp_sk (by omega) (hp_sk (by omega) (hp_sk (by omega) (hp_sk (by omega) (hp_sk (by omega) (hp_sk (by omega) (hp_sk (by omega) (hp_sk (by omega) (hp_sk (by omega) (hp_sk (by omega) (hp_eq _ _ _ _)))))))))))))))))) (rd_ix (0) (0 : UInt8) rfl (rfl) (show 0 < R3.length by rw [R3_length]; decide))) rfl trivial ?_
  refine vcS_T rfl (wgT rfl rfl rfl) rfl (ox_bin (pl rfl) (pl rfl) ((bo_u8_eql (R3.getD 0 0) 9).trans (eq_to (by rw [R3_0]; rfl)))) rfl trivial ?_
  refine vcS_val rfl rfl (ox_and (pl rfl) (fun hc => pl rfl) (pl rfl)) ?_
  refine vcS_val rfl rfl (ox_move (pl rfl)) ?_
  refine vcS_T rfl (wgT rfl rfl rfl) rfl (ox_move (pl rfl)) rfl trivial ?_
  refine vcS_T rfl (wgT rfl rfl rfl) rfl (ox_iaS (pl rfl) (pl rfl) D_35 rfl D_5 (by decide) (by decide)) rfl trivial ?_
  refine vcS_T rfl (wgT rfl rfl rfl) rfl (ox_load (pl rfl) D_5 (hp_sk (by omega) (hp_sk (by omega) (hp_sk (by omega) (hp_sk (by omega) (hp_sk (by omega) (hp_sk (by omega) (hp_sk (by omega) (hp_sk (by omega) (hp_sk (by omega) (hp_sk (by omega) (hp_sk (by omega) (hp_sk (by omega) (hp_sk (by omega) (hp_sk (by omega) (hp_sk (by omega) (hp_sk (by omega) (hp_sk (by omega) (hp_eq _ _ _ _)))))))))))))))))) (rd_ix (1) (0 : UInt8) rfl (rfl) (show 1 < R3.length by rw [R3_length]; decide))) rfl trivial ?_
  refine vcS_T rfl (wgT rfl rfl rfl) rfl (ox_bin (pl rfl) (pl rfl) ((bo_u8_eql (R3.getD 1 0) 2).trans (eq_to (by rw [R3_1]; rfl)))) rfl trivial ?_
  refine vcS_val rfl rfl (ox_and (pl rfl) (fun hc => pl rfl) (pl rfl)) ?_
  refine vcS_val rfl rfl (ox_move (pl rfl)) ?_
  refine vcS_T rfl (wgT rfl rfl rfl) rfl (ox_move (pl rfl)) rfl trivial ?_
  refine vcS_T rfl (wgT rfl rfl rfl) rfl (ox_bin (pl rfl) (pl rfl) ((bo_i64_eql _ _).trans (congrArg (fun b => some (Value.bool b)) (show _ = true by kernel_rfl)))) rfl trivial ?_
  refine vcS_val rfl rfl (ox_and (pl rfl) (fun hc => pl rfl) (pl rfl)) ?_
  refine vcS_val rfl rfl (ox_move (pl rfl)) ?_
  refine vcS_T rfl (wgT rfl rfl rfl) rfl (ox_move (pl rfl)) rfl trivial ?_
  refine vcS_T rfl (wgT rfl rfl rfl) rfl (ox_bin (pl rfl) (pl rfl) ((bo_i64_eql _ _).trans (congrArg (fun b => some (Value.bool b)) (show _ = true by kernel_rfl)))) rfl trivial ?_
  refine vcS_val rfl rfl (ox_and (pl rfl) (fun hc => pl rfl) (pl rfl)) ?_
  refine vcS_val rfl rfl (ox_move (pl rfl)) ?_
  refine vcS_T rfl (wgT rfl rfl rfl) rfl (ox_load (pl rfl) D_24 (hp_sk (by omega) (hp_sk (by omega) (hp_sk (by omega) (hp_sk (by omega) (hp_sk (by omega) (hp_sk (by omega) (hp_eq _ _ _ _))))))) (rd_all rfl (encs_vec_length _))) rfl trivial ?_
  refine vcS_T rfl (wgT rfl rfl rfl) rfl (ox_load (pl rfl) D_24 (hp_sk (by omega) (hp_sk (by omega) (hp_sk (by omega) (hp_sk (by omega) (hp_sk (by omega) (hp_sk (by omega) (hp_sk (by omega) (hp_sk (by omega) (hp_sk (by omega) (hp_sk (by omega) (hp_sk (by omega) (hp_sk (by omega) (hp_sk (by omega) (hp_sk (by omega) (hp_sk (by omega) (hp_eq _ _ _ _)))))))))))))))) (rd_all rfl (encs_vec_length _))) rfl trivial ?_
  refine vcS_T rfl (wgT rfl rfl rfl) rfl (ox_bin (pl rfl) (pl rfl) ((eq_vec K_24 cellEq_u8 _ _).trans (eq_same _))) rfl trivial ?_
  refine vcS_val rfl rfl (ox_and (pl rfl) (fun hc => pl rfl) (pl rfl)) ?_
  refine vcS_val rfl rfl (ox_move (pl rfl)) ?_
  refine vcS_T rfl (wgT rfl rfl rfl) rfl (ox_load (pl rfl) D_69 (hp_sk (by omega) (hp_sk (by omega) (hp_sk (by omega) (hp_sk (by omega) (hp_sk (by omega) (hp_sk (by omega) (hp_sk (by omega) (hp_eq _ _ _ _)))))))) (rd_69 _ rfl rfl)) rfl trivial ?_
  refine vcS_T rfl (wgT rfl rfl rfl) rfl (ox_bsl (cs := encs [(120 : UInt8), 121]) D_35 rfl D_5 (Nat.le_of_ble_eq_true rfl) rfl (by kernel_rfl)) rfl ⟨.inl (by omega), trivial⟩ ?_
  refine vcS_T rfl (wgT rfl rfl rfl) rfl (ox_cvSl (pl rfl) D_35 rfl D_5 rfl (hp_eq _ _ _ _)) rfl ⟨.inl (by omega), trivial⟩ ?_
  refine vcS_T rfl (wgT rfl rfl rfl) rfl (ox_buildZ D_69 (zero_69 D_69) rfl rfl (fill_cons (pl_mk rfl D_5) rfl rfl (Record.le _ rfl) (wr_69_0 _ (9 : UInt8)) (fill_cons (pl_mk rfl D_35) rfl rfl (Record.le _ rfl) (wr_69_1 _ ⟨some ⟨n + 1 + 1 + 1 + 1 + 1 + 1 + 1 + 1 + 1 + 1 + 1 + 1 + 1, 0, none⟩, 2, 2⟩) fill_nil))) rfl trivial ?_
  refine vcS_T rfl (wgT rfl rfl rfl) rfl (ox_fn rfl rfl ((recF2_ev (a := (⟨9, ⟨some ⟨n + 1 + 1 + 1 + 1 + 1 + 1 + 1, 0, none⟩, 2, 2⟩⟩ : Record)) (b := (⟨9, ⟨some ⟨n + 1 + 1 + 1 + 1 + 1 + 1 + 1 + 1 + 1 + 1 + 1 + 1 + 1, 0, none⟩, 2, 2⟩⟩ : Record)) (c := xy) (d := xy) (rdC_1all (hp_sk (by omega) (hp_sk (by omega) (hp_sk (by omega) (hp_sk (by omega) (hp_sk (by omega) (hp_sk (by omega) (hp_sk (by omega) (hp_sk (by omega) (hp_sk (by omega) (hp_sk (by omega) (hp_sk (by omega) (hp_sk (by omega) (hp_eq _ _ _ _))))))))))))) rfl) (rdC_1all (hp_eq _ _ _ _) rfl)).trans (show _ = some (⟨.bool true, [], _⟩ : Eff) from rfl))) rfl trivial ?_
  refine vcS_val rfl rfl (ox_and (pl rfl) (fun hc => pl rfl) (pl rfl)) ?_
  refine vcS_val rfl rfl (ox_move (pl rfl)) ?_
  refine vcS_T rfl (wgT rfl rfl rfl) rfl (ox_move (pl rfl)) rfl trivial ?_
  refine vcS_T rfl (wgT rfl rfl rfl) rfl (ox_bin (pl rfl) (pl rfl) ((bo_i64_eql _ _).trans (congrArg (fun b => some (Value.bool b)) (show _ = true by kernel_rfl)))) rfl trivial ?_
  refine vcS_val rfl rfl (ox_and (pl rfl) (fun hc => pl rfl) (pl rfl)) ?_
  refine vcS_val rfl rfl (ox_move (pl rfl)) ?_
  refine vcS_T rfl (wgT rfl rfl rfl) rfl (ox_move (pl rfl)) rfl trivial ?_
  refine vcS_T rfl (wgT rfl rfl rfl) rfl (ox_bin (pl rfl) (pl rfl) ((bo_i64_eql _ _).trans (congrArg (fun b => some (Value.bool b)) (show _ = true by kernel_rfl)))) rfl trivial ?_
  refine vcS_val rfl rfl (ox_and (pl rfl) (fun hc => pl rfl) (pl rfl)) ?_
  refine vcS_val rfl rfl (ox_move (pl rfl)) ?_
  refine vcS_T rfl (wgT rfl rfl rfl) rfl (ox_makeN 8193 8193 (0 : UInt8) (pl rfl) rfl (pl rfl) rfl D_35 rfl D_5 rfl (Nat.le_refl _) (by decide) (by decide)) rfl ⟨.inl (by omega), trivial⟩ ?_
  refine vcS_T rfl (wgT rfl rfl rfl) rfl (ox_buildZ D_69 (zero_69 D_69) rfl rfl (fill_cons (pl_mk rfl D_5) rfl rfl (Record.le _ rfl) (wr_69_0 _ (1 : UInt8)) (fill_cons (pl_mk rfl D_35) rfl rfl (Record.le _ rfl) (wr_69_1 _ ⟨some ⟨n + 1 + 1 + 1 + 1 + 1 + 1 + 1 + 1 + 1 + 1 + 1 + 1 + 1 + 1, 0, none⟩, 8193, 8193⟩) fill_nil))) rfl trivial ?_
  refine vcS_T rfl (wgT rfl rfl rfl) rfl (ox_fn rfl rfl (fn1_ev _ _ _ _)) rfl trivial ?_
  refine vcS_T rfl (wgT rfl rfl rfl) rfl (ox_bin (pl rfl) (pl rfl) ((bo_i64_eql _ _).trans (congrArg (fun b => some (Value.bool b)) (show _ = true by kernel_rfl)))) rfl trivial ?_
  refine vcS_val rfl rfl (ox_and (pl rfl) (fun hc => pl rfl) (pl rfl)) ?_
  refine vcS_val rfl rfl (ox_move (pl rfl)) ?_
  refine vcS_T rfl (wgT rfl rfl rfl) rfl (ox_buildZ D_69 (zero_69 D_69) rfl rfl fill_nil) rfl trivial ?_
  refine vcS_T rfl (wgT rfl rfl rfl) rfl (ox_fn rfl rfl (recF_ev (a := Record.zero) (c := []) rfl (by decide) rfl)) rfl trivial ?_
  refine vcS_T rfl (wgT rfl rfl rfl) rfl (ox_bin (pl rfl) (pl rfl) ((bo_i64_eql _ _).trans (congrArg (fun b => some (Value.bool b)) (show _ = true by kernel_rfl)))) rfl trivial ?_
  refine vcS_val rfl rfl (ox_and (pl rfl) (fun hc => pl rfl) (pl rfl)) ?_
  refine vcS_val rfl rfl (ox_move (pl rfl)) ?_
  refine vcS_T rfl (wgT rfl rfl rfl) rfl (ox_load (pl rfl) D_69 (hp_sk (by omega) (hp_sk (by omega) (hp_sk (by omega) (hp_sk (by omega) (hp_sk (by omega) (hp_sk (by omega) (hp_sk (by omega) (hp_sk (by omega) (hp_sk (by omega) (hp_sk (by omega) (hp_eq _ _ _ _))))))))))) (rd_69 _ rfl rfl)) rfl trivial ?_
  refine vcS_T rfl (wgT rfl rfl rfl) rfl (ox_load (pl rfl) D_69 (hp_sk (by omega) (hp_sk (by omega) (hp_sk (by omega) (hp_sk (by omega) (hp_sk (by omega) (hp_sk (by omega) (hp_sk (by omega) (hp_sk (by omega) (hp_sk (by omega) (hp_sk (by omega) (hp_eq _ _ _ _))))))))))) (rd_69 _ rfl rfl)) rfl trivial ?_
  refine vcS_T rfl (wgT rfl rfl rfl) rfl (ox_fn rfl rfl ((recF2_ev (a := (⟨9, ⟨some ⟨n + 1 + 1 + 1 + 1 + 1 + 1 + 1, 0, none⟩, 2, 2⟩⟩ : Record)) (b := (⟨9, ⟨some ⟨n + 1 + 1 + 1 + 1 + 1 + 1 + 1, 0, none⟩, 2, 2⟩⟩ : Record)) (c := xy) (d := xy) (rdC_1all (hp_sk (by omega) (hp_sk (by omega) (hp_sk (by omega) (hp_sk (by omega) (hp_sk (by omega) (hp_sk (by omega) (hp_sk (by omega) (hp_sk (by omega) (hp_sk (by omega) (hp_sk (by omega) (hp_sk (by omega) (hp_sk (by omega) (hp_sk (by omega) (hp_eq _ _ _ _)))))))))))))) rfl) (rdC_1all (hp_sk (by omega) (hp_sk (by omega) (hp_sk (by omega) (hp_sk (by omega) (hp_sk (by omega) (hp_sk (by omega) (hp_sk (by omega) (hp_sk (by omega) (hp_sk (by omega) (hp_sk (by omega) (hp_sk (by omega) (hp_sk (by omega) (hp_sk (by omega) (hp_eq _ _ _ _)))))))))))))) rfl)).trans (show _ = some (⟨.bool true, [], _⟩ : Eff) from rfl))) rfl trivial ?_
  refine vcS_val rfl rfl (ox_and (pl rfl) (fun hc => pl rfl) (pl rfl)) ?_
  refine vcS_val rfl rfl (ox_move (pl rfl)) ?_
  refine vcS_val rfl rfl (ox_and (pl rfl) (fun hc => pl rfl) (pl rfl)) ?_
  refine vcS_val rfl rfl (ox_assign (pl rfl)) ?_
  refine vcS_nil ?_
  refine IW.ret ?_
  exact RetP.ret (.inr rfl) rfl rfl trivial (rfl)
end Go.Proofs.Ytdnnojblneccdaa
