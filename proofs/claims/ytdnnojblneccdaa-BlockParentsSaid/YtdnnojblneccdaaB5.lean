/-
  slices.Grow of nil.
-/
import Derived.Test.YtdnnojblneccdaaB4
import Derived.Test.YtdnnojblneccdaaE32
namespace Go.Proofs.Ytdnnojblneccdaa
set_option linter.unusedSimpArgs false
set_option linter.unusedVariables false
open Go
open Enc (enc)
set_option maxRecDepth 100000

/-- nothing, with room for k -/
def growE (sz : Nat) (z : List Value) (n k : Nat) : Eff := if k = 0 then ⟨.slice none 0 0, [], n⟩ else ⟨.slice (some ⟨n, 0, some sz⟩) 0 k, [(n, some (.cells ((List.replicate k z).flatten) false))], n + 1⟩
theorem growE_zero {sz : Nat} {z : List Value} {n : Nat} : growE sz z n 0 = ⟨.slice none 0 0, [], n⟩ := rfl
theorem growE_pos {sz : Nat} {z : List Value} {n k : Nat} (h : 0 < k) : growE sz z n k = ⟨.slice (some ⟨n, 0, some sz⟩) 0 k, [(n, some (.cells ((List.replicate k z).flatten) false))], n + 1⟩ := if_neg (by omega)
def growF (sz bytes : Nat) (z : List Value) : FnI := fun args _ n => match args with
  | [.slice none 0 0, .int .i64 k] => if 0 ≤ k ∧ k.toNat * bytes ≤ most then some (growE sz z n k.toNat) else none
  | _ => none
theorem growF_inv {sz bytes : Nat} {z : List Value} {args : List Value} {H : IHeap} {n : Nat} {e : Eff} (h : growF sz bytes z args H n = some e) : ∃ k : Nat, args = [.slice none 0 0, .int .i64 k] ∧ k * bytes ≤ most ∧ e = growE sz z n k := by
  unfold growF at h; split at h
  · rename_i k
    split at h
    · rename_i hk; cases h
      exact ⟨k.toNat, by rw [Int.toNat_of_nonneg hk.1], hk.2, rfl⟩
    · cases h
  · cases h
theorem growF_ev {sz bytes : Nat} {z : List Value} {H : IHeap} {n : Nat} {k : Nat} (hk : k * bytes ≤ most) : growF sz bytes z [.slice none 0 0, .int .i64 k] H n = some (growE sz z n k) := by
  simp only [growF]
  rw [if_pos ⟨by omega, by simpa using hk⟩]; simp
theorem rep_plain {z : List Value} (hz : z.all plain = true) (k : Nat) : ((List.replicate k z).flatten).all plain = true := by
  rw [List.all_eq_true]
  intro x hx
  obtain ⟨l, hl, hx⟩ := List.mem_flatten.1 hx
  rw [(List.mem_replicate.1 hl).2] at hx
  exact List.all_eq_true.1 hz x hx
def zDig : List Value := List.replicate 32 (.int .u8 0)
def F83 : FnI := growF 32 32 zDig
-- slices.Grow[[]headwater/api.Digest,headwater/api.Digest] ['Sl', 'Int'] -> ['Sl'], results [4]
theorem R83 : Ref Try.prog 83 F83 := by
  refine Ref.of_iw dok Try.func83 rfl (by kernel_rfl) fun args H n e hF => ?_
  obtain ⟨k, rfl, hk, rfl⟩ := growF_inv hF
  have hk1 : k ≤ 2 ^ 47 := by simp only [most] at hk; omega
  refine ⟨Nat.le_of_ble_eq_true rfl, ?_⟩
  simp only [idxL]
  have hE : Env Try.prog [] D K := env fnsOk_nil
  refine IW.seq ?_
  refine IW.reg hE ?_
  refine vcS_val rfl rfl (ox_assign (pl rfl)) ?_
  refine vcS_nil ?_
  refine IW.seq ?_
  refine IW.seq ?_
  refine IW.reg hE ?_
  refine vcS_val rfl rfl (ox_move (pl rfl)) ?_
  refine vcS_val rfl rfl (ox_bin (pl rfl) (pl rfl) (bo_i64_lss _ _)) ?_
  refine vcS_nil ?_
  refine IW.cond rfl (fun hc1 => ?_) (fun hc1 => ?_)
  · exact absurd (of_decide_eq_true hc1) (by omega)
  · replace hc1 := of_decide_eq_false hc1
    refine IW.skip ?_
    refine IW.seq ?_
    refine IW.seq ?_
    refine IW.reg hE ?_
    refine vcS_val rfl rfl (ox_move (pl rfl)) ?_
    refine vcS_val rfl rfl (ox_move (pl rfl)) ?_
    refine vcS_val rfl rfl (ox_capN (pl rfl) D_34 rfl) ?_
    refine vcS_val rfl rfl (ox_move (pl rfl)) ?_
    refine vcS_val rfl rfl (ox_len (pl rfl) D_34 rfl) ?_
    refine vcS_val rfl rfl (ox_bin (pl rfl) (pl rfl) (bo_i64_sub (by omega))) ?_
    refine vcS_val rfl rfl (ox_bin (pl rfl) (pl rfl) (bo_i64_sub (by omega))) ?_
    refine vcS_val rfl rfl (ox_assign (pl rfl)) ?_
    refine vcS_nil ?_
    refine IW.seq ?_
    refine IW.reg hE ?_
    refine vcS_val rfl rfl (ox_move (pl rfl)) ?_
    refine vcS_val rfl rfl (ox_bin (pl rfl) (pl rfl) (bo_i64_gtr _ _)) ?_
    refine vcS_nil ?_
    refine IW.cond rfl (fun hc2 => ?_) (fun hc2 => ?_)
    · replace hc2 := of_decide_eq_true hc2
      refine IW.reg hE ?_
      refine vcS_val rfl rfl (ox_move (pl rfl)) ?_
      refine vcS_val rfl rfl (ox_move (pl rfl)) ?_
      refine vcS_val rfl rfl (ox_capN (pl rfl) D_34 rfl) ?_
      refine vcS_val rfl rfl (ox_slN (pl rfl) D_34 rfl D_24 rfl) ?_
      refine vcS_val rfl rfl (ox_move (pl rfl)) ?_
      refine vcS_new rfl rfl (ox_appZ (pl rfl) ((pl rfl).trans (congrArg (Value.int .i64) (show _ = ((k : Nat) : Int) by omega))) D_34 rfl D_24 D_3 rfl (by omega) hk (by decide)) (.inl (by omega)) ?_
      refine vcS_val rfl rfl (ox_move (pl rfl)) ?_
      refine vcS_val rfl rfl (ox_len (pl rfl) D_34 rfl) ?_
      refine vcS_val rfl rfl (ox_slH (pl rfl) D_34 rfl D_24 (bndI (pl rfl) rfl) (Nat.zero_le _) (.inr rfl)) ?_
      refine vcS_val rfl rfl (ox_assign (pl rfl)) ?_
      refine vcS_nil ?_
      refine IW.seq ?_
      refine IW.reg hE ?_
      refine vcS_val rfl rfl (ox_move (pl rfl)) ?_
      refine vcS_val rfl rfl (ox_assign (pl rfl)) ?_
      refine vcS_nil ?_
      refine IW.ret ?_
      rw [growE_pos (by omega)]; exact RetP.new1 (.inr rfl) (ires_tmp rfl) (Nat.le_refl _) (hp_eq _ _ _ _) (rep_plain (by decide) _)
    · replace hc2 := of_decide_eq_false hc2
      refine IW.skip ?_
      refine IW.seq ?_
      refine IW.reg hE ?_
      refine vcS_val rfl rfl (ox_move (pl rfl)) ?_
      refine vcS_val rfl rfl (ox_assign (pl rfl)) ?_
      refine vcS_nil ?_
      refine IW.ret ?_
      have e0 : k = 0 := by omega
      subst e0; rw [growE_zero]; exact RetP.ret (.inr rfl) rfl rfl trivial rfl
end Go.Proofs.Ytdnnojblneccdaa
