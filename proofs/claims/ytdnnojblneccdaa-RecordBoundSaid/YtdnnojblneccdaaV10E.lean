import Derived.Test.YtdnnojblneccdaaV10D
/-
  Lengths of numbers.
-/
namespace Go.Proofs.Ytdnnojblneccdaa
set_option linter.unusedSimpArgs false
set_option linter.unusedVariables false
open Go
open Enc (enc)
set_option maxRecDepth 100000
def lenT : List UInt8 := [0, 1, 2, 2, 3, 3, 3, 3, 4, 4, 4, 4, 4, 4, 4, 4, 5, 5, 5, 5, 5, 5, 5, 5, 5, 5, 5, 5, 5, 5, 5, 5, 6, 6, 6, 6, 6, 6, 6, 6, 6, 6, 6, 6, 6, 6, 6, 6, 6, 6, 6, 6, 6, 6, 6, 6, 6, 6, 6, 6, 6, 6, 6, 6, 7, 7, 7, 7, 7, 7, 7, 7, 7, 7, 7, 7, 7, 7, 7, 7, 7, 7, 7, 7, 7, 7, 7, 7, 7, 7, 7, 7, 7, 7, 7, 7, 7, 7, 7, 7, 7, 7, 7, 7, 7, 7, 7, 7, 7, 7, 7, 7, 7, 7, 7, 7, 7, 7, 7, 7, 7, 7, 7, 7, 7, 7, 7, 7, 8, 8, 8, 8, 8, 8, 8, 8, 8, 8, 8, 8, 8, 8, 8, 8, 8, 8, 8, 8, 8, 8, 8, 8, 8, 8, 8, 8, 8, 8, 8, 8, 8, 8, 8, 8, 8, 8, 8, 8, 8, 8, 8, 8, 8, 8, 8, 8, 8, 8, 8, 8, 8, 8, 8, 8, 8, 8, 8, 8, 8, 8, 8, 8, 8, 8, 8, 8, 8, 8, 8, 8, 8, 8, 8, 8, 8, 8, 8, 8, 8, 8, 8, 8, 8, 8, 8, 8, 8, 8, 8, 8, 8, 8, 8, 8, 8, 8, 8, 8, 8, 8, 8, 8, 8, 8, 8, 8, 8, 8, 8, 8, 8, 8, 8, 8, 8, 8, 8, 8, 8, 8, 8, 8, 8, 8, 8, 8]
theorem lenT_length : lenT.length = 256 := by decide
def len8 (x : UInt8) : UInt8 := lenT.getD x.toNat 0
noncomputable def F116 : FnI := fn1 fun (x : UInt8) => .int .i64 ((len8 x).toNat : Int)
-- math/bits.Len8 ['UInt8'] -> ['Int'], results [2]
theorem R116 : Ref Try.prog 116 F116 := by
  refine Ref.of_iw dok Try.func116 rfl (by kernel_rfl) fun args H n e hF => ?_
  obtain ⟨a, rfl, rfl⟩ := fn1_inv hF
  refine ⟨Nat.le_of_ble_eq_true rfl, ?_⟩
  simp only [idxL]
  have hE : Env Try.prog [] D K := env fnsOk_nil
  refine IW.seq ?_
  refine IW.reg hE ?_
  refine vcS_val rfl rfl (ox_assign (pl rfl)) ?_
  refine vcS_nil ?_
  refine IW.seq ?_
  refine IW.reg hE ?_
  refine vcS_val rfl rfl (ox_move (pl rfl)) ?_
  refine vcS_val rfl rfl (ox_ixStr a.toNat (pl (v := .string (bs lenT)) rfl) (pl rfl) D_9 rfl rfl (by rw [lenT_length]; exact a.toNat_lt)) ?_
  refine vcS_val rfl rfl (cv_8_i (pl rfl) D_5 D_3 rfl) ?_
  refine vcS_val rfl rfl (ox_assign (pl rfl)) ?_
  refine vcS_nil ?_
  refine IW.ret ?_
  exact RetP.ret (.inr rfl) rfl rfl trivial (rfl)
theorem len8_le (y : UInt8) : (len8 y).toNat ≤ 255 := by have := (len8 y).toNat_lt; omega
noncomputable def F111 : FnI := fn1 fun (x : UInt8) => .int .i64 (8 - ((len8 x).toNat : Int))
-- math/bits.LeadingZeros8 ['UInt8'] -> ['Int'], results [2]
theorem R111 : Ref Try.prog 111 F111 := by
  refine Ref.of_iw dok Try.func111 rfl (by kernel_rfl) fun args H n e hF => ?_
  obtain ⟨a, rfl, rfl⟩ := fn1_inv hF
  have h8 := len8_le a
  refine ⟨Nat.le_of_ble_eq_true rfl, ?_⟩
  simp only [idxL]
  have hE : Env Try.prog [(116, F116)] D K := env (fnsOk_cons R116 fnsOk_nil)
  refine IW.seq ?_
  refine IW.reg hE ?_
  refine vcS_val rfl rfl (ox_assign (pl rfl)) ?_
  refine vcS_nil ?_
  refine IW.seq ?_
  refine IW.reg hE ?_
  refine vcS_val rfl rfl (ox_move (pl rfl)) ?_
  refine vcS_val rfl rfl (ox_fn rfl rfl (fn1_ev _ _ _ _)) ?_
  refine vcS_val rfl rfl (ox_bin (pl rfl) (pl rfl) (bo_i64_sub (by omega))) ?_
  refine vcS_val rfl rfl (ox_assign (pl rfl)) ?_
  refine vcS_nil ?_
  refine IW.ret ?_
  exact RetP.ret (.inr rfl) rfl rfl trivial (rfl)
def l2 (x : UInt64) (k : Nat) : Nat := if 256 ≤ x then k + 8 + (len8 (shr64 x 8).toUInt8).toNat else k + (len8 x.toUInt8).toNat
def l1 (x : UInt64) (k : Nat) : Nat := if 65536 ≤ x then l2 (shr64 x 16) (k + 16) else l2 x k
def len64 (x : UInt64) : Nat := if 4294967296 ≤ x then l1 (shr64 x 32) 32 else l1 x 0
noncomputable def F117 : FnI := fn1 fun (x : UInt64) => .int .i64 (len64 x : Int)
-- math/bits.Len64 ['UInt64'] -> ['Int'], results [2]
theorem R117 : Ref Try.prog 117 F117 := by
  refine Ref.of_iw dok Try.func117 rfl (by kernel_rfl) fun args H n e hF => ?_
  obtain ⟨a, rfl, rfl⟩ := fn1_inv hF
  refine ⟨Nat.le_of_ble_eq_true rfl, ?_⟩
  simp only [idxL]
  have hE : Env Try.prog [] D K := env fnsOk_nil
  refine IW.seq ?_
  refine IW.reg hE ?_
  refine vcS_val rfl rfl (ox_assign (pl rfl)) ?_
  refine vcS_nil ?_
  refine IW.seq ?_
  refine IW.seq ?_
  refine IW.reg hE ?_
  refine vcS_val rfl rfl (ox_move (pl rfl)) ?_
  refine vcS_val rfl rfl (ox_bin (pl rfl) (pl (v := enc (4294967296 : UInt64)) rfl) (bo_u64_geq _ _)) ?_
  refine vcS_nil ?_
  refine IW.cond rfl (fun hc1 => ?_) (fun hc1 => ?_)
  · replace hc1 := of_decide_eq_true hc1
    refine IW.seq ?_
    refine IW.reg hE ?_
    refine vcS_val rfl rfl (ox_move (pl rfl)) ?_
    refine vcS_val rfl rfl (ox_bin (pl rfl) (pl (v := enc (32 : UInt64)) rfl) (bo_u64_shr _ (by omega))) ?_
    refine vcS_val rfl rfl (ox_assign (pl rfl)) ?_
    refine vcS_nil ?_
    refine IW.reg hE ?_
    refine vcS_val rfl rfl (ox_assign (pl rfl)) ?_
    refine vcS_nil ?_
    refine IW.seq ?_
    refine IW.seq ?_
    refine IW.reg hE ?_
    refine vcS_val rfl rfl (ox_move (pl rfl)) ?_
    refine vcS_val rfl rfl (ox_bin (pl rfl) (pl (v := enc (65536 : UInt64)) rfl) (bo_u64_geq _ _)) ?_
    refine vcS_nil ?_
    refine IW.cond rfl (fun hc2 => ?_) (fun hc2 => ?_)
    · replace hc2 := of_decide_eq_true hc2
      refine IW.seq ?_
      refine IW.reg hE ?_
      refine vcS_val rfl rfl (ox_move (pl rfl)) ?_
      refine vcS_val rfl rfl (ox_bin (pl rfl) (pl (v := enc (16 : UInt64)) rfl) (bo_u64_shr _ (by omega))) ?_
      refine vcS_val rfl rfl (ox_assign (pl rfl)) ?_
      refine vcS_nil ?_
      refine IW.reg hE ?_
      refine vcS_val rfl rfl (ox_move (pl rfl)) ?_
      refine vcS_val rfl rfl (ox_bin (pl rfl) (pl rfl) (bo_i64_add (by omega))) ?_
      refine vcS_val rfl rfl (ox_assign (pl rfl)) ?_
      refine vcS_nil ?_
      refine IW.seq ?_
      refine IW.seq ?_
      refine IW.reg hE ?_
      refine vcS_val rfl rfl (ox_move (pl rfl)) ?_
      refine vcS_val rfl rfl (ox_bin (pl rfl) (pl (v := enc (256 : UInt64)) rfl) (bo_u64_geq _ _)) ?_
      refine vcS_nil ?_
      refine IW.cond rfl (fun hc3 => ?_) (fun hc3 => ?_)
      · replace hc3 := of_decide_eq_true hc3
        refine IW.seq ?_
        refine IW.reg hE ?_
        refine vcS_val rfl rfl (ox_move (pl rfl)) ?_
        refine vcS_val rfl rfl (ox_bin (pl rfl) (pl (v := enc (8 : UInt64)) rfl) (bo_u64_shr _ (by omega))) ?_
        refine vcS_val rfl rfl (ox_assign (pl rfl)) ?_
        refine vcS_nil ?_
        refine IW.reg hE ?_
        refine vcS_val rfl rfl (ox_move (pl rfl)) ?_
        refine vcS_val rfl rfl (ox_bin (pl rfl) (pl rfl) (bo_i64_add (by omega))) ?_
        refine vcS_val rfl rfl (ox_assign (pl rfl)) ?_
        refine vcS_nil ?_
        refine IW.seq ?_
        refine IW.reg hE ?_
        refine vcS_val rfl rfl (ox_move (pl rfl)) ?_
        refine vcS_val rfl rfl (ox_move (pl rfl)) ?_
        refine vcS_val rfl rfl (cv_6_8 (pl rfl) D_22 D_5 rfl) ?_
        refine vcS_val rfl rfl (ox_ixStr (shr64 (shr64 (shr64 a 32) 16) 8).toUInt8.toNat (pl (v := .string (bs lenT)) rfl) (pl rfl) D_9 rfl rfl (by rw [lenT_length]; exact (shr64 (shr64 (shr64 a 32) 16) 8).toUInt8.toNat_lt)) ?_
        refine vcS_val rfl rfl (cv_8_i (pl rfl) D_5 D_3 rfl) ?_
        refine vcS_val rfl rfl (ox_bin (pl rfl) (pl rfl) (bo_i64_add (by have := (lenT.getD (shr64 (shr64 (shr64 a 32) 16) 8).toUInt8.toNat 0).toNat_lt; omega))) ?_
        refine vcS_val rfl rfl (ox_assign (pl rfl)) ?_
        refine vcS_nil ?_
        refine IW.ret ?_
        exact RetP.ret (.inr rfl) rfl rfl trivial (congrArg (Value.int .i64) (by simp only [len64, l1, l2, len8]; rw [if_pos (show 4294967296 ≤ a from hc1), if_pos (show 65536 ≤ shr64 a 32 from hc2), if_pos (show 256 ≤ shr64 (shr64 a 32) 16 from hc3)]; omega))
      · replace hc3 := of_decide_eq_false hc3
        refine IW.skip ?_
        refine IW.seq ?_
        refine IW.reg hE ?_
        refine vcS_val rfl rfl (ox_move (pl rfl)) ?_
        refine vcS_val rfl rfl (ox_move (pl rfl)) ?_
        refine vcS_val rfl rfl (cv_6_8 (pl rfl) D_22 D_5 rfl) ?_
        refine vcS_val rfl rfl (ox_ixStr (shr64 (shr64 a 32) 16).toUInt8.toNat (pl (v := .string (bs lenT)) rfl) (pl rfl) D_9 rfl rfl (by rw [lenT_length]; exact (shr64 (shr64 a 32) 16).toUInt8.toNat_lt)) ?_
        refine vcS_val rfl rfl (cv_8_i (pl rfl) D_5 D_3 rfl) ?_
        refine vcS_val rfl rfl (ox_bin (pl rfl) (pl rfl) (bo_i64_add (by have := (lenT.getD (shr64 (shr64 a 32) 16).toUInt8.toNat 0).toNat_lt; omega))) ?_
        refine vcS_val rfl rfl (ox_assign (pl rfl)) ?_
        refine vcS_nil ?_
        refine IW.ret ?_
        exact RetP.ret (.inr rfl) rfl rfl trivial (congrArg (Value.int .i64) (by simp only [len64, l1, l2, len8]; rw [if_pos (show 4294967296 ≤ a from hc1), if_pos (show 65536 ≤ shr64 a 32 from hc2), if_neg (show ¬ 256 ≤ shr64 (shr64 a 32) 16 from hc3)]; omega))
    · replace hc2 := of_decide_eq_false hc2
      refine IW.skip ?_
      refine IW.seq ?_
      refine IW.seq ?_
      refine IW.reg hE ?_
      refine vcS_val rfl rfl (ox_move (pl rfl)) ?_
      refine vcS_val rfl rfl (ox_bin (pl rfl) (pl (v := enc (256 : UInt64)) rfl) (bo_u64_geq _ _)) ?_
      refine vcS_nil ?_
      refine IW.cond rfl (fun hc4 => ?_) (fun hc4 => ?_)
      · replace hc4 := of_decide_eq_true hc4
        refine IW.seq ?_
        refine IW.reg hE ?_
        refine vcS_val rfl rfl (ox_move (pl rfl)) ?_
        refine vcS_val rfl rfl (ox_bin (pl rfl) (pl (v := enc (8 : UInt64)) rfl) (bo_u64_shr _ (by omega))) ?_
        refine vcS_val rfl rfl (ox_assign (pl rfl)) ?_
        refine vcS_nil ?_
        refine IW.reg hE ?_
        refine vcS_val rfl rfl (ox_move (pl rfl)) ?_
        refine vcS_val rfl rfl (ox_bin (pl rfl) (pl rfl) (bo_i64_add (by omega))) ?_
        refine vcS_val rfl rfl (ox_assign (pl rfl)) ?_
        refine vcS_nil ?_
        refine IW.seq ?_
        refine IW.reg hE ?_
        refine vcS_val rfl rfl (ox_move (pl rfl)) ?_
        refine vcS_val rfl rfl (ox_move (pl rfl)) ?_
        refine vcS_val rfl rfl (cv_6_8 (pl rfl) D_22 D_5 rfl) ?_
        refine vcS_val rfl rfl (ox_ixStr (shr64 (shr64 a 32) 8).toUInt8.toNat (pl (v := .string (bs lenT)) rfl) (pl rfl) D_9 rfl rfl (by rw [lenT_length]; exact (shr64 (shr64 a 32) 8).toUInt8.toNat_lt)) ?_
        refine vcS_val rfl rfl (cv_8_i (pl rfl) D_5 D_3 rfl) ?_
        refine vcS_val rfl rfl (ox_bin (pl rfl) (pl rfl) (bo_i64_add (by have := (lenT.getD (shr64 (shr64 a 32) 8).toUInt8.toNat 0).toNat_lt; omega))) ?_
        refine vcS_val rfl rfl (ox_assign (pl rfl)) ?_
        refine vcS_nil ?_
        refine IW.ret ?_
        exact RetP.ret (.inr rfl) rfl rfl trivial (congrArg (Value.int .i64) (by simp only [len64, l1, l2, len8]; rw [if_pos (show 4294967296 ≤ a from hc1), if_neg (show ¬ 65536 ≤ shr64 a 32 from hc2), if_pos (show 256 ≤ shr64 a 32 from hc4)]; omega))
      · replace hc4 := of_decide_eq_false hc4
        refine IW.skip ?_
        refine IW.seq ?_
        refine IW.reg hE ?_
        refine vcS_val rfl rfl (ox_move (pl rfl)) ?_
        refine vcS_val rfl rfl (ox_move (pl rfl)) ?_
        refine vcS_val rfl rfl (cv_6_8 (pl rfl) D_22 D_5 rfl) ?_
        refine vcS_val rfl rfl (ox_ixStr (shr64 a 32).toUInt8.toNat (pl (v := .string (bs lenT)) rfl) (pl rfl) D_9 rfl rfl (by rw [lenT_length]; exact (shr64 a 32).toUInt8.toNat_lt)) ?_
        refine vcS_val rfl rfl (cv_8_i (pl rfl) D_5 D_3 rfl) ?_
        refine vcS_val rfl rfl (ox_bin (pl rfl) (pl rfl) (bo_i64_add (by have := (lenT.getD (shr64 a 32).toUInt8.toNat 0).toNat_lt; omega))) ?_
        refine vcS_val rfl rfl (ox_assign (pl rfl)) ?_
        refine vcS_nil ?_
        refine IW.ret ?_
        exact RetP.ret (.inr rfl) rfl rfl trivial (congrArg (Value.int .i64) (by simp only [len64, l1, l2, len8]; rw [if_pos (show 4294967296 ≤ a from hc1), if_neg (show ¬ 65536 ≤ shr64 a 32 from hc2), if_neg (show ¬ 256 ≤ shr64 a 32 from hc4)]; omega))
  · replace hc1 := of_decide_eq_false hc1
    refine IW.skip ?_
    refine IW.seq ?_
    refine IW.seq ?_
    refine IW.reg hE ?_
    refine vcS_val rfl rfl (ox_move (pl rfl)) ?_
    refine vcS_val rfl rfl (ox_bin (pl rfl) (pl (v := enc (65536 : UInt64)) rfl) (bo_u64_geq _ _)) ?_
    refine vcS_nil ?_
    refine IW.cond rfl (fun hc5 => ?_) (fun hc5 => ?_)
    · replace hc5 := of_decide_eq_true hc5
      refine IW.seq ?_
      refine IW.reg hE ?_
      refine vcS_val rfl rfl (ox_move (pl rfl)) ?_
      refine vcS_val rfl rfl (ox_bin (pl rfl) (pl (v := enc (16 : UInt64)) rfl) (bo_u64_shr _ (by omega))) ?_
      refine vcS_val rfl rfl (ox_assign (pl rfl)) ?_
      refine vcS_nil ?_
      refine IW.reg hE ?_
      refine vcS_val rfl rfl (ox_move (pl rfl)) ?_
      refine vcS_val rfl rfl (ox_bin (pl rfl) (pl rfl) (bo_i64_add (by omega))) ?_
      refine vcS_val rfl rfl (ox_assign (pl rfl)) ?_
      refine vcS_nil ?_
      refine IW.seq ?_
      refine IW.seq ?_
      refine IW.reg hE ?_
      refine vcS_val rfl rfl (ox_move (pl rfl)) ?_
      refine vcS_val rfl rfl (ox_bin (pl rfl) (pl (v := enc (256 : UInt64)) rfl) (bo_u64_geq _ _)) ?_
      refine vcS_nil ?_
      refine IW.cond rfl (fun hc6 => ?_) (fun hc6 => ?_)
      · replace hc6 := of_decide_eq_true hc6
        refine IW.seq ?_
        refine IW.reg hE ?_
        refine vcS_val rfl rfl (ox_move (pl rfl)) ?_
        refine vcS_val rfl rfl (ox_bin (pl rfl) (pl (v := enc (8 : UInt64)) rfl) (bo_u64_shr _ (by omega))) ?_
        refine vcS_val rfl rfl (ox_assign (pl rfl)) ?_
        refine vcS_nil ?_
        refine IW.reg hE ?_
        refine vcS_val rfl rfl (ox_move (pl rfl)) ?_
        refine vcS_val rfl rfl (ox_bin (pl rfl) (pl rfl) (bo_i64_add (by omega))) ?_
        refine vcS_val rfl rfl (ox_assign (pl rfl)) ?_
        refine vcS_nil ?_
        refine IW.seq ?_
        refine IW.reg hE ?_
        refine vcS_val rfl rfl (ox_move (pl rfl)) ?_
        refine vcS_val rfl rfl (ox_move (pl rfl)) ?_
        refine vcS_val rfl rfl (cv_6_8 (pl rfl) D_22 D_5 rfl) ?_
        refine vcS_val rfl rfl (ox_ixStr (shr64 (shr64 a 16) 8).toUInt8.toNat (pl (v := .string (bs lenT)) rfl) (pl rfl) D_9 rfl rfl (by rw [lenT_length]; exact (shr64 (shr64 a 16) 8).toUInt8.toNat_lt)) ?_
        refine vcS_val rfl rfl (cv_8_i (pl rfl) D_5 D_3 rfl) ?_
        refine vcS_val rfl rfl (ox_bin (pl rfl) (pl rfl) (bo_i64_add (by have := (lenT.getD (shr64 (shr64 a 16) 8).toUInt8.toNat 0).toNat_lt; omega))) ?_
        refine vcS_val rfl rfl (ox_assign (pl rfl)) ?_
        refine vcS_nil ?_
        refine IW.ret ?_
        exact RetP.ret (.inr rfl) rfl rfl trivial (congrArg (Value.int .i64) (by simp only [len64, l1, l2, len8]; rw [if_neg (show ¬ 4294967296 ≤ a from hc1), if_pos (show 65536 ≤ a from hc5), if_pos (show 256 ≤ shr64 (a) 16 from hc6)]; omega))
      · replace hc6 := of_decide_eq_false hc6
        refine IW.skip ?_
        refine IW.seq ?_
        refine IW.reg hE ?_
        refine vcS_val rfl rfl (ox_move (pl rfl)) ?_
        refine vcS_val rfl rfl (ox_move (pl rfl)) ?_
        refine vcS_val rfl rfl (cv_6_8 (pl rfl) D_22 D_5 rfl) ?_
        refine vcS_val rfl rfl (ox_ixStr (shr64 a 16).toUInt8.toNat (pl (v := .string (bs lenT)) rfl) (pl rfl) D_9 rfl rfl (by rw [lenT_length]; exact (shr64 a 16).toUInt8.toNat_lt)) ?_
        refine vcS_val rfl rfl (cv_8_i (pl rfl) D_5 D_3 rfl) ?_
        refine vcS_val rfl rfl (ox_bin (pl rfl) (pl rfl) (bo_i64_add (by have := (lenT.getD (shr64 a 16).toUInt8.toNat 0).toNat_lt; omega))) ?_
        refine vcS_val rfl rfl (ox_assign (pl rfl)) ?_
        refine vcS_nil ?_
        refine IW.ret ?_
        exact RetP.ret (.inr rfl) rfl rfl trivial (congrArg (Value.int .i64) (by simp only [len64, l1, l2, len8]; rw [if_neg (show ¬ 4294967296 ≤ a from hc1), if_pos (show 65536 ≤ a from hc5), if_neg (show ¬ 256 ≤ shr64 (a) 16 from hc6)]; omega))
    · replace hc5 := of_decide_eq_false hc5
      refine IW.skip ?_
      refine IW.seq ?_
      refine IW.seq ?_
      refine IW.reg hE ?_
      refine vcS_val rfl rfl (ox_move (pl rfl)) ?_
      refine vcS_val rfl rfl (ox_bin (pl rfl) (pl (v := enc (256 : UInt64)) rfl) (bo_u64_geq _ _)) ?_
      refine vcS_nil ?_
      refine IW.cond rfl (fun hc7 => ?_) (fun hc7 => ?_)
      · replace hc7 := of_decide_eq_true hc7
        refine IW.seq ?_
        refine IW.reg hE ?_
        refine vcS_val rfl rfl (ox_move (pl rfl)) ?_
        refine vcS_val rfl rfl (ox_bin (pl rfl) (pl (v := enc (8 : UInt64)) rfl) (bo_u64_shr _ (by omega))) ?_
        refine vcS_val rfl rfl (ox_assign (pl rfl)) ?_
        refine vcS_nil ?_
        refine IW.reg hE ?_
        refine vcS_val rfl rfl (ox_move (pl rfl)) ?_
        refine vcS_val rfl rfl (ox_bin (pl rfl) (pl rfl) (bo_i64_add (by omega))) ?_
        refine vcS_val rfl rfl (ox_assign (pl rfl)) ?_
        refine vcS_nil ?_
        refine IW.seq ?_
        refine IW.reg hE ?_
        refine vcS_val rfl rfl (ox_move (pl rfl)) ?_
        refine vcS_val rfl rfl (ox_move (pl rfl)) ?_
        refine vcS_val rfl rfl (cv_6_8 (pl rfl) D_22 D_5 rfl) ?_
        refine vcS_val rfl rfl (ox_ixStr (shr64 a 8).toUInt8.toNat (pl (v := .string (bs lenT)) rfl) (pl rfl) D_9 rfl rfl (by rw [lenT_length]; exact (shr64 a 8).toUInt8.toNat_lt)) ?_
        refine vcS_val rfl rfl (cv_8_i (pl rfl) D_5 D_3 rfl) ?_
        refine vcS_val rfl rfl (ox_bin (pl rfl) (pl rfl) (bo_i64_add (by have := (lenT.getD (shr64 a 8).toUInt8.toNat 0).toNat_lt; omega))) ?_
        refine vcS_val rfl rfl (ox_assign (pl rfl)) ?_
        refine vcS_nil ?_
        refine IW.ret ?_
        exact RetP.ret (.inr rfl) rfl rfl trivial (congrArg (Value.int .i64) (by simp only [len64, l1, l2, len8]; rw [if_neg (show ¬ 4294967296 ≤ a from hc1), if_neg (show ¬ 65536 ≤ a from hc5), if_pos (show 256 ≤ a from hc7)]; omega))
      · replace hc7 := of_decide_eq_false hc7
        refine IW.skip ?_
        refine IW.seq ?_
        refine IW.reg hE ?_
        refine vcS_val rfl rfl (ox_move (pl rfl)) ?_
        refine vcS_val rfl rfl (ox_move (pl rfl)) ?_
        refine vcS_val rfl rfl (cv_6_8 (pl rfl) D_22 D_5 rfl) ?_
        refine vcS_val rfl rfl (ox_ixStr (a).toUInt8.toNat (pl (v := .string (bs lenT)) rfl) (pl rfl) D_9 rfl rfl (by rw [lenT_length]; exact (a).toUInt8.toNat_lt)) ?_
        refine vcS_val rfl rfl (cv_8_i (pl rfl) D_5 D_3 rfl) ?_
        refine vcS_val rfl rfl (ox_bin (pl rfl) (pl rfl) (bo_i64_add (by have := (lenT.getD (a).toUInt8.toNat 0).toNat_lt; omega))) ?_
        refine vcS_val rfl rfl (ox_assign (pl rfl)) ?_
        refine vcS_nil ?_
        refine IW.ret ?_
        exact RetP.ret (.inr rfl) rfl rfl trivial (congrArg (Value.int .i64) (by simp only [len64, l1, l2, len8]; rw [if_neg (show ¬ 4294967296 ≤ a from hc1), if_neg (show ¬ 65536 ≤ a from hc5), if_neg (show ¬ 256 ≤ a from hc7)]; omega))
theorem l2_le (x : UInt64) (k : Nat) : l2 x k ≤ k + 263 := by
  unfold l2
  have h1 := len8_le (shr64 x 8).toUInt8
  have h2 := len8_le x.toUInt8
  split <;> omega
theorem l1_le (x : UInt64) (k : Nat) : l1 x k ≤ k + 279 := by
  unfold l1
  have h1 := l2_le (shr64 x 16) (k + 16)
  have h2 := l2_le x k
  split <;> omega
theorem len64_le (x : UInt64) : len64 x ≤ 311 := by
  unfold len64
  have h1 := l1_le (shr64 x 32) 32
  have h2 := l1_le x 0
  split <;> omega
def sizeV (x : UInt64) : Nat := min 9 (max 1 ((len64 x + 6) / 7))
theorem sizeV_rng (x : UInt64) : 1 ≤ sizeV x ∧ sizeV x ≤ 9 := by unfold sizeV; omega
noncomputable def F113 : FnI := fn1 fun (x : UInt64) => .int .i64 (sizeV x : Int)
-- headwater/octet.size ['UInt64'] -> ['Int'], results [2]
theorem R113 : Ref Try.prog 113 F113 := by
  refine Ref.of_iw dok Try.func113 rfl (by kernel_rfl) fun args H n e hF => ?_
  obtain ⟨a, rfl, rfl⟩ := fn1_inv hF
  have hl64 := len64_le a
  refine ⟨Nat.le_of_ble_eq_true rfl, ?_⟩
  simp only [idxL]
  have hE : Env Try.prog [(117, F117)] D K := env (fnsOk_cons R117 fnsOk_nil)
  refine IW.seq ?_
  refine IW.reg hE ?_
  refine vcS_val rfl rfl (ox_assign (pl rfl)) ?_
  refine vcS_nil ?_
  refine IW.seq ?_
  refine IW.reg hE ?_
  refine vcS_val rfl rfl (ox_move (pl rfl)) ?_
  refine vcS_val rfl rfl (ox_fn rfl rfl (fn1_ev _ _ _ _)) ?_
  refine vcS_val rfl rfl (ox_bin (pl rfl) (pl rfl) (bo_i64_add (by omega))) ?_
  refine vcS_val rfl rfl (ox_bin (pl rfl) (pl rfl) (bo_i64_quo (len64 a + 6) 7 (by omega) rfl (by decide) (by omega))) ?_
  refine vcS_val rfl rfl (ox_maxM 1 ((len64 a + 6) / 7) (pl rfl) (pl rfl) rfl rfl) ?_
  refine vcS_val rfl rfl (ox_minN 9 (max 1 ((len64 a + 6) / 7)) (pl rfl) (pl rfl) rfl rfl) ?_
  refine vcS_val rfl rfl (ox_assign (pl rfl)) ?_
  refine vcS_nil ?_
  refine IW.ret ?_
  exact RetP.ret (.inr rfl) rfl rfl trivial (rfl)
noncomputable def F101 : FnI := fun args H n => match args with
  | [.int .i64 a] => if 0 ≤ a ∧ a ≤ 100 then some ⟨.int .i64 ((max 1 (min a.toNat 8) : Nat) : Int), [], n⟩ else none
  | _ => none
theorem F101_inv {args : List Value} {H : IHeap} {n : Nat} {e : Eff} (h : F101 args H n = some e) : ∃ a : Nat, args = [.int .i64 a] ∧ a ≤ 100 ∧ e = ⟨.int .i64 ((max 1 (min a 8) : Nat) : Int), [], n⟩ := by
  unfold F101 at h; split at h
  · split at h
    · rename_i a hh; cases h
      exact ⟨a.toNat, by rw [Int.toNat_of_nonneg hh.1], by omega, rfl⟩
    · cases h
  · cases h
theorem F101_ev {H : IHeap} {n : Nat} (a : Nat) (h : a ≤ 100) : F101 [.int .i64 (a : Int)] H n = some ⟨.int .i64 ((max 1 (min a 8) : Nat) : Int), [], n⟩ := by
  simp only [F101]
  rw [if_pos (by omega), Int.toNat_natCast]
-- headwater/octet.clamp ['Int'] -> ['Int'], results [2]
theorem R101 : Ref Try.prog 101 F101 := by
  refine Ref.of_iw dok Try.func101 rfl (by kernel_rfl) fun args H n e hF => ?_
  obtain ⟨a, rfl, ha, rfl⟩ := F101_inv hF
  refine ⟨Nat.le_of_ble_eq_true rfl, ?_⟩
  simp only [idxL]
  have hE : Env Try.prog [] D K := env fnsOk_nil
  refine IW.seq ?_
  refine IW.reg hE ?_
  refine vcS_val rfl rfl (ox_assign (pl rfl)) ?_
  refine vcS_nil ?_
  refine IW.seq ?_
  refine IW.reg hE ?_
  refine vcS_val rfl rfl (ox_move (pl rfl)) ?_
  refine vcS_val rfl rfl (ox_minN a 8 (pl rfl) (pl rfl) rfl rfl) ?_
  refine vcS_val rfl rfl (ox_maxM 1 (min a 8) (pl rfl) (pl rfl) rfl rfl) ?_
  refine vcS_val rfl rfl (ox_assign (pl rfl)) ?_
  refine vcS_nil ?_
  refine IW.ret ?_
  exact RetP.ret (.inr rfl) rfl rfl trivial (rfl)
end Go.Proofs.Ytdnnojblneccdaa
/-
  Bytes with numbers, blocks and words behind them.
-/
namespace Go.Proofs.Ytdnnojblneccdaa
set_option linter.unusedSimpArgs false
set_option linter.unusedVariables false
open Go
open Enc (enc)
set_option maxRecDepth 100000
/-- bytes with room behind them -/
def buf (l : List UInt8) (m : Nat) : List UInt8 := l ++ List.replicate m 0
theorem buf_length (l : List UInt8) (m : Nat) : (buf l m).length = l.length + m := by simp [buf]
theorem buf_zero (l : List UInt8) : buf l 0 = l := by simp [buf]
theorem ovw_buf {l x : List UInt8} {m : Nat} (h : x.length ≤ m) : ovw (buf l m) l.length x = buf (l ++ x) (m - x.length) := by
  unfold ovw buf
  rw [List.take_left, List.drop_append]
  simp only [List.append_assoc]
  congr 2
  rw [List.drop_of_length_le (by omega), List.nil_append, List.drop_replicate]
  congr 1; omega
theorem splice_buf {l x : List UInt8} {m p m' : Nat} (hp : p = l.length) (h : x.length ≤ m) (hm : m' = m - x.length) : splice (encs (buf l m)) p (encs x) = encs (buf (l ++ x) m') := by
  subst hp; subst hm
  rw [splice_encs, ovw_buf h]
theorem rd_buf {H : IHeap} {id len cap : Nat} {sp : Option Nat} {ro : Bool} {l : List UInt8} {m : Nat} (hH : H id = some (.cells (encs (buf l m)) ro)) (hl : l.length = len) : rdC H (.slice (some ⟨id, 0, sp⟩) len cap) = some l := by
  subst hl
  refine rdC_mk (α := UInt8) hH ?_ ?_ rfl
  · rw [encs_length, buf_length]; show 0 + l.length * 1 ≤ _; omega
  · rw [cels_one]
    show List.take (l.length * 1) _ = _
    rw [Nat.mul_one, List.drop_zero, encs, ← List.map_take, buf, List.take_left]; rfl
noncomputable def F100 : FnI := fun args H n => match args with
  | [x, .int .i64 m] => (rdC H x).bind fun (b : List UInt8) => if 0 ≤ m ∧ m.toNat + b.length ≤ 2 ^ 42 then some ⟨.slice (some ⟨n, 0, none⟩) b.length (b.length + m.toNat), [(n, some (.cells (encs (buf b m.toNat)) false))], n + 1⟩ else none
  | _ => none
theorem F100_inv {args : List Value} {H : IHeap} {n : Nat} {e : Eff} (h : F100 args H n = some e) : ∃ xa xc, ∃ (b : List UInt8) (m : Nat), args = [.slice xa b.length xc, .int .i64 m] ∧ rdC H (.slice xa b.length xc) = some b ∧ m + b.length ≤ 2 ^ 42 ∧ e = ⟨.slice (some ⟨n, 0, none⟩) b.length (b.length + m), [(n, some (.cells (encs (buf b m)) false))], n + 1⟩ := by
  unfold F100 at h; split at h
  · simp only [Option.bind_eq_some_iff] at h
    obtain ⟨b, hb, h⟩ := h
    split at h
    · rename_i m hh; cases h
      obtain ⟨xa, xc, rfl⟩ := rdC_len hb
      exact ⟨xa, xc, b, m.toNat, by rw [Int.toNat_of_nonneg hh.1], hb, hh.2, rfl⟩
    · cases h
  · cases h
theorem F100_ev {x : Value} {H : IHeap} {n : Nat} {b : List UInt8} {a : Int} (m : Nat) (hb : rdC H x = some b) (ha : a = m) (h : m + b.length ≤ 2 ^ 42) : F100 [x, .int .i64 a] H n = some ⟨.slice (some ⟨n, 0, none⟩) b.length (b.length + m), [(n, some (.cells (encs (buf b m)) false))], n + 1⟩ := by
  subst ha
  simp only [F100, hb, Option.bind_some]
  rw [if_pos (by omega), Int.toNat_natCast]
-- headwater/octet.grown ['Sl', 'Int'] -> ['Sl'], results [4]
theorem R100 : Ref Try.prog 100 F100 := by
  refine Ref.of_iw dok Try.func100 rfl (by kernel_rfl) fun args H n e hF => ?_
  obtain ⟨xa, xc, b, m, rfl, hB, hle, rfl⟩ := F100_inv hF
  refine ⟨Nat.le_of_ble_eq_true rfl, ?_⟩
  simp only [idxL]
  have hE : Env Try.prog [] D K := env fnsOk_nil
  refine IW.seq ?_
  refine IW.free (by simp) (fun hfree => ?_)
  refine IW.reg hE ?_
  refine vcS_val rfl rfl (ox_assign (pl rfl)) ?_
  refine vcS_nil ?_
  refine IW.seq ?_
  refine IW.reg hE ?_
  refine vcS_val rfl rfl (ox_move (pl rfl)) ?_
  refine vcS_val rfl rfl (ox_len (pl rfl) D_35 rfl) ?_
  refine vcS_val rfl rfl (ox_move (pl rfl)) ?_
  refine vcS_val rfl rfl (ox_bin (pl rfl) (pl rfl) (bo_i64_add (by omega))) ?_
  refine vcS_new rfl rfl (ox_makeN 0 (b.length + m) (0 : UInt8) (pl rfl) rfl (pl rfl) (by omega) D_35 rfl D_5 rfl (Nat.zero_le _) (by simp only [most]; omega) (by show 1 * _ ≤ _; omega)) (.inl (by omega)) ?_
  refine vcS_val rfl rfl (ox_move (pl rfl)) ?_
  refine vcS_appC (p := 0) (k := b.length) (c := encs (buf [] (b.length + m))) rfl rfl rfl rfl rfl D_35 rfl D_5 (srcArg_u8 D_35 rfl rfl (rdC_keep hfree hB (by exact ⟨by omega, trivial⟩))) (by omega) (hp_eq _ _ _ _) rfl (by rw [encs_length, encs_length (α := UInt8), buf_length]; simp) (encs_known _) (.inl (by omega)) (splice_buf (m' := m) rfl (by omega) (by omega)) ?_
  refine vcS_val rfl rfl (ox_assign (pl rfl)) ?_
  refine vcS_nil ?_
  refine IW.ret ?_
  exact RetP.new1 (.inr rfl) ((ires_tmp rfl).trans (by rw [Nat.zero_add])) (by omega) (hp_eq _ _ _ _) (by rw [← cels_one]; exact u8_plain _)
/-! numbers -/
def hdV (w : UInt64) : UInt8 := if sizeV w < 9 then ~~~(shr8 255 (sizeV w - 1)) ||| (shr64 w (8 * (sizeV w - 1))).toUInt8 else ~~~(shr8 255 (sizeV w - 1))
def tlV (w : UInt64) : List UInt8 := (List.range (sizeV w - 1)).map fun j => (shr64 w (8 * (sizeV w - 2 - j))).toUInt8
def numL (w : UInt64) : List UInt8 := hdV w :: tlV w
theorem tlV_length (w : UInt64) : (tlV w).length = sizeV w - 1 := by simp [tlV]
theorem numL_length (w : UInt64) : (numL w).length = sizeV w := by have := sizeV_rng w; simp [numL, tlV_length]; omega
theorem tlV_succ {w : UInt64} {s : Nat} (h : s < sizeV w - 1) : (tlV w).take (s + 1) = (tlV w).take s ++ [(shr64 w (8 * (sizeV w - 2 - s))).toUInt8] := by
  rw [List.take_succ_eq_append_getElem (by rw [tlV_length]; exact h)]
  simp [tlV]
def nbf (b : List UInt8) (w : UInt64) (s : Nat) : List UInt8 := b ++ [hdV w] ++ (tlV w).take s
theorem nbf_length {b : List UInt8} {w : UInt64} {s : Nat} (h : s ≤ sizeV w - 1) : (nbf b w s).length = b.length + 1 + s := by simp [nbf, tlV_length]; omega
theorem nbf_succ {b : List UInt8} {w : UInt64} {s : Nat} (h : s < sizeV w - 1) : nbf b w s ++ [(shr64 w (8 * (sizeV w - 2 - s))).toUInt8] = nbf b w (s + 1) := by simp [nbf, tlV_succ h]
theorem nbf_all (b : List UInt8) (w : UInt64) : nbf b w (sizeV w - 1) = b ++ numL w := by
  rw [nbf, List.take_of_length_le (by rw [tlV_length]; exact Nat.le_refl _)]; simp [numL]
noncomputable def F109 : FnI := fun args H n => match args with
  | [x, y] => (rdC H x).bind fun (b : List UInt8) => (dec y).bind fun (w : UInt64) => if b.length ≤ 2 ^ 41 then some ⟨.slice (some ⟨n, 0, none⟩) (b.length + sizeV w) (b.length + sizeV w), [(n, some (.cells (encs (b ++ numL w)) false))], n + 1⟩ else none
  | _ => none
theorem F109_inv {args : List Value} {H : IHeap} {n : Nat} {e : Eff} (h : F109 args H n = some e) : ∃ (x : Value) (b : List UInt8) (w : UInt64), args = [x, enc w] ∧ rdC H x = some b ∧ b.length ≤ 2 ^ 41 ∧ e = ⟨.slice (some ⟨n, 0, none⟩) (b.length + sizeV w) (b.length + sizeV w), [(n, some (.cells (encs (b ++ numL w)) false))], n + 1⟩ := by
  unfold F109 at h; split at h
  · simp only [Option.bind_eq_some_iff] at h
    obtain ⟨b, hb, w, hw, h⟩ := h
    split at h
    · rename_i hh; cases h
      exact ⟨_, b, w, by rw [dec_some hw], hb, hh, rfl⟩
    · cases h
  · cases h
theorem F109_ev {x : Value} {H : IHeap} {n : Nat} {b : List UInt8} {w : UInt64} (hb : rdC H x = some b) (h : b.length ≤ 2 ^ 41) : F109 [x, enc w] H n = some ⟨.slice (some ⟨n, 0, none⟩) (b.length + sizeV w) (b.length + sizeV w), [(n, some (.cells (encs (b ++ numL w)) false))], n + 1⟩ := by
  simp only [F109, hb, dec_enc, Option.bind_some]
  rw [if_pos h]
-- headwater/octet.Number ['Sl', 'UInt64'] -> ['Sl'], results [4]
theorem R109 : Ref Try.prog 109 F109 := by
  refine Ref.of_iw dok Try.func109 rfl (by kernel_rfl) fun args H n e hF => ?_
  obtain ⟨x, b, w, rfl, hB, hle, rfl⟩ := F109_inv hF
  have hsz := sizeV_rng w
  refine ⟨Nat.le_of_ble_eq_true rfl, ?_⟩
  simp only [idxL]
  have hE : Env Try.prog [(100, F100), (113, F113)] D K := env (fnsOk_cons R100 (fnsOk_cons R113 fnsOk_nil))
  refine IW.seq ?_
  refine IW.free (by simp) (fun hfree => ?_)
  refine IW.reg hE ?_
  refine vcS_val rfl rfl (ox_assign (pl rfl)) ?_
  refine vcS_nil ?_
  refine IW.seq ?_
  refine IW.reg hE ?_
  refine vcS_val rfl rfl (ox_move (pl rfl)) ?_
  refine vcS_val rfl rfl (ox_fn rfl rfl (fn1_ev _ _ _ _)) ?_
  refine vcS_val rfl rfl (ox_assign (pl rfl)) ?_
  refine vcS_nil ?_
  refine IW.seq ?_
  refine IW.reg hE ?_
  refine vcS_val rfl rfl (ox_move (pl rfl)) ?_
  refine vcS_val rfl rfl (ox_move (pl rfl)) ?_
  refine vcS_ups rfl rfl (ox_fn rfl rfl (F100_ev (sizeV w) (rdC_keep hfree hB (by exact trivial)) rfl (by omega))) rfl ⟨.inl (by omega), trivial⟩ ?_
  refine vcS_val rfl rfl (ox_assign (pl rfl)) ?_
  refine vcS_nil ?_
  refine IW.seq ?_
  refine IW.reg hE ?_
  refine vcS_val rfl rfl (ox_move (pl rfl)) ?_
  refine vcS_val rfl rfl (ox_bin (pl rfl) (pl rfl) (bo_i64_sub (by omega))) ?_
  refine vcS_val rfl rfl (ox_bin (pl (v := enc (255 : UInt8)) rfl) (pl rfl) (bo_u8_shrN 255 (sizeV w - 1) (by omega))) ?_
  refine vcS_val rfl rfl (ox_un (pl rfl) (uo_u8_xor _)) ?_
  refine vcS_val rfl rfl (ox_assign (pl rfl)) ?_
  refine vcS_nil ?_
  refine IW.seq ?_
  refine IW.seq ?_
  refine IW.reg hE ?_
  refine vcS_val rfl rfl (ox_move (pl rfl)) ?_
  refine vcS_val rfl rfl (ox_bin (pl rfl) (pl rfl) (bo_i64_lss _ _)) ?_
  refine vcS_nil ?_
  refine IW.cond rfl (fun hc1 => ?_) (fun hc1 => ?_)
  · replace hc1 := of_decide_eq_true hc1
    have hhd : hdV w = ~~~(shr8 255 (sizeV w - 1)) ||| (shr64 w (8 * (sizeV w - 1))).toUInt8 := if_pos (by omega)
    refine IW.reg hE ?_
    refine vcS_val rfl rfl (ox_move (pl rfl)) ?_
    refine vcS_val rfl rfl (ox_move (pl rfl)) ?_
    refine vcS_val rfl rfl (ox_move (pl rfl)) ?_
    refine vcS_val rfl rfl (ox_bin (pl rfl) (pl rfl) (bo_i64_sub (by omega))) ?_
    refine vcS_val rfl rfl (ox_bin (pl rfl) (pl rfl) (bo_i64_mul (by omega))) ?_
    refine vcS_val rfl rfl (ox_bin (pl rfl) (pl rfl) (bo_u64_shrN w (8 * (sizeV w - 1)) (by omega))) ?_
    refine vcS_val rfl rfl (cv_6_8 (pl rfl) D_22 D_5 rfl) ?_
    refine vcS_val rfl rfl (ox_bin (pl rfl) (pl rfl) (bo_u8_or _ _)) ?_
    refine vcS_val rfl rfl (ox_assign (pl rfl)) ?_
    refine vcS_nil ?_
    refine IW.seq ?_
    refine IW.reg hE ?_
    refine vcS_val rfl rfl (ox_move (pl rfl)) ?_
    refine vcS_val rfl rfl (ox_move (pl rfl)) ?_
    refine vcS_new rfl rfl (ox_bsl (cs := encs [hdV w]) D_35 rfl D_5 (Nat.le_of_ble_eq_true rfl) rfl (by rw [hhd]; rfl)) (.inl (by omega)) ?_
    refine vcS_appC (p := b.length) (k := 1) rfl rfl rfl rfl rfl D_35 rfl D_5 (srcArg_u8 D_35 rfl rfl (rdC_1all (hp_eq _ _ _ _) rfl)) (by omega) (hp_sk (by omega) (hp_eq _ _ _ _)) (by show _ + _ * 1 = _; omega) (by rw [encs_length, encs_length (α := UInt8), buf_length]; simp; omega) (encs_known _) (.inl (by omega)) (splice_buf (m := sizeV w) (m' := sizeV w - 1) (by omega) (by simp; try omega) (by simp; try omega)) ?_
    refine vcS_val rfl rfl (ox_assign (pl rfl)) ?_
    refine vcS_nil ?_
    refine IW.seq ?_
    refine IW.seq ?_
    refine IW.reg hE ?_
    refine vcS_val rfl rfl (ox_move (pl rfl)) ?_
    refine vcS_val rfl rfl (ox_bin (pl rfl) (pl rfl) (bo_i64_sub (by omega))) ?_
    refine vcS_val rfl rfl (ox_assign (pl rfl)) ?_
    refine vcS_nil ?_
    refine IW.block ?_
    refine IW.loop (S := Nat) (fun s => [(1, enc w), (6, .slice (some ⟨n, 0, none⟩) (b.length + 1 + s) (b.length + sizeV w)), (8, .int .i64 ((sizeV w : Int) - 2 - s))]) (fun s => [(n, some (.cells (encs (buf (nbf b w s) (sizeV w - 1 - s))) false))]) (fun s => n + 1 + 1 + s) (fun s => s ≤ sizeV w - 1) (fun s => sizeV w - s) (0) (Nat.zero_le _) (⟨rfl, ⟨rfl, ⟨(congrArg (fun z => some (Value.int .i64 z)) (by omega)), trivial⟩⟩⟩) (leX_le (leX_cons (by rw [show nbf b w 0 = b ++ [hdV w] by simp [nbf]]; rfl) (leX_none hfree (by exact ⟨by omega, by omega, trivial⟩)))) (Nat.le_refl _) (fun s hs => ?_)
    refine IW.seq ?_
    refine IW.seq ?_
    refine IW.reg hE ?_
    refine vcS_val rfl rfl (ox_move (pl rfl)) ?_
    refine vcS_val rfl rfl (ox_bin (pl rfl) (pl rfl) (bo_i64_geq _ _)) ?_
    refine vcS_nil ?_
    refine IW.cond rfl (fun hc2 => ?_) (fun hc2 => ?_)
    · replace hc2 := of_decide_eq_true hc2
      have hs1 : s < sizeV w - 1 := by omega
      have hnl := nbf_length (b := b) hs
      refine IW.skip ?_
      refine IW.seq ?_
      refine IW.block ?_
      refine IW.reg hE ?_
      refine vcS_val rfl rfl (ox_move (pl rfl)) ?_
      refine vcS_val rfl rfl (ox_move (pl rfl)) ?_
      refine vcS_val rfl rfl (ox_move (pl rfl)) ?_
      refine vcS_val rfl rfl (ox_bin (pl rfl) (pl rfl) (bo_i64_mul (by omega))) ?_
      refine vcS_val rfl rfl (ox_bin (pl rfl) (pl rfl) (bo_u64_shrN w (8 * (sizeV w - 2 - s)) (by omega))) ?_
      refine vcS_val rfl rfl (cv_6_8 (pl rfl) D_22 D_5 rfl) ?_
      refine vcS_new rfl rfl (ox_bsl (cs := encs [(shr64 w (8 * (sizeV w - 2 - s))).toUInt8]) D_35 rfl D_5 (Nat.le_of_ble_eq_true rfl) rfl rfl) (.inl (by omega)) ?_
      refine vcS_appC (p := b.length + 1 + s) (k := 1) rfl rfl rfl rfl rfl D_35 rfl D_5 (srcArg_u8 D_35 rfl rfl (rdC_1all (hp_eq _ _ _ _) rfl)) (by omega) (hp_sk (by omega) (hp_eq _ _ _ _)) (by show _ + _ * 1 = _; omega) (by rw [encs_length, encs_length (α := UInt8), buf_length]; rw [hnl]; simp; omega) (encs_known _) (.inl (by omega)) (splice_buf (m := sizeV w - 1 - s) (m' := sizeV w - 1 - (s + 1)) hnl.symm (by simp; omega) (by simp; omega)) ?_
      refine vcS_val rfl rfl (ox_assign (pl rfl)) ?_
      refine vcS_nil ?_
      refine IW.nilB ?_
      refine IW.reg hE ?_
      refine vcS_val rfl rfl (ox_move (pl rfl)) ?_
      refine vcS_val rfl rfl (ox_bin (pl rfl) (pl rfl) (bo_i64_sub (by omega))) ?_
      refine vcS_val rfl rfl (ox_assign (pl rfl)) ?_
      refine vcS_nil ?_
      refine IW.nilS ?_
      exact ⟨s + 1, _, _, by omega, by omega, rfl, ⟨rfl, ⟨rfl, ⟨(congrArg (fun z => some (Value.int .i64 z)) (by omega)), trivial⟩⟩⟩, rfl, leX_le (leX_cons (by rw [nbf_succ hs1]) (leX_none hfree (by exact ⟨by omega, by omega, trivial⟩))), by omega⟩
    · replace hc2 := of_decide_eq_false hc2
      have hse : s = sizeV w - 1 := by omega
      subst hse
      refine IW.exit ?_
      refine exS (exS ?_)
      refine blkQ_exit ?_
      refine IW.seq ?_
      refine IW.reg hE ?_
      refine vcS_val rfl rfl (ox_move (pl rfl)) ?_
      refine vcS_val rfl rfl (ox_assign (pl rfl)) ?_
      refine vcS_nil ?_
      refine IW.ret ?_
      exact RetP.new1 (.inr rfl) ((ires_tmp rfl).trans (by rw [show b.length + 1 + (sizeV w - 1) = b.length + sizeV w by omega])) (by omega) ((hp_eq _ _ _ _).trans (by rw [nbf_all, Nat.sub_self, buf_zero])) (by rw [← cels_one]; exact u8_plain _)
  · replace hc1 := of_decide_eq_false hc1
    have hhd : hdV w = ~~~(shr8 255 (sizeV w - 1)) := if_neg (by omega)
    refine IW.skip ?_
    refine IW.seq ?_
    refine IW.reg hE ?_
    refine vcS_val rfl rfl (ox_move (pl rfl)) ?_
    refine vcS_val rfl rfl (ox_move (pl rfl)) ?_
    refine vcS_new rfl rfl (ox_bsl (cs := encs [hdV w]) D_35 rfl D_5 (Nat.le_of_ble_eq_true rfl) rfl (by rw [hhd]; rfl)) (.inl (by omega)) ?_
    refine vcS_appC (p := b.length) (k := 1) rfl rfl rfl rfl rfl D_35 rfl D_5 (srcArg_u8 D_35 rfl rfl (rdC_1all (hp_eq _ _ _ _) rfl)) (by omega) (hp_sk (by omega) (hp_eq _ _ _ _)) (by show _ + _ * 1 = _; omega) (by rw [encs_length, encs_length (α := UInt8), buf_length]; simp; omega) (encs_known _) (.inl (by omega)) (splice_buf (m := sizeV w) (m' := sizeV w - 1) (by omega) (by simp; try omega) (by simp; try omega)) ?_
    refine vcS_val rfl rfl (ox_assign (pl rfl)) ?_
    refine vcS_nil ?_
    refine IW.seq ?_
    refine IW.seq ?_
    refine IW.reg hE ?_
    refine vcS_val rfl rfl (ox_move (pl rfl)) ?_
    refine vcS_val rfl rfl (ox_bin (pl rfl) (pl rfl) (bo_i64_sub (by omega))) ?_
    refine vcS_val rfl rfl (ox_assign (pl rfl)) ?_
    refine vcS_nil ?_
    refine IW.block ?_
    refine IW.loop (S := Nat) (fun s => [(1, enc w), (6, .slice (some ⟨n, 0, none⟩) (b.length + 1 + s) (b.length + sizeV w)), (8, .int .i64 ((sizeV w : Int) - 2 - s))]) (fun s => [(n, some (.cells (encs (buf (nbf b w s) (sizeV w - 1 - s))) false))]) (fun s => n + 1 + 1 + s) (fun s => s ≤ sizeV w - 1) (fun s => sizeV w - s) (0) (Nat.zero_le _) (⟨rfl, ⟨rfl, ⟨(congrArg (fun z => some (Value.int .i64 z)) (by omega)), trivial⟩⟩⟩) (leX_le (leX_cons (by rw [show nbf b w 0 = b ++ [hdV w] by simp [nbf]]; rfl) (leX_none hfree (by exact ⟨by omega, by omega, trivial⟩)))) (Nat.le_refl _) (fun s hs => ?_)
    refine IW.seq ?_
    refine IW.seq ?_
    refine IW.reg hE ?_
    refine vcS_val rfl rfl (ox_move (pl rfl)) ?_
    refine vcS_val rfl rfl (ox_bin (pl rfl) (pl rfl) (bo_i64_geq _ _)) ?_
    refine vcS_nil ?_
    refine IW.cond rfl (fun hc3 => ?_) (fun hc3 => ?_)
    · replace hc3 := of_decide_eq_true hc3
      have hs1 : s < sizeV w - 1 := by omega
      have hnl := nbf_length (b := b) hs
      refine IW.skip ?_
      refine IW.seq ?_
      refine IW.block ?_
      refine IW.reg hE ?_
      refine vcS_val rfl rfl (ox_move (pl rfl)) ?_
      refine vcS_val rfl rfl (ox_move (pl rfl)) ?_
      refine vcS_val rfl rfl (ox_move (pl rfl)) ?_
      refine vcS_val rfl rfl (ox_bin (pl rfl) (pl rfl) (bo_i64_mul (by omega))) ?_
      refine vcS_val rfl rfl (ox_bin (pl rfl) (pl rfl) (bo_u64_shrN w (8 * (sizeV w - 2 - s)) (by omega))) ?_
      refine vcS_val rfl rfl (cv_6_8 (pl rfl) D_22 D_5 rfl) ?_
      refine vcS_new rfl rfl (ox_bsl (cs := encs [(shr64 w (8 * (sizeV w - 2 - s))).toUInt8]) D_35 rfl D_5 (Nat.le_of_ble_eq_true rfl) rfl rfl) (.inl (by omega)) ?_
      refine vcS_appC (p := b.length + 1 + s) (k := 1) rfl rfl rfl rfl rfl D_35 rfl D_5 (srcArg_u8 D_35 rfl rfl (rdC_1all (hp_eq _ _ _ _) rfl)) (by omega) (hp_sk (by omega) (hp_eq _ _ _ _)) (by show _ + _ * 1 = _; omega) (by rw [encs_length, encs_length (α := UInt8), buf_length]; rw [hnl]; simp; omega) (encs_known _) (.inl (by omega)) (splice_buf (m := sizeV w - 1 - s) (m' := sizeV w - 1 - (s + 1)) hnl.symm (by simp; omega) (by simp; omega)) ?_
      refine vcS_val rfl rfl (ox_assign (pl rfl)) ?_
      refine vcS_nil ?_
      refine IW.nilB ?_
      refine IW.reg hE ?_
      refine vcS_val rfl rfl (ox_move (pl rfl)) ?_
      refine vcS_val rfl rfl (ox_bin (pl rfl) (pl rfl) (bo_i64_sub (by omega))) ?_
      refine vcS_val rfl rfl (ox_assign (pl rfl)) ?_
      refine vcS_nil ?_
      refine IW.nilS ?_
      exact ⟨s + 1, _, _, by omega, by omega, rfl, ⟨rfl, ⟨rfl, ⟨(congrArg (fun z => some (Value.int .i64 z)) (by omega)), trivial⟩⟩⟩, rfl, leX_le (leX_cons (by rw [nbf_succ hs1]) (leX_none hfree (by exact ⟨by omega, by omega, trivial⟩))), by omega⟩
    · replace hc3 := of_decide_eq_false hc3
      have hse : s = sizeV w - 1 := by omega
      subst hse
      refine IW.exit ?_
      refine exS (exS ?_)
      refine blkQ_exit ?_
      refine IW.seq ?_
      refine IW.reg hE ?_
      refine vcS_val rfl rfl (ox_move (pl rfl)) ?_
      refine vcS_val rfl rfl (ox_assign (pl rfl)) ?_
      refine vcS_nil ?_
      refine IW.ret ?_
      exact RetP.new1 (.inr rfl) ((ires_tmp rfl).trans (by rw [show b.length + 1 + (sizeV w - 1) = b.length + sizeV w by omega])) (by omega) ((hp_eq _ _ _ _).trans (by rw [nbf_all, Nat.sub_self, buf_zero])) (by rw [← cels_one]; exact u8_plain _)
/-! blocks -/
def blkL (b p : List UInt8) : List UInt8 := b ++ numL (UInt64.ofNat p.length) ++ p
theorem blkL_length (b p : List UInt8) : (blkL b p).length = b.length + sizeV (UInt64.ofNat p.length) + p.length := by simp [blkL, numL_length]; omega
noncomputable def F92 : FnI := fun args H n => match args with
  | [x, y] => (rdC H x).bind fun (b : List UInt8) => (rdC H y).bind fun (p : List UInt8) => if b.length + p.length ≤ 2 ^ 40 then some ⟨.slice (some ⟨n, 0, fsp p.length⟩) (blkL b p).length (blkL b p).length, [(n, some (.cells (encs (blkL b p)) false))], n + 1⟩ else none
  | _ => none
theorem F92_inv {args : List Value} {H : IHeap} {n : Nat} {e : Eff} (h : F92 args H n = some e) : ∃ xa xc ya yc, ∃ b p : List UInt8, args = [.slice xa b.length xc, .slice ya p.length yc] ∧ rdC H (.slice xa b.length xc) = some b ∧ rdC H (.slice ya p.length yc) = some p ∧ b.length + p.length ≤ 2 ^ 40 ∧ e = ⟨.slice (some ⟨n, 0, fsp p.length⟩) (blkL b p).length (blkL b p).length, [(n, some (.cells (encs (blkL b p)) false))], n + 1⟩ := by
  unfold F92 at h; split at h
  · simp only [Option.bind_eq_some_iff] at h
    obtain ⟨b, hb, p, hp, h⟩ := h
    split at h
    · rename_i hh; cases h
      obtain ⟨xa, xc, rfl⟩ := rdC_len hb
      obtain ⟨ya, yc, rfl⟩ := rdC_len hp
      exact ⟨xa, xc, ya, yc, b, p, rfl, hb, hp, hh, rfl⟩
    · cases h
  · cases h
theorem F92_ev {x y : Value} {H : IHeap} {n : Nat} {b p : List UInt8} (hb : rdC H x = some b) (hp : rdC H y = some p) (h : b.length + p.length ≤ 2 ^ 40) : F92 [x, y] H n = some ⟨.slice (some ⟨n, 0, fsp p.length⟩) (blkL b p).length (blkL b p).length, [(n, some (.cells (encs (blkL b p)) false))], n + 1⟩ := by
  simp only [F92, hb, hp, Option.bind_some]
  rw [if_pos h]
-- headwater/octet.Block ['Sl', 'Sl'] -> ['Sl'], results [4]
theorem R92 : Ref Try.prog 92 F92 := by
  refine Ref.of_iw dok Try.func92 rfl (by kernel_rfl) fun args H n e hF => ?_
  obtain ⟨xa, xc, ya, yc, b, p, rfl, hB, hP, hle, rfl⟩ := F92_inv hF
  have hsz := sizeV_rng (UInt64.ofNat p.length)
  have hbl := blkL_length b p
  refine ⟨Nat.le_of_ble_eq_true rfl, ?_⟩
  simp only [idxL]
  have hE : Env Try.prog [(100, F100), (109, F109)] D K := env (fnsOk_cons R100 (fnsOk_cons R109 fnsOk_nil))
  refine IW.seq ?_
  refine IW.free (by simp) (fun hfree => ?_)
  refine IW.reg hE ?_
  refine vcS_val rfl rfl (ox_assign (pl rfl)) ?_
  refine vcS_nil ?_
  refine IW.seq ?_
  refine IW.reg hE ?_
  refine vcS_val rfl rfl (ox_move (pl rfl)) ?_
  refine vcS_val rfl rfl (ox_move (pl rfl)) ?_
  refine vcS_val rfl rfl (ox_len (pl rfl) D_35 rfl) ?_
  refine vcS_val rfl rfl (ox_bin (pl rfl) (pl rfl) (bo_i64_add (by omega))) ?_
  refine vcS_ups rfl rfl (ox_fn rfl rfl (F100_ev (9 + p.length) (rdC_keep hfree hB (by exact trivial)) (by omega) (by omega))) rfl ⟨.inl (by omega), trivial⟩ ?_
  refine vcS_val rfl rfl (ox_move (pl rfl)) ?_
  refine vcS_val rfl rfl (ox_len (pl rfl) D_35 rfl) ?_
  refine vcS_val rfl rfl (cv_i_6 p.length (pl rfl) D_3 D_22 rfl rfl) ?_
  refine vcS_ups rfl rfl (ox_fn rfl rfl (F109_ev (b := b) (rd_buf (hp_eq _ _ _ _) rfl) (by omega))) rfl ⟨.inl (by omega), trivial⟩ ?_
  refine vcS_val rfl rfl (ox_assign (pl rfl)) ?_
  refine vcS_nil ?_
  refine IW.seq ?_
  by_cases h0 : p = []
  · refine IW.reg hE ?_
    refine vcS_val rfl rfl (ox_move (pl rfl)) ?_
    refine vcS_val rfl rfl (ox_move (pl rfl)) ?_
    refine vcS_val rfl rfl (ox_app0 (α := UInt8) (pl rfl) (pl rfl) D_35 rfl D_5 D_35 rfl rfl (rdC_nilE h0 (rdC_keep hfree hP (by exact ⟨by omega, ⟨by omega, trivial⟩⟩))) rfl (Nat.le_refl _)) ?_
    refine vcS_val rfl rfl (ox_assign (pl rfl)) ?_
    refine vcS_nil ?_
    refine IW.ret ?_
    subst h0; exact RetP.new1 (.inr rfl) ((ires_tmp rfl).trans (by rw [hbl]; rfl)) (by omega) ((hp_eq _ _ _ _).trans (by unfold blkL; rw [List.append_nil])) (by rw [← cels_one]; exact u8_plain _)
  · refine IW.reg hE ?_
    refine vcS_val rfl rfl (ox_move (pl rfl)) ?_
    refine vcS_val rfl rfl (ox_move (pl rfl)) ?_
    refine vcS_new rfl rfl (ox_appG (α := UInt8) (l1 := b ++ numL (UInt64.ofNat p.length)) (len2 := (blkL b p).length) (pl rfl) (pl rfl) D_35 rfl D_5 rfl (srcArg_1 (l := p) D_35 rfl rfl (rdC_keep hfree hP (by exact ⟨by omega, ⟨by omega, trivial⟩⟩))) rfl (rdC_1all (hp_eq _ _ _ _) (by simp [numL_length])) (by have := List.length_pos_iff.2 h0; omega) (by omega) (by simp only [most]; omega) (by decide)) (.inl (by omega)) ?_
    refine vcS_val rfl rfl (ox_assign (pl rfl)) ?_
    refine vcS_nil ?_
    refine IW.ret ?_
    have hfs : fsp p.length = some 1 := if_neg (fun e => h0 (List.length_eq_zero_iff.1 e))
    rw [hfs]; exact RetP.new1 (.inr rfl) (ires_tmp rfl) (by omega) (hp_eq _ _ _ _) (by rw [← cels_one]; exact u8_plain _)
/-! words -/
def wsh (w : UInt64) : Nat → UInt64
  | 0 => w
  | i + 1 => shr64 (wsh w i) 8
def wordL (w : UInt64) (k : Nat) : List UInt8 := (List.range k).map fun i => (wsh w i).toUInt8
end Go.Proofs.Ytdnnojblneccdaa
/-
  Results with a row that was there, written, and new rows.
-/
namespace Go.Proofs.Ytdnnojblneccdaa
set_option linter.unusedSimpArgs false
set_option linter.unusedVariables false
open Go
open Enc (enc)
theorem ren1_keep {g : Nat → Nat} {n : Nat} (hg : ∀ id, id < n → g id = id) {v : Value} (h : okN1 (fun i => i < n) v) : ren1 g v = v := by
  unfold ren1
  split
  · rename_i a
    have h : a.block < n := h
    rw [hg _ h]
  · rename_i a l c
    have h : a.block < n := h
    rw [hg _ h]
  · rename_i r
    have h : r < n := h
    rw [hg _ h]
  · rfl
theorem RetP.upnew {D : Ty} {rs : List ResultVar} {n n'' n1 : Nat} {H H' : IHeap} {ex : Exit} {t : List Value} {v v' : Value} (ms : List Nat) {cs : List (List Value)} {up : Ups} {id : Nat} {c : List Value} (hx : ex = .normal ∨ ex = .ret) (hr : ires D t H' rs = some v') (hv : v' = ren (gL n ms) v) (hup : up = (id, some (.cells c false)) :: upL n cs) (hn1 : n1 = n + cs.length)
    (hm : allL (fun m => n ≤ m) ms) (hnd : ms.Nodup) (hH : rowsAt H' (gL n ms) ms cs) (hc : ∀ c ∈ cs, ∀ x ∈ c, okN1 (fun id => id < n + cs.length) x) (hok : okN (fun id => id < n + cs.length) v)
    (hid : id < n) (h0 : (H id).isSome = true) (hHi : H' id = some (.cells c false)) (hci : ∀ x ∈ c, okN1 (fun i => i < n) x) : RetP D rs n H ⟨v, up, n1⟩ ex t H' n'' := by
  subst hv; subst hup; subst hn1
  have hlen := rowsAt_len hH
  have hm' : ∀ m ∈ ms, n ≤ m := allL_spec hm
  have hids : ∀ i, i ∈ (⟨v, (id, some (.cells c false)) :: upL n cs, n + cs.length⟩ : Eff).ids ↔ i = id ∨ (n ≤ i ∧ i < n + cs.length) := fun i => by
    show i ∈ id :: (upL n cs).map (·.1) ↔ _
    rw [List.mem_cons, upL_ids cs n i]
  have hgl : ∀ i, i < n → gL n ms i = i := fun i h => if_pos h
  have hg : ∀ id, n ≤ id → id < n + cs.length → ∃ m, ms[id - n]? = some m ∧ gL n ms id = m := by
    intro id h1 h2
    have h3 : id - n < ms.length := by omega
    refine ⟨ms[id - n], by simp [h3], ?_⟩
    unfold gL
    rw [if_neg (by omega)]; simp [h3]
  refine ⟨hx, ?_⟩
  rw [hr]
  have hpp : ∀ i, (i < n + cs.length) → (i < n ∨ i ∈ (⟨v, (id, some (.cells c false)) :: upL n cs, n + cs.length⟩ : Eff).ids) := fun i h => by
    rw [hids]; omega
  refine ⟨gL n ms, hgl, rfl, okN_mono hpp hok, ?_, ?_, ?_, ?_, Nat.le_add_right _ _⟩
  · intro i hi o ho
    rcases (hids i).1 hi with rfl | ⟨h1, h2⟩
    · have hnot : i ∉ (upL n cs).map (·.1) := by rw [upL_ids]; omega
      simp only [upds] at ho
      rw [upds_not_mem hnot] at ho
      simp only [upd, if_true, Option.some.injEq] at ho
      subst ho
      refine ⟨?_, ?_⟩
      · rw [hgl i hid, hHi]
        have : c.map (ren1 (gL n ms)) = c := by
          conv => rhs; rw [← List.map_id c]
          exact List.map_congr_left fun x hx => ren1_keep hgl (hci x hx)
        simp only [renO, this]
      · simp only [okO]
        intro x hx
        exact okN1_mono (fun i h => .inl h) (hci x hx)
    · simp only [upds] at ho
      obtain ⟨c', h3, rfl⟩ := upL_get cs n i o h1 h2 ho
      obtain ⟨m, h4, h5⟩ := rowsAt_get hH _ c' h3
      obtain ⟨m', h6, h7⟩ := hg i h1 h2
      rw [h4] at h6; cases h6
      refine ⟨by rw [h7, h5]; rfl, ?_⟩
      simp only [okO]
      intro x hx
      exact okN1_mono hpp (hc c' (List.mem_of_getElem? h3) x hx)
  · intro i hi hle
    rcases (hids i).1 hi with rfl | ⟨h1, h2⟩
    · omega
    · obtain ⟨m', h6, h7⟩ := hg i h1 h2
      rw [h7]; exact hm' m' (List.mem_of_getElem? h6)
  · intro i hi j hj e
    rcases (hids i).1 hi with rfl | ⟨h1, h2⟩
    · rcases (hids j).1 hj with rfl | ⟨h3, h4⟩
      · rfl
      · obtain ⟨b, hb, hb'⟩ := hg j h3 h4
        have := hm' b (List.mem_of_getElem? hb)
        rw [hgl i hid, hb'] at e
        omega
    · rcases (hids j).1 hj with rfl | ⟨h3, h4⟩
      · obtain ⟨b, hb, hb'⟩ := hg i h1 h2
        have := hm' b (List.mem_of_getElem? hb)
        rw [hgl j hid, hb'] at e
        omega
      · obtain ⟨a, ha, ha'⟩ := hg i h1 h2
        obtain ⟨b, hb, hb'⟩ := hg j h3 h4
        rw [ha', hb'] at e
        subst e
        have ia : i - n < ms.length := by omega
        have ib : j - n < ms.length := by omega
        have ea : ms[i - n] = a := by simpa [ia] using ha
        have eb : ms[j - n] = a := by simpa [ib] using hb
        have hpw := List.pairwise_iff_getElem.1 hnd
        rcases Nat.lt_trichotomy (i - n) (j - n) with h | h | h
        · exact absurd (ea.trans eb.symm) (hpw _ _ ia ib h)
        · omega
        · exact absurd (eb.trans ea.symm) (hpw _ _ ib ia h)
  · intro i hi
    rcases (hids i).1 hi with rfl | ⟨h1, h2⟩
    · exact ⟨.inr h0, by show i < n + cs.length; omega⟩
    · exact ⟨.inl h1, h2⟩
end Go.Proofs.Ytdnnojblneccdaa
/-
  The reader of bytes.
-/
namespace Go.Proofs.Ytdnnojblneccdaa
set_option linter.unusedSimpArgs false
set_option linter.unusedVariables false
open Go
open Enc (enc)
set_option maxRecDepth 100000
structure RS where
  at_ : Nat
  e : Nat
def rdr (ib len : Nat) (s : RS) : Reader := ⟨⟨some ⟨ib, 0, none⟩, len, len⟩, s.at_, s.e, true⟩
/-- a reader of these bytes, so far -/
structure IsR (H : IHeap) (id ib : Nat) (l : List UInt8) (s : RS) : Prop where
  hd : H id = some (.cells (rdr ib l.length s).cells false)
  bs : H ib = some (.cells (encs l) false)
  le : s.at_ ≤ l.length
  lim : l.length ≤ 2 ^ 40
  ne : ib ≠ id
theorem IsR.uniq {H : IHeap} {id ib ib' : Nat} {l l' : List UInt8} {s s' : RS} (h : IsR H id ib l s) (h' : IsR H id ib' l' s') : ib = ib' ∧ l = l' ∧ s = s' := by
  have h1 := h.hd.symm.trans h'.hd
  simp only [Option.some.injEq, IObj.cells.injEq, and_true] at h1
  have h2 := Reader.cells_inj h1
  simp only [rdr, Reader.mk.injEq, Sl.mk.injEq, Option.some.injEq, Addr.mk.injEq, and_true] at h2
  obtain ⟨⟨e1, e2, _⟩, e3, e4⟩ := h2
  subst e1
  have h3 := h.bs.symm.trans h'.bs
  simp only [Option.some.injEq, IObj.cells.injEq, and_true] at h3
  refine ⟨rfl, encs_inj h3, ?_⟩
  obtain ⟨a, b⟩ := s
  obtain ⟨a', b'⟩ := s'
  simp only at e3 e4
  rw [RS.mk.injEq]; omega
noncomputable def rdOf (H : IHeap) (id : Nat) : Option (Nat × List UInt8 × RS) := open Classical in if h : ∃ x : Nat × List UInt8 × RS, IsR H id x.1 x.2.1 x.2.2 then some h.choose else none
theorem rdOf_some {H : IHeap} {id ib : Nat} {l : List UInt8} {s : RS} (h : IsR H id ib l s) : rdOf H id = some (ib, l, s) := by
  have hx : ∃ x : Nat × List UInt8 × RS, IsR H id x.1 x.2.1 x.2.2 := ⟨(ib, l, s), h⟩
  unfold rdOf
  rw [dif_pos hx]
  obtain ⟨h1, h2, h3⟩ := hx.choose_spec.uniq h
  congr 1
  exact Prod.ext h1 (Prod.ext h2 h3)
theorem rdOf_inv {H : IHeap} {id : Nat} {x : Nat × List UInt8 × RS} (h : rdOf H id = some x) : IsR H id x.1 x.2.1 x.2.2 := by
  unfold rdOf at h
  split at h
  · rename_i hx
    cases h
    exact hx.choose_spec
  · cases h
theorem IsR.set {H : IHeap} {M : Ups} {id ib : Nat} {l : List UInt8} {s s' : RS} (h : IsR (hp H M) id ib l s) (hs : s'.at_ ≤ l.length) : IsR (hp H ((id, some (.cells (rdr ib l.length s').cells false)) :: M)) id ib l s' :=
  ⟨hp_eq _ _ _ _, hp_sk h.ne h.bs, hs, h.lim, h.ne⟩
theorem rdr_okN {p : Nat → Prop} {ib len : Nat} {s : RS} (h : p ib) : ∀ x ∈ (rdr ib len s).cells, okN1 p x := by
  intro x hx
  simp only [Reader.cells, rdr, List.cons_append, List.nil_append, List.mem_cons, List.not_mem_nil, or_false] at hx
  rcases hx with rfl | rfl | rfl | rfl
  · exact h
  · trivial
  · trivial
  · trivial
theorem rdr_ren {g : Nat → Nat} {ib len : Nat} {s : RS} (h : g ib = ib) : (rdr ib len s).cells.map (ren1 g) = (rdr ib len s).cells := by
  show [Value.slice (some ⟨g ib, 0, none⟩) len len, .int .i64 s.at_, .int .i64 s.e, .bool true] = _
  rw [h]; rfl
/-- a contract of a reader's method -/
noncomputable def rdF (f : Nat → Nat → List UInt8 → RS → Nat → Option Eff) : FnI := fun args H n => match args with
  | [.pointer (some ⟨id, 0, none⟩)] => (rdOf H id).bind fun x => f id x.1 x.2.1 x.2.2 n
  | _ => none
theorem rdF_inv {f : Nat → Nat → List UInt8 → RS → Nat → Option Eff} {args : List Value} {H : IHeap} {n : Nat} {e : Eff} (h : rdF f args H n = some e) : ∃ (id ib : Nat) (l : List UInt8) (s : RS), args = [.pointer (some ⟨id, 0, none⟩)] ∧ IsR H id ib l s ∧ f id ib l s n = some e := by
  unfold rdF at h; split at h
  · simp only [Option.bind_eq_some_iff] at h
    obtain ⟨x, hx, h⟩ := h
    exact ⟨_, x.1, x.2.1, x.2.2, rfl, rdOf_inv hx, h⟩
  · cases h
theorem rdF_ev {f : Nat → Nat → List UInt8 → RS → Nat → Option Eff} {H : IHeap} {n id ib : Nat} {l : List UInt8} {s : RS} {e : Eff} (h : IsR H id ib l s) (he : f id ib l s n = some e) : rdF f [.pointer (some ⟨id, 0, none⟩)] H n = some e := by
  simp only [rdF, rdOf_some h, Option.bind_some]
  exact he
noncomputable def F95 : FnI := rdF fun _ _ _ s n => some ⟨.int .i64 (s.e : Int), [], n⟩
theorem F95_ev {H : IHeap} {n id ib : Nat} {l : List UInt8} {s : RS} (h : IsR H id ib l s) : F95 [.pointer (some ⟨id, 0, none⟩)] H n = some ⟨.int .i64 (s.e : Int), [], n⟩ := rdF_ev h rfl
-- (*headwater/octet.Reader).Err ['?'] -> ['Int'], results [2]
theorem R95 : Ref Try.prog 95 F95 := by
  refine Ref.of_iw dok Try.func95 rfl (by kernel_rfl) fun args H n e hF => ?_
  obtain ⟨id, ib, l, s, rfl, hR, hF2⟩ := rdF_inv hF
  cases hF2
  refine ⟨Nat.le_of_ble_eq_true rfl, ?_⟩
  simp only [idxL]
  have hE : Env Try.prog [] D K := env fnsOk_nil
  refine IW.seq ?_
  have hd := hR.hd
  have hbs := hR.bs
  have hle := hR.le
  have hlim := hR.lim
  have hne := hR.ne
  refine IW.lt (by simp) hd (fun hid => ?_)
  refine IW.lt (by simp) hbs (fun hib => ?_)
  refine IW.free (by simp) (fun hfree => ?_)
  refine IW.reg hE ?_
  refine vcS_val rfl rfl (ox_assign (pl rfl)) ?_
  refine vcS_nil ?_
  refine IW.seq ?_
  refine IW.seq ?_
  refine IW.reg hE ?_
  refine vcS_val rfl rfl (ox_move (pl rfl)) ?_
  refine vcS_val rfl rfl (ox_bin (pl rfl) (pl rfl) (bo_ptr_nil D_126 rfl)) ?_
  refine vcS_val rfl rfl (ox_move (pl rfl)) ?_
  refine vcS_T rfl (wgF rfl rfl rfl) rfl (ox_move (pl rfl)) rfl trivial ?_
  refine vcS_T rfl (wgF rfl rfl rfl) rfl (ox_nilCheck (pl rfl)) rfl trivial ?_
  refine vcS_T rfl (wgF rfl rfl rfl) rfl (ox_fieldAddr (pl rfl) D_143 rfl rfl D_4 (by decide)) rfl trivial ?_
  refine vcS_T rfl (wgF rfl rfl rfl) rfl (ox_load (pl rfl) D_4 (hp_keep hfree hd (by exact trivial)) (rd_143_3 _ rfl)) rfl trivial ?_
  refine vcS_T rfl (wgF rfl rfl rfl) rfl (ox_un (pl rfl) (uo_not _)) rfl trivial ?_
  refine vcS_val rfl rfl (ox_or (pl rfl) (pl rfl) (fun hc => pl rfl)) ?_
  refine vcS_nil ?_
  refine IW.cond rfl (fun hc1 => ?_) (fun hc1 => ?_)
  · nomatch hc1
  · refine IW.skip ?_
    refine IW.seq ?_
    refine IW.reg hE ?_
    refine vcS_val rfl rfl (ox_move (pl rfl)) ?_
    refine vcS_val rfl rfl (ox_nilCheck (pl rfl)) ?_
    refine vcS_val rfl rfl (ox_fieldAddr (pl rfl) D_143 rfl rfl D_41 (by decide)) ?_
    refine vcS_val rfl rfl (ox_load (pl rfl) D_41 (hp_keep hfree hd (by exact trivial)) (rd_143_2 _ rfl)) ?_
    refine vcS_val rfl rfl (ox_assign (pl rfl)) ?_
    refine vcS_nil ?_
    refine IW.ret ?_
    exact RetP.ret (.inr rfl) rfl rfl trivial (rfl)
noncomputable def F99 : FnI := rdF fun _ _ l s n => some ⟨.int .i64 ((l.length - s.at_ : Nat) : Int), [], n⟩
theorem F99_ev {H : IHeap} {n id ib : Nat} {l : List UInt8} {s : RS} (h : IsR H id ib l s) : F99 [.pointer (some ⟨id, 0, none⟩)] H n = some ⟨.int .i64 ((l.length - s.at_ : Nat) : Int), [], n⟩ := rdF_ev h rfl
-- (*headwater/octet.Reader).Left ['?'] -> ['Int'], results [2]
theorem R99 : Ref Try.prog 99 F99 := by
  refine Ref.of_iw dok Try.func99 rfl (by kernel_rfl) fun args H n e hF => ?_
  obtain ⟨id, ib, l, s, rfl, hR, hF2⟩ := rdF_inv hF
  cases hF2
  refine ⟨Nat.le_of_ble_eq_true rfl, ?_⟩
  simp only [idxL]
  have hE : Env Try.prog [] D K := env fnsOk_nil
  refine IW.seq ?_
  have hd := hR.hd
  have hbs := hR.bs
  have hle := hR.le
  have hlim := hR.lim
  have hne := hR.ne
  refine IW.lt (by simp) hd (fun hid => ?_)
  refine IW.lt (by simp) hbs (fun hib => ?_)
  refine IW.free (by simp) (fun hfree => ?_)
  refine IW.reg hE ?_
  refine vcS_val rfl rfl (ox_assign (pl rfl)) ?_
  refine vcS_nil ?_
  refine IW.seq ?_
  refine IW.seq ?_
  refine IW.reg hE ?_
  refine vcS_val rfl rfl (ox_move (pl rfl)) ?_
  refine vcS_val rfl rfl (ox_bin (pl rfl) (pl rfl) (bo_ptr_nil D_126 rfl)) ?_
  refine vcS_nil ?_
  refine IW.cond rfl (fun hc1 => ?_) (fun hc1 => ?_)
  · cases hc1
  · refine IW.skip ?_
    refine IW.seq ?_
    refine IW.drw hE mixed [[],[0],[0,1],[0,1,2],[0,1,2,3],[],[5],[5,6],[5,6,7],[0,1,2,3,4,5,6,7,8],[0,1,2,3,4,5,6,7,8,9]] (by kernel_rfl) (vcE_start ?_)
    refine vcE_bl rfl rfl (fun _ => ox_move (pl rfl)) rfl rfl ?_
    refine vcE_bl rfl rfl (fun _ => ox_nilCheck (pl rfl)) rfl rfl ?_
    refine vcE_bl rfl rfl (fun _ => ox_fieldAddr (pl rfl) D_143 rfl rfl D_35 (by decide)) rfl rfl ?_
    refine vcE_val rfl rfl rfl rfl (ox_load (pl rfl) D_35 (hp_keep hfree hd (by exact trivial)) (rd_143_0 _ rfl)) rfl (si_load (pl rfl)) (lt1 (by omega)) (trivial) ?_
    refine vcE_bl rfl rfl (fun _ => ox_len (pl rfl) D_35 rfl) rfl rfl ?_
    refine vcE_bl rfl rfl (fun _ => ox_move (pl rfl)) rfl rfl ?_
    refine vcE_bl rfl rfl (fun _ => ox_nilCheck (pl rfl)) rfl rfl ?_
    refine vcE_bl rfl rfl (fun _ => ox_fieldAddr (pl rfl) D_143 rfl rfl D_3 (by decide)) rfl rfl ?_
    refine vcE_val rfl rfl rfl rfl (ox_load (pl rfl) D_3 (hp_keep hfree hd (by exact trivial)) (rd_143_1 _ rfl)) rfl (si_load (pl rfl)) (lt1 (by omega)) (trivial) ?_
    refine vcE_bl rfl rfl (fun _ => ox_bin (pl rfl) (pl rfl) ((bo_i64_sub (by simp only [rdr]; omega)).trans (congrArg (fun z => some (Value.int .i64 z)) (show (l.length : Int) - (s.at_ : Int) = ((l.length - s.at_ : Nat) : Int) by omega)))) rfl rfl ?_
    refine vcE_bl rfl rfl (fun _ => ox_assign (pl rfl)) rfl rfl ?_
    refine vcE_nil ?_
    refine IW.ret ?_
    exact RetP.ret (.inr rfl) rfl rfl trivial (rfl)
def failS (s : RS) (a e : Nat) : RS := ⟨a, if s.e = 0 then e else s.e⟩
noncomputable def F112 : FnI := fun args H n => match args with
  | [.pointer (some ⟨id, 0, none⟩), .int .i64 a, .int .i64 e] => (rdOf H id).bind fun x => if 0 ≤ a ∧ a ≤ x.2.1.length ∧ 0 ≤ e then some ⟨.tuple #[], [(id, some (.cells (rdr x.1 x.2.1.length (failS x.2.2 a.toNat e.toNat)).cells false))], n⟩ else none
  | _ => none
theorem F112_inv {args : List Value} {H : IHeap} {n : Nat} {ef : Eff} (h : F112 args H n = some ef) : ∃ (id ib : Nat) (l : List UInt8) (s : RS) (a e : Nat), args = [.pointer (some ⟨id, 0, none⟩), .int .i64 a, .int .i64 e] ∧ IsR H id ib l s ∧ a ≤ l.length ∧ ef = ⟨.tuple #[], [(id, some (.cells (rdr ib l.length (failS s a e)).cells false))], n⟩ := by
  unfold F112 at h; split at h
  · simp only [Option.bind_eq_some_iff] at h
    obtain ⟨x, hx, h⟩ := h
    split at h
    · rename_i id a e hh; cases h
      exact ⟨_, x.1, x.2.1, x.2.2, a.toNat, e.toNat, by rw [Int.toNat_of_nonneg hh.1, Int.toNat_of_nonneg hh.2.2], rdOf_inv hx, by omega, rfl⟩
    · cases h
  · cases h
theorem F112_ev {H : IHeap} {n id ib : Nat} {l : List UInt8} {s : RS} {x : Int} (a e : Nat) (h : IsR H id ib l s) (hx : x = a) (ha : a ≤ l.length) : F112 [.pointer (some ⟨id, 0, none⟩), .int .i64 x, .int .i64 (e : Int)] H n = some ⟨.tuple #[], [(id, some (.cells (rdr ib l.length (failS s a e)).cells false))], n⟩ := by
  subst hx
  simp only [F112, rdOf_some h, Option.bind_some]
  rw [if_pos (by omega)]
  simp only [Int.toNat_natCast]
-- (*headwater/octet.Reader).fail ['?', 'Int', 'Int'] -> [], results []
theorem R112 : Ref Try.prog 112 F112 := by
  refine Ref.of_iw dok Try.func112 rfl (by kernel_rfl) fun args H n e hF => ?_
  obtain ⟨id, ib, l, s, a, e, rfl, hR, ha, rfl⟩ := F112_inv hF
  refine ⟨Nat.le_of_ble_eq_true rfl, ?_⟩
  simp only [idxL]
  have hE : Env Try.prog [] D K := env fnsOk_nil
  refine IW.seq ?_
  refine IW.seq ?_
  have hd := hR.hd
  have hbs := hR.bs
  have hle := hR.le
  have hlim := hR.lim
  have hne := hR.ne
  refine IW.lt (by simp) hd (fun hid => ?_)
  refine IW.lt (by simp) hbs (fun hib => ?_)
  refine IW.free (by simp) (fun hfree => ?_)
  refine IW.reg hE ?_
  refine vcS_val rfl rfl (ox_move (pl rfl)) ?_
  refine vcS_val rfl rfl (ox_nilCheck (pl rfl)) ?_
  refine vcS_val rfl rfl (ox_fieldAddr (pl rfl) D_143 rfl rfl D_41 (by decide)) ?_
  refine vcS_val rfl rfl (ox_load (pl rfl) D_41 (hp_keep hfree hd (by exact trivial)) (rd_143_2 _ rfl)) ?_
  refine vcS_val rfl rfl (ox_bin (pl rfl) (pl rfl) (bo_i64_eql _ _)) ?_
  refine vcS_nil ?_
  refine IW.cond rfl (fun hc1 => ?_) (fun hc1 => ?_)
  · have he0 : s.e = 0 := by simpa [rdr] using hc1
    refine IW.reg hE ?_
    refine vcS_val rfl rfl (ox_move (pl rfl)) ?_
    refine vcS_val rfl rfl (ox_move (pl rfl)) ?_
    refine vcS_val rfl rfl (ox_nilCheck (pl rfl)) ?_
    refine vcS_val rfl rfl (ox_fieldAddr (pl rfl) D_143 rfl rfl D_41 (by decide)) ?_
    refine vcS_sto rfl rfl (ox_store (pl rfl) (pl rfl) D_41 (hp_keep hfree hd (by exact trivial)) rfl rfl (Reader.le _ rfl) rfl (wr_143_2 _ _)) (.inr (by simp [Eff.ids])) ?_
    refine vcS_nil ?_
    refine IW.reg hE ?_
    refine vcS_val rfl rfl (ox_move (pl rfl)) ?_
    refine vcS_val rfl rfl (ox_move (pl rfl)) ?_
    refine vcS_val rfl rfl (ox_nilCheck (pl rfl)) ?_
    refine vcS_val rfl rfl (ox_fieldAddr (pl rfl) D_143 rfl rfl D_3 (by decide)) ?_
    refine vcS_sto rfl rfl (ox_store (pl rfl) (pl rfl) D_3 (hp_eq _ _ _ _) rfl rfl (Reader.le _ rfl) rfl (wr_143_1 _ _)) (.inr (by simp [Eff.ids])) ?_
    refine vcS_nil ?_
    refine IW.nil ?_
    exact RetP.upd1 (.inl rfl) rfl hid (is_some hd) ((hp_eq _ _ _ _).trans (by rw [failS, if_pos he0]; rfl)) (rdr_okN hib) (fun x hx => by simp at hx)
  · have he0 : s.e ≠ 0 := by simpa [rdr] using hc1
    refine IW.skip ?_
    refine IW.reg hE ?_
    refine vcS_val rfl rfl (ox_move (pl rfl)) ?_
    refine vcS_val rfl rfl (ox_move (pl rfl)) ?_
    refine vcS_val rfl rfl (ox_nilCheck (pl rfl)) ?_
    refine vcS_val rfl rfl (ox_fieldAddr (pl rfl) D_143 rfl rfl D_3 (by decide)) ?_
    refine vcS_sto rfl rfl (ox_store (pl rfl) (pl rfl) D_3 (hp_keep hfree hd (by exact trivial)) rfl rfl (Reader.le _ rfl) rfl (wr_143_1 _ _)) (.inr (by simp [Eff.ids])) ?_
    refine vcS_nil ?_
    refine IW.nil ?_
    exact RetP.upd1 (.inl rfl) rfl hid (is_some hd) ((hp_eq _ _ _ _).trans (by rw [failS, if_neg he0]; rfl)) (rdr_okN hib) (fun x hx => by simp at hx)
/-! to go on -/
def tkOk (l : List UInt8) (s : RS) (k : Nat) : Bool := decide (s.e = 0 ∧ s.at_ + k ≤ l.length)
def tkS (l : List UInt8) (s : RS) (k : Nat) : RS := if s.e = 0 then (if s.at_ + k ≤ l.length then ⟨s.at_ + k, 0⟩ else ⟨s.at_, 5⟩) else s
def tkL (l : List UInt8) (s : RS) (k : Nat) : List UInt8 := if tkOk l s k = true then (l.drop s.at_).take k else []
def tkV (ib : Nat) (l : List UInt8) (s : RS) (k : Nat) : Value := if tkOk l s k = true then .slice (some (slA ⟨ib, 0, none⟩ l.length 1 s.at_)) k (l.length - s.at_) else .slice none 0 0
theorem tkS_le {l : List UInt8} {s : RS} {k : Nat} (h : s.at_ ≤ l.length) : (tkS l s k).at_ ≤ l.length := by
  unfold tkS
  split
  · split
    · assumption
    · exact h
  · exact h
theorem tk_err {l : List UInt8} {s : RS} {k ib : Nat} (h : s.e ≠ 0) : tkOk l s k = false ∧ tkS l s k = s ∧ tkV ib l s k = .slice none 0 0 ∧ tkL l s k = [] := by
  have h1 : tkOk l s k = false := by simp [tkOk, h]
  exact ⟨h1, if_neg h, by simp [tkV, h1], by simp [tkL, h1]⟩
theorem tk_more {l : List UInt8} {s : RS} {k ib : Nat} (h : s.e = 0) (hk : l.length < s.at_ + k) : tkOk l s k = false ∧ tkS l s k = ⟨s.at_, 5⟩ ∧ tkV ib l s k = .slice none 0 0 ∧ tkL l s k = [] := by
  have h1 : tkOk l s k = false := by simp [tkOk]; omega
  refine ⟨h1, ?_, by simp [tkV, h1], by simp [tkL, h1]⟩
  unfold tkS
  rw [if_pos h, if_neg (by omega)]
theorem tk_ok {l : List UInt8} {s : RS} {k ib : Nat} (h : s.e = 0) (hk : s.at_ + k ≤ l.length) : tkOk l s k = true ∧ tkS l s k = ⟨s.at_ + k, 0⟩ ∧ tkV ib l s k = .slice (some (slA ⟨ib, 0, none⟩ l.length 1 s.at_)) k (l.length - s.at_) ∧ tkL l s k = (l.drop s.at_).take k := by
  have h1 : tkOk l s k = true := by simp [tkOk]; omega
  refine ⟨h1, ?_, by simp [tkV, h1], by simp [tkL, h1]⟩
  unfold tkS
  rw [if_pos h, if_pos hk]
theorem tk_rd {H : IHeap} {ib k : Nat} {l : List UInt8} {s : RS} (h : H ib = some (.cells (encs l) false)) : rdC H (tkV ib l s k) = some (tkL l s k) := by
  by_cases hok : tkOk l s k = true
  · have h2 := hok
    simp only [tkOk, decide_eq_true_eq] at h2
    obtain ⟨_, _, e1, e2⟩ := tk_ok (ib := ib) h2.1 h2.2
    rw [e1, e2]
    have := rdC_sl (α := UInt8) (a := ⟨ib, 0, none⟩) (l := s.at_) (h := s.at_ + k) (rdC_1all (cap := l.length) h rfl) (by omega) h2.2 (Nat.le_refl _)
    rw [Nat.add_sub_cancel_left, List.drop_take, Nat.add_sub_cancel_left] at this
    exact this
  · have h1 : tkOk l s k = false := by simpa using hok
    simp only [tkV, tkL, h1]; rfl
theorem tk_form {ib : Nat} {l : List UInt8} {s : RS} {k : Nat} : ∃ a c, tkV ib l s k = .slice a (tkL l s k).length c := by
  obtain ⟨a, c, e⟩ := rdC_len (tk_rd (H := fun i => if i = ib then some (.cells (encs l) false) else none) (ib := ib) (l := l) (s := s) (k := k) (by simp))
  exact ⟨a, c, e⟩
theorem tkV_okN {p : Nat → Prop} {ib : Nat} {l : List UInt8} {s : RS} {k : Nat} {b : Bool} (h : p ib) : okN p (.tuple #[tkV ib l s k, .bool b]) := by
  intro x hx
  simp only [List.mem_cons, List.not_mem_nil, or_false] at hx
  rcases hx with rfl | rfl
  · unfold tkV
    split
    · show p _
      unfold slA goOn
      split
      · exact h
      · split <;> exact h
    · trivial
  · trivial
noncomputable def F110 : FnI := fun args H n => match args with
  | [.pointer (some ⟨id, 0, none⟩), .int .i64 k] => (rdOf H id).bind fun x => if 0 ≤ k ∧ k ≤ 2 ^ 41 then some ⟨.tuple #[tkV x.1 x.2.1 x.2.2 k.toNat, .bool (tkOk x.2.1 x.2.2 k.toNat)], [(id, some (.cells (rdr x.1 x.2.1.length (tkS x.2.1 x.2.2 k.toNat)).cells false))], n⟩ else none
  | _ => none
theorem F110_inv {args : List Value} {H : IHeap} {n : Nat} {ef : Eff} (h : F110 args H n = some ef) : ∃ (id ib : Nat) (l : List UInt8) (s : RS) (k : Nat), args = [.pointer (some ⟨id, 0, none⟩), .int .i64 k] ∧ IsR H id ib l s ∧ k ≤ 2 ^ 41 ∧ ef = ⟨.tuple #[tkV ib l s k, .bool (tkOk l s k)], [(id, some (.cells (rdr ib l.length (tkS l s k)).cells false))], n⟩ := by
  unfold F110 at h; split at h
  · simp only [Option.bind_eq_some_iff] at h
    obtain ⟨x, hx, h⟩ := h
    split at h
    · rename_i id k hh; cases h
      exact ⟨_, x.1, x.2.1, x.2.2, k.toNat, by rw [Int.toNat_of_nonneg hh.1], rdOf_inv hx, by omega, rfl⟩
    · cases h
  · cases h
theorem F110_ev {H : IHeap} {n id ib : Nat} {l : List UInt8} {s : RS} {x : Int} (k : Nat) (h : IsR H id ib l s) (hx : x = k) (hk : k ≤ 2 ^ 41) : F110 [.pointer (some ⟨id, 0, none⟩), .int .i64 x] H n = some ⟨.tuple #[tkV ib l s k, .bool (tkOk l s k)], [(id, some (.cells (rdr ib l.length (tkS l s k)).cells false))], n⟩ := by
  subst hx
  simp only [F110, rdOf_some h, Option.bind_some]
  rw [if_pos (by omega)]
  simp only [Int.toNat_natCast]
-- (*headwater/octet.Reader).take ['?', 'Int'] -> ['Sl', 'Bool'], results [4, 5]
theorem R110 : Ref Try.prog 110 F110 := by
  refine Ref.of_iw dok Try.func110 rfl (by kernel_rfl) fun args H n e hF => ?_
  obtain ⟨id, ib, l, s, k, rfl, hR, hk, rfl⟩ := F110_inv hF
  refine ⟨Nat.le_of_ble_eq_true rfl, ?_⟩
  simp only [idxL]
  have hE : Env Try.prog [(95, F95), (99, F99), (112, F112)] D K := env (fnsOk_cons R95 (fnsOk_cons R99 (fnsOk_cons R112 fnsOk_nil)))
  refine IW.seq ?_
  have hd := hR.hd
  have hbs := hR.bs
  have hle := hR.le
  have hlim := hR.lim
  have hne := hR.ne
  refine IW.lt (by simp) hd (fun hid => ?_)
  refine IW.lt (by simp) hbs (fun hib => ?_)
  refine IW.free (by simp) (fun hfree => ?_)
  refine IW.reg hE ?_
  refine vcS_val rfl rfl (ox_assign (pl rfl)) ?_
  refine vcS_val rfl rfl (ox_assign (pl rfl)) ?_
  refine vcS_nil ?_
  refine IW.seq ?_
  refine IW.seq ?_
  refine IW.reg hE ?_
  refine vcS_val rfl rfl (ox_move (pl rfl)) ?_
  refine vcS_val rfl rfl (ox_fn rfl rfl (F95_ev hR)) ?_
  refine vcS_val rfl rfl (ox_bin (pl rfl) (pl rfl) (bo_i64_neq _ _)) ?_
  refine vcS_nil ?_
  refine IW.cond rfl (fun hc1 => ?_) (fun hc1 => ?_)
  · have he : s.e ≠ 0 := by simpa using hc1
    obtain ⟨t1, t2, t3, _⟩ := tk_err (l := l) (k := k) (ib := ib) he
    refine IW.seq ?_
    refine IW.reg hE ?_
    refine vcS_val rfl rfl (ox_assign (pl rfl)) ?_
    refine vcS_val rfl rfl (ox_assign (pl rfl)) ?_
    refine vcS_nil ?_
    refine IW.ret ?_
    rw [t1, t2, t3]; exact RetP.upd1 (.inr rfl) rfl hid (is_some hd) hd (rdr_okN hib) (by rw [← t3]; exact tkV_okN hib)
  · have he : s.e = 0 := by simpa using hc1
    refine IW.skip ?_
    refine IW.seq ?_
    refine IW.seq ?_
    refine IW.reg hE ?_
    refine vcS_val rfl rfl (ox_move (pl rfl)) ?_
    refine vcS_val rfl rfl (ox_move (pl rfl)) ?_
    refine vcS_val rfl rfl (ox_fn rfl rfl (F99_ev hR)) ?_
    refine vcS_val rfl rfl (ox_bin (pl rfl) (pl rfl) (bo_i64_gtr _ _)) ?_
    refine vcS_nil ?_
    refine IW.cond rfl (fun hc2 => ?_) (fun hc2 => ?_)
    · replace hc2 := of_decide_eq_true hc2
      obtain ⟨t1, t2, t3, _⟩ := tk_more (l := l) (k := k) (ib := ib) he (by omega)
      refine IW.seq ?_
      refine IW.reg hE ?_
      refine vcS_val rfl rfl (ox_move (pl rfl)) ?_
      refine vcS_val rfl rfl (ox_move (pl rfl)) ?_
      refine vcS_val rfl rfl (ox_nilCheck (pl rfl)) ?_
      refine vcS_val rfl rfl (ox_fieldAddr (pl rfl) D_143 rfl rfl D_3 (by decide)) ?_
      refine vcS_val rfl rfl (ox_load (pl rfl) D_3 (hp_keep hfree hd (by exact trivial)) (rd_143_1 _ rfl)) ?_
      refine vcS_ups rfl rfl (ox_fn rfl rfl (F112_ev s.at_ 5 hR rfl hle)) rfl ⟨.inr (by simp [Eff.ids]), trivial⟩ ?_
      refine vcS_nil ?_
      refine IW.seq ?_
      refine IW.reg hE ?_
      refine vcS_val rfl rfl (ox_assign (pl rfl)) ?_
      refine vcS_val rfl rfl (ox_assign (pl rfl)) ?_
      refine vcS_nil ?_
      refine IW.ret ?_
      rw [t1, t2, t3]; exact RetP.upd1 (.inr rfl) rfl hid (is_some hd) ((hp_eq _ _ _ _).trans (by rw [failS, if_pos he])) (rdr_okN hib) (by rw [← t3]; exact tkV_okN hib)
    · replace hc2 := of_decide_eq_false hc2
      have hkl : s.at_ + k ≤ l.length := by omega
      obtain ⟨t1, t2, t3, _⟩ := tk_ok (ib := ib) he hkl
      refine IW.skip ?_
      refine IW.seq ?_
      refine IW.drw hE mixed [[],[0],[0,1],[0,1,2],[],[4],[4,5],[4,5,6],[],[8],[8,9],[8,9,10],[],[8,9,10,11,12],[0,1,2,3,4,5,6,7,8,9,10,11,12,13],[0,1,2,3,4,5,6,7,8,9,10,11,12,13,14]] (by kernel_rfl) (vcE_start ?_)
      refine vcE_bl rfl rfl (fun _ => ox_move (pl rfl)) rfl rfl ?_
      refine vcE_bl rfl rfl (fun _ => ox_nilCheck (pl rfl)) rfl rfl ?_
      refine vcE_bl rfl rfl (fun _ => ox_fieldAddr (pl rfl) D_143 rfl rfl D_35 (by decide)) rfl rfl ?_
      refine vcE_val rfl rfl rfl rfl (ox_load (pl rfl) D_35 (hp_keep hfree hd (by exact trivial)) (rd_143_0 _ rfl)) rfl (si_load (pl rfl)) (lt1 (by omega)) (trivial) ?_
      refine vcE_bl rfl rfl (fun _ => ox_move (pl rfl)) rfl rfl ?_
      refine vcE_bl rfl rfl (fun _ => ox_nilCheck (pl rfl)) rfl rfl ?_
      refine vcE_bl rfl rfl (fun _ => ox_fieldAddr (pl rfl) D_143 rfl rfl D_3 (by decide)) rfl rfl ?_
      refine vcE_val rfl rfl rfl rfl (ox_load (pl rfl) D_3 (hp_keep hfree hd (by exact trivial)) (rd_143_1 _ rfl)) rfl (si_load (pl rfl)) (lt1 (by omega)) (trivial) ?_
      refine vcE_bl rfl rfl (fun _ => ox_move (pl rfl)) rfl rfl ?_
      refine vcE_bl rfl rfl (fun _ => ox_nilCheck (pl rfl)) rfl rfl ?_
      refine vcE_bl rfl rfl (fun _ => ox_fieldAddr (pl rfl) D_143 rfl rfl D_3 (by decide)) rfl rfl ?_
      refine vcE_val rfl rfl rfl rfl (ox_load (pl rfl) D_3 (hp_keep hfree hd (by exact trivial)) (rd_143_1 _ rfl)) rfl (si_load (pl rfl)) (lt1 (by omega)) (trivial) ?_
      refine vcE_bl rfl rfl (fun _ => ox_move (pl rfl)) rfl rfl ?_
      refine vcE_bl rfl rfl (fun _ => ox_bin (pl rfl) (pl rfl) (bo_i64_add (by simp only [rdr]; omega))) rfl rfl ?_
      refine vcE_bl rfl rfl (fun _ => (ox_sl (l := s.at_) (h := s.at_ + k) (pl rfl) D_35 rfl D_5 (bndI (pl rfl) rfl) (bndI (pl rfl) (by simp only [rdr]; omega)) (by omega) hkl (.inl rfl)).trans (by rw [Nat.add_sub_cancel_left])) rfl rfl ?_
      refine vcE_bl rfl rfl (fun _ => ox_assign (pl rfl)) rfl rfl ?_
      refine vcE_nil ?_
      refine IW.seq ?_
      refine IW.reg hE ?_
      refine vcS_val rfl rfl (ox_move (pl rfl)) ?_
      refine vcS_val rfl rfl (ox_nilCheck (pl rfl)) ?_
      refine vcS_val rfl rfl (ox_fieldAddr (pl rfl) D_143 rfl rfl D_3 (by decide)) ?_
      refine vcS_val rfl rfl (ox_load (pl rfl) D_3 (hp_keep hfree hd (by exact trivial)) (rd_143_1 _ rfl)) ?_
      refine vcS_val rfl rfl (ox_move (pl rfl)) ?_
      refine vcS_val rfl rfl (ox_bin (pl rfl) (pl rfl) (bo_i64_add (by simp only [rdr]; omega))) ?_
      refine vcS_val rfl rfl (ox_nilCheck (pl rfl)) ?_
      refine vcS_val rfl rfl (ox_fieldAddr (pl rfl) D_143 rfl rfl D_3 (by decide)) ?_
      refine vcS_sto rfl rfl (ox_store (pl rfl) (pl rfl) D_3 (hp_keep hfree hd (by exact trivial)) rfl rfl (Reader.le _ rfl) rfl (wr_143_1 _ _)) (.inr (by simp [Eff.ids])) ?_
      refine vcS_nil ?_
      refine IW.seq ?_
      refine IW.reg hE ?_
      refine vcS_val rfl rfl (ox_move (pl rfl)) ?_
      refine vcS_val rfl rfl (ox_assign (pl rfl)) ?_
      refine vcS_val rfl rfl (ox_assign (pl rfl)) ?_
      refine vcS_nil ?_
      refine IW.ret ?_
      rw [t1, t2, t3]; exact RetP.upd1 (.inr rfl) rfl hid (is_some hd) ((hp_eq _ _ _ _).trans (by simp only [rdr, he]; rfl)) (rdr_okN hib) (by rw [← t3]; exact tkV_okN hib)
noncomputable def F93 : FnI := fun args H n => match args with
  | [x] => (rdC H x).bind fun (b : List UInt8) => if b.length ≤ 2 ^ 40 then some ⟨.pointer (some ⟨n + 1, 0, none⟩), [(n, some (.cells (encs b) false)), (n + 1, some (.cells (rdr n b.length ⟨0, 0⟩).cells false))], n + 2⟩ else none
  | _ => none
theorem F93_inv {args : List Value} {H : IHeap} {n : Nat} {e : Eff} (h : F93 args H n = some e) : ∃ (x : Value) (b : List UInt8), args = [x] ∧ rdC H x = some b ∧ b.length ≤ 2 ^ 40 ∧ e = ⟨.pointer (some ⟨n + 1, 0, none⟩), [(n, some (.cells (encs b) false)), (n + 1, some (.cells (rdr n b.length ⟨0, 0⟩).cells false))], n + 2⟩ := by
  unfold F93 at h; split at h
  · simp only [Option.bind_eq_some_iff] at h
    obtain ⟨b, hb, h⟩ := h
    split at h
    · rename_i hh; cases h; exact ⟨_, b, rfl, hb, hh, rfl⟩
    · cases h
  · cases h
theorem F93_ev {x : Value} {H : IHeap} {n : Nat} {b : List UInt8} (hb : rdC H x = some b) (h : b.length ≤ 2 ^ 40) : F93 [x] H n = some ⟨.pointer (some ⟨n + 1, 0, none⟩), [(n, some (.cells (encs b) false)), (n + 1, some (.cells (rdr n b.length ⟨0, 0⟩).cells false))], n + 2⟩ := by
  simp only [F93, hb, Option.bind_some]
  rw [if_pos h]
-- headwater/octet.Read ['Sl'] -> ['?'], results [2]
theorem R93 : Ref Try.prog 93 F93 := by
  refine Ref.of_iw dok Try.func93 rfl (by kernel_rfl) fun args H n e hF => ?_
  obtain ⟨x, b, rfl, hB, hle, rfl⟩ := F93_inv hF
  refine ⟨Nat.le_of_ble_eq_true rfl, ?_⟩
  simp only [idxL]
  have hE : Env Try.prog [(100, F100)] D K := env (fnsOk_cons R100 fnsOk_nil)
  refine IW.seq ?_
  refine IW.free (by simp) (fun hfree => ?_)
  refine IW.reg hE ?_
  refine vcS_val rfl rfl (ox_assign (pl rfl)) ?_
  refine vcS_nil ?_
  refine IW.seq ?_
  refine IW.reg hE ?_
  refine vcS_val rfl rfl (ox_move (pl rfl)) ?_
  refine vcS_ups rfl rfl (ox_fn rfl rfl (F100_ev 0 (rdC_keep hfree hB (by exact trivial)) rfl (by omega))) rfl ⟨.inl (by omega), trivial⟩ ?_
  refine vcS_val rfl rfl (ox_buildZ D_143 (zero_143 D_143) rfl rfl (fill_cons (pl_mk rfl D_35) rfl rfl (Reader.le _ rfl) (wr_143_0 _ ⟨some ⟨n, 0, none⟩, b.length, b.length⟩) (fill_cons (pl_mk rfl D_4) rfl rfl (Reader.le _ rfl) (wr_143_3 _ true) fill_nil))) ?_
  refine vcS_new rfl rfl (ox_box (pl rfl) (cellsOf_Reader _)) (.inl (by omega)) ?_
  refine vcS_val rfl rfl (ox_assign (pl rfl)) ?_
  refine vcS_nil ?_
  refine IW.ret ?_
  refine RetP.news [n, n + 1] (cs := [encs b, (rdr n b.length ⟨0, 0⟩).cells]) (.inr rfl) (ires_tmp rfl) ?_ rfl rfl ⟨by omega, by omega, trivial⟩ (by simp) ⟨(hp_sk (by omega) (hp_eq _ _ _ _)).trans (by rw [buf_zero, plains_ren (by rw [← cels_one]; exact u8_plain _)]), (hp_eq _ _ _ _).trans ?_, trivial⟩ ?_ ?_
  · simp [ren, ren2, ren1, gL_at (m := n + 1) (n := n) (ms := [n, n + 1]) (Nat.le_succ _) (by simp)]
  · rw [rdr_ren (gL_at (m := n) (n := n) (ms := [n, n + 1]) (Nat.le_refl _) (by simp))]; rfl
  · intro c hc
    simp only [List.mem_cons, List.not_mem_nil, or_false] at hc
    rcases hc with rfl | rfl
    · exact u8_okN1 _
    · exact rdr_okN (by simp)
  · show n + 1 < _; simp
end Go.Proofs.Ytdnnojblneccdaa
/-
  The reader's words, numbers and bytes.
-/
namespace Go.Proofs.Ytdnnojblneccdaa
set_option linter.unusedSimpArgs false
set_option linter.unusedVariables false
open Go
open Enc (enc)
set_option maxRecDepth 100000
noncomputable def F97 : FnI := rdF fun _ _ _ s n => some ⟨.int .i64 ((if s.e = 4 then 4 else 5 : Nat) : Int), [], n⟩
theorem F97_ev {H : IHeap} {n id ib : Nat} {l : List UInt8} {s : RS} (h : IsR H id ib l s) : F97 [.pointer (some ⟨id, 0, none⟩)] H n = some ⟨.int .i64 ((if s.e = 4 then 4 else 5 : Nat) : Int), [], n⟩ := rdF_ev h rfl
-- headwater/record.fault ['?'] -> ['Int'], results [2]
theorem R97 : Ref Try.prog 97 F97 := by
  refine Ref.of_iw dok Try.func97 rfl (by kernel_rfl) fun args H n e hF => ?_
  obtain ⟨id, ib, l, s, rfl, hR, hF2⟩ := rdF_inv hF
  cases hF2
  refine ⟨Nat.le_of_ble_eq_true rfl, ?_⟩
  simp only [idxL]
  have hE : Env Try.prog [(95, F95)] D K := env (fnsOk_cons R95 fnsOk_nil)
  refine IW.seq ?_
  have hd := hR.hd
  have hbs := hR.bs
  have hle := hR.le
  have hlim := hR.lim
  have hne := hR.ne
  refine IW.lt (by simp) hd (fun hid => ?_)
  refine IW.lt (by simp) hbs (fun hib => ?_)
  refine IW.free (by simp) (fun hfree => ?_)
  refine IW.reg hE ?_
  refine vcS_val rfl rfl (ox_assign (pl rfl)) ?_
  refine vcS_nil ?_
  refine IW.seq ?_
  refine IW.seq ?_
  refine IW.reg hE ?_
  refine vcS_val rfl rfl (ox_move (pl rfl)) ?_
  refine vcS_val rfl rfl (ox_fn rfl rfl (F95_ev hR)) ?_
  refine vcS_val rfl rfl (ox_bin (pl rfl) (pl rfl) (bo_i64_eql _ _)) ?_
  refine vcS_nil ?_
  refine IW.cond rfl (fun hc1 => ?_) (fun hc1 => ?_)
  · have he : s.e = 4 := by
      have h : (s.e : Int) = 4 := by simpa using hc1
      omega
    refine IW.seq ?_
    refine IW.reg hE ?_
    refine vcS_val rfl rfl (ox_assign (pl rfl)) ?_
    refine vcS_nil ?_
    refine IW.ret ?_
    exact RetP.ret (.inr rfl) rfl rfl trivial (by rw [if_pos he]; rfl)
  · have he : ¬ s.e = 4 := by
      have h : ¬ (s.e : Int) = 4 := by simpa using hc1
      omega
    refine IW.skip ?_
    refine IW.seq ?_
    refine IW.reg hE ?_
    refine vcS_val rfl rfl (ox_assign (pl rfl)) ?_
    refine vcS_nil ?_
    refine IW.ret ?_
    exact RetP.ret (.inr rfl) rfl rfl trivial (by rw [if_neg he]; rfl)
theorem tkL_length {l : List UInt8} {s : RS} {k : Nat} : (tkL l s k).length ≤ k := by
  unfold tkL; split
  · rw [List.length_take]; omega
  · exact Nat.zero_le _
theorem tkL_len {l : List UInt8} {s : RS} {k : Nat} (h : tkOk l s k = true) : (tkL l s k).length = k := by
  have h2 := h
  simp only [tkOk, decide_eq_true_eq] at h2
  simp only [tkL, h, if_true, List.length_take, List.length_drop]; omega
theorem tk_adr {n ib k : Nat} {l : List UInt8} {s : RS} (h : ib < n) : adrId (tkV ib l s k) < n := by
  unfold tkV
  split
  · show (slA _ _ _ _).block < n
    unfold slA goOn
    split
    · exact h
    · split <;> exact h
  · show 0 < n
    omega
/-- a word out of bytes, the low one first -/
def wv (q : List UInt8) : Nat → UInt64
  | 0 => 0
  | i + 1 => wv q i ||| shl64 (q.getD i 0).toUInt64 (8 * i)
def wordV (q : List UInt8) : UInt64 := wv q q.length
noncomputable def F94 : FnI := fun args H n => match args with
  | [.pointer (some ⟨id, 0, none⟩), .int .i64 k] => (rdOf H id).bind fun x => if 1 ≤ k ∧ k ≤ 8 then some ⟨enc (wordV (tkL x.2.1 x.2.2 k.toNat)), [(id, some (.cells (rdr x.1 x.2.1.length (tkS x.2.1 x.2.2 k.toNat)).cells false))], n⟩ else none
  | _ => none
theorem F94_inv {args : List Value} {H : IHeap} {n : Nat} {ef : Eff} (h : F94 args H n = some ef) : ∃ (id ib : Nat) (l : List UInt8) (s : RS) (k : Nat), args = [.pointer (some ⟨id, 0, none⟩), .int .i64 k] ∧ IsR H id ib l s ∧ (1 ≤ k ∧ k ≤ 8) ∧ ef = ⟨enc (wordV (tkL l s k)), [(id, some (.cells (rdr ib l.length (tkS l s k)).cells false))], n⟩ := by
  unfold F94 at h; split at h
  · simp only [Option.bind_eq_some_iff] at h
    obtain ⟨x, hx, h⟩ := h
    split at h
    · rename_i id k hh; cases h
      exact ⟨_, x.1, x.2.1, x.2.2, k.toNat, by rw [Int.toNat_of_nonneg (by omega)], rdOf_inv hx, by omega, rfl⟩
    · cases h
  · cases h
theorem F94_ev {H : IHeap} {n id ib : Nat} {l : List UInt8} {s : RS} (k : Nat) (h : IsR H id ib l s) (hk : 1 ≤ k ∧ k ≤ 8) : F94 [.pointer (some ⟨id, 0, none⟩), .int .i64 (k : Int)] H n = some ⟨enc (wordV (tkL l s k)), [(id, some (.cells (rdr ib l.length (tkS l s k)).cells false))], n⟩ := by
  simp only [F94, rdOf_some h, Option.bind_some]
  rw [if_pos (by omega)]
  simp only [Int.toNat_natCast]
-- (*headwater/octet.Reader).Word ['?', 'Int'] -> ['UInt64'], results [4]
theorem R94 : Ref Try.prog 94 F94 := by
  refine Ref.of_iw dok Try.func94 rfl (by kernel_rfl) fun args H n e hF => ?_
  obtain ⟨id, ib, l, s, k, rfl, hR, hk, rfl⟩ := F94_inv hF
  refine ⟨Nat.le_of_ble_eq_true rfl, ?_⟩
  simp only [idxL]
  have hE : Env Try.prog [(101, F101), (110, F110)] D K := env (fnsOk_cons R101 (fnsOk_cons R110 fnsOk_nil))
  refine IW.seq ?_
  have hd := hR.hd
  have hbs := hR.bs
  have hle := hR.le
  have hlim := hR.lim
  have hne := hR.ne
  refine IW.lt (by simp) hd (fun hid => ?_)
  refine IW.lt (by simp) hbs (fun hib => ?_)
  refine IW.free (by simp) (fun hfree => ?_)
  refine IW.reg hE ?_
  refine vcS_val rfl rfl (ox_assign (pl (v := enc (0 : UInt64)) rfl)) ?_
  refine vcS_nil ?_
  refine IW.seq ?_
  refine IW.reg hE ?_
  refine vcS_val rfl rfl (ox_move (pl rfl)) ?_
  refine vcS_val rfl rfl (ox_move (pl rfl)) ?_
  refine vcS_val rfl rfl (ox_fn rfl rfl (F101_ev k (by omega))) ?_
  refine vcS_ups rfl rfl (ox_fn rfl rfl (F110_ev (s := s) k hR (by omega) (by omega))) rfl ⟨.inr (by simp [Eff.ids]), trivial⟩ ?_
  refine vcS_val rfl rfl (ox_move (pl rfl)) ?_
  refine vcS_val rfl rfl (ox_extract (pl rfl) rfl) ?_
  refine vcS_val rfl rfl (ox_extract (pl rfl) rfl) ?_
  refine vcS_val rfl rfl (ox_assign (pl rfl)) ?_
  refine vcS_val rfl rfl (ox_assign (pl rfl)) ?_
  refine vcS_nil ?_
  refine IW.seq ?_
  obtain ⟨qa, qc, hqv⟩ := tk_form (ib := ib) (l := l) (s := s) (k := k)
  have hq := tk_rd (H := hp H [(id, some (.cells (rdr ib l.length (tkS l s k)).cells false))]) (s := s) (k := k) (hp_sk hne hbs)
  rw [hqv]
  rw [hqv] at hq
  have hql := tkL_length (l := l) (s := s) (k := k)
  refine IW.reg hE ?_
  refine vcS_val rfl rfl (ox_assign (pl (v := enc (0 : UInt64)) rfl)) ?_
  refine vcS_nil ?_
  refine IW.seq ?_
  refine IW.seq ?_
  refine IW.reg hE ?_
  refine vcS_val rfl rfl (ox_move (pl rfl)) ?_
  refine vcS_val rfl rfl (ox_len (pl rfl) D_35 rfl) ?_
  refine vcS_val rfl rfl (ox_move (pl rfl)) ?_
  refine vcS_nil ?_
  refine IW.block ?_
  refine IW.loop (S := Nat) (fun i => [(7, enc (wv (tkL l s k) i)), (17, .slice qa (tkL l s k).length qc), (18, .int .i64 (tkL l s k).length), (19, .int .i64 i)]) (fun i => [(id, some (.cells (rdr ib l.length (tkS l s k)).cells false))]) (fun i => n) (fun i => i ≤ (tkL l s k).length) (fun i => (tkL l s k).length - i) (0) (Nat.zero_le _) (⟨rfl, ⟨rfl, ⟨rfl, ⟨rfl, trivial⟩⟩⟩⟩) (fun _ _ h => h) (Nat.le_refl _) (fun i hi => ?_)
  refine IW.seq ?_
  refine IW.reg hE ?_
  refine vcS_val rfl rfl (ox_bin (pl rfl) (pl rfl) (bo_i64_lss _ _)) ?_
  refine vcS_nil ?_
  refine IW.seq ?_
  refine IW.cond rfl (fun hc1 => ?_) (fun hc1 => ?_)
  · replace hc1 := of_decide_eq_true hc1
    have hi2 : i < (tkL l s k).length := by omega
    refine IW.skip ?_
    refine IW.seq ?_
    refine IW.block ?_
    refine IW.seq ?_
    refine IW.reg hE ?_
    refine vcS_val rfl rfl (ox_move (pl rfl)) ?_
    refine vcS_val rfl rfl (ox_iaC (α := UInt8) (v := .slice qa (tkL l s k).length qc) i (pl rfl) (pl rfl) D_35 rfl D_5 rfl hq rfl hi2) ?_
    refine vcS_val rfl rfl (ox_ldC (v := .slice qa (tkL l s k).length qc) i (0 : UInt8) (pl rfl) D_5 rfl hq hi2) ?_
    refine vcS_val rfl rfl (ox_assign (pl rfl)) ?_
    refine vcS_val rfl rfl (ox_assign (pl rfl)) ?_
    refine vcS_nil ?_
    refine IW.reg hE ?_
    refine vcS_val rfl rfl (ox_move (pl rfl)) ?_
    refine vcS_val rfl rfl (ox_move (pl rfl)) ?_
    refine vcS_val rfl rfl (cv_8_6 (pl rfl) D_5 D_22 rfl) ?_
    refine vcS_val rfl rfl (ox_move (pl rfl)) ?_
    refine vcS_val rfl rfl (ox_bin (pl rfl) (pl rfl) (bo_i64_mul (by omega))) ?_
    refine vcS_val rfl rfl (ox_bin (pl rfl) (pl rfl) (bo_u64_shlN _ (8 * i) (by omega))) ?_
    refine vcS_val rfl rfl (ox_bin (pl rfl) (pl rfl) (bo_u64_or _ _)) ?_
    refine vcS_val rfl rfl (ox_assign (pl rfl)) ?_
    refine vcS_nil ?_
    refine IW.nilB ?_
    refine IW.reg hE ?_
    refine vcS_val rfl rfl (ox_bin (pl rfl) (pl rfl) (bo_i64_add (by omega))) ?_
    refine vcS_val rfl rfl (ox_move (pl rfl)) ?_
    refine vcS_nil ?_
    refine IW.nilS ?_
    exact ⟨i + 1, _, _, by omega, by omega, rfl, ⟨rfl, ⟨rfl, ⟨rfl, ⟨rfl, trivial⟩⟩⟩⟩, rfl, fun _ _ h => h, Nat.le_refl _⟩
  · replace hc1 := of_decide_eq_false hc1
    have hie : i = (tkL l s k).length := by omega
    subst hie
    refine IW.exit ?_
    refine exS (exS ?_)
    refine blkQ_exit ?_
    refine IW.seq ?_
    refine IW.reg hE ?_
    refine vcS_val rfl rfl (ox_move (pl rfl)) ?_
    refine vcS_val rfl rfl (ox_assign (pl rfl)) ?_
    refine vcS_nil ?_
    refine IW.ret ?_
    exact RetP.upd1 (.inr rfl) (ires_tmp rfl) hid (is_some hd) (hp_eq _ _ _ _) (rdr_okN hib) trivial
/-! numbers -/
theorem len8_8 (x : UInt8) : (len8 x).toNat ≤ 8 := by
  have h : ∀ y ∈ lenT, y.toNat ≤ 8 := by decide
  unfold len8
  rw [List.getD_eq_getElem?_getD, List.getElem?_eq_getElem (by rw [lenT_length]; exact x.toNat_lt)]
  exact h _ (List.getElem_mem _)
def kN (h : UInt8) : Nat := 9 - (len8 (~~~h)).toNat
theorem kN_rng (h : UInt8) : 1 ≤ kN h ∧ kN h ≤ 9 := by have := len8_8 (~~~h); unfold kN; omega
def nv (x : UInt64) (q : List UInt8) : Nat → UInt64
  | 0 => x
  | i + 1 => shl64 (nv x q i) 8 ||| (q.getD i 0).toUInt64
def hd1 (l : List UInt8) (s : RS) : UInt8 := (tkL l s 1).getD 0 0
def st1 (l : List UInt8) (s : RS) : RS := tkS l s 1
def rs1 (l : List UInt8) (s : RS) : List UInt8 := tkL l (st1 l s) (kN (hd1 l s) - 1)
def ok2 (l : List UInt8) (s : RS) : Bool := tkOk l (st1 l s) (kN (hd1 l s) - 1)
def xV (l : List UInt8) (s : RS) : UInt64 := nv (hd1 l s &&& shr8 255 (kN (hd1 l s))).toUInt64 (rs1 l s) (rs1 l s).length
def numOk (l : List UInt8) (s : RS) : Bool := tkOk l s 1 && (ok2 l s && decide (sizeV (xV l s) = kN (hd1 l s)))
def numV (l : List UInt8) (s : RS) : UInt64 := if numOk l s = true then xV l s else 0
def numS (l : List UInt8) (s : RS) : RS := if tkOk l s 1 = true then (if ok2 l s = true then (if sizeV (xV l s) = kN (hd1 l s) then tkS l (st1 l s) (kN (hd1 l s) - 1) else ⟨s.at_, 4⟩) else ⟨s.at_, 5⟩) else st1 l s
noncomputable def F96 : FnI := rdF fun id ib l s n => some ⟨enc (numV l s), [(id, some (.cells (rdr ib l.length (numS l s)).cells false))], n⟩
theorem F96_ev {H : IHeap} {n id ib : Nat} {l : List UInt8} {s : RS} (h : IsR H id ib l s) : F96 [.pointer (some ⟨id, 0, none⟩)] H n = some ⟨enc (numV l s), [(id, some (.cells (rdr ib l.length (numS l s)).cells false))], n⟩ := rdF_ev h rfl
theorem ok_st {l : List UInt8} {s : RS} {k : Nat} (h : tkOk l s k = true) : s.e = 0 ∧ s.at_ + k ≤ l.length ∧ tkS l s k = ⟨s.at_ + k, 0⟩ := by
  have h2 := h
  simp only [tkOk, decide_eq_true_eq] at h2
  exact ⟨h2.1, h2.2, (tk_ok (ib := 0) h2.1 h2.2).2.1⟩
theorem more_st {l : List UInt8} {s : RS} {k : Nat} (h : tkOk l s k = false) (he : s.e = 0) : tkS l s k = ⟨s.at_, 5⟩ := by
  have h2 : ¬ (s.e = 0 ∧ s.at_ + k ≤ l.length) := by simpa [tkOk] using h
  exact (tk_more (ib := 0) he (by omega)).2.1
-- (*headwater/octet.Reader).Number ['?'] -> ['UInt64'], results [2]
theorem R96 : Ref Try.prog 96 F96 := by
  refine Ref.of_iw dok Try.func96 rfl (by kernel_rfl) fun args H n e hF => ?_
  obtain ⟨id, ib, l, s, rfl, hR, hF2⟩ := rdF_inv hF
  cases hF2
  refine ⟨Nat.le_of_ble_eq_true rfl, ?_⟩
  simp only [idxL]
  have hE : Env Try.prog [(110, F110), (111, F111), (112, F112), (113, F113)] D K := env (fnsOk_cons R110 (fnsOk_cons R111 (fnsOk_cons R112 (fnsOk_cons R113 fnsOk_nil))))
  refine IW.seq ?_
  have hd := hR.hd
  have hbs := hR.bs
  have hle := hR.le
  have hlim := hR.lim
  have hne := hR.ne
  refine IW.lt (by simp) hd (fun hid => ?_)
  refine IW.lt (by simp) hbs (fun hib => ?_)
  refine IW.free (by simp) (fun hfree => ?_)
  refine IW.reg hE ?_
  refine vcS_val rfl rfl (ox_assign (pl (v := enc (0 : UInt64)) rfl)) ?_
  refine vcS_nil ?_
  refine IW.seq ?_
  refine IW.reg hE ?_
  refine vcS_val rfl rfl (ox_move (pl rfl)) ?_
  refine vcS_ups rfl rfl (ox_fn rfl rfl (F110_ev (s := s) 1 hR rfl (by decide))) rfl ⟨.inr (by simp [Eff.ids]), trivial⟩ ?_
  refine vcS_val rfl rfl (ox_move (pl rfl)) ?_
  refine vcS_val rfl rfl (ox_extract (pl rfl) rfl) ?_
  refine vcS_val rfl rfl (ox_extract (pl rfl) rfl) ?_
  refine vcS_val rfl rfl (ox_assign (pl rfl)) ?_
  refine vcS_val rfl rfl (ox_assign (pl rfl)) ?_
  refine vcS_nil ?_
  refine IW.seq ?_
  refine IW.seq ?_
  obtain ⟨qa, qc, hqv⟩ := tk_form (ib := ib) (l := l) (s := s) (k := 1)
  have hq := tk_rd (H := hp H [(id, some (.cells (rdr ib l.length (st1 l s)).cells false))]) (s := s) (k := 1) (hp_sk hne hbs)
  rw [hqv]
  rw [hqv] at hq
  refine IW.reg hE ?_
  refine vcS_val rfl rfl (ox_move (pl rfl)) ?_
  refine vcS_val rfl rfl (ox_un (pl rfl) (uo_not _)) ?_
  refine vcS_nil ?_
  refine IW.cond rfl (fun hc1 => ?_) (fun hc1 => ?_)
  · have ho : tkOk l s 1 = false := by simpa using hc1
    refine IW.seq ?_
    refine IW.reg hE ?_
    refine vcS_val rfl rfl (ox_assign (pl (v := enc (0 : UInt64)) rfl)) ?_
    refine vcS_nil ?_
    refine IW.ret ?_
    have e1 : numV l s = 0 := by unfold numV numOk; rw [ho]; rfl
    have e2 : numS l s = st1 l s := by unfold numS; rw [ho]; rfl
    rw [e1, e2]; exact RetP.upd1 (.inr rfl) (ires_tmp rfl) hid (is_some hd) (hp_eq _ _ _ _) (rdr_okN hib) trivial
  · have ho : tkOk l s 1 = true := by simpa using hc1
    obtain ⟨o1, o2, o3⟩ := ok_st ho
    have hs1 : (st1 l s).at_ = s.at_ + 1 := by unfold st1; rw [o3]
    have hs1e : (st1 l s).e = 0 := by unfold st1; rw [o3]
    have hs1t : (tkS l s 1).at_ = s.at_ + 1 := hs1
    have hkv := kN_rng (hd1 l s)
    have hl8t := len8_8 (~~~((tkL l s 1).getD 0 0))
    have hl8 := len8_8 (~~~(hd1 l s))
    have hq0 : 0 < (tkL l s 1).length := by rw [tkL_len ho]; decide
    have hR1 : IsR (hp H [(id, some (.cells (rdr ib l.length (st1 l s)).cells false))]) id ib l (st1 l s) := IsR.set hR (tkS_le hle)
    have hR2 : IsR (hp H [(id, some (.cells (rdr ib l.length (tkS l (st1 l s) (kN (hd1 l s) - 1))).cells false)), (id, some (.cells (rdr ib l.length (st1 l s)).cells false))]) id ib l (tkS l (st1 l s) (kN (hd1 l s) - 1)) := IsR.set hR1 (tkS_le hR1.le)
    have hq2 : rdC (hp H [(id, some (.cells (rdr ib l.length (tkS l (st1 l s) (kN (hd1 l s) - 1))).cells false)), (id, some (.cells (rdr ib l.length (st1 l s)).cells false))]) (.slice qa (tkL l s 1).length qc) = some (tkL l s 1) := by rw [← hqv]; exact tk_rd hR2.bs
    refine IW.skip ?_
    refine IW.seq ?_
    refine IW.reg hE ?_
    refine vcS_val rfl rfl (ox_move (pl rfl)) ?_
    refine vcS_val rfl rfl (ox_nilCheck (pl rfl)) ?_
    refine vcS_val rfl rfl (ox_fieldAddr (pl rfl) D_143 rfl rfl D_3 (by decide)) ?_
    refine vcS_val rfl rfl (ox_load (pl rfl) D_3 (hp_eq _ _ _ _) (rd_143_1 _ rfl)) ?_
    refine vcS_val rfl rfl (ox_bin (pl rfl) (pl rfl) ((bo_i64_sub (by simp only [rdr]; omega)).trans (congrArg (fun z => some (Value.int .i64 z)) (show ((st1 l s).at_ : Int) - 1 = ((s.at_ : Nat) : Int) by omega)))) ?_
    refine vcS_val rfl rfl (ox_assign (pl rfl)) ?_
    refine vcS_nil ?_
    refine IW.seq ?_
    refine IW.reg hE ?_
    refine vcS_val rfl rfl (ox_move (pl rfl)) ?_
    refine vcS_val rfl rfl (ox_iaC (α := UInt8) (v := .slice qa (tkL l s 1).length qc) 0 (pl rfl) (pl rfl) D_35 rfl D_5 rfl hq rfl hq0) ?_
    refine vcS_val rfl rfl (ox_ldC (v := .slice qa (tkL l s 1).length qc) 0 (0 : UInt8) (pl rfl) D_5 rfl hq hq0) ?_
    refine vcS_val rfl rfl (ox_un (pl rfl) (uo_u8_xor _)) ?_
    refine vcS_val rfl rfl (ox_fn rfl rfl (fn1_ev _ _ _ _)) ?_
    refine vcS_val rfl rfl (ox_bin (pl rfl) (pl rfl) ((bo_i64_add (by omega)).trans (congrArg (fun z => some (Value.int .i64 z)) (show (1 : Int) + (8 - ((len8 (~~~(hd1 l s))).toNat : Int)) = ((kN (hd1 l s) : Nat) : Int) by unfold kN; omega)))) ?_
    refine vcS_val rfl rfl (ox_assign (pl rfl)) ?_
    refine vcS_nil ?_
    refine IW.seq ?_
    refine IW.reg hE ?_
    refine vcS_val rfl rfl (ox_move (pl rfl)) ?_
    refine vcS_val rfl rfl (ox_move (pl rfl)) ?_
    refine vcS_val rfl rfl (ox_bin (pl rfl) (pl rfl) (bo_i64_sub (by omega))) ?_
    refine vcS_ups rfl rfl (ox_fn rfl rfl (F110_ev (s := st1 l s) (kN (hd1 l s) - 1) hR1 (by omega) (by omega))) rfl ⟨.inr (by simp [Eff.ids]), trivial⟩ ?_
    refine vcS_val rfl rfl (ox_move (pl rfl)) ?_
    refine vcS_val rfl rfl (ox_extract (pl rfl) rfl) ?_
    refine vcS_val rfl rfl (ox_extract (pl rfl) rfl) ?_
    refine vcS_val rfl rfl (ox_assign (pl rfl)) ?_
    refine vcS_val rfl rfl (ox_assign (pl rfl)) ?_
    refine vcS_nil ?_
    refine IW.seq ?_
    refine IW.seq ?_
    obtain ⟨ra, rc, hrv⟩ := tk_form (ib := ib) (l := l) (s := st1 l s) (k := kN (hd1 l s) - 1)
    have hr := tk_rd (H := hp H [(id, some (.cells (rdr ib l.length (tkS l (st1 l s) (kN (hd1 l s) - 1))).cells false)), (id, some (.cells (rdr ib l.length (st1 l s)).cells false))]) (s := st1 l s) (k := kN (hd1 l s) - 1) (hp_sk hne (hp_sk hne hbs))
    rw [hrv]
    rw [hrv] at hr
    have hrl : (rs1 l s).length ≤ kN (hd1 l s) - 1 := tkL_length
    refine IW.reg hE ?_
    refine vcS_val rfl rfl (ox_move (pl rfl)) ?_
    refine vcS_val rfl rfl (ox_un (pl rfl) (uo_not _)) ?_
    refine vcS_nil ?_
    refine IW.cond rfl (fun hc2 => ?_) (fun hc2 => ?_)
    · have ho2 : ok2 l s = false := by show tkOk _ _ _ = false; simpa using hc2
      refine IW.seq ?_
      refine IW.reg hE ?_
      refine vcS_val rfl rfl (ox_move (pl rfl)) ?_
      refine vcS_val rfl rfl (ox_move (pl rfl)) ?_
      refine vcS_ups rfl rfl (ox_fn rfl rfl (F112_ev (s := tkS l (st1 l s) (kN (hd1 l s) - 1)) s.at_ 5 hR2 rfl hle)) rfl ⟨.inr (by simp [Eff.ids]), trivial⟩ ?_
      refine vcS_nil ?_
      refine IW.seq ?_
      refine IW.reg hE ?_
      refine vcS_val rfl rfl (ox_assign (pl (v := enc (0 : UInt64)) rfl)) ?_
      refine vcS_nil ?_
      refine IW.ret ?_
      have e1 : numV l s = 0 := by unfold numV numOk; rw [ho, ho2]; rfl
      have e2 : numS l s = ⟨s.at_, 5⟩ := by unfold numS; rw [ho, ho2]; rfl
      have e3 := more_st ho2 hs1e
      rw [e1, e2]; exact RetP.upd1 (.inr rfl) (ires_tmp rfl) hid (is_some hd) ((hp_eq _ _ _ _).trans (by rw [e3]; rfl)) (rdr_okN hib) trivial
    · have ho2 : ok2 l s = true := by show tkOk _ _ _ = true; simpa using hc2
      have hqa : adrId (.slice qa (tkL l s 1).length qc) < n := by rw [← hqv]; exact tk_adr hib
      refine IW.skip ?_
      refine IW.seq ?_
      refine IW.drw hE mixed [[],[0],[0,1],[],[3],[0,1,2,3,4],[0,1,2,3,4,5],[0,1,2,3,4,5,6]] (by kernel_rfl) (vcE_start ?_)
      refine vcE_bl rfl rfl (fun _ => ox_move (pl rfl)) rfl rfl ?_
      refine vcE_bl rfl rfl (fun _ => ox_iaC2 (α := UInt8) (v := .slice qa (tkL l s 1).length qc) 0 (pl rfl) (pl rfl) D_35 rfl D_5 rfl hq2 rfl hq0) rfl rfl ?_
      refine vcE_val rfl rfl rfl rfl (ox_ldC (v := .slice qa (tkL l s 1).length qc) 0 (0 : UInt8) (pl rfl) D_5 rfl hq2 hq0) rfl (si_load (pl rfl)) (lt1 (by omega)) (trivial) ?_
      refine vcE_bl rfl rfl (fun _ => ox_move (pl rfl)) rfl rfl ?_
      refine vcE_bl rfl rfl (fun _ => ox_bin (pl (v := enc (255 : UInt8)) rfl) (pl rfl) (bo_u8_shrN 255 (kN (hd1 l s)) rfl)) rfl rfl ?_
      refine vcE_bl rfl rfl (fun _ => ox_bin (pl rfl) (pl rfl) (bo_u8_and _ _)) rfl rfl ?_
      refine vcE_bl rfl rfl (fun _ => cv_8_6 (pl rfl) D_5 D_22 rfl) rfl rfl ?_
      refine vcE_bl rfl rfl (fun _ => ox_assign (pl rfl)) rfl rfl ?_
      refine vcE_nil ?_
      refine IW.seq ?_
      refine IW.seq ?_
      refine IW.reg hE ?_
      refine vcS_val rfl rfl (ox_move (pl rfl)) ?_
      refine vcS_val rfl rfl (ox_len (pl rfl) D_35 rfl) ?_
      refine vcS_val rfl rfl (ox_move (pl rfl)) ?_
      refine vcS_nil ?_
      refine IW.block ?_
      refine IW.loop (S := Nat) (fun i => [(0, .pointer (some ⟨id, 0, none⟩)), (5, .int .i64 s.at_), (6, .int .i64 (kN (hd1 l s))), (8, enc (nv (hd1 l s &&& shr8 255 (kN (hd1 l s))).toUInt64 (rs1 l s) i)), (48, .slice ra (rs1 l s).length rc), (49, .int .i64 (rs1 l s).length), (50, .int .i64 i)]) (fun i => [(id, some (.cells (rdr ib l.length (tkS l (st1 l s) (kN (hd1 l s) - 1))).cells false)), (id, some (.cells (rdr ib l.length (st1 l s)).cells false))]) (fun i => n) (fun i => i ≤ (rs1 l s).length) (fun i => (rs1 l s).length - i) (0) (Nat.zero_le _) (⟨rfl, ⟨rfl, ⟨rfl, ⟨rfl, ⟨rfl, ⟨rfl, ⟨rfl, trivial⟩⟩⟩⟩⟩⟩⟩) (fun _ _ h => h) (Nat.le_refl _) (fun i hi => ?_)
      refine IW.seq ?_
      refine IW.reg hE ?_
      refine vcS_val rfl rfl (ox_bin (pl rfl) (pl rfl) (bo_i64_lss _ _)) ?_
      refine vcS_nil ?_
      refine IW.seq ?_
      refine IW.cond rfl (fun hc3 => ?_) (fun hc3 => ?_)
      · replace hc3 := of_decide_eq_true hc3
        have hi2 : i < (rs1 l s).length := by omega
        refine IW.skip ?_
        refine IW.seq ?_
        refine IW.block ?_
        refine IW.seq ?_
        refine IW.reg hE ?_
        refine vcS_val rfl rfl (ox_iaC (α := UInt8) (v := .slice ra (rs1 l s).length rc) i (pl rfl) (pl rfl) D_35 rfl D_5 rfl hr rfl hi2) ?_
        refine vcS_val rfl rfl (ox_ldC (v := .slice ra (rs1 l s).length rc) i (0 : UInt8) (pl rfl) D_5 rfl hr hi2) ?_
        refine vcS_val rfl rfl (ox_assign (pl rfl)) ?_
        refine vcS_nil ?_
        refine IW.reg hE ?_
        refine vcS_val rfl rfl (ox_move (pl rfl)) ?_
        refine vcS_val rfl rfl (ox_bin (pl rfl) (pl (v := enc (8 : UInt64)) rfl) (bo_u64_shlN _ 8 rfl)) ?_
        refine vcS_val rfl rfl (ox_move (pl rfl)) ?_
        refine vcS_val rfl rfl (cv_8_6 (pl rfl) D_5 D_22 rfl) ?_
        refine vcS_val rfl rfl (ox_bin (pl rfl) (pl rfl) (bo_u64_or _ _)) ?_
        refine vcS_val rfl rfl (ox_assign (pl rfl)) ?_
        refine vcS_nil ?_
        refine IW.nilB ?_
        refine IW.reg hE ?_
        refine vcS_val rfl rfl (ox_bin (pl rfl) (pl rfl) (bo_i64_add (by omega))) ?_
        refine vcS_val rfl rfl (ox_move (pl rfl)) ?_
        refine vcS_nil ?_
        refine IW.nilS ?_
        exact ⟨i + 1, _, _, by omega, by omega, rfl, ⟨rfl, ⟨rfl, ⟨rfl, ⟨rfl, ⟨rfl, ⟨rfl, ⟨rfl, trivial⟩⟩⟩⟩⟩⟩⟩, rfl, fun _ _ h => h, Nat.le_refl _⟩
      · replace hc3 := of_decide_eq_false hc3
        have hie : i = (rs1 l s).length := by omega
        subst hie
        refine IW.exit ?_
        refine exS (exS ?_)
        refine blkQ_exit ?_
        refine IW.seq ?_
        refine IW.seq ?_
        refine IW.reg hE ?_
        refine vcS_val rfl rfl (ox_move (pl rfl)) ?_
        refine vcS_val rfl rfl (ox_fn rfl rfl (fn1_ev _ _ _ _)) ?_
        refine vcS_val rfl rfl (ox_move (pl rfl)) ?_
        refine vcS_val rfl rfl (ox_bin (pl rfl) (pl rfl) (bo_i64_neq _ _)) ?_
        refine vcS_nil ?_
        refine IW.cond rfl (fun hc4 => ?_) (fun hc4 => ?_)
        · have hsz : ¬ sizeV (xV l s) = kN (hd1 l s) := fun e => bne_iff_ne.1 hc4 (congrArg Int.ofNat e)
          refine IW.seq ?_
          refine IW.reg hE ?_
          refine vcS_val rfl rfl (ox_move (pl rfl)) ?_
          refine vcS_val rfl rfl (ox_move (pl rfl)) ?_
          refine vcS_ups rfl rfl (ox_fn rfl rfl (F112_ev (s := tkS l (st1 l s) (kN (hd1 l s) - 1)) s.at_ 4 hR2 rfl hle)) rfl ⟨.inr (by simp [Eff.ids]), trivial⟩ ?_
          refine vcS_nil ?_
          refine IW.seq ?_
          refine IW.reg hE ?_
          refine vcS_val rfl rfl (ox_assign (pl (v := enc (0 : UInt64)) rfl)) ?_
          refine vcS_nil ?_
          refine IW.ret ?_
          have e1 : numV l s = 0 := by unfold numV numOk; rw [ho, ho2, decide_eq_false hsz]; rfl
          have e2 : numS l s = ⟨s.at_, 4⟩ := by unfold numS; rw [if_pos ho, if_pos ho2, if_neg hsz]
          have e3 := (ok_st ho2).2.2
          rw [e1, e2]; exact RetP.upd1 (.inr rfl) (ires_tmp rfl) hid (is_some hd) ((hp_eq _ _ _ _).trans (by rw [e3]; rfl)) (rdr_okN hib) trivial
        · have hsz : sizeV (xV l s) = kN (hd1 l s) := Int.ofNat.inj (bne_eq_false_iff_eq.1 hc4)
          refine IW.skip ?_
          refine IW.seq ?_
          refine IW.reg hE ?_
          refine vcS_val rfl rfl (ox_move (pl rfl)) ?_
          refine vcS_val rfl rfl (ox_assign (pl rfl)) ?_
          refine vcS_nil ?_
          refine IW.ret ?_
          have e1 : numV l s = xV l s := by unfold numV numOk; rw [ho, ho2, decide_eq_true hsz]; rfl
          have e2 : numS l s = tkS l (st1 l s) (kN (hd1 l s) - 1) := by unfold numS; rw [if_pos ho, if_pos ho2, if_pos hsz]
          rw [e1, e2]; exact RetP.upd1 (.inr rfl) (ires_tmp rfl) hid (is_some hd) (hp_eq _ _ _ _) (rdr_okN hib) trivial
/-! bytes -/
noncomputable def F98 : FnI := fun args H n => match args with
  | [.pointer (some ⟨id, 0, none⟩), .int .i64 k] => (rdOf H id).bind fun x => if 0 ≤ k ∧ k ≤ 2 ^ 41 then (if tkOk x.2.1 x.2.2 k.toNat = true then
      some ⟨.slice (some ⟨n, 0, none⟩) (tkL x.2.1 x.2.2 k.toNat).length (tkL x.2.1 x.2.2 k.toNat).length, [(id, some (.cells (rdr x.1 x.2.1.length (tkS x.2.1 x.2.2 k.toNat)).cells false)), (n, some (.cells (encs (tkL x.2.1 x.2.2 k.toNat)) false))], n + 1⟩
      else some ⟨.slice none 0 0, [(id, some (.cells (rdr x.1 x.2.1.length (tkS x.2.1 x.2.2 k.toNat)).cells false))], n⟩) else none
  | _ => none
theorem F98_inv {args : List Value} {H : IHeap} {n : Nat} {ef : Eff} (h : F98 args H n = some ef) : ∃ (id ib : Nat) (l : List UInt8) (s : RS) (k : Nat), args = [.pointer (some ⟨id, 0, none⟩), .int .i64 k] ∧ IsR H id ib l s ∧ k ≤ 2 ^ 41 ∧
    (tkOk l s k = true → ef = ⟨.slice (some ⟨n, 0, none⟩) (tkL l s k).length (tkL l s k).length, [(id, some (.cells (rdr ib l.length (tkS l s k)).cells false)), (n, some (.cells (encs (tkL l s k)) false))], n + 1⟩) ∧
    (tkOk l s k = false → ef = ⟨.slice none 0 0, [(id, some (.cells (rdr ib l.length (tkS l s k)).cells false))], n⟩) := by
  unfold F98 at h; split at h
  · simp only [Option.bind_eq_some_iff] at h
    obtain ⟨x, hx, h⟩ := h
    split at h
    · rename_i id k hh
      refine ⟨_, x.1, x.2.1, x.2.2, k.toNat, by rw [Int.toNat_of_nonneg hh.1], rdOf_inv hx, by omega, fun hok => ?_, fun hok => ?_⟩
      · rw [if_pos hok] at h; exact (Option.some.inj h).symm
      · rw [if_neg (by rw [hok]; simp)] at h; exact (Option.some.inj h).symm
    · cases h
  · cases h
theorem F98_ok {H : IHeap} {n id ib : Nat} {l : List UInt8} {s : RS} {x : Int} (k : Nat) (h : IsR H id ib l s) (hx : x = k) (hk : k ≤ 2 ^ 41) (hok : tkOk l s k = true) : F98 [.pointer (some ⟨id, 0, none⟩), .int .i64 x] H n = some ⟨.slice (some ⟨n, 0, none⟩) (tkL l s k).length (tkL l s k).length, [(id, some (.cells (rdr ib l.length (tkS l s k)).cells false)), (n, some (.cells (encs (tkL l s k)) false))], n + 1⟩ := by
  subst hx
  simp only [F98, rdOf_some h, Option.bind_some]
  rw [if_pos (by omega)]
  simp only [Int.toNat_natCast]
  rw [if_pos hok]
theorem F98_no {H : IHeap} {n id ib : Nat} {l : List UInt8} {s : RS} {x : Int} (k : Nat) (h : IsR H id ib l s) (hx : x = k) (hk : k ≤ 2 ^ 41) (hok : tkOk l s k = false) : F98 [.pointer (some ⟨id, 0, none⟩), .int .i64 x] H n = some ⟨.slice none 0 0, [(id, some (.cells (rdr ib l.length (tkS l s k)).cells false))], n⟩ := by
  subst hx
  simp only [F98, rdOf_some h, Option.bind_some]
  rw [if_pos (by omega)]
  simp only [Int.toNat_natCast]
  rw [if_neg (by rw [hok]; simp)]
-- (*headwater/octet.Reader).Take ['?', 'Int'] -> ['Sl'], results [4]
theorem R98 : Ref Try.prog 98 F98 := by
  refine Ref.of_iw dok Try.func98 rfl (by kernel_rfl) fun args H n e hF => ?_
  obtain ⟨id, ib, l, s, k, rfl, hR, hk, h1, h2⟩ := F98_inv hF
  refine ⟨Nat.le_of_ble_eq_true rfl, ?_⟩
  simp only [idxL]
  have hE : Env Try.prog [(100, F100), (110, F110)] D K := env (fnsOk_cons R100 (fnsOk_cons R110 fnsOk_nil))
  refine IW.seq ?_
  cases ho : tkOk l s k
  · cases h2 ho
    have hd := hR.hd
    have hbs := hR.bs
    have hle := hR.le
    have hlim := hR.lim
    have hne := hR.ne
    refine IW.lt (by simp) hd (fun hid => ?_)
    refine IW.lt (by simp) hbs (fun hib => ?_)
    refine IW.free (by simp) (fun hfree => ?_)
    refine IW.reg hE ?_
    refine vcS_val rfl rfl (ox_assign (pl rfl)) ?_
    refine vcS_nil ?_
    refine IW.seq ?_
    refine IW.reg hE ?_
    refine vcS_val rfl rfl (ox_move (pl rfl)) ?_
    refine vcS_val rfl rfl (ox_move (pl rfl)) ?_
    refine vcS_val rfl rfl ((ox_maxM 0 k (pl rfl) (pl rfl) rfl rfl).trans (by rw [Nat.zero_max])) ?_
    refine vcS_ups rfl rfl (ox_fn rfl rfl (F110_ev (s := s) k hR rfl hk)) rfl ⟨.inr (by simp [Eff.ids]), trivial⟩ ?_
    refine vcS_val rfl rfl (ox_move (pl rfl)) ?_
    refine vcS_val rfl rfl (ox_extract (pl rfl) rfl) ?_
    refine vcS_val rfl rfl (ox_extract (pl rfl) rfl) ?_
    refine vcS_val rfl rfl (ox_assign (pl rfl)) ?_
    refine vcS_val rfl rfl (ox_assign (pl rfl)) ?_
    refine vcS_nil ?_
    refine IW.seq ?_
    refine IW.seq ?_
    refine IW.reg hE ?_
    refine vcS_val rfl rfl (ox_move (pl rfl)) ?_
    refine vcS_val rfl rfl (ox_un (pl rfl) (uo_not _)) ?_
    refine vcS_nil ?_
    refine IW.cond rfl (fun hc1 => ?_) (fun hc1 => ?_)
    · refine IW.seq ?_
      refine IW.reg hE ?_
      refine vcS_val rfl rfl (ox_assign (pl rfl)) ?_
      refine vcS_nil ?_
      refine IW.ret ?_
      exact RetP.upd1 (.inr rfl) (ires_tmp rfl) hid (is_some hd) (hp_eq _ _ _ _) (rdr_okN hib) trivial
    · exact absurd (show tkOk l s k = true by simpa using hc1) (by rw [ho]; simp)
  · cases h1 ho
    have hd := hR.hd
    have hbs := hR.bs
    have hle := hR.le
    have hlim := hR.lim
    have hne := hR.ne
    refine IW.lt (by simp) hd (fun hid => ?_)
    refine IW.lt (by simp) hbs (fun hib => ?_)
    refine IW.free (by simp) (fun hfree => ?_)
    refine IW.reg hE ?_
    refine vcS_val rfl rfl (ox_assign (pl rfl)) ?_
    refine vcS_nil ?_
    refine IW.seq ?_
    refine IW.reg hE ?_
    refine vcS_val rfl rfl (ox_move (pl rfl)) ?_
    refine vcS_val rfl rfl (ox_move (pl rfl)) ?_
    refine vcS_val rfl rfl ((ox_maxM 0 k (pl rfl) (pl rfl) rfl rfl).trans (by rw [Nat.zero_max])) ?_
    refine vcS_ups rfl rfl (ox_fn rfl rfl (F110_ev (s := s) k hR rfl hk)) rfl ⟨.inr (by simp [Eff.ids]), trivial⟩ ?_
    refine vcS_val rfl rfl (ox_move (pl rfl)) ?_
    refine vcS_val rfl rfl (ox_extract (pl rfl) rfl) ?_
    refine vcS_val rfl rfl (ox_extract (pl rfl) rfl) ?_
    refine vcS_val rfl rfl (ox_assign (pl rfl)) ?_
    refine vcS_val rfl rfl (ox_assign (pl rfl)) ?_
    refine vcS_nil ?_
    refine IW.seq ?_
    refine IW.seq ?_
    obtain ⟨qa, qc, hqv⟩ := tk_form (ib := ib) (l := l) (s := s) (k := k)
    have hq := tk_rd (H := hp H [(id, some (.cells (rdr ib l.length (tkS l s k)).cells false))]) (s := s) (k := k) (hp_sk hne hbs)
    rw [hqv]
    rw [hqv] at hq
    have hql := tkL_length (l := l) (s := s) (k := k)
    refine IW.reg hE ?_
    refine vcS_val rfl rfl (ox_move (pl rfl)) ?_
    refine vcS_val rfl rfl (ox_un (pl rfl) (uo_not _)) ?_
    refine vcS_nil ?_
    refine IW.cond rfl (fun hc2 => ?_) (fun hc2 => ?_)
    · exact absurd (show tkOk l s k = false by simpa using hc2) (by rw [ho]; simp)
    · refine IW.skip ?_
      refine IW.seq ?_
      refine IW.reg hE ?_
      refine vcS_val rfl rfl (ox_move (pl rfl)) ?_
      refine vcS_ups rfl rfl (ox_fn rfl rfl (F100_ev 0 hq rfl (by omega))) rfl ⟨.inl (by omega), trivial⟩ ?_
      refine vcS_val rfl rfl (ox_assign (pl rfl)) ?_
      refine vcS_nil ?_
      refine IW.ret ?_
      exact RetP.upnew [n] (cs := [encs (tkL l s k)]) (.inr rfl) (ires_tmp rfl) (by simp [ren, ren2, ren1, gL_at (m := n) (n := n) (ms := [n]) (Nat.le_refl _) (by simp)]) rfl rfl ⟨by omega, trivial⟩ (by simp) ⟨(hp_eq _ _ _ _).trans (by rw [buf_zero, plains_ren (by rw [← cels_one]; exact u8_plain _)]), trivial⟩ (fun c hc => by simp only [List.mem_cons, List.not_mem_nil, or_false] at hc; subst hc; exact u8_okN1 _) (by show n < _; simp) hid (is_some hd) (hp_sk (by omega) (hp_eq _ _ _ _)) (rdr_okN hib)
end Go.Proofs.Ytdnnojblneccdaa
/-
  Conditions of appends where the order is drawn.
-/
namespace Go.Proofs.Ytdnnojblneccdaa
set_option linter.unusedSimpArgs false
set_option linter.unusedVariables false
open Go
open Enc (enc)
theorem qn2 {id m k n0 : Nat} {x y : Option IObj} (h : m ≠ id) (h' : k ≠ id) : ∀ p ∈ ([(m, x), (k, y)] : Ups), Vis.clear n0 (.ids [id]) p.1 := fun p hm => by
  simp only [List.mem_cons, List.not_mem_nil, or_false] at hm
  rcases hm with rfl | rfl <;> simpa [Vis.clear]
theorem gu1 {W : Nat → Prop} {n : Nat} {ids : List Nat} {H : IHeap} {x : Option IObj} (h : W n) : ∀ p ∈ ([(n, x)] : Ups), W p.1 ∧ (n ≤ p.1 ∨ p.1 ∈ ids ∧ (H p.1).isSome = true) ∧ p.1 < n + 1 := fun p hm => by
  simp only [List.mem_singleton] at hm; subst hm
  exact ⟨h, .inl (Nat.le_refl _), Nat.lt_succ_self _⟩
theorem gu2 {W : Nat → Prop} {n id : Nat} {ids : List Nat} {H : IHeap} {x y : Option IObj} (h1 : W id) (h2 : id ∈ ids) (h3 : (H id).isSome = true) (h4 : id < n) (h : W n) : ∀ p ∈ ([(id, y), (n, x)] : Ups), W p.1 ∧ (n ≤ p.1 ∨ p.1 ∈ ids ∧ (H p.1).isSome = true) ∧ p.1 < n + 1 := fun p hm => by
  simp only [List.mem_cons, List.not_mem_nil, or_false] at hm
  rcases hm with rfl | rfl
  · exact ⟨h1, .inr ⟨h2, h3⟩, by show id < n + 1; omega⟩
  · exact ⟨h, .inl (Nat.le_refl _), Nat.lt_succ_self _⟩
theorem gv1 {n n0 : Nat} {pre : List Nat} {Vs : List (Nat × Vis)} {x : Option IObj} : ∀ p ∈ ([(n, x)] : Ups), n ≤ p.1 ∨ clearV n0 pre p.1 Vs := fun p hm => by
  simp only [List.mem_singleton] at hm; subst hm
  exact .inl (Nat.le_refl _)
theorem gv2 {n id n0 : Nat} {pre : List Nat} {Vs : List (Nat × Vis)} {x y : Option IObj} (h : clearV n0 pre id Vs) : ∀ p ∈ ([(id, y), (n, x)] : Ups), n ≤ p.1 ∨ clearV n0 pre p.1 Vs := fun p hm => by
  simp only [List.mem_cons, List.not_mem_nil, or_false] at hm
  rcases hm with rfl | rfl
  · exact .inr h
  · exact .inl (Nat.le_refl _)
theorem lt2 {a b n : Nat} (h : a < n) (h' : b < n) : ∀ i ∈ [a, b], i < n := fun i hi => by
  simp only [List.mem_cons, List.not_mem_nil, or_false] at hi
  rcases hi with rfl | rfl <;> assumption
end Go.Proofs.Ytdnnojblneccdaa
/-
  Results of several parts.
-/
namespace Go.Proofs.Ytdnnojblneccdaa
set_option linter.unusedSimpArgs false
set_option linter.unusedVariables false
open Go
open Enc (enc)
section
variable {D : Ty} {t : List Value} {H : IHeap} {a b c d : ResultVar} {va vb vc vd : Value}
theorem ires_l3 (h1 : ires D t H [a] = some va) (h2 : ires D t H [b] = some vb) (h3 : ires D t H [c] = some vc) : ires D t H [a, b, c] = some (.tuple #[va, vb, vc]) := by
  have h1 : ires1 D t H a = some va := h1
  have h2 : ires1 D t H b = some vb := h2
  have h3 : ires1 D t H c = some vc := h3
  simp [ires, h1, h2, h3]
theorem ires_l4 (h1 : ires D t H [a] = some va) (h2 : ires D t H [b] = some vb) (h3 : ires D t H [c] = some vc) (h4 : ires D t H [d] = some vd) : ires D t H [a, b, c, d] = some (.tuple #[va, vb, vc, vd]) := by
  have h1 : ires1 D t H a = some va := h1
  have h2 : ires1 D t H b = some vb := h2
  have h3 : ires1 D t H c = some vc := h3
  have h4 : ires1 D t H d = some vd := h4
  simp [ires, h1, h2, h3, h4]
end
theorem ren2_vec8 {g : Nat → Nat} {k : Nat} (v : Vector UInt8 k) : ren2 g (enc v) = enc v := by
  show Value.agg ((encs v.toList).toArray.map (ren1 g)) = .agg (encs v.toList).toArray
  congr 1
  apply Array.toList_inj.1
  rw [Array.toList_map]
  apply plains_ren
  rw [List.all_eq_true]
  intro x hx
  simp only [encs, List.mem_map] at hx
  obtain ⟨_, _, rfl⟩ := hx
  rfl
theorem ok2_vec8 {p : Nat → Prop} {k : Nat} (v : Vector UInt8 k) : okN2 p (enc v) := by
  show ∀ x ∈ (encs v.toList).toArray.toList, okN1 p x
  intro x hx
  simp only [encs, List.mem_map] at hx
  obtain ⟨_, _, rfl⟩ := hx; trivial
theorem okN_l3 {p : Nat → Prop} {a b c : Value} (h1 : okN2 p a) (h2 : okN2 p b) (h3 : okN2 p c) : okN p (.tuple #[a, b, c]) := by
  intro x hx
  simp only [List.mem_cons, List.not_mem_nil, or_false] at hx
  rcases hx with rfl | rfl | rfl <;> assumption
theorem okN_l4 {p : Nat → Prop} {a b c d : Value} (h1 : okN2 p a) (h2 : okN2 p b) (h3 : okN2 p c) (h4 : okN2 p d) : okN p (.tuple #[a, b, c, d]) := by
  intro x hx
  simp only [List.mem_cons, List.not_mem_nil, or_false] at hx
  rcases hx with rfl | rfl | rfl | rfl <;> assumption
theorem ren_l3 {g : Nat → Nat} (a b c : Value) : ren g (.tuple #[a, b, c]) = .tuple #[ren2 g a, ren2 g b, ren2 g c] := by simp [ren]
theorem ren_l4 {g : Nat → Nat} (a b c d : Value) : ren g (.tuple #[a, b, c, d]) = .tuple #[ren2 g a, ren2 g b, ren2 g c, ren2 g d] := by simp [ren]
theorem ren2_slice {g : Nat → Nat} {id off len cap : Nat} {sp : Option Nat} : ren2 g (.slice (some ⟨id, off, sp⟩) len cap) = .slice (some ⟨g id, off, sp⟩) len cap := rfl
theorem gL_one {n m : Nat} : gL n [m] n = m := by simp [gL]
section
variable {P : Program} {Γ : Fns} {D : Ty} {K : Kinds} {W : Nat → Prop} {R : Option Nat} {ops : Array Oper} {Q : Post3} {o : Oper} {os : List Oper} {pre : List Nat} {pres : List (List Nat)} {N : Nat} {L : List (Nat × Value)} {H : IHeap} {M : Ups} {n n0 k : Nat}
  {Wr : List (Nat × Ups)} {Vs : List (Nat × Vis)}
/-- an append that moves what is not open -/
theorem vcE_app1 {d : Tmp} {v : Value} {x : Option IObj} (ids : List Nat) {u M' : Ups} (hd : o.dst = some d) (hg : o.guard = none) (hu : upsW pre Wr = u) (hM : putH u M = M') (h : iopC Γ D K (ev (dense N L)) (hp H M') n o.op = some ⟨v, [(n, x)], n + 1⟩) (hc : isCall o.op = false)
    (hs : seesIds (ev (dense N L)) o.op = ids) (hW : W n) (hl : ∀ i ∈ ids, i < n) (hq : quietW n0 pre (.ids ids) Wr)
    (hk : vcE Γ D K W ops (hp H M) n0 Q os pres (k + 1) (Wr ++ [(k, [(n, x)])]) ((k, .ids ids) :: Vs) (dense N ((d, v) :: L)) (n + 1)) : vcE Γ D K W ops (hp H M) n0 Q (o :: os) (pre :: pres) k Wr Vs (dense N L) n :=
  vcE_gen hd hg hu hM h hc hs (Nat.le_succ _) (gu1 hW) hl hq gv1 hk
/-- an append to what is open -/
theorem vcE_app2 {d : Tmp} {v : Value} {id : Nat} {x y : Option IObj} (ids : List Nat) {u M' : Ups} (hd : o.dst = some d) (hg : o.guard = none) (hu : upsW pre Wr = u) (hM : putH u M = M') (h : iopC Γ D K (ev (dense N L)) (hp H M') n o.op = some ⟨v, [(id, y), (n, x)], n + 1⟩) (hc : isCall o.op = false)
    (hs : seesIds (ev (dense N L)) o.op = ids) (hWi : W id) (hin : id ∈ ids) (hH : (hp H M' id).isSome = true) (hid : id < n) (hW : W n) (hl : ∀ i ∈ ids, i < n) (hq : quietW n0 pre (.ids ids) Wr) (hv' : clearV n0 pre id Vs)
    (hk : vcE Γ D K W ops (hp H M) n0 Q os pres (k + 1) (Wr ++ [(k, [(id, y), (n, x)])]) ((k, .ids ids) :: Vs) (dense N ((d, v) :: L)) (n + 1)) : vcE Γ D K W ops (hp H M) n0 Q (o :: os) (pre :: pres) k Wr Vs (dense N L) n :=
  vcE_gen hd hg hu hM h hc hs (Nat.le_succ _) (gu2 hWi hin hH hid hW) hl hq (gv2 hv') hk
end
end Go.Proofs.Ytdnnojblneccdaa
/-
  Records: bytes, sums, sameness.
-/
namespace Go.Proofs.Ytdnnojblneccdaa
set_option linter.unusedSimpArgs false
set_option linter.unusedVariables false
open Go
open Enc (enc)
set_option maxRecDepth 100000
theorem srcArg_k {α : Type} [Row1 α] {D : Ty} {H : IHeap} {t2 el2 k : Nat} {d2 de : TD} {x : Value} {l : List α} (hd : D t2 = some d2) (hk : d2.k = .slice el2) (hs : de.size = Row.sz α) (h : rdC H x = some l) (hl : l.length = k) : srcArg D H t2 de x = some (k, encs l) := by
  subst hl; exact srcArg_1 hd hk hs h
def chk (k : UInt8) (len : Nat) : Nat := if (decide (k < 1) || decide ((8192 : Int) < len)) = true then 2 else 0
noncomputable def F48 : FnI := fn1 fun (r : Record) => .int .i64 ((chk r.kind r.data.len : Nat) : Int)
-- headwater/record.Check ['Record'] -> ['Int'], results [2]
theorem R48 : Ref Try.prog 48 F48 := by
  refine Ref.of_iw dok Try.func48 rfl (by kernel_rfl) fun args H n e hF => ?_
  obtain ⟨a, rfl, rfl⟩ := fn1_inv hF
  refine ⟨Nat.le_of_ble_eq_true rfl, ?_⟩
  simp only [idxL]
  have hE : Env Try.prog [] D K := env fnsOk_nil
  refine IW.seq ?_
  refine IW.reg hE ?_
  refine vcS_new rfl rfl (ox_box (pl rfl) (cellsOf_Record _)) (.inl (by omega)) ?_
  refine vcS_val rfl rfl (ox_assign (pl rfl)) ?_
  refine vcS_nil ?_
  refine IW.seq ?_
  refine IW.seq ?_
  refine IW.reg hE ?_
  refine vcS_val rfl rfl (ox_fieldAddr (pl rfl) D_69 rfl rfl D_5 (by decide)) ?_
  refine vcS_val rfl rfl (ox_load (pl rfl) D_5 (hp_eq _ _ _ _) (rd_69_0 _ rfl)) ?_
  refine vcS_val rfl rfl (ox_bin (pl rfl) (pl (v := enc (1 : UInt8)) rfl) (bo_u8_lss _ _)) ?_
  refine vcS_val rfl rfl (ox_move (pl rfl)) ?_
  refine vcS_opt rfl (wgF rfl rfl rfl) (fun hb => ox_fieldAddr (pl rfl) D_69 rfl rfl D_35 (by decide)) ?_
  refine vcS_opt rfl (wgF rfl rfl rfl) (fun hb => ox_load (gd hb rfl) D_35 (hp_eq _ _ _ _) (rd_69_1 _ rfl)) ?_
  refine vcS_opt rfl (wgF rfl rfl rfl) (fun hb => ox_len (gd hb rfl) D_35 rfl) ?_
  refine vcS_opt rfl (wgF rfl rfl rfl) (fun hb => ox_bin (gd hb rfl) (pl rfl) (bo_i64_gtr _ _)) ?_
  refine vcS_val rfl rfl (ox_or (pl rfl) (pl rfl) (fun hc => gd (by rw [hc]; rfl) rfl)) ?_
  refine vcS_nil ?_
  refine IW.cond rfl (fun hc1 => ?_) (fun hc1 => ?_)
  · refine IW.seq ?_
    refine IW.reg hE ?_
    refine vcS_val rfl rfl (ox_assign (pl rfl)) ?_
    refine vcS_nil ?_
    refine IW.ret ?_
    exact RetP.ret (.inr rfl) rfl rfl trivial (by rw [chk, if_pos hc1]; rfl)
  · refine IW.skip ?_
    refine IW.seq ?_
    refine IW.reg hE ?_
    refine vcS_val rfl rfl (ox_assign (pl rfl)) ?_
    refine vcS_nil ?_
    refine IW.ret ?_
    exact RetP.ret (.inr rfl) rfl rfl trivial (by rw [chk, if_neg (by rw [hc1]; simp)]; rfl)
theorem rec_len {H : IHeap} {r : Record} {d : List UInt8} (h : rdC H (enc r.data) = some d) : r.data.len = d.length := by
  obtain ⟨a, cap, e⟩ := rdC_len h
  have e : Value.slice r.data.a r.data.len r.data.cap = Value.slice a d.length cap := e
  simp only [Value.slice.injEq] at e
  exact e.2.1
/-- a contract of two records -/
noncomputable def recF2 (f : UInt8 → List UInt8 → UInt8 → List UInt8 → Value) : FnI := fun args H n => match args with
  | [x, y] => (dec x).bind fun (a : Record) => (dec y).bind fun (b : Record) => (rdC H (enc a.data)).bind fun (c : List UInt8) => (rdC H (enc b.data)).bind fun (d : List UInt8) => some ⟨f a.kind c b.kind d, [], n⟩
  | _ => none
theorem recF2_inv {f : UInt8 → List UInt8 → UInt8 → List UInt8 → Value} {args : List Value} {H : IHeap} {n : Nat} {e : Eff} (h : recF2 f args H n = some e) : ∃ (a b : Record) (c d : List UInt8), args = [enc a, enc b] ∧ rdC H (enc a.data) = some c ∧ rdC H (enc b.data) = some d ∧ e = ⟨f a.kind c b.kind d, [], n⟩ := by
  unfold recF2 at h; split at h
  · simp only [Option.bind_eq_some_iff] at h
    obtain ⟨a, ha, b, hb, c, hc, d, hd, h⟩ := h
    cases h
    exact ⟨a, b, c, d, by rw [dec_some ha, dec_some hb], hc, hd, rfl⟩
  · cases h
theorem recF2_ev {f : UInt8 → List UInt8 → UInt8 → List UInt8 → Value} {H : IHeap} {n : Nat} {a b : Record} {c d : List UInt8} (hc : rdC H (enc a.data) = some c) (hd : rdC H (enc b.data) = some d) : recF2 f [enc a, enc b] H n = some ⟨f a.kind c b.kind d, [], n⟩ := by
  simp only [recF2, dec_enc, Option.bind_some, hc, hd]
noncomputable def F51 : FnI := recF2 fun k c j d => .bool ((k == j) && (c == d))
-- headwater/headwaterkit.Record ['Record', 'Record'] -> ['Bool'], results [4]
theorem R51 : Ref Try.prog 51 F51 := by
  refine Ref.of_iw dok Try.func51 rfl (by kernel_rfl) fun args H n e hF => ?_
  obtain ⟨a, b, c, d, rfl, hA, hB, rfl⟩ := recF2_inv hF
  refine ⟨Nat.le_of_ble_eq_true rfl, ?_⟩
  simp only [idxL]
  have hE : Env Try.prog [] D K := env fnsOk_nil
  refine IW.seq ?_
  refine IW.blk (by simp) hA (fun hlta => ?_)
  refine IW.blk (by simp) hB (fun hltb => ?_)
  refine IW.free (by simp) (fun hfree => ?_)
  refine IW.reg hE ?_
  refine vcS_new rfl rfl (ox_box (pl rfl) (cellsOf_Record _)) (.inl (by omega)) ?_
  refine vcS_new rfl rfl (ox_box (pl rfl) (cellsOf_Record _)) (.inl (by omega)) ?_
  refine vcS_val rfl rfl (ox_assign (pl rfl)) ?_
  refine vcS_nil ?_
  refine IW.seq ?_
  refine IW.reg hE ?_
  refine vcS_val rfl rfl (ox_fieldAddr (pl rfl) D_69 rfl rfl D_5 (by decide)) ?_
  refine vcS_val rfl rfl (ox_load (pl rfl) D_5 (hp_sk (by omega) (hp_eq _ _ _ _)) (rd_69_0 _ rfl)) ?_
  refine vcS_val rfl rfl (ox_fieldAddr (pl rfl) D_69 rfl rfl D_5 (by decide)) ?_
  refine vcS_val rfl rfl (ox_load (pl rfl) D_5 (hp_eq _ _ _ _) (rd_69_0 _ rfl)) ?_
  refine vcS_val rfl rfl (ox_bin (pl rfl) (pl rfl) (bo_u8_eql _ _)) ?_
  refine vcS_val rfl rfl (ox_move (pl rfl)) ?_
  refine vcS_opt rfl (wgT rfl rfl rfl) (fun hb => ox_fieldAddr (pl rfl) D_69 rfl rfl D_35 (by decide)) ?_
  refine vcS_opt rfl (wgT rfl rfl rfl) (fun hb => ox_load (gd hb rfl) D_35 (hp_sk (by omega) (hp_eq _ _ _ _)) (rd_69_1 _ rfl)) ?_
  refine vcS_opt rfl (wgT rfl rfl rfl) (fun hb => ox_cvS (gd hb rfl) D_35 rfl D_5 rfl D_9 rfl (rdC_keep hfree hA (by exact ⟨by omega, ⟨by omega, trivial⟩⟩))) ?_
  refine vcS_opt rfl (wgT rfl rfl rfl) (fun hb => ox_fieldAddr (pl rfl) D_69 rfl rfl D_35 (by decide)) ?_
  refine vcS_opt rfl (wgT rfl rfl rfl) (fun hb => ox_load (gd hb rfl) D_35 (hp_eq _ _ _ _) (rd_69_1 _ rfl)) ?_
  refine vcS_opt rfl (wgT rfl rfl rfl) (fun hb => ox_cvS (gd hb rfl) D_35 rfl D_5 rfl D_9 rfl (rdC_keep hfree hB (by exact ⟨by omega, ⟨by omega, trivial⟩⟩))) ?_
  refine vcS_opt rfl (wgT rfl rfl rfl) (fun hb => ox_bin (gd hb rfl) (gd hb rfl) (bo_str_eql _ _)) ?_
  refine vcS_val rfl rfl (ox_and (pl rfl) (fun hc => gd hc rfl) (pl rfl)) ?_
  refine vcS_val rfl rfl (ox_assign (pl rfl)) ?_
  refine vcS_nil ?_
  refine IW.ret ?_
  exact RetP.ret (.inr rfl) rfl rfl trivial (rfl)
def bodyL (k : UInt8) (d : List UInt8) : List UInt8 := blkL [k] d
theorem sizeV_small (w : UInt64) : sizeV w ≤ 9 := (sizeV_rng w).2
theorem bodyL_length (k : UInt8) (d : List UInt8) : (bodyL k d).length = 1 + sizeV (UInt64.ofNat d.length) + d.length := blkL_length [k] d
/-- a contract of one record -/
noncomputable def recF (f : UInt8 → List UInt8 → Nat → Option Eff) : FnI := fun args H n => match args with
  | [x] => (dec x).bind fun (a : Record) => (rdC H (enc a.data)).bind fun (c : List UInt8) => if c.length ≤ 2 ^ 39 then f a.kind c n else none
  | _ => none
theorem recF_inv {f : UInt8 → List UInt8 → Nat → Option Eff} {args : List Value} {H : IHeap} {n : Nat} {e : Eff} (h : recF f args H n = some e) : ∃ (a : Record) (c : List UInt8), args = [enc a] ∧ rdC H (enc a.data) = some c ∧ c.length ≤ 2 ^ 39 ∧ f a.kind c n = some e := by
  unfold recF at h; split at h
  · simp only [Option.bind_eq_some_iff] at h
    obtain ⟨a, ha, c, hc, h⟩ := h
    split at h
    · exact ⟨a, c, by rw [dec_some ha], hc, by assumption, h⟩
    · cases h
  · cases h
theorem recF_ev {f : UInt8 → List UInt8 → Nat → Option Eff} {H : IHeap} {n : Nat} {a : Record} {c : List UInt8} {e : Eff} (hc : rdC H (enc a.data) = some c) (hl : c.length ≤ 2 ^ 39) (he : f a.kind c n = some e) : recF f [enc a] H n = some e := by
  simp only [recF, dec_enc, Option.bind_some, hc]
  rw [if_pos hl]; exact he
noncomputable def F76 : FnI := recF fun k d n => some ⟨.slice (some ⟨n, 0, fsp d.length⟩) (bodyL k d).length (bodyL k d).length, [(n, some (.cells (encs (bodyL k d)) false))], n + 1⟩
-- headwater/record.body ['Record'] -> ['Sl'], results [2]
theorem R76 : Ref Try.prog 76 F76 := by
  refine Ref.of_iw dok Try.func76 rfl (by kernel_rfl) fun args H n e hF => ?_
  obtain ⟨a, d, rfl, hD, hle, hF2⟩ := recF_inv hF
  cases hF2
  refine ⟨Nat.le_of_ble_eq_true rfl, ?_⟩
  simp only [idxL]
  have hE : Env Try.prog [(92, F92)] D K := env (fnsOk_cons R92 fnsOk_nil)
  refine IW.seq ?_
  refine IW.free (by simp) (fun hfree => ?_)
  refine IW.reg hE ?_
  refine vcS_new rfl rfl (ox_box (pl rfl) (cellsOf_Record _)) (.inl (by omega)) ?_
  refine vcS_val rfl rfl (ox_assign (pl rfl)) ?_
  refine vcS_nil ?_
  refine IW.seq ?_
  refine IW.reg hE ?_
  refine vcS_val rfl rfl (ox_fieldAddr (pl rfl) D_69 rfl rfl D_5 (by decide)) ?_
  refine vcS_val rfl rfl (ox_load (pl rfl) D_5 (hp_eq _ _ _ _) (rd_69_0 _ rfl)) ?_
  refine vcS_new rfl rfl (ox_bsl (cs := encs [a.kind]) D_35 rfl D_5 (Nat.le_of_ble_eq_true rfl) rfl rfl) (.inl (by omega)) ?_
  refine vcS_val rfl rfl (ox_fieldAddr (pl rfl) D_69 rfl rfl D_35 (by decide)) ?_
  refine vcS_val rfl rfl (ox_load (pl rfl) D_35 (hp_sk (by omega) (hp_eq _ _ _ _)) (rd_69_1 _ rfl)) ?_
  refine vcS_ups rfl rfl (ox_fn rfl rfl (F92_ev (b := [a.kind]) (rdC_1all (hp_eq _ _ _ _) rfl) (rdC_keep hfree hD (by exact ⟨by omega, ⟨by omega, trivial⟩⟩)) (by show 1 + _ ≤ _; omega))) rfl ⟨.inl (by omega), trivial⟩ ?_
  refine vcS_val rfl rfl (ox_assign (pl rfl)) ?_
  refine vcS_nil ?_
  refine IW.ret ?_
  exact RetP.new1 (.inr rfl) (ires_tmp rfl) (by omega) (hp_eq _ _ _ _) (by rw [← cels_one]; exact u8_plain _)
theorem F76_ev0 {H : IHeap} {n : Nat} {a : Record} {d : List UInt8} (hc : rdC H (enc a.data) = some d) (hl : d.length ≤ 2 ^ 39) (h0 : d.length = 0) : F76 [enc a] H n = some ⟨.slice (some ⟨n, 0, none⟩) (bodyL a.kind d).length (bodyL a.kind d).length, [(n, some (.cells (encs (bodyL a.kind d)) false))], n + 1⟩ := by
  have hfs : fsp d.length = none := if_pos h0
  rw [← hfs]; exact recF_ev hc hl rfl
theorem F76_ev1 {H : IHeap} {n : Nat} {a : Record} {d : List UInt8} (hc : rdC H (enc a.data) = some d) (hl : d.length ≤ 2 ^ 39) (h0 : ¬ d.length = 0) : F76 [enc a] H n = some ⟨.slice (some ⟨n, 0, some 1⟩) (bodyL a.kind d).length (bodyL a.kind d).length, [(n, some (.cells (encs (bodyL a.kind d)) false))], n + 1⟩ := by
  have hfs : fsp d.length = some 1 := if_neg h0
  rw [← hfs]; exact recF_ev hc hl rfl
noncomputable def F54 : FnI := recF fun k d n => some ⟨.int .i64 ((if chk k d.length = 0 then (bodyL k d).length + 8 else 0 : Nat) : Int), [], n⟩
-- headwater/record.Size ['Record'] -> ['Int'], results [2]
theorem R54 : Ref Try.prog 54 F54 := by
  refine Ref.of_iw dok Try.func54 rfl (by kernel_rfl) fun args H n e hF => ?_
  obtain ⟨a, d, rfl, hD, hle, hF2⟩ := recF_inv hF
  cases hF2
  have hrl := rec_len hD
  have hbl := bodyL_length a.kind d
  have hsz := sizeV_small (UInt64.ofNat d.length)
  refine ⟨Nat.le_of_ble_eq_true rfl, ?_⟩
  simp only [idxL]
  have hE : Env Try.prog [(48, F48), (76, F76)] D K := env (fnsOk_cons R48 (fnsOk_cons R76 fnsOk_nil))
  refine IW.seq ?_
  refine IW.free (by simp) (fun hfree => ?_)
  refine IW.reg hE ?_
  refine vcS_new rfl rfl (ox_box (pl rfl) (cellsOf_Record _)) (.inl (by omega)) ?_
  refine vcS_val rfl rfl (ox_assign (pl rfl)) ?_
  refine vcS_nil ?_
  refine IW.seq ?_
  refine IW.seq ?_
  refine IW.reg hE ?_
  refine vcS_val rfl rfl (ox_load (pl rfl) D_69 (hp_eq _ _ _ _) (rd_69 _ rfl rfl)) ?_
  refine vcS_val rfl rfl (ox_fn rfl rfl (fn1_ev _ _ _ _)) ?_
  refine vcS_val rfl rfl (ox_bin (pl rfl) (pl rfl) (bo_i64_neq _ _)) ?_
  refine vcS_nil ?_
  refine IW.cond rfl (fun hc1 => ?_) (fun hc1 => ?_)
  · have h0 : ¬ chk a.kind d.length = 0 := fun e => bne_iff_ne.1 hc1 (by rw [hrl, e]; rfl)
    refine IW.seq ?_
    refine IW.reg hE ?_
    refine vcS_val rfl rfl (ox_assign (pl rfl)) ?_
    refine vcS_nil ?_
    refine IW.ret ?_
    exact RetP.ret (.inr rfl) rfl rfl trivial (by rw [if_neg h0]; rfl)
  · have h0 : chk a.kind d.length = 0 := by rw [← hrl]; exact Int.ofNat.inj (bne_eq_false_iff_eq.1 hc1)
    refine IW.skip ?_
    refine IW.seq ?_
    refine IW.reg hE ?_
    refine vcS_val rfl rfl (ox_load (pl rfl) D_69 (hp_eq _ _ _ _) (rd_69 _ rfl rfl)) ?_
    refine vcS_ups rfl rfl (ox_fn rfl rfl (recF_ev (rdC_keep hfree hD (by exact ⟨by omega, trivial⟩)) hle rfl)) rfl ⟨.inl (by omega), trivial⟩ ?_
    refine vcS_val rfl rfl (ox_len (pl rfl) D_35 rfl) ?_
    refine vcS_val rfl rfl (ox_bin (pl rfl) (pl rfl) (bo_i64_add (by omega))) ?_
    refine vcS_val rfl rfl (ox_assign (pl rfl)) ?_
    refine vcS_nil ?_
    refine IW.ret ?_
    exact RetP.ret (.inr rfl) rfl rfl trivial (by rw [if_pos h0]; rfl)
def nextV (c : Dig) (k : UInt8) (d : List UInt8) : Dig := digV (c.toList ++ bodyL k d)
/-- a contract of a chain and a record -/
noncomputable def recFc (f : Dig → UInt8 → List UInt8 → Nat → Option Eff) : FnI := fun args H n => match args with
  | [w, x] => (dec w).bind fun (w : Dig) => recF (f w) [x] H n
  | _ => none
theorem recFc_inv {f : Dig → UInt8 → List UInt8 → Nat → Option Eff} {args : List Value} {H : IHeap} {n : Nat} {e : Eff} (h : recFc f args H n = some e) : ∃ (w : Dig) (a : Record) (c : List UInt8), args = [enc w, enc a] ∧ rdC H (enc a.data) = some c ∧ c.length ≤ 2 ^ 39 ∧ f w a.kind c n = some e := by
  unfold recFc at h; split at h
  · simp only [Option.bind_eq_some_iff] at h
    obtain ⟨w, hw, h⟩ := h
    obtain ⟨a, c, h1, h2, h3, h4⟩ := recF_inv h
    cases h1
    exact ⟨w, a, c, by rw [dec_some hw], h2, h3, h4⟩
  · cases h
theorem recFc_ev {f : Dig → UInt8 → List UInt8 → Nat → Option Eff} {H : IHeap} {n : Nat} {w : Dig} {a : Record} {c : List UInt8} {e : Eff} (hc : rdC H (enc a.data) = some c) (hl : c.length ≤ 2 ^ 39) (he : f w a.kind c n = some e) : recFc f [enc w, enc a] H n = some e := by
  simp only [recFc, dec_enc, Option.bind_some]
  exact recF_ev hc hl he
noncomputable def F52 : FnI := recFc fun c k d n => some ⟨enc (nextV c k d), [], n⟩
-- headwater/record.Next ['Vector UInt8 32', 'Record'] -> ['Vector UInt8 32'], results [[4, 24]]
theorem R52 : Ref Try.prog 52 F52 := by
  refine Ref.of_iw dok Try.func52 rfl (by kernel_rfl) fun args H n e hF => ?_
  obtain ⟨c, a, d, rfl, hD, hle, hF2⟩ := recFc_inv hF
  cases hF2
  have hbl := bodyL_length a.kind d
  have hsz := sizeV_small (UInt64.ofNat d.length)
  refine ⟨Nat.le_of_ble_eq_true rfl, ?_⟩
  simp only [idxL]
  have hE : Env Try.prog [(38, F38), (76, F76)] D K := env (fnsOk_cons R38 (fnsOk_cons R76 fnsOk_nil))
  refine IW.seq ?_
  refine IW.free (by simp) (fun hfree => ?_)
  refine IW.reg hE ?_
  refine vcS_new rfl rfl (ox_box (pl rfl) rfl) (.inl (by omega)) ?_
  refine vcS_new rfl rfl (ox_box (pl rfl) (cellsOf_Record _)) (.inl (by omega)) ?_
  refine vcS_new rfl rfl (ox_allocZ (cs := encs (Vector.replicate 32 (0 : UInt8)).toList) D_24 rfl) (.inl (by omega)) ?_
  refine vcS_nil ?_
  refine IW.seq ?_
  refine IW.drw hE mixed [[],[],[1],[0,1,2],[0,1,2,3],[0,1,2,3,4]] (by kernel_rfl) (vcE_start ?_)
  refine vcE_bl rfl rfl (fun _ => ox_slAll (pl rfl) D_24 rfl D_5) rfl rfl ?_
  refine vcE_val rfl rfl rfl rfl (ox_load (pl rfl) D_69 (hp_sk (by omega) (hp_eq _ _ _ _)) (rd_69 _ rfl rfl)) rfl (si_load (pl rfl)) (lt1 (by omega)) (trivial) ?_
  refine vcE_callN rfl rfl rfl rfl (ox_fn rfl rfl (recF_ev (rdC_keep hfree hD (by exact ⟨by omega, ⟨by omega, ⟨by omega, trivial⟩⟩⟩)) hle rfl)) rfl ltu0 ⟨⟨.inl (by omega), by omega, by omega⟩, trivial⟩ (by omega) (trivial) ?_
  refine vcE_new rfl rfl (fun _ => ox_bsl (cs := cels [(⟨some ⟨n, 0, none⟩, 32, 32⟩ : Sl), (⟨some ⟨n + 1 + 1 + 1, 0, fsp d.length⟩, (bodyL a.kind d).length, (bodyL a.kind d).length⟩ : Sl)]) D_94 rfl D_35 (Nat.le_of_ble_eq_true rfl) rfl rfl) rfl rfl (.inl (by omega)) ?_
  refine vcE_call rfl rfl rfl rfl (ox_fn rfl rfl (ev38_2 (l1 := c.toList) (l2 := bodyL a.kind d) (l := c.toList ++ bodyL a.kind d) (rdC_all (hp_eq _ _ _ _) rfl) (rdC_1all (hp_sk (by omega) (hp_sk (by omega) (hp_sk (by omega) (hp_sk (by omega) (hp_eq _ _ _ _))))) (by simp)) (rdC_1all (hp_sk (by omega) (hp_eq _ _ _ _)) rfl) (by simp) (by simp; omega))) rfl (ltuc (by omega) (ltuc (by omega) ltu0)) (⟨trivial, ⟨trivial, trivial⟩⟩) ?_
  refine vcE_sto rfl rfl rfl rfl (ox_store (pl rfl) (pl rfl) D_24 (hp_sk (by omega) (hp_sk (by omega) (hp_eq _ _ _ _))) rfl (encs_vec_length _) (le_vec _ rfl) (encs_known _) (wr_all (by simp only [encs_vec_length]))) rfl (si_store (pl rfl)) (is_some (hp_sk (by omega) (hp_sk (by omega) (hp_eq _ _ _ _)))) (by omega) (.inl (by omega)) (⟨trivial, ⟨trivial, trivial⟩⟩) (⟨trivial, ⟨trivial, ⟨trivial, trivial⟩⟩⟩) ?_
  refine vcE_nil ?_
  refine IW.ret ?_
  exact RetP.pure (.inr rfl) (ires_cell rfl D_24 (hp_eq _ _ _ _) (rd_all rfl (encs_vec_length _))) (okV8 _) (by omega)
def recL (c : Dig) (k : UInt8) (d : List UInt8) : List UInt8 := bodyL k d ++ (nextV c k d).toList.take 8
theorem recL_length (c : Dig) (k : UInt8) (d : List UInt8) : (recL c k d).length = (bodyL k d).length + 8 := by simp [recL]
noncomputable def F49 : FnI := recFc fun c k d n => if chk k d.length = 0 then some ⟨.tuple #[.slice (some ⟨n, 0, some 1⟩) (recL c k d).length (recL c k d).length, enc (nextV c k d), .int .i64 0], [(n, some (.cells (encs (recL c k d)) false))], n + 1⟩
  else some ⟨.tuple #[.slice none 0 0, enc (Vector.replicate 32 (0 : UInt8)), .int .i64 2], [], n⟩
theorem chk_two (k : UInt8) (len : Nat) : chk k len = 0 ∨ chk k len = 2 := by unfold chk; split <;> simp
-- headwater/record.Bytes ['Vector UInt8 32', 'Record'] -> ['Sl', 'Vector UInt8 32', 'Int'], results [4, [5, 24], 6]
theorem R49 : Ref Try.prog 49 F49 := by
  refine Ref.of_iw dok Try.func49 rfl (by kernel_rfl) fun args H n e hF => ?_
  obtain ⟨c, a, d, rfl, hD, hle, hF2⟩ := recFc_inv hF
  have hrl := rec_len hD
  have hbl := bodyL_length a.kind d
  have hsz := sizeV_small (UInt64.ofNat d.length)
  refine ⟨Nat.le_of_ble_eq_true rfl, ?_⟩
  simp only [idxL]
  have hE : Env Try.prog [(48, F48), (52, F52), (76, F76)] D K := env (fnsOk_cons R48 (fnsOk_cons R52 (fnsOk_cons R76 fnsOk_nil)))
  refine IW.seq ?_
  refine IW.free (by simp) (fun hfree => ?_)
  refine IW.reg hE ?_
  refine vcS_new rfl rfl (ox_box (pl rfl) rfl) (.inl (by omega)) ?_
  refine vcS_new rfl rfl (ox_box (pl rfl) (cellsOf_Record _)) (.inl (by omega)) ?_
  refine vcS_val rfl rfl (ox_assign (pl rfl)) ?_
  refine vcS_new rfl rfl (ox_allocZ (cs := encs (Vector.replicate 32 (0 : UInt8)).toList) D_24 rfl) (.inl (by omega)) ?_
  refine vcS_val rfl rfl (ox_assign (pl rfl)) ?_
  refine vcS_nil ?_
  refine IW.seq ?_
  refine IW.seq ?_
  refine IW.reg hE ?_
  refine vcS_val rfl rfl (ox_load (pl rfl) D_69 (hp_sk (by omega) (hp_eq _ _ _ _)) (rd_69 _ rfl rfl)) ?_
  refine vcS_val rfl rfl (ox_fn rfl rfl (fn1_ev _ _ _ _)) ?_
  refine vcS_val rfl rfl (ox_assign (pl rfl)) ?_
  refine vcS_nil ?_
  refine IW.seq ?_
  refine IW.reg hE ?_
  refine vcS_val rfl rfl (ox_move (pl rfl)) ?_
  refine vcS_val rfl rfl (ox_bin (pl rfl) (pl rfl) (bo_i64_neq _ _)) ?_
  refine vcS_nil ?_
  refine IW.cond rfl (fun hc1 => ?_) (fun hc1 => ?_)
  · have h0 : ¬ chk a.kind d.length = 0 := fun e => bne_iff_ne.1 hc1 (by rw [hrl, e]; rfl)
    have h2 : chk a.kind d.length = 2 := (chk_two _ _).resolve_left h0
    refine IW.seq ?_
    refine IW.reg hE ?_
    refine vcS_val rfl rfl (ox_buildA0 (cs := encs (Vector.replicate 32 (0 : UInt8)).toList) D_24 rfl D_5 rfl) ?_
    refine vcS_val rfl rfl (ox_move (pl rfl)) ?_
    refine vcS_val rfl rfl (ox_assign (pl rfl)) ?_
    refine vcS_sto rfl rfl (ox_store (pl rfl) (pl rfl) D_24 (hp_eq _ _ _ _) rfl (encs_vec_length _) (le_vec _ rfl) (encs_known _) (wr_all (by simp only [encs_vec_length]))) (.inl (by omega)) ?_
    refine vcS_val rfl rfl (ox_assign (pl rfl)) ?_
    refine vcS_nil ?_
    refine IW.ret ?_
    rw [if_neg h0] at hF2; cases hF2
    exact RetP.pure (.inr rfl) (ires_l3 (ires_tmp rfl) (ires_cell rfl D_24 (hp_eq _ _ _ _) (rd_all rfl (encs_vec_length (Vector.replicate 32 (0 : UInt8))))) ((ires_tmp rfl).trans (by rw [hrl, h2]; rfl))) (okN_l3 trivial (ok2_vec8 _) trivial) (by omega)
  · have h0 : chk a.kind d.length = 0 := by rw [← hrl]; exact Int.ofNat.inj (bne_eq_false_iff_eq.1 hc1)
    refine IW.skip ?_
    refine IW.seq ?_
    refine IW.reg hE ?_
    refine vcS_val rfl rfl (ox_load (pl rfl) D_24 (hp_sk (by omega) (hp_sk (by omega) (hp_eq _ _ _ _))) (rd_all rfl (encs_vec_length _))) ?_
    refine vcS_val rfl rfl (ox_load (pl rfl) D_69 (hp_sk (by omega) (hp_eq _ _ _ _)) (rd_69 _ rfl rfl)) ?_
    refine vcS_val rfl rfl (ox_fn rfl rfl (recFc_ev (rdC_keep hfree hD (by exact ⟨by omega, ⟨by omega, ⟨by omega, trivial⟩⟩⟩)) hle rfl)) ?_
    refine vcS_new rfl rfl (ox_allocZ (cs := encs (Vector.replicate 32 (0 : UInt8)).toList) D_24 rfl) (.inl (by omega)) ?_
    refine vcS_sto rfl rfl (ox_store (pl rfl) (pl rfl) D_24 (hp_eq _ _ _ _) rfl (encs_vec_length _) (le_vec _ rfl) (encs_known _) (wr_all (by simp only [encs_vec_length]))) (.inl (by omega)) ?_
    refine vcS_nil ?_
    refine IW.seq ?_
    by_cases hd0 : d.length = 0
    · refine IW.drw hE mixed [[],[0],[],[0,1,2],[],[0,1,2,3],[0,1,2,3,4,5],[0,1,2,3,4,5,6]] (by kernel_rfl) (vcE_start ?_)
      refine vcE_val rfl rfl rfl rfl (ox_load (pl rfl) D_69 (hp_sk (by omega) (hp_sk (by omega) (hp_sk (by omega) (hp_eq _ _ _ _)))) (rd_69 _ rfl rfl)) rfl (si_load (pl rfl)) (lt1 (by omega)) (trivial) ?_
      refine vcE_callN rfl rfl rfl rfl (ox_fn rfl rfl (F76_ev0 (rdC_keep hfree hD (by exact ⟨by omega, ⟨by omega, ⟨by omega, ⟨by omega, ⟨by omega, trivial⟩⟩⟩⟩⟩)) hle hd0)) rfl ltu0 ⟨⟨.inl (by omega), by omega, by omega⟩, trivial⟩ (by omega) (trivial) ?_
      refine vcE_bl rfl rfl (fun _ => ox_slAH (pl rfl) D_24 rfl D_5 (bndI (pl rfl) rfl) (by first | omega | decide)) rfl rfl ?_
      refine vcE_app1 [n + 1 + 1 + 1 + 1, n + 1 + 1 + 1] rfl rfl rfl rfl (ox_appG (α := UInt8) (l1 := bodyL a.kind d) (len2 := (recL c a.kind d).length) (pl rfl) (pl rfl) D_35 rfl D_5 rfl (srcArg_k (α := UInt8) (k := 8) (l := (nextV c a.kind d).toList.take 8) D_35 rfl rfl (rdC_sl0 (len := 32) (rdC_1all (hp_sk (by omega) (hp_eq _ _ _ _)) (by simp)) (by decide)) (by simp)) (by simp) (rdC_1all (hp_eq _ _ _ _) rfl) (by omega) (recL_length c a.kind d).symm (by simp only [most]; have := recL_length c a.kind d; omega) (by decide)) rfl rfl (.inl (by omega)) (lt2 (by omega) (by omega)) (⟨trivial, trivial⟩) ?_
      refine vcE_val rfl rfl rfl rfl (ox_load (pl rfl) D_24 (hp_eq _ _ _ _) (rd_all rfl (encs_vec_length _))) rfl (si_load (pl rfl)) (lt1 (by omega)) (⟨qn1 (n0 := 0) (by omega), ⟨qn1 (n0 := 0) (by omega), trivial⟩⟩) ?_
      refine vcE_bl rfl rfl (fun _ => ox_assign (pl rfl)) rfl rfl ?_
      refine vcE_sto rfl rfl rfl rfl (ox_store (pl rfl) (pl rfl) D_24 (hp_sk (by omega) (hp_sk (by omega) (hp_sk (by omega) (hp_sk (by omega) (hp_eq _ _ _ _))))) rfl (encs_vec_length _) (le_vec _ rfl) (encs_known _) (wr_all (by simp only [encs_vec_length]))) rfl (si_store (pl rfl)) (is_some (hp_sk (by omega) (hp_sk (by omega) (hp_sk (by omega) (hp_sk (by omega) (hp_eq _ _ _ _)))))) (by omega) (.inl (by omega)) (⟨trivial, ⟨trivial, trivial⟩⟩) (⟨trivial, ⟨trivial, ⟨trivial, ⟨trivial, trivial⟩⟩⟩⟩) ?_
      refine vcE_bl rfl rfl (fun _ => ox_assign (pl rfl)) rfl rfl ?_
      refine vcE_nil ?_
      refine IW.ret ?_
      rw [if_pos h0] at hF2; cases hF2
      refine RetP.news [n + 1 + 1 + 1 + 1 + 1] (cs := [encs (recL c a.kind d)]) (.inr rfl) (ires_l3 (ires_tmp rfl) (ires_cell rfl D_24 (hp_eq _ _ _ _) (rd_all rfl (encs_vec_length (nextV c a.kind d)))) (ires_tmp rfl)) (by rw [ren_l3, ren2_slice, gL_one, ren2_vec8]; rfl) rfl rfl ⟨by omega, trivial⟩ (by simp) ⟨(hp_sk (by omega) (hp_eq _ _ _ _)).trans (by rw [plains_ren (by rw [← cels_one]; exact u8_plain _)]; rfl), trivial⟩ (fun c hc => by simp only [List.mem_cons, List.not_mem_nil, or_false] at hc; subst hc; exact u8_okN1 _) (okN_l3 (by show n < _; simp) (ok2_vec8 _) trivial)
    · refine IW.drw hE mixed [[],[0],[],[0,1,2],[],[0,1,2,3],[0,1,2,3,4,5],[0,1,2,3,4,5,6]] (by kernel_rfl) (vcE_start ?_)
      refine vcE_val rfl rfl rfl rfl (ox_load (pl rfl) D_69 (hp_sk (by omega) (hp_sk (by omega) (hp_sk (by omega) (hp_eq _ _ _ _)))) (rd_69 _ rfl rfl)) rfl (si_load (pl rfl)) (lt1 (by omega)) (trivial) ?_
      refine vcE_callN rfl rfl rfl rfl (ox_fn rfl rfl (F76_ev1 (rdC_keep hfree hD (by exact ⟨by omega, ⟨by omega, ⟨by omega, ⟨by omega, ⟨by omega, trivial⟩⟩⟩⟩⟩)) hle hd0)) rfl ltu0 ⟨⟨.inl (by omega), by omega, by omega⟩, trivial⟩ (by omega) (trivial) ?_
      refine vcE_bl rfl rfl (fun _ => ox_slAH (pl rfl) D_24 rfl D_5 (bndI (pl rfl) rfl) (by first | omega | decide)) rfl rfl ?_
      refine vcE_app2 [n + 1 + 1 + 1 + 1, n + 1 + 1 + 1] rfl rfl rfl rfl (ox_appOE (α := UInt8) (l1 := bodyL a.kind d) (len2 := (recL c a.kind d).length) (pl rfl) (pl rfl) D_35 rfl D_5 rfl rfl (srcArg_k (α := UInt8) (k := 8) (l := (nextV c a.kind d).toList.take 8) D_35 rfl rfl (rdC_sl0 (len := 32) (rdC_1all (hp_sk (by omega) (hp_eq _ _ _ _)) (by simp)) (by decide)) (by simp)) (by simp) (hp_eq _ _ _ _) rfl (recL_length c a.kind d).symm (by simp only [most]; have := recL_length c a.kind d; omega) (by decide)) rfl rfl (.inl (by omega)) (by simp) (is_some (hp_eq _ _ _ _)) (by omega) (.inl (by omega)) (lt2 (by omega) (by omega)) (⟨trivial, trivial⟩) (⟨trivial, ⟨trivial, trivial⟩⟩) ?_
      refine vcE_val rfl rfl rfl rfl (ox_load (pl rfl) D_24 (hp_eq _ _ _ _) (rd_all rfl (encs_vec_length _))) rfl (si_load (pl rfl)) (lt1 (by omega)) (⟨qn1 (n0 := 0) (by omega), ⟨qn2 (n0 := 0) (by omega) (by omega), trivial⟩⟩) ?_
      refine vcE_bl rfl rfl (fun _ => ox_assign (pl rfl)) rfl rfl ?_
      refine vcE_sto rfl rfl rfl rfl (ox_store (pl rfl) (pl rfl) D_24 (hp_sk (by omega) (hp_sk (by omega) (hp_sk (by omega) (hp_sk (by omega) (hp_sk (by omega) (hp_eq _ _ _ _)))))) rfl (encs_vec_length _) (le_vec _ rfl) (encs_known _) (wr_all (by simp only [encs_vec_length]))) rfl (si_store (pl rfl)) (is_some (hp_sk (by omega) (hp_sk (by omega) (hp_sk (by omega) (hp_sk (by omega) (hp_sk (by omega) (hp_eq _ _ _ _))))))) (by omega) (.inl (by omega)) (⟨trivial, ⟨trivial, trivial⟩⟩) (⟨trivial, ⟨trivial, ⟨trivial, ⟨trivial, trivial⟩⟩⟩⟩) ?_
      refine vcE_bl rfl rfl (fun _ => ox_assign (pl rfl)) rfl rfl ?_
      refine vcE_nil ?_
      refine IW.ret ?_
      rw [if_pos h0] at hF2; cases hF2
      refine RetP.news [n + 1 + 1 + 1 + 1 + 1] (cs := [encs (recL c a.kind d)]) (.inr rfl) (ires_l3 (ires_tmp rfl) (ires_cell rfl D_24 (hp_eq _ _ _ _) (rd_all rfl (encs_vec_length (nextV c a.kind d)))) (ires_tmp rfl)) (by rw [ren_l3, ren2_slice, gL_one, ren2_vec8]; rfl) rfl rfl ⟨by omega, trivial⟩ (by simp) ⟨(hp_sk (by omega) (hp_eq _ _ _ _)).trans (by rw [plains_ren (by rw [← cels_one]; exact u8_plain _)]; rfl), trivial⟩ (fun c hc => by simp only [List.mem_cons, List.not_mem_nil, or_false] at hc; subst hc; exact u8_okN1 _) (okN_l3 (by show n < _; simp) (ok2_vec8 _) trivial)
end Go.Proofs.Ytdnnojblneccdaa
