/-
  Arithmetic on Lean's own numbers.
-/
import Derived.Test.YtdnnojblneccdaaE24
namespace Go.Proofs.Ytdnnojblneccdaa
set_option linter.unusedSimpArgs false
set_option linter.unusedVariables false
open Go
open Enc (enc)

section
variable {D : Ty} {K : Kinds} {t : TypeId}
theorem bo_u64_eql (x y : UInt64) : binOp' D K .eql t (enc x) (enc y) = some (.bool (x == y)) := by
  refine congrArg (fun b => some (Value.bool b)) ?_
  rw [Bool.eq_iff_iff, beq_iff_eq, beq_iff_eq]
  exact ⟨fun e => UInt64.toNat_inj.1 (by omega), fun e => by rw [e]⟩
theorem bo_u64_neq (x y : UInt64) : binOp' D K .neq t (enc x) (enc y) = some (.bool (x != y)) := by
  refine congrArg (fun b => some (Value.bool b)) ?_
  rw [Bool.eq_iff_iff, bne_iff_ne, bne_iff_ne]
  exact ⟨fun e h => e (by rw [h]), fun e h => e (UInt64.toNat_inj.1 (by omega))⟩
theorem bo_u64_lss (x y : UInt64) : binOp' D K .lss t (enc x) (enc y) = some (.bool (decide (x < y))) := by
  refine congrArg (fun b => some (Value.bool b)) ?_
  rw [Bool.eq_iff_iff, decide_eq_true_iff, decide_eq_true_iff, UInt64.lt_iff_toNat_lt]
  omega
theorem bo_u64_gtr (x y : UInt64) : binOp' D K .gtr t (enc x) (enc y) = some (.bool (decide (y < x))) := by
  refine congrArg (fun b => some (Value.bool b)) ?_
  rw [Bool.eq_iff_iff, decide_eq_true_iff, decide_eq_true_iff, UInt64.lt_iff_toNat_lt]
  omega
theorem bo_u64_leq (x y : UInt64) : binOp' D K .leq t (enc x) (enc y) = some (.bool (decide (x ≤ y))) := by
  refine congrArg (fun b => some (Value.bool b)) ?_
  rw [Bool.eq_iff_iff, decide_eq_true_iff, decide_eq_true_iff, UInt64.le_iff_toNat_le]
  omega
theorem bo_u64_geq (x y : UInt64) : binOp' D K .geq t (enc x) (enc y) = some (.bool (decide (y ≤ x))) := by
  refine congrArg (fun b => some (Value.bool b)) ?_
  rw [Bool.eq_iff_iff, decide_eq_true_iff, decide_eq_true_iff, UInt64.le_iff_toNat_le]
  omega
theorem bo_u8_eql (x y : UInt8) : binOp' D K .eql t (enc x) (enc y) = some (.bool (x == y)) := by
  refine congrArg (fun b => some (Value.bool b)) ?_
  rw [Bool.eq_iff_iff, beq_iff_eq, beq_iff_eq]
  exact ⟨fun e => UInt8.toNat_inj.1 (by omega), fun e => by rw [e]⟩
theorem bo_u8_neq (x y : UInt8) : binOp' D K .neq t (enc x) (enc y) = some (.bool (x != y)) := by
  refine congrArg (fun b => some (Value.bool b)) ?_
  rw [Bool.eq_iff_iff, bne_iff_ne, bne_iff_ne]
  exact ⟨fun e h => e (by rw [h]), fun e h => e (UInt8.toNat_inj.1 (by omega))⟩
theorem bo_i64_eql (a b : Int) : binOp' D K .eql t (.int .i64 a) (.int .i64 b) = some (.bool (a == b)) := rfl
theorem bo_i64_neq (a b : Int) : binOp' D K .neq t (.int .i64 a) (.int .i64 b) = some (.bool (a != b)) := rfl
theorem bo_i64_lss (a b : Int) : binOp' D K .lss t (.int .i64 a) (.int .i64 b) = some (.bool (decide (a < b))) := rfl
theorem bo_i64_leq (a b : Int) : binOp' D K .leq t (.int .i64 a) (.int .i64 b) = some (.bool (decide (a ≤ b))) := rfl
theorem bo_i64_gtr (a b : Int) : binOp' D K .gtr t (.int .i64 a) (.int .i64 b) = some (.bool (decide (b < a))) := rfl
theorem bo_i64_geq (a b : Int) : binOp' D K .geq t (.int .i64 a) (.int .i64 b) = some (.bool (decide (b ≤ a))) := rfl
theorem bo_i64_add {a b : Int} (h : -9223372036854775808 ≤ a + b ∧ a + b ≤ 9223372036854775807) : binOp' D K .add t (.int .i64 a) (.int .i64 b) = some (.int .i64 (a + b)) := by
  show some (Value.int .i64 (IntKind.wrap .i64 (a + b))) = _
  rw [wrap_i64 h.1 h.2]
theorem bo_i64_sub {a b : Int} (h : -9223372036854775808 ≤ a - b ∧ a - b ≤ 9223372036854775807) : binOp' D K .sub t (.int .i64 a) (.int .i64 b) = some (.int .i64 (a - b)) := by
  show some (Value.int .i64 (IntKind.wrap .i64 (a - b))) = _
  rw [wrap_i64 h.1 h.2]
theorem bo_i64_mul {a b : Int} (h : -9223372036854775808 ≤ a * b ∧ a * b ≤ 9223372036854775807) : binOp' D K .mul t (.int .i64 a) (.int .i64 b) = some (.int .i64 (a * b)) := by
  show some (Value.int .i64 (IntKind.wrap .i64 (a * b))) = _
  rw [wrap_i64 h.1 h.2]
theorem bo_bool_eql {d : TD} (hd : D t = some d) (hk : d.k = .bool) (a b : Bool) : binOp' D K .eql t (.bool a) (.bool b) = some (.bool (a == b)) := by
  simp [binOp', eqOp, hd, hk]
theorem bo_bool_neq {d : TD} (hd : D t = some d) (hk : d.k = .bool) (a b : Bool) : binOp' D K .neq t (.bool a) (.bool b) = some (.bool (a != b)) := by
  simp only [binOp', eqOp, hd, hk, Option.bind_some, if_true, Option.map_some]; cases a <;> cases b <;> rfl
theorem uo_not (a : Bool) : unOp' .not (.bool a) = some (.bool !a) := rfl
theorem uo_neg_i64 {a : Int} (h : -9223372036854775807 ≤ a ∧ a ≤ 9223372036854775807) : unOp' .neg (.int .i64 a) = some (.int .i64 (-a)) := by
  show some (Value.int .i64 (IntKind.wrap .i64 (0 - a))) = _
  rw [wrap_i64 (by omega) (by omega)]; simp
end
end Go.Proofs.Ytdnnojblneccdaa
