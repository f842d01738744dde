/-
  slices.Clone.
-/
import Derived.Test.YtdnnojblneccdaaB3
namespace Go.Proofs.Ytdnnojblneccdaa
set_option linter.unusedSimpArgs false
set_option linter.unusedVariables false
open Go
open Enc (enc)
set_option maxRecDepth 100000

theorem bo_nil_slice {D : Ty} {K : Kinds} {t el : TypeId} {d : TD} (hd : D t = some d) (hk : d.k = .slice el) (a : Option Addr) (len cap : Nat) : binOp' D K .eql t (.slice a len cap) (.slice none 0 0) = some (.bool a.isNone) := by
  cases a <;> simp [binOp', eqOp, hd, hk]
noncomputable def F64 : FnI := fun args H n => match args with
  | [.slice none 0 0] => some ⟨.slice none 0 0, [], n⟩
  | [.slice (some a) len cap] => copyF Dig 32 [.slice (some a) len cap] H n
  | _ => none
theorem R64 : Ref Try.prog 64 F64 := by
  refine Ref.of_iw dok Try.func64 rfl (by kernel_rfl) fun args H n e hF => ?_
  have hE : Env Try.prog [] D K := env fnsOk_nil
  unfold F64 at hF
  split at hF
  · cases hF
    refine ⟨Nat.le_of_ble_eq_true rfl, ?_⟩
    simp only [idxL]
    refine IW.seq ?_
    refine IW.reg hE ?_
    refine vcS_val rfl rfl (ox_assign (pl rfl)) ?_
    refine vcS_nil ?_
    refine IW.seq ?_
    refine IW.seq ?_
    refine IW.reg hE ?_
    refine vcS_val rfl rfl (ox_move (pl rfl)) ?_
    refine vcS_val rfl rfl (ox_bin (pl rfl) (pl rfl) (bo_nil_slice D_34 rfl _ _ _)) ?_
    refine vcS_nil ?_
    refine IW.cond rfl (fun hc1 => ?_) (fun hc1 => ?_)
    · refine IW.seq ?_
      refine IW.reg hE ?_
      refine vcS_val rfl rfl (ox_assign (pl rfl)) ?_
      refine vcS_nil ?_
      refine IW.ret ?_
      exact RetP.ret (.inr rfl) rfl rfl trivial rfl
    · cases hc1
  · rename_i a len cap
    obtain ⟨x, l, hx, hl, hle, rfl⟩ := copyF_inv hF
    simp only [List.cons.injEq, and_true] at hx
    subst hx
    refine ⟨Nat.le_of_ble_eq_true rfl, ?_⟩
    simp only [idxL]
    refine IW.seq ?_
    refine IW.reg hE ?_
    refine vcS_val rfl rfl (ox_assign (pl rfl)) ?_
    refine vcS_nil ?_
    refine IW.ltC (by simp) hl (fun hlt => ?_)
    refine IW.seq ?_
    refine IW.seq ?_
    refine IW.reg hE ?_
    refine vcS_val rfl rfl (ox_move (pl rfl)) ?_
    refine vcS_val rfl rfl (ox_bin (pl rfl) (pl rfl) (bo_nil_slice D_34 rfl _ _ _)) ?_
    refine vcS_nil ?_
    refine IW.cond rfl (fun hc1 => ?_) (fun hc1 => ?_)
    · cases hc1
    · refine IW.skip ?_
      refine IW.seq ?_
      refine IW.reg hE ?_
      refine vcS_new rfl rfl (ox_bs0 D_34 rfl D_24) (.inl (by omega)) ?_
      refine vcS_val rfl rfl (ox_move (pl rfl)) ?_
      have hl1 := rdC_hp (H := H) (M := []) (o := some (.cells [] false)) (m := n) hl hlt (Nat.le_refl _)
      by_cases h0 : l = []
      · subst h0
        refine vcS_val rfl rfl (ox_app0 (α := Dig) (pl rfl) (pl rfl) D_34 rfl D_24 D_34 rfl rfl hl1 rfl (Nat.le_refl _)) ?_
        refine vcS_val rfl rfl (ox_assign (pl rfl)) ?_
        refine vcS_nil ?_
        refine IW.ret ?_
        exact RetP.new1 (.inr rfl) (ires_tmp rfl) (Nat.le_refl _) (hp_eq _ _ _ _) rfl
      · refine vcS_new rfl rfl (ox_app1 (pl rfl) (pl rfl) D_34 rfl D_24 D_34 rfl rfl hl1 h0 rfl (fun b hb => by cases hb; exact ⟨false, hp_eq _ _ _ _, rfl⟩) hle (by decide)) (.inl (by omega)) ?_
        refine vcS_val rfl rfl (ox_assign (pl rfl)) ?_
        refine vcS_nil ?_
        refine IW.ret ?_
        have e0 : l.length ≠ 0 := by simpa using h0
        simp only [freshE, freshV, if_neg e0]
        exact RetP.new1 (.inr rfl) (ires_tmp rfl) (Nat.le_succ _) (hp_eq _ _ _ _) (dig_plain l)
  · cases hF
end Go.Proofs.Ytdnnojblneccdaa
