import Derived.Test.YtdnnojblneccdaaV9F
/-
  PROVED: headwaterlaw08.RecordNames returns true. No condition.
-/
namespace Go.Proofs.Ytdnnojblneccdaa
set_option linter.unusedSimpArgs false
set_option linter.unusedVariables false
open Go Go.ChangeShapes Go.WideShapes Go.ChangeAt Go.RowKit
open Enc (enc)
set_option maxRecDepth 100000
theorem recordNames_lifted (os : Os) (started : os.Started) (T : Type) (en : TypeId × Value → T) :
    ReturnsInHanded {} Try.checked os 12 .any (Rows.recordNamesSpec.pre6 en Try.prog Try.f12 Rows.recordNamesRow.domain false) (Rows.recordNamesSpec.post en Try.prog Try.f12 false true false false) := by
  refine law_true (C := Try.checked) (tb := 4) Try.own started (by kernel_rfl) Try.func12
    (ChangeSpec.witness6 (enc := en) (C := Try.checked) false ⟨#[], #[], []⟩ 8 (by kernel_rfl) (by kernel_rfl) (by kernel_rfl) (by kernel_rfl))
    Try.laidOut (by kernel_rfl) rfl Try.underlying4 rfl (fun ds hds => ?_) ?_
  · match ds, hds with
    | [], _ => exact ⟨rfl, rfl, rfl⟩
  · intro W base args hsz hval ds p htr
    have hsz : args.size = 0 := hsz
    have hargs : args = #[] := Array.eq_empty_of_size_eq_zero hsz
    subst hargs
    refine calls_of_ref (ρ := ρW W) (H := HW W) (n := W.heap.size) (args := []) Try.func12 rfl (by kernel_rfl) R12 (fn0_ev _ _ _) (ρW_below W) (HW_hr W) ⟨rfl, fun i v hv => ?_⟩
    simp at hv
theorem recordNames_holds : Rows.RecordNamesSaid :=
  OpenClaim.holds_of_wide 12 Try.f12 rfl rfl rfl rfl rfl rfl rfl ⟨rfl, rfl, rfl, rfl, rfl⟩ rfl rfl rfl rfl rfl (by kernel_rfl) Try.func12 (by kernel_rfl)
    (of_decide_eq_true (by kernel_rfl)) (by unfold Func.isWrapper; first | (rw [if_pos (by decide +kernel)]; kernel_rfl) | (rw [if_neg (by decide +kernel)]; exact ⟨rfl, rfl⟩))
    (fun os started T en _ => recordNames_lifted os started T en)
end Go.Proofs.Ytdnnojblneccdaa
