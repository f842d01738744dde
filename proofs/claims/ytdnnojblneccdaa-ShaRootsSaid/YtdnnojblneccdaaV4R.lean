import Derived.Test.YtdnnojblneccdaaJF
import Derived.Test.YtdnnojblneccdaaJG
/-
  PROVED: headwaterlaw02.ShaRoots returns true for every number. No condition.
-/
namespace Go.Proofs.Ytdnnojblneccdaa
set_option linter.unusedSimpArgs false
set_option linter.unusedVariables false
open Go Go.ChangeShapes Go.WideShapes Go.ChangeAt Go.RowKit
open Enc (enc)
set_option maxRecDepth 100000

theorem shaRoots_lifted (os : Os) (started : os.Started) (T : Type) (en : TypeId × Value → T) :
    ReturnsInHanded {} Try.checked os 7 .any (Rows.shaRootsSpec.pre6 en Try.prog Try.f7 Rows.shaRootsRow.domain false) (Rows.shaRootsSpec.post en Try.prog Try.f7 false true false false) := by
  refine law_true (C := Try.checked) (tb := 4) Try.own started (by kernel_rfl) Try.func7
    (ChangeSpec.witness6 (enc := en) (C := Try.checked) false ⟨#[], #[.int .u32 0], []⟩ 8 (by kernel_rfl) (by kernel_rfl) (by kernel_rfl) (by kernel_rfl))
    Try.laidOut (by kernel_rfl) rfl Try.underlying4 rfl (fun ds hds => ?_) ?_
  · match ds, hds with
    | [d1], _ => exact ⟨rfl, rfl, rfl⟩
  · intro W base args hsz hval ds p htr
    have hsz : args.size = 1 := hsz
    obtain ⟨a, ha⟩ := cell_of (α := UInt32) (cellIs_u32 Try.underlying54) (by kernel_rfl) (hval 0 54 (args[0]'(by omega)) rfl (by simp [hsz]))
    have hargs : args = #[enc a] := by
      apply Array.ext (by simp [hsz])
      intro i h1 h2
      have hi : i < 1 := by omega
      match i, hi with
      | 0, _ => exact ha
    subst hargs
    refine calls_of_ref (ρ := ρW W) (H := HW W) (n := W.heap.size) (args := [enc a]) Try.func7 rfl (by kernel_rfl) R7 (fn1_ev _ _ _ _) (ρW_below W) (HW_hr W) ⟨rfl, fun i v hv => ?_⟩
    have hi : i < 1 := (List.getElem?_eq_some_iff.1 hv).1
    match i, hi, hv with
    | 0, _, hv => cases hv; exact ⟨_, rfl, .int _ _⟩

theorem shaRoots_holds : Rows.ShaRootsSaid :=
  OpenClaim.holds_of_wide 7 Try.f7 rfl rfl rfl rfl rfl rfl rfl ⟨rfl, rfl, rfl, rfl, rfl⟩ rfl rfl rfl rfl rfl (by kernel_rfl) Try.func7 (by kernel_rfl)
    (of_decide_eq_true (by kernel_rfl)) (by unfold Func.isWrapper; first | (rw [if_pos (by decide +kernel)]; kernel_rfl) | (rw [if_neg (by decide +kernel)]; exact ⟨rfl, rfl⟩))
    (fun os started T en _ => shaRoots_lifted os started T en)
end Go.Proofs.Ytdnnojblneccdaa
