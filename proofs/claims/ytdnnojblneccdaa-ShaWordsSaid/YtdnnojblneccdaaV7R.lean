import Derived.Test.YtdnnojblneccdaaJI
import Derived.Test.YtdnnojblneccdaaJJ
/-
  PROVED: headwaterlaw02.ShaWords returns true for every input. No condition.
-/
namespace Go.Proofs.Ytdnnojblneccdaa
set_option linter.unusedSimpArgs false
set_option linter.unusedVariables false
open Go Go.ChangeShapes Go.WideShapes Go.ChangeAt Go.RowKit
open Enc (enc)
set_option maxRecDepth 100000

theorem shaWords_lifted (os : Os) (started : os.Started) (T : Type) (en : TypeId × Value → T) :
    ReturnsInHanded {} Try.checked os 6 .any (Rows.shaWordsSpec.pre6 en Try.prog Try.f6 Rows.shaWordsRow.domain false) (Rows.shaWordsSpec.post en Try.prog Try.f6 false true false false) := by
  refine law_true (C := Try.checked) (tb := 4) Try.own started (by kernel_rfl) Try.func6
    (ChangeSpec.witness6 (enc := en) (C := Try.checked) false ⟨#[], #[.int .i64 0, .int .u32 0], []⟩ 8 (by kernel_rfl) (by kernel_rfl) (by kernel_rfl) (by kernel_rfl))
    Try.laidOut (by kernel_rfl) rfl Try.underlying4 rfl (fun ds hds => ?_) ?_
  · match ds, hds with
    | [d0, d1], _ => exact ⟨rfl, rfl, rfl⟩
  · intro W base args hsz hval ds p htr
    have hsz : args.size = 2 := hsz
    obtain ⟨a0, ha0⟩ := int_of (hval 0 3 (args[0]'(by omega)) rfl (by simp [hsz]))
    obtain ⟨a1, ha1⟩ := cell_of (α := UInt32) (cellIs_u32 Try.underlying54) (by kernel_rfl) (hval 1 54 (args[1]'(by omega)) rfl (by simp [hsz]))
    have hargs : args = #[.int .i64 a0, enc a1] := by
      apply Array.ext (by simp [hsz])
      intro i h1 h2
      have hi : i < 2 := by omega
      match i, hi with
      | 0, _ => exact ha0
      | 1, _ => exact ha1
    subst hargs
    refine calls_of_ref (ρ := ρW W) (H := HW W) (n := W.heap.size) (args := [.int .i64 a0, enc a1]) Try.func6 rfl (by kernel_rfl) R6 (F6_ev _ _) (ρW_below W) (HW_hr W) ⟨rfl, fun i v hv => ?_⟩
    have hi : i < 2 := (List.getElem?_eq_some_iff.1 hv).1
    match i, hi, hv with
    | 0, _, hv => cases hv; exact ⟨_, rfl, .int _ _⟩
    | 1, _, hv => cases hv; exact ⟨_, rfl, .int _ _⟩

theorem shaWords_holds : Rows.ShaWordsSaid :=
  OpenClaim.holds_of_wide 6 Try.f6 rfl rfl rfl rfl rfl rfl rfl ⟨rfl, rfl, rfl, rfl, rfl⟩ rfl rfl rfl rfl rfl (by kernel_rfl) Try.func6 (by kernel_rfl)
    (of_decide_eq_true (by kernel_rfl)) (by unfold Func.isWrapper; first | (rw [if_pos (by decide +kernel)]; kernel_rfl) | (rw [if_neg (by decide +kernel)]; exact ⟨rfl, rfl⟩))
    (fun os started T en _ => shaWords_lifted os started T en)
end Go.Proofs.Ytdnnojblneccdaa
