import Derived.Test.YtdnnojblneccdaaJF
import Derived.Test.YtdnnojblneccdaaJH
/-
  PROVED: headwaterlaw02.ShaPads returns true for every input. No condition.
-/
namespace Go.Proofs.Ytdnnojblneccdaa
set_option linter.unusedSimpArgs false
set_option linter.unusedVariables false
open Go Go.ChangeShapes Go.WideShapes Go.ChangeAt Go.RowKit
open Enc (enc)
set_option maxRecDepth 100000

theorem shaPads_lifted (os : Os) (started : os.Started) (T : Type) (en : TypeId × Value → T) :
    ReturnsInHanded {} Try.checked os 8 .any (Rows.shaPadsSpec.pre6 en Try.prog Try.f8 Rows.shaPadsRow.domain false) (Rows.shaPadsSpec.post en Try.prog Try.f8 false true false false) := by
  refine law_true (C := Try.checked) (tb := 4) Try.own started (by kernel_rfl) Try.func8
    (ChangeSpec.witness6 (enc := en) (C := Try.checked) false ⟨#[], #[.slice none 0 0, .slice none 0 0], []⟩ 8 (by kernel_rfl) (by kernel_rfl) (by kernel_rfl) (by kernel_rfl))
    Try.laidOut (by kernel_rfl) rfl Try.underlying4 rfl (fun ds hds => ?_) ?_
  · match ds, hds with
    | [d0, d1], _ => exact ⟨rfl, rfl, rfl⟩
  · intro W base args hsz hval ds p htr
    have hsz : args.size = 2 := hsz
    obtain ⟨a0, ha0, ka0⟩ := bytes_of (hval 0 35 (args[0]'(by omega)) rfl (by simp [hsz]))
    obtain ⟨a1, ha1, ka1⟩ := bytes_of (hval 1 35 (args[1]'(by omega)) rfl (by simp [hsz]))
    have hargs : args = #[enc a0, enc a1] := by
      apply Array.ext (by simp [hsz])
      intro i h1 h2
      have hi : i < 2 := by omega
      match i, hi with
      | 0, _ => exact ha0
      | 1, _ => exact ha1
    subst hargs
    obtain ⟨_, _, d0, ds0, p0, q0, e0, _, _, ht0, htr⟩ := trodAll_cons (t := 35) htr
    cases e0
    obtain ⟨l0, hl0⟩ := bytes_mem ka0 ht0
    obtain ⟨_, _, d1, ds1, p1, q1, e1, _, _, ht1, htr⟩ := trodAll_cons (t := 35) htr
    cases e1
    obtain ⟨l1, hl1⟩ := bytes_mem ka1 ht1
    refine calls_of_ref (ρ := ρW W) (H := HW W) (n := W.heap.size) (args := [enc a0, enc a1]) Try.func8 rfl (by kernel_rfl) R8 (F8_ev hl0 hl1) (ρW_below W) (HW_hr W) ⟨rfl, fun i v hv => ?_⟩
    have hi : i < 2 := (List.getElem?_eq_some_iff.1 hv).1
    match i, hi, hv with
    | 0, _, hv => cases hv; exact ⟨_, rfl, slOk_vr ka0⟩
    | 1, _, hv => cases hv; exact ⟨_, rfl, slOk_vr ka1⟩

theorem shaPads_holds : Rows.ShaPadsSaid :=
  OpenClaim.holds_of_wide 8 Try.f8 rfl rfl rfl rfl rfl rfl rfl ⟨rfl, rfl, rfl, rfl, rfl⟩ rfl rfl rfl rfl rfl (by kernel_rfl) Try.func8 (by kernel_rfl)
    (of_decide_eq_true (by kernel_rfl)) (by unfold Func.isWrapper; first | (rw [if_pos (by decide +kernel)]; kernel_rfl) | (rw [if_neg (by decide +kernel)]; exact ⟨rfl, rfl⟩))
    (fun os started T en _ => shaPads_lifted os started T en)
end Go.Proofs.Ytdnnojblneccdaa
