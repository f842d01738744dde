import Derived.Test.YtdnnojblneccdaaJI
/-
  PROVED: headwaterlaw02.ShaParts returns true for every input. No condition.
-/
namespace Go.Proofs.Ytdnnojblneccdaa
set_option linter.unusedSimpArgs false
set_option linter.unusedVariables false
open Go Go.ChangeShapes Go.WideShapes Go.ChangeAt Go.RowKit
open Enc (enc)
set_option maxRecDepth 100000

theorem shaParts_lifted (os : Os) (started : os.Started) (T : Type) (en : TypeId × Value → T) :
    ReturnsInHanded {} Try.checked os 10 .any (Rows.shaPartsSpec.pre6 en Try.prog Try.f10 Rows.shaPartsRow.domain false) (Rows.shaPartsSpec.post en Try.prog Try.f10 false true false false) := by
  refine law_true (C := Try.checked) (tb := 4) Try.own started (by kernel_rfl) Try.func10
    (ChangeSpec.witness6 (enc := en) (C := Try.checked) false ⟨#[], #[.slice none 0 0, .int .i64 0, .int .i64 0], []⟩ 8 (by kernel_rfl) (by kernel_rfl) (by kernel_rfl) (by kernel_rfl))
    Try.laidOut (by kernel_rfl) rfl Try.underlying4 rfl (fun ds hds => ?_) ?_
  · match ds, hds with
    | [d0, d1, d2], _ => exact ⟨rfl, rfl, rfl⟩
  · intro W base args hsz hval ds p htr
    have hsz : args.size = 3 := hsz
    obtain ⟨a0, ha0, ka0⟩ := bytes_of (hval 0 35 (args[0]'(by omega)) rfl (by simp [hsz]))
    have kp0 : SlP a0 := bytes_pl (base := base) (W := W) (by rw [← ha0]; exact (hval 0 35 (args[0]'(by omega)) rfl (by simp [hsz])))
    obtain ⟨a1, ha1⟩ := int_of (hval 1 3 (args[1]'(by omega)) rfl (by simp [hsz]))
    obtain ⟨a2, ha2⟩ := int_of (hval 2 3 (args[2]'(by omega)) rfl (by simp [hsz]))
    have hargs : args = #[enc a0, .int .i64 a1, .int .i64 a2] := by
      apply Array.ext (by simp [hsz])
      intro i h1 h2
      have hi : i < 3 := by omega
      match i, hi with
      | 0, _ => exact ha0
      | 1, _ => exact ha1
      | 2, _ => exact ha2
    subst hargs
    obtain ⟨_, _, d0, ds0, p0, q0, e0, _, _, ht0, htr⟩ := trodAll_cons (t := 35) htr
    cases e0
    obtain ⟨l0, hl0⟩ := bytes_mem ka0 ht0
    obtain ⟨_, _, d1, ds1, p1, q1, e1, _, _, ht1, htr⟩ := trodAll_cons (t := 3) htr
    cases e1
    obtain ⟨_, _, d2, ds2, p2, q2, e2, _, _, ht2, htr⟩ := trodAll_cons (t := 3) htr
    cases e2
    refine calls_of_ref (ρ := ρW W) (H := HW W) (n := W.heap.size) (args := [enc a0, .int .i64 a1, .int .i64 a2]) Try.func10 rfl (by kernel_rfl) R10 (F10_ev hl0 kp0) (ρW_below W) (HW_hr W) ⟨rfl, fun i v hv => ?_⟩
    have hi : i < 3 := (List.getElem?_eq_some_iff.1 hv).1
    match i, hi, hv with
    | 0, _, hv => cases hv; exact ⟨_, rfl, slOk_vr ka0⟩
    | 1, _, hv => cases hv; exact ⟨_, rfl, .int _ _⟩
    | 2, _, hv => cases hv; exact ⟨_, rfl, .int _ _⟩

theorem shaParts_holds : Rows.ShaPartsSaid :=
  OpenClaim.holds_of_wide 10 Try.f10 rfl rfl rfl rfl rfl rfl rfl ⟨rfl, rfl, rfl, rfl, rfl⟩ rfl rfl rfl rfl rfl (by kernel_rfl) Try.func10 (by kernel_rfl)
    (of_decide_eq_true (by kernel_rfl)) (by unfold Func.isWrapper; first | (rw [if_pos (by decide +kernel)]; kernel_rfl) | (rw [if_neg (by decide +kernel)]; exact ⟨rfl, rfl⟩))
    (fun os started T en _ => shaParts_lifted os started T en)
end Go.Proofs.Ytdnnojblneccdaa
