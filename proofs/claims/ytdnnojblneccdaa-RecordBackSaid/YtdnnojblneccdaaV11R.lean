import Derived.Test.YtdnnojblneccdaaV11G
/-
  PROVED: headwaterlaw08.RecordBack returns true for every input. No condition.
-/
namespace Go.Proofs.Ytdnnojblneccdaa
set_option linter.unusedSimpArgs false
set_option linter.unusedVariables false
open Go Go.ChangeShapes Go.WideShapes Go.ChangeAt Go.RowKit
open Enc (enc)
set_option maxRecDepth 100000
theorem recs_of {W : World} {base : Nat} {v : Value} (h : Value.okWide Try.prog W .any base 80 v) : ∃ s : Sl, v = enc s ∧ SlOk W s := by
  have h2 : Cell.okWide Try.prog W .any base 80 v := by
    unfold Value.okWide at h
    rw [Try.underlying80] at h
    exact h
  exact slOk_of Try.underlying80 h2
theorem recordBack_lifted (os : Os) (started : os.Started) (T : Type) (en : TypeId × Value → T) :
    ReturnsInHanded {} Try.checked os 13 .any (Rows.recordBackSpec.pre6 en Try.prog Try.f13 Rows.recordBackRow.domain false) (Rows.recordBackSpec.post en Try.prog Try.f13 false true false false) := by
  refine law_true (C := Try.checked) (tb := 4) Try.own started (by kernel_rfl) Try.func13
    (ChangeSpec.witness6 (enc := en) (C := Try.checked) false ⟨#[], #[.slice none 0 0, enc (Vector.replicate 32 (0 : UInt8)), .int .i64 0], []⟩ 8 (by kernel_rfl) (by kernel_rfl) (by kernel_rfl) (by kernel_rfl))
    Try.laidOut (by kernel_rfl) rfl Try.underlying4 rfl (fun ds hds => ?_) ?_
  · match ds, hds with
    | [d0, d1, d2], _ => exact ⟨rfl, rfl, rfl⟩
  · intro W base args hsz hval ds p htr
    have hsz : args.size = 3 := hsz
    obtain ⟨a0, ha0, ka0⟩ := recs_of (hval 0 80 (args[0]'(by omega)) rfl (by simp [hsz]))
    obtain ⟨a1, ha1⟩ := u8s_of (k := 32) Try.underlying24 (by kernel_rfl) (by kernel_rfl) (hval 1 24 (args[1]'(by omega)) rfl (by simp [hsz]))
    obtain ⟨a2, ha2⟩ := int_of (hval 2 3 (args[2]'(by omega)) rfl (by simp [hsz]))
    have hargs : args = #[enc a0, enc a1, .int .i64 a2] := by
      apply Array.ext (by simp [hsz])
      intro i h1 h2
      have hi : i < 3 := by omega
      match i, hi with
      | 0, _ => exact ha0
      | 1, _ => exact ha1
      | 2, _ => exact ha2
    subst hargs
    obtain ⟨_, _, d0, ds0, p0, q0, e0, _, _, ht0, htr⟩ := trodAll_cons (t := 80) htr
    cases e0
    obtain ⟨rs, A, hrs, hA, hle⟩ := recs_mem ka0 ht0
    refine calls_of_ref (ρ := ρW W) (H := HW2 W) (n := W.heap.size) (args := [enc a0, enc a1, .int .i64 a2]) Try.func13 rfl (by kernel_rfl) R13 (F13_ev hrs hA hle) (ρW_below W) (HW2_hr W) ⟨rfl, fun i v hv => ?_⟩
    have hi : i < 3 := (List.getElem?_eq_some_iff.1 hv).1
    match i, hi, hv with
    | 0, _, hv => cases hv; exact ⟨_, rfl, slOk_vr ka0⟩
    | 1, _, hv => cases hv; exact ⟨_, rfl, vr_agg vr_u8s⟩
    | 2, _, hv => cases hv; exact ⟨_, rfl, .int _ _⟩
theorem recordBack_holds : Rows.RecordBackSaid :=
  OpenClaim.holds_of_wide 13 Try.f13 rfl rfl rfl rfl rfl rfl rfl ⟨rfl, rfl, rfl, rfl, rfl⟩ rfl rfl rfl rfl rfl (by kernel_rfl) Try.func13 (by kernel_rfl)
    (of_decide_eq_true (by kernel_rfl)) (by unfold Func.isWrapper; first | (rw [if_pos (by decide +kernel)]; kernel_rfl) | (rw [if_neg (by decide +kernel)]; exact ⟨rfl, rfl⟩))
    (fun os started T en _ => recordBack_lifted os started T en)
end Go.Proofs.Ytdnnojblneccdaa
