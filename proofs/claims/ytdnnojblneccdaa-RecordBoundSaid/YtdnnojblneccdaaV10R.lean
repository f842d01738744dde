import Derived.Test.YtdnnojblneccdaaV10F
/-
  PROVED: headwaterlaw08.RecordBound returns true for every input. No condition.
-/
namespace Go.Proofs.Ytdnnojblneccdaa
set_option linter.unusedSimpArgs false
set_option linter.unusedVariables false
open Go Go.ChangeShapes Go.WideShapes Go.ChangeAt Go.RowKit
open Enc (enc)
set_option maxRecDepth 100000
theorem recordBound_lifted (os : Os) (started : os.Started) (T : Type) (en : TypeId × Value → T) :
    ReturnsInHanded {} Try.checked os 11 .any (Rows.recordBoundSpec.pre6 en Try.prog Try.f11 Rows.recordBoundRow.domain false) (Rows.recordBoundSpec.post en Try.prog Try.f11 false true false false) := by
  refine law_true (C := Try.checked) (tb := 4) Try.own started (by kernel_rfl) Try.func11
    (ChangeSpec.witness6 (enc := en) (C := Try.checked) false ⟨#[], #[enc Record.zero, enc (Vector.replicate 32 (0 : UInt8)), enc (Vector.replicate 32 (0 : UInt8)), .int .i64 0, .int .u8 0], []⟩ 8 (by kernel_rfl) (by kernel_rfl) (by kernel_rfl) (by kernel_rfl))
    Try.laidOut (by kernel_rfl) rfl Try.underlying4 rfl (fun ds hds => ?_) ?_
  · match ds, hds with
    | [d0, d1, d2, d3, d4], _ => exact ⟨rfl, rfl, rfl⟩
  · intro W base args hsz hval ds p htr
    have hsz : args.size = 5 := hsz
    obtain ⟨a0, ha0, ka0⟩ := record_of (hval 0 69 (args[0]'(by omega)) rfl (by simp [hsz]))
    obtain ⟨a1, ha1⟩ := u8s_of (k := 32) Try.underlying24 (by kernel_rfl) (by kernel_rfl) (hval 1 24 (args[1]'(by omega)) rfl (by simp [hsz]))
    obtain ⟨a2, ha2⟩ := u8s_of (k := 32) Try.underlying24 (by kernel_rfl) (by kernel_rfl) (hval 2 24 (args[2]'(by omega)) rfl (by simp [hsz]))
    obtain ⟨a3, ha3⟩ := int_of (hval 3 3 (args[3]'(by omega)) rfl (by simp [hsz]))
    obtain ⟨a4, ha4⟩ := cell_of (α := UInt8) (cellIs_u8 Try.underlying5) (by kernel_rfl) (hval 4 5 (args[4]'(by omega)) rfl (by simp [hsz]))
    have hargs : args = #[enc a0, enc a1, enc a2, .int .i64 a3, enc a4] := by
      apply Array.ext (by simp [hsz])
      intro i h1 h2
      have hi : i < 5 := by omega
      match i, hi with
      | 0, _ => exact ha0
      | 1, _ => exact ha1
      | 2, _ => exact ha2
      | 3, _ => exact ha3
      | 4, _ => exact ha4
    subst hargs
    obtain ⟨_, _, d0, ds0, p0, q0, e0, _, _, ht0, htr⟩ := trodAll_cons (t := 69) htr
    cases e0
    obtain ⟨l0, hl0⟩ := rec_mem ka0 ht0
    obtain ⟨_, _, d1, ds1, p1, q1, e1, _, _, ht1, htr⟩ := trodAll_cons (t := 24) htr
    cases e1
    obtain ⟨_, _, d2, ds2, p2, q2, e2, _, _, ht2, htr⟩ := trodAll_cons (t := 24) htr
    cases e2
    obtain ⟨_, _, d3, ds3, p3, q3, e3, _, _, ht3, htr⟩ := trodAll_cons (t := 3) htr
    cases e3
    obtain ⟨_, _, d4, ds4, p4, q4, e4, _, _, ht4, htr⟩ := trodAll_cons (t := 5) htr
    cases e4
    refine calls_of_ref (ρ := ρW W) (H := HW W) (n := W.heap.size) (args := [enc a0, enc a1, enc a2, .int .i64 a3, enc a4]) Try.func11 rfl (by kernel_rfl) R11 (F11_ev hl0) (ρW_below W) (HW_hr W) ⟨rfl, fun i v hv => ?_⟩
    have hi : i < 5 := (List.getElem?_eq_some_iff.1 hv).1
    match i, hi, hv with
    | 0, _, hv => cases hv; exact ⟨_, rfl, vr_rec ka0⟩
    | 1, _, hv => cases hv; exact ⟨_, rfl, vr_agg vr_u8s⟩
    | 2, _, hv => cases hv; exact ⟨_, rfl, vr_agg vr_u8s⟩
    | 3, _, hv => cases hv; exact ⟨_, rfl, .int _ _⟩
    | 4, _, hv => cases hv; exact ⟨_, rfl, .int _ _⟩
theorem recordBound_holds : Rows.RecordBoundSaid :=
  OpenClaim.holds_of_wide 11 Try.f11 rfl rfl rfl rfl rfl rfl rfl ⟨rfl, rfl, rfl, rfl, rfl⟩ rfl rfl rfl rfl rfl (by kernel_rfl) Try.func11 (by kernel_rfl)
    (of_decide_eq_true (by kernel_rfl)) (by unfold Func.isWrapper; first | (rw [if_pos (by decide +kernel)]; kernel_rfl) | (rw [if_neg (by decide +kernel)]; exact ⟨rfl, rfl⟩))
    (fun os started T en _ => recordBound_lifted os started T en)
end Go.Proofs.Ytdnnojblneccdaa
