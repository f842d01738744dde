/-
  PROVED: headwaterlaw15.BlockParents returns true for every block and every three names, and its arguments read as they did. No condition.
-/
import Derived.Test.YtdnnojblneccdaaRows
import Derived.Test.YtdnnojblneccdaaB10
import Derived.Test.YtdnnojblneccdaaE35
namespace Go.Proofs.Ytdnnojblneccdaa
set_option linter.unusedSimpArgs false
set_option linter.unusedVariables false
open Go Go.ChangeShapes Go.WideShapes Go.ChangeAt Go.RowKit
open Enc (enc)
set_option maxRecDepth 100000

theorem Try.own : ownKnob Try.prog.godebug = none := by kernel_rfl
theorem Try.laidOut : laidOutB Try.prog = true := by kernel_rfl

theorem block_of {W : World} {base : Nat} {v : Value} (h : Value.okWide Try.prog W .any base 37 v) : ∃ b : Block, v = enc b ∧ SlOk W b.links ∧ SlOk W b.data := by
  obtain ⟨c, rfl, hc⟩ := fits_of_wide (ts := List.replicate 32 5 ++ ([22] ++ (List.replicate 32 5 ++ ([34] ++ ([35] ++ List.replicate 64 5))))) Try.underlying37 rfl (by kernel_rfl) (by kernel_rfl) h
  obtain ⟨c1, c, rfl, h1, hc⟩ := fits_append hc
  obtain ⟨c2, c, rfl, h2, hc⟩ := fits_append hc
  obtain ⟨c3, c, rfl, h3, hc⟩ := fits_append hc
  obtain ⟨c4, c, rfl, h4, hc⟩ := fits_append hc
  obtain ⟨c5, c6, rfl, h5, h6⟩ := fits_append hc
  obtain ⟨a1, rfl⟩ := fits_many (cellIs_u8 Try.underlying5) 32 h1
  obtain ⟨a2, rfl⟩ := fits_one (cellIs_u64 Try.underlying22) h2
  obtain ⟨a3, rfl⟩ := fits_many (cellIs_u8 Try.underlying5) 32 h3
  obtain ⟨a4, rfl, k4⟩ := fits_sl Try.underlying34 h4
  obtain ⟨a5, rfl, k5⟩ := fits_sl Try.underlying35 h5
  obtain ⟨a6, rfl⟩ := fits_many (cellIs_u8 Try.underlying5) 64 h6
  exact ⟨⟨a1, a2, a3, a4, a5, a6⟩, rfl, k4, k5⟩

theorem vr_u8s {ρ : Ren} {l : List UInt8} : ∀ x ∈ encs l, VR ρ x x := fun x hx => by
  simp only [encs, List.mem_map] at hx
  obtain ⟨_, _, rfl⟩ := hx
  exact .int _ _
theorem vr_agg {ρ : Ren} {c : List Value} (h : ∀ x ∈ c, VR ρ x x) : VR ρ (.agg c.toArray) (.agg c.toArray) := by
  refine .agg rfl fun i x y hx hy => ?_
  rw [hx] at hy; cases hy
  exact h x (by simpa using Array.mem_of_getElem? hx)
theorem vr_dig {ρ : Ren} (a : Dig) : VR ρ (enc a) (enc a) := vr_agg vr_u8s
theorem vr_block {W : World} {b : Block} (h1 : SlOk W b.links) (h2 : SlOk W b.data) : VR (ρW W) (enc b) (enc b) := by
  refine vr_agg ?_
  simp only [Block.cells, List.mem_append, List.mem_singleton]
  rintro x (h | rfl | h | rfl | rfl | h)
  · exact vr_u8s x h
  · exact .int _ _
  · exact vr_u8s x h
  · exact slOk_vr h1
  · exact slOk_vr h2
  · exact vr_u8s x h
theorem dig_of {W : World} {base : Nat} {v : Value} (h : Value.okWide Try.prog W .any base 24 v) : ∃ a : Dig, v = enc a := by
  obtain ⟨c, rfl, hc⟩ := fits_of_wide (ts := List.replicate 32 5) Try.underlying24 rfl (by kernel_rfl) (by kernel_rfl) h
  obtain ⟨a, rfl⟩ := fits_many (cellIs_u8 Try.underlying5) 32 hc
  exact ⟨a, rfl⟩
theorem elem_u8 {T : Type} {W : World} : ElemOk T Try.prog W 5 UInt8 := elemOk_u8 Try.underlying5 (by kernel_rfl)
theorem elem_dig {T : Type} {W : World} : ElemOk T Try.prog W 24 Dig := elemOk_arr Try.underlying24 (by kernel_rfl) elem_u8
theorem block_mem {T : Type} {en : TypeId × Value → T} {W : World} {sp : Nat → Bool} {hd : Bool} {b : Block} {d : DataW T} {p : List MemPlace} (h1 : SlOk W b.links) (h2 : SlOk W b.data) (h : DataW.Trod en Try.prog W 0 sp hd 37 (enc b) d p) :
    ∃ (l : List Dig) (d : List UInt8), rdC (HW W) (enc b.links) = some l ∧ rdC (HW W) (enc b.data) = some d := by
  obtain ⟨fuel, h⟩ := h
  have hc : (enc b).cells.toList = b.cells := by show b.cells.toArray.toList = _; simp
  rw [hc] at h
  obtain ⟨xs, m, _, _, _, h4, h5⟩ := DataW.trod_struct Try.underlying37 h
  have c3 : Try.prog.cellsOf 34 = 1 := by kernel_rfl
  have c4 : Try.prog.cellsOf 35 = 1 := by kernel_rfl
  have e3 : DataW.trod en Try.prog W 0 sp hd m 34 ((b.cells.drop 65).take (Try.prog.cellsOf 34)) = xs[3]? := h5 3 _ rfl
  have e4 : DataW.trod en Try.prog W 0 sp hd m 35 ((b.cells.drop 66).take (Try.prog.cellsOf 35)) = xs[4]? := h5 4 _ rfl
  rw [c3] at e3
  rw [c4] at e4
  have d3 : (b.cells.drop 65).take 1 = [enc b.links] := by
    have : b.cells = (encs b.writer.toList ++ ([enc b.seq] ++ encs b.prev.toList)) ++ ([enc b.links] ++ ([enc b.data] ++ encs b.sig.toList)) := by simp only [Block.cells, List.append_assoc]
    have hl : (encs b.writer.toList ++ ([enc b.seq] ++ encs b.prev.toList)).length = 65 := by simp [encs]
    rw [this, ← hl, List.drop_left]; rfl
  have d4 : (b.cells.drop 66).take 1 = [enc b.data] := by
    have : b.cells = (encs b.writer.toList ++ ([enc b.seq] ++ (encs b.prev.toList ++ [enc b.links]))) ++ ([enc b.data] ++ encs b.sig.toList) := by simp only [Block.cells, List.append_assoc]
    have hl : (encs b.writer.toList ++ ([enc b.seq] ++ (encs b.prev.toList ++ [enc b.links]))).length = 66 := by simp [encs]
    rw [this, ← hl, List.drop_left]; rfl
  rw [show xs[3]? = some (xs[3]'(by rw [h4]; decide)) from List.getElem?_eq_getElem _] at e3
  rw [show xs[4]? = some (xs[4]'(by rw [h4]; decide)) from List.getElem?_eq_getElem _] at e4
  rw [d3] at e3
  rw [d4] at e4
  obtain ⟨l, hl⟩ := rdC_world Try.underlying34 elem_dig h1 e3
  obtain ⟨dd, hd⟩ := rdC_world Try.underlying35 elem_u8 h2 e4
  exact ⟨l, dd, hl, hd⟩

theorem blockParents_lifted (os : Os) (started : os.Started) (T : Type) (en : TypeId × Value → T) :
    ReturnsInHanded {} Try.checked os 4 .any (Rows.blockParentsSpec.pre6 en Try.prog Try.f4 Rows.blockParentsRow.domain false) (Rows.blockParentsSpec.post en Try.prog Try.f4 false true false false) := by
  refine law_true (C := Try.checked) (tb := 4) Try.own started (by kernel_rfl) Try.func4
    (ChangeSpec.witness6 (enc := en) (C := Try.checked) false ⟨#[], #[enc Block.zero, enc zD, enc zD, enc zD], []⟩ 8 (by kernel_rfl) (by kernel_rfl) (by kernel_rfl) (by kernel_rfl))
    Try.laidOut (by kernel_rfl) rfl Try.underlying4 rfl (fun ds hds => ?_) ?_
  · match ds, hds with
    | [d1, d2, d3, d4], _ => exact ⟨rfl, rfl, rfl⟩
  · intro W base args hsz hval ds p htr
    have hsz : args.size = 4 := hsz
    obtain ⟨b, hb, k1, k2⟩ := block_of (hval 0 37 (args[0]'(by omega)) rfl (by simp [hsz]))
    obtain ⟨x, hx⟩ := dig_of (hval 1 24 (args[1]'(by omega)) rfl (by simp [hsz]))
    obtain ⟨y, hy⟩ := dig_of (hval 2 24 (args[2]'(by omega)) rfl (by simp [hsz]))
    obtain ⟨z, hz⟩ := dig_of (hval 3 24 (args[3]'(by omega)) rfl (by simp [hsz]))
    have hargs : args = #[enc b, enc x, enc y, enc z] := by
      apply Array.ext (by simp [hsz])
      intro i h1 h2
      have hi : i < 4 := by omega
      match i, hi with
      | 0, _ => exact hb
      | 1, _ => exact hx
      | 2, _ => exact hy
      | 3, _ => exact hz
    subst hargs
    obtain ⟨_, _, d1, ds', p1, p2, e1, e2, _, ht, _⟩ := trodAll_cons (t := 37) htr
    cases e1
    obtain ⟨l, dd, hl, hd⟩ := block_mem k1 k2 ht
    refine calls_of_ref (ρ := ρW W) (H := HW W) (n := W.heap.size) (args := [enc b, enc x, enc y, enc z]) Try.func4 rfl (by kernel_rfl) R4 (F4_ev hl hd) (ρW_below W) (HW_hr W) ⟨rfl, fun i v hv => ?_⟩
    have hi : i < 4 := (List.getElem?_eq_some_iff.1 hv).1
    match i, hi, hv with
    | 0, _, hv => cases hv; exact ⟨_, rfl, vr_block k1 k2⟩
    | 1, _, hv => cases hv; exact ⟨_, rfl, vr_dig x⟩
    | 2, _, hv => cases hv; exact ⟨_, rfl, vr_dig y⟩
    | 3, _, hv => cases hv; exact ⟨_, rfl, vr_dig z⟩

theorem blockParents_holds : Rows.BlockParentsSaid :=
  OpenClaim.holds_of_wide 4 Try.f4 rfl rfl rfl rfl rfl rfl rfl ⟨rfl, rfl, rfl, rfl, rfl⟩ rfl rfl rfl rfl rfl (by kernel_rfl) Try.func4 (by kernel_rfl)
    (of_decide_eq_true (by kernel_rfl)) (by unfold Func.isWrapper; first | (rw [if_pos (by decide +kernel)]; kernel_rfl) | (rw [if_neg (by decide +kernel)]; exact ⟨rfl, rfl⟩))
    (fun os started T en _ => blockParents_lifted os started T en)
#print axioms blockParents_holds
end Go.Proofs.Ytdnnojblneccdaa
