/-
  A slice of open capacity is given the capacity that it has; an assignment under a condition.
-/
import Derived.Test.YtdnnojblneccdaaE33
namespace Go.Proofs.Ytdnnojblneccdaa
set_option linter.unusedSimpArgs false
set_option linter.unusedVariables false
open Go
open Enc (enc)
open Row (cel)

section
variable {P : Program} {Γ : Fns} {D : Ty} {K : Kinds} {W : Nat → Prop} {R : Option Nat} {N : Nat} {L : List (Nat × Value)} {H : IHeap} {M : Ups} {n : Nat}
theorem dense_self {k : Nat} {v : Value} (h : opd N L (.tmp k) = some v) : dense N ((k, v) :: L) = dense N L := by
  have hk := opd_tmp h
  rw [dense_get] at hk
  apply List.ext_getElem?
  intro i
  rw [dense_get, dense_get]
  by_cases hi : i = k
  · subst hi
    split
    · rename_i hl
      rw [if_pos hl] at hk
      rw [List.lookup_cons_self]
      simpa using hk.symm
    · rfl
  · have : List.lookup i ((k, v) :: L) = List.lookup i L := by
      rw [List.lookup_cons]
      have : (i == k) = false := by simpa using hi
      rw [this]
    rw [this]
/-- an assignment under a condition -/
theorem IW.condA {c x : Operand} {cs : List Code} {Q : PostX} {b : Bool} {k id ty : Nat} {v0 v1 w : Value} {pos : String} {aft : Array Edge} (hE : Env P Γ D K) (hc : opd N L c = some (.bool b)) (h0 : opd N L (.tmp k) = some v0) (h1 : opd N L x = some v1) (hw1 : b = true → w = v1) (hw0 : b = false → w = v0)
    (h : IW P W R cs Q (dense N ((k, w) :: L)) (hp H M) n) : IW P W R (.cond c (.region id #[{ dst := some k, op := .assign x, type := ty, pos := pos, after := aft, guard := none }] false) .skip :: cs) Q (dense N L) (hp H M) n := by
  refine IW.cond hc (fun hb => ?_) (fun hb => ?_)
  · refine IW.reg hE (ops := [_]) ?_
    refine vcS_val rfl rfl (ox_assign (pl h1)) ?_
    refine vcS_nil ?_
    rw [← hw1 hb]; exact h
  · refine IW.skip ?_
    rw [hw0 hb, dense_self h0] at h; exact h
theorem IW.close {cs : List Code} {Q : PostX} {id off len cap : Nat} {sp : Option Nat} (u : Nat) (hne : cs ≠ []) (hu : opd N L (.tmp u) = some (.slice (some ⟨id, off, sp⟩) len cap))
    (h : ∀ cap', cap ≤ cap' → IW P W R cs Q (dense N ((u, .slice (some ⟨id, off, none⟩) len cap') :: L)) (hp H M) n) : IW P W R cs Q (dense N L) (hp H M) n := by
  cases cs with
  | nil => exact (hne rfl).elim
  | cons c cs =>
    intro ρ0 w0 m0 ρ a w hs
    obtain ⟨y, hy, hv⟩ := hs.tr.val u _ (opd_tmp hu)
    have main : ∃ cap', cap ≤ cap' ∧ VR ρ (.slice (some ⟨id, off, none⟩) len cap') y := by
      cases hv with
      | slice off len cap h => exact ⟨cap, Nat.le_refl _, .slice _ _ _ h⟩
      | oslice h hc hl hk => exact ⟨_, hc, .slice _ _ _ h⟩
    obtain ⟨cap', hc, hv'⟩ := main
    refine h cap' hc ρ0 w0 m0 ρ a w { hs with tr := ⟨?_, ?_, hs.tr.defers⟩ }
    · rw [hs.tr.size, dense_length, dense_length]
    · intro i x hx
      by_cases hi : i = u
      · subst hi
        rw [dense_get] at hx
        split at hx
        · rw [List.lookup_cons_self] at hx
          cases hx
          exact ⟨y, hy, hv'⟩
        · cases hx
      · refine hs.tr.val i x ?_
        rw [dense_get] at hx ⊢
        rw [List.lookup_cons] at hx
        have : (i == u) = false := by simpa using hi
        rw [this] at hx; exact hx
/-! lists -/
theorem rdC_one {α : Type} [Row α] {id cap : Nat} {sp : Option Nat} {ro : Bool} {x : α} (hH : H id = some (.cells (cel x) ro)) : rdC H (.slice (some ⟨id, 0, sp⟩) 1 cap) = some [x] := by
  refine rdC_all (ro := ro) ?_ rfl
  rw [hH, cels_cons, cels_nil, List.append_nil]
theorem rdC_u8 {id len cap : Nat} {sp : Option Nat} {ro : Bool} {l : List UInt8} (hH : H id = some (.cells (encs l) ro)) (hl : l.length = len) : rdC H (.slice (some ⟨id, 0, sp⟩) len cap) = some l := by
  refine rdC_all (ro := ro) ?_ hl
  rw [hH, cels_u8]
theorem rd_cellD {α : Type} [Row α] {d : TD} {c : List Value} {off i j : Nat} {l : List α} {z : α} (hl : (c.drop off).take (l.length * Row.sz α) = cels l) (h : i < l.length) (hk : d.k.isAgg = true) (hs : d.size = Row.sz α) (hj : j = off + i * Row.sz α) (he : enc (l.getD i z) = .agg (cel (l.getD i z)).toArray) : rdVar d c j = some (enc (l.getD i z)) := by
  obtain ⟨A, C, hc, hA⟩ := cels_at hl h
  have e : l.getD i z = l[i] := by simp [h]
  rw [e] at he ⊢
  rw [he]
  exact rd_part hk hc (by rw [hA, hj]) (by rw [hs]; exact Row.len _)
theorem si_conv {e : Operand → Value} {s t : TypeId} {x : Operand} {id off len cap : Nat} {sp : Option Nat} (ha : e x = .slice (some ⟨id, off, sp⟩) len cap) : seesIds e (.convert s t x) = [id] := by simp only [seesIds, ha, blk]
end
end Go.Proofs.Ytdnnojblneccdaa
