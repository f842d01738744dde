/-
  Each operation of the model does what its function on ideal memory says: loads, stores, places, new blocks, numbers.
-/
import Derived.Test.YtdnnojblneccdaaE2
namespace Go.Proofs.Ytdnnojblneccdaa
set_option linter.unusedSimpArgs false
set_option linter.unusedVariables false
open Go

section
variable {P : Program} {D : Ty} {ρ : Ren} {H : IHeap} {w : World} {n : Nat}

theorem Runs.val (hb : Below n ρ) (hh : HR ρ H w) {s : Sem Value} {v v' : Value} {e : Eff} (he : val n v = some e) (hv : VR ρ v v') (hs : s.run P w = .ok v' w) : Runs P s ρ H n e w := by
  cases he
  exact ⟨v', w, ρ, hs, Post.pure hb hh hv⟩

theorem ptr_inv {id off : Nat} {x : Value} (h : VR ρ (.pointer (some ⟨id, off, none⟩)) x) : ∃ r κ, ρ id = some (r, κ) ∧ x = .pointer (some ⟨r, off, none⟩) := by
  cases h with | ptr _ h => exact ⟨_, _, h, rfl⟩
theorem int_inv {k : IntKind} {i : Int} {x : Value} (h : VR ρ (.int k i) x) : x = .int k i := by cases h; rfl
theorem bool_inv {b : Bool} {x : Value} (h : VR ρ (.bool b) x) : x = .bool b := by cases h; rfl
theorem str_inv {s : ByteArray} {x : Value} (h : VR ρ (.string s) x) : x = .string s := by cases h; rfl

theorem ok_load (hD : DOk P D) (hb : Below n ρ) (hh : HR ρ H w) {t : TypeId} {x x' : Value} {ef : Eff} (h : doLoad D H n t x = some ef) (hx : VR ρ x x') :
    Runs P (Instr.loadAt t x') ρ H n ef w := by
  unfold doLoad at h
  split at h
  · rename_i id off
    simp only [Option.bind_eq_some_iff] at h
    obtain ⟨d, hd, h⟩ := h
    split at h
    · rename_i c ro ho
      simp only [Option.bind_eq_some_iff] at h
      obtain ⟨v, hv, he⟩ := h
      obtain ⟨r, κ, h1, rfl⟩ := ptr_inv hx
      obtain ⟨v', e1, e2⟩ := run_rdVar hD hh ho hd hv hx
      exact Runs.val hb hh he e2 (by simp [Instr.loadAt, Instr.sureAddr, e1])
    · cases h
  · cases h

theorem ok_store (hD : DOk P D) (hb : Below n ρ) (hh : HR ρ H w) {t : TypeId} {x x' y y' : Value} {ef : Eff} (h : doStore D H n t y x = some ef) (hx : VR ρ x x') (hy : VR ρ y y') :
    ∃ w' ρ', (Instr.storeAt t x' y').run P w = .ok () w' ∧ Post ρ H n ef undef ρ' w w' := by
  unfold doStore at h
  split at h
  · rename_i id off
    simp only [Option.bind_eq_some_iff] at h
    obtain ⟨d, hd, h⟩ := h
    split at h
    · rename_i c ho
      simp only [Option.bind_eq_some_iff] at h
      obtain ⟨vs, hvs, h⟩ := h
      split at h
      · rename_i hc
        obtain ⟨c1, c2, c3⟩ := hc
        cases h
        obtain ⟨r, κ, h1, rfl⟩ := ptr_inv hx
        obtain ⟨r', κ', c', T, fz, g1, g2, g3, g4, g5, g6⟩ := hh.row ho
        rw [h1] at g1; cases g1
        obtain ⟨z1, z2⟩ := hy.cells hvs
        have hone : ∀ v ∈ y'.cells.toList, known v = true := by
          intro v hv
          obtain ⟨i, hi⟩ := List.getElem?_of_mem hv
          have hlt : i < vs.length := by
            have : i < y'.cells.toList.length := (List.getElem?_eq_some_iff.1 hi).1
            simp at this; omega
          obtain ⟨y2, e1, e2⟩ := z2 i vs[i] (by simp)
          have : v = y2 := by
            have hi' : y'.cells[i]? = some v := by simpa using hi
            rw [hi'] at e1; cases e1; rfl
          subst this
          exact e2.known ((List.all_eq_true.1 c3) _ (List.getElem_mem _))
        obtain ⟨w', c'', e1, e2, e3, e4, e5, e6, e7, e8, e9⟩ := run_storeCells_row (P := P) y'.cells.toList 0 w r off c' T fz g2 (by rw [g3]; exact g5 rfl) (by simp; omega) hone
        refine ⟨w', ρ, ?_, ?_⟩
        · simp [Instr.storeAt, Instr.sureAddr, storeVar, run_size hD hd, z1, c1, e1]
        · refine Post.store hb hh ho h1 (T := T) (fz := fz) (g5 rfl) e2 (by rw [e3, g3]) ?_ ?_ e5 e6 e7 e8 e9 (.unk _)
          · rw [wrCells_eq _ _ _ (by omega), length_splice _ _ _ (by omega)]; exact g4
          · intro i v hv
            rw [wrCells_eq _ _ _ (by omega), getElem?_splice _ _ _ (by omega)] at hv
            rw [e4 i]
            simp only [Nat.add_zero, Array.length_toList, z1]
            split at hv
            · rename_i hc; rw [if_pos hc]
              obtain ⟨y2, a, b⟩ := z2 _ _ hv
              exact ⟨y2, by simpa using a, b⟩
            · rename_i hc; rw [if_neg hc]
              exact g6 i v hv
      · cases h
    · cases h
  · cases h

/-- a new row out of related cells -/
theorem ok_newRow (hb : Below n ρ) (hh : HR ρ H w) {c : List Value} {c' : Array Value} (T : TypeId) (hs : c.length = c'.size)
    (hc : ∀ (i : Nat) v, c[i]? = some v → ∃ v', c'[i]? = some v' ∧ VR ρ v v') :
    (newRow T c').run P w = .ok ⟨w.heap.size, 0, none⟩ (w.alloc (.cells c' T)) ∧
      ∀ v v', VR (ρ.set n w.heap.size c'.size) v v' → Post ρ H n ⟨v, [(n, some (.cells c false))], n + 1⟩ v' (ρ.set n w.heap.size c'.size) w (w.alloc (.cells c' T)) :=
  ⟨by simp [newRow, newObj]; rfl, fun _ _ hv => Post.alloc hb hh (Nat.le_of_eq hs) hc hv⟩

theorem clo_list {l : List Value} (h : l.all clo1 = true) (ρ : Ren) (i : Nat) (v : Value) (hv : l[i]? = some v) : VR ρ v v :=
  VR.clo1 ρ ((List.all_eq_true.1 h) v (List.mem_of_getElem? hv))

theorem ok_alloc (hD : DOk P D) (hb : Below n ρ) (hh : HR ρ H w) {t : TypeId} {ef : Eff} (h : ((D t).bind fun d => new n d.zero (.pointer (some ⟨n, 0, none⟩))) = some ef) :
    Runs P (Instr.alloc t true (.tuple #[])) ρ H n ef w := by
  simp only [Option.bind_eq_some_iff] at h
  obtain ⟨d, hd, h⟩ := h
  cases h
  obtain ⟨z, h1, h2, h3, h4⟩ := run_zero hD hd w
  obtain ⟨e1, e2⟩ := ok_newRow (P := P) (c := d.zero) (c' := z.cells) (T := t) hb hh (by rw [← h2]; simp) (by
    intro i v hv
    rw [← h2] at hv
    exact ⟨v, by simpa using hv, clo_list h3 ρ i v hv⟩)
  exact ⟨.pointer (some ⟨w.heap.size, 0, none⟩), _, _, by simp [Instr.alloc, h1, newVar, e1], e2 _ _ (.ptr 0 (κ := z.cells.size) (by simp [Ren.set]))⟩

theorem ok_box (hb : Below n ρ) (hh : HR ρ H w) {t : TypeId} {x x' : Value} {ef : Eff} (h : ((cellsOf x).bind fun cs => new n cs (.pointer (some ⟨n, 0, none⟩))) = some ef) (hx : VR ρ x x') :
    Runs P (Instr.box t x') ρ H n ef w := by
  simp only [Option.bind_eq_some_iff] at h
  obtain ⟨cs, hcs, h⟩ := h
  cases h
  obtain ⟨z1, z2⟩ := hx.cells hcs
  obtain ⟨e1, e2⟩ := ok_newRow (P := P) (c := cs) (c' := x'.cells) (T := t) hb hh z1.symm z2
  exact ⟨.pointer (some ⟨w.heap.size, 0, none⟩), _, _, by simp [Instr.box, newVar, e1], e2 _ _ (.ptr 0 (κ := x'.cells.size) (by simp [Ren.set]))⟩

/-- parts put into cells -/
theorem fill_ok {place : Nat → Option (Nat × Nat)} : ∀ (parts : List (Nat × Value)) (parts' : List (Nat × Value)) (c out : List Value) (c' : Array Value),
    fillIn place c parts = some out → parts.length = parts'.length → (∀ (j : Nat) p q, parts[j]? = some p → parts'[j]? = some q → p.1 = q.1 ∧ VR ρ p.2 q.2) →
    c.length = c'.size → (∀ (i : Nat) v, c[i]? = some v → ∃ v', c'[i]? = some v' ∧ VR ρ v v') →
    ∃ out', Instr.fill place c' parts' = some out' ∧ out.length = out'.size ∧ ∀ (i : Nat) v, out[i]? = some v → ∃ v', out'[i]? = some v' ∧ VR ρ v v'
  | [], [], c, out, c', h, _, _, hs, hc => by
    simp only [fillIn, Option.some.injEq] at h; subst h
    exact ⟨c', rfl, hs, hc⟩
  | [], _ :: _, _, _, _, _, h, _, _, _ => by simp at h
  | _ :: _, [], _, _, _, _, h, _, _, _ => by simp at h
  | (i, v) :: parts, (i', v') :: parts', c, out, c', h, hl, hp, hs, hc => by
    obtain ⟨hi, hv⟩ := hp 0 (i, v) (i', v') rfl rfl
    simp only at hi hv
    subst hi
    simp only [fillIn] at h
    split at h
    · rename_i off size vs e1 e2
      split at h
      · rename_i hcond
        obtain ⟨z1, z2⟩ := hv.cells e2
        have hfold : ∀ (l : List Value) (k : Nat) (a : Array Value), off + k + l.length ≤ a.size →
            ((l.zipIdx k).foldl (fun cs (p : Value × Nat) => cs.setIfInBounds (off + p.2) p.1) a).size = a.size ∧
            ∀ j : Nat, ((l.zipIdx k).foldl (fun cs (p : Value × Nat) => cs.setIfInBounds (off + p.2) p.1) a)[j]? = if off + k ≤ j ∧ j < off + k + l.length then l[j - (off + k)]? else a[j]? := by
          intro l
          induction l with
          | nil => intro k a _; refine ⟨by simp, fun j => ?_⟩; rw [if_neg (by simp only [List.length_nil]; omega)]; simp
          | cons x l ih =>
            intro k a hle
            have hle' : off + k + (l.length + 1) ≤ a.size := by simpa using hle
            have hz : ((x :: l).zipIdx k).foldl (fun cs (p : Value × Nat) => cs.setIfInBounds (off + p.2) p.1) a =
                (l.zipIdx (k + 1)).foldl (fun cs (p : Value × Nat) => cs.setIfInBounds (off + p.2) p.1) (a.setIfInBounds (off + k) x) := by
              simp [List.zipIdx_cons]
            obtain ⟨s1, s2⟩ := ih (k + 1) (a.setIfInBounds (off + k) x) (by simp; omega)
            rw [hz]
            refine ⟨by simpa using s1, fun j => ?_⟩
            rw [s2 j]
            by_cases hj : off + (k + 1) ≤ j ∧ j < off + (k + 1) + l.length
            · rw [if_pos hj, if_pos (by simp; omega), show j - (off + k) = (j - (off + (k + 1))) + 1 from by omega, List.getElem?_cons_succ]
            · rw [if_neg hj, Array.getElem?_setIfInBounds]
              by_cases hji : off + k = j
              · rw [if_pos hji, if_pos (by omega), if_pos (by simp; omega), show j - (off + k) = 0 from by omega]; rfl
              · rw [if_neg hji, if_neg (by simp; omega)]
        obtain ⟨s1, s2⟩ := hfold v'.cells.toList 0 c' (by simp; omega)
        have hsz : v'.cells.size = size := by omega
        obtain ⟨out', g1, g2, g3⟩ := fill_ok parts parts' (wrCells c off vs) out ((v'.cells.toList.zipIdx 0).foldl (fun cs (p : Value × Nat) => cs.setIfInBounds (off + p.2) p.1) c') h (by simpa using hl)
          (fun j p q hj hq => hp (j + 1) p q (by simpa using hj) (by simpa using hq))
          (by rw [s1, wrCells_eq _ _ _ (by omega), length_splice _ _ _ (by omega)]; exact hs)
          (by
            intro j x hx
            rw [wrCells_eq _ _ _ (by omega), getElem?_splice _ _ _ (by omega)] at hx
            rw [s2 j]
            simp only [Nat.add_zero, Array.length_toList, z1]
            split at hx
            · rename_i hc2; rw [if_pos hc2]
              obtain ⟨y2, a, b⟩ := z2 _ _ hx
              exact ⟨y2, by simpa using a, b⟩
            · rename_i hc2; rw [if_neg hc2]
              exact hc j x hx)
        refine ⟨out', ?_, g2, g3⟩
        simp only [Instr.fill, e1]
        rw [if_neg (by simp only [ne_eq, decide_not, Bool.or_eq_true, Bool.not_eq_true', decide_eq_false_iff_not, decide_eq_true_eq, not_or, Decidable.not_not]; exact ⟨by omega, by omega⟩)]
        rw [← Array.foldl_toList, Array.toList_zipIdx]
        exact g1
      · cases h
    · cases h
end
end Go.Proofs.Ytdnnojblneccdaa
