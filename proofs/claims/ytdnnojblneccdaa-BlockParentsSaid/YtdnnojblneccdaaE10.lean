/-
  Slicing, places, conversions; and all operations together.
-/
import Derived.Test.YtdnnojblneccdaaE9
namespace Go.Proofs.Ytdnnojblneccdaa
set_option linter.unusedSimpArgs false
set_option linter.unusedVariables false
open Go

section
variable {P : Program} {D : Ty} {K : Kinds} {ρ : Ren} {H : IHeap} {w : World} {n : Nat}

theorem bound_run {v : Value} {i d : Nat} (h : bnd (some v) d = some i) (y : Nat) (hy : i ≤ y) (code : BoundsCode) {v' : Value} (hv : VR ρ v v') : (Instr.sliceBound v' y code).run P w = .ok i w := by
  unfold bnd at h
  split at h
  · cases ‹some v = none›
  · rename_i k j e
    cases e
    split at h
    · rename_i h0
      cases h
      rw [int_inv hv]
      rw [run_sliceBound w k j y code h0 (by omega)]
    · cases h
  · cases h

inductive VRO (ρ : Ren) : Option Value → Option Value → Prop
  | none : VRO ρ none none
  | some {v w : Value} (h : VR ρ v w) : VRO ρ (some v) (some w)

theorem bounds_run {isSlice : Bool} {len cap m' : Nat} {lo hi mx lo' hi' mx' : Option Value} {l h m : Nat} (e1 : bnd lo 0 = some l) (e2 : bnd hi len = some h) (e3 : bnd mx cap = some m)
    (c1 : l ≤ h) (c2 : h ≤ m) (c3 : m ≤ m') (c4 : (hi.isSome || mx.isNone) = true) (r1 : VRO ρ lo lo') (r2 : VRO ρ hi hi') (r3 : VRO ρ mx mx') :
    (Instr.sliceBounds isSlice len m' lo' hi' mx').run P w = .ok (l, h, if mx.isSome then m else m') w := by
  cases r3 with
  | none =>
    cases r2 with
    | none =>
      cases e2
      cases r1 with
      | none => cases e1; simp [Instr.sliceBounds]
      | some q =>
        have := fun code => bound_run (P := P) (w := w) (y := len) e1 c1 code q
        simp [Instr.sliceBounds, this]
    | some p =>
      have h2 := fun code => bound_run (P := P) (w := w) (y := m') e2 (by omega) code p
      cases r1 with
      | none => cases e1; simp [Instr.sliceBounds, h2]
      | some q =>
        have := fun code => bound_run (P := P) (w := w) (y := h) e1 c1 code q
        simp [Instr.sliceBounds, this, h2]
  | some z =>
    have h3 := fun code => bound_run (P := P) (w := w) (y := m') e3 (by omega) code z
    cases r2 with
    | none => simp at c4
    | some p =>
      have h2 := fun code => bound_run (P := P) (w := w) (y := m) e2 (by omega) code p
      cases r1 with
      | none => cases e1; simp [Instr.sliceBounds, h2, h3]
      | some q =>
        have := fun code => bound_run (P := P) (w := w) (y := h) e1 c1 code q
        simp [Instr.sliceBounds, this, h2, h3]

theorem goOn_add (r off k : Nat) : goOn ⟨r, off, none⟩ k = (⟨r, off, none⟩ : Addr).add k := by
  unfold goOn Addr.add; split <;> rfl

/-- slicing a row, or an array -/
theorem ok_sliceIt {id off r κ len cap sz cap' : Nat} {sp : Option Nat} {lo hi mx lo' hi' mx' : Option Value} {v : Value} (h : sliceIt ⟨id, off, sp⟩ len cap sz lo hi mx = some v) (hr : ρ id = some (r, κ))
    (hc : (sp = none ∧ cap' = cap) ∨ (∃ s, sp = some s ∧ cap ≤ cap' ∧ off + cap' * s = κ)) (r1 : VRO ρ lo lo') (r2 : VRO ρ hi hi') (r3 : VRO ρ mx mx') (isSlice : Bool) :
    ∃ l h m : Nat, (Instr.sliceBounds isSlice len cap' lo' hi' mx').run P w = .ok (l, h, m) w ∧
      VR ρ v (.slice (some (if m = l then ⟨r, off, none⟩ else (⟨r, off, none⟩ : Addr).add (l * sz))) (h - l) (m - l)) := by
  unfold sliceIt at h
  split at h
  · rename_i l hh m e1 e2 e3
    split at h
    · rename_i hcond
      obtain ⟨c1, c2, c3, c4⟩ := hcond
      refine ⟨l, hh, if mx.isSome then m else cap', bounds_run (P := P) (w := w) (isSlice := isSlice) e1 e2 e3 c1 c2 (by rcases hc with ⟨_, rfl⟩ | ⟨_, _, h, _⟩ <;> omega) c4 r1 r2 r3, ?_⟩
      cases sp with
      | none =>
        simp only [Option.some.injEq] at h
        have hcap : cap' = cap := by
          rcases hc with ⟨_, h⟩ | ⟨s, hs, _⟩
          · exact h
          · cases hs
        subst hcap
        have hm : (if mx.isSome then m else cap') = m := by
          cases mx with
          | none => cases e3; simp
          | some x => simp
        rw [hm]
        subst h
        split
        · exact .slice off _ _ hr
        · rw [goOn_add, addr_add, addr_add]
          exact .slice _ _ _ hr
      | some s =>
        obtain ⟨c6, c7⟩ : cap ≤ cap' ∧ off + cap' * s = κ := by
          rcases hc with ⟨h, _⟩ | ⟨s', hs, c6, c7⟩
          · cases h
          · cases hs; exact ⟨c6, c7⟩
        have hgo : goOn ⟨id, off, some s⟩ (l * sz) = ⟨id, off + l * sz, some s⟩ := by unfold goOn; split <;> simp_all
        cases mx with
        | none =>
          simp only at h
          split at h
          · rename_i hc2
            obtain ⟨c5, rfl⟩ := hc2
            cases h
            simp only [Option.isSome_none, Bool.false_eq_true, if_false]
            have hm2 : cap = m := by cases e3; rfl
            rw [hgo]
            by_cases hl : cap' = l
            · have hl0 : l = 0 := by omega
              subst hl0
              rw [if_pos hl]
              rw [Nat.zero_mul, Nat.add_zero]
              exact .oslice (κ := κ) hr (by omega) (by omega) (by simpa using c7)
            · rw [if_neg hl, addr_add]
              refine .oslice hr (by omega) (by omega) ?_
              rw [← c7, Nat.add_assoc, ← Nat.add_mul]
              congr 2; omega
          · cases h
        | some x =>
          simp only at h
          split at h
          · rename_i hs
            subst hs
            cases h
            simp only [Option.isSome_some, if_true]
            split
            · exact .slice off _ _ hr
            · rw [addr_add, hgo]
              exact .slice _ _ _ hr
          · cases h
    · cases h
  · cases h

theorem foldl_push (ns : List Int) : ∀ s : ByteArray, ns.foldl (fun r n => r.push (UInt8.ofNat n.toNat)) s = ⟨s.data ++ (ns.map fun n => UInt8.ofNat n.toNat).toArray⟩ := by
  induction ns with
  | nil => intro s; apply ByteArray.ext; simp
  | cons n ns ih =>
    intro s
    simp only [List.foldl_cons, ih, List.map_cons]
    congr 1
    simp [ByteArray.data_push]

theorem ok_convert (hD : DOk P D) (hb : Below n ρ) (hh : HR ρ H w) {src dst : TypeId} {x x' : Value} {ef : Eff} (h : doConvert D H n src dst x = some ef) (hx : VR ρ x x') :
    Runs P (convert src dst x') ρ H n ef w := by
  unfold doConvert at h
  split at h
  · rename_i s d hs hd
    obtain ⟨us, s1, s2, s3⟩ := run_und hD hs w
    obtain ⟨ud, d1, d2, d3⟩ := run_und hD hd w
    split at h
    · rename_i k k2 a hk
      rw [hk] at d3; simp only [TK.fits] at d3; subst d3
      rw [int_inv hx]
      refine Runs.val hb hh h (.int _ _) ?_
      simp only [convert, Sem.run_bind, s1, d1, Result.andThen_ok]
      rfl
    · rename_i b hk
      rw [hk] at d3; simp only [TK.fits] at d3; subst d3
      rw [str_inv hx]
      refine Runs.val hb hh h (.str _) ?_
      simp only [convert, Sem.run_bind, s1, d1, Result.andThen_ok]
      cases us <;> rfl
    · rename_i el b hk
      rw [hk] at d3; simp only [TK.fits] at d3; subst d3
      simp only [Option.bind_eq_some_iff] at h
      obtain ⟨de, hde, h⟩ := h
      split at h
      · rename_i hk2
        split at h
        · rename_i hle
          cases h
          rw [str_inv hx]
          let q : Question := .appendCap b.size 0 el
          let cp := q.cut (w.tape w.drawn q)
          have hcp : b.size ≤ cp := by simp only [cp, q, Question.cut]; omega
          let w1 : World := { w with drawn := w.drawn + 1 }
          have hch : (choose q).run P w = .ok cp w1 := by simp [choose, Sem.run, Question.forced, q, cp, w1]
          let cells : Array Value := (b.data.map fun b => .int .u8 b.toNat) ++ Array.replicate (cp - b.size) (.int .u8 0)
          have hsz : cells.size = cp := by simp [cells]; have : b.data.size = b.size := rfl; omega
          let w2 : World := w1.alloc (.cells cells el)
          let w3 : World := w2.freeze ⟨w.heap.size, cells.size, none⟩ 1
          have hheap : w3.heap = w.heap.push (.cells cells el (cells.size, cells.size + 1)) := by
            simp only [w3, World.freeze, w2, w1, World.alloc]
            rw [if_neg (by omega)]
            simp only
            apply Array.ext
            · simp
            · intro i h1 h2
              simp only [Array.getElem_modify, Array.getElem_push]
              by_cases hi : i = w.heap.size
              · subst hi; simp
              · have : i < w.heap.size := by simp at h1; omega
                rw [if_neg (fun e => hi e.symm), dif_pos this, dif_pos this]
          have hrun : (convert src dst (.string b)).run P w = .ok (.slice (some ⟨w.heap.size, 0, none⟩) b.size cp) w3 := by
            have hnew : (newRow el cells).run P w1 = .ok ⟨w.heap.size, 0, none⟩ w2 := by simp [newRow, newObj]; rfl
            have hms : (markStringish ⟨w.heap.size, 0, none⟩).run P w2 = .ok () w3 := by
              have hsh : w2.shape? w.heap.size = some (el, cells.size) := by simp [World.shape?, w2, w1, World.alloc]
              simp [markStringish, shape, freeze, Sem.run, hsh, w3]
            have hcv : (Conv.stringToBytes el b).run P w = .ok (.slice (some ⟨w.heap.size, 0, none⟩) b.size cp) w3 := by
              simp only [Conv.stringToBytes, Sem.run_bind]
              have := hch; simp only [q] at this
              simp only [this, Result.andThen_ok, hnew, hms, Sem.run_pure, cells]
            have hu8 := und_int (P := P) hD hde hk2 w
            have hk3 : (do match (← underlying el) with
                | .int .u8 => Conv.stringToBytes el b
                | .int .i32 => Conv.stringToRunes el b
                | _ => stuck "Convert: string to a slice of what?" : Sem Value).run P w = .ok (.slice (some ⟨w.heap.size, 0, none⟩) b.size cp) w3 := by
              simp only [Sem.run_bind, hu8, Result.andThen_ok, hcv]
            simp only [convert, Sem.run_bind, s1, d1, Result.andThen_ok]
            rw [Sem.run_bind] at hk3
            cases us <;> exact hk3
          refine ⟨_, w3, _, hrun, Post.newRow (w := w) (w' := w3) (T := el) (fz := (cells.size, cells.size + 1)) (c' := cells) hb hh hheap ?_ rfl rfl rfl ?_ ?_ (VR.oslice (id := n) (r := w.heap.size) (κ := cells.size) (by simp [Ren.set]) hcp (Nat.le_refl _) (by omega))⟩
          · intro off ho; simp; omega
          · simp only [List.length_map, Array.length_toList]; have : b.data.size = b.size := rfl; omega
          · intro i v hv
            simp only [List.getElem?_map, Option.map_eq_some_iff, Array.getElem?_toList] at hv
            obtain ⟨c, hc, rfl⟩ := hv
            have hi := (Array.getElem?_eq_some_iff.1 hc).1
            refine ⟨.int .u8 c.toNat, ?_, .int _ _⟩
            simp only [cells]
            rw [Array.getElem?_append_left (by simpa using hi)]
            simp [hc]
        · cases h
      · cases h
    · rename_i a len cap hk
      rw [hk] at d3; simp only [TK.fits] at d3; subst d3
      split at h
      · rename_i el hks
        rw [hks] at s3; simp only [TK.fits] at s3; subst s3
        simp only [Option.bind_eq_some_iff] at h
        obtain ⟨de, hde, h⟩ := h
        split at h
        · rename_i hk2
          simp only [Option.bind_eq_some_iff] at h
          obtain ⟨xs, hxs, h⟩ := h
          split at h
          · rename_i hall
            obtain ⟨ue, e1, e2, e3⟩ := run_und hD hde w
            rw [hk2] at e3; simp only [TK.fits] at e3; subst e3
            obtain ⟨arr, a1, a2, a3, a4, a5⟩ := src_ok (P := P) (k := len) hh hxs rfl hx
            have hns : ∃ ns : List Int, xs = ns.map (Value.int .u8) := by
              clear h a5 a4 a3 hxs
              induction xs with
              | nil => exact ⟨[], rfl⟩
              | cons x xs ih =>
                simp only [List.all_cons, Bool.and_eq_true] at hall
                obtain ⟨ns, rfl⟩ := ih hall.2
                have h1 := hall.1
                split at h1
                · rename_i i; exact ⟨i :: ns, rfl⟩
                · cases h1
            obtain ⟨ns, rfl⟩ := hns
            have harr : arr = (ns.map (Value.int .u8)).toArray := by
              apply Array.ext_getElem?
              intro i
              by_cases hi : i < ns.length
              · obtain ⟨v', f1, f2⟩ := a5 i (.int .u8 ns[i]) (by simp [hi])
                rw [f1]; cases f2; simp [hi]
              · have : arr.size = ns.length := by simpa using a3
                have h1 : arr[i]? = none := Array.getElem?_eq_none (by omega)
                have h2 : ((ns.map (Value.int .u8)).toArray)[i]? = none := by
                  apply Array.getElem?_eq_none; simp; omega
                rw [h1, h2]
            refine Runs.val (v' := .string ⟨(ns.map fun n => UInt8.ofNat n.toNat).toArray⟩) hb hh h ?_ ?_
            · simp only [List.map_map, Function.comp_def]; exact .str _
            · cases hx with
              | nilSlice =>
                simp only [srcCells, Option.some.injEq] at hxs
                have : ns = [] := by simpa using hxs.symm
                subst this
                rw [run_convert_bytes_string w src dst el none 0 0 s2 e2 d2]
                simp [Conv.bytesToString]; rfl
              | slice off len cap hr =>
                rw [run_convert_bytes_string w src dst el _ _ _ s2 e2 d2]
                have hl := a2 w (fun _ => rfl)
                simp only [Builtin.firstCells, Nat.mul_one] at hl
                rw [run_bytesToString w _ _ _ ns (by rw [← harr]; exact hl), foldl_push]
                simp
              | oslice hr q1 q2 q3 =>
                rw [run_convert_bytes_string w src dst el _ _ _ s2 e2 d2]
                have hl := a2 w (fun _ => rfl)
                simp only [Builtin.firstCells, Nat.mul_one] at hl
                rw [run_bytesToString w _ _ _ ns (by rw [← harr]; exact hl), foldl_push]
                simp
          · cases h
        · cases h
      · cases h
    · cases h
  · cases h
end
end Go.Proofs.Ytdnnojblneccdaa
