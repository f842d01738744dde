/-
  Each operation of the model does what its function on ideal memory says: structs, arrays, slices, numbers, conversions.
-/
import Derived.Test.YtdnnojblneccdaaE3
namespace Go.Proofs.Ytdnnojblneccdaa
set_option linter.unusedSimpArgs false
set_option linter.unusedVariables false
open Go

section
variable {P : Program} {D : Ty} {ρ : Ren} {H : IHeap} {w : World} {n : Nat}

theorem und_struct (hD : DOk P D) {t : TypeId} {d : TD} {fs : List (Nat × Nat)} (hd : D t = some d) (hk : d.k = .struct fs) (w : World) :
    ∃ a : Array Field, P.underlying t = some (.struct a) ∧ (underlying t).run P w = .ok (.struct a) w ∧ a.toList.map (fun f => (f.offset, f.type)) = fs := by
  obtain ⟨u, h1, h2, h3⟩ := run_und hD hd w
  rw [hk] at h3
  obtain ⟨a, rfl, h4⟩ := h3
  exact ⟨a, h2, h1, h4⟩
theorem und_arr (hD : DOk P D) {t : TypeId} {d : TD} {k e : Nat} (hd : D t = some d) (hk : d.k = .arr k e) (w : World) : (underlying t).run P w = .ok (.array k e) w := by
  obtain ⟨u, h1, h2, h3⟩ := run_und hD hd w
  rw [hk] at h3; simp only [TK.fits] at h3; subst h3; exact h1
theorem und_slice (hD : DOk P D) {t : TypeId} {d : TD} {e : Nat} (hd : D t = some d) (hk : d.k = .slice e) (w : World) : (underlying t).run P w = .ok (.slice e) w := by
  obtain ⟨u, h1, h2, h3⟩ := run_und hD hd w
  rw [hk] at h3; simp only [TK.fits] at h3; subst h3; exact h1
theorem und_map (hD : DOk P D) {t : TypeId} {d : TD} {k e : Nat} (hd : D t = some d) (hk : d.k = .map k e) (w : World) : (underlying t).run P w = .ok (.map k e) w := by
  obtain ⟨u, h1, h2, h3⟩ := run_und hD hd w
  rw [hk] at h3; simp only [TK.fits] at h3; subst h3; exact h1
theorem und_ptr (hD : DOk P D) {t : TypeId} {d : TD} {e : Nat} (hd : D t = some d) (hk : d.k = .ptr e) (w : World) : (underlying t).run P w = .ok (.pointer e) w := by
  obtain ⟨u, h1, h2, h3⟩ := run_und hD hd w
  rw [hk] at h3; simp only [TK.fits] at h3; subst h3; exact h1
theorem und_str (hD : DOk P D) {t : TypeId} {d : TD} (hd : D t = some d) (hk : d.k = .str) (w : World) : (underlying t).run P w = .ok .string w := by
  obtain ⟨u, h1, h2, h3⟩ := run_und hD hd w
  rw [hk] at h3; simp only [TK.fits] at h3; subst h3; exact h1
theorem und_int (hD : DOk P D) {t : TypeId} {d : TD} {k : IntKind} (hd : D t = some d) (hk : d.k = .int k) (w : World) : (underlying t).run P w = .ok (.int k) w := by
  obtain ⟨u, h1, h2, h3⟩ := run_und hD hd w
  rw [hk] at h3; simp only [TK.fits] at h3; subst h3; exact h1
theorem und_bool (hD : DOk P D) {t : TypeId} {d : TD} (hd : D t = some d) (hk : d.k = .bool) (w : World) : (underlying t).run P w = .ok .bool w := by
  obtain ⟨u, h1, h2, h3⟩ := run_und hD hd w
  rw [hk] at h3; simp only [TK.fits] at h3; subst h3; exact h1

theorem rel_fill {e e' : Operand → Value} {parts : Array (Nat × Operand)} (hv : ∀ x ∈ parts.toList.map (·.2), VR ρ (e x) (e' x)) :
    (parts.toList.map fun p => (p.1, e p.2)).length = (parts.map fun (i, x) => (i, e' x)).toList.length ∧
    ∀ (j : Nat) p q, (parts.toList.map fun p => (p.1, e p.2))[j]? = some p → (parts.map fun (i, x) => (i, e' x)).toList[j]? = some q → p.1 = q.1 ∧ VR ρ p.2 q.2 := by
  refine ⟨by simp, fun j p q hp hq => ?_⟩
  simp only [List.getElem?_map, Option.map_eq_some_iff, Array.getElem?_toList] at hp
  obtain ⟨⟨i, x⟩, hi, rfl⟩ := hp
  simp only [Array.toList_map, List.getElem?_map, Array.getElem?_toList, hi, Option.map_some, Option.some.injEq] at hq
  subst hq
  exact ⟨rfl, hv x (List.mem_map.2 ⟨(i, x), List.mem_of_getElem? (by simpa using hi), rfl⟩)⟩

theorem run_places (hD : DOk P D) : ∀ (l : List Field) (w : World) (_ : ∀ f ∈ l, (D f.type).isSome),
    ∃ ps : List (Nat × Nat), (l.mapM fun (f : Field) => (do pure (f.offset, ← sizeOf f.type) : Sem (Nat × Nat))).run P w = .ok ps w ∧ ps = l.map fun f => (f.offset, ((D f.type).map (·.size)).getD 0)
  | [], w, _ => ⟨[], by simp, rfl⟩
  | f :: l, w, h => by
    obtain ⟨ps, h1, h2⟩ := run_places hD l w (fun g hg => h g (List.mem_cons_of_mem _ hg))
    obtain ⟨d, hd⟩ := Option.isSome_iff_exists.1 (h f List.mem_cons_self)
    exact ⟨(f.offset, d.size) :: ps, by simp only [List.mapM_cons, Sem.run_bind, run_size hD hd, Result.andThen_ok, Sem.run_pure, h1], by simp [h2, hd]⟩

/-- all fields' types are known -/
def fieldsKnown (D : Ty) (t : TypeId) : Bool := match D t with | some d => (match d.k with | .struct fs => fs.all fun f => (D f.2).isSome | _ => true) | none => true

theorem ok_build (hD : DOk P D) (hF : ∀ t, fieldsKnown D t = true) (hb : Below n ρ) (hh : HR ρ H w) {t : TypeId} {e e' : Operand → Value} {parts : Array (Nat × Operand)} {ef : Eff}
    (hp : iop D (fun _ => none) e H n (.build t parts) = some ef) (hv : ∀ x ∈ parts.toList.map (·.2), VR ρ (e x) (e' x)) :
    Runs P (Instr.build t (parts.map fun (i, x) => (i, e' x))) ρ H n ef w := by
  simp only [iop, Option.bind_eq_some_iff] at hp
  obtain ⟨d, hd, hp⟩ := hp
  obtain ⟨z, h1, h2, h3, h4⟩ := run_zero hD hd w
  obtain ⟨f1, f2⟩ := rel_fill (ρ := ρ) hv
  split at hp
  · rename_i fs hk
    simp only [Option.bind_eq_some_iff] at hp
    obtain ⟨cs, hcs, he⟩ := hp
    obtain ⟨a, u1, u2, u3⟩ := und_struct hD hd hk w
    have hall : ∀ f ∈ a.toList, (D f.type).isSome := by
      intro f hf
      have := hF t
      simp only [fieldsKnown, hd, hk, ← u3, List.all_map, List.all_eq_true, Function.comp] at this
      exact this f hf
    obtain ⟨ps, p1, p2⟩ := run_places hD a.toList w hall
    have hps : (a.mapM fun (f : Field) => (do pure (f.offset, ← sizeOf f.type) : Sem (Nat × Nat))).run P w = .ok ps.toArray w := by
      rw [Array.mapM_eq_mapM_toList]
      simp only [Sem.run_map, p1]; rfl
    obtain ⟨out', g1, g2, g3⟩ := fill_ok (ρ := ρ) (place := fun (i : Nat) => fs[i]?.bind fun (f : Nat × Nat) => (D f.2).map fun df => (f.1, df.size)) _ (parts.map fun (i, x) => (i, e' x)).toList d.zero cs z.cells hcs f1 f2
      (by rw [← h2]; simp) (by intro i v hv; rw [← h2] at hv; exact ⟨v, by simpa using hv, clo_list h3 ρ i v hv⟩)
    have hpl : (fun i => ps.toArray[i]?) = fun (i : Nat) => fs[i]?.bind fun (f : Nat × Nat) => (D f.2).map fun df => (f.1, df.size) := by
      funext i
      rw [p2, ← u3]
      simp only [List.getElem?_toArray, List.getElem?_map]
      cases ha : a.toList[i]? with
      | none => simp
      | some f =>
        obtain ⟨df, hdf⟩ := Option.isSome_iff_exists.1 (hall f (List.mem_of_getElem? ha))
        simp [hdf]
    refine Runs.val (v' := .agg out') hb hh he (.agg (by simpa using g2) fun i x y hx hy => ?_) ?_
    · obtain ⟨y', q1, q2⟩ := g3 i x (by simpa using hx)
      rw [hy] at q1; cases q1; exact q2
    · rw [← hpl] at g1
      simp only [Instr.build, Sem.run_bind, h1, Result.andThen_ok, u2, hps]
      simp only [g1]; rfl
  · rename_i len el hk
    simp only [Option.bind_eq_some_iff] at hp
    obtain ⟨de, hde, cs, hcs, he⟩ := hp
    obtain ⟨out', g1, g2, g3⟩ := fill_ok (ρ := ρ) (place := fun i => some (i * de.size, de.size)) _ (parts.map fun (i, x) => (i, e' x)).toList d.zero cs z.cells hcs f1 f2
      (by rw [← h2]; simp) (by intro i v hv; rw [← h2] at hv; exact ⟨v, by simpa using hv, clo_list h3 ρ i v hv⟩)
    refine Runs.val (v' := .agg out') hb hh he (.agg (by simpa using g2) fun i x y hx hy => ?_) ?_
    · obtain ⟨y', q1, q2⟩ := g3 i x (by simpa using hx)
      rw [hy] at q1; cases q1; exact q2
    · simp only [Instr.build, Sem.run_bind, h1, Result.andThen_ok, und_arr hD hd hk, run_size hD hde]
      simp only [g1]; rfl
  · cases hp

theorem zeros_eq (z : Array Value) (k : Nat) : ((Array.range (k * z.size)).map (fun i => z[i % z.size]!)).toList = (List.replicate k z.toList).flatten := by
  rcases Nat.eq_zero_or_pos z.size with h0 | h0
  · have : z = #[] := Array.eq_empty_of_size_eq_zero h0
    subst this; simp
  refine List.ext_getElem (by simp) fun i h1 h2 => ?_
  have hi : i < k * z.size := by simpa using h1
  simp only [Array.toList_map, Array.toList_range, List.getElem_map, List.getElem_range]
  have key : ∀ (k i : Nat) (hi : i < (List.replicate k z.toList).flatten.length), ((List.replicate k z.toList).flatten)[i]? = z.toList[i % z.size]? := by
    intro k
    induction k with
    | zero => intro i hi; simp at hi
    | succ k ih =>
      intro i hi
      simp only [List.replicate_succ, List.flatten_cons] at hi ⊢
      by_cases hlt : i < z.size
      · rw [List.getElem?_append_left (by simpa using hlt), Nat.mod_eq_of_lt hlt]
      · rw [List.getElem?_append_right (by simp; omega)]
        rw [ih (i - z.toList.length) (by simp at hi ⊢; omega)]
        congr 1
        simp only [Array.length_toList]
        exact (Nat.mod_eq_sub_mod (by omega)).symm
  have hm : i % z.size < z.size := Nat.mod_lt _ h0
  have e := key k i h2
  rw [List.getElem?_eq_getElem h2] at e
  simp only [Array.getElem?_toList, Array.getElem?_eq_getElem hm, Option.some.injEq] at e
  rw [e, getElem!_pos z (i % z.size) hm]

theorem mem_rep {z : List Value} (hz : z.all clo1 = true) (k : Nat) : ((List.replicate k z).flatten).all clo1 = true := by
  simp only [List.all_eq_true, List.mem_flatten, List.mem_replicate] at hz ⊢
  rintro x ⟨l, ⟨_, rfl⟩, hx⟩
  exact hz x hx

theorem zeroRow (hD : DOk P D) {el : TypeId} {de : TD} (hde : D el = some de) (k : Nat) (w : World) :
    ∃ z : Value, (zeroValue el).run P w = .ok z w ∧ ((Array.range (k * de.size)).map (fun i => z.cells[i % z.cells.size]!)).toList = (List.replicate k de.zero).flatten ∧
      (k * de.size = 0 → (List.replicate k de.zero).flatten = []) ∧ de.zero.all clo1 = true := by
  obtain ⟨z, h1, h2, h3, h4⟩ := run_zero hD hde w
  have hlen : de.zero.length = de.size := (hD _ _ hde).zlen
  have hz : z.cells.size = de.size := by rw [← hlen, ← h2]; simp
  refine ⟨z, h1, ?_, ?_, by rw [← h2]; exact h3⟩
  · rw [← hz, zeros_eq, h2]
  · intro hk
    rcases Nat.mul_eq_zero.1 hk with h | h
    · subst h; simp
    · have : de.zero = [] := List.eq_nil_of_length_eq_zero (hlen.trans h)
      rw [this]; simp

theorem ok_buildSlice (hD : DOk P D) (hb : Below n ρ) (hh : HR ρ H w) {t : TypeId} {len : Nat} {e e' : Operand → Value} {parts : Array (Nat × Operand)} {ef : Eff}
    (hp : iop D (fun _ => none) e H n (.buildSlice t len parts) = some ef) (hv : ∀ x ∈ parts.toList.map (·.2), VR ρ (e x) (e' x)) :
    Runs P (Instr.buildSlice t len (parts.map fun (i, x) => (i, e' x))) ρ H n ef w := by
  simp only [iop, Option.bind_eq_some_iff] at hp
  obtain ⟨d, hd, hp⟩ := hp
  obtain ⟨f1, f2⟩ := rel_fill (ρ := ρ) hv
  split at hp
  · rename_i el hk
    simp only [Option.bind_eq_some_iff] at hp
    obtain ⟨de, hde, hp⟩ := hp
    split at hp
    · rename_i hle
      simp only [Option.bind_eq_some_iff] at hp
      obtain ⟨cs, hcs, he⟩ := hp
      cases he
      obtain ⟨z, r1, r2, r3, r4⟩ := zeroRow (P := P) hD hde len w
      by_cases hz : len * de.size = 0
      · obtain ⟨out', g1, g2, g3⟩ := fill_ok (ρ := ρ) (place := fun i => some (i * de.size, de.size)) _ (parts.map fun (i, x) => (i, e' x)).toList _ cs #[] hcs f1 f2
          (by rw [r3 hz]; rfl) (by intro i v hv; rw [r3 hz] at hv; simp at hv)
        obtain ⟨e1, e2⟩ := ok_newRow (P := P) (T := el) hb hh g2 g3
        refine ⟨.slice (some ⟨w.heap.size, 0, none⟩) len len, _, _, ?_, e2 _ _ (.slice 0 len len (κ := out'.size) (by simp [Ren.set]))⟩
        simp only [Instr.buildSlice, Sem.run_bind, und_slice hD hd hk, Result.andThen_ok, run_size hD hde]
        rw [if_neg (by omega), if_pos hz]
        simp only [Sem.run_bind, Result.andThen_ok, Sem.run_pure, hz]
        have : (Array.range 0).map (fun x => (#[] : Array Value)[x % (#[] : Array Value).size]!) = #[] := by simp
        rw [this]
        simp only [g1, Sem.run_bind, e1, Result.andThen_ok]; rfl
      · obtain ⟨out', g1, g2, g3⟩ := fill_ok (ρ := ρ) (place := fun i => some (i * de.size, de.size)) _ (parts.map fun (i, x) => (i, e' x)).toList _ cs
          ((Array.range (len * de.size)).map (fun i => z.cells[i % z.cells.size]!)) hcs f1 f2
          (by rw [← r2]; simp) (by intro i v hv; exact ⟨v, by rw [← r2, Array.getElem?_toList] at hv; exact hv, clo_list (mem_rep r4 len) ρ i v hv⟩)
        obtain ⟨e1, e2⟩ := ok_newRow (P := P) (T := el) hb hh g2 g3
        refine ⟨.slice (some ⟨w.heap.size, 0, none⟩) len len, _, _, ?_, e2 _ _ (.slice 0 len len (κ := out'.size) (by simp [Ren.set]))⟩
        simp only [Instr.buildSlice, Sem.run_bind, und_slice hD hd hk, Result.andThen_ok, run_size hD hde]
        rw [if_neg (by omega), if_neg hz]
        simp only [Sem.run_bind, r1, Result.andThen_ok, Sem.run_pure]
        simp only [g1, Sem.run_bind, e1, Result.andThen_ok]; rfl
    · cases hp
  · cases hp

theorem part_run (hD : DOk P D) {ft : TypeId} {df : TD} (hd : D ft = some df) {a b : Array Value} (hs : a.size = b.size) (hr : ∀ (i : Nat) x y, a[i]? = some x → b[i]? = some y → VR ρ x y) {off : Nat} {v : Value}
    (hv : rdVar df a.toList off = some v) (w : World) : ∃ v', (part ft b off).run P w = .ok v' w ∧ VR ρ v v' := by
  unfold rdVar at hv
  cases hg : df.k.isAgg with
  | true =>
    simp only [hg, if_true] at hv
    split at hv
    · rename_i hle
      cases hv
      refine ⟨.agg (b.extract off (off + df.size)), by simp [part, run_isAgg hD hd, hg, run_size hD hd], .agg (by simp at hle ⊢; omega) fun i x y hx hy => ?_⟩
      simp only [List.getElem?_toArray, List.getElem?_take, List.getElem?_drop, Array.getElem?_toList] at hx
      simp only [Array.getElem?_extract] at hy
      split at hx
      · split at hy
        · exact hr _ _ _ hx hy
        · cases hy
      · cases hx
    · cases hv
  | false =>
    simp only [hg, Bool.false_eq_true, if_false, Array.getElem?_toList] at hv
    have hlt : off < a.size := by
      rcases Nat.lt_or_ge off a.size with h | h
      · exact h
      · rw [Array.getElem?_eq_none h] at hv; cases hv
    have hb : b[off]? = some b[off] := by simp
    exact ⟨b[off], by simp [part, run_isAgg hD hd, hg, hb], hr _ _ _ hv hb⟩

theorem field_at (hD : DOk P D) {t : TypeId} {f o ft : Nat} (h : doField D t f = some (o, ft)) (w : World) :
    ∃ (a : Array Field) (g : Field), (underlying t).run P w = .ok (.struct a) w ∧ a[f]? = some g ∧ g.offset = o ∧ g.type = ft := by
  simp only [doField, Option.bind_eq_some_iff] at h
  obtain ⟨d, hd, h⟩ := h
  split at h
  · rename_i fs hk
    obtain ⟨a, u1, u2, u3⟩ := und_struct hD hd hk w
    rw [← u3] at h
    simp only [List.getElem?_map, Option.map_eq_some_iff, Array.getElem?_toList] at h
    obtain ⟨g, hg, e⟩ := h
    cases e
    exact ⟨a, g, u2, hg, rfl, rfl⟩
  · cases h

theorem agg_inv {a : Array Value} {x : Value} (h : VR ρ (.agg a) x) : ∃ b, x = .agg b ∧ a.size = b.size ∧ ∀ (i : Nat) x y, a[i]? = some x → b[i]? = some y → VR ρ x y := by
  cases h with | agg hs h => exact ⟨_, rfl, hs, h⟩

theorem ok_fieldAddr (hD : DOk P D) (hb : Below n ρ) (hh : HR ρ H w) {t : TypeId} {f : Nat} {x x' : Value} {ef : Eff}
    (h : (match x, doField D t f with
      | .pointer (some ⟨id, off, none⟩), some (o, ft) => (D ft).bind fun df => if df.size = 0 then none else val n (.pointer (some ⟨id, off + o, none⟩))
      | _, _ => none) = some ef) (hx : VR ρ x x') : Runs P (Instr.fieldAt t x' f) ρ H n ef w := by
  split at h
  · rename_i id off o ft hf
    have hx := ‹VR ρ _ x'›
    simp only [Option.bind_eq_some_iff] at h
    obtain ⟨df, hdf, h⟩ := h
    split at h
    · cases h
    · rename_i hne
      obtain ⟨r, κ, h1, rfl⟩ := ptr_inv hx
      obtain ⟨a, g, u1, u2, u3, u4⟩ := field_at (P := P) hD hf w
      subst u4
      exact Runs.val hb hh h (.ptr (off + o) h1) (by simp [Instr.fieldAt, u1, u2, Instr.sureAddr, fieldPlace, run_size hD hdf, hne, u3, addr_add])
  · cases h

theorem ok_field (hD : DOk P D) (hb : Below n ρ) (hh : HR ρ H w) {t : TypeId} {f : Nat} {x x' : Value} {ef : Eff}
    (h : (match x, doField D t f with
      | .agg cs, some (o, ft) => (D ft).bind fun df => (rdVar df cs.toList o).bind fun v => val n v
      | _, _ => none) = some ef) (hx : VR ρ x x') : Runs P (Instr.field t x' f) ρ H n ef w := by
  split at h
  · rename_i cs o ft hf
    have hx := ‹VR ρ _ x'›
    simp only [Option.bind_eq_some_iff] at h
    obtain ⟨df, hdf, v, hv, h⟩ := h
    obtain ⟨b, rfl, hs, hr⟩ := agg_inv hx
    obtain ⟨a, g, u1, u2, u3, u4⟩ := field_at (P := P) hD hf w
    subst u4; subst u3
    obtain ⟨v', p1, p2⟩ := part_run (P := P) hD hdf hs hr hv w
    exact Runs.val hb hh h p2 (by simp [Instr.field, u1, u2, asAgg, p1])
  · cases h
end
end Go.Proofs.Ytdnnojblneccdaa
