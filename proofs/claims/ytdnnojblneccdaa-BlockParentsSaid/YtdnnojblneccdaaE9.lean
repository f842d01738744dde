/-
  The other operations; all operations.
-/
import Derived.Test.YtdnnojblneccdaaE8
namespace Go.Proofs.Ytdnnojblneccdaa
set_option linter.unusedSimpArgs false
set_option linter.unusedVariables false
open Go

section
variable {P : Program} {D : Ty} {K : Kinds} {ρ : Ren} {H : IHeap} {w : World} {n : Nat}

theorem ok_copy (hD : DOk P D) (hb : Below n ρ) (hh : HR ρ H w) {ts : Array TypeId} {ty : TypeId} {s x s' x' : Value} {ef : Eff}
    (h : ((ts[0]?).bind fun t => doCopy D H n t s x) = some ef) (hs : VR ρ s s') (hx : VR ρ x x') :
    Runs P (Builtin.copy_ ts ty #[s', x']) ρ H n ef w := by
  simp only [Option.bind_eq_some_iff] at h
  obtain ⟨t, ht, h⟩ := h
  unfold doCopy at h
  split at h
  · rename_i base len cap d hd
    split at h
    · rename_i el hk
      split at h
      · rename_i de k hde hk2
        simp only [Option.bind_eq_some_iff] at h
        obtain ⟨xs, hxs, h⟩ := h
        obtain ⟨arr, a1, a2, a3, a4, a5⟩ := src_ok (P := P) hh hxs hk2 hx
        have key : ∀ (r off cap' id κ : Nat) (c : List Value), H id = some (.cells c false) → ρ id = some (r, κ) → off + len * de.size ≤ c.length → xs.all known = true →
            s' = .slice (some ⟨r, off, none⟩) len cap' →
            Runs P (Builtin.copy_ ts ty #[s', x']) ρ H n ⟨.int .i64 (min k len : Nat), [(id, some (.cells (splice c off (xs.take (min k len * de.size))) false))], n⟩ w := by
          intro r off cap' id κ c ho hr hle hkn e
          have hmin : Nat.min k len * de.size ≤ k * de.size := Nat.mul_le_mul_right _ (Nat.min_le_left _ _)
          have hmin2 : Nat.min k len * de.size ≤ len * de.size := Nat.mul_le_mul_right _ (Nat.min_le_right _ _)
          -- the first cells alone
          have hfc : ∃ arr2 : Array Value, (Builtin.firstCells de.size (Nat.min k len) x').run P w = .ok arr2 w ∧ arr2.size = (xs.take (Nat.min k len * de.size)).length ∧
              ∀ (i : Nat) v, (xs.take (Nat.min k len * de.size))[i]? = some v → ∃ v', arr2[i]? = some v' ∧ VR ρ v v' := by
            have hlen2 : (xs.take (Nat.min k len * de.size)).length = Nat.min k len * de.size := by rw [List.length_take]; omega
            unfold srcCells at hxs
            split at hxs
            · rcases slice_inv hx with ⟨_, rfl, rfl, rfl⟩ | ⟨_, _, _, _, h, _⟩ | ⟨_, _, _, _, _, _, h, _⟩
              · cases hxs
                exact ⟨#[], by simp [Builtin.firstCells], by simp, fun i v hv => by simp at hv⟩
              · cases h
              · cases h
            · rename_i a len2 cap2
              simp only [srcLen, Option.some.injEq] at hk2; subst hk2
              split at hxs
              · rename_i c2 ro2 ho2
                split at hxs
                · rename_i hle2
                  cases hxs
                  have row : ∀ {id2 off2 r2 κ2 cap3 : Nat}, H id2 = some (.cells c2 ro2) → ρ id2 = some (r2, κ2) → off2 + len2 * de.size ≤ c2.length → off2 = a.off →
                      ∃ arr2 : Array Value, (Builtin.firstCells de.size (Nat.min len2 len) (.slice (some ⟨r2, off2, none⟩) len2 cap3)).run P w = .ok arr2 w ∧ arr2.size = (((c2.drop a.off).take (len2 * de.size)).take (Nat.min len2 len * de.size)).length ∧
                        ∀ (i : Nat) v, (((c2.drop a.off).take (len2 * de.size)).take (Nat.min len2 len * de.size))[i]? = some v → ∃ v', arr2[i]? = some v' ∧ VR ρ v v' := by
                    intro id2 off2 r2 κ2 cap3 ho2 hr2 hle2 hoff
                    subst hoff
                    obtain ⟨r', κ', c', T, fz, g1, g2, g3, g4, _, g6⟩ := hh.row ho2
                    rw [hr2] at g1; cases g1
                    refine ⟨c'.extract a.off (a.off + Nat.min len2 len * de.size), ?_, by rw [hlen2]; simp; omega, fun i v hv => ?_⟩
                    · simp only [Builtin.firstCells]
                      exact run_loadCells_row g2 a.off _ (by omega)
                    · simp only [List.getElem?_take, List.getElem?_drop] at hv
                      split at hv
                      · split at hv
                        · obtain ⟨v', e1, e2⟩ := g6 _ _ hv
                          exact ⟨v', by rw [Array.getElem?_extract, if_pos (by omega)]; exact e1, e2⟩
                        · cases hv
                      · cases hv
                  rcases slice_inv hx with ⟨h, _⟩ | ⟨id2, off2, r2, κ2, e, hr2, rfl⟩ | ⟨id2, off2, sz', r2, κ2, cap3, e, hr2, _, _, _, rfl⟩
                  · cases h
                  · cases e; exact row ho2 hr2 hle2 rfl
                  · cases e; exact row ho2 hr2 hle2 rfl
                · cases hxs
              · cases hxs
            · rename_i str
              split at hxs
              · rename_i hsz
                cases hxs
                rw [str_inv hx]
                simp only [srcLen, Option.some.injEq] at hk2; subst hk2
                refine ⟨(str.extract 0 (Nat.min str.size len)).data.map fun b => .int .u8 b.toNat, by simp [Builtin.firstCells], ?_, fun i v hv => ?_⟩
                · rw [hlen2, hsz, Nat.mul_one]
                  simp only [Array.size_map, ByteArray.data_extract, Array.size_extract]
                  have : str.data.size = str.size := rfl
                  have h2 : str.size.min len ≤ str.size := Nat.min_le_left str.size len
                  omega
                · simp only [hsz, Nat.mul_one, List.getElem?_take, List.getElem?_map, Array.getElem?_toList] at hv
                  split at hv
                  · rename_i hi
                    simp only [Option.map_eq_some_iff] at hv
                    obtain ⟨b, hb, rfl⟩ := hv
                    refine ⟨.int .u8 b.toNat, ?_, .int _ _⟩
                    simp only [Array.getElem?_map, ByteArray.data_extract, Array.getElem?_extract, Nat.zero_add]
                    have hi2 : i < str.data.size := (Array.getElem?_eq_some_iff.1 hb).1
                    rw [if_pos (by omega), hb]; rfl
                  · cases hv
              · cases hxs
            · cases hxs
          obtain ⟨arr2, b1, b2, b3⟩ := hfc
          have hall : (xs.take (Nat.min k len * de.size)).all known = true := by
            rw [List.all_eq_true] at hkn ⊢
            exact fun x hx => hkn x (List.mem_of_mem_take hx)
          obtain ⟨w', e1, e2⟩ := put_row (P := P) hb hh ho hr b2 b3 hall (off := off) (by rw [List.length_take]; omega)
          refine ⟨.int .i64 (min k len : Nat), w', ρ, ?_, e2 _ _ (.int _ _)⟩
          subst e
          simp only [Builtin.copy_, ht, Sem.run_bind, und_slice hD hd hk, Result.andThen_ok, run_size hD hde, Sem.run_pure, List.getElem?_toArray, List.getElem?_cons_zero, List.getElem?_cons_succ, a1, b1, e1]
          rfl
        rcases slice_inv hs with ⟨rfl, rfl, rfl, rfl⟩ | ⟨id, off, r, κ, rfl, hr, rfl⟩ | ⟨id, off, sz, r, κ, cap', rfl, hr, q1, q2, q3, rfl⟩
        · refine Runs.val hb hh h (.int _ _) ?_
          have hf : ∃ arr2 : Array Value, (Builtin.firstCells de.size 0 x').run P w = .ok arr2 w := by
            have z0 : ∀ s : Sem (Array Value), s = pure #[] → s.run P w = .ok #[] w := by rintro s rfl; rfl
            refine ⟨#[], ?_⟩
            unfold srcCells at hxs
            split at hxs
            · cases hx; simp [Builtin.firstCells]
            · cases hx <;> simp [Builtin.firstCells, loadCells, loadCellsFrom]
            · cases hx
              simp only [Builtin.firstCells, Sem.run_pure]
              congr 1
              apply Array.eq_empty_of_size_eq_zero
              simp [ByteArray.data_extract]
            · cases hxs
          obtain ⟨arr2, b1⟩ := hf
          have hm : k.min 0 = 0 := Nat.min_zero k
          simp only [Builtin.copy_, ht, Sem.run_bind, und_slice hD hd hk, Result.andThen_ok, run_size hD hde, Sem.run_pure, List.getElem?_toArray, List.getElem?_cons_zero, List.getElem?_cons_succ, a1, hm, b1]
          rfl
        · simp only at h
          split at h
          · rename_i c ho
            split at h
            · rename_i hc
              cases h
              exact key r off cap id κ c ho hr hc.1 hc.2 rfl
            · cases h
          · cases h
        · simp only at h
          split at h
          · rename_i c ho
            split at h
            · rename_i hc
              cases h
              exact key r off cap' id κ c ho hr hc.1 hc.2 rfl
            · cases h
          · cases h
      · cases h
    · cases h
  · cases h

theorem ok_make (hD : DOk P D) (hb : Below n ρ) (hh : HR ρ H w) {t : TypeId} {l c l' c' : Value} {ef : Eff} (h : doMake D n t l c = some ef) (hl : VR ρ l l') (hc : VR ρ c c') :
    Runs P (Instr.makeSlice t l' c') ρ H n ef w := by
  unfold doMake at h
  split at h
  · rename_i l c d hd
    rw [int_inv hl, int_inv hc]
    split at h
    · rename_i el hk
      simp only [Option.bind_eq_some_iff] at h
      obtain ⟨de, hde, h⟩ := h
      split at h
      · rename_i hc
        obtain ⟨c1, c2, c3, c4⟩ := hc
        cases h
        have hmost : (most : Int) = 140737488355328 := rfl
        obtain ⟨i, zz, i1, i2, i3, _⟩ := run_info hD hde w
        obtain ⟨z, r1, r2, r3, r4⟩ := zeroRow (P := P) hD hde c.toNat w
        have hask : ∀ b w, (askRoom b).run P w = .ok () w := by
          intro b w; unfold askRoom; split <;> simp [mark, Sem.run]
        have wl : IntKind.i64.wrap l = l := wrap_i64 (by omega) (by omega)
        have wc : IntKind.i64.wrap c = c := wrap_i64 (by omega) (by omega)
        have hz2 : (if c.toNat * de.size = 0 then (pure #[] : Sem (Array Value)) else do pure (← zeroValue el).cells).run P w = .ok (if c.toNat * de.size = 0 then #[] else z.cells) w := by
          split <;> simp [r1]
        have hrow : ((Array.range (c.toNat * de.size)).map (fun x => (if c.toNat * de.size = 0 then #[] else z.cells)[x % (if c.toNat * de.size = 0 then #[] else z.cells).size]!)).toList = (List.replicate c.toNat de.zero).flatten := by
          by_cases h0 : c.toNat * de.size = 0
          · rw [r3 h0, h0]; simp
          · simp only [if_neg h0]; exact r2
        obtain ⟨e1, e2⟩ := ok_newRow (P := P) (T := el) (c := (List.replicate c.toNat de.zero).flatten) hb hh (c' := ((Array.range (c.toNat * de.size)).map (fun x => (if c.toNat * de.size = 0 then #[] else z.cells)[x % (if c.toNat * de.size = 0 then #[] else z.cells).size]!)))
          (by rw [← hrow]; simp) (by intro i v hv; exact ⟨v, by rw [← hrow, Array.getElem?_toList] at hv; exact hv, clo_list (mem_rep r4 _) ρ i v hv⟩)
        refine ⟨.slice (some ⟨w.heap.size, 0, none⟩) l.toNat c.toNat, _, _, ?_, e2 _ _ (.slice 0 _ _ (κ := (c.toNat * de.size)) (by simp [Ren.set]))⟩
        simp only [Instr.makeSlice, Sem.run_bind, und_slice hD hd hk, Result.andThen_ok, asInt, asIntOf, Sem.run_pure, i1, i3, wl, wc]
        rw [if_neg (by simp only [Bool.or_eq_true, decide_eq_true_eq, not_or]; omega)]
        simp only [Sem.run_bind, hask, Result.andThen_ok, run_size hD hde, Sem.run_ite, Sem.run_pure, r1]
        by_cases h0 : c.toNat * de.size = 0
        · simp only [if_pos h0] at e1 ⊢; simp only [Result.andThen_ok, e1]
        · simp only [if_neg h0] at e1 ⊢; simp only [Result.andThen_ok, e1]
      · cases h
    · cases h
  · cases h
end
end Go.Proofs.Ytdnnojblneccdaa
