/-
  append, copy, make on ideal memory.
-/
import Derived.Test.YtdnnojblneccdaaE7
namespace Go.Proofs.Ytdnnojblneccdaa
set_option linter.unusedSimpArgs false
set_option linter.unusedVariables false
open Go

section
variable {P : Program} {D : Ty} {K : Kinds} {ρ : Ren} {H : IHeap} {w : World} {n : Nat}

theorem all_known {xs : List Value} {arr : Array Value} (hs : arr.size = xs.length) (hr : ∀ (i : Nat) v, xs[i]? = some v → ∃ v', arr[i]? = some v' ∧ VR ρ v v') (hk : xs.all known = true) :
    ∀ v ∈ arr.toList, known v = true := by
  intro v hv
  obtain ⟨i, hi⟩ := List.getElem?_of_mem hv
  have hlt : i < xs.length := by
    have : i < arr.toList.length := (List.getElem?_eq_some_iff.1 hi).1
    simp at this; omega
  obtain ⟨y2, e1, e2⟩ := hr i xs[i] (by simp)
  have : v = y2 := by
    have hi' : arr[i]? = some v := by simpa using hi
    rw [hi'] at e1; cases e1; rfl
  subst this
  exact e2.known ((List.all_eq_true.1 hk) _ (List.getElem_mem _))

/-- cells put into a known row of ideal memory -/
theorem put_row (hb : Below n ρ) (hh : HR ρ H w) {id : Nat} {c : List Value} (ho : H id = some (.cells c false)) {r κ : Nat} (hr : ρ id = some (r, κ)) {off : Nat} {xs : List Value} {arr : Array Value}
    (hs : arr.size = xs.length) (hx : ∀ (i : Nat) v, xs[i]? = some v → ∃ v', arr[i]? = some v' ∧ VR ρ v v') (hk : xs.all known = true) (hle : off + xs.length ≤ c.length) :
    ∃ w', (storeCells ⟨r, off, none⟩ arr.toList).run P w = .ok () w' ∧ ∀ v v', VR ρ v v' → Post ρ H n ⟨v, [(id, some (.cells (splice c off xs) false))], n⟩ v' ρ w w' := by
  obtain ⟨r', κ', c', T, fz, g1, g2, g3, g4, g5, g6⟩ := hh.row ho
  rw [hr] at g1; cases g1
  obtain ⟨w', c'', e1, e2, e3, e4, e5, e6, e7, e8, e9⟩ := run_storeCells_row (P := P) arr.toList 0 w r off c' T fz g2 (by rw [g3]; exact g5 rfl) (by simp; omega) (all_known hs hx hk)
  refine ⟨w', e1, fun v v' hv => Post.store hb hh ho hr (T := T) (fz := fz) (g5 rfl) e2 (by rw [e3, g3]) (by rw [length_splice _ _ _ hle]; exact g4) ?_ e5 e6 e7 e8 e9 hv⟩
  intro i v hv
  rw [getElem?_splice _ _ _ hle] at hv
  rw [e4 i]
  simp only [Nat.add_zero, Array.length_toList, hs]
  split at hv
  · rename_i hc; rw [if_pos hc]
    obtain ⟨y2, a, b⟩ := hx _ _ hv
    exact ⟨y2, by simpa using a, b⟩
  · rename_i hc; rw [if_neg hc]
    exact g6 i v hv

theorem splice_nil (c : List Value) (off : Nat) : splice c off [] = c := by simp [splice]

theorem rel_append {a b : List Value} {a' b' : Array Value} (ha : a'.size = a.length) (hb : b'.size = b.length)
    (h1 : ∀ (i : Nat) v, a[i]? = some v → ∃ v', a'[i]? = some v' ∧ VR ρ v v') (h2 : ∀ (i : Nat) v, b[i]? = some v → ∃ v', b'[i]? = some v' ∧ VR ρ v v') :
    ∀ (i : Nat) v, (a ++ b)[i]? = some v → ∃ v', (a' ++ b')[i]? = some v' ∧ VR ρ v v' := by
  intro i v hv
  by_cases hi : i < a.length
  · rw [List.getElem?_append_left hi] at hv
    obtain ⟨v', e1, e2⟩ := h1 i v hv
    exact ⟨v', by rw [Array.getElem?_append_left (by omega)]; exact e1, e2⟩
  · rw [List.getElem?_append_right (by omega)] at hv
    obtain ⟨v', e1, e2⟩ := h2 _ v hv
    exact ⟨v', by rw [Array.getElem?_append_right (by omega), ha]; exact e1, e2⟩

theorem rel_more {a : List Value} {a' b' : Array Value} (ha : a'.size = a.length)
    (h1 : ∀ (i : Nat) v, a[i]? = some v → ∃ v', a'[i]? = some v' ∧ VR ρ v v') :
    ∀ (i : Nat) v, a[i]? = some v → ∃ v', (a' ++ b')[i]? = some v' ∧ VR ρ v v' := by
  intro i v hv
  have hi : i < a.length := (List.getElem?_eq_some_iff.1 hv).1
  obtain ⟨v', e1, e2⟩ := h1 i v hv
  exact ⟨v', by rw [Array.getElem?_append_left (by omega)]; exact e1, e2⟩

/-- a row that goes on under a new number -/
theorem Post.regrow (hb : Below n ρ) (hh : HR ρ H w) {id : Nat} {c c2 : List Value} {ro : Bool} (ho : H id = some (.cells c ro)) {r κ : Nat} (hr : ρ id = some (r, κ))
    {w' : World} {c'' : Array Value} {T : TypeId} {fz : Nat × Nat} (hf : Free fz κ) (hw : w'.heap[r]? = some (.cells c'' T fz)) (hs : c''.size = κ) (hl : c2.length ≤ κ)
    (hc : ∀ (i : Nat) v, c2[i]? = some v → ∃ v', c''[i]? = some v' ∧ VR ρ v v')
    (hk : ∀ k, k ≠ r → w'.heap[k]? = w.heap[k]?) (hz : w'.heap.size = w.heap.size) (h7 : w'.os = w.os) (h8 : w'.tape = w.tape) (h9 : w'.output = w.output)
    {v v' : Value} (hv : VR (ρ.set n r κ) v v') :
    Post ρ H n ⟨v, [(id, none), (n, some (.cells c2 false))], n + 1⟩ v' (ρ.set n r κ) w w' := by
  have hle : ρ.le (ρ.set n r κ) := Ren.set_le (hb n (Nat.le_refl _))
  have hid : id < n := hb.lt hr
  refine ⟨?_, ⟨hle, ?_, by omega, ?_, h7, h8, h9⟩, hv, ⟨?_, ?_⟩, ?_, Nat.le_succ _, fun id x h => by
      simp only [Ren.set] at h
      split at h
      · exact .inr (by omega)
      · exact .inl h⟩
  · intro j hj
    simp only [Ren.set]; rw [if_neg (by have : n + 1 ≤ j := hj; omega)]
    exact hb j (by have : n + 1 ≤ j := hj; omega)
  · intro j q κ2 h1 h2
    simp only [Ren.set] at h2
    split at h2
    · cases h2; exact .inr ⟨id, κ, hr, by simp⟩
    · rw [h1] at h2; cases h2
  · intro q _ hn
    exact hk q fun e => hn id κ (e ▸ hr) (by simp)
  · intro j o hj
    simp only [upds, upd] at hj
    split at hj
    · cases hj; subst_vars
      exact ⟨r, _, by simp [Ren.set], c'', T, fz, hw, rfl, hl, fun _ => hf, fun i v hv => let ⟨v', a, b⟩ := hc i v hv; ⟨v', a, b.mono hle⟩⟩
    · rename_i hne
      split at hj
      · cases hj
      · rename_i hne2
        obtain ⟨r', κ', h1, h2⟩ := hh.obj j o hj
        refine ⟨r', κ', hle _ _ h1, ?_⟩
        rw [hk r' fun e => hne2 (hh.inj j id o _ r' κ' κ hj ho h1 (e ▸ hr))]
        exact h2.mono hle
  · have pick : ∀ {i o q κ1}, upds H [(id, none), (n, some (.cells c2 false))] i = some o → (ρ.set n r κ) i = some (q, κ1) → (i = n ∧ q = r) ∨ (i ≠ n ∧ i ≠ id ∧ H i = some o ∧ ρ i = some (q, κ1)) := by
      intro i o q κ1 h1 h2
      simp only [upds, upd] at h1
      simp only [Ren.set] at h2
      split at h1
      · rename_i hi; rw [if_pos hi] at h2; cases h2; exact .inl ⟨hi, rfl⟩
      · rename_i hi; rw [if_neg hi] at h2
        split at h1
        · cases h1
        · exact .inr ⟨hi, by assumption, h1, h2⟩
    intro i j o p q κ1 κ2 hi hj hri hrj
    rcases pick hi hri with ⟨rfl, rfl⟩ | ⟨a1, a2, a3, a4⟩
    · rcases pick hj hrj with ⟨rfl, _⟩ | ⟨b1, b2, b3, b4⟩
      · rfl
      · exact absurd (hh.inj j id p _ q κ2 κ b3 ho b4 hr) b2
    · rcases pick hj hrj with ⟨rfl, rfl⟩ | ⟨b1, b2, b3, b4⟩
      · exact absurd (hh.inj i id o _ q κ1 κ a3 ho a4 hr) a2
      · exact hh.inj i j o p q κ1 κ2 a3 b3 a4 b4
  · intro j hj
    simp only [Eff.ids, List.map_cons, List.map_nil, List.mem_cons, List.not_mem_nil, or_false] at hj
    rcases hj with rfl | rfl
    · exact ⟨.inr (by rw [ho]; rfl), Nat.lt_succ_of_lt hid⟩
    · exact ⟨.inl (Nat.le_refl _), Nat.lt_succ_self _⟩

/-- a number is given up beside a new block -/
theorem Post.dropNew {id : Nat} {c : List Value} {v v' : Value} {ρ' : Ren} {w' : World} (h : Post ρ H n ⟨v, [(n, some (.cells c false))], n + 1⟩ v' ρ' w w') (ho : (H id).isSome) (hid : id < n) :
    Post ρ H n ⟨v, [(id, none), (n, some (.cells c false))], n + 1⟩ v' ρ' w w' := by
  refine ⟨h.below, h.step.mono (fun j hj => by simp only [Eff.ids, List.map_cons, List.map_nil, List.mem_cons, List.not_mem_nil, or_false] at hj ⊢; exact .inr hj), h.val, h.heap.sub ?_, ?_, h.le, h.fresh⟩
  · intro j o hj
    simp only [upds, upd] at hj ⊢
    split at hj
    · rename_i hjn; rw [if_pos hjn]; exact hj
    · rename_i hjn; rw [if_neg hjn]
      split at hj
      · cases hj
      · exact hj
  · intro j hj
    simp only [Eff.ids, List.map_cons, List.map_nil, List.mem_cons, List.not_mem_nil, or_false] at hj
    rcases hj with rfl | rfl
    · exact ⟨.inr ho, Nat.lt_succ_of_lt hid⟩
    · exact ⟨.inl (Nat.le_refl _), Nat.lt_succ_self _⟩

theorem Post.drawnL {e : Eff} {v' : Value} {ρ' : Ren} {w' : World} (d : Nat) (h : Post ρ H n e v' ρ' { w with drawn := d } w') : Post ρ H n e v' ρ' w w' :=
  ⟨h.below, h.step.drawnL d, h.val, h.heap, h.ids, h.le, h.fresh⟩

theorem ok_append (hD : DOk P D) (hb : Below n ρ) (hh : HR ρ H w) {ts : Array TypeId} {ty : TypeId} {s x s' x' : Value} {ef : Eff}
    (h : ((ts[0]?).bind fun t => (ts[1]?).bind fun t2 => doAppend D H n t t2 s x) = some ef) (hs : VR ρ s s') (hx : VR ρ x x') :
    Runs P (Builtin.append_ ts ty #[s', x']) ρ H n ef w := by
  simp only [Option.bind_eq_some_iff] at h
  obtain ⟨t, ht, t2, ht2, h⟩ := h
  unfold doAppend at h
  split at h
  · rename_i base len cap d hd
    split at h
    · rename_i el hk
      simp only [Option.bind_eq_some_iff] at h
      obtain ⟨de, hde, ⟨k, xs⟩, hsrc, h⟩ := h
      have hS := srcArg_ok (P := P) hD hh hde hsrc hx
      simp only at h
      split at h
      · rename_i hle
        rcases slice_inv hs with ⟨rfl, rfl, rfl, rfl⟩ | ⟨id, off, r, κ, rfl, hr, rfl⟩ | ⟨id, off, sz, r, κ, cap', rfl, hr, q1, q2, q3, rfl⟩
        · obtain ⟨arr, a1, a2, a3, a4⟩ := append_fits (P := P) (base := none) (sLen := 0) (sCap := 0) hD hd hk hde ty ts ht ht2 hS hle.1
          have hk0 : k = 0 := by have := hle.1; omega
          subst hk0
          exact Runs.val hb hh h .nilSlice (by rw [a4]; simp [putAt])
        · obtain ⟨arr, a1, a2, a3, a4⟩ := append_fits (P := P) (base := some ⟨r, off, none⟩) (sLen := len) (sCap := cap) hD hd hk hde ty ts ht ht2 hS hle.1
          simp only at h
          split at h
          · rename_i hnil
            subst hnil
            refine Runs.val hb hh h (.slice off (len + k) cap hr) ?_
            have : arr = #[] := Array.eq_empty_of_size_eq_zero (by simpa using a1)
            rw [a4]; subst this; simp [putAt, storeCells]
          · split at h
            · rename_i c ho
              split at h
              · rename_i hc
                cases h
                obtain ⟨w', e1, e2⟩ := put_row (P := P) hb hh ho hr a1 a3 hc.2 hc.1
                exact ⟨_, w', ρ, by rw [a4]; simp [putAt, addr_add, e1], e2 _ _ (.slice off (len + k) cap hr)⟩
              · cases h
            · cases h
        · have := hle.2; simp [closed] at this
      · rename_i hgt
        split at h
        · rename_i hm
          obtain ⟨hm, hb1⟩ := hm
          rcases slice_inv hs with ⟨rfl, rfl, rfl, rfl⟩ | ⟨id, off, r, κ, rfl, hr, rfl⟩ | ⟨id, off, sz, r, κ, cap', rfl, hr, q1, q2, q3, rfl⟩
          · obtain ⟨arr, rest, nc, a1, a2, a3, a4, a5, a6⟩ := append_grows (P := P) (base := none) (sLen := 0) (sCap := 0) hD hd hk hde ty ts ht ht2 hS (by simp [closed] at hgt; omega) hm hb1 (old := #[]) (fun w1 _ => by simp [Builtin.firstCells])
            cases h
            refine ⟨_, _, _, a6, Post.drawnL (w.drawn + 1) (Post.alloc (w := { w with drawn := w.drawn + 1 }) hb (hh.drawn _) (c' := #[] ++ arr ++ rest) (by simp; omega) ?_ (.oslice (κ := (#[] ++ arr ++ rest).size) (by simp [Ren.set]) a4 (Nat.le_refl _) ?_))⟩
            · simpa using rel_more (b' := rest) a1 a3
            · simp only [Array.size_append, a1, a2, a5, List.size_toArray, List.length_nil]
              simp only [Nat.zero_add] at a4 ⊢
              rw [← Nat.add_mul]; congr 1; omega
          · simp only [Option.bind_eq_some_iff] at h
            obtain ⟨ys, hys, h⟩ := h
            obtain ⟨old, o1, o2, o3, o4, o5⟩ := src_ok (P := P) (k := len) hh hys rfl hs
            obtain ⟨arr, rest, nc, a1, a2, a3, a4, a5, a6⟩ := append_grows (P := P) (base := some ⟨r, off, none⟩) (sLen := len) (sCap := cap) hD hd hk hde ty ts ht ht2 hS (by simp [closed] at hgt; omega) hm hb1 (old := old) o2
            cases h
            refine ⟨_, _, _, a6, Post.drawnL (w.drawn + 1) (Post.alloc (w := { w with drawn := w.drawn + 1 }) hb (hh.drawn _) (c' := old ++ arr ++ rest) (by simp; omega) ?_ (.oslice (κ := (old ++ arr ++ rest).size) (by simp [Ren.set]) a4 (Nat.le_refl _) ?_))⟩
            · exact rel_more (by simp; omega) (rel_append o3 a1 o5 a3)
            · simp only [Array.size_append, a1, a2, a5, o3, o4, Nat.zero_add]
              rw [← Nat.add_mul, ← Nat.add_mul]; congr 1; omega
          · simp only at h
            split at h
            · rename_i c ho
              split at h
              · rename_i hc
                obtain ⟨c1, c2, rfl, rfl⟩ := hc
                cases h
                simp only [Nat.zero_add] at q3
                by_cases hfit : len + k ≤ cap'
                · obtain ⟨arr, a1, a2, a3, a4⟩ := append_fits (P := P) (base := some ⟨r, 0, none⟩) (sLen := len) (sCap := cap') hD hd hk hde ty ts ht ht2 hS hfit
                  obtain ⟨r', κ', c', T, fz, g1, g2, g3, g4, g5, g6⟩ := hh.row ho
                  rw [hr] at g1; cases g1
                  have hin : (len + k) * de.size ≤ κ := by rw [← q3]; exact Nat.mul_le_mul_right _ hfit
                  have hin' : len * de.size + xs.length ≤ κ := by rw [a2, ← Nat.add_mul]; exact hin
                  obtain ⟨w', c'', e1, e2, e3, e4, e5, e6, e7, e8, e9⟩ := run_storeCells_row (P := P) arr.toList 0 w r (len * de.size) c' T fz g2 (by rw [g3]; exact g5 rfl) (by simp; omega) (all_known a1 a3 c2)
                  refine ⟨_, w', _, by rw [a4]; simp [putAt, addr_add, e1], Post.regrow hb hh ho hr (T := T) (fz := fz) (g5 rfl) e2 (by rw [e3, g3]) (by rw [List.length_append, List.length_take]; omega) ?_ e5 e6 e7 e8 e9 (VR.oslice (id := n) (r := r) (κ := κ) (by simp [Ren.set]) hfit (Nat.le_refl _) (by omega))⟩
                  intro i v hv
                  rw [e4 i]
                  simp only [Nat.add_zero, Array.length_toList, a1]
                  by_cases hi : i < len * de.size
                  · rw [if_neg (by omega)]
                    rw [List.getElem?_append_left (by simp; omega), List.getElem?_take_of_lt hi] at hv
                    exact g6 i v hv
                  · rw [List.getElem?_append_right (by simp; omega)] at hv
                    have hl : (c.take (len * de.size)).length = len * de.size := by simp; omega
                    rw [hl] at hv
                    have : i - len * de.size < xs.length := (List.getElem?_eq_some_iff.1 hv).1
                    rw [if_pos (by omega)]
                    obtain ⟨y2, a, b⟩ := a3 _ _ hv
                    exact ⟨y2, by simpa using a, b⟩
                · obtain ⟨old, o1, o2, o3, o4, o5⟩ := src_ok (P := P) (k := len) (sz := de.size) (xs := c.take (len * de.size)) hh (by simp only [srcCells, ho, Nat.zero_add]; rw [if_pos c1, List.drop_zero]) rfl hs
                  obtain ⟨arr, rest, nc, a1, a2, a3, a4, a5, a6⟩ := append_grows (P := P) (base := some ⟨r, 0, none⟩) (sLen := len) (sCap := cap') hD hd hk hde ty ts ht ht2 hS (by omega) hm hb1 (old := old) o2
                  refine ⟨_, _, _, a6, Post.dropNew (Post.drawnL (w.drawn + 1) (Post.alloc (w := { w with drawn := w.drawn + 1 }) hb (hh.drawn _) (c' := old ++ arr ++ rest) (by simp only [Array.size_append, List.length_append]; omega) ?_ (.oslice (κ := (old ++ arr ++ rest).size) (by simp [Ren.set]) a4 (Nat.le_refl _) ?_))) (by rw [ho]; rfl) (hb.lt hr)⟩
                  · exact rel_more (by rw [Array.size_append, List.length_append]; omega) (rel_append o3 a1 o5 a3)
                  · simp only [Array.size_append, a1, a2, a5, o3, o4, Nat.zero_add]
                    rw [← Nat.add_mul, ← Nat.add_mul]; congr 1; omega
              · cases h
            · cases h
        · cases h
    · cases h
  · cases h
end
end Go.Proofs.Ytdnnojblneccdaa
