import Derived.Test.YtdnnojblneccdaaV11C
/-
  Results with a row that was there, written, and new rows.
-/
namespace Go.Proofs.Ytdnnojblneccdaa
set_option linter.unusedSimpArgs false
set_option linter.unusedVariables false
open Go
open Enc (enc)
theorem ren1_keep {g : Nat → Nat} {n : Nat} (hg : ∀ id, id < n → g id = id) {v : Value} (h : okN1 (fun i => i < n) v) : ren1 g v = v := by
  unfold ren1
  split
  · rename_i a
    have h : a.block < n := h
    rw [hg _ h]
  · rename_i a l c
    have h : a.block < n := h
    rw [hg _ h]
  · rename_i r
    have h : r < n := h
    rw [hg _ h]
  · rfl
theorem RetP.upnew {D : Ty} {rs : List ResultVar} {n n'' n1 : Nat} {H H' : IHeap} {ex : Exit} {t : List Value} {v v' : Value} (ms : List Nat) {cs : List (List Value)} {up : Ups} {id : Nat} {c : List Value} (hx : ex = .normal ∨ ex = .ret) (hr : ires D t H' rs = some v') (hv : v' = ren (gL n ms) v) (hup : up = (id, some (.cells c false)) :: upL n cs) (hn1 : n1 = n + cs.length)
    (hm : allL (fun m => n ≤ m) ms) (hnd : ms.Nodup) (hH : rowsAt H' (gL n ms) ms cs) (hc : ∀ c ∈ cs, ∀ x ∈ c, okN1 (fun id => id < n + cs.length) x) (hok : okN (fun id => id < n + cs.length) v)
    (hid : id < n) (h0 : (H id).isSome = true) (hHi : H' id = some (.cells c false)) (hci : ∀ x ∈ c, okN1 (fun i => i < n) x) : RetP D rs n H ⟨v, up, n1⟩ ex t H' n'' := by
  subst hv; subst hup; subst hn1
  have hlen := rowsAt_len hH
  have hm' : ∀ m ∈ ms, n ≤ m := allL_spec hm
  have hids : ∀ i, i ∈ (⟨v, (id, some (.cells c false)) :: upL n cs, n + cs.length⟩ : Eff).ids ↔ i = id ∨ (n ≤ i ∧ i < n + cs.length) := fun i => by
    show i ∈ id :: (upL n cs).map (·.1) ↔ _
    rw [List.mem_cons, upL_ids cs n i]
  have hgl : ∀ i, i < n → gL n ms i = i := fun i h => if_pos h
  have hg : ∀ id, n ≤ id → id < n + cs.length → ∃ m, ms[id - n]? = some m ∧ gL n ms id = m := by
    intro id h1 h2
    have h3 : id - n < ms.length := by omega
    refine ⟨ms[id - n], by simp [h3], ?_⟩
    unfold gL
    rw [if_neg (by omega)]; simp [h3]
  refine ⟨hx, ?_⟩
  rw [hr]
  have hpp : ∀ i, (i < n + cs.length) → (i < n ∨ i ∈ (⟨v, (id, some (.cells c false)) :: upL n cs, n + cs.length⟩ : Eff).ids) := fun i h => by
    rw [hids]; omega
  refine ⟨gL n ms, hgl, rfl, okN_mono hpp hok, ?_, ?_, ?_, ?_, Nat.le_add_right _ _⟩
  · intro i hi o ho
    rcases (hids i).1 hi with rfl | ⟨h1, h2⟩
    · have hnot : i ∉ (upL n cs).map (·.1) := by rw [upL_ids]; omega
      simp only [upds] at ho
      rw [upds_not_mem hnot] at ho
      simp only [upd, if_true, Option.some.injEq] at ho
      subst ho
      refine ⟨?_, ?_⟩
      · rw [hgl i hid, hHi]
        have : c.map (ren1 (gL n ms)) = c := by
          conv => rhs; rw [← List.map_id c]
          exact List.map_congr_left fun x hx => ren1_keep hgl (hci x hx)
        simp only [renO, this]
      · simp only [okO]
        intro x hx
        exact okN1_mono (fun i h => .inl h) (hci x hx)
    · simp only [upds] at ho
      obtain ⟨c', h3, rfl⟩ := upL_get cs n i o h1 h2 ho
      obtain ⟨m, h4, h5⟩ := rowsAt_get hH _ c' h3
      obtain ⟨m', h6, h7⟩ := hg i h1 h2
      rw [h4] at h6; cases h6
      refine ⟨by rw [h7, h5]; rfl, ?_⟩
      simp only [okO]
      intro x hx
      exact okN1_mono hpp (hc c' (List.mem_of_getElem? h3) x hx)
  · intro i hi hle
    rcases (hids i).1 hi with rfl | ⟨h1, h2⟩
    · omega
    · obtain ⟨m', h6, h7⟩ := hg i h1 h2
      rw [h7]; exact hm' m' (List.mem_of_getElem? h6)
  · intro i hi j hj e
    rcases (hids i).1 hi with rfl | ⟨h1, h2⟩
    · rcases (hids j).1 hj with rfl | ⟨h3, h4⟩
      · rfl
      · obtain ⟨b, hb, hb'⟩ := hg j h3 h4
        have := hm' b (List.mem_of_getElem? hb)
        rw [hgl i hid, hb'] at e
        omega
    · rcases (hids j).1 hj with rfl | ⟨h3, h4⟩
      · obtain ⟨b, hb, hb'⟩ := hg i h1 h2
        have := hm' b (List.mem_of_getElem? hb)
        rw [hgl j hid, hb'] at e
        omega
      · obtain ⟨a, ha, ha'⟩ := hg i h1 h2
        obtain ⟨b, hb, hb'⟩ := hg j h3 h4
        rw [ha', hb'] at e
        subst e
        have ia : i - n < ms.length := by omega
        have ib : j - n < ms.length := by omega
        have ea : ms[i - n] = a := by simpa [ia] using ha
        have eb : ms[j - n] = a := by simpa [ib] using hb
        have hpw := List.pairwise_iff_getElem.1 hnd
        rcases Nat.lt_trichotomy (i - n) (j - n) with h | h | h
        · exact absurd (ea.trans eb.symm) (hpw _ _ ia ib h)
        · omega
        · exact absurd (eb.trans ea.symm) (hpw _ _ ib ia h)
  · intro i hi
    rcases (hids i).1 hi with rfl | ⟨h1, h2⟩
    · exact ⟨.inr h0, by show i < n + cs.length; omega⟩
    · exact ⟨.inl h1, h2⟩
end Go.Proofs.Ytdnnojblneccdaa
/-
  Conditions of appends where the order is drawn.
-/
namespace Go.Proofs.Ytdnnojblneccdaa
set_option linter.unusedSimpArgs false
set_option linter.unusedVariables false
open Go
open Enc (enc)
theorem qn2 {id m k n0 : Nat} {x y : Option IObj} (h : m ≠ id) (h' : k ≠ id) : ∀ p ∈ ([(m, x), (k, y)] : Ups), Vis.clear n0 (.ids [id]) p.1 := fun p hm => by
  simp only [List.mem_cons, List.not_mem_nil, or_false] at hm
  rcases hm with rfl | rfl <;> simpa [Vis.clear]
theorem gu1 {W : Nat → Prop} {n : Nat} {ids : List Nat} {H : IHeap} {x : Option IObj} (h : W n) : ∀ p ∈ ([(n, x)] : Ups), W p.1 ∧ (n ≤ p.1 ∨ p.1 ∈ ids ∧ (H p.1).isSome = true) ∧ p.1 < n + 1 := fun p hm => by
  simp only [List.mem_singleton] at hm; subst hm
  exact ⟨h, .inl (Nat.le_refl _), Nat.lt_succ_self _⟩
theorem gu2 {W : Nat → Prop} {n id : Nat} {ids : List Nat} {H : IHeap} {x y : Option IObj} (h1 : W id) (h2 : id ∈ ids) (h3 : (H id).isSome = true) (h4 : id < n) (h : W n) : ∀ p ∈ ([(id, y), (n, x)] : Ups), W p.1 ∧ (n ≤ p.1 ∨ p.1 ∈ ids ∧ (H p.1).isSome = true) ∧ p.1 < n + 1 := fun p hm => by
  simp only [List.mem_cons, List.not_mem_nil, or_false] at hm
  rcases hm with rfl | rfl
  · exact ⟨h1, .inr ⟨h2, h3⟩, by show id < n + 1; omega⟩
  · exact ⟨h, .inl (Nat.le_refl _), Nat.lt_succ_self _⟩
theorem gv1 {n n0 : Nat} {pre : List Nat} {Vs : List (Nat × Vis)} {x : Option IObj} : ∀ p ∈ ([(n, x)] : Ups), n ≤ p.1 ∨ clearV n0 pre p.1 Vs := fun p hm => by
  simp only [List.mem_singleton] at hm; subst hm
  exact .inl (Nat.le_refl _)
theorem gv2 {n id n0 : Nat} {pre : List Nat} {Vs : List (Nat × Vis)} {x y : Option IObj} (h : clearV n0 pre id Vs) : ∀ p ∈ ([(id, y), (n, x)] : Ups), n ≤ p.1 ∨ clearV n0 pre p.1 Vs := fun p hm => by
  simp only [List.mem_cons, List.not_mem_nil, or_false] at hm
  rcases hm with rfl | rfl
  · exact .inr h
  · exact .inl (Nat.le_refl _)
theorem lt2 {a b n : Nat} (h : a < n) (h' : b < n) : ∀ i ∈ [a, b], i < n := fun i hi => by
  simp only [List.mem_cons, List.not_mem_nil, or_false] at hi
  rcases hi with rfl | rfl <;> assumption
end Go.Proofs.Ytdnnojblneccdaa
/-
  Results of several parts.
-/
namespace Go.Proofs.Ytdnnojblneccdaa
set_option linter.unusedSimpArgs false
set_option linter.unusedVariables false
open Go
open Enc (enc)
section
variable {D : Ty} {t : List Value} {H : IHeap} {a b c d : ResultVar} {va vb vc vd : Value}
theorem ires_l3 (h1 : ires D t H [a] = some va) (h2 : ires D t H [b] = some vb) (h3 : ires D t H [c] = some vc) : ires D t H [a, b, c] = some (.tuple #[va, vb, vc]) := by
  have h1 : ires1 D t H a = some va := h1
  have h2 : ires1 D t H b = some vb := h2
  have h3 : ires1 D t H c = some vc := h3
  simp [ires, h1, h2, h3]
theorem ires_l4 (h1 : ires D t H [a] = some va) (h2 : ires D t H [b] = some vb) (h3 : ires D t H [c] = some vc) (h4 : ires D t H [d] = some vd) : ires D t H [a, b, c, d] = some (.tuple #[va, vb, vc, vd]) := by
  have h1 : ires1 D t H a = some va := h1
  have h2 : ires1 D t H b = some vb := h2
  have h3 : ires1 D t H c = some vc := h3
  have h4 : ires1 D t H d = some vd := h4
  simp [ires, h1, h2, h3, h4]
end
theorem ren2_vec8 {g : Nat → Nat} {k : Nat} (v : Vector UInt8 k) : ren2 g (enc v) = enc v := by
  show Value.agg ((encs v.toList).toArray.map (ren1 g)) = .agg (encs v.toList).toArray
  congr 1
  apply Array.toList_inj.1
  rw [Array.toList_map]
  apply plains_ren
  rw [List.all_eq_true]
  intro x hx
  simp only [encs, List.mem_map] at hx
  obtain ⟨_, _, rfl⟩ := hx
  rfl
theorem ok2_vec8 {p : Nat → Prop} {k : Nat} (v : Vector UInt8 k) : okN2 p (enc v) := by
  show ∀ x ∈ (encs v.toList).toArray.toList, okN1 p x
  intro x hx
  simp only [encs, List.mem_map] at hx
  obtain ⟨_, _, rfl⟩ := hx; trivial
theorem okN_l3 {p : Nat → Prop} {a b c : Value} (h1 : okN2 p a) (h2 : okN2 p b) (h3 : okN2 p c) : okN p (.tuple #[a, b, c]) := by
  intro x hx
  simp only [List.mem_cons, List.not_mem_nil, or_false] at hx
  rcases hx with rfl | rfl | rfl <;> assumption
theorem okN_l4 {p : Nat → Prop} {a b c d : Value} (h1 : okN2 p a) (h2 : okN2 p b) (h3 : okN2 p c) (h4 : okN2 p d) : okN p (.tuple #[a, b, c, d]) := by
  intro x hx
  simp only [List.mem_cons, List.not_mem_nil, or_false] at hx
  rcases hx with rfl | rfl | rfl | rfl <;> assumption
theorem ren_l3 {g : Nat → Nat} (a b c : Value) : ren g (.tuple #[a, b, c]) = .tuple #[ren2 g a, ren2 g b, ren2 g c] := by simp [ren]
theorem ren_l4 {g : Nat → Nat} (a b c d : Value) : ren g (.tuple #[a, b, c, d]) = .tuple #[ren2 g a, ren2 g b, ren2 g c, ren2 g d] := by simp [ren]
theorem ren2_slice {g : Nat → Nat} {id off len cap : Nat} {sp : Option Nat} : ren2 g (.slice (some ⟨id, off, sp⟩) len cap) = .slice (some ⟨g id, off, sp⟩) len cap := rfl
theorem gL_one {n m : Nat} : gL n [m] n = m := by simp [gL]
section
variable {P : Program} {Γ : Fns} {D : Ty} {K : Kinds} {W : Nat → Prop} {R : Option Nat} {ops : Array Oper} {Q : Post3} {o : Oper} {os : List Oper} {pre : List Nat} {pres : List (List Nat)} {N : Nat} {L : List (Nat × Value)} {H : IHeap} {M : Ups} {n n0 k : Nat}
  {Wr : List (Nat × Ups)} {Vs : List (Nat × Vis)}
/-- an append that moves what is not open -/
theorem vcE_app1 {d : Tmp} {v : Value} {x : Option IObj} (ids : List Nat) {u M' : Ups} (hd : o.dst = some d) (hg : o.guard = none) (hu : upsW pre Wr = u) (hM : putH u M = M') (h : iopC Γ D K (ev (dense N L)) (hp H M') n o.op = some ⟨v, [(n, x)], n + 1⟩) (hc : isCall o.op = false)
    (hs : seesIds (ev (dense N L)) o.op = ids) (hW : W n) (hl : ∀ i ∈ ids, i < n) (hq : quietW n0 pre (.ids ids) Wr)
    (hk : vcE Γ D K W ops (hp H M) n0 Q os pres (k + 1) (Wr ++ [(k, [(n, x)])]) ((k, .ids ids) :: Vs) (dense N ((d, v) :: L)) (n + 1)) : vcE Γ D K W ops (hp H M) n0 Q (o :: os) (pre :: pres) k Wr Vs (dense N L) n :=
  vcE_gen hd hg hu hM h hc hs (Nat.le_succ _) (gu1 hW) hl hq gv1 hk
/-- an append to what is open -/
theorem vcE_app2 {d : Tmp} {v : Value} {id : Nat} {x y : Option IObj} (ids : List Nat) {u M' : Ups} (hd : o.dst = some d) (hg : o.guard = none) (hu : upsW pre Wr = u) (hM : putH u M = M') (h : iopC Γ D K (ev (dense N L)) (hp H M') n o.op = some ⟨v, [(id, y), (n, x)], n + 1⟩) (hc : isCall o.op = false)
    (hs : seesIds (ev (dense N L)) o.op = ids) (hWi : W id) (hin : id ∈ ids) (hH : (hp H M' id).isSome = true) (hid : id < n) (hW : W n) (hl : ∀ i ∈ ids, i < n) (hq : quietW n0 pre (.ids ids) Wr) (hv' : clearV n0 pre id Vs)
    (hk : vcE Γ D K W ops (hp H M) n0 Q os pres (k + 1) (Wr ++ [(k, [(id, y), (n, x)])]) ((k, .ids ids) :: Vs) (dense N ((d, v) :: L)) (n + 1)) : vcE Γ D K W ops (hp H M) n0 Q (o :: os) (pre :: pres) k Wr Vs (dense N L) n :=
  vcE_gen hd hg hu hM h hc hs (Nat.le_succ _) (gu2 hWi hin hH hid hW) hl hq (gv2 hv') hk
end
end Go.Proofs.Ytdnnojblneccdaa
/-
  Loops over functions that keep a row of their own and hand out rows that they have made.
-/
namespace Go.Proofs.Ytdnnojblneccdaa
set_option linter.unusedSimpArgs false
set_option linter.unusedVariables false
open Go
open Enc (enc)
/-- block r holds these cells, and more may follow -/
def RowOk (w : World) (r : Nat) (c : List Value) : Prop := ∃ c' T fz, w.heap[r]? = some (.cells c' T fz) ∧ c.length ≤ c'.size ∧ Free fz c'.size ∧ ∀ (i : Nat) v, c[i]? = some v → c'[i]? = some v
theorem Step.turn {W : Nat → Prop} {ρ ρ1 : Ren} {w0 w1 w2 : World} {row : Option Nat} (h : Step W ρ ρ1 w0 w1) (hg : w1.grownBy w2 row) (hr : ∀ r, row = some r → w0.heap.size ≤ r) : Step W ρ ρ1 w0 w2 := by
  have hk : ∀ k, k < w0.heap.size → w2.heap[k]? = w1.heap[k]? := fun k hk => hg.block k (Nat.lt_of_lt_of_le hk h.size) (fun e => by have := hr k e.symm; omega)
  refine ⟨h.le, h.new, Nat.le_trans h.size hg.size, fun r hr' hn => (hk r hr').trans (h.keep r hr' hn), hg.os.trans h.os, hg.tape.trans h.tape, hg.output.trans h.output, fun k o ho hc => ?_⟩
  rw [hk k (Array.getElem?_eq_some_iff.1 ho).1]
  exact h.others k o ho hc
/-- a new number for a new block -/
def Ren.add (ρ : Ren) (m r κ : Nat) : Ren := fun id => if id = m then some (r, κ) else ρ id
theorem Ren.add_le {ρ : Ren} {m r κ : Nat} (h : ρ m = none) : ρ.le (ρ.add m r κ) := fun id x e => by
  unfold Ren.add
  by_cases hi : id = m
  · subst hi; rw [h] at e; cases e
  · rw [if_neg hi]; exact e
theorem Step.add {W : Nat → Prop} {ρ ρ1 : Ren} {w0 w1 : World} {m r κ : Nat} (h : Step W ρ ρ1 w0 w1) (hm : ρ1 m = none) (hr : w0.heap.size ≤ r) : Step W ρ (ρ1.add m r κ) w0 w1 := by
  refine ⟨Ren.le_trans h.le (Ren.add_le hm), fun id r' κ' h0 h1 => ?_, h.size, h.keep, h.os, h.tape, h.output, h.others⟩
  unfold Ren.add at h1
  by_cases hi : id = m
  · rw [if_pos hi] at h1; cases h1; exact .inl hr
  · rw [if_neg hi] at h1; exact h.new id r' κ' h0 h1
/-- what no number that may be written names, none names behind the step -/
theorem Step.noW {V : Nat → Prop} {ρ ρ1 : Ren} {w w1 : World} {b : Nat} (h : Step V ρ ρ1 w w1) (hb : b < w.heap.size) (hn : ∀ id κ, ρ id = some (b, κ) → ¬ V id) : ∀ id κ, ρ1 id = some (b, κ) → ¬ V id := by
  intro id κ e hV
  cases h0 : ρ id with
  | some x =>
    have := h.le _ _ h0
    rw [e] at this; cases this
    exact hn id κ h0 hV
  | none =>
    rcases h.new id b κ h0 e with h1 | ⟨i, κ', h1, h2⟩
    · omega
    · exact hn i κ' h1 h2
/-- a block turns that is no row of these numbers -/
theorem HR.turn {ρ : Ren} {H : IHeap} {w w' : World} {row : Option Nat} (h : HR ρ H w) (hg : w.grownBy w' row) (hr : ∀ r, row = some r → ∀ id o κ, H id = some o → ρ id ≠ some (r, κ)) : HR ρ H w' :=
  ⟨fun id o ho => by
    obtain ⟨r, κ, h1, h2⟩ := h.obj id o ho
    refine ⟨r, κ, h1, ?_⟩
    rw [hg.block r h2.lt (fun e => hr r e.symm id o κ ho h1)]; exact h2, h.inj⟩
theorem St.turned {W : Nat → Prop} {ρ0 ρ : Ren} {w0 w w' : World} {m0 n : Nat} {t : List Value} {H : IHeap} {a : Act} {row : Option Nat} (hs : St W ρ0 w0 m0 t H n ρ a w) (hg : w.grownBy w' row)
    (hrow : ∀ r, row = some r → w0.heap.size ≤ r ∧ (∀ id o κ, H id = some o → ρ id ≠ some (r, κ)) ∧ ∀ D, mark D ∈ a.defers → D ≠ r) : St W ρ0 w0 m0 t H n ρ a w' := by
  refine ⟨hs.tr, hs.below, hs.heap.turn hg fun r e => (hrow r e).2.1, hs.step.turn hg fun r e => (hrow r e).1, hs.le, hs.fresh, ?_⟩
  obtain ⟨ds, h1, h2, h3⟩ := hs.coll
  refine ⟨ds, h1, h2, fun D hD => ?_⟩
  obtain ⟨h4, h5⟩ := h3 D hD
  refine ⟨h4, ?_⟩
  rw [hg.block D (Array.getElem?_eq_some_iff.1 h5).1 (fun e => (hrow D e.symm).2.2 D (by rw [h1]; exact List.mem_map.2 ⟨D, hD, rfl⟩) rfl)]
  exact h5
/-- what such an iterator does: it hands out k values, each with a row of its own making, and keeps to what it was given; B: its own row -/
def GivesN (P : Program) (gf : Nat) (caps : Array Value) (k : Nat) (pa pb : Nat → Nat → Value) (dd : Nat → List Value) (ks : List Nat) (H : IHeap) (n : Nat) : Prop :=
  ∀ (w : World) (ρ : Ren) (lb : Array Value), Below n ρ → HR ρ H w → lb.size = caps.size → (∀ (i : Nat) x y, caps[i]? = some x → lb[i]? = some y → VR ρ x y) →
    ∀ (l : Nat) (J : Nat → Nat → World → Prop),
      (∀ B i W W' row, w.heap.size ≤ B → J B i W → W.grownBy W' row → (∀ r, row = some r → r = B) → J B i W') →
      (∀ B i r W0 W1 row, w.heap.size ≤ B → i < k → J B i W0 → W0.grownBy W1 row → (∀ r, row = some r → r = B) → W0.heap.size ≤ r → r ≠ B → B < W1.heap.size → RowOk W1 r (dd i) → ∀ y, (∀ (ρ' : Ren) id κ, ρ' id = some (r, κ) → VR ρ' (pb i id) y) →
        YieldAt (FW none) 0 P l #[pa i r, y] W1 (fun e W' => e = .returned (.bool true) ∧ J B (i + 1) W' ∧ KeepIds ρ ks W1 W' ∧ W'.heap[B]? = W1.heap[B]?)) →
      (∀ B, w.heap.size ≤ B → J B 0 w) → CallsIn (FW none) 1 P gf (#[.func (.yield l) #[] #[]] ++ lb) w (fun e W' => (∃ v, e = .returned v) ∧ ∃ B, w.heap.size ≤ B ∧ J B k W')
section
variable {P : Program} {Γ : Fns} {D : Ty} {K : Kinds} {W : Nat → Prop} {N : Nat} {L : List (Nat × Value)} {H : IHeap} {M : Ups} {n : Nat}
theorem wp_regs {R : Option Nat} (hE : Env P Γ D K) {V : Nat → Prop} {id : Nat} {ops : List Oper} {Q : Post3} {Q' : Exit → Act → World → Prop} {t : List Value} {H : IHeap} {n m0 : Nat} {ρ0 ρ : Ren} {w0 w : World} {a : Act}
    (h : vcS Γ D K V ops.toArray Q ops t H n) (hs : St V ρ0 w0 m0 t H n ρ a w) (hk : ∀ ρ' t' H' n' a' w', St V ρ0 w0 m0 t' H' n' ρ' a' w' → a'.defers = a.defers → Q t' H' n' → Q' .normal a' w') : (Code.region id ops.toArray false).wpIn (FW R) 0 P Q' a w := by
  refine wpIn_region ?_
  have hmap : (List.range ops.toArray.size).map (fun i => ops.toArray[i]?) = ops.map some := by
    apply List.ext_getElem?
    intro i
    simp only [List.getElem?_map, List.getElem?_toArray, List.size_toArray]
    by_cases hi : i < ops.length
    · simp [hi]
    · simp [List.getElem?_eq_none (Nat.le_of_not_lt hi), List.getElem?_eq_none (show (List.range ops.length).length ≤ i by simp; omega)]
  exact vcS_ok hE _ ops _ _ _ ρ a w hmap h hs hk
theorem IW.rangeFuncN {g : Operand} {p0 p1 i1 i2 : Nat} {ops1 ops2 : List Oper} {body : Code} {cs : List Code} {Q : PostX} {gf : Nat} {fn : Func} {caps : Array Value} {k : Nat} {ks ws : List Nat} (pa pb : Nat → Nat → Value) (dd : Nat → List Value)
    (sM : Nat → Ups) (sn : Nat → Nat) (hE : Env P Γ D K)
    (hp0 : Nat.blt p0 N = true) (hp1 : Nat.blt p1 N = true) (hg : opd N L g = some (.func (.func gf) #[] caps)) (hf : P.funcs[gf]? = some fn) (hb : fn.body.isSome = true) (hname : (fn.name == "runtime.NumGoroutine") = false)
    (hit : GivesN P gf caps k pa pb dd ks (hp H M) n)
    (hpa : ∀ (ρ : Ren) i id r κ, ρ id = some (r, κ) → VR ρ (pa i id) (pa i r)) (hdd : ∀ i, ∀ v ∈ dd i, clo1 v = true)
    (hM : (hp H (sM 0)).le (hp H M)) (hn : n ≤ sn 0) (hWn : ∀ id, n ≤ id → W id) (hks : ∀ i, ∀ id ∈ ks, (hp H (sM i) id).isSome = true) (hws : ∀ id ∈ ws, W id ∧ id ∉ ks ∧ id < n ∧ ∀ i, (hp H (sM i) id).isSome = true)
    (hcl : ∀ i id o, hp H (sM i) id = some o → ∃ c ro, o = .cells c ro) (hid : ∀ i id, (hp H (sM i) id).isSome = true → id < n → (hp H (sM 0) id).isSome = true)
    (hle : ∀ i, n ≤ sn i) (hmono : ∀ i, sn i ≤ sn (i + 1))
    (round : ∀ (l i : Nat) (Wb : Nat → Prop), i < k → (∀ id, n ≤ id → Wb id) → (∀ id ∈ ws, Wb id) →
      vcS Γ D K Wb ops1.toArray (fun t H1 n1 => vcS Γ D K Wb ops2.toArray (fun t H2 n2 =>
        IW P Wb (some l) [body] (PostX.seq (fun t' H' n' => ∃ M', H' = hp H M' ∧ (hp H (sM (i + 1))).le (hp H M') ∧ n' ≤ sn (i + 1)) (fun _ _ _ _ => False)) t H2 n2) ops2 t H1 n1) ops1
        (dense N ((p1, pb i (sn i)) :: (p0, pa i (sn i)) :: L)) (hp H ((sn i, some (.cells (dd i) false)) :: sM i)) (sn i + 1))
    (h : IW P W none cs Q (dense N L) (hp H (sM k)) (sn k)) :
    IW P W none (.rangeFunc g #[p0, p1] (.seq (.region i1 ops1.toArray false) (.region i2 ops2.toArray false)) body :: cs) Q (dense N L) (hp H M) n := by
  intro ρ0 w0 m0 ρ a w hs
  have hgv := hs.tr.ev g
  rw [pl hg] at hgv
  generalize hga : a.eval g = gv at hgv
  cases hgv with
  | func _ h1 h2 h3 h4 =>
    rename_i b lb
    have hb0 : b = #[] := Array.size_eq_zero_iff.1 (by rw [← h1]; rfl)
    subst hb0
    have hmarks : ∀ D, mark D ∈ a.defers → D < w.heap.size := by
      intro D hD
      obtain ⟨ds, e1, e2, e3⟩ := hs.coll
      rw [e1] at hD
      obtain ⟨D', hD', e⟩ := List.mem_map.1 hD
      have : D' = D := by simpa [mark] using e
      subst this
      exact (Array.getElem?_eq_some_iff.1 (e3 D' hD').2).1
    have eg : ∀ args w, (callFunc gf args).run P w = .ok (.enter gf args) w := by
      intro args w1
      obtain ⟨c, hc⟩ := Option.isSome_iff_exists.1 hb
      have hn' : ¬ fn.name = "runtime.NumGoroutine" := by simpa using hname
      simp [callFunc, hf, hn', hc, Sem.run]
    refine wpIn_any (n := 2) (wpIn_rangeFunc ?_)
    intro fnid hfn
    obtain ⟨rec, hrec⟩ : ∃ rec : LoopState → Option Code → Loop, rec = fun st pe => { state := st, pending := pe, fn := fnid, tmps := a.tmps, params := #[p0, p1], assign := .seq (.region i1 ops1.toArray false) (.region i2 ops2.toArray false), body, defers := w.heap.size } := ⟨_, rfl⟩
    obtain ⟨W1, hW1⟩ : ∃ W1, (w.alloc (.deferred (some []))).alloc (.loop (rec .ready none)) = W1 := ⟨_, rfl⟩
    have hsz1 : W1.heap.size = w.heap.size + 2 := by rw [← hW1, World.size_alloc, World.size_alloc]
    have hL1 : W1.heap[w.heap.size + 1]? = some (.loop (rec .ready none)) := by
      rw [← hW1]; have := World.alloc_heap_new (w.alloc (.deferred (some []))) (.loop (rec .ready none)); rwa [World.size_alloc] at this
    have hK1 : W1.heap[w.heap.size]? = some (.deferred (some [])) := by
      rw [← hW1]; exact (Go.RowKit.Below.heap_alloc _ _ _ (by simp)).trans (World.alloc_heap_new w _)
    have hg1 : w.grownBy W1 none := by
      rw [← hW1]
      have g1 := World.grownBy_alloc w (.deferred (some [])) none
      have g2 := World.grownBy_alloc (w.alloc (.deferred (some []))) (.loop (rec .ready none)) none
      exact ⟨g2.os.trans g1.os, g2.tape.trans g1.tape, g2.output.trans g1.output, Nat.le_trans g1.size g2.size, fun k hk hne => (g2.block k (Nat.lt_of_lt_of_le hk g1.size) hne).trans (g1.block k hk hne)⟩
    have hs1 : St W ρ0 w0 m0 (dense N L) (hp H M) n ρ a W1 := hs.turned hg1 fun r e => by cases e
    have hold0 : ∀ id o r κ, hp H (sM 0) id = some o → ρ id = some (r, κ) → r < w.heap.size := by
      intro id o r κ ho hr
      obtain ⟨r', κ', e1, e2⟩ := hs.heap.obj id o (hM id o ho)
      rw [hr] at e1; cases e1
      exact e2.lt
    refine ⟨w.heap.size + 1, [{ target := .collected w.heap.size, args := #[] }], W1, { target := .fn (.func gf) lb, args := #[.func (.yield (w.heap.size + 1)) #[] #[]] }, W1, gf,
      #[.func (.yield (w.heap.size + 1)) #[] #[]] ++ lb, W1, ?_, ?_, ?_, ?_, fun _ => by omega, ?_⟩
    · rw [← hW1, hrec]; exact run_enterLoop_outer _ _ _ _ _
    · simp only [resolve, hga]
      simp [go_sem]
    · intro f' hf'; trivial
    · simp [invoke, go_sem, eg]
    -- a block that is neither a row of the caller's nor a mark
    have hst : ∀ B i ρs W2 W3 row, W1.heap.size ≤ B → ρ.le ρs → (∀ id, n ≤ id → ∀ r κ, ρs id = some (r, κ) → r ≠ B) → St W ρ0 w0 m0 (dense N L) (hp H (sM i)) (sn i) ρs a W2 → W2.grownBy W3 row → (∀ r, row = some r → r = B ∨ (r = w.heap.size + 1 ∧ ∃ x, W2.heap[r]? = some (.loop x))) → St W ρ0 w0 m0 (dense N L) (hp H (sM i)) (sn i) ρs a W3 := by
      intro B i ρs W2 W3 row hBB hle1 hB hst hgr hrow
      refine hst.turned hgr fun r e => ?_
      have h0 := hs.step.size
      rcases hrow r e with rfl | ⟨rfl, x, hx⟩
      · refine ⟨by omega, fun id o κ ho hr => ?_, fun D hD e => by have := hmarks D hD; omega⟩
        by_cases hidn : id < n
        · obtain ⟨o2, ho2⟩ := Option.isSome_iff_exists.1 (hid i id (by rw [ho]; rfl) hidn)
          obtain ⟨r', κ', e1, _⟩ := hs.heap.obj id o2 (hM id o2 ho2)
          have h5 := hold0 id o2 r' κ' ho2 e1
          have := hle1 _ _ e1
          rw [hr] at this; cases this
          omega
        · exact hB id (by omega) _ _ hr rfl
      · refine ⟨by omega, fun id o κ ho hr => ?_, fun D hD e => by have := hmarks D hD; omega⟩
        obtain ⟨r', κ', e1, e2⟩ := hst.heap.obj id o ho
        rw [hr] at e1; cases e1
        obtain ⟨c, ro, rfl⟩ := hcl i id o ho
        obtain ⟨c', T, fz, e3, _⟩ := e2
        rw [hx] at e3; cases e3
    refine (hit W1 ρ lb hs1.below hs1.heap h3.symm h4 (w.heap.size + 1)
      (fun B i W2 => (∃ ρs, ρ.le ρs ∧ (∀ id, n ≤ id → ∀ r κ, ρs id = some (r, κ) → r ≠ B ∧ ∀ j ∈ ks, ∀ κ', ρ j ≠ some (r, κ')) ∧ St W ρ0 w0 m0 (dense N L) (hp H (sM i)) (sn i) ρs a W2) ∧ W2.heap[w.heap.size + 1]? = some (.loop (rec .ready none)) ∧ W2.heap[w.heap.size]? = some (.deferred (some [])) ∧ W1.heap.size ≤ W2.heap.size)
      ?_ ?_ (fun B hBB => ⟨⟨ρ, ρ.le_refl, (fun id hid r κ e => by rw [hs.below id hid] at e; cases e), hs1.forget (fgt_mk rfl fun i x y h1 h2 => by rw [h1] at h2; cases h2; exact .inr rfl) hM hn⟩, hL1, hK1, Nat.le_refl _⟩)).mono ?_
    · rintro B i W2 W3 row hBB ⟨⟨ρs, hle1, hB, hs2⟩, hl, hk, hsz⟩ hgr hrow
      have hlt := (Array.getElem?_eq_some_iff.1 hl).1
      have hlt2 := (Array.getElem?_eq_some_iff.1 hk).1
      refine ⟨⟨ρs, hle1, hB, hst B i ρs W2 W3 row hBB hle1 (fun id h r κ e => (hB id h r κ e).1) hs2 hgr fun r e => .inl (hrow r e)⟩, ?_, ?_, Nat.le_trans hsz hgr.size⟩
      · rw [hgr.block _ hlt (fun e => by have := hrow _ e.symm; omega)]; exact hl
      · rw [hgr.block _ hlt2 (fun e => by have := hrow _ e.symm; omega)]; exact hk
    · -- one round
      rintro B i r W0 Wy row hBB hik ⟨⟨ρs, hle1, hB, hs0⟩, hl0, hk0, hsz⟩ hgr hrow hr0 hrB hBy ⟨c', T, fz, hrow1, hrow2, hrow3, hrow4⟩ yv hyv
      have hlt0 := (Array.getElem?_eq_some_iff.1 hl0).1
      have hlt02 := (Array.getElem?_eq_some_iff.1 hk0).1
      have hl : Wy.heap[w.heap.size + 1]? = some (.loop (rec .ready none)) := by rw [hgr.block _ hlt0 (fun e => by have := hrow _ e.symm; omega)]; exact hl0
      have hk : Wy.heap[w.heap.size]? = some (.deferred (some [])) := by rw [hgr.block _ hlt02 (fun e => by have := hrow _ e.symm; omega)]; exact hk0
      have hsy := hst B i ρs W0 Wy row hBB hle1 (fun id h r κ e => (hB id h r κ e).1) hs0 hgr fun r e => .inl (hrow r e)
      have hry : r < Wy.heap.size := (Array.getElem?_eq_some_iff.1 hrow1).1
      have hnone : ρs (sn i) = none := hs0.below _ (Nat.le_refl _)
      obtain ⟨ρ', hρ'⟩ : ∃ ρ', ρ' = ρs.add (sn i) r c'.size := ⟨_, rfl⟩
      have hle' : ρs.le ρ' := by rw [hρ']; exact Ren.add_le hnone
      have hnew : ρ' (sn i) = some (r, c'.size) := by rw [hρ']; simp [Ren.add]
      have hoth : ∀ id, id ≠ sn i → ρ' id = ρs id := fun id hne => by rw [hρ']; simp [Ren.add, hne]
      have hbel : Below (sn i + 1) ρ' := fun id hid => by rw [hoth id (by omega)]; exact hs0.below id (by omega)
      have hblk : ∀ id o r' κ, hp H (sM i) id = some o → ρs id = some (r', κ) → r' < W0.heap.size := by
        intro id o r' κ ho e
        obtain ⟨r2, κ2, e1, e2⟩ := hs0.heap.obj id o ho
        rw [e] at e1; cases e1
        exact e2.lt
      have hheap : HR ρ' (hp H ((sn i, some (.cells (dd i) false)) :: sM i)) Wy := by
        have hsn : hp H (sM i) (sn i) = none := by
          cases ho : hp H (sM i) (sn i) with
          | none => rfl
          | some o =>
            obtain ⟨r2, κ2, e1, _⟩ := hs0.heap.obj _ o ho
            rw [hnone] at e1; cases e1
        refine ⟨fun id o ho => ?_, fun x y ox oy r2 κ2 κ3 hx hy ex ey => ?_⟩
        · by_cases hi : id = sn i
          · subst hi
            rw [hp_eq] at ho; cases ho
            refine ⟨r, c'.size, hnew, c', T, fz, hrow1, rfl, hrow2, fun _ => hrow3, fun j v hv => ⟨v, hrow4 j v hv, VR.clo1 _ (hdd i v (List.mem_of_getElem? hv))⟩⟩
          · rw [hp_ne _ _ _ hi] at ho
            obtain ⟨r2, κ2, e1, e2⟩ := hsy.heap.obj id o ho
            exact ⟨r2, κ2, hle' _ _ e1, e2.mono hle'⟩
        · by_cases hi : x = sn i
          · by_cases hj : y = sn i
            · rw [hi, hj]
            · exfalso
              rw [hi, hnew] at ex; cases ex
              rw [hp_ne _ _ _ hj] at hy
              rw [hoth y hj] at ey
              have := hblk y oy _ _ hy ey
              omega
          · rw [hp_ne _ _ _ hi] at hx
            rw [hoth x hi] at ex
            by_cases hj : y = sn i
            · exfalso
              rw [hj, hnew] at ey; cases ey
              have := hblk x ox _ _ hx ex
              omega
            · rw [hp_ne _ _ _ hj] at hy
              rw [hoth y hj] at ey
              exact hsy.heap.inj x y ox oy r2 κ2 κ3 hx hy ex ey
      have hy := run_yield (P := P) (args := #[pa i r, yv]) hl (by rw [hrec]; rfl)
      rw [hrec] at hy
      have htmps : (Array.zip #[p0, p1] #[pa i r, yv]).foldl (fun t q => t.setIfInBounds q.1 q.2) a.tmps = (a.tmps.setIfInBounds p0 (pa i r)).setIfInBounds p1 yv := by simp
      obtain ⟨tm, htm⟩ : ∃ tm, tm = (Array.zip #[p0, p1] #[pa i r, yv]).foldl (fun t q => t.setIfInBounds q.1 q.2) a.tmps := ⟨_, rfl⟩
      have htr : TR ρ' (dense N ((p1, pb i (sn i)) :: (p0, pa i (sn i)) :: L)) ({ tmps := tm, defers := [] } : Act) := by
        have t1 := (hsy.tr.mono hle').put (some p0) (hpa ρ' i (sn i) r _ hnew)
        rw [tput_dense] at t1
        have t2 := t1.put (some p1) (hyv ρ' (sn i) _ hnew)
        rw [tput_dense] at t2
        rw [htm, htmps]
        exact ⟨t2.size, t2.val⟩
      obtain ⟨Wb, hWb⟩ : ∃ Wb : Nat → Prop, Wb = fun id => W id ∧ (∀ i' ∈ ks, ∀ r κ κ', ρ i' = some (r, κ) → ρ' id ≠ some (r, κ')) ∧ ∀ κ, ρ' id ≠ some (B, κ) := ⟨_, rfl⟩
      have hksr : ∀ j ∈ ks, ∀ r' κ, ρ j = some (r', κ) → r' < w.heap.size := by
        intro j hj r' κ e
        obtain ⟨o, ho⟩ := Option.isSome_iff_exists.1 (hks 0 j hj)
        exact hold0 j o r' κ ho e
      have hwn : ∀ id, n ≤ id → Wb id := by
        intro id hid
        rw [hWb]
        refine ⟨hWn id hid, fun j hj r' κ κ' e e' => ?_, fun κ e' => ?_⟩
        · by_cases hi : id = sn i
          · rw [hi, hnew] at e'; cases e'
            have := hksr j hj _ _ e
            omega
          · rw [hoth id hi] at e'
            exact (hB id hid _ _ e').2 j hj _ e
        · by_cases hi : id = sn i
          · rw [hi, hnew] at e'; cases e'; exact hrB rfl
          · rw [hoth id hi] at e'
            exact (hB id hid _ _ e').1 rfl
      have hww : ∀ id ∈ ws, Wb id := by
        intro id hid
        obtain ⟨g1, g2, g3, g4⟩ := hws id hid
        obtain ⟨o, ho⟩ := Option.isSome_iff_exists.1 (g4 i)
        obtain ⟨o0, ho0⟩ := Option.isSome_iff_exists.1 (g4 0)
        obtain ⟨r0, κ0, f1, f2⟩ := hs.heap.obj id o0 (hM id o0 ho0)
        have f3 := hle' _ _ (hle1 _ _ f1)
        rw [hWb]
        refine ⟨g1, fun j hj r' κ κ' e e' => ?_, fun κ e' => ?_⟩
        · rw [f3] at e'; cases e'
          obtain ⟨oj, hoj⟩ := Option.isSome_iff_exists.1 (hks 0 j hj)
          exact g2 (by rw [hs.heap.inj id j o0 oj _ _ _ (hM id o0 ho0) (hM j oj hoj) f1 e]; exact hj)
        · rw [f3] at e'; cases e'
          have := f2.lt
          omega
      refine ⟨fnid, _, _, _, hy, roundIn_of_wpIn trivial ?_⟩
      rw [← htm]
      have hround := round (w.heap.size + 1) i Wb hik hwn hww
      have hst0 : St Wb ρ' Wy (sn i + 1) (dense N ((p1, pb i (sn i)) :: (p0, pa i (sn i)) :: L)) (hp H ((sn i, some (.cells (dd i) false)) :: sM i)) (sn i + 1) ρ' ({ tmps := tm, defers := [] } : Act) Wy := St.refl htr hbel hheap rfl
      refine wpIn_seq (wp_regs hE hround hst0 ?_)
      rintro ρa ta Ha na aa Wa hsa hda hqa
      refine wp_regs hE hqa hsa ?_
      rintro ρ2 t2 H2 n2 a2 W2 hs2 hd2 hq2
      have hd2' : a2.defers = [] := by rw [hd2, hda]
      have hl2 : W2.heap[w.heap.size + 1]? = some (.loop (rec .ready none)) := hs2.step.others _ _ hl rfl
      have hk2 : W2.heap[w.heap.size]? = some (.deferred (some [])) := hs2.step.others _ _ hk rfl
      have hlt2 := (Array.getElem?_eq_some_iff.1 hl2).1
      refine ⟨_, run_beginRound hl2 (by rw [hrec]), ?_⟩
      obtain ⟨W2', hW2'⟩ : ∃ W2', W2' = W2.putObj (w.heap.size + 1) (.loop { rec .ready none with state := .busy }) := ⟨_, rfl⟩
      rw [← hW2']
      have hg2 : W2.grownBy W2' (some (w.heap.size + 1)) := by rw [hW2']; exact grownBy_putObj' W2 _ _
      have hl2' : W2'.heap[w.heap.size + 1]? = some (.loop { rec .ready none with state := .busy }) := by rw [hW2']; exact World.putObj_heap_same hlt2
      have hk2' : W2'.heap[w.heap.size]? = some (.deferred (some [])) := by rw [hW2']; exact (World.putObj_heap_other (by omega)).trans hk2
      -- rows of the ideal memory are cells, so they are not the loop's record
      have hcells : ∀ id o r' κ, H2 id = some o → ρ2 id = some (r', κ) → (∃ c ro, o = .cells c ro) → r' ≠ w.heap.size + 1 := by
        intro id o r' κ ho e ⟨c, ro, hc⟩ hr'
        obtain ⟨r2, κ2, e1, e2⟩ := hs2.heap.obj id o ho
        rw [e] at e1; cases e1
        subst hc
        obtain ⟨c2, T2, fz2, e3, _⟩ := e2
        rw [hr', hl2] at e3; cases e3
      have hmaps : ∀ id o r' κ, H2 id = some o → ρ2 id = some (r', κ) → r' ≠ w.heap.size + 1 := by
        intro id o r' κ ho e hr'
        obtain ⟨r2, κ2, e1, e2⟩ := hs2.heap.obj id o ho
        rw [e] at e1; cases e1
        subst hr'
        cases o with
        | cells c ro => obtain ⟨c2, T2, fz2, e3, _⟩ := e2; rw [hl2] at e3; cases e3
        | map es => obtain ⟨es', clock, e3, _⟩ := e2; rw [hl2] at e3; cases e3
      have hh2 : HR ρ2 H2 W2' := hs2.heap.turn hg2 fun r' e id o κ ho hr' => by cases e; exact hmaps id o _ κ ho hr' rfl
      have hrun := IW.one hq2 ρ2 W2' n2 ρ2 a2 W2' (St.refl hs2.tr hs2.below hh2 hd2')
      refine wpIn_mono hrun ?_
      rintro ex a3 W3 ⟨ρ3, t3, H3, n3, hs3, hq⟩
      cases ex with
      | normal =>
        obtain ⟨M3, rfl, g1, g2⟩ := hq
        have hl3 : W3.heap[w.heap.size + 1]? = some (.loop { rec .ready none with state := .busy }) := hs3.step.others _ _ hl2' rfl
        have hk3 : W3.heap[w.heap.size]? = some (.deferred (some [])) := hs3.step.others _ _ hk2' rfl
        have hlt3 := (Array.getElem?_eq_some_iff.1 hl3).1
        have hend := run_endRound (P := P) none hl3
        refine ⟨_, _, hend, rfl, ?_⟩
        obtain ⟨W4, hW4⟩ : ∃ W4, W4 = W3.putObj (w.heap.size + 1) (.loop { ({ rec .ready none with state := .busy } : Loop) with state := if (none : Option Code).isNone then .ready else .done, pending := none }) := ⟨_, rfl⟩
        rw [← hW4]
        have hg4 : W3.grownBy W4 (some (w.heap.size + 1)) := by rw [hW4]; exact grownBy_putObj' W3 _ _
        have hl4 : W4.heap[w.heap.size + 1]? = some (.loop (rec .ready none)) := by
          rw [hW4, World.putObj_heap_same hlt3, hrec]; rfl
        have hk4 : W4.heap[w.heap.size]? = some (.deferred (some [])) := by rw [hW4]; exact (World.putObj_heap_other (by omega)).trans hk3
        -- blocks that the round may not write
        have hkeep : ∀ b, b < Wy.heap.size → b ≠ w.heap.size + 1 → (∀ id κ, ρ' id = some (b, κ) → ¬ Wb id) → W4.heap[b]? = Wy.heap[b]? := by
          intro b hb hbl hn'
          have e1 := hs2.step.keep b hb hn'
          have hb2 : b < W2.heap.size := Nat.lt_of_lt_of_le hb hs2.step.size
          have e2 := hg2.block b hb2 (fun e => hbl (by cases e; rfl))
          have hb2' : b < W2'.heap.size := Nat.lt_of_lt_of_le hb2 hg2.size
          have e3 := hs3.step.keep b hb2' (hs2.step.noW hb hn')
          have e4 := hg4.block b (Nat.lt_of_lt_of_le hb2' hs3.step.size) (fun e => hbl (by cases e; rfl))
          rw [e4, e3, e2, e1]
        have hBn : ∀ id κ, ρ' id = some (B, κ) → ¬ Wb id := fun id κ e hWb' => by rw [hWb] at hWb'; exact hWb'.2.2 κ e
        have hB2 : ∀ id κ, ρ2 id = some (B, κ) → ¬ Wb id := hs2.step.noW hBy hBn
        have hsize : W1.heap.size ≤ W4.heap.size := by
          have := hs2.step.size; have := hg2.size; have := hs3.step.size; have := hg4.size; omega
        have hleall : ρ.le ρ3 := Ren.le_trans hle1 (Ren.le_trans hle' (Ren.le_trans hs2.step.le hs3.step.le))
        have hgen : ∀ b, b < Wy.heap.size → (∀ id κ, ρ' id = some (b, κ) → ¬ Wb id) → (∀ id, n ≤ id → ∀ κ, ρ' id ≠ some (b, κ)) → ∀ id, n ≤ id → ∀ κ, ρ3 id ≠ some (b, κ) := by
          intro b hb hbn hb0 id hid κ e
          have hbn2 : ∀ id κ, ρ2 id = some (b, κ) → ¬ Wb id := hs2.step.noW hb hbn
          cases h0 : ρ' id with
          | some x =>
            have e' := hs3.step.le _ _ (hs2.step.le _ _ h0)
            rw [e] at e'; cases e'
            exact hb0 id hid κ h0
          | none =>
            cases h2 : ρ2 id with
            | some y =>
              have e' := hs3.step.le _ _ h2
              rw [e] at e'; cases e'
              rcases hs2.step.new id _ _ h0 h2 with h5 | ⟨j, κ', h5, h6⟩
              · omega
              · exact hbn j κ' h5 h6
            | none =>
              rcases hs3.step.new id _ _ h2 e with h5 | ⟨j, κ', h5, h6⟩
              · have := hs2.step.size; have := hg2.size; omega
              · exact hbn2 j κ' h5 h6
        have hbnew : ∀ id, n ≤ id → ∀ r' κ, ρ3 id = some (r', κ) → r' ≠ B ∧ ∀ j ∈ ks, ∀ κ', ρ j ≠ some (r', κ') := by
          intro id hid r' κ e
          refine ⟨fun hr' => ?_, fun j hj κ' e' => ?_⟩
          · subst hr'
            refine hgen r' hBy hBn (fun id hid κ h0 => ?_) id hid κ e
            by_cases hi : id = sn i
            · rw [hi, hnew] at h0; cases h0; exact hrB rfl
            · rw [hoth id hi] at h0; exact (hB id hid _ _ h0).1 rfl
          · have hrw := hksr j hj _ _ e'
            refine hgen r' (by omega) (fun j2 κ2 e2 hWb' => ?_) (fun id hid κ h0 => ?_) id hid κ e
            · rw [hWb] at hWb'; exact hWb'.2.1 j hj r' κ' κ2 e' e2
            · by_cases hi : id = sn i
              · rw [hi, hnew] at h0; cases h0
                omega
              · rw [hoth id hi] at h0; exact (hB id hid _ _ h0).2 j hj _ e'
        have hw0 := hs.step.size
        have hsub : ∀ id x, ρ0 id = some x → Wb id → W id := fun id x _ hWb' => by rw [hWb] at hWb'; exact hWb'.1
        have hstep : Step W ρ0 ρ3 w0 W4 := by
          have s1 : Step W ρ0 ρ' w0 Wy := by
            have := hsy.step.add (m := sn i) (r := r) (κ := c'.size) hnone (by have := hs0.step.size; omega)
            rwa [← hρ'] at this
          have s2 := s1.trans hs2.step hsub
          have s3 := s2.turn hg2 fun r' e => by cases e; omega
          have s4 := s3.trans hs3.step hsub
          exact s4.turn hg4 fun r' e => by cases e; omega
        refine ⟨⟨⟨ρ3, hleall, hbnew, ⟨(hsy.tr.mono hle').mono (Ren.le_trans hs2.step.le hs3.step.le), hs3.below.mono g2, (hs3.heap.sub g1).turn hg4 ?_, hstep, Nat.le_trans hs0.le (hmono i), ?_, ?_⟩⟩, hl4, hk4, hsize⟩, ?_, ?_⟩
        · intro r' e id o κ ho hr'
          cases e
          obtain ⟨r2, κ2, e1, e2⟩ := (hs3.heap.sub g1).obj id o ho
          rw [hr'] at e1; cases e1
          obtain ⟨c, ro, rfl⟩ := hcl (i + 1) id o ho
          obtain ⟨c2, T2, fz2, e3, _⟩ := e2
          rw [hl3] at e3; cases e3
        · intro id x e
          rcases hs3.fresh id x e with e1 | e1
          · rcases hs2.fresh id x e1 with e2 | e2
            · by_cases hi : id = sn i
              · right; have := hs.le; have := hle i; omega
              · rw [hoth id hi] at e2; exact hs0.fresh id x e2
            · right; have := hs.le; have := hle i; omega
          · right; have := hs.le; have := hle i; have := hs2.le; omega
        · obtain ⟨ds, e1, e2, e3⟩ := hsy.coll
          refine ⟨ds, e1, e2, fun D hD => ?_⟩
          obtain ⟨f1, f2⟩ := e3 D hD
          refine ⟨f1, ?_⟩
          have hDw : D < w.heap.size := hmarks D (by rw [e1]; exact List.mem_map.2 ⟨D, hD, rfl⟩)
          have d2 := hs2.step.others D _ f2 rfl
          have d2' : W2'.heap[D]? = some (.deferred (some [])) := by rw [hg2.block D (Array.getElem?_eq_some_iff.1 d2).1 (fun e => by cases e; omega)]; exact d2
          have d3 := hs3.step.others D _ d2' rfl
          rw [hg4.block D (Array.getElem?_eq_some_iff.1 d3).1 (fun e => by cases e; omega)]; exact d3
        · intro id hid r' κ hr'
          have hrk := hksr id hid r' κ hr'
          exact hkeep r' (by omega) (by omega) fun j κ' e hWb' => by rw [hWb] at hWb'; exact hWb'.2.1 id hid r' κ κ' hr' e
        · exact hkeep _ hBy (by omega) hBn
      | _ => exact hq.elim
    · rintro e W2 ⟨⟨v, rfl⟩, B, hBB, ⟨ρs, hle1, hB, hs2⟩, hl, hk, hsz⟩
      have hlt := (Array.getElem?_eq_some_iff.1 hl).1
      have hend := run_endLoop (P := P) hl (by rw [hrec]; simp)
      have hp1 : (rec .ready none).pending = none := by rw [hrec]
      obtain ⟨W5, hW5⟩ : ∃ W5, W5 = W2.putObj (w.heap.size + 1) (.loop { rec .ready none with state := .exhausted }) := ⟨_, rfl⟩
      rw [← hW5, hp1] at hend
      refine ⟨none, _, hend, ?_⟩
      have hs3 := hst B k ρs W2 _ _ hBB hle1 (fun id h r κ e => (hB id h r κ e).1) hs2 (grownBy_putObj' W2 (w.heap.size + 1) (.loop { rec .ready none with state := .exhausted })) fun r e => by cases e; exact .inr ⟨rfl, _, hl⟩
      have hk' : (W2.putObj (w.heap.size + 1) (.loop { rec .ready none with state := .exhausted })).heap[w.heap.size]? = some (.deferred (some [])) := (World.putObj_heap_other (by omega)).trans hk
      rw [← hW5] at hs3 hk'
      refine ⟨ρs, dense N L, hp H (sM k), sn k, ⟨⟨hs3.tr.size, hs3.tr.val⟩, hs3.below, hs3.heap, hs3.step, hs3.le, hs3.fresh, ?_⟩, h⟩
      obtain ⟨ds, e1, e2, e3⟩ := hs3.coll
      refine ⟨w.heap.size :: ds, by simp only [List.map_cons, e1]; rfl, List.nodup_cons.2 ⟨fun hm => ?_, e2⟩, fun D' hD' => ?_⟩
      · have := hmarks w.heap.size (by rw [e1]; exact List.mem_map.2 ⟨_, hm, rfl⟩)
        omega
      · rcases List.mem_cons.1 hD' with rfl | hD'
        · exact ⟨hs.step.size, hk'⟩
        · exact e3 D' hD'
end
end Go.Proofs.Ytdnnojblneccdaa
/-
  Iterators with a row of their own: their calls of yield under a guard; what is kept of a state.
-/
namespace Go.Proofs.Ytdnnojblneccdaa
set_option linter.unusedSimpArgs false
set_option linter.unusedVariables false
open Go
open Enc (enc)
section
variable {P : Program} {Γ : Fns} {D : Ty} {K : Kinds} {N : Nat} {L : List (Nat × Value)} {H : IHeap} {M : Ups} {n : Nat} {ρ : Ren} {a : Act} {w : World}
theorem wanted_ok {ops : Array Oper} {t : List Value} {o : Oper} {b : Bool} (htr : TR ρ t a) (hw : wantedI ops t o = some b) : Region.wanted o (yielded ops a.tmps) = b := by
  unfold wantedI at hw
  unfold Region.wanted
  split at hw
  · rename_i hg; rw [hg]; cases hw; rfl
  · rename_i j want hg
    rw [hg]
    split at hw
    · rename_i d hd
      simp only [Option.bind_eq_some_iff] at hw
      obtain ⟨x, ht, hx⟩ := hw
      obtain ⟨y, e1, e2⟩ := htr.val d _ ht
      have := wantV_rel hx e2
      simp only [yielded, hd, Option.bind_some, e1]
      exact this
    · cases hw
/-- the call of yield, of two values, under a guard that holds -/
theorem op_yield2 {ops : Array Oper} {i l t1 t2 : Nat} {js : List Nat} {o : Oper} {f x y : Operand} {d : Tmp} {Q' : Exit → Act → World → Prop} {Rr : Ending → World → Prop} (ho : ops[i]? = some o) (hw : Region.wanted o (yielded ops a.tmps) = true) (hd : o.dst = some d) (hop : o.op = .call ⟨.value f, #[x, y], #[t1, t2]⟩)
    (hf : a.eval f = .func (.yield l) #[] #[]) (hy : YieldAt (FW none) 0 P l #[a.eval x, a.eval y] w Rr)
    (hk : ∀ e w', Rr e w' → ∃ v, e = .returned v ∧ wpOpsIn (FW none) 0 P ops Q' js (a.put (some d) v) w') : wpOpsIn (FW none) 0 P ops Q' (i :: js) a w := by
  unfold wpOpsIn
  rw [ho]
  show (if Region.wanted o _ = true then _ else _)
  rw [if_pos hw]
  refine ⟨FW_about, ?_⟩
  obtain ⟨fn, tmps, assign, body, h1, h2⟩ := hy
  have hrun : (o.semAt (FW none).round a.eval).run P w = .ok (.round l fn tmps assign body) w := by
    show (execOp a.eval o).run P w = _
    obtain ⟨dst, op, type, pos, after, guard⟩ := o
    simp only at hop
    subst hop
    simp only [execOp, resolve, hf, Deferred.ofValue]
    simpa [invoke] using h1
  rw [hrun]
  refine ⟨fun h => (by cases h), h2.mono fun e w' he => ?_⟩
  obtain ⟨v, rfl, h3⟩ := hk e w' he
  show wpOpsIn _ _ _ _ _ _ _ _
  rw [hd]; exact h3
theorem St.want {V : Nat → Prop} {ρ0 : Ren} {w0 : World} {m0 n' : Nat} {L' : List (Nat × Value)} {H' : IHeap} (h : St V ρ0 w0 m0 (dense N L) H n ρ a w) (hs : subL L' L) (hH : H'.le H) (hn : n ≤ n') : St V ρ0 w0 m0 (dense N L') H' n' ρ a w :=
  h.forget (fgt_dense hs) hH hn
/-- only rows of new numbers, and that of one old one, were written -/
theorem St.grows {m0 own B κ : Nat} {ρ0 : Ren} {w0 : World} {t : List Value} (h : St (fun id => id = own ∨ m0 ≤ id) ρ0 w0 m0 t H n ρ a w) (hb : Below m0 ρ0) (ho : ρ0 own = some (B, κ)) : w0.grownBy w (some B) := by
  refine ⟨h.step.os, h.step.tape, h.step.output, h.step.size, fun k hk hne => h.step.keep k hk fun id κ' e hV => ?_⟩
  rcases hV with rfl | hV
  · rw [ho] at e; cases e; exact hne rfl
  · rw [hb id hV] at e; cases e
theorem St.grows0 {m0 : Nat} {ρ0 : Ren} {w0 : World} {t : List Value} (h : St (fun id => m0 ≤ id) ρ0 w0 m0 t H n ρ a w) (hb : Below m0 ρ0) : w0.grownBy w none := by
  refine ⟨h.step.os, h.step.tape, h.step.output, h.step.size, fun k hk hne => h.step.keep k hk fun id κ' e hV => ?_⟩
  rw [hb id hV] at e; cases e
/-- the head of a region -/
theorem ops_head {V : Nat → Prop} {ρ0 : Ren} {w0 : World} {m0 : Nat} (hE : Env P Γ D K) {id : Nat} {ops : List Oper} {Q : Post3} {Q' : Exit → Act → World → Prop} (i : Nat) (js : List Nat) (hi : i ≤ ops.length) (hr : List.range ops.length = List.range i ++ js)
    {t : List Value} (h1 : vcS Γ D K V ops.toArray Q (ops.take i) t H n) (hs : St V ρ0 w0 m0 t H n ρ a w)
    (hk : ∀ ρ' t' H' n' a' w', St V ρ0 w0 m0 t' H' n' ρ' a' w' → a'.defers = a.defers → Q t' H' n' → wpOpsIn (FW none) 0 P ops.toArray Q' js a' w') :
    (Code.region id ops.toArray false).wpIn (FW none) 0 P Q' a w := by
  refine wpIn_region ?_
  rw [List.size_toArray, hr]
  have hmap : (List.range i).map (fun i => ops.toArray[i]?) = (ops.take i).map some := by
    apply List.ext_getElem?
    intro j
    simp only [List.getElem?_map, List.getElem?_toArray, List.getElem?_take]
    by_cases hj : j < i
    · simp [hj, show j < ops.length by omega]
    · simp [hj, List.getElem?_eq_none (show (List.range i).length ≤ j by simp; omega)]
  exact vcS_okJ hE js _ _ _ _ _ ρ a w hmap h1 hs hk
/-- the value of a row of plain cells, read as a whole -/
theorem St.evalv {V : Nat → Prop} {ρ0 : Ren} {w0 : World} {m0 : Nat} {x : Operand} {v : Value} (h : St V ρ0 w0 m0 (dense N L) H n ρ a w) (hx : opd N L x = some v) : VR ρ v (a.eval x) := by
  have := h.tr.ev x
  rwa [pl hx] at this
end
/-- reading looks at the blocks of the slice alone -/
theorem rdC_restr {α : Type} [Row α] {H : IHeap} {ks : List Nat} {x : Value} {l : List α} (h : rdC H x = some l) (hk : ∀ id ∈ blk x, id ∈ ks) : rdC (restr ks H) x = some l := by
  obtain ⟨a, cap, rfl⟩ := rdC_len h
  rcases rdC_inv h with ⟨rfl, _, rfl, rfl⟩ | ⟨id, off, sp, c, ro, rfl, hc, hle, hl, _⟩
  · rfl
  · have : restr ks H id = some (.cells c ro) := by simp only [restr]; rw [if_pos (hk id (by simp [blk]))]; exact hc
    exact rdC_mk this hle hl rfl
end Go.Proofs.Ytdnnojblneccdaa
/-
  Appends that move, of elements of several cells; calls that bring many rows; memory taken as it stands; slices closed.
-/
namespace Go.Proofs.Ytdnnojblneccdaa
set_option linter.unusedSimpArgs false
set_option linter.unusedVariables false
open Go
open Enc (enc)
section
variable {α : Type} [Row α] {Γ : Fns} {D : Ty} {K : Kinds} {e : Operand → Value} {H : IHeap} {n : Nat}
theorem ox_appM {t t2 el el2 : TypeId} {s y : Operand} {id off len cap : Nat} {x : Value} {d d2 de : TD} {l1 l : List α} (hs : e s = .slice (some ⟨id, off, none⟩) len cap) (hx : e y = x) (hd : D t = some d) (hk : d.k = .slice el) (hde : D el = some de) (hd2 : D t2 = some d2) (hk2 : d2.k = .slice el2) (hsz : de.size = Row.sz α)
    (hr : rdC H (.slice (some ⟨id, off, none⟩) len cap) = some l1) (h : rdC H x = some l) (hc : cap < len + l.length) (hm : (len + l.length) * de.bytes ≤ most) (hb : 1 ≤ de.bytes) :
    iopC Γ D K e H n (.call ⟨.builtin .append, #[s, y], #[t, t2]⟩) = some ⟨.slice (some ⟨n, 0, some de.size⟩) (len + l.length) (len + l.length), [(n, some (.cells (cels (l1 ++ l)) false))], n + 1⟩ := by
  have hsrc := srcArg_rdC (α := α) (de := de) hd2 hk2 hsz h
  obtain ⟨_, h2⟩ := rdC_src hr
  have hcl : ¬ (len + l.length ≤ cap ∧ closed (some ⟨id, off, none⟩) = true) := by omega
  simp only [iopC, iop, doBuiltin, doAppend, List.map_cons, List.map_nil, hs, hx, hd, hk, hde, hsrc, Option.bind_some, List.getElem?_toArray, List.getElem?_cons_zero, List.getElem?_cons_succ]
  rw [if_neg hcl, if_pos ⟨hm, hb⟩]
  simp only [hsz, h2, Option.bind_some, new, cels_append]
end
theorem putH_app : ∀ (a b M : Ups), putH (a ++ b) M = putH b (putH a M)
  | [], b, M => rfl
  | p :: a, b, M => putH_app a b (p :: M)
theorem wAll_upL {p : Nat → Prop} : ∀ {cs : List (List Value)} {n : Nat}, (∀ id, n ≤ id → id < n + cs.length → p id) → wAll p (upL n cs)
  | [], _, _ => trivial
  | c :: cs, n, h => ⟨h n (Nat.le_refl _) (by simp), wAll_upL fun id h1 h2 => h id (by omega) (by rw [List.length_cons]; omega)⟩
theorem hp_upL_low {H : IHeap} : ∀ {cs : List (List Value)} {n id : Nat} {M : Ups}, id < n → hp H (putH (upL n cs) M) id = hp H M id
  | [], n, id, M, _ => rfl
  | c :: cs, n, id, M, h => by
    show hp H (putH (upL (n + 1) cs) ((n, _) :: M)) id = _
    rw [hp_upL_low (by omega), hp_ne _ _ _ (by omega)]
theorem hp_upL_at {H : IHeap} : ∀ {cs : List (List Value)} {n i : Nat} {M : Ups} (h : i < cs.length), hp H (putH (upL n cs) M) (n + i) = some (.cells cs[i] false)
  | c :: cs, n, 0, M, h => by
    show hp H (putH (upL (n + 1) cs) ((n, _) :: M)) n = _
    rw [hp_upL_low (by omega), hp_eq]; rfl
  | c :: cs, n, i + 1, M, h => by
    have := hp_upL_at (H := H) (cs := cs) (n := n + 1) (i := i) (M := (n, some (.cells c false)) :: M) (by simpa using h)
    rw [show n + (i + 1) = n + 1 + i by omega]
    exact this
section
variable {P : Program} {W : Nat → Prop} {R : Option Nat} {N : Nat} {L : List (Nat × Value)} {H : IHeap} {M : Ups} {n : Nat}
/-- the memory as it stands, with what is known of it -/
theorem IW.rebase {cs : List Code} {Q : PostX} {t : List Value} (F : IHeap → Prop) (hF : F (hp H M)) (h : ∀ H2, F H2 → IW P W R cs Q t (hp H2 []) n) : IW P W R cs Q t (hp H M) n := h _ hF
/-- a slice whose room is not known any more -/
def SlQ (s : Sl) : Prop := (s.a = none ∧ s.len = 0 ∧ s.cap = 0) ∨ ∃ id off sp, s.a = some ⟨id, off, sp⟩ ∧ s.len ≤ s.cap
theorem rdC_close {α : Type} [Row α] {H : IHeap} {id off len cap cap' : Nat} {sp : Option Nat} {l : List α} (h : rdC H (.slice (some ⟨id, off, sp⟩) len cap) = some l) : rdC H (.slice (some ⟨id, off, none⟩) len cap') = some l := by
  obtain ⟨a', c', e⟩ := rdC_len h
  simp only [Value.slice.injEq] at e
  rcases rdC_inv h with ⟨h1, _⟩ | ⟨id', off', sp', c, ro, h1, hc, hle, hl, hz⟩
  · cases h1
  · cases h1
    exact rdC_mk hc hle hl e.2.1.symm
theorem IW.closeS {cs : List Code} {Q : PostX} {s : Sl} (u : Nat) (hne : cs ≠ []) (hu : opd N L (.tmp u) = some (enc s)) (hq : SlQ s)
    (h : ∀ s' : Sl, SlP s' → s'.len = s.len → (∀ (α : Type) [Row α] (H : IHeap) (l : List α), rdC H (enc s) = some l → rdC H (enc s') = some l) → IW P W R cs Q (dense N ((u, enc s') :: L)) (hp H M) n) : IW P W R cs Q (dense N L) (hp H M) n := by
  obtain ⟨a, len, cap⟩ := s
  rcases hq with ⟨e1, e2, e3⟩ | ⟨id, off, sp, e1, e2⟩
  · simp only at e1 e2 e3
    subst e1; subst e2; subst e3
    rw [← dense_self hu]
    exact h _ (.inl ⟨rfl, rfl, rfl⟩) rfl fun α _ H l hl => hl
  · simp only at e1 e2
    subst e1
    refine IW.close u hne (id := id) (off := off) (len := len) (cap := cap) (sp := sp) hu fun cap' hc => ?_
    exact h ⟨some ⟨id, off, none⟩, len, cap'⟩ (.inr ⟨id, off, rfl, Nat.le_trans e2 hc⟩) rfl fun α _ H l hl => rdC_close hl
end
end Go.Proofs.Ytdnnojblneccdaa
/-
  A world as ideal memory, with slices of slices: what is empty and of no known place lies in its own row.
-/
namespace Go.Proofs.Ytdnnojblneccdaa
set_option linter.unusedSimpArgs false
set_option linter.unusedVariables false
open Go
open Enc (enc)
open Row (cel)
def conv2 (W : World) (id : Nat) (v : Value) : Value := match v with
  | .slice (some _) 0 0 => .slice (some ⟨id, 0, none⟩) 0 0
  | v => conv W v
def HW2 (W : World) : IHeap := fun id => match W.heap[id]? with
  | some (.cells c _ _) => some (.cells (c.toList.map (conv2 W id)) true)
  | _ => none
theorem conv2_vr (W : World) (id : Nat) (v : Value) : VR (ρW W) (conv2 W id v) v := by
  unfold conv2
  split
  · exact .void _
  · exact conv_vr W v
theorem HW2_hr (W : World) : HR (ρW W) (HW2 W) W := by
  refine ⟨fun id o h => ?_, fun i j o p r κ κ' _ _ h1 h2 => ?_⟩
  · unfold HW2 at h
    split at h
    · rename_i c T fz hc
      cases h
      refine ⟨id, c.size, by simp only [ρW, hc], c, T, fz, hc, rfl, by simp, (fun h => by cases h), fun i v hv => ?_⟩
      rw [List.getElem?_map, Option.map_eq_some_iff] at hv
      obtain ⟨v', h1, rfl⟩ := hv
      exact ⟨v', by simpa using h1, conv2_vr W id v'⟩
    · cases h
  · unfold ρW at h1 h2
    split at h1 <;> cases h1
    split at h2 <;> cases h2
    rfl
section
variable {P : Program} {W : World} {T : Type} {en : TypeId × Value → T}
/-- the cells of such an element, as they are seen from their row, are those of a member of that Lean type of which something holds -/
def ElemR (T : Type) (P : Program) (W : World) (e : TypeId) (α : Type) [Row α] (Ex : α → Prop) : Prop :=
  P.cellsOf e = Row.sz α ∧ ∀ (en : TypeId × Value → T) (held : Bool) (fuel : Nat) (cs : List Value) x (r : Nat), (HW2 W r).isSome = true → DataW.trod en P W 0 (fun _ => true) held fuel e cs = some x → ∃ a : α, cs.map (conv2 W r) = cel a ∧ Ex a
theorem chunksE {α : Type} [Row α] {Ex : α → Prop} : ∀ (k : Nat) (cs : List Value), cs.length = k * Row.sz α → (∀ i, i < k → ∃ a : α, (cs.drop (i * Row.sz α)).take (Row.sz α) = cel a ∧ Ex a) → ∃ l : List α, l.length = k ∧ cs = cels l ∧ ∀ a ∈ l, Ex a
  | 0, cs, h, _ => ⟨[], rfl, by
    have : cs = [] := List.length_eq_zero_iff.1 (by omega)
    rw [this]; rfl, fun a ha => by cases ha⟩
  | k + 1, cs, h, hk => by
    obtain ⟨a, ha, hx⟩ := hk 0 (by omega)
    rw [Nat.zero_mul, List.drop_zero] at ha
    obtain ⟨l, hl, hc, hE⟩ := chunksE (α := α) (Ex := Ex) k (cs.drop (Row.sz α)) (by rw [List.length_drop, h, Nat.add_mul, Nat.one_mul, Nat.add_sub_cancel]) (fun i hi => by
      obtain ⟨a, ha, hx⟩ := hk (i + 1) (by omega)
      refine ⟨a, ?_, hx⟩
      rw [List.drop_drop]
      rw [Nat.add_mul, Nat.one_mul, Nat.add_comm] at ha
      exact ha)
    refine ⟨a :: l, by simp [hl], ?_, fun b hb => ?_⟩
    · rw [cels_cons, ← ha, ← hc, List.take_append_drop]
    · rcases List.mem_cons.1 hb with rfl | hb
      · exact hx
      · exact hE b hb
theorem addr_plus (r o k : Nat) : Addr.add ⟨r, o, none⟩ k = ⟨r, o + k, none⟩ := by
  unfold Addr.add; split
  · rename_i h0; rw [h0]; rfl
  · rfl
/-- where a slice that can be read lies -/
theorem sl_of_trod {t e fuel : Nat} {held : Bool} {v : Value} {x : DataW T × List MemPlace} (ht : P.underlying t = some (.slice e)) (hz : 0 < P.cellsOf e) (h : DataW.trod en P W 0 (fun _ => true) held fuel t [v] = some x) :
    v = .slice none 0 0 ∨ (∃ a, v = .slice (some a) 0 0) ∨ ∃ r off len cap c T fz, v = .slice (some ⟨r, off, none⟩) len cap ∧ 1 ≤ cap ∧ len ≤ cap ∧ W.heap[r]? = some (.cells c T fz) ∧ off ≤ c.size := by
  rcases DataW.trod_slice ht h with ⟨h1, _⟩ | ⟨a, len, cap, elems, rest, m, _, h1, _, _, h2, h3, h4, h5, h6, _⟩
  · simp only [List.cons.injEq, and_true] at h1
    exact .inl h1
  · simp only [List.cons.injEq, and_true] at h1
    subst h1
    by_cases hc : cap = 0
    · subst hc
      have : len = 0 := by omega
      subst this
      exact .inr (.inl ⟨a, rfl⟩)
    · refine .inr (.inr ?_)
      have hcell : ∃ cs : List Value, W.cells? 0 a (P.cellsOf e) = some cs := by
        by_cases hl : len = 0
        · subst hl
          obtain ⟨h7, h8⟩ := h6 rfl
          have h9 := h8 0 (by omega)
          rw [List.getElem?_eq_getElem (by omega), Option.bind_eq_some_iff] at h9
          obtain ⟨cs, h10, _⟩ := h9
          have e0 : a.add ((0 + 0) * P.cellsOf e) = a := by simp [Addr.add]
          rw [e0] at h10
          exact ⟨cs, h10⟩
        · have h9 := h5 0 (by omega)
          rw [List.getElem?_eq_getElem (by omega), Option.bind_eq_some_iff] at h9
          obtain ⟨cs, h10, _⟩ := h9
          have e0 : a.add (0 * P.cellsOf e) = a := by simp [Addr.add]
          rw [e0] at h10
          exact ⟨cs, h10⟩
      obtain ⟨cs, h10⟩ := hcell
      obtain ⟨_, h13, h14⟩ := World.cells?_some h10
      have h15 := h14 0 hz
      rw [List.getElem?_eq_getElem (by omega)] at h15
      have e0 : a.add 0 = a := by simp [Addr.add]
      rw [e0] at h15
      have hsp := World.cell?_spot h15
      obtain ⟨r, off, sp⟩ := a
      simp only at hsp; subst hsp
      unfold World.cell? at h15
      split at h15
      · rename_i c Ty fz hr
        simp only [Option.isSome_none, Bool.false_eq_true, if_false] at h15
        have := (Array.getElem?_eq_some_iff.1 h15).1
        exact ⟨r, off, len, cap, c, Ty, fz, rfl, by omega, h2, hr, by omega⟩
      · cases h15
/-- a slice that leads into the world, as a list -/
theorem rdC_world2 {α : Type} [Row α] {Ex : α → Prop} {t e fuel len cap r off : Nat} {held : Bool} {c : Array Value} {Ty : TypeId} {fz : Nat × Nat} {x : DataW T × List MemPlace} (ht : P.underlying t = some (.slice e)) (he : ElemR T P W e α Ex) (h7 : W.heap[r]? = some (.cells c Ty fz)) (h8 : off ≤ c.size)
    (h : DataW.trod en P W 0 (fun _ => true) held fuel t [.slice (some ⟨r, off, none⟩) len cap] = some x) : ∃ l : List α, rdC (HW2 W) (.slice (some ⟨r, off, none⟩) len cap) = some l ∧ ∀ a ∈ l, Ex a := by
  rcases DataW.trod_slice ht h with ⟨h1, _⟩ | ⟨a, len', cap', elems, rest, m, _, h1, _, _, h2, h3, h4, h5, _, _⟩
  · simp at h1
  · simp only [List.cons.injEq, and_true] at h1
    cases h1
    obtain ⟨he1, he2⟩ := he
    have hH : HW2 W r = some (.cells (c.toList.map (conv2 W r)) true) := by simp only [HW2, h7]
    have h9 : ∀ i, i < len → ∃ cs : List Value, cs.length = Row.sz α ∧ (∀ j, j < Row.sz α → c.toList[off + i * Row.sz α + j]? = cs[j]?) ∧ ∃ a : α, cs.map (conv2 W r) = cel a ∧ Ex a := by
      intro i hi
      have h10 := h5 i hi
      rw [he1, List.getElem?_eq_getElem (by omega), Option.bind_eq_some_iff] at h10
      obtain ⟨cs, h11, h12⟩ := h10
      obtain ⟨_, h13, h14⟩ := World.cells?_some h11
      refine ⟨cs, h13, fun j hj => ?_, he2 en held m cs _ r (by rw [hH]; rfl) h12⟩
      rw [← h14 j hj, addr_plus, addr_plus]
      simp [World.cell?, h7]
    have hsz := Row.pos (α := α)
    have hlen : off + len * Row.sz α ≤ c.toList.length := by
      by_cases h0 : len = 0
      · subst h0; simpa using h8
      · obtain ⟨cs, g1, g2, _⟩ := h9 (len - 1) (by omega)
        have g3 := g2 (Row.sz α - 1) (by omega)
        have g4 : cs[Row.sz α - 1]? = some (cs[Row.sz α - 1]'(by omega)) := List.getElem?_eq_getElem _
        rw [g4] at g3
        have g5 := (List.getElem?_eq_some_iff.1 g3).1
        have g6 : (len - 1) * Row.sz α + Row.sz α = len * Row.sz α := by
          rw [← Nat.succ_mul]; congr 1; omega
        omega
    have hseg : (((c.toList.drop off).take (len * Row.sz α)).map (conv2 W r)).length = len * Row.sz α := by
      rw [List.length_map, List.length_take, List.length_drop]; omega
    have hpiece : ∀ i, i < len → ∃ a : α, ((((c.toList.drop off).take (len * Row.sz α)).map (conv2 W r)).drop (i * Row.sz α)).take (Row.sz α) = cel a ∧ Ex a := by
      intro i hi
      obtain ⟨cs, g1, g2, a, g3, g4⟩ := h9 i hi
      refine ⟨a, ?_, g4⟩
      rw [← g3, drop_take_map]
      congr 1
      have g6 : i * Row.sz α + Row.sz α ≤ len * Row.sz α := by
        rw [← Nat.succ_mul]; exact Nat.mul_le_mul_right _ hi
      apply List.ext_getElem?
      intro j
      by_cases hj : j < Row.sz α
      · rw [List.getElem?_take, if_pos hj, List.getElem?_drop, List.getElem?_take, if_pos (by omega), List.getElem?_drop, ← g2 j hj]
        congr 1; omega
      · rw [List.getElem?_take, if_neg hj, List.getElem?_eq_none (by omega)]
    obtain ⟨l, hl, hcs, hE⟩ := chunksE (α := α) (Ex := Ex) len _ hseg hpiece
    refine ⟨l, rdC_mk hH (by rw [hl]; simpa using hlen) ?_ hl, hE⟩
    rw [drop_take_map, hl, hcs]
theorem elemR_u8 {t : TypeId} (ht : P.underlying t = some (.int .u8)) (hc : P.cellsOf t = 1) : ElemR T P W t UInt8 fun _ => True := by
  refine ⟨hc, fun en held fuel cs x r _ h => ?_⟩
  obtain ⟨a, h1, h2⟩ := (elemOk_u8 (H := T) (W := W) ht hc).2 en _ held fuel cs x h
  refine ⟨a, ?_, trivial⟩
  rw [h1]; rfl
/-- a slice inside a row, as it is seen from there, and what it spans -/
theorem sl_in {α : Type} [Row α] {Ex : α → Prop} {t e fuel r : Nat} {held : Bool} {v : Value} {x : DataW T × List MemPlace} (ht : P.underlying t = some (.slice e)) (he : ElemR T P W e α Ex) (hr : (HW2 W r).isSome = true) (h : DataW.trod en P W 0 (fun _ => true) held fuel t [v] = some x) :
    ∃ (s : Sl) (l : List α), conv2 W r v = enc s ∧ rdC (HW2 W) (enc s) = some l ∧ ∀ a ∈ l, Ex a := by
  have hz : 0 < P.cellsOf e := by rw [he.1]; exact Row.pos
  rcases sl_of_trod ht hz h with rfl | ⟨a, rfl⟩ | ⟨r', off, len, cap, c, Ty, fz, rfl, h1, h2, h3, h4⟩
  · exact ⟨⟨none, 0, 0⟩, [], rfl, rfl, fun a ha => by cases ha⟩
  · refine ⟨⟨some ⟨r, 0, none⟩, 0, 0⟩, [], rfl, ?_, fun a ha => by cases ha⟩
    obtain ⟨o, ho⟩ := Option.isSome_iff_exists.1 hr
    have ho' := ho
    unfold HW2 at ho'
    split at ho'
    · cases ho'
      exact rdC_mk (l := ([] : List α)) ho (by simp) (by simp [cels_nil]) rfl
    · cases ho'
  · obtain ⟨l, hl, hE⟩ := rdC_world2 ht he h3 h4 h
    refine ⟨⟨some ⟨r', off, none⟩, len, cap⟩, l, ?_, hl, hE⟩
    have hn : ¬ (len = 0 ∧ cap = 0) := by omega
    show conv2 W r (.slice (some ⟨r', off, none⟩) len cap) = .slice (some ⟨r', off, none⟩) len cap
    unfold conv2
    split
    · rename_i heq
      simp only [Value.slice.injEq] at heq
      exact absurd ⟨heq.2.1, heq.2.2⟩ hn
    · simp only [conv, ρW, h3, Option.isSome_some, if_true]
end
end Go.Proofs.Ytdnnojblneccdaa
/-
  slices.Chunk: the iterator.
-/
namespace Go.Proofs.Ytdnnojblneccdaa
set_option linter.unusedSimpArgs false
set_option linter.unusedVariables false
open Go
open Enc (enc)
set_option maxRecDepth 100000
def pieceV (row off s : Nat) : Value := .slice (some ⟨row, off + s * 128, none⟩) 128 128
def yv (l : Nat) : Value := .func (.yield l) #[] #[]
def pv (b : Nat) : Value := .pointer (some ⟨b, 0, none⟩)
set_option maxHeartbeats 1000000
theorem chunk_gives {H : IHeap} {n b1 b2 row off cap k : Nat} {ro1 ro2 : Bool} {len : Nat} (h1 : H b1 = some (.cells [.slice (some ⟨row, off, none⟩) len cap] ro1)) (h2 : H b2 = some (.cells [.int .i64 128] ro2)) (hlen : len = 128 * k) (hcap : len ≤ cap) (hk : k ≤ 2 ^ 40) :
    Gives Try.prog 114 #[pv b1, pv b2] k (fun i => pieceV row off i) [b1, b2] H n := by
  subst hlen
  intro w ρ lb hbel hh hsz hcaps
  have hlb : ∃ y1 y2, lb = #[y1, y2] := by
    have hsz : lb.size = 2 := hsz
    exact ⟨lb[0], lb[1], by apply Array.ext (by simp [hsz]); intro i h1 h2; match i, (show i < 2 by omega) with | 0, _ => rfl | 1, _ => rfl⟩
  obtain ⟨y1, y2, rfl⟩ := hlb
  have v1 := hcaps 0 _ _ rfl rfl
  have v2 := hcaps 1 _ _ rfl rfl
  obtain ⟨r1, κ1, e1, e2⟩ := hh.obj b1 _ h1
  obtain ⟨c', T, fz, e3, e4, e5, e6, e7⟩ := e2
  obtain ⟨v', e8, e9⟩ := e7 0 _ rfl
  have hex : ∃ r, 0 < k → ∃ κ, ρ row = some (r, κ) := by
    by_cases k0 : k = 0
    · exact ⟨0, fun h => by omega⟩
    · generalize hL : 128 * k = L at e9
      cases e9 with
      | slice _ _ _ h => exact ⟨_, fun _ => ⟨_, h⟩⟩
      | void a => omega
  obtain ⟨r, hrow⟩ := hex
  refine ⟨fun i => pieceV r off i, fun i => by obtain ⟨κ, h⟩ := hrow (by have := i.isLt; omega); exact .slice _ _ _ h, ?_⟩
  intro l J Jx W hW hJ hJx hY h0
  refine callsIn_of_wp (F := FW none) (n := 1) Try.func114 rfl trivial (wpIn_any (n := 0) ?_)
  have hE : Env Try.prog [] D K := env fnsOk_nil
  have q1 : restr [b1, b2] H b1 = some (.cells [.slice (some ⟨row, off, none⟩) (128 * k) cap] ro1) := by simp [restr, h1]
  have q2 : restr [b1, b2] H b2 = some (.cells [.int .i64 128] ro2) := by simp [restr, h2]
  have hlt1 : b1 < n := hbel.lt e1
  have hlt2 : b2 < n := by
    obtain ⟨_, _, e, _⟩ := hh.obj b2 _ h2
    exact hbel.lt e
  have hhW : HR ρ (restr [b1, b2] H) W := by
    refine ⟨fun id o ho => ?_, fun i j o p r κ κ' a b => hh.inj i j o p r κ κ' (restr_le _ _ _ _ a) (restr_le _ _ _ _ b)⟩
    obtain ⟨r, κ, g1, g2⟩ := hh.obj id o (restr_le _ _ _ _ ho)
    exact ⟨r, κ, g1, by rw [hW.block r g2.lt]; exact g2⟩
  generalize hHr : restr [b1, b2] H = Hr at q1 q2 hhW
  have hdom : ∀ id o, Hr id = some o → id = b1 ∨ id = b2 := by
    intro id o ho
    rw [← hHr] at ho
    unfold restr at ho
    split at ho
    · rename_i hm; simpa using hm
    · cases ho
  clear hHr
  have st0 : Ist ρ (dense 31 (idxL 0 [yv l, pv b1, pv b2])) (hp Hr []) n { tmps := #[yv l, y1, y2] ++ Array.replicate (31 - (#[yv l, y1, y2] : Array Value).size) undef, defers := [] } W := by
    refine ⟨tr_enter (args := [yv l, pv b1, pv b2]) ⟨rfl, fun i x hx => ?_⟩ (Nat.le_of_ble_eq_true rfl), hbel, hhW, rfl⟩
    have hi : i < 3 := (List.getElem?_eq_some_iff.1 hx).1
    match i, hi, hx with
    | 0, _, hx => cases hx; exact ⟨_, rfl, .func _ rfl (by simp) rfl (by simp)⟩
    | 1, _, hx => cases hx; exact ⟨_, rfl, v1⟩
    | 2, _, hx => cases hx; exact ⟨_, rfl, v2⟩
  refine wpIn_seq (reg_run hE (Q := fun t' H' n' => t' = dense 31 [(4, .int .i64 ((128 * 0 : Nat) : Int)), (0, yv l), (1, pv b1), (2, pv b2)] ∧ hp Hr [] = H' ∧ n = n') ?_ st0 ?_)
  · refine vcS_val rfl rfl (ox_assign (pl rfl)) ?_
    exact vcS_nil ⟨rfl, rfl, rfl⟩
  rintro ρ1 t1 H1 n1 a1 w1 hle1 st1 g1 ⟨rfl, rfl, rfl⟩
  have hj1 := hJ _ _ _ none h0 g1 (fun r e => by cases e)
  refine wpIn_block ?_
  refine wpR_loop (fun j a w => ∃ (s : Nat) (ρs : Ren), s ≤ k ∧ j = k - s ∧ ρ.le ρs ∧ Ist ρs (dense 31 [(4, .int .i64 ((128 * s : Nat) : Int)), (0, yv l), (1, pv b1), (2, pv b2)]) (hp Hr []) n a w ∧ J ((List.finRange k).take s) w) k ⟨0, ρ1, Nat.zero_le _, rfl, hle1, st1, hj1⟩ ?_
  rintro j a2 w2 ⟨s, ρs, hs, rfl, hle, st, hj⟩
  refine wpIn_seq ?_
  refine wpIn_seq (reg_run hE (Q := fun t' H' n' => ∃ L', t' = dense 31 L' ∧ subL [(9, .bool (decide (((128 * s : Nat) : Int) < ((128 * k : Nat) : Int)))), (4, .int .i64 ((128 * s : Nat) : Int)), (0, yv l), (1, pv b1), (2, pv b2)] L' ∧ hp Hr [] = H' ∧ n = n') ?_ st ?_)
  · refine vcS_val rfl rfl (ox_move (pl rfl)) ?_
    refine vcS_val rfl rfl (ox_load (pl rfl) D_35 q1 rfl) ?_
    refine vcS_val rfl rfl (ox_len (pl rfl) D_35 rfl) ?_
    refine vcS_val rfl rfl (ox_bin (pl rfl) (pl rfl) (bo_i64_lss _ _)) ?_
    exact vcS_nil ⟨_, rfl, ⟨rfl, rfl, rfl, rfl, rfl, trivial⟩, rfl, rfl⟩
  rintro ρ2 t2 H2 n2 a3 w3 hle2 st2 g2 ⟨L2, rfl, hsub, rfl, rfl⟩
  have st2 := st2.keep hsub
  have hj2 := hJ _ _ _ none hj g2 (fun r e => by cases e)
  by_cases hlt : s < k
  · refine wpIn_cond_true ((st2.bool (x := .tmp 9) rfl).trans (by rw [decide_eq_true (by omega)])) (wpIn_skip ?_)
    show Code.wpIn _ _ _ _ _ _ _
    refine wpIn_seq ?_
    refine wpIn_block ?_
    refine wpIn_seq (reg_drawn hE mixed (Q := fun t' H' n' => ∃ L', t' = dense 31 L' ∧ subL [(5, .int .i64 128), (4, .int .i64 ((128 * s : Nat) : Int)), (0, yv l), (1, pv b1), (2, pv b2)] L' ∧ hp Hr [] = H' ∧ n = n') [[],[],[],[1,2],[1,2,3],[0,1,2,3,4],[0,1,2,3,4,5]] (by kernel_rfl) (vcE_start ?_) st2 ?_)
    · refine vcE_val rfl rfl rfl rfl (ox_load (pl rfl) D_3 q2 rfl) rfl (si_load (pl rfl)) (lt1 (by omega)) trivial ?_
      refine vcE_val rfl rfl rfl rfl (ox_load (pl rfl) D_35 q1 rfl) rfl (si_load (pl rfl)) (lt1 (by omega)) trivial ?_
      refine vcE_bl rfl rfl (fun _ => ox_move (pl rfl)) rfl rfl ?_
      refine vcE_bl rfl rfl (fun _ => ox_sl (pl rfl) D_35 rfl D_5 (bndI (pl rfl) rfl) bndN (by omega) (by omega) (.inl rfl)) rfl rfl ?_
      refine vcE_bl rfl rfl (fun _ => ox_len (pl rfl) D_35 rfl) rfl rfl ?_
      refine vcE_bl rfl rfl (fun _ => ox_min (pl rfl) (pl rfl)) rfl rfl ?_
      refine vcE_bl rfl rfl (fun _ => ox_assign (pl rfl)) rfl rfl ?_
      exact vcE_nil ⟨_, rfl, ⟨by rw [if_neg (by omega)]; rfl, rfl, rfl, rfl, rfl, trivial⟩, rfl, rfl⟩
    rintro ρ3 t3 H3 n3 a4 w4 hle3 st3 g3 ⟨L3, rfl, hsub3, rfl, rfl⟩
    have st3 := st3.keep hsub3
    have hj3 := hJ _ _ _ none hj2 g3 (fun r e => by cases e)
    show Code.wpIn _ _ _ _ _ _ _
    refine wpIn_seq ?_
    refine reg_head hE 10 [10, 11] (by decide) rfl (Q := fun t' H' n' => ∃ L', t' = dense 31 L' ∧ subL [(28, pieceV row off s), (19, yv l), (4, .int .i64 ((128 * s : Nat) : Int)), (0, yv l), (1, pv b1), (2, pv b2)] L' ∧ hp Hr [] = H' ∧ n = n') ?_ st3 ?_
    · refine vcS_val rfl rfl (ox_move (pl rfl)) ?_
      refine vcS_val rfl rfl (ox_load (pl rfl) D_35 q1 rfl) ?_
      refine vcS_val rfl rfl (ox_move (pl rfl)) ?_
      refine vcS_val rfl rfl (ox_move (pl rfl)) ?_
      refine vcS_val rfl rfl (ox_move (pl rfl)) ?_
      refine vcS_val rfl rfl (ox_bin (pl rfl) (pl rfl) (bo_i64_add (by omega))) ?_
      refine vcS_val rfl rfl (ox_move (pl rfl)) ?_
      refine vcS_val rfl rfl (ox_move (pl rfl)) ?_
      refine vcS_val rfl rfl (ox_bin (pl rfl) (pl rfl) (bo_i64_add (by omega))) ?_
      refine vcS_val rfl rfl (ox_sl3 (l := 128 * s) (h := 128 * s + 128) (m := 128 * s + 128) (pl rfl) D_35 rfl D_5 (bndI (pl rfl) rfl) (bndI (pl rfl) (by omega)) (bndI (pl rfl) (by omega)) (by omega) (by omega) (by omega) (by omega)) ?_
      refine vcS_nil ⟨_, rfl, ⟨?_, rfl, rfl, rfl, rfl, rfl, trivial⟩, rfl, rfl⟩
      show some (Value.slice (some ⟨row, off + 128 * s * 1, none⟩) (128 * s + 128 - 128 * s) (128 * s + 128 - 128 * s)) = some (pieceV row off s)
      rw [Nat.add_sub_cancel_left, Nat.mul_one, Nat.mul_comm]; rfl
    rintro ρ4 t4 H4 n4 a5 w5 hle4 st4 g4 ⟨L4, rfl, hsub4, rfl, rfl⟩
    have st4 := st4.keep hsub4
    have hj4 := hJ _ _ _ none hj3 g4 (fun r e => by cases e)
    have hall : ρ.le ρ4 := Ren.le_trans hle (Ren.le_trans hle2 (Ren.le_trans hle3 hle4))
    have hy := hY _ ⟨s, hlt⟩ w5 hj4 (by simp; omega)
    have hev : a5.eval (.tmp 28) = pieceV r off s := st4.slice (x := .tmp 28) rfl (hall _ _ (hrow (by omega)).choose_spec)
    refine op_yield rfl rfl rfl rfl (st4.fn (x := .tmp 19) rfl) (by rw [hev]; exact hy) ?_
    rintro e w6 (⟨rfl, hj5, hkp⟩ | ⟨rfl, hjx⟩)
    · refine ⟨_, rfl, ?_⟩
      have st5 := (st4.world (w' := w6) fun id o ho r' κ' hr' => by
        have hid := hdom id o ho
        have hρ : ρ id = some (r', κ') := by
          obtain ⟨r2, κ2, f1, f2⟩ := hhW.obj id o ho
          have := hall _ _ f1
          rw [hr'] at this; cases this; exact f1
        exact hkp id (by rcases hid with rfl | rfl <;> simp) r' κ' hρ).put (d := 29) (VR.bool (ρ := ρ4) true)
      refine ops_run hE [11] _ rfl (Q := fun t' H' n' => ∃ L', t' = dense 31 L' ∧ subL [(30, .bool false), (4, .int .i64 ((128 * s : Nat) : Int)), (0, yv l), (1, pv b1), (2, pv b2)] L' ∧ hp Hr [] = H' ∧ n = n') (vcS_val rfl rfl (ox_un (pl rfl) (uo_not _)) (vcS_nil ⟨_, rfl, ⟨rfl, rfl, rfl, rfl, rfl, trivial⟩, rfl, rfl⟩)) st5 ?_
      rintro ρ5 t5 H5 n5 a6 w7 hle5 st6 g5 ⟨L5, rfl, hsub5, rfl, rfl⟩
      have st6 := st6.keep hsub5
      have hj6 := hJ _ _ _ none hj5 g5 (fun r e => by cases e)
      show Code.wpIn _ _ _ _ _ _ _
      refine wpIn_cond_false (st6.bool (x := .tmp 30) rfl) (wpIn_skip ?_)
      show Code.wpIn _ _ _ _ _ _ _
      refine reg_run hE (Q := fun t' H' n' => ∃ L', t' = dense 31 L' ∧ subL [(4, .int .i64 ((128 * (s + 1) : Nat) : Int)), (0, yv l), (1, pv b1), (2, pv b2)] L' ∧ hp Hr [] = H' ∧ n = n') ?_ st6 ?_
      · refine vcS_val rfl rfl (ox_move (pl rfl)) ?_
        refine vcS_val rfl rfl (ox_load (pl rfl) D_3 q2 rfl) ?_
        refine vcS_val rfl rfl (ox_bin (pl rfl) (pl rfl) (bo_i64_add (by omega))) ?_
        refine vcS_val rfl rfl (ox_assign (pl rfl)) ?_
        refine vcS_nil ⟨_, rfl, ⟨?_, rfl, rfl, rfl, trivial⟩, rfl, rfl⟩
        exact congrArg (fun z => some (Value.int .i64 z)) (by omega)
      rintro ρ6 t6 H6 n6 a7 w8 hle6 st7 g6 ⟨L6, rfl, hsub6, rfl, rfl⟩
      have hj7 := hJ _ _ _ none hj6 g6 (fun r e => by cases e)
      refine ⟨k - (s + 1), by omega, s + 1, ρ6, by omega, rfl, Ren.le_trans hall (Ren.le_trans hle5 hle6), st7.keep hsub6, ?_⟩
      have : (List.finRange k).take (s + 1) = (List.finRange k).take s ++ [⟨s, hlt⟩] := by
        rw [List.take_succ_eq_append_getElem (by simpa using hlt)]; simp
      rw [this]; exact hj7
    · refine ⟨_, rfl, ?_⟩
      have st5 := (st4.blank (w' := w6)).put (d := 29) (VR.bool (ρ := ρ4) false)
      refine ops_run hE [11] _ rfl (Q := fun t' H' n' => ∃ L', t' = dense 31 L' ∧ subL [(30, .bool true)] L') (vcS_val rfl rfl (ox_un (pl rfl) (uo_not _)) (vcS_nil ⟨_, rfl, ⟨rfl, trivial⟩⟩)) st5 ?_
      rintro ρ5 t5 H5 n5 a6 w7 hle5 st6 g5 ⟨L5, rfl, hsub5⟩
      have st6 := st6.keep hsub5
      show Code.wpIn _ _ _ _ _ _ _
      refine wpIn_cond_true (st6.bool (x := .tmp 30) rfl) (wpIn_ret ?_)
      exact ⟨st6.dfr, .tuple #[], results_none rfl _ _ _, ⟨_, rfl⟩, .inr ⟨_, trivial, hJx _ _ _ none hjx g5 (fun r e => by cases e)⟩⟩
  · refine wpIn_cond_false ((st2.bool (x := .tmp 9) rfl).trans (by rw [decide_eq_false (by omega)])) (wpIn_exit ?_)
    refine ⟨st2.dfr, .tuple #[], ?_, ⟨_, rfl⟩, .inl ⟨List.finRange k, rfl, ?_⟩⟩
    · exact results_none rfl _ _ _
    · have : (List.finRange k).take s = List.finRange k := List.take_of_length_le (by simp; omega)
      rw [← this]; exact hj2
end Go.Proofs.Ytdnnojblneccdaa
/-
  Blocks: Compare; lists of digests.
-/
namespace Go.Proofs.Ytdnnojblneccdaa
set_option linter.unusedSimpArgs false
set_option linter.unusedVariables false
open Go
open Enc (enc)
set_option maxRecDepth 100000
abbrev Dig := Vector UInt8 32
instance : Row Block := ⟨Block.cells, 131, by decide, Block.cells_length, fun _ _ h => Block.cells_inj h, Block.cells_known, fun _ => rfl⟩
end Go.Proofs.Ytdnnojblneccdaa
/-
  Copies: Own, Names, slices.Clone.
-/
namespace Go.Proofs.Ytdnnojblneccdaa
set_option linter.unusedSimpArgs false
set_option linter.unusedVariables false
open Go
open Enc (enc)
set_option maxRecDepth 100000
theorem u8_plain (l : List UInt8) : (cels l).all plain = true := by
  simp only [cels, List.all_flatMap, List.all_eq_true]
  intro a _ x hx
  simp only [Row.cel, List.mem_singleton] at hx
  subst hx; rfl
end Go.Proofs.Ytdnnojblneccdaa
/-
  slices.Grow of nil.
-/
namespace Go.Proofs.Ytdnnojblneccdaa
set_option linter.unusedSimpArgs false
set_option linter.unusedVariables false
open Go
open Enc (enc)
set_option maxRecDepth 100000
/-- nothing, with room for k -/
def growE (sz : Nat) (z : List Value) (n k : Nat) : Eff := if k = 0 then ⟨.slice none 0 0, [], n⟩ else ⟨.slice (some ⟨n, 0, some sz⟩) 0 k, [(n, some (.cells ((List.replicate k z).flatten) false))], n + 1⟩
theorem growE_zero {sz : Nat} {z : List Value} {n : Nat} : growE sz z n 0 = ⟨.slice none 0 0, [], n⟩ := rfl
theorem growE_pos {sz : Nat} {z : List Value} {n k : Nat} (h : 0 < k) : growE sz z n k = ⟨.slice (some ⟨n, 0, some sz⟩) 0 k, [(n, some (.cells ((List.replicate k z).flatten) false))], n + 1⟩ := if_neg (by omega)
def growF (sz bytes : Nat) (z : List Value) : FnI := fun args _ n => match args with
  | [.slice none 0 0, .int .i64 k] => if 0 ≤ k ∧ k.toNat * bytes ≤ most then some (growE sz z n k.toNat) else none
  | _ => none
theorem growF_inv {sz bytes : Nat} {z : List Value} {args : List Value} {H : IHeap} {n : Nat} {e : Eff} (h : growF sz bytes z args H n = some e) : ∃ k : Nat, args = [.slice none 0 0, .int .i64 k] ∧ k * bytes ≤ most ∧ e = growE sz z n k := by
  unfold growF at h; split at h
  · rename_i k
    split at h
    · rename_i hk; cases h
      exact ⟨k.toNat, by rw [Int.toNat_of_nonneg hk.1], hk.2, rfl⟩
    · cases h
  · cases h
theorem growF_ev {sz bytes : Nat} {z : List Value} {H : IHeap} {n : Nat} {k : Nat} (hk : k * bytes ≤ most) : growF sz bytes z [.slice none 0 0, .int .i64 k] H n = some (growE sz z n k) := by
  simp only [growF]
  rw [if_pos ⟨by omega, by simpa using hk⟩]; simp
theorem rep_plain {z : List Value} (hz : z.all plain = true) (k : Nat) : ((List.replicate k z).flatten).all plain = true := by
  rw [List.all_eq_true]
  intro x hx
  obtain ⟨l, hl, hx⟩ := List.mem_flatten.1 hx
  rw [(List.mem_replicate.1 hl).2] at hx
  exact List.all_eq_true.1 hz x hx
end Go.Proofs.Ytdnnojblneccdaa
/-
  slices.Concat.
-/
namespace Go.Proofs.Ytdnnojblneccdaa
set_option linter.unusedSimpArgs false
set_option linter.unusedVariables false
open Go
open Enc (enc)
open Row (cel)
set_option maxRecDepth 100000
section
variable {α : Type}
/-- the first s of them, one behind the other -/
def firsts (ls : List (List α)) (s : Nat) : List α := (ls.take s).flatten
theorem firsts_succ {ls : List (List α)} {s : Nat} (h : s < ls.length) : firsts ls (s + 1) = firsts ls s ++ ls[s] := by
  unfold firsts
  rw [List.take_succ_eq_append_getElem h, List.flatten_append]; simp
theorem firsts_le {ls : List (List α)} {s : Nat} (h : s < ls.length) : (firsts ls s).length + ls[s].length ≤ ls.flatten.length := by
  have : ls.flatten = firsts ls (s + 1) ++ (ls.drop (s + 1)).flatten := by rw [firsts, ← List.flatten_append, List.take_append_drop]
  rw [this, firsts_succ h, List.length_append, List.length_append]; omega
theorem firsts_all {ls : List (List α)} {s : Nat} (h : ls.length ≤ s) : firsts ls s = ls.flatten := by rw [firsts, List.take_of_length_le h]
theorem nil_of_total {ls : List (List α)} {s : Nat} (h : s < ls.length) (h0 : ls.flatten.length = 0) : ls[s] = [] := by
  have := firsts_le h
  exact List.length_eq_zero_iff.1 (by omega)
def capC (ls : List (List α)) (s : Nat) : Nat := if s = 0 then ls.flatten.length else (firsts ls s).length
theorem capC_succ {ls : List (List α)} {s : Nat} (h : s < ls.length) : capC ls (s + 1) = (firsts ls s).length + ls[s].length := by
  unfold capC
  rw [if_neg (by omega), firsts_succ h, List.length_append]
end
section
variable {α : Type} [Row α]
noncomputable def rdL (α : Type) [Row α] (H : IHeap) : List Sl → Option (List (List α))
  | [] => some []
  | s :: S => match rdC (α := α) H (enc s), rdL α H S with
    | some l, some ls => some (l :: ls)
    | _, _ => none
theorem rdL_get {H : IHeap} : ∀ {S : List Sl} {ls : List (List α)}, rdL α H S = some ls → ls.length = S.length ∧ ∀ (i : Nat) (h : i < S.length) (h' : i < ls.length), rdC H (enc S[i]) = some ls[i]
  | [], ls, h => by cases h; exact ⟨rfl, fun i h => (by simp at h)⟩
  | s :: S, ls, h => by
    simp only [rdL] at h
    split at h
    · rename_i l ls' h1 h2
      cases h
      obtain ⟨g1, g2⟩ := rdL_get h2
      refine ⟨by simp [g1], fun i hi hi' => ?_⟩
      cases i with
      | zero => exact h1
      | succ i => exact g2 i (by simpa using hi) (by simpa using hi')
    · cases h
theorem rdL_at {H : IHeap} {S : List Sl} {ls : List (List α)} (h : rdL α H S = some ls) {i : Nat} (hi : i < S.length) : ∃ sa sc, ∃ h' : i < ls.length, enc S[i] = .slice sa ls[i].length sc ∧ rdC H (.slice sa ls[i].length sc) = some ls[i] := by
  obtain ⟨g1, g2⟩ := rdL_get h
  have hi' : i < ls.length := by omega
  have h2 := g2 i hi hi'
  obtain ⟨a, cap, e⟩ := rdC_len h2
  exact ⟨a, cap, hi', e, by rw [← e]; exact h2⟩
theorem rd_hdr {d : TD} {c : List Value} {off i j : Nat} {S : List Sl} {v : Value} (hl : (c.drop off).take (S.length * Row.sz Sl) = cels S) (h : i < S.length) (hv : enc S[i] = v) (hk : d.k.isAgg = false) (hj : j = off + i * Row.sz Sl) : rdVar d c j = some v := by
  subst hv
  refine rd_celIn hl h (v := enc S[i]) (o := 0) ?_ (by omega)
  unfold rdVar
  rw [if_neg (by rw [hk]; simp)]
  rfl
theorem rdC_free {H : IHeap} {n : Nat} {x : Value} {l : List α} (hf : ∀ id, n ≤ id → H id = none) (h : rdC H x = some l) : ∀ id off s len cap, x = .slice (some ⟨id, off, s⟩) len cap → id < n := by
  intro id off s len cap e
  subst e
  rcases rdC_inv h with ⟨e, _⟩ | ⟨id', off', sp', c, ro, e, hc, _⟩
  · cases e
  · cases e
    refine Nat.lt_of_not_le fun hle => ?_
    rw [hf _ hle] at hc; cases hc
def celC (z : List Value) (ls : List (List α)) (s : Nat) : List Value := if s = 0 then (List.replicate ls.flatten.length z).flatten else cels (firsts ls s)
theorem celC_ok (z : List Value) (ls : List (List α)) (s k : Nat) (hk : k = Row.sz α) : (firsts ls s).length * k ≤ (celC z ls s).length ∧ (celC z ls s).take ((firsts ls s).length * k) = cels (firsts ls s) := by
  subst hk
  unfold celC
  by_cases h0 : s = 0
  · subst h0; simp [firsts, cels]
  · rw [if_neg h0, cels_length]
    exact ⟨Nat.le_refl _, by rw [← cels_length, List.take_length]⟩
theorem celC_succ {z : List Value} {ls : List (List α)} {s : Nat} (h : s < ls.length) : celC z ls (s + 1) = cels (firsts ls s ++ ls[s]) := by
  unfold celC
  rw [if_neg (by omega), firsts_succ h]
theorem hp_step {H : IHeap} {n a b : Nat} {x y z : Option IObj} (hf : ∀ id, n ≤ id → H id = none) (ha : n ≤ a) (hxy : x = y) : (hp H [(b, x)]).le (hp H [(b, y), (a, none), (a, z)]) := by
  subst hxy
  intro id o h
  by_cases hb : id = b
  · subst hb; rw [hp_eq] at h ⊢; exact h
  · rw [hp_ne _ _ _ hb, hp_nil] at h
    rw [hp_ne _ _ _ hb]
    have : id ≠ a := by
      intro e; rw [e, hf a ha] at h; cases h
    rw [hp_ne _ _ _ this, hp_ne _ _ _ this]; exact h
def concE (n : Nat) (l : List α) : Eff := if l.length = 0 then ⟨.slice none 0 0, [], n⟩ else ⟨.slice (some ⟨n, 0, some (Row.sz α)⟩) l.length l.length, [(n, some (.cells (cels l) false))], n + 1⟩
theorem concE_zero {n : Nat} {l : List α} (h : l.length = 0) : concE n l = ⟨.slice none 0 0, [], n⟩ := if_pos h
theorem concE_pos {n : Nat} {l : List α} (h : l.length ≠ 0) : concE n l = ⟨.slice (some ⟨n, 0, some (Row.sz α)⟩) l.length l.length, [(n, some (.cells (cels l) false))], n + 1⟩ := if_neg h
noncomputable def concF (α : Type) [Row α] (bytes : Nat) : FnI := fun args H n => match args with
  | [x] => (rdC H x).bind fun (S : List Sl) => (rdL α H S).bind fun ls => if S.length ≤ 2 ^ 47 ∧ ls.flatten.length * bytes ≤ most then some (concE n ls.flatten) else none
  | _ => none
theorem concF_inv {bytes : Nat} {args : List Value} {H : IHeap} {n : Nat} {e : Eff} (h : concF α bytes args H n = some e) : ∃ xa xc, ∃ S : List Sl, ∃ ls : List (List α), args = [.slice xa S.length xc] ∧ rdC H (.slice xa S.length xc) = some S ∧ rdL α H S = some ls ∧ S.length ≤ 2 ^ 47 ∧ ls.flatten.length * bytes ≤ most ∧ e = concE n ls.flatten := by
  unfold concF at h; split at h
  · simp only [Option.bind_eq_some_iff] at h
    obtain ⟨S, hS, ls, hls, h⟩ := h
    split at h
    · rename_i hle; cases h
      obtain ⟨xa, xc, rfl⟩ := rdC_len hS
      exact ⟨xa, xc, S, ls, rfl, hS, hls, hle.1, hle.2, rfl⟩
    · cases h
  · cases h
theorem concF_ev {bytes : Nat} {x : Value} {H : IHeap} {n : Nat} {S : List Sl} {ls : List (List α)} {l : List α} (hS : rdC H x = some S) (hls : rdL α H S = some ls) (h1 : S.length ≤ 2 ^ 47) (hl : ls.flatten = l) (h2 : l.length * bytes ≤ most) : concF α bytes [x] H n = some (concE n l) := by
  subst hl
  simp only [concF, hS, hls, Option.bind_some]
  rw [if_pos ⟨h1, h2⟩]
theorem growF_ev0 {sz bytes : Nat} {z : List Value} {H : IHeap} {n : Nat} {k : Nat} (hk : k = 0) : growF sz bytes z [.slice none 0 0, .int .i64 k] H n = some ⟨.slice none 0 0, [], n⟩ := by
  subst hk
  rw [growF_ev (by omega), growE_zero]
theorem growF_evp {sz bytes : Nat} {z : List Value} {H : IHeap} {n : Nat} {k : Nat} (h0 : 0 < k) (hk : k * bytes ≤ most) : growF sz bytes z [.slice none 0 0, .int .i64 k] H n = some ⟨.slice (some ⟨n, 0, some sz⟩) 0 k, [(n, some (.cells ((List.replicate k z).flatten) false))], n + 1⟩ := by
  rw [growF_ev hk, growE_pos h0]
end
end Go.Proofs.Ytdnnojblneccdaa
/-
  The sums' words; turns, products and sums of words.
-/
namespace Go.Proofs.Ytdnnojblneccdaa
set_option linter.unusedSimpArgs false
set_option linter.unusedVariables false
open Go
open Enc (enc)
set_option maxRecDepth 100000
def kL : List UInt64 := [0x428a2f98d728ae22, 0x7137449123ef65cd, 0xb5c0fbcfec4d3b2f, 0xe9b5dba58189dbbc, 0x3956c25bf348b538, 0x59f111f1b605d019, 0x923f82a4af194f9b, 0xab1c5ed5da6d8118, 0xd807aa98a3030242, 0x12835b0145706fbe, 0x243185be4ee4b28c, 0x550c7dc3d5ffb4e2, 0x72be5d74f27b896f, 0x80deb1fe3b1696b1, 0x9bdc06a725c71235, 0xc19bf174cf692694, 0xe49b69c19ef14ad2, 0xefbe4786384f25e3, 0x0fc19dc68b8cd5b5, 0x240ca1cc77ac9c65, 0x2de92c6f592b0275, 0x4a7484aa6ea6e483, 0x5cb0a9dcbd41fbd4, 0x76f988da831153b5, 0x983e5152ee66dfab, 0xa831c66d2db43210, 0xb00327c898fb213f, 0xbf597fc7beef0ee4, 0xc6e00bf33da88fc2, 0xd5a79147930aa725, 0x06ca6351e003826f, 0x142929670a0e6e70, 0x27b70a8546d22ffc, 0x2e1b21385c26c926, 0x4d2c6dfc5ac42aed, 0x53380d139d95b3df, 0x650a73548baf63de, 0x766a0abb3c77b2a8, 0x81c2c92e47edaee6, 0x92722c851482353b, 0xa2bfe8a14cf10364, 0xa81a664bbc423001, 0xc24b8b70d0f89791, 0xc76c51a30654be30, 0xd192e819d6ef5218, 0xd69906245565a910, 0xf40e35855771202a, 0x106aa07032bbd1b8, 0x19a4c116b8d2d0c8, 0x1e376c085141ab53, 0x2748774cdf8eeb99, 0x34b0bcb5e19b48a8, 0x391c0cb3c5c95a63, 0x4ed8aa4ae3418acb, 0x5b9cca4f7763e373, 0x682e6ff3d6b2b8a3, 0x748f82ee5defb2fc, 0x78a5636f43172f60, 0x84c87814a1f0ab72, 0x8cc702081a6439ec, 0x90befffa23631e28, 0xa4506cebde82bde9, 0xbef9a3f7b2c67915, 0xc67178f2e372532b, 0xca273eceea26619c, 0xd186b8c721c0c207, 0xeada7dd6cde0eb1e, 0xf57d4f7fee6ed178, 0x06f067aa72176fba, 0x0a637dc5a2c898a6, 0x113f9804bef90dae, 0x1b710b35131c471b, 0x28db77f523047d84, 0x32caab7b40c72493, 0x3c9ebe0a15c9bebc, 0x431d67c49c100d4c, 0x4cc5d4becb3e42b6, 0x597f299cfc657e2a, 0x5fcb6fab3ad6faec, 0x6c44198c4a475817]
abbrev kV : Vector UInt64 80 := ⟨kL.toArray, by decide⟩
def shortL : List UInt64 := [0x22312194fc2bf72c, 0x9f555fa3c84c64c2, 0x2393b86b6f53b151, 0x963877195940eabd, 0x96283ee2a88effe3, 0xbe5e1e2553863992, 0x2b0199fc2c85b8aa, 0x0eb72ddc81c52ca2]
abbrev shortV : Vector UInt64 8 := ⟨shortL.toArray, by decide⟩
noncomputable def F25 : FnI := fn0 (enc kV)
-- headwater/sha.K [] -> ['Vector UInt64 80'], results [[0, 48]]
theorem R25 : Ref Try.prog 25 F25 := by
  refine Ref.of_iw dok Try.func25 rfl (by kernel_rfl) fun args H n e hF => ?_
  obtain ⟨rfl, rfl⟩ := fn0_inv hF
  refine ⟨Nat.le_of_ble_eq_true rfl, ?_⟩
  simp only [idxL]
  have hE : Env Try.prog [] D K := env fnsOk_nil
  refine IW.seq ?_
  refine IW.reg hE ?_
  refine vcS_new rfl rfl (ox_allocZ (cs := encs (Vector.replicate 80 (0 : UInt64)).toList) D_48 rfl) (.inl (by omega)) ?_
  refine vcS_nil ?_
  refine IW.seq ?_
  refine IW.reg hE ?_
  refine vcS_val rfl rfl (ox_buildA (cs := encs kV.toList) D_48 rfl D_22 rfl (by kernel_rfl)) ?_
  refine vcS_sto rfl rfl (ox_store (pl rfl) (pl rfl) D_48 (hp_eq _ _ _ _) rfl (encs_vec_length _) (le_vec _ rfl) (encs_known _) (wr_all (by simp only [encs_vec_length]))) (.inl (by omega)) ?_
  refine vcS_nil ?_
  refine IW.ret ?_
  exact RetP.pure (.inr rfl) (ires_cell rfl D_48 (hp_eq _ _ _ _) (rd_all rfl (encs_vec_length _))) (okV64 _) (Nat.le_refl _)
noncomputable def F45 : FnI := fn0 (enc shortV)
-- headwater/sha.StartShort [] -> ['Vector UInt64 8'], results [[0, 50]]
theorem R45 : Ref Try.prog 45 F45 := by
  refine Ref.of_iw dok Try.func45 rfl (by kernel_rfl) fun args H n e hF => ?_
  obtain ⟨rfl, rfl⟩ := fn0_inv hF
  refine ⟨Nat.le_of_ble_eq_true rfl, ?_⟩
  simp only [idxL]
  have hE : Env Try.prog [] D K := env fnsOk_nil
  refine IW.seq ?_
  refine IW.reg hE ?_
  refine vcS_new rfl rfl (ox_allocZ (cs := encs (Vector.replicate 8 (0 : UInt64)).toList) D_50 rfl) (.inl (by omega)) ?_
  refine vcS_nil ?_
  refine IW.seq ?_
  refine IW.reg hE ?_
  refine vcS_val rfl rfl (ox_buildA (cs := encs shortV.toList) D_50 rfl D_22 rfl (by kernel_rfl)) ?_
  refine vcS_sto rfl rfl (ox_store (pl rfl) (pl rfl) D_50 (hp_eq _ _ _ _) rfl (encs_vec_length _) (le_vec _ rfl) (encs_known _) (wr_all (by simp only [encs_vec_length]))) (.inl (by omega)) ?_
  refine vcS_nil ?_
  refine IW.ret ?_
  exact RetP.pure (.inr rfl) (ires_cell rfl D_50 (hp_eq _ _ _ _) (rd_all rfl (encs_vec_length _))) (okV64 _) (Nat.le_refl _)
/-! products -/
def mulHi (x y : UInt64) : UInt64 :=
  let x0 := x &&& 4294967295
  let x1 := shr64 x 32
  let y0 := y &&& 4294967295
  let y1 := shr64 y 32
  let w0 := x0 * y0
  let t := x1 * y0 + shr64 w0 32
  let w1 := (t &&& 4294967295) + x0 * y1
  x1 * y1 + shr64 t 32 + shr64 w1 32
noncomputable def F34 : FnI := fn2 fun (x y : UInt64) => .tuple #[enc (mulHi x y), enc (x * y)]
-- math/bits.Mul64 ['UInt64', 'UInt64'] -> ['UInt64', 'UInt64'], results [4, 5]
theorem R34 : Ref Try.prog 34 F34 := by
  refine Ref.of_iw dok Try.func34 rfl (by kernel_rfl) fun args H n e hF => ?_
  obtain ⟨a, b, rfl, rfl⟩ := fn2_inv hF
  refine ⟨Nat.le_of_ble_eq_true rfl, ?_⟩
  simp only [idxL]
  have hE : Env Try.prog [] D K := env fnsOk_nil
  refine IW.seq ?_
  refine IW.reg hE ?_
  refine vcS_val rfl rfl (ox_assign (pl (v := enc (0 : UInt64)) rfl)) ?_
  refine vcS_val rfl rfl (ox_assign (pl (v := enc (0 : UInt64)) rfl)) ?_
  refine vcS_nil ?_
  refine IW.seq ?_
  refine IW.reg hE ?_
  refine vcS_val rfl rfl (ox_move (pl rfl)) ?_
  refine vcS_val rfl rfl (ox_bin (pl rfl) (pl (v := enc (4294967295 : UInt64)) rfl) (bo_u64_and _ _)) ?_
  refine vcS_val rfl rfl (ox_assign (pl rfl)) ?_
  refine vcS_nil ?_
  refine IW.seq ?_
  refine IW.reg hE ?_
  refine vcS_val rfl rfl (ox_move (pl rfl)) ?_
  refine vcS_val rfl rfl (ox_bin (pl rfl) (pl (v := enc (32 : UInt64)) rfl) (bo_u64_shr _ (by omega))) ?_
  refine vcS_val rfl rfl (ox_assign (pl rfl)) ?_
  refine vcS_nil ?_
  refine IW.seq ?_
  refine IW.reg hE ?_
  refine vcS_val rfl rfl (ox_move (pl rfl)) ?_
  refine vcS_val rfl rfl (ox_bin (pl rfl) (pl (v := enc (4294967295 : UInt64)) rfl) (bo_u64_and _ _)) ?_
  refine vcS_val rfl rfl (ox_assign (pl rfl)) ?_
  refine vcS_nil ?_
  refine IW.seq ?_
  refine IW.reg hE ?_
  refine vcS_val rfl rfl (ox_move (pl rfl)) ?_
  refine vcS_val rfl rfl (ox_bin (pl rfl) (pl (v := enc (32 : UInt64)) rfl) (bo_u64_shr _ (by omega))) ?_
  refine vcS_val rfl rfl (ox_assign (pl rfl)) ?_
  refine vcS_nil ?_
  refine IW.seq ?_
  refine IW.reg hE ?_
  refine vcS_val rfl rfl (ox_move (pl rfl)) ?_
  refine vcS_val rfl rfl (ox_move (pl rfl)) ?_
  refine vcS_val rfl rfl (ox_bin (pl rfl) (pl rfl) (bo_u64_mul _ _)) ?_
  refine vcS_val rfl rfl (ox_assign (pl rfl)) ?_
  refine vcS_nil ?_
  refine IW.seq ?_
  refine IW.reg hE ?_
  refine vcS_val rfl rfl (ox_move (pl rfl)) ?_
  refine vcS_val rfl rfl (ox_move (pl rfl)) ?_
  refine vcS_val rfl rfl (ox_bin (pl rfl) (pl rfl) (bo_u64_mul _ _)) ?_
  refine vcS_val rfl rfl (ox_move (pl rfl)) ?_
  refine vcS_val rfl rfl (ox_bin (pl rfl) (pl (v := enc (32 : UInt64)) rfl) (bo_u64_shr _ (by omega))) ?_
  refine vcS_val rfl rfl (ox_bin (pl rfl) (pl rfl) (bo_u64_add _ _)) ?_
  refine vcS_val rfl rfl (ox_assign (pl rfl)) ?_
  refine vcS_nil ?_
  refine IW.seq ?_
  refine IW.reg hE ?_
  refine vcS_val rfl rfl (ox_move (pl rfl)) ?_
  refine vcS_val rfl rfl (ox_bin (pl rfl) (pl (v := enc (4294967295 : UInt64)) rfl) (bo_u64_and _ _)) ?_
  refine vcS_val rfl rfl (ox_assign (pl rfl)) ?_
  refine vcS_nil ?_
  refine IW.seq ?_
  refine IW.reg hE ?_
  refine vcS_val rfl rfl (ox_move (pl rfl)) ?_
  refine vcS_val rfl rfl (ox_bin (pl rfl) (pl (v := enc (32 : UInt64)) rfl) (bo_u64_shr _ (by omega))) ?_
  refine vcS_val rfl rfl (ox_assign (pl rfl)) ?_
  refine vcS_nil ?_
  refine IW.seq ?_
  refine IW.reg hE ?_
  refine vcS_val rfl rfl (ox_move (pl rfl)) ?_
  refine vcS_val rfl rfl (ox_move (pl rfl)) ?_
  refine vcS_val rfl rfl (ox_move (pl rfl)) ?_
  refine vcS_val rfl rfl (ox_bin (pl rfl) (pl rfl) (bo_u64_mul _ _)) ?_
  refine vcS_val rfl rfl (ox_bin (pl rfl) (pl rfl) (bo_u64_add _ _)) ?_
  refine vcS_val rfl rfl (ox_assign (pl rfl)) ?_
  refine vcS_nil ?_
  refine IW.seq ?_
  refine IW.reg hE ?_
  refine vcS_val rfl rfl (ox_move (pl rfl)) ?_
  refine vcS_val rfl rfl (ox_move (pl rfl)) ?_
  refine vcS_val rfl rfl (ox_bin (pl rfl) (pl rfl) (bo_u64_mul _ _)) ?_
  refine vcS_val rfl rfl (ox_move (pl rfl)) ?_
  refine vcS_val rfl rfl (ox_bin (pl rfl) (pl rfl) (bo_u64_add _ _)) ?_
  refine vcS_val rfl rfl (ox_move (pl rfl)) ?_
  refine vcS_val rfl rfl (ox_bin (pl rfl) (pl (v := enc (32 : UInt64)) rfl) (bo_u64_shr _ (by omega))) ?_
  refine vcS_val rfl rfl (ox_bin (pl rfl) (pl rfl) (bo_u64_add _ _)) ?_
  refine vcS_val rfl rfl (ox_assign (pl rfl)) ?_
  refine vcS_nil ?_
  refine IW.seq ?_
  refine IW.reg hE ?_
  refine vcS_val rfl rfl (ox_move (pl rfl)) ?_
  refine vcS_val rfl rfl (ox_move (pl rfl)) ?_
  refine vcS_val rfl rfl (ox_bin (pl rfl) (pl rfl) (bo_u64_mul _ _)) ?_
  refine vcS_val rfl rfl (ox_assign (pl rfl)) ?_
  refine vcS_nil ?_
  refine IW.ret ?_
  exact RetP.pure (.inr rfl) (v := .tuple #[enc (mulHi a b), enc (a * b)]) rfl (fun x hx => by simp at hx; rcases hx with rfl | rfl <;> trivial) (Nat.le_refl _)
/-! turns -/
def uof (k : Int) : UInt64 := UInt64.ofNat (k % 18446744073709551616).toNat
theorem cv_iu {Γ : Fns} {D : Ty} {K : Kinds} {e : Operand → Value} {H : IHeap} {n : Nat} {s t : TypeId} {x : Operand} {ds dd : TD} {a : Int} (hx : e x = .int .i64 a) (hs : D s = some ds) (hd : D t = some dd) (hk : dd.k = .int .u64) : iopC Γ D K e H n (.convert s t x) = some ⟨enc (uof a), [], n⟩ := by
  rw [ox_conv hx hs hd hk, wrap_u64i, enc_u64, uof, UInt64.toNat_ofNat', Nat.mod_eq_of_lt (by omega)]
  congr 3; omega
def rotL (x : UInt64) (k : Int) : UInt64 := shl64 x (uof k &&& 63).toNat ||| shr64 x (64 - (uof k &&& 63)).toNat
noncomputable def F108 : FnI := fn2 fun (x : UInt64) (k : Int) => enc (rotL x k)
-- math/bits.RotateLeft64 ['UInt64', 'Int'] -> ['UInt64'], results [4]
theorem R108 : Ref Try.prog 108 F108 := by
  refine Ref.of_iw dok Try.func108 rfl (by kernel_rfl) fun args H n e hF => ?_
  obtain ⟨a, b, rfl, rfl⟩ := fn2_inv hF
  refine ⟨Nat.le_of_ble_eq_true rfl, ?_⟩
  simp only [idxL]
  have hE : Env Try.prog [] D K := env fnsOk_nil
  refine IW.seq ?_
  refine IW.reg hE ?_
  refine vcS_val rfl rfl (ox_assign (pl (v := enc (0 : UInt64)) rfl)) ?_
  refine vcS_nil ?_
  refine IW.seq ?_
  refine IW.reg hE ?_
  refine vcS_val rfl rfl (ox_move (pl rfl)) ?_
  refine vcS_val rfl rfl (cv_iu (pl rfl) D_3 D_60 rfl) ?_
  refine vcS_val rfl rfl (ox_bin (pl rfl) (pl (v := enc (63 : UInt64)) rfl) (bo_u64_and _ _)) ?_
  refine vcS_val rfl rfl (ox_assign (pl rfl)) ?_
  refine vcS_nil ?_
  refine IW.seq ?_
  refine IW.reg hE ?_
  refine vcS_val rfl rfl (ox_move (pl rfl)) ?_
  refine vcS_val rfl rfl (ox_move (pl rfl)) ?_
  refine vcS_val rfl rfl (ox_bin (pl rfl) (pl rfl) (bo_u64_shl _ (by omega))) ?_
  refine vcS_val rfl rfl (ox_move (pl rfl)) ?_
  refine vcS_val rfl rfl (ox_move (pl rfl)) ?_
  refine vcS_val rfl rfl (ox_bin (pl (v := enc (64 : UInt64)) rfl) (pl rfl) (bo_u64_sub _ _)) ?_
  refine vcS_val rfl rfl (ox_bin (pl rfl) (pl rfl) (bo_u64_shr _ (by omega))) ?_
  refine vcS_val rfl rfl (ox_bin (pl rfl) (pl rfl) (bo_u64_or _ _)) ?_
  refine vcS_val rfl rfl (ox_assign (pl rfl)) ?_
  refine vcS_nil ?_
  refine IW.ret ?_
  exact RetP.ret (.inr rfl) rfl rfl trivial (rfl)
def rangeI (k : Int) : Bool := decide (-1000 ≤ k) && decide (k ≤ 1000)
noncomputable def rotF (f : UInt64 → Int → UInt64) : FnI := fun args H n => match args with
  | [x, .int .i64 k] => (dec x).bind fun (a : UInt64) => if rangeI k = true then some ⟨enc (f a k), [], n⟩ else none
  | _ => none
theorem rotF_inv {f : UInt64 → Int → UInt64} {args : List Value} {H : IHeap} {n : Nat} {e : Eff} (h : rotF f args H n = some e) : ∃ (a : UInt64) (k : Int), args = [enc a, .int .i64 k] ∧ (-1000 ≤ k ∧ k ≤ 1000) ∧ e = ⟨enc (f a k), [], n⟩ := by
  unfold rotF at h; split at h
  · simp only [Option.bind_eq_some_iff] at h
    obtain ⟨a, ha, h⟩ := h
    split at h
    · rename_i hle; cases h
      simp only [rangeI, Bool.and_eq_true, decide_eq_true_iff] at hle
      exact ⟨a, _, by rw [dec_some ha], hle, rfl⟩
    · cases h
  · cases h
theorem rotF_ev {f : UInt64 → Int → UInt64} {H : IHeap} {n : Nat} (a : UInt64) (k : Int) (hk : rangeI k = true) : rotF f [enc a, .int .i64 k] H n = some ⟨enc (f a k), [], n⟩ := by
  simp only [rotF, dec_enc, Option.bind_some]
  rw [if_pos hk]
def down (x : UInt64) (k : Int) : UInt64 := rotL x (-k)
noncomputable def F90 : FnI := rotF down
-- headwater/sha.down ['UInt64', 'Int'] -> ['UInt64'], results [4]
theorem R90 : Ref Try.prog 90 F90 := by
  refine Ref.of_iw dok Try.func90 rfl (by kernel_rfl) fun args H n e hF => ?_
  obtain ⟨a, b, rfl, hk, rfl⟩ := rotF_inv hF
  refine ⟨Nat.le_of_ble_eq_true rfl, ?_⟩
  simp only [idxL]
  have hE : Env Try.prog [(108, F108)] D K := env (fnsOk_cons R108 fnsOk_nil)
  refine IW.seq ?_
  refine IW.reg hE ?_
  refine vcS_val rfl rfl (ox_assign (pl (v := enc (0 : UInt64)) rfl)) ?_
  refine vcS_nil ?_
  refine IW.seq ?_
  refine IW.reg hE ?_
  refine vcS_val rfl rfl (ox_move (pl rfl)) ?_
  refine vcS_val rfl rfl (ox_move (pl rfl)) ?_
  refine vcS_val rfl rfl (ox_un (pl rfl) (uo_neg_i64 (by omega))) ?_
  refine vcS_val rfl rfl (ox_fn rfl rfl (fn2_ev _ _ _ _ _)) ?_
  refine vcS_val rfl rfl (ox_assign (pl rfl)) ?_
  refine vcS_nil ?_
  refine IW.ret ?_
  exact RetP.ret (.inr rfl) rfl rfl trivial (rfl)
end Go.Proofs.Ytdnnojblneccdaa
/-
  put, Pad.
-/
namespace Go.Proofs.Ytdnnojblneccdaa
set_option linter.unusedSimpArgs false
set_option linter.unusedVariables false
open Go
open Enc (enc)
set_option maxRecDepth 100000
/-- a word's bytes, the high one first -/
def be8 (w : UInt64) : List UInt8 := (List.range 8).map fun i => (shr64 w (56 - 8 * i)).toUInt8
theorem be8_length (w : UInt64) : (be8 w).length = 8 := by simp [be8]
theorem be8_succ {w : UInt64} {s : Nat} (h : s < 8) : (be8 w).take (s + 1) = (be8 w).take s ++ [(shr64 w (56 - 8 * s)).toUInt8] := by
  rw [List.take_succ_eq_append_getElem (by rw [be8_length]; exact h)]
  simp [be8]
noncomputable def F69 : FnI := fun args H n => match args with
  | [.slice (some ⟨id, 0, none⟩) len cap, x] => (dec x).bind fun (w : UInt64) => match H id with
    | some (.cells c false) => (decs c).bind fun (l : List UInt8) => if len + 8 ≤ cap ∧ cap ≤ l.length ∧ cap ≤ 2 ^ 47 then some ⟨.slice (some ⟨id, 0, none⟩) (len + 8) cap, [(id, some (.cells (encs (ovw l len (be8 w))) false))], n⟩ else none
    | _ => none
  | _ => none
theorem F69_inv {args : List Value} {H : IHeap} {n : Nat} {e : Eff} (h : F69 args H n = some e) : ∃ (id len cap : Nat) (w : UInt64) (l : List UInt8), args = [.slice (some ⟨id, 0, none⟩) len cap, enc w] ∧ H id = some (.cells (encs l) false) ∧ len + 8 ≤ cap ∧ cap ≤ l.length ∧ cap ≤ 2 ^ 47 ∧
    e = ⟨.slice (some ⟨id, 0, none⟩) (len + 8) cap, [(id, some (.cells (encs (ovw l len (be8 w))) false))], n⟩ := by
  unfold F69 at h; split at h
  · simp only [Option.bind_eq_some_iff] at h
    obtain ⟨w, hw, h⟩ := h
    split at h
    · rename_i c hc
      simp only [Option.bind_eq_some_iff] at h
      obtain ⟨l, hl, h⟩ := h
      split at h
      · rename_i hle; cases h
        exact ⟨_, _, _, w, l, by rw [dec_some hw], by rw [hc, decs_some hl], hle.1, hle.2.1, hle.2.2, rfl⟩
      · cases h
    · cases h
  · cases h
theorem F69_ev {H : IHeap} {n id len cap : Nat} {w : UInt64} {l : List UInt8} (hH : H id = some (.cells (encs l) false)) (h1 : len + 8 ≤ cap) (h2 : cap ≤ l.length) (h3 : cap ≤ 2 ^ 47) :
    F69 [.slice (some ⟨id, 0, none⟩) len cap, enc w] H n = some ⟨.slice (some ⟨id, 0, none⟩) (len + 8) cap, [(id, some (.cells (encs (ovw l len (be8 w))) false))], n⟩ := by
  simp only [F69, dec_enc, Option.bind_some, hH, decs_encs]
  rw [if_pos ⟨h1, h2, h3⟩]
theorem rdC_b1 {H : IHeap} {id cap : Nat} {sp : Option Nat} {ro : Bool} {b : UInt8} (hH : H id = some (.cells [enc b] ro)) : rdC H (.slice (some ⟨id, 0, sp⟩) 1 cap) = some [b] := rdC_one (α := UInt8) hH
-- headwater/sha.put ['Sl', 'UInt64'] -> ['Sl'], results [4]
theorem R69 : Ref Try.prog 69 F69 := by
  refine Ref.of_iw dok Try.func69 rfl (by kernel_rfl) fun args H n e hF => ?_
  obtain ⟨id, len, cap, w, l, rfl, hH, h1, h2, h3, rfl⟩ := F69_inv hF
  refine ⟨Nat.le_of_ble_eq_true rfl, ?_⟩
  simp only [idxL]
  have hE : Env Try.prog [] D K := env fnsOk_nil
  refine IW.seq ?_
  refine IW.lt (by simp) hH (fun hid => ?_)
  refine IW.free (by simp) (fun hfree => ?_)
  refine IW.reg hE ?_
  refine vcS_val rfl rfl (ox_assign (pl rfl)) ?_
  refine vcS_nil ?_
  refine IW.seq ?_
  refine IW.seq ?_
  refine IW.reg hE ?_
  refine vcS_val rfl rfl (ox_assign (pl rfl)) ?_
  refine vcS_nil ?_
  refine IW.block ?_
  refine IW.loop (S := Nat) (fun s => [(0, .slice (some ⟨id, 0, none⟩) (len + s) cap), (1, enc w), (5, .int .i64 (56 - 8 * s))]) (fun s => [(id, some (.cells (encs (ovw l len ((be8 w).take s))) false))]) (fun s => n + s) (fun s => s ≤ 8) (fun s => 8 - s) (0) (by simp) (⟨rfl, ⟨rfl, ⟨rfl, trivial⟩⟩⟩) (leX_le (leX_same hH (by rw [List.take_zero, ovw_nil]) leX_refl)) (Nat.le_refl _) (fun s hs => ?_)
  refine IW.seq ?_
  refine IW.seq ?_
  refine IW.reg hE ?_
  refine vcS_val rfl rfl (ox_move (pl rfl)) ?_
  refine vcS_val rfl rfl (ox_bin (pl rfl) (pl rfl) (bo_i64_geq _ _)) ?_
  refine vcS_nil ?_
  refine IW.cond rfl (fun hc1 => ?_) (fun hc1 => ?_)
  · replace hc1 := of_decide_eq_true hc1
    have hs8 : s < 8 := by omega
    have hlen8 := be8_length w
    have hT : ((be8 w).take s).length = s := by rw [List.length_take, hlen8]; omega
    have hL : (encs (ovw l len ((be8 w).take s))).length = l.length := by rw [encs_length, ovw_length (by rw [hT]; omega)]
    have hsh : (56 - 8 * (s : Int)).toNat = 56 - 8 * s := by omega
    have hov : ovw (ovw l len ((be8 w).take s)) (len + s) [(shr64 w (56 - 8 * s)).toUInt8] = ovw l len ((be8 w).take s ++ [(shr64 w (56 - 8 * s)).toUInt8]) := ovw_ovw (by rw [hT]) (by rw [hT]; simp; omega)
    refine IW.skip ?_
    refine IW.seq ?_
    refine IW.block ?_
    refine IW.reg hE ?_
    refine vcS_val rfl rfl (ox_move (pl rfl)) ?_
    refine vcS_val rfl rfl (ox_move (pl rfl)) ?_
    refine vcS_val rfl rfl (ox_move (pl rfl)) ?_
    refine vcS_val rfl rfl (ox_bin (pl rfl) (pl rfl) ((bo_u64_shr (b := 56 - 8 * s) w (by omega)).trans (by rw [hsh]))) ?_
    refine vcS_val rfl rfl (cv_6_8 (pl rfl) D_22 D_5 rfl) ?_
    refine vcS_new rfl rfl (ox_bsl (cs := [enc (shr64 w (56 - 8 * s)).toUInt8]) D_35 rfl D_5 (Nat.le_of_ble_eq_true rfl) rfl rfl) (.inl (by omega)) ?_
    refine vcS_appC (p := len + s) (k := 1) rfl rfl rfl rfl rfl D_35 rfl D_5 (srcArg_u8 D_35 rfl rfl (rdC_b1 (hp_eq _ _ _ _))) (by omega) (hp_sk (by omega) (hp_eq _ _ _ _)) (by show 0 + (len + s) * 1 = _; omega) (by rw [hL]; show len + s + 1 ≤ _; omega) (encs_known _) (.inr (by simp [Eff.ids])) splice_encs ?_
    refine vcS_val rfl rfl (ox_assign (pl rfl)) ?_
    refine vcS_nil ?_
    refine IW.nilB ?_
    refine IW.reg hE ?_
    refine vcS_val rfl rfl (ox_move (pl rfl)) ?_
    refine vcS_val rfl rfl (ox_bin (pl rfl) (pl rfl) (bo_i64_sub (by omega))) ?_
    refine vcS_val rfl rfl (ox_assign (pl rfl)) ?_
    refine vcS_nil ?_
    refine IW.nilS ?_
    exact ⟨s + 1, _, _, by omega, by omega, rfl, ⟨rfl, ⟨rfl, ⟨(congrArg (fun z => some (Value.int .i64 z)) (by omega)), trivial⟩⟩⟩, rfl, leX_le (leX_cons (by rw [be8_succ hs8, hov]) (leX_new (hfree _ (by omega)) (leX_old (by simp) leX_refl))), by omega⟩
  · replace hc1 := of_decide_eq_false hc1
    have hs9 : s = 8 := by omega
    subst hs9
    refine IW.exit ?_
    refine exS (exS ?_)
    refine blkQ_exit ?_
    refine IW.seq ?_
    refine IW.reg hE ?_
    refine vcS_val rfl rfl (ox_move (pl rfl)) ?_
    refine vcS_val rfl rfl (ox_assign (pl rfl)) ?_
    refine vcS_nil ?_
    refine IW.ret ?_
    have e8 : (be8 w).take 8 = be8 w := List.take_of_length_le (by rw [be8_length]; omega)
    exact RetP.upd1 (.inr rfl) (ires_tmp rfl) hid (is_some hH) ((hp_eq _ _ _ _).trans (by rw [e8])) (u8_okN1 _) hid
/-! padding -/
def padN (n : Nat) : Nat := (n + 144) / 128 * 128
def padL (b : List UInt8) : List UInt8 := b ++ ([128] ++ (List.replicate (padN b.length - 17 - b.length) 0 ++ (be8 (mulHi (UInt64.ofNat b.length) 8) ++ be8 (UInt64.ofNat b.length * 8))))
theorem padN_ge (n : Nat) : n + 17 ≤ padN n ∧ padN n ≤ n + 144 := by unfold padN; omega
theorem padL_length (b : List UInt8) : (padL b).length = padN b.length := by
  have := padN_ge b.length
  simp [padL, be8_length]; omega
noncomputable def F30 : FnI := fun args H n => match args with
  | [x] => (rdC H x).bind fun (b : List UInt8) => if b.length ≤ 2 ^ 40 then some ⟨.slice (some ⟨n, 0, none⟩) (padN b.length) (padN b.length), [(n, some (.cells (encs (padL b)) false))], n + 1⟩ else none
  | _ => none
theorem F30_inv {args : List Value} {H : IHeap} {n : Nat} {e : Eff} (h : F30 args H n = some e) : ∃ (x : Value) (b : List UInt8), args = [x] ∧ rdC H x = some b ∧ b.length ≤ 2 ^ 40 ∧ e = ⟨.slice (some ⟨n, 0, none⟩) (padN b.length) (padN b.length), [(n, some (.cells (encs (padL b)) false))], n + 1⟩ := by
  unfold F30 at h; split at h
  · simp only [Option.bind_eq_some_iff] at h
    obtain ⟨b, hb, h⟩ := h
    split at h
    · rename_i hle; cases h; exact ⟨_, b, rfl, hb, hle, rfl⟩
    · cases h
  · cases h
theorem F30_ev {x : Value} {H : IHeap} {n : Nat} {b : List UInt8} (hb : rdC H x = some b) (hle : b.length ≤ 2 ^ 40) : F30 [x] H n = some ⟨.slice (some ⟨n, 0, none⟩) (padN b.length) (padN b.length), [(n, some (.cells (encs (padL b)) false))], n + 1⟩ := by
  simp only [F30, hb, Option.bind_some]
  rw [if_pos hle]
/-- the pieces put into zeros, one behind the other -/
theorem padL_steps (b : List UInt8) : ovw (ovw (ovw (ovw (ovw (List.replicate (padN b.length) (0 : UInt8)) 0 b) b.length [128]) (b.length + 1) (List.replicate (padN b.length - 17 - b.length) 0)) (padN b.length - 16) (be8 (mulHi (UInt64.ofNat b.length) 8))) (padN b.length - 8) (be8 (UInt64.ofNat b.length * 8)) = padL b := by
  have hp := padN_ge b.length
  have hz : (List.replicate (padN b.length) (0 : UInt8)).length = padN b.length := by simp
  generalize hB : be8 (mulHi (UInt64.ofNat b.length) 8) = B
  generalize hC : be8 (UInt64.ofNat b.length * 8) = C
  have lB : B.length = 8 := by rw [← hB, be8_length]
  have lC : C.length = 8 := by rw [← hC, be8_length]
  rw [ovw_ovw (x := b) (y := [128]) (by simp) (by rw [hz]; simp; omega)]
  rw [ovw_ovw (y := List.replicate (padN b.length - 17 - b.length) 0) (by simp) (by rw [hz]; simp; omega)]
  rw [ovw_ovw (y := B) (by simp; omega) (by rw [hz]; simp; omega)]
  rw [ovw_ovw (y := C) (by simp; omega) (by rw [hz]; simp; omega)]
  unfold padL ovw
  rw [hB, hC, List.take_zero, List.nil_append, List.drop_of_length_le (by rw [hz]; simp; omega), List.append_nil]
  simp
theorem padL_at (b : List UInt8) (p1 p2 p3 p4 p5 k : Nat) (h1 : p1 = 0) (h2 : p2 = b.length) (h3 : p3 = b.length + 1) (hk : k = padN b.length - 17 - b.length) (h4 : p4 = padN b.length - 16) (h5 : p5 = padN b.length - 8) :
    ovw (ovw (ovw (ovw (ovw (List.replicate (padN b.length) (0 : UInt8)) p1 b) p2 [128]) p3 (List.replicate k 0)) p4 (be8 (mulHi (UInt64.ofNat b.length) 8))) p5 (be8 (UInt64.ofNat b.length * 8)) = padL b := by
  subst h1; subst h2; subst h3; subst hk; subst h4; subst h5
  exact padL_steps b
-- headwater/sha.Pad ['Sl'] -> ['Sl'], results [2]
theorem R30 : Ref Try.prog 30 F30 := by
  refine Ref.of_iw dok Try.func30 rfl (by kernel_rfl) fun args H n e hF => ?_
  obtain ⟨x, b, rfl, hb, hle, rfl⟩ := F30_inv hF
  obtain ⟨xa, xc, rfl⟩ := rdC_len hb
  have hpn := padN_ge b.length
  have hz : (List.replicate (padN b.length) (0 : UInt8)).length = padN b.length := by simp
  have l1 : (ovw (List.replicate (padN b.length) (0 : UInt8)) 0 b).length = padN b.length := by rw [ovw_length (by rw [hz]; omega), hz]
  have l2 : (ovw (ovw (List.replicate (padN b.length) (0 : UInt8)) 0 b) b.length [128]).length = padN b.length := by rw [ovw_length (by rw [l1]; simp; omega), l1]
  have l3 : (ovw (ovw (ovw (List.replicate (padN b.length) (0 : UInt8)) 0 b) b.length [128]) (b.length + 1) (List.replicate (padN b.length - 17 - b.length) 0)).length = padN b.length := by rw [ovw_length (by rw [l2]; simp; omega), l2]
  have l4 : (ovw (ovw (ovw (ovw (List.replicate (padN b.length) (0 : UInt8)) 0 b) b.length [128]) (b.length + 1) (List.replicate (padN b.length - 17 - b.length) 0)) (0 + b.length + 1 + (padN b.length - 17 - b.length)) (be8 (mulHi (UInt64.ofNat b.length) 8))).length = padN b.length := by rw [ovw_length (by rw [l3, be8_length]; omega), l3]
  refine ⟨Nat.le_of_ble_eq_true rfl, ?_⟩
  simp only [idxL]
  have hE : Env Try.prog [(34, F34), (69, F69)] D K := env (fnsOk_cons R34 (fnsOk_cons R69 fnsOk_nil))
  refine IW.seq ?_
  refine IW.free (by simp) (fun hfree => ?_)
  refine IW.reg hE ?_
  refine vcS_val rfl rfl (ox_assign (pl rfl)) ?_
  refine vcS_nil ?_
  refine IW.seq ?_
  refine IW.reg hE ?_
  refine vcS_val rfl rfl (ox_move (pl rfl)) ?_
  refine vcS_val rfl rfl (ox_len (pl rfl) D_35 rfl) ?_
  refine vcS_val rfl rfl (ox_bin (pl rfl) (pl rfl) (bo_i64_add (by omega))) ?_
  refine vcS_val rfl rfl (ox_bin (pl rfl) (pl rfl) (bo_i64_add (by omega))) ?_
  refine vcS_val rfl rfl (ox_bin (pl rfl) (pl rfl) (bo_i64_add (by omega))) ?_
  refine vcS_val rfl rfl (ox_bin (pl rfl) (pl rfl) (bo_i64_sub (by omega))) ?_
  refine vcS_val rfl rfl (ox_bin (pl rfl) (pl rfl) (bo_i64_quo (b.length + 144) 128 (by omega) rfl (by decide) (by omega))) ?_
  refine vcS_val rfl rfl (ox_bin (pl rfl) (pl rfl) ((bo_i64_mul (by omega)).trans (congrArg (fun z => some (Value.int .i64 z)) (show _ = ((padN b.length : Nat) : Int) by unfold padN; omega)))) ?_
  refine vcS_val rfl rfl (ox_assign (pl rfl)) ?_
  refine vcS_nil ?_
  refine IW.seq ?_
  refine IW.reg hE ?_
  refine vcS_val rfl rfl (ox_move (pl rfl)) ?_
  refine vcS_new rfl rfl (ox_makeN 0 (padN b.length) (0 : UInt8) (pl rfl) rfl (pl rfl) rfl D_35 rfl D_5 rfl (Nat.zero_le _) (by simp only [most]; omega) (by show 1 * _ ≤ _; omega)) (.inl (by omega)) ?_
  refine vcS_val rfl rfl (ox_move (pl rfl)) ?_
  refine vcS_appC (p := 0) (k := b.length) rfl rfl rfl rfl rfl D_35 rfl D_5 (srcArg_u8 D_35 rfl rfl (rdC_keep hfree hb (by exact ⟨by omega, trivial⟩))) (by omega) (hp_eq _ _ _ _) (by show _ + _ * 1 = _; omega) (by rw [encs_length, encs_length, hz]; omega) (encs_known _) (.inl (by omega)) splice_encs ?_
  refine vcS_val rfl rfl (ox_assign (pl rfl)) ?_
  refine vcS_nil ?_
  refine IW.seq ?_
  refine IW.reg hE ?_
  refine vcS_val rfl rfl (ox_move (pl rfl)) ?_
  refine vcS_new rfl rfl (ox_bsl (cs := [enc (128 : UInt8)]) D_35 rfl D_5 (Nat.le_of_ble_eq_true rfl) rfl rfl) (.inl (by omega)) ?_
  refine vcS_appC (p := b.length) (k := 1) rfl rfl rfl rfl rfl D_35 rfl D_5 (srcArg_u8 D_35 rfl rfl (rdC_b1 (hp_eq _ _ _ _))) (by omega) (hp_sk (by omega) (hp_eq _ _ _ _)) (by show _ + _ * 1 = _; omega) (by rw [encs_length (α := UInt8), encs_length, l1]; show b.length + 1 ≤ _; omega) (encs_known _) (.inl (by omega)) splice_encs ?_
  refine vcS_val rfl rfl (ox_assign (pl rfl)) ?_
  refine vcS_nil ?_
  refine IW.seq ?_
  refine IW.reg hE ?_
  refine vcS_val rfl rfl (ox_move (pl rfl)) ?_
  refine vcS_val rfl rfl (ox_move (pl rfl)) ?_
  refine vcS_val rfl rfl (ox_bin (pl rfl) (pl rfl) (bo_i64_sub (by omega))) ?_
  refine vcS_val rfl rfl (ox_move (pl rfl)) ?_
  refine vcS_val rfl rfl (ox_len (pl rfl) D_35 rfl) ?_
  refine vcS_val rfl rfl (ox_bin (pl rfl) (pl rfl) (bo_i64_sub (by omega))) ?_
  refine vcS_appC (p := b.length + 1) (k := (padN b.length - 17 - b.length)) rfl rfl rfl rfl rfl D_35 rfl D_5 (srcArg_intE (padN b.length - 17 - b.length) (0 : UInt8) D_3 rfl (by simp; omega) (by simp only [most]; omega) (by show _ * 1 ≤ _; omega) rfl) (by omega) (hp_eq _ _ _ _) (by show _ + _ * 1 = _; omega) (by rw [encs_length, encs_length, l2, List.length_replicate]; omega) (encs_known _) (.inl (by omega)) splice_encs ?_
  refine vcS_val rfl rfl (ox_assign (pl rfl)) ?_
  refine vcS_nil ?_
  refine IW.seq ?_
  refine IW.reg hE ?_
  refine vcS_val rfl rfl (ox_move (pl rfl)) ?_
  refine vcS_val rfl rfl (ox_len (pl rfl) D_35 rfl) ?_
  refine vcS_val rfl rfl (cv_i_6 b.length (pl rfl) D_3 D_22 rfl rfl) ?_
  refine vcS_val rfl rfl (ox_fn rfl rfl (fn2_ev _ (UInt64.ofNat b.length) (8 : UInt64) _ _)) ?_
  refine vcS_val rfl rfl (ox_move (pl rfl)) ?_
  refine vcS_val rfl rfl (ox_extract (pl rfl) rfl) ?_
  refine vcS_val rfl rfl (ox_extract (pl rfl) rfl) ?_
  refine vcS_val rfl rfl (ox_assign (pl rfl)) ?_
  refine vcS_val rfl rfl (ox_assign (pl rfl)) ?_
  refine vcS_nil ?_
  refine IW.seq ?_
  refine IW.reg hE ?_
  refine vcS_val rfl rfl (ox_move (pl rfl)) ?_
  refine vcS_val rfl rfl (ox_move (pl rfl)) ?_
  refine vcS_ups rfl rfl (ox_fn rfl rfl (F69_ev (len := 0 + b.length + 1 + (padN b.length - 17 - b.length)) (hp_eq _ _ _ _) (by omega) (by rw [l3]; omega) (by omega))) rfl ⟨.inl (by omega), trivial⟩ ?_
  refine vcS_val rfl rfl (ox_move (pl rfl)) ?_
  refine vcS_ups rfl rfl (ox_fn rfl rfl (F69_ev (len := 0 + b.length + 1 + (padN b.length - 17 - b.length) + 8) (hp_eq _ _ _ _) (by omega) (by rw [l4]; omega) (by omega))) rfl ⟨.inl (by omega), trivial⟩ ?_
  refine vcS_val rfl rfl (ox_assign (pl rfl)) ?_
  refine vcS_nil ?_
  refine IW.ret ?_
  exact RetP.new1 (.inr rfl) ((ires_tmp rfl).trans (congrArg (fun z => some (Value.slice (some ⟨n, 0, none⟩) z (padN b.length))) (show _ = padN b.length by omega))) (Nat.le_refl _) ((hp_eq _ _ _ _).trans (by rw [padL_at b _ _ _ _ _ _ (by omega) (by omega) (by omega) rfl (by omega) (by omega)])) (by rw [← cels_u8]; exact u8_plain _)
end Go.Proofs.Ytdnnojblneccdaa
/-
  through, Piece: one piece of a sum.
-/
namespace Go.Proofs.Ytdnnojblneccdaa
set_option linter.unusedSimpArgs false
set_option linter.unusedVariables false
open Go
open Enc (enc)
set_option maxRecDepth 100000
/-- the words of a piece: sixteen out of its bytes -/
def w1 (pl : List UInt8) : Nat → List UInt64
  | 0 => (Vector.replicate 80 (0 : UInt64)).toList
  | i + 1 => (w1 pl i).set (i / 8) (shl64 ((w1 pl i).getD (i / 8) 0) 8 ||| (pl.getD i 0).toUInt64)
def wf (l : List UInt64) (t : Nat) : UInt64 :=
  let x := l.getD (t - 15) 0
  let y := l.getD (t - 2) 0
  l.getD (t - 16) 0 + l.getD (t - 7) 0 + (down x 1 ^^^ down x 8 ^^^ shr64 x 7) + (down y 19 ^^^ down y 61 ^^^ shr64 y 6)
/-- .. and the others out of these -/
def w2 (pl : List UInt8) : Nat → List UInt64
  | 0 => w1 pl 128
  | t + 1 => (w2 pl t).set (16 + t) (wf (w2 pl t) (16 + t))
structure W8 where
  a : UInt64
  b : UInt64
  c : UInt64
  d : UInt64
  e : UInt64
  f : UInt64
  g : UInt64
  h : UInt64
def W8.of (l : List UInt64) : W8 := ⟨l.getD 0 0, l.getD 1 0, l.getD 2 0, l.getD 3 0, l.getD 4 0, l.getD 5 0, l.getD 6 0, l.getD 7 0⟩
def W8.list (s : W8) : List UInt64 := [s.a, s.b, s.c, s.d, s.e, s.f, s.g, s.h]
def sm1 (s : W8) (k w : UInt64) : UInt64 := s.h + (down s.e 14 ^^^ down s.e 18 ^^^ down s.e 41) + (s.g ^^^ (s.e &&& (s.f ^^^ s.g))) + k + w
def sm2 (s : W8) : UInt64 := (down s.a 28 ^^^ down s.a 34 ^^^ down s.a 39) + ((s.a &&& s.b) ||| (s.c &&& (s.a ||| s.b)))
def r3 (kl wl : List UInt64) (s : W8) : Nat → W8
  | 0 => s
  | t + 1 => let r := r3 kl wl s t; let t1 := sm1 r (kl.getD t 0) (wl.getD t 0); ⟨t1 + sm2 r, r.a, r.b, r.c, r.d + t1, r.e, r.f, r.g⟩
def s4 (sl x : List UInt64) : Nat → List UInt64
  | 0 => sl
  | i + 1 => (s4 sl x i).set i ((s4 sl x i).getD i 0 + x.getD i 0)
def thrL (kl sl : List UInt64) (pl : List UInt8) : List UInt64 := s4 sl (r3 kl (w2 pl 64) (W8.of sl) 80).list 8
theorem w1_length (pl : List UInt8) : ∀ i, (w1 pl i).length = 80
  | 0 => rfl
  | i + 1 => by simp [w1, w1_length pl i]
theorem w2_length (pl : List UInt8) : ∀ i, (w2 pl i).length = 80
  | 0 => w1_length pl 128
  | i + 1 => by simp [w2, w2_length pl i]
theorem s4_length (sl x : List UInt64) : ∀ i, (s4 sl x i).length = sl.length
  | 0 => rfl
  | i + 1 => by simp [s4, s4_length sl x i]
def thr (kl : List UInt64) (s : Vector UInt64 8) (pl : List UInt8) : Vector UInt64 8 := ⟨(thrL kl s.toList pl).toArray, by simp [thrL, s4_length]⟩
theorem thr_toList (kl : List UInt64) (s : Vector UInt64 8) (pl : List UInt8) : (thr kl s pl).toList = thrL kl s.toList pl := by simp [thr]
noncomputable def F74 : FnI := fun args H n => match args with
  | [.pointer (some ⟨ik, 0, none⟩), x, .pointer (some ⟨ip, 0, none⟩)] => (dec x).bind fun (s : Vector UInt64 8) => match H ik, H ip with
    | some (.cells ck _), some (.cells cp _) => (decs ck).bind fun (kl : List UInt64) => (decs cp).bind fun (pl : List UInt8) => if kl.length = 80 ∧ pl.length = 128 then some ⟨enc (thr kl s pl), [], n⟩ else none
    | _, _ => none
  | _ => none
theorem F74_inv {args : List Value} {H : IHeap} {n : Nat} {e : Eff} (h : F74 args H n = some e) : ∃ (ik ip : Nat) (rk rp : Bool) (s : Vector UInt64 8) (kl : List UInt64) (pl : List UInt8), args = [.pointer (some ⟨ik, 0, none⟩), enc s, .pointer (some ⟨ip, 0, none⟩)] ∧ H ik = some (.cells (encs kl) rk) ∧ H ip = some (.cells (encs pl) rp) ∧ kl.length = 80 ∧ pl.length = 128 ∧ e = ⟨enc (thr kl s pl), [], n⟩ := by
  unfold F74 at h; split at h
  · simp only [Option.bind_eq_some_iff] at h
    obtain ⟨s, hs, h⟩ := h
    split at h
    · rename_i ck rk cp rp h1 h2
      simp only [Option.bind_eq_some_iff] at h
      obtain ⟨kl, hk, pl, hp, h⟩ := h
      split at h
      · rename_i hl; cases h
        exact ⟨_, _, rk, rp, s, kl, pl, by rw [dec_some hs], by rw [h1, decs_some hk], by rw [h2, decs_some hp], hl.1, hl.2, rfl⟩
      · cases h
    · cases h
  · cases h
theorem F74_ev {H : IHeap} {n ik ip : Nat} {rk rp : Bool} {s : Vector UInt64 8} {kl : List UInt64} {pl : List UInt8} (h1 : H ik = some (.cells (encs kl) rk)) (h2 : H ip = some (.cells (encs pl) rp)) (h3 : kl.length = 80) (h4 : pl.length = 128) :
    F74 [.pointer (some ⟨ik, 0, none⟩), enc s, .pointer (some ⟨ip, 0, none⟩)] H n = some ⟨enc (thr kl s pl), [], n⟩ := by
  simp only [F74, dec_enc, Option.bind_some, h1, h2, decs_encs]
  rw [if_pos ⟨h3, h4⟩]
set_option maxHeartbeats 2000000
-- headwater/sha.through ['?', 'Vector UInt64 8', '?'] -> ['Vector UInt64 8'], results [[6, 50]]
theorem R74 : Ref Try.prog 74 F74 := by
  refine Ref.of_iw dok Try.func74 rfl (by kernel_rfl) fun args H n e hF => ?_
  obtain ⟨ik, ip, rk, rp, s, kl, ps, rfl, hk, hpp, hkl, hpl, rfl⟩ := F74_inv hF
  refine ⟨Nat.le_of_ble_eq_true rfl, ?_⟩
  simp only [idxL]
  have hE : Env Try.prog [(90, F90)] D K := env (fnsOk_cons R90 fnsOk_nil)
  refine IW.seq ?_
  refine IW.lt (by simp) hk (fun hik => ?_)
  refine IW.lt (by simp) hpp (fun hip => ?_)
  refine IW.free (by simp) (fun hfree => ?_)
  refine IW.reg hE ?_
  refine vcS_new rfl rfl (ox_box (pl rfl) rfl) (.inl (by omega)) ?_
  refine vcS_new rfl rfl (ox_allocZ (cs := encs (Vector.replicate 8 (0 : UInt64)).toList) D_50 rfl) (.inl (by omega)) ?_
  refine vcS_nil ?_
  refine IW.seq ?_
  refine IW.reg hE ?_
  refine vcS_new rfl rfl (ox_allocZ (cs := encs (Vector.replicate 80 (0 : UInt64)).toList) D_48 rfl) (.inl (by omega)) ?_
  refine vcS_nil ?_
  refine IW.seq ?_
  refine IW.seq ?_
  refine IW.reg hE ?_
  refine vcS_val rfl rfl (ox_move (pl rfl)) ?_
  refine vcS_val rfl rfl (ox_move (pl rfl)) ?_
  refine vcS_nil ?_
  refine IW.block ?_
  refine IW.loop (S := Nat) (fun i => [(0, .pointer (some ⟨ik, 0, none⟩)), (4, .pointer (some ⟨n, 0, none⟩)), (6, .pointer (some ⟨n + 1, 0, none⟩)), (7, .pointer (some ⟨n + 1 + 1, 0, none⟩)), (26, .pointer (some ⟨ip, 0, none⟩)), (27, .int .i64 i)]) (fun i => [(n + 1 + 1, some (.cells (encs (w1 ps i)) false)), (n + 1, some (.cells (encs (Vector.replicate 8 (0 : UInt64)).toList) false)), (n, some (.cells (encs s.toList) false))]) (fun i => n + 1 + 1 + 1) (fun i => i ≤ 128) (fun i => 128 - i) (0) (by simp) (⟨rfl, ⟨rfl, ⟨rfl, ⟨rfl, ⟨rfl, ⟨rfl, trivial⟩⟩⟩⟩⟩⟩) (fun _ _ h => h) (Nat.le_refl _) (fun i hi => ?_)
  refine IW.seq ?_
  refine IW.reg hE ?_
  refine vcS_val rfl rfl (ox_bin (pl rfl) (pl rfl) (bo_i64_lss _ _)) ?_
  refine vcS_nil ?_
  refine IW.seq ?_
  refine IW.cond rfl (fun hc1 => ?_) (fun hc1 => ?_)
  · replace hc1 := of_decide_eq_true hc1
    refine IW.skip ?_
    refine IW.seq ?_
    refine IW.block ?_
    refine IW.seq ?_
    refine IW.drw hE mixed [[],[],[1],[1,2],[0],[0,1,2,3,4]] (by kernel_rfl) (vcE_start ?_)
    refine vcE_bl rfl rfl (fun _ => ox_move (pl rfl)) rfl rfl ?_
    refine vcE_bl rfl rfl (fun _ => ox_nilCheck (pl rfl)) rfl rfl ?_
    refine vcE_bl rfl rfl (fun _ => ox_iaA (pl rfl) (pl rfl) D_63 rfl D_5 (by omega) (by omega)) rfl rfl ?_
    refine vcE_val rfl rfl rfl rfl (ox_load (pl rfl) D_5 (hp_keep hfree hpp (by exact ⟨by omega, ⟨by omega, ⟨by omega, trivial⟩⟩⟩)) (rd_ix (i) (0 : UInt8) rfl (by simp) (by omega))) rfl (si_load (pl rfl)) (lt1 (by omega)) (trivial) ?_
    refine vcE_bl rfl rfl (fun _ => ox_assign (pl rfl)) rfl rfl ?_
    refine vcE_bl rfl rfl (fun _ => ox_assign (pl rfl)) rfl rfl ?_
    refine vcE_nil ?_
    refine IW.reg hE ?_
    refine vcS_val rfl rfl (ox_move (pl rfl)) ?_
    refine vcS_val rfl rfl (ox_bin (pl rfl) (pl rfl) (bo_i64_quo i 8 rfl rfl (by decide) (by omega))) ?_
    refine vcS_val rfl rfl (ox_move (pl rfl)) ?_
    refine vcS_val rfl rfl (ox_bin (pl rfl) (pl rfl) (bo_i64_quo i 8 rfl rfl (by decide) (by omega))) ?_
    refine vcS_val rfl rfl (ox_iaA (pl rfl) (pl rfl) D_48 rfl D_22 (by omega) (by omega)) ?_
    refine vcS_val rfl rfl (ox_load (pl rfl) D_22 (hp_eq _ _ _ _) (rd_ix (i / 8) (0 : UInt64) rfl (by simp; omega) (by rw [w1_length]; omega))) ?_
    refine vcS_val rfl rfl (ox_bin (pl rfl) (pl (v := enc (8 : UInt64)) rfl) (bo_u64_shl _ (by omega))) ?_
    refine vcS_val rfl rfl (ox_move (pl rfl)) ?_
    refine vcS_val rfl rfl (cv_8_6 (pl rfl) D_5 D_22 rfl) ?_
    refine vcS_val rfl rfl (ox_bin (pl rfl) (pl rfl) (bo_u64_or _ _)) ?_
    refine vcS_val rfl rfl (ox_iaA (pl rfl) (pl rfl) D_48 rfl D_22 (by omega) (by omega)) ?_
    refine vcS_sto rfl rfl (ox_store (pl rfl) (pl rfl) D_22 (hp_eq _ _ _ _) rfl rfl (by rw [encs_length]; have := (show i / 8 < (w1 ps i).length by rw [w1_length]; omega); simp; omega) rfl (wr_ix (i / 8) (by simp; omega) _)) (.inl (by omega)) ?_
    refine vcS_nil ?_
    refine IW.nilB ?_
    refine IW.reg hE ?_
    refine vcS_val rfl rfl (ox_bin (pl rfl) (pl rfl) (bo_i64_add (by omega))) ?_
    refine vcS_val rfl rfl (ox_move (pl rfl)) ?_
    refine vcS_nil ?_
    refine IW.nilS ?_
    exact ⟨i + 1, _, _, by omega, by omega, rfl, ⟨rfl, ⟨rfl, ⟨rfl, ⟨rfl, ⟨rfl, ⟨rfl, trivial⟩⟩⟩⟩⟩⟩, rfl, leX_le (leX_cons rfl (leX_old (by simp) leX_refl)), Nat.le_refl _⟩
  · replace hc1 := of_decide_eq_false hc1
    have h128 : i = 128 := by omega
    subst h128
    refine IW.exit ?_
    refine exS (exS ?_)
    refine blkQ_exit ?_
    refine IW.seq ?_
    refine IW.seq ?_
    refine IW.reg hE ?_
    refine vcS_val rfl rfl (ox_assign (pl rfl)) ?_
    refine vcS_nil ?_
    refine IW.block ?_
    refine IW.loop (S := Nat) (fun i => [(0, .pointer (some ⟨ik, 0, none⟩)), (4, .pointer (some ⟨n, 0, none⟩)), (6, .pointer (some ⟨n + 1, 0, none⟩)), (7, .pointer (some ⟨n + 1 + 1, 0, none⟩)), (10, .int .i64 ((16 + i : Nat) : Int))]) (fun i => [(n + 1 + 1, some (.cells (encs (w2 ps i)) false)), (n + 1, some (.cells (encs (Vector.replicate 8 (0 : UInt64)).toList) false)), (n, some (.cells (encs s.toList) false))]) (fun i => n + 1 + 1 + 1) (fun i => i ≤ 64) (fun i => 64 - i) (0) (by simp) (⟨rfl, ⟨rfl, ⟨rfl, ⟨rfl, ⟨rfl, trivial⟩⟩⟩⟩⟩) (fun _ _ h => h) (Nat.le_refl _) (fun i hi => ?_)
    refine IW.seq ?_
    refine IW.seq ?_
    refine IW.reg hE ?_
    refine vcS_val rfl rfl (ox_move (pl rfl)) ?_
    refine vcS_val rfl rfl (ox_bin (pl rfl) (pl rfl) (bo_i64_lss _ _)) ?_
    refine vcS_nil ?_
    refine IW.cond rfl (fun hc2 => ?_) (fun hc2 => ?_)
    · replace hc2 := of_decide_eq_true hc2
      refine IW.skip ?_
      refine IW.seq ?_
      refine IW.block ?_
      refine IW.seq ?_
      refine IW.drw hE mixed [[],[0],[0,1],[0,1,2],[],[4],[4,5],[4,5,6],[0,1,2,3],[0,1,2,3,4,5,6,7,8]] (by kernel_rfl) (vcE_start ?_)
      refine vcE_bl rfl rfl (fun _ => ox_move (pl rfl)) rfl rfl ?_
      refine vcE_bl rfl rfl (fun _ => ox_bin (pl rfl) (pl rfl) (bo_i64_sub (by omega))) rfl rfl ?_
      refine vcE_bl rfl rfl (fun _ => ox_iaA (pl rfl) (pl rfl) D_48 rfl D_22 (by omega) (by omega)) rfl rfl ?_
      refine vcE_val rfl rfl rfl rfl (ox_load (pl rfl) D_22 (hp_eq _ _ _ _) (rd_ix (16 + i - 15) (0 : UInt64) rfl (by simp; omega) (by rw [w2_length]; omega))) rfl (si_load (pl rfl)) (lt1 (by omega)) (trivial) ?_
      refine vcE_bl rfl rfl (fun _ => ox_move (pl rfl)) rfl rfl ?_
      refine vcE_bl rfl rfl (fun _ => ox_bin (pl rfl) (pl rfl) (bo_i64_sub (by omega))) rfl rfl ?_
      refine vcE_bl rfl rfl (fun _ => ox_iaA (pl rfl) (pl rfl) D_48 rfl D_22 (by omega) (by omega)) rfl rfl ?_
      refine vcE_val rfl rfl rfl rfl (ox_load (pl rfl) D_22 (hp_eq _ _ _ _) (rd_ix (16 + i - 2) (0 : UInt64) rfl (by simp; omega) (by rw [w2_length]; omega))) rfl (si_load (pl rfl)) (lt1 (by omega)) (trivial) ?_
      refine vcE_bl rfl rfl (fun _ => ox_assign (pl rfl)) rfl rfl ?_
      refine vcE_bl rfl rfl (fun _ => ox_assign (pl rfl)) rfl rfl ?_
      refine vcE_nil ?_
      refine IW.drw hE mixed [[],[],[1],[1,2],[1,2,3],[],[5],[5,6],[5,6,7],[1,2,3,4,5,6,7,8],[],[10],[],[10,11,12],[10,11,12,13],[],[15],[10,11,12,13,14,15,16],[1,2,3,4,5,6,7,8,9,10,11,12,13,14,15,16,17],[],[10,11,12,13,19],[],[10,11,12,13,19,20,21],[10,11,12,13,19,20,21,22],[],[24],[10,11,12,13,19,20,21,22,23,24,25],[1,2,3,4,5,6,7,8,9,10,11,12,13,14,15,16,17,18,19,20,21,22,23,24,25,26],[0,1,2,3,4,5,6,7,8,9,10,11,12,13,14,15,16,17,18,19,20,21,22,23,24,25,26,27],[0,1,2,3,4,5,6,7,8,9,10,11,12,13,14,15,16,17,18,19,20,21,22,23,24,25,26,27,28]] (by kernel_rfl) (vcE_start ?_)
      refine vcE_bl rfl rfl (fun _ => ox_move (pl rfl)) rfl rfl ?_
      refine vcE_bl rfl rfl (fun _ => ox_move (pl rfl)) rfl rfl ?_
      refine vcE_bl rfl rfl (fun _ => ox_bin (pl rfl) (pl rfl) (bo_i64_sub (by omega))) rfl rfl ?_
      refine vcE_bl rfl rfl (fun _ => ox_iaA (pl rfl) (pl rfl) D_48 rfl D_22 (by omega) (by omega)) rfl rfl ?_
      refine vcE_val rfl rfl rfl rfl (ox_load (pl rfl) D_22 (hp_eq _ _ _ _) (rd_ix (16 + i - 16) (0 : UInt64) rfl (by simp; omega) (by rw [w2_length]; omega))) rfl (si_load (pl rfl)) (lt1 (by omega)) (trivial) ?_
      refine vcE_bl rfl rfl (fun _ => ox_move (pl rfl)) rfl rfl ?_
      refine vcE_bl rfl rfl (fun _ => ox_bin (pl rfl) (pl rfl) (bo_i64_sub (by omega))) rfl rfl ?_
      refine vcE_bl rfl rfl (fun _ => ox_iaA (pl rfl) (pl rfl) D_48 rfl D_22 (by omega) (by omega)) rfl rfl ?_
      refine vcE_val rfl rfl rfl rfl (ox_load (pl rfl) D_22 (hp_eq _ _ _ _) (rd_ix (16 + i - 7) (0 : UInt64) rfl (by simp; omega) (by rw [w2_length]; omega))) rfl (si_load (pl rfl)) (lt1 (by omega)) (trivial) ?_
      refine vcE_bl rfl rfl (fun _ => ox_bin (pl rfl) (pl rfl) (bo_u64_add _ _)) rfl rfl ?_
      refine vcE_bl rfl rfl (fun _ => ox_move (pl rfl)) rfl rfl ?_
      refine vcE_call rfl rfl rfl rfl (ox_fn rfl rfl (rotF_ev _ _ rfl)) rfl ltu0 (trivial) ?_
      refine vcE_bl rfl rfl (fun _ => ox_move (pl rfl)) rfl rfl ?_
      refine vcE_call rfl rfl rfl rfl (ox_fn rfl rfl (rotF_ev _ _ rfl)) rfl ltu0 (trivial) ?_
      refine vcE_bl rfl rfl (fun _ => ox_bin (pl rfl) (pl rfl) (bo_u64_xor _ _)) rfl rfl ?_
      refine vcE_bl rfl rfl (fun _ => ox_move (pl rfl)) rfl rfl ?_
      refine vcE_bl rfl rfl (fun _ => ox_bin (pl rfl) (pl (v := enc (7 : UInt64)) rfl) (bo_u64_shr _ (by omega))) rfl rfl ?_
      refine vcE_bl rfl rfl (fun _ => ox_bin (pl rfl) (pl rfl) (bo_u64_xor _ _)) rfl rfl ?_
      refine vcE_bl rfl rfl (fun _ => ox_bin (pl rfl) (pl rfl) (bo_u64_add _ _)) rfl rfl ?_
      refine vcE_bl rfl rfl (fun _ => ox_move (pl rfl)) rfl rfl ?_
      refine vcE_call rfl rfl rfl rfl (ox_fn rfl rfl (rotF_ev _ _ rfl)) rfl ltu0 (trivial) ?_
      refine vcE_bl rfl rfl (fun _ => ox_move (pl rfl)) rfl rfl ?_
      refine vcE_call rfl rfl rfl rfl (ox_fn rfl rfl (rotF_ev _ _ rfl)) rfl ltu0 (trivial) ?_
      refine vcE_bl rfl rfl (fun _ => ox_bin (pl rfl) (pl rfl) (bo_u64_xor _ _)) rfl rfl ?_
      refine vcE_bl rfl rfl (fun _ => ox_move (pl rfl)) rfl rfl ?_
      refine vcE_bl rfl rfl (fun _ => ox_bin (pl rfl) (pl (v := enc (6 : UInt64)) rfl) (bo_u64_shr _ (by omega))) rfl rfl ?_
      refine vcE_bl rfl rfl (fun _ => ox_bin (pl rfl) (pl rfl) (bo_u64_xor _ _)) rfl rfl ?_
      refine vcE_bl rfl rfl (fun _ => ox_bin (pl rfl) (pl rfl) (bo_u64_add _ _)) rfl rfl ?_
      refine vcE_bl rfl rfl (fun _ => ox_iaA (pl rfl) (pl rfl) D_48 rfl D_22 (by omega) (by omega)) rfl rfl ?_
      refine vcE_sto rfl rfl rfl rfl (ox_store (pl rfl) (pl rfl) D_22 (hp_eq _ _ _ _) rfl rfl (by rw [encs_length]; have := (show 16 + i < (w2 ps i).length by rw [w2_length]; omega); simp; omega) rfl (wr_ix (16 + i) (by simp; omega) _)) rfl (si_store (pl rfl)) (is_some (hp_eq _ _ _ _)) (by omega) (.inl (by omega)) (trivial) (⟨trivial, ⟨trivial, ⟨trivial, ⟨trivial, ⟨trivial, ⟨trivial, trivial⟩⟩⟩⟩⟩⟩) ?_
      refine vcE_nil ?_
      refine IW.nilB ?_
      refine IW.reg hE ?_
      refine vcS_val rfl rfl (ox_move (pl rfl)) ?_
      refine vcS_val rfl rfl (ox_bin (pl rfl) (pl rfl) (bo_i64_add (by omega))) ?_
      refine vcS_val rfl rfl (ox_assign (pl rfl)) ?_
      refine vcS_nil ?_
      refine IW.nilS ?_
      exact ⟨i + 1, _, _, by omega, by omega, rfl, ⟨rfl, ⟨rfl, ⟨rfl, ⟨rfl, ⟨(congrArg (fun z => some (Value.int .i64 z)) (by omega)), trivial⟩⟩⟩⟩⟩, rfl, leX_le (leX_cons rfl (leX_old (by simp) leX_refl)), Nat.le_refl _⟩
    · replace hc2 := of_decide_eq_false hc2
      have h64 : i = 64 := by omega
      subst h64
      refine IW.exit ?_
      refine exS (exS ?_)
      refine blkQ_exit ?_
      refine IW.seq ?_
      refine IW.drw hE mixed [[],[0],[],[2],[],[4],[],[6],[],[8],[],[10],[],[12],[],[14],[0,1],[0,1,2,3,16],[0,1,2,3,4,5,16,17],[0,1,2,3,4,5,6,7,16,17,18],[0,1,2,3,4,5,6,7,8,9,16,17,18,19],[0,1,2,3,4,5,6,7,8,9,10,11,16,17,18,19,20],[0,1,2,3,4,5,6,7,8,9,10,11,12,13,16,17,18,19,20,21],[0,1,2,3,4,5,6,7,8,9,10,11,12,13,14,15,16,17,18,19,20,21,22]] (by kernel_rfl) (vcE_start ?_)
      refine vcE_bl rfl rfl (fun _ => ox_iaA (pl rfl) (pl rfl) D_50 rfl D_22 (by omega) (by omega)) rfl rfl ?_
      refine vcE_val rfl rfl rfl rfl (ox_load (pl rfl) D_22 (hp_sk (by omega) (hp_sk (by omega) (hp_eq _ _ _ _))) (rd_ix (0) (0 : UInt64) rfl (by simp) (by simp))) rfl (si_load (pl rfl)) (lt1 (by omega)) (trivial) ?_
      refine vcE_bl rfl rfl (fun _ => ox_iaA (pl rfl) (pl rfl) D_50 rfl D_22 (by omega) (by omega)) rfl rfl ?_
      refine vcE_val rfl rfl rfl rfl (ox_load (pl rfl) D_22 (hp_sk (by omega) (hp_sk (by omega) (hp_eq _ _ _ _))) (rd_ix (1) (0 : UInt64) rfl (by simp) (by simp))) rfl (si_load (pl rfl)) (lt1 (by omega)) (trivial) ?_
      refine vcE_bl rfl rfl (fun _ => ox_iaA (pl rfl) (pl rfl) D_50 rfl D_22 (by omega) (by omega)) rfl rfl ?_
      refine vcE_val rfl rfl rfl rfl (ox_load (pl rfl) D_22 (hp_sk (by omega) (hp_sk (by omega) (hp_eq _ _ _ _))) (rd_ix (2) (0 : UInt64) rfl (by simp) (by simp))) rfl (si_load (pl rfl)) (lt1 (by omega)) (trivial) ?_
      refine vcE_bl rfl rfl (fun _ => ox_iaA (pl rfl) (pl rfl) D_50 rfl D_22 (by omega) (by omega)) rfl rfl ?_
      refine vcE_val rfl rfl rfl rfl (ox_load (pl rfl) D_22 (hp_sk (by omega) (hp_sk (by omega) (hp_eq _ _ _ _))) (rd_ix (3) (0 : UInt64) rfl (by simp) (by simp))) rfl (si_load (pl rfl)) (lt1 (by omega)) (trivial) ?_
      refine vcE_bl rfl rfl (fun _ => ox_iaA (pl rfl) (pl rfl) D_50 rfl D_22 (by omega) (by omega)) rfl rfl ?_
      refine vcE_val rfl rfl rfl rfl (ox_load (pl rfl) D_22 (hp_sk (by omega) (hp_sk (by omega) (hp_eq _ _ _ _))) (rd_ix (4) (0 : UInt64) rfl (by simp) (by simp))) rfl (si_load (pl rfl)) (lt1 (by omega)) (trivial) ?_
      refine vcE_bl rfl rfl (fun _ => ox_iaA (pl rfl) (pl rfl) D_50 rfl D_22 (by omega) (by omega)) rfl rfl ?_
      refine vcE_val rfl rfl rfl rfl (ox_load (pl rfl) D_22 (hp_sk (by omega) (hp_sk (by omega) (hp_eq _ _ _ _))) (rd_ix (5) (0 : UInt64) rfl (by simp) (by simp))) rfl (si_load (pl rfl)) (lt1 (by omega)) (trivial) ?_
      refine vcE_bl rfl rfl (fun _ => ox_iaA (pl rfl) (pl rfl) D_50 rfl D_22 (by omega) (by omega)) rfl rfl ?_
      refine vcE_val rfl rfl rfl rfl (ox_load (pl rfl) D_22 (hp_sk (by omega) (hp_sk (by omega) (hp_eq _ _ _ _))) (rd_ix (6) (0 : UInt64) rfl (by simp) (by simp))) rfl (si_load (pl rfl)) (lt1 (by omega)) (trivial) ?_
      refine vcE_bl rfl rfl (fun _ => ox_iaA (pl rfl) (pl rfl) D_50 rfl D_22 (by omega) (by omega)) rfl rfl ?_
      refine vcE_val rfl rfl rfl rfl (ox_load (pl rfl) D_22 (hp_sk (by omega) (hp_sk (by omega) (hp_eq _ _ _ _))) (rd_ix (7) (0 : UInt64) rfl (by simp) (by simp))) rfl (si_load (pl rfl)) (lt1 (by omega)) (trivial) ?_
      refine vcE_bl rfl rfl (fun _ => ox_assign (pl rfl)) rfl rfl ?_
      refine vcE_bl rfl rfl (fun _ => ox_assign (pl rfl)) rfl rfl ?_
      refine vcE_bl rfl rfl (fun _ => ox_assign (pl rfl)) rfl rfl ?_
      refine vcE_bl rfl rfl (fun _ => ox_assign (pl rfl)) rfl rfl ?_
      refine vcE_bl rfl rfl (fun _ => ox_assign (pl rfl)) rfl rfl ?_
      refine vcE_bl rfl rfl (fun _ => ox_assign (pl rfl)) rfl rfl ?_
      refine vcE_bl rfl rfl (fun _ => ox_assign (pl rfl)) rfl rfl ?_
      refine vcE_bl rfl rfl (fun _ => ox_assign (pl rfl)) rfl rfl ?_
      refine vcE_nil ?_
      refine IW.seq ?_
      refine IW.seq ?_
      refine IW.reg hE ?_
      refine vcS_val rfl rfl (ox_move (pl rfl)) ?_
      refine vcS_nil ?_
      refine IW.block ?_
      refine IW.loop (S := Nat) (fun i => [(0, .pointer (some ⟨ik, 0, none⟩)), (4, .pointer (some ⟨n, 0, none⟩)), (6, .pointer (some ⟨n + 1, 0, none⟩)), (7, .pointer (some ⟨n + 1 + 1, 0, none⟩)), (13, enc (r3 kl (w2 ps 64) (W8.of s.toList) i).a), (14, enc (r3 kl (w2 ps 64) (W8.of s.toList) i).b), (15, enc (r3 kl (w2 ps 64) (W8.of s.toList) i).c), (16, enc (r3 kl (w2 ps 64) (W8.of s.toList) i).d), (17, enc (r3 kl (w2 ps 64) (W8.of s.toList) i).e), (18, enc (r3 kl (w2 ps 64) (W8.of s.toList) i).f), (19, enc (r3 kl (w2 ps 64) (W8.of s.toList) i).g), (20, enc (r3 kl (w2 ps 64) (W8.of s.toList) i).h), (102, .int .i64 i)]) (fun i => [(n + 1 + 1, some (.cells (encs (w2 ps 64)) false)), (n + 1, some (.cells (encs (Vector.replicate 8 (0 : UInt64)).toList) false)), (n, some (.cells (encs s.toList) false))]) (fun i => n + 1 + 1 + 1) (fun i => i ≤ 80) (fun i => 80 - i) (0) (by simp) (⟨rfl, ⟨rfl, ⟨rfl, ⟨rfl, ⟨rfl, ⟨rfl, ⟨rfl, ⟨rfl, ⟨rfl, ⟨rfl, ⟨rfl, ⟨rfl, ⟨rfl, trivial⟩⟩⟩⟩⟩⟩⟩⟩⟩⟩⟩⟩⟩) (fun _ _ h => h) (Nat.le_refl _) (fun i hi => ?_)
      refine IW.seq ?_
      refine IW.reg hE ?_
      refine vcS_val rfl rfl (ox_bin (pl rfl) (pl rfl) (bo_i64_lss _ _)) ?_
      refine vcS_nil ?_
      refine IW.seq ?_
      refine IW.cond rfl (fun hc3 => ?_) (fun hc3 => ?_)
      · replace hc3 := of_decide_eq_true hc3
        refine IW.skip ?_
        refine IW.seq ?_
        refine IW.block ?_
        refine IW.seq ?_
        refine IW.reg hE ?_
        refine vcS_val rfl rfl (ox_move (pl rfl)) ?_
        refine vcS_val rfl rfl (ox_assign (pl rfl)) ?_
        refine vcS_nil ?_
        refine IW.seq ?_
        refine IW.drw hE mixed [[],[],[1],[],[1,2,3],[1,2,3,4],[],[1,2,3,4,6],[1,2,3,4,5,6,7],[0,1,2,3,4,5,6,7,8],[],[],[],[],[12,13],[11,12,13,14],[10,11,12,13,14,15],[0,1,2,3,4,5,6,7,8,9,10,11,12,13,14,15,16],[],[],[18],[18,19,20],[18,19,20,21],[0,1,2,3,4,5,6,7,8,9,10,11,12,13,14,15,16,17,18,19,20,21,22],[],[24],[24,25],[0,1,2,3,4,5,6,7,8,9,10,11,12,13,14,15,16,17,18,19,20,21,22,23,24,25,26],[0,1,2,3,4,5,6,7,8,9,10,11,12,13,14,15,16,17,18,19,20,21,22,23,24,25,26,27]] (by kernel_rfl) (vcE_start ?_)
        refine vcE_bl rfl rfl (fun _ => ox_move (pl rfl)) rfl rfl ?_
        refine vcE_bl rfl rfl (fun _ => ox_move (pl rfl)) rfl rfl ?_
        refine vcE_call rfl rfl rfl rfl (ox_fn rfl rfl (rotF_ev _ _ rfl)) rfl ltu0 (trivial) ?_
        refine vcE_bl rfl rfl (fun _ => ox_move (pl rfl)) rfl rfl ?_
        refine vcE_call rfl rfl rfl rfl (ox_fn rfl rfl (rotF_ev _ _ rfl)) rfl ltu0 (trivial) ?_
        refine vcE_bl rfl rfl (fun _ => ox_bin (pl rfl) (pl rfl) (bo_u64_xor _ _)) rfl rfl ?_
        refine vcE_bl rfl rfl (fun _ => ox_move (pl rfl)) rfl rfl ?_
        refine vcE_call rfl rfl rfl rfl (ox_fn rfl rfl (rotF_ev _ _ rfl)) rfl ltu0 (trivial) ?_
        refine vcE_bl rfl rfl (fun _ => ox_bin (pl rfl) (pl rfl) (bo_u64_xor _ _)) rfl rfl ?_
        refine vcE_bl rfl rfl (fun _ => ox_bin (pl rfl) (pl rfl) (bo_u64_add _ _)) rfl rfl ?_
        refine vcE_bl rfl rfl (fun _ => ox_move (pl rfl)) rfl rfl ?_
        refine vcE_bl rfl rfl (fun _ => ox_move (pl rfl)) rfl rfl ?_
        refine vcE_bl rfl rfl (fun _ => ox_move (pl rfl)) rfl rfl ?_
        refine vcE_bl rfl rfl (fun _ => ox_move (pl rfl)) rfl rfl ?_
        refine vcE_bl rfl rfl (fun _ => ox_bin (pl rfl) (pl rfl) (bo_u64_xor _ _)) rfl rfl ?_
        refine vcE_bl rfl rfl (fun _ => ox_bin (pl rfl) (pl rfl) (bo_u64_and _ _)) rfl rfl ?_
        refine vcE_bl rfl rfl (fun _ => ox_bin (pl rfl) (pl rfl) (bo_u64_xor _ _)) rfl rfl ?_
        refine vcE_bl rfl rfl (fun _ => ox_bin (pl rfl) (pl rfl) (bo_u64_add _ _)) rfl rfl ?_
        refine vcE_bl rfl rfl (fun _ => ox_move (pl rfl)) rfl rfl ?_
        refine vcE_bl rfl rfl (fun _ => ox_move (pl rfl)) rfl rfl ?_
        refine vcE_bl rfl rfl (fun _ => ox_nilCheck (pl rfl)) rfl rfl ?_
        refine vcE_bl rfl rfl (fun _ => ox_iaA (pl rfl) (pl rfl) D_48 rfl D_22 (by omega) (by omega)) rfl rfl ?_
        refine vcE_val rfl rfl rfl rfl (ox_load (pl rfl) D_22 (hp_keep hfree hk (by exact ⟨by omega, ⟨by omega, ⟨by omega, trivial⟩⟩⟩)) (rd_ix (i) (0 : UInt64) rfl (by simp) (by omega))) rfl (si_load (pl rfl)) (lt1 (by omega)) (trivial) ?_
        refine vcE_bl rfl rfl (fun _ => ox_bin (pl rfl) (pl rfl) (bo_u64_add _ _)) rfl rfl ?_
        refine vcE_bl rfl rfl (fun _ => ox_move (pl rfl)) rfl rfl ?_
        refine vcE_bl rfl rfl (fun _ => ox_iaA (pl rfl) (pl rfl) D_48 rfl D_22 (by omega) (by omega)) rfl rfl ?_
        refine vcE_val rfl rfl rfl rfl (ox_load (pl rfl) D_22 (hp_eq _ _ _ _) (rd_ix (i) (0 : UInt64) rfl (by simp) (by rw [w2_length]; omega))) rfl (si_load (pl rfl)) (lt1 (by omega)) (trivial) ?_
        refine vcE_bl rfl rfl (fun _ => ox_bin (pl rfl) (pl rfl) (bo_u64_add _ _)) rfl rfl ?_
        refine vcE_bl rfl rfl (fun _ => ox_assign (pl rfl)) rfl rfl ?_
        refine vcE_nil ?_
        refine IW.seq ?_
        refine IW.reg hE ?_
        refine vcS_val rfl rfl (ox_move (pl rfl)) ?_
        refine vcS_val rfl rfl (ox_fn rfl rfl (rotF_ev _ _ rfl)) ?_
        refine vcS_val rfl rfl (ox_move (pl rfl)) ?_
        refine vcS_val rfl rfl (ox_fn rfl rfl (rotF_ev _ _ rfl)) ?_
        refine vcS_val rfl rfl (ox_bin (pl rfl) (pl rfl) (bo_u64_xor _ _)) ?_
        refine vcS_val rfl rfl (ox_move (pl rfl)) ?_
        refine vcS_val rfl rfl (ox_fn rfl rfl (rotF_ev _ _ rfl)) ?_
        refine vcS_val rfl rfl (ox_bin (pl rfl) (pl rfl) (bo_u64_xor _ _)) ?_
        refine vcS_val rfl rfl (ox_move (pl rfl)) ?_
        refine vcS_val rfl rfl (ox_move (pl rfl)) ?_
        refine vcS_val rfl rfl (ox_bin (pl rfl) (pl rfl) (bo_u64_and _ _)) ?_
        refine vcS_val rfl rfl (ox_move (pl rfl)) ?_
        refine vcS_val rfl rfl (ox_move (pl rfl)) ?_
        refine vcS_val rfl rfl (ox_move (pl rfl)) ?_
        refine vcS_val rfl rfl (ox_bin (pl rfl) (pl rfl) (bo_u64_or _ _)) ?_
        refine vcS_val rfl rfl (ox_bin (pl rfl) (pl rfl) (bo_u64_and _ _)) ?_
        refine vcS_val rfl rfl (ox_bin (pl rfl) (pl rfl) (bo_u64_or _ _)) ?_
        refine vcS_val rfl rfl (ox_bin (pl rfl) (pl rfl) (bo_u64_add _ _)) ?_
        refine vcS_val rfl rfl (ox_assign (pl rfl)) ?_
        refine vcS_nil ?_
        refine IW.reg hE ?_
        refine vcS_val rfl rfl (ox_move (pl rfl)) ?_
        refine vcS_val rfl rfl (ox_move (pl rfl)) ?_
        refine vcS_val rfl rfl (ox_bin (pl rfl) (pl rfl) (bo_u64_add _ _)) ?_
        refine vcS_val rfl rfl (ox_move (pl rfl)) ?_
        refine vcS_val rfl rfl (ox_move (pl rfl)) ?_
        refine vcS_val rfl rfl (ox_move (pl rfl)) ?_
        refine vcS_val rfl rfl (ox_move (pl rfl)) ?_
        refine vcS_val rfl rfl (ox_move (pl rfl)) ?_
        refine vcS_val rfl rfl (ox_bin (pl rfl) (pl rfl) (bo_u64_add _ _)) ?_
        refine vcS_val rfl rfl (ox_move (pl rfl)) ?_
        refine vcS_val rfl rfl (ox_move (pl rfl)) ?_
        refine vcS_val rfl rfl (ox_move (pl rfl)) ?_
        refine vcS_val rfl rfl (ox_assign (pl rfl)) ?_
        refine vcS_val rfl rfl (ox_assign (pl rfl)) ?_
        refine vcS_val rfl rfl (ox_assign (pl rfl)) ?_
        refine vcS_val rfl rfl (ox_assign (pl rfl)) ?_
        refine vcS_val rfl rfl (ox_assign (pl rfl)) ?_
        refine vcS_val rfl rfl (ox_assign (pl rfl)) ?_
        refine vcS_val rfl rfl (ox_assign (pl rfl)) ?_
        refine vcS_val rfl rfl (ox_assign (pl rfl)) ?_
        refine vcS_nil ?_
        refine IW.nilB ?_
        refine IW.reg hE ?_
        refine vcS_val rfl rfl (ox_bin (pl rfl) (pl rfl) (bo_i64_add (by omega))) ?_
        refine vcS_val rfl rfl (ox_move (pl rfl)) ?_
        refine vcS_nil ?_
        refine IW.nilS ?_
        exact ⟨i + 1, _, _, by omega, by omega, rfl, ⟨rfl, ⟨rfl, ⟨rfl, ⟨rfl, ⟨rfl, ⟨rfl, ⟨rfl, ⟨rfl, ⟨rfl, ⟨rfl, ⟨rfl, ⟨rfl, ⟨rfl, trivial⟩⟩⟩⟩⟩⟩⟩⟩⟩⟩⟩⟩⟩, rfl, fun _ _ h => h, Nat.le_refl _⟩
      · replace hc3 := of_decide_eq_false hc3
        have h80 : i = 80 := by omega
        subst h80
        refine IW.exit ?_
        refine exS (exS ?_)
        refine blkQ_exit ?_
        refine IW.seq ?_
        refine IW.seq ?_
        refine IW.reg hE ?_
        refine vcS_val rfl rfl (ox_move (pl rfl)) ?_
        refine vcS_val rfl rfl (ox_move (pl rfl)) ?_
        refine vcS_val rfl rfl (ox_move (pl rfl)) ?_
        refine vcS_val rfl rfl (ox_move (pl rfl)) ?_
        refine vcS_val rfl rfl (ox_move (pl rfl)) ?_
        refine vcS_val rfl rfl (ox_move (pl rfl)) ?_
        refine vcS_val rfl rfl (ox_move (pl rfl)) ?_
        refine vcS_val rfl rfl (ox_move (pl rfl)) ?_
        refine vcS_val rfl rfl (ox_buildA (cs := encs (r3 kl (w2 ps 64) (W8.of s.toList) 80).list) D_50 rfl D_22 rfl rfl) ?_
        refine vcS_val rfl rfl (ox_move (pl rfl)) ?_
        refine vcS_nil ?_
        refine IW.block ?_
        refine IW.loop (S := Nat) (fun i => [(4, .pointer (some ⟨n, 0, none⟩)), (6, .pointer (some ⟨n + 1, 0, none⟩)), (172, .agg (encs (r3 kl (w2 ps 64) (W8.of s.toList) 80).list).toArray), (173, .int .i64 i)]) (fun i => [(n, some (.cells (encs (s4 s.toList (r3 kl (w2 ps 64) (W8.of s.toList) 80).list i)) false)), (n + 1, some (.cells (encs (Vector.replicate 8 (0 : UInt64)).toList) false))]) (fun i => n + 1 + 1 + 1) (fun i => i ≤ 8) (fun i => 8 - i) (0) (by simp) (⟨rfl, ⟨rfl, ⟨rfl, ⟨rfl, trivial⟩⟩⟩⟩) (leX_le (leX_same (hp_sk (by omega) (hp_sk (by omega) (hp_eq _ _ _ _))) rfl (leX_new (free_hp hfree (by omega) ⟨by omega, trivial⟩) (leX_cons rfl (leX_old (by simp) leX_refl))))) (Nat.le_refl _) (fun i hi => ?_)
        refine IW.seq ?_
        refine IW.reg hE ?_
        refine vcS_val rfl rfl (ox_bin (pl rfl) (pl rfl) (bo_i64_lss _ _)) ?_
        refine vcS_nil ?_
        refine IW.seq ?_
        refine IW.cond rfl (fun hc4 => ?_) (fun hc4 => ?_)
        · replace hc4 := of_decide_eq_true hc4
          refine IW.skip ?_
          refine IW.seq ?_
          refine IW.block ?_
          refine IW.seq ?_
          refine IW.reg hE ?_
          refine vcS_val rfl rfl (ox_move (pl rfl)) ?_
          refine vcS_val rfl rfl (ox_ixA (pl rfl) (pl rfl) D_50 rfl D_22 (by omega) (by omega) (rd_ix (i) (0 : UInt64) rfl (by simp) (by simp [W8.list]; omega))) ?_
          refine vcS_val rfl rfl (ox_assign (pl rfl)) ?_
          refine vcS_val rfl rfl (ox_assign (pl rfl)) ?_
          refine vcS_nil ?_
          refine IW.reg hE ?_
          refine vcS_val rfl rfl (ox_move (pl rfl)) ?_
          refine vcS_val rfl rfl (ox_iaA (pl rfl) (pl rfl) D_50 rfl D_22 (by omega) (by omega)) ?_
          refine vcS_val rfl rfl (ox_load (pl rfl) D_22 (hp_eq _ _ _ _) (rd_ix (i) (0 : UInt64) rfl (by simp) (by rw [s4_length]; simp; omega))) ?_
          refine vcS_val rfl rfl (ox_move (pl rfl)) ?_
          refine vcS_val rfl rfl (ox_bin (pl rfl) (pl rfl) (bo_u64_add _ _)) ?_
          refine vcS_val rfl rfl (ox_iaA (pl rfl) (pl rfl) D_50 rfl D_22 (by omega) (by omega)) ?_
          refine vcS_sto rfl rfl (ox_store (pl rfl) (pl rfl) D_22 (hp_eq _ _ _ _) rfl rfl (by rw [encs_length]; have := (show i < (s4 s.toList (r3 kl (w2 ps 64) (W8.of s.toList) 80).list i).length by rw [s4_length]; simp; omega); simp; omega) rfl (wr_ix (i) (by simp) _)) (.inl (by omega)) ?_
          refine vcS_nil ?_
          refine IW.nilB ?_
          refine IW.reg hE ?_
          refine vcS_val rfl rfl (ox_bin (pl rfl) (pl rfl) (bo_i64_add (by omega))) ?_
          refine vcS_val rfl rfl (ox_move (pl rfl)) ?_
          refine vcS_nil ?_
          refine IW.nilS ?_
          exact ⟨i + 1, _, _, by omega, by omega, rfl, ⟨rfl, ⟨rfl, ⟨rfl, ⟨rfl, trivial⟩⟩⟩⟩, rfl, leX_le (leX_cons rfl (leX_old (by simp) leX_refl)), Nat.le_refl _⟩
        · replace hc4 := of_decide_eq_false hc4
          have h8 : i = 8 := by omega
          subst h8
          have hthr : s4 s.toList (r3 kl (w2 ps 64) (W8.of s.toList) 80).list 8 = (thr kl s ps).toList := (thr_toList _ _ _).symm
          rw [hthr]
          refine IW.exit ?_
          refine exS (exS ?_)
          refine blkQ_exit ?_
          refine IW.seq ?_
          refine IW.reg hE ?_
          refine vcS_val rfl rfl (ox_load (pl rfl) D_50 (hp_eq _ _ _ _) (rd_all rfl (encs_vec_length _))) ?_
          refine vcS_sto rfl rfl (ox_store (pl rfl) (pl rfl) D_50 (hp_sk (by omega) (hp_eq _ _ _ _)) rfl (encs_vec_length _) (le_vec _ rfl) (encs_known _) (wr_all (by simp only [encs_vec_length]))) (.inl (by omega)) ?_
          refine vcS_nil ?_
          refine IW.ret ?_
          exact RetP.pure (.inr rfl) (ires_cell rfl D_50 (hp_eq _ _ _ _) (rd_all rfl (encs_vec_length (thr kl s ps)))) (okV64 _) (by omega)
end Go.Proofs.Ytdnnojblneccdaa
/-
  Piece; slices.Grow, slices.Concat of bytes; slices.Chunk; all pieces.
-/
namespace Go.Proofs.Ytdnnojblneccdaa
set_option linter.unusedSimpArgs false
set_option linter.unusedVariables false
open Go
open Enc (enc)
set_option maxRecDepth 100000
def zU8 : List Value := [.int .u8 0]
def F104 : FnI := growF 1 1 zU8
-- slices.Grow[[]byte,byte] ['Sl', 'Int'] -> ['Sl'], results [4]
theorem R104 : Ref Try.prog 104 F104 := by
  refine Ref.of_iw dok Try.func104 rfl (by kernel_rfl) fun args H n e hF => ?_
  obtain ⟨k, rfl, hk, rfl⟩ := growF_inv hF
  have hk1 : k ≤ 2 ^ 47 := by simp only [most] at hk; omega
  refine ⟨Nat.le_of_ble_eq_true rfl, ?_⟩
  simp only [idxL]
  have hE : Env Try.prog [] D K := env fnsOk_nil
  refine IW.seq ?_
  refine IW.reg hE ?_
  refine vcS_val rfl rfl (ox_assign (pl rfl)) ?_
  refine vcS_nil ?_
  refine IW.seq ?_
  refine IW.seq ?_
  refine IW.reg hE ?_
  refine vcS_val rfl rfl (ox_move (pl rfl)) ?_
  refine vcS_val rfl rfl (ox_bin (pl rfl) (pl rfl) (bo_i64_lss _ _)) ?_
  refine vcS_nil ?_
  refine IW.cond rfl (fun hc1 => ?_) (fun hc1 => ?_)
  · exact absurd (of_decide_eq_true hc1) (by omega)
  · replace hc1 := of_decide_eq_false hc1
    refine IW.skip ?_
    refine IW.seq ?_
    refine IW.seq ?_
    refine IW.reg hE ?_
    refine vcS_val rfl rfl (ox_move (pl rfl)) ?_
    refine vcS_val rfl rfl (ox_move (pl rfl)) ?_
    refine vcS_val rfl rfl (ox_capN (pl rfl) D_35 rfl) ?_
    refine vcS_val rfl rfl (ox_move (pl rfl)) ?_
    refine vcS_val rfl rfl (ox_len (pl rfl) D_35 rfl) ?_
    refine vcS_val rfl rfl (ox_bin (pl rfl) (pl rfl) (bo_i64_sub (by omega))) ?_
    refine vcS_val rfl rfl (ox_bin (pl rfl) (pl rfl) (bo_i64_sub (by omega))) ?_
    refine vcS_val rfl rfl (ox_assign (pl rfl)) ?_
    refine vcS_nil ?_
    refine IW.seq ?_
    refine IW.reg hE ?_
    refine vcS_val rfl rfl (ox_move (pl rfl)) ?_
    refine vcS_val rfl rfl (ox_bin (pl rfl) (pl rfl) (bo_i64_gtr _ _)) ?_
    refine vcS_nil ?_
    refine IW.cond rfl (fun hc2 => ?_) (fun hc2 => ?_)
    · replace hc2 := of_decide_eq_true hc2
      refine IW.reg hE ?_
      refine vcS_val rfl rfl (ox_move (pl rfl)) ?_
      refine vcS_val rfl rfl (ox_move (pl rfl)) ?_
      refine vcS_val rfl rfl (ox_capN (pl rfl) D_35 rfl) ?_
      refine vcS_val rfl rfl (ox_slN (pl rfl) D_35 rfl D_5 rfl) ?_
      refine vcS_val rfl rfl (ox_move (pl rfl)) ?_
      refine vcS_new rfl rfl (ox_appZ (pl rfl) ((pl rfl).trans (congrArg (Value.int .i64) (show _ = ((k : Nat) : Int) by omega))) D_35 rfl D_5 D_3 rfl (by omega) hk (by decide)) (.inl (by omega)) ?_
      refine vcS_val rfl rfl (ox_move (pl rfl)) ?_
      refine vcS_val rfl rfl (ox_len (pl rfl) D_35 rfl) ?_
      refine vcS_val rfl rfl (ox_slH (pl rfl) D_35 rfl D_5 (bndI (pl rfl) rfl) (Nat.zero_le _) (.inr rfl)) ?_
      refine vcS_val rfl rfl (ox_assign (pl rfl)) ?_
      refine vcS_nil ?_
      refine IW.seq ?_
      refine IW.reg hE ?_
      refine vcS_val rfl rfl (ox_move (pl rfl)) ?_
      refine vcS_val rfl rfl (ox_assign (pl rfl)) ?_
      refine vcS_nil ?_
      refine IW.ret ?_
      rw [growE_pos (by omega)]; exact RetP.new1 (.inr rfl) (ires_tmp rfl) (Nat.le_refl _) (hp_eq _ _ _ _) (rep_plain (by decide) _)
    · replace hc2 := of_decide_eq_false hc2
      refine IW.skip ?_
      refine IW.seq ?_
      refine IW.reg hE ?_
      refine vcS_val rfl rfl (ox_move (pl rfl)) ?_
      refine vcS_val rfl rfl (ox_assign (pl rfl)) ?_
      refine vcS_nil ?_
      refine IW.ret ?_
      have e0 : k = 0 := by omega
      subst e0; rw [growE_zero]; exact RetP.ret (.inr rfl) rfl rfl trivial rfl
noncomputable def F85 : FnI := concF UInt8 1
-- slices.Concat[[]byte,byte] ['Sl'] -> ['Sl'], results [2]
theorem R85 : Ref Try.prog 85 F85 := by
  refine Ref.of_iw dok Try.func85 rfl (by kernel_rfl) fun args H n e hF => ?_
  obtain ⟨xa, xc, S, ls, rfl, hS, hls, hle, hto, rfl⟩ := concF_inv hF
  have hlen := (rdL_get hls).1
  have htt : ls.flatten.length ≤ 2 ^ 47 := by simp only [most] at hto; omega
  refine ⟨Nat.le_of_ble_eq_true rfl, ?_⟩
  simp only [idxL]
  have hE : Env Try.prog [(104, F104)] D K := env (fnsOk_cons R104 fnsOk_nil)
  refine IW.seq ?_
  refine IW.reg hE ?_
  refine vcS_val rfl rfl (ox_assign (pl rfl)) ?_
  refine vcS_nil ?_
  refine IW.seq ?_
  refine IW.free (by simp) (fun hfree => ?_)
  refine IW.reg hE ?_
  refine vcS_val rfl rfl (ox_assign (pl rfl)) ?_
  refine vcS_nil ?_
  refine IW.seq ?_
  refine IW.seq ?_
  refine IW.reg hE ?_
  refine vcS_val rfl rfl (ox_move (pl rfl)) ?_
  refine vcS_val rfl rfl (ox_len (pl rfl) D_94 rfl) ?_
  refine vcS_val rfl rfl (ox_move (pl rfl)) ?_
  refine vcS_nil ?_
  refine IW.block ?_
  refine IW.loop (S := Nat) (fun s => [(0, .slice xa S.length xc), (2, .slice none 0 0), (9, .slice xa S.length xc), (10, .int .i64 S.length), (11, .int .i64 s), (3, .int .i64 (firsts ls s).length)]) (fun s => []) (fun s => n) (fun s => s ≤ S.length) (fun s => S.length - s) (0) (by simp) (⟨rfl, ⟨rfl, ⟨rfl, ⟨rfl, ⟨rfl, ⟨rfl, trivial⟩⟩⟩⟩⟩⟩) (fun _ _ h => h) (Nat.le_refl _) (fun s hs => ?_)
  refine IW.seq ?_
  refine IW.reg hE ?_
  refine vcS_val rfl rfl (ox_bin (pl rfl) (pl rfl) (bo_i64_lss _ _)) ?_
  refine vcS_nil ?_
  refine IW.seq ?_
  refine IW.cond rfl (fun hc1 => ?_) (fun hc1 => ?_)
  · replace hc1 := of_decide_eq_true hc1
    have hc1 : s < S.length := by omega
    obtain ⟨i1, o1, p1, c1, r1, e1, m1, l1⟩ := rdC_at hS hc1
    subst e1
    obtain ⟨sa, sc, hi, es, hr⟩ := rdL_at hls hc1
    have hb := firsts_le hi
    refine IW.skip ?_
    refine IW.seq ?_
    refine IW.block ?_
    refine IW.seq ?_
    refine IW.reg hE ?_
    refine vcS_val rfl rfl (ox_iaS (pl rfl) (pl rfl) D_94 rfl D_35 (by omega) (by omega)) ?_
    refine vcS_val rfl rfl (ox_load (pl rfl) D_35 m1 (rd_hdr l1 hc1 es rfl rfl)) ?_
    refine vcS_val rfl rfl (ox_assign (pl rfl)) ?_
    refine vcS_nil ?_
    refine IW.seq ?_
    refine IW.reg hE ?_
    refine vcS_val rfl rfl (ox_move (pl rfl)) ?_
    refine vcS_val rfl rfl (ox_move (pl rfl)) ?_
    refine vcS_val rfl rfl (ox_len (pl rfl) D_35 rfl) ?_
    refine vcS_val rfl rfl (ox_bin (pl rfl) (pl rfl) (bo_i64_add (by omega))) ?_
    refine vcS_val rfl rfl (ox_assign (pl rfl)) ?_
    refine vcS_nil ?_
    refine IW.seq ?_
    refine IW.reg hE ?_
    refine vcS_val rfl rfl (ox_move (pl rfl)) ?_
    refine vcS_val rfl rfl (ox_bin (pl rfl) (pl rfl) (bo_i64_lss _ _)) ?_
    refine vcS_nil ?_
    refine IW.cond rfl (fun hc2 => ?_) (fun hc2 => ?_)
    · exact absurd (of_decide_eq_true hc2) (by omega)
    · replace hc2 := of_decide_eq_false hc2
      refine IW.skip ?_
      refine IW.nilB ?_
      refine IW.reg hE ?_
      refine vcS_val rfl rfl (ox_bin (pl rfl) (pl rfl) (bo_i64_add (by omega))) ?_
      refine vcS_val rfl rfl (ox_move (pl rfl)) ?_
      refine vcS_nil ?_
      refine IW.nilS ?_
      exact ⟨s + 1, _, _, by omega, by omega, rfl, ⟨rfl, ⟨rfl, ⟨rfl, ⟨rfl, ⟨rfl, ⟨(by rw [firsts_succ hi, List.length_append]; rfl), trivial⟩⟩⟩⟩⟩⟩, rfl, fun _ _ h => h, Nat.le_refl _⟩
  · replace hc1 := of_decide_eq_false hc1
    have hs2 : firsts ls s = ls.flatten := firsts_all (by omega)
    rw [hs2]
    refine IW.exit ?_
    refine exS (exS ?_)
    refine blkQ_exit ?_
    refine IW.seq ?_
    by_cases h0 : ls.flatten.length = 0
    · refine IW.reg hE ?_
      refine vcS_val rfl rfl (ox_move (pl rfl)) ?_
      refine vcS_ups rfl rfl (ox_fn rfl rfl (growF_ev0 h0)) rfl trivial ?_
      refine vcS_val rfl rfl (ox_assign (pl rfl)) ?_
      refine vcS_nil ?_
      refine IW.seq ?_
      refine IW.seq ?_
      refine IW.reg hE ?_
      refine vcS_val rfl rfl (ox_move (pl rfl)) ?_
      refine vcS_val rfl rfl (ox_len (pl rfl) D_94 rfl) ?_
      refine vcS_val rfl rfl (ox_move (pl rfl)) ?_
      refine vcS_nil ?_
      refine IW.block ?_
      refine IW.loop (S := Nat) (fun s => [(0, .slice xa S.length xc), (2, .slice none 0 0), (25, .slice xa S.length xc), (26, .int .i64 S.length), (27, .int .i64 s), (6, .slice none 0 0)]) (fun s => []) (fun s => n) (fun s => s ≤ S.length) (fun s => S.length - s) (0) (by simp) (⟨rfl, ⟨rfl, ⟨rfl, ⟨rfl, ⟨rfl, ⟨rfl, trivial⟩⟩⟩⟩⟩⟩) (fun _ _ h => h) (Nat.le_refl _) (fun s hs => ?_)
      refine IW.seq ?_
      refine IW.reg hE ?_
      refine vcS_val rfl rfl (ox_bin (pl rfl) (pl rfl) (bo_i64_lss _ _)) ?_
      refine vcS_nil ?_
      refine IW.seq ?_
      refine IW.cond rfl (fun hc3 => ?_) (fun hc3 => ?_)
      · replace hc3 := of_decide_eq_true hc3
        have hc3 : s < S.length := by omega
        obtain ⟨i1, o1, p1, c1, r1, e1, m1, l1⟩ := rdC_at hS hc3
        subst e1
        obtain ⟨sa, sc, hi, es, hr⟩ := rdL_at hls hc3
        have hb := firsts_le hi
        have e0 := nil_of_total hi h0
        rw [e0] at es hr
        refine IW.skip ?_
        refine IW.seq ?_
        refine IW.block ?_
        refine IW.seq ?_
        refine IW.reg hE ?_
        refine vcS_val rfl rfl (ox_iaS (pl rfl) (pl rfl) D_94 rfl D_35 (by omega) (by omega)) ?_
        refine vcS_val rfl rfl (ox_load (pl rfl) D_35 m1 (rd_hdr l1 hc3 es rfl rfl)) ?_
        refine vcS_val rfl rfl (ox_assign (pl rfl)) ?_
        refine vcS_nil ?_
        refine IW.reg hE ?_
        refine vcS_val rfl rfl (ox_move (pl rfl)) ?_
        refine vcS_val rfl rfl (ox_move (pl rfl)) ?_
        refine vcS_val rfl rfl (ox_app0 (α := UInt8) (pl rfl) (pl rfl) D_35 rfl D_5 D_35 rfl rfl hr rfl (Nat.le_refl _)) ?_
        refine vcS_val rfl rfl (ox_assign (pl rfl)) ?_
        refine vcS_nil ?_
        refine IW.nilB ?_
        refine IW.reg hE ?_
        refine vcS_val rfl rfl (ox_bin (pl rfl) (pl rfl) (bo_i64_add (by omega))) ?_
        refine vcS_val rfl rfl (ox_move (pl rfl)) ?_
        refine vcS_nil ?_
        refine IW.nilS ?_
        exact ⟨s + 1, _, _, by omega, by omega, rfl, ⟨rfl, ⟨rfl, ⟨rfl, ⟨rfl, ⟨rfl, ⟨rfl, trivial⟩⟩⟩⟩⟩⟩, rfl, fun _ _ h => h, Nat.le_refl _⟩
      · replace hc3 := of_decide_eq_false hc3
        refine IW.exit ?_
        refine exS (exS ?_)
        refine blkQ_exit ?_
        refine IW.seq ?_
        refine IW.reg hE ?_
        refine vcS_val rfl rfl (ox_move (pl rfl)) ?_
        refine vcS_val rfl rfl (ox_assign (pl rfl)) ?_
        refine vcS_nil ?_
        refine IW.ret ?_
        rw [concE_zero h0]; exact RetP.ret (.inr rfl) rfl rfl trivial rfl
    · refine IW.reg hE ?_
      refine vcS_val rfl rfl (ox_move (pl rfl)) ?_
      refine vcS_ups rfl rfl (ox_fn rfl rfl (growF_evp (by omega) hto)) rfl ⟨.inl (by omega), trivial⟩ ?_
      refine vcS_val rfl rfl (ox_assign (pl rfl)) ?_
      refine vcS_nil ?_
      refine IW.seq ?_
      refine IW.seq ?_
      refine IW.reg hE ?_
      refine vcS_val rfl rfl (ox_move (pl rfl)) ?_
      refine vcS_val rfl rfl (ox_len (pl rfl) D_94 rfl) ?_
      refine vcS_val rfl rfl (ox_move (pl rfl)) ?_
      refine vcS_nil ?_
      refine IW.block ?_
      refine IW.loop (S := Nat) (fun s => [(0, .slice xa S.length xc), (2, .slice none 0 0), (25, .slice xa S.length xc), (26, .int .i64 S.length), (27, .int .i64 s), (6, .slice (some ⟨n + s, 0, some 1⟩) (firsts ls s).length (capC ls s))]) (fun s => [(n + s, some (.cells (celC zU8 ls s) false))]) (fun s => n + s + 1) (fun s => s ≤ S.length) (fun s => S.length - s) (0) (by simp) (⟨rfl, ⟨rfl, ⟨rfl, ⟨rfl, ⟨rfl, ⟨rfl, trivial⟩⟩⟩⟩⟩⟩) (fun _ _ h => h) (Nat.le_refl _) (fun s hs => ?_)
      refine IW.seq ?_
      refine IW.reg hE ?_
      refine vcS_val rfl rfl (ox_bin (pl rfl) (pl rfl) (bo_i64_lss _ _)) ?_
      refine vcS_nil ?_
      refine IW.seq ?_
      refine IW.cond rfl (fun hc4 => ?_) (fun hc4 => ?_)
      · replace hc4 := of_decide_eq_true hc4
        have hc4 : s < S.length := by omega
        obtain ⟨i1, o1, p1, c1, r1, e1, m1, l1⟩ := rdC_at hS hc4
        subst e1
        obtain ⟨sa, sc, hi, es, hr⟩ := rdL_at hls hc4
        have hb := firsts_le hi
        have hi1 : i1 < n := rdC_free hfree hS i1 o1 p1 _ _ rfl
        have hk := celC_ok zU8 ls s 1 rfl
        refine IW.skip ?_
        refine IW.seq ?_
        refine IW.block ?_
        refine IW.seq ?_
        refine IW.reg hE ?_
        refine vcS_val rfl rfl (ox_iaS (pl rfl) (pl rfl) D_94 rfl D_35 (by omega) (by omega)) ?_
        refine vcS_val rfl rfl (ox_load (pl rfl) D_35 (hp_sk (by omega) m1) (rd_hdr l1 hc4 es rfl rfl)) ?_
        refine vcS_val rfl rfl (ox_assign (pl rfl)) ?_
        refine vcS_nil ?_
        refine IW.reg hE ?_
        refine vcS_val rfl rfl (ox_move (pl rfl)) ?_
        refine vcS_val rfl rfl (ox_move (pl rfl)) ?_
        refine vcS_ups rfl rfl (ox_appO (α := UInt8) (l1 := firsts ls s) (pl rfl) (pl rfl) D_35 rfl D_5 D_35 rfl rfl rfl (hp_eq _ _ _ _) rfl hk.1 hk.2 (rdC_hp hr (rdC_free hfree hr) (by omega)) (Nat.le_trans (Nat.mul_le_mul_right _ hb) hto) (by decide)) rfl ⟨.inl (by omega), .inl (by omega), trivial⟩ ?_
        refine vcS_val rfl rfl (ox_assign (pl rfl)) ?_
        refine vcS_nil ?_
        refine IW.nilB ?_
        refine IW.reg hE ?_
        refine vcS_val rfl rfl (ox_bin (pl rfl) (pl rfl) (bo_i64_add (by omega))) ?_
        refine vcS_val rfl rfl (ox_move (pl rfl)) ?_
        refine vcS_nil ?_
        refine IW.nilS ?_
        exact ⟨s + 1, _, _, by omega, by omega, rfl, ⟨rfl, ⟨rfl, ⟨rfl, ⟨rfl, ⟨rfl, ⟨(by rw [firsts_succ hi, capC_succ hi, List.length_append]; rfl), trivial⟩⟩⟩⟩⟩⟩, rfl, hp_step hfree (by omega) (by rw [celC_succ hi]), by omega⟩
      · replace hc4 := of_decide_eq_false hc4
        have hs3 : firsts ls s = ls.flatten := firsts_all (by omega)
        refine IW.exit ?_
        refine exS (exS ?_)
        refine blkQ_exit ?_
        refine IW.seq ?_
        refine IW.reg hE ?_
        refine vcS_val rfl rfl (ox_move (pl rfl)) ?_
        refine vcS_val rfl rfl (ox_assign (pl rfl)) ?_
        refine vcS_nil ?_
        refine IW.ret ?_
        have hs0 : s ≠ 0 := by intro e; rw [e] at hs3; rw [← hs3] at h0; exact h0 rfl
        rw [concE_pos h0]; exact RetP.new1 (.inr rfl) ((ires_tmp rfl).trans (by rw [show capC ls s = ls.flatten.length by unfold capC; rw [if_neg hs0, hs3], hs3]; rfl)) (by omega) ((hp_eq _ _ _ _).trans (by rw [show celC zU8 ls s = cels ls.flatten by unfold celC; rw [if_neg hs0, hs3]])) (u8_plain _)
def F103 : FnI := fun args H n => match args with
  | [.slice (some ⟨id, off, none⟩) len cap, .int .i64 128] => if (H id).isSome = true then some ⟨.func (.func 114) #[] #[pv n, pv (n + 1)], [(n, some (.cells [.slice (some ⟨id, off, none⟩) len cap] false)), (n + 1, some (.cells [.int .i64 128] false))], n + 2⟩ else none
  | _ => none
theorem F103_inv {args : List Value} {H : IHeap} {n : Nat} {e : Eff} (h : F103 args H n = some e) : ∃ id off len cap, args = [.slice (some ⟨id, off, none⟩) len cap, .int .i64 128] ∧ (H id).isSome = true ∧ e = ⟨.func (.func 114) #[] #[pv n, pv (n + 1)], [(n, some (.cells [.slice (some ⟨id, off, none⟩) len cap] false)), (n + 1, some (.cells [.int .i64 128] false))], n + 2⟩ := by
  unfold F103 at h; split at h
  · split at h
    · rename_i hs; cases h; exact ⟨_, _, _, _, rfl, hs, rfl⟩
    · cases h
  · cases h
theorem F103_ev {H : IHeap} {n id off len cap : Nat} (hs : (H id).isSome = true) : F103 [.slice (some ⟨id, off, none⟩) len cap, .int .i64 128] H n = some ⟨.func (.func 114) #[] #[pv n, pv (n + 1)], [(n, some (.cells [.slice (some ⟨id, off, none⟩) len cap] false)), (n + 1, some (.cells [.int .i64 128] false))], n + 2⟩ := by
  simp only [F103]; rw [if_pos hs]
-- slices.Chunk[[]byte,byte] ['Sl', 'Int'] -> ['?'], results [4]
theorem R103 : Ref Try.prog 103 F103 := by
  refine Ref.of_iw dok Try.func103 rfl (by kernel_rfl) fun args H n e hF => ?_
  obtain ⟨id, off, len, cap, rfl, hs, rfl⟩ := F103_inv hF
  refine ⟨Nat.le_of_ble_eq_true rfl, ?_⟩
  simp only [idxL]
  have hE : Env Try.prog [] D K := env fnsOk_nil
  refine IW.seq ?_
  obtain ⟨o, ho⟩ := Option.isSome_iff_exists.1 hs
  refine IW.lt (by simp) ho (fun hid => ?_)
  refine IW.reg hE ?_
  refine vcS_new rfl rfl (ox_box (pl rfl) rfl) (.inl (by omega)) ?_
  refine vcS_new rfl rfl (ox_box (pl rfl) rfl) (.inl (by omega)) ?_
  refine vcS_val rfl rfl (ox_assign (pl rfl)) ?_
  refine vcS_nil ?_
  refine IW.seq ?_
  refine IW.seq ?_
  refine IW.reg hE ?_
  refine vcS_val rfl rfl (ox_load (pl rfl) D_3 (hp_eq _ _ _ _) rfl) ?_
  refine vcS_val rfl rfl (ox_bin (pl rfl) (pl rfl) (bo_i64_lss _ _)) ?_
  refine vcS_nil ?_
  refine IW.cond rfl (fun hc1 => ?_) (fun hc1 => ?_)
  · cases hc1
  · replace hc1 := of_decide_eq_false hc1
    refine IW.skip ?_
    refine IW.seq ?_
    refine IW.reg hE ?_
    refine vcS_val rfl rfl (ox_makeFunc2 (pl rfl) (pl rfl)) ?_
    refine vcS_val rfl rfl (ox_assign (pl rfl)) ?_
    refine vcS_nil ?_
    refine IW.ret ?_
    refine RetP.news [n, n + 1] (cs := [[.slice (some ⟨id, off, none⟩) len cap], [.int .i64 128]]) (.inr rfl) (ires_tmp rfl) ?_ rfl rfl ⟨by omega, by omega, trivial⟩ (by simp) ⟨(hp_sk (by omega) (hp_eq _ _ _ _)).trans ?_, (hp_eq _ _ _ _), trivial⟩ ?_ ?_
    · simp [Ytdnnojblneccdaa.ren, ren2, pv, ren1, gL_at (m := n) (n := n) (ms := [n, n + 1]) (Nat.le_refl _) (by simp), gL_at (m := n + 1) (n := n) (ms := [n, n + 1]) (Nat.le_succ _) (by simp)]
    · simp [ren1, gL_lt hid]
    · intro c hc x hx
      simp only [List.mem_cons, List.not_mem_nil, or_false] at hc
      rcases hc with rfl | rfl <;> (simp only [List.mem_singleton] at hx; subst hx)
      · show id < _; simp; omega
      · trivial
    · exact ⟨fun x hx => by simp at hx, fun x hx => by simp at hx; rcases hx with rfl | rfl <;> (show _ < _; simp)⟩
/-! all pieces -/
def pcs (p : List UInt8) (i : Nat) : List UInt8 := (p.drop (i * 128)).take 128
/-- the pieces of these numbers, one behind the other -/
def foldP {k : Nat} (kl : List UInt64) (p : List UInt8) (s : Vector UInt64 8) (is : List (Fin k)) : Vector UInt64 8 := is.foldl (fun (s : Vector UInt64 8) (i : Fin k) => thr kl s (pcs p i)) s
theorem foldP_snoc {k : Nat} (kl : List UInt64) (p : List UInt8) (s : Vector UInt64 8) (is : List (Fin k)) (x : Fin k) : foldP kl p s (is ++ [x]) = thr kl (foldP kl p s is) (pcs p x) := by simp [foldP]
def allV (kl : List UInt64) (p : List UInt8) (s : Vector UInt64 8) : Vector UInt64 8 := foldP kl p s (List.finRange (p.length / 128))
noncomputable def F84 : FnI := fun args H n => match args with
  | [.pointer (some ⟨ik, 0, none⟩), x, y] => (dec x).bind fun (s : Vector UInt64 8) => (rdC H y).bind fun (b : List UInt8) => match H ik with
    | some (.cells ck _) => (decs ck).bind fun (kl : List UInt64) => if kl.length = 80 ∧ b.length ≤ 2 ^ 40 then some ⟨enc (allV kl (padL b) s), [], n⟩ else none
    | _ => none
  | _ => none
theorem F84_inv {args : List Value} {H : IHeap} {n : Nat} {e : Eff} (h : F84 args H n = some e) : ∃ (ik : Nat) (rk : Bool) (s : Vector UInt64 8) (y : Value) (b : List UInt8) (kl : List UInt64), args = [.pointer (some ⟨ik, 0, none⟩), enc s, y] ∧ rdC H y = some b ∧ H ik = some (.cells (encs kl) rk) ∧ kl.length = 80 ∧ b.length ≤ 2 ^ 40 ∧ e = ⟨enc (allV kl (padL b) s), [], n⟩ := by
  unfold F84 at h; split at h
  · simp only [Option.bind_eq_some_iff] at h
    obtain ⟨s, hs, b, hb, h⟩ := h
    split at h
    · rename_i ck rk h1
      simp only [Option.bind_eq_some_iff] at h
      obtain ⟨kl, hk, h⟩ := h
      split at h
      · rename_i hl; cases h
        exact ⟨_, rk, s, _, b, kl, by rw [dec_some hs], hb, by rw [h1, decs_some hk], hl.1, hl.2, rfl⟩
      · cases h
    · cases h
  · cases h
theorem F84_ev {H : IHeap} {n ik : Nat} {rk : Bool} {s : Vector UInt64 8} {y : Value} {b : List UInt8} {kl : List UInt64} (hb : rdC H y = some b) (h1 : H ik = some (.cells (encs kl) rk)) (h2 : kl.length = 80) (h3 : b.length ≤ 2 ^ 40) :
    F84 [.pointer (some ⟨ik, 0, none⟩), enc s, y] H n = some ⟨enc (allV kl (padL b) s), [], n⟩ := by
  simp only [F84, dec_enc, Option.bind_some, hb, h1, decs_encs]
  rw [if_pos ⟨h2, h3⟩]
def pvec (p : List UInt8) (i : Nat) (h : i * 128 + 128 ≤ p.length) : Vector UInt8 128 := ⟨(pcs p i).toArray, by simp [pcs]; omega⟩
theorem pvec_toList {p : List UInt8} {i : Nat} (h : i * 128 + 128 ≤ p.length) : (pvec p i h).toList = pcs p i := by simp [pvec]
theorem rd_pvec {p : List UInt8} {i j : Nat} {d : TD} (h : i * 128 + 128 ≤ p.length) (hk : d.k.isAgg = true) (hs : d.size = 128) (hj : j = i * 128) : rdVar d (encs p) j = some (enc (pvec p i h)) := by
  subst hj
  have hsp : p = p.take (i * 128) ++ (pcs p i ++ p.drop (i * 128 + 128)) := by
    unfold pcs
    rw [← List.drop_drop, List.take_append_drop, List.take_append_drop]
  have hc : encs p = encs (p.take (i * 128)) ++ (encs (pvec p i h).toList ++ encs (p.drop (i * 128 + 128))) := by
    rw [pvec_toList, ← encs_append, ← encs_append, ← hsp]
  exact rd_part hk hc (by rw [encs_length]; simp; omega) (by rw [encs_vec_length, hs])
-- headwater/sha.all ['?', 'Vector UInt64 8', 'Sl'] -> ['Vector UInt64 8'], results [[6, 50]]
theorem R84 : Ref Try.prog 84 F84 := by
  refine Ref.of_iw dok Try.func84 rfl (by kernel_rfl) fun args H n e hF => ?_
  obtain ⟨ik, rk, s, y, b, kl, rfl, hb, hk, hkl, hle, rfl⟩ := F84_inv hF
  have hpn := padN_ge b.length
  have hpl := padL_length b
  have hdv : padN b.length = 128 * ((padL b).length / 128) := by rw [hpl]; unfold padN; omega
  refine ⟨Nat.le_of_ble_eq_true rfl, ?_⟩
  simp only [idxL]
  have hE : Env Try.prog [(30, F30), (74, F74), (103, F103)] D K := env (fnsOk_cons R30 (fnsOk_cons R74 (fnsOk_cons R103 fnsOk_nil)))
  refine IW.seq ?_
  refine IW.cells (by simp) ?_
  replace hb := rdC_cellsH hb
  replace hk := cellsH_cells hk
  refine IW.lt (by simp) hk (fun hik => ?_)
  refine IW.free (by simp) (fun hfree => ?_)
  refine IW.reg hE ?_
  refine vcS_new rfl rfl (ox_box (pl rfl) rfl) (.inl (by omega)) ?_
  refine vcS_new rfl rfl (ox_box (pl rfl) rfl) (.inl (by omega)) ?_
  refine vcS_new rfl rfl (ox_allocZ (cs := encs (Vector.replicate 8 (0 : UInt64)).toList) D_50 rfl) (.inl (by omega)) ?_
  refine vcS_nil ?_
  refine IW.seq ?_
  refine IW.seq ?_
  refine IW.reg hE ?_
  refine vcS_val rfl rfl (ox_move (pl rfl)) ?_
  refine vcS_ups rfl rfl (ox_fn rfl rfl (F30_ev (rdC_keep hfree hb (by exact ⟨by omega, ⟨by omega, ⟨by omega, trivial⟩⟩⟩)) hle)) rfl ⟨.inl (by omega), trivial⟩ ?_
  refine vcS_ups rfl rfl (ox_fn rfl rfl (F103_ev (is_some (hp_eq _ _ _ _)))) rfl ⟨.inl (by omega), ⟨.inl (by omega), trivial⟩⟩ ?_
  refine vcS_nil ?_
  refine IW.block ?_
  refine IW.rangeFunc (k := ((padL b).length / 128)) (ks := [n + 1 + 1 + 1 + 1, n + 1 + 1 + 1 + 2]) (ws := [n + 1]) (fun i => pieceV (n + 1 + 1 + 1) 0 i) (fun pre => [(n + 1, some (.cells (encs (foldP kl (padL b) s pre).toList) false)), (n + 1 + 1 + 1 + 2, some (.cells [.int .i64 128] false)), (n + 1 + 1 + 1 + 1, some (.cells [.slice (some ⟨n + 1 + 1 + 1, 0, none⟩) (padN b.length) (padN b.length)] false)), (n + 1 + 1 + 1, some (.cells (encs (padL b)) false)), (n + 1 + 1, some (.cells (encs (Vector.replicate 8 (0 : UInt64)).toList) false)), (n, some (.cells [.pointer (some ⟨ik, 0, none⟩)] false))]) (fun pre => n + 1 + 1 + 1 + 3 + pre.length) rfl rfl Try.func114 rfl (by kernel_rfl) (chunk_gives (hp_sk (by omega) (hp_eq _ _ _ _)) (hp_eq _ _ _ _) hdv (Nat.le_refl _) (by rw [hpl]; omega)) ?_ (by simp) (fun id hid => .inl (by omega)) ?_ ?_ (fun pre => allC_is (by rfl)) (fun pre x => by simp) (fun pre => by omega) ?_ ?_
  · exact leX_le (leX_same (hp_sk (by omega) (hp_sk (by omega) (hp_sk (by omega) (hp_sk (by omega) (hp_eq _ _ _ _))))) rfl (leX_cons rfl (leX_cons rfl (leX_cons rfl (leX_cons rfl (leX_old (by simp) leX_refl))))))
  · intro pre id hid
    simp only [List.mem_cons, List.not_mem_nil, or_false] at hid
    rcases hid with rfl | rfl
    · exact is_some (hp_sk (by omega) (hp_sk (by omega) (hp_eq _ _ _ _)))
    · exact is_some (hp_sk (by omega) (hp_eq _ _ _ _))
  · intro id hid
    simp only [List.mem_singleton] at hid
    subst hid
    exact ⟨.inl (by omega), by simp, fun pre => is_some (hp_eq _ _ _ _)⟩
  · intro l pre x Wb hWn hWo
    have hx := x.isLt
    have hxp : (x : Nat) * 128 + 128 ≤ (padL b).length := by omega
    refine IW.block ?_
    refine IW.seq ?_
    refine IW.reg hE ?_
    refine vcS_val rfl rfl (ox_move (pl rfl)) ?_
    refine vcS_val rfl rfl (ox_s2ap (pl rfl) D_63 rfl (Nat.le_refl _)) ?_
    refine vcS_val rfl rfl (ox_load (pl rfl) D_63 (hp_sk (by omega) (hp_sk (by omega) (hp_sk (by omega) (hp_eq _ _ _ _)))) (rd_pvec hxp rfl rfl (by simp))) ?_
    refine vcS_new rfl rfl (ox_allocZ (cs := encs (Vector.replicate 128 (0 : UInt8)).toList) D_63 rfl) (hWn _ (by omega)) ?_
    refine vcS_sto rfl rfl (ox_store (pl rfl) (pl rfl) D_63 (hp_eq _ _ _ _) rfl (encs_vec_length _) (le_vec _ rfl) (encs_known _) (wr_all (by simp only [encs_vec_length]))) (hWn _ (by omega)) ?_
    refine vcS_nil ?_
    refine IW.reg hE ?_
    refine vcS_val rfl rfl (ox_load (pl rfl) D_102 (hp_sk (by omega) (hp_sk (by omega) (hp_sk (by omega) (hp_sk (by omega) (hp_sk (by omega) (hp_sk (by omega) (hp_sk (by omega) (hp_eq _ _ _ _)))))))) rfl) ?_
    refine vcS_val rfl rfl (ox_load (pl rfl) D_50 (hp_sk (by omega) (hp_sk (by omega) (hp_eq _ _ _ _))) (rd_all rfl (encs_vec_length _))) ?_
    refine vcS_val rfl rfl (ox_fn rfl rfl (F74_ev (pl := (pvec (padL b) x hxp).toList) (hp_keep hfree hk (by exact ⟨by omega, ⟨by omega, ⟨by omega, ⟨by omega, ⟨by omega, ⟨by omega, ⟨by omega, ⟨by omega, trivial⟩⟩⟩⟩⟩⟩⟩⟩)) (hp_eq _ _ _ _) hkl (by simp))) ?_
    refine vcS_sto rfl rfl (ox_store (pl rfl) (pl rfl) D_50 (hp_sk (by omega) (hp_sk (by omega) (hp_eq _ _ _ _))) rfl (encs_vec_length _) (le_vec _ rfl) (encs_known _) (wr_all (by simp only [encs_vec_length]))) (hWo _ (by simp)) ?_
    refine vcS_nil ?_
    refine IW.nilB ?_
    refine IW.nilS ?_
    exact ⟨_, rfl, leX_le (leX_cons (by rw [foldP_snoc, pvec_toList]) (leX_new (free_hp hfree (by omega) ⟨by omega, by omega, by omega, by omega, by omega, trivial⟩) (leX_new (free_hp hfree (by omega) ⟨by omega, by omega, by omega, by omega, by omega, trivial⟩) (leX_old (by simp) leX_refl)))), by simp; omega⟩
  · refine IW.nilB ?_
    refine IW.seq ?_
    refine IW.reg hE ?_
    refine vcS_val rfl rfl (ox_load (pl rfl) D_50 (hp_eq _ _ _ _) (rd_all rfl (encs_vec_length _))) ?_
    refine vcS_sto rfl rfl (ox_store (pl rfl) (pl rfl) D_50 (hp_sk (by omega) (hp_sk (by omega) (hp_sk (by omega) (hp_sk (by omega) (hp_eq _ _ _ _))))) rfl (encs_vec_length _) (le_vec _ rfl) (encs_known _) (wr_all (by simp only [encs_vec_length]))) (.inl (by omega)) ?_
    refine vcS_nil ?_
    refine IW.ret ?_
    exact RetP.pure (.inr rfl) (ires_cell rfl D_50 (hp_eq _ _ _ _) (rd_all rfl (encs_vec_length _))) (okV64 _) (by omega)
end Go.Proofs.Ytdnnojblneccdaa
