/-
  Regions whose order is open: what is to be shown, as a function of the text's order.
-/
import Derived.Test.YtdnnojblneccdaaE13
namespace Go.Proofs.Ytdnnojblneccdaa
set_option linter.unusedSimpArgs false
set_option linter.unusedVariables false
open Go

def cnt (d : Nat → Bool) : Nat → Nat
  | 0 => 0
  | k + 1 => cnt d k + if d k then 0 else 1
theorem cnt_zero {d : Nat → Bool} : ∀ {m : Nat}, cnt d m = 0 → ∀ j, j < m → d j = true
  | m + 1, h, j, hj => by
    simp only [cnt] at h
    by_cases e : j = m
    · subst e
      cases hd : d j with
      | true => rfl
      | false => rw [hd] at h; simp at h
    · exact cnt_zero (m := m) (by omega) j (by omega)
theorem cnt_same {d d' : Nat → Bool} : ∀ {m : Nat}, (∀ j, j < m → d j = d' j) → cnt d m = cnt d' m
  | 0, _ => rfl
  | m + 1, h => by simp only [cnt]; rw [cnt_same fun j hj => h j (by omega), h m (by omega)]
theorem cnt_more {d : Nat → Bool} {i : Nat} : ∀ {m : Nat}, i < m → d i = false → cnt (fun j => d j || decide (j = i)) m + 1 = cnt d m
  | m + 1, hi, hd => by
    simp only [cnt]
    by_cases e : i = m
    · subst e
      have : cnt (fun j => d j || decide (j = i)) i = cnt d i := cnt_same fun j hj => by simp [show j ≠ i by omega]
      rw [this]; simp [hd]
    · have := cnt_more (m := m) (by omega) hd
      have hm : m ≠ i := fun h => e h.symm
      simp only [hm, decide_false, Bool.or_false]
      omega

theorem Inv.congr {W : Nat → Prop} {m : Nat} {tr : Nat → Tr} {t0 : List Value} {H0 : IHeap} {n0 m0 : Nat} {ρ0 : Ren} {w0 : World} {d d' : Nat → Bool} {a : Act} {w : World} {ρ : Ren}
    (I : Inv W m tr t0 H0 n0 m0 ρ0 w0 d a w ρ) (h : ∀ j, j < m → d j = d' j) : Inv W m tr t0 H0 n0 m0 ρ0 w0 d' a w ρ := by
  have h1 : ∀ u, sT tr t0 n0 d' m u = sT tr t0 n0 d m u := fun u => sT_congr tr t0 n0 m fun j hj _ => (h j hj).symm
  have h2 : ∀ u, sH tr H0 n0 d' m u = sH tr H0 n0 d m u := fun u => sH_congr tr H0 n0 m fun j hj _ => (h j hj).symm
  refine ⟨I.size, I.defers, fun u hu => by rw [h1]; exact I.val u hu, fun id o ho => by rw [h2] at ho ⊢; exact I.obj id o ho, fun i j o p r κ κ' hi hj => by rw [h2] at hi hj; exact I.inj i j o p r κ κ' hi hj, ?_, I.step, I.base, I.mle, I.fresh⟩
  intro id x hx
  rcases I.dom id x hx with h3 | ⟨j, h3, h4, h5⟩
  · exact .inl h3
  · exact .inr ⟨j, h3, by rw [← h j h3]; exact h4, h5⟩

/-- the edges of a region, and who is before whom -/
structure Edges (ops : Array Oper) (pre : Nat → List Nat) : Prop where
  lt : ∀ i o, ops[i]? = some o → ∀ e ∈ o.after.toList, Region.binds .any e = true → e.on < i
  pre : ∀ i o, ops[i]? = some o → ∀ j ∈ pre i, ∃ e ∈ o.after.toList, Region.binds .any e = true ∧ (j = e.on ∨ j ∈ pre e.on)

theorem drawn_any {R : Option Nat} {P : Program} {ops : Array Oper} {Q : Exit → Act → World → Prop} {W : Nat → Prop} {tr : Nat → Tr} {pre : Nat → List Nat} {t0 : List Value} {H0 : IHeap} {n0 : Nat}
    (h : Drawn P R ops Q W ops.size tr pre t0 H0 n0) (he : Edges ops pre) {m0 : Nat} {ρ0 : Ren} {w0 : World}
    (hQ : ∀ a w ρ, Inv W ops.size tr t0 H0 n0 m0 ρ0 w0 (fun _ => true) a w ρ → Q .normal a w) :
    ∀ (fuel : Nat) (listed : Array Bool) (a : Act) (w : World) (ρ : Ren), listed.size = ops.size → cnt (fun j => listed.getD j false) ops.size = fuel →
      (∀ j, j < ops.size → listed.getD j false = true → ∀ k ∈ pre j, listed.getD k false = true) → Inv W ops.size tr t0 H0 n0 m0 ρ0 w0 (fun j => listed.getD j false) a w ρ → wpAnyIn (FW R) 0 P .any ops Q fuel listed a w := by
  have hedge : ∀ (listed : Array Bool) i, i ∈ Region.ready .any ops listed → i < ops.size ∧ (listed.size = ops.size → listed.getD i false = false) ∧
      ∀ o, ops[i]? = some o → ∀ e ∈ o.after.toList, Region.binds .any e = true → listed.getD e.on false = true := by
    intro listed i hi
    simp only [Region.ready, List.mem_filter, List.mem_range, Bool.and_eq_true, Bool.not_eq_true'] at hi
    obtain ⟨h1, h2, h3⟩ := hi
    refine ⟨h1, fun hs => ?_, fun o ho e hem hb => ?_⟩
    · have : i < listed.size := by omega
      simpa [Array.getD_eq_getD_getElem?, this] using h2
    · simp only [ho, Option.map_some, Option.getD_some] at h3
      have := (Array.all_eq_true_iff_forall_mem.1 h3) e (by simpa using hem)
      rw [hb] at this
      simpa using this
  have hready : ∀ (listed : Array Bool), listed.size = ops.size → Region.ready .any ops listed = [] → ∀ i, i < ops.size → listed.getD i false = true := by
    intro listed hs hr i
    induction i using Nat.strongRecOn with
    | _ i ih =>
      intro hi
      cases hd : listed.getD i false with
      | true => rfl
      | false =>
        exfalso
        have hm : i ∈ Region.ready .any ops listed := by
          simp only [Region.ready, List.mem_filter, List.mem_range, Bool.and_eq_true, Bool.not_eq_true']
          refine ⟨hi, ?_, ?_⟩
          · have : i < listed.size := by omega
            simpa [Array.getD_eq_getD_getElem?, this] using hd
          · have ho : ops[i]? = some ops[i] := by simp
            simp only [ho, Option.map_some, Option.getD_some]
            rw [Array.all_eq_true_iff_forall_mem]
            intro e hem
            cases hb : Region.binds .any e with
            | false => simp
            | true =>
              have hlt := he.lt i _ ho e (by simpa using hem) hb
              simp [ih e.on hlt (by omega)]
        rw [hr] at hm; cases hm
  intro fuel
  induction fuel with
  | zero =>
    intro listed a w ρ hs hc hcl I
    have hall := cnt_zero hc
    refine ⟨?_, hQ a w ρ (I.congr hall)⟩
    rw [List.eq_nil_iff_forall_not_mem]
    intro i hi
    have h1 := hedge listed i hi
    have := h1.2.1 hs
    rw [hall i h1.1] at this; cases this
  | succ fuel ih =>
    intro listed a w ρ hs hc hcl I
    refine ⟨fun hr => hQ a w ρ (I.congr (hready listed hs hr)), fun i hi => ?_⟩
    obtain ⟨h1, h2, h3⟩ := hedge listed i hi
    have hdi := h2 hs
    have ho : ops[i]? = some ops[i] := by simp
    have hpre : ∀ j ∈ pre i, listed.getD j false = true := by
      intro j hj
      obtain ⟨e, e1, e2, e3⟩ := he.pre i _ ho j hj
      have hon := h3 _ ho e e1 e2
      rcases e3 with rfl | e3
      · exact hon
      · have := he.lt i _ ho e e1 e2
        exact hcl e.on (by omega) hon j e3
    have hset : ∀ j, (listed.setIfInBounds i true).getD j false = (listed.getD j false || decide (j = i)) := by
      intro j
      simp only [Array.getD_eq_getD_getElem?, Array.getElem?_setIfInBounds]
      by_cases e : i = j
      · subst e; simp [show i < listed.size by omega]
      · simp [e, Ne.symm e]
    refine I.more h h1 hdi hpre hcl fun a' w' ρ' I' => ?_
    refine ih _ a' w' ρ' (by simpa using hs) ?_ ?_ (I'.congr fun j _ => (hset j).symm)
    · rw [cnt_same fun j _ => hset j]
      have := cnt_more (d := fun j => listed.getD j false) h1 hdi
      omega
    · intro j hj hdj k hk
      rw [hset] at hdj ⊢
      by_cases e : j = i
      · subst e; rw [hpre k hk]; rfl
      · simp only [e, decide_false, Bool.or_false] at hdj
        rw [hcl j hj hdj k hk]; rfl
end Go.Proofs.Ytdnnojblneccdaa
