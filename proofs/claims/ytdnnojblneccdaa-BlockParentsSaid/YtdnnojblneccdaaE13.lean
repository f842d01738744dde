/-
  A region whose order is open: if what is written by one operation is not seen by another one that is not ordered with it, every order comes to what the text's order comes to.
-/
import Derived.Test.YtdnnojblneccdaaE12
namespace Go.Proofs.Ytdnnojblneccdaa
set_option linter.unusedSimpArgs false
set_option linter.unusedVariables false
open Go

structure Tr where
  dst : Option Nat
  v : Value
  up : Ups
  n : Nat
  n' : Nat
  H : IHeap
  uses : List Nat

abbrev Tr.ids (x : Tr) : List Nat := x.up.map (·.1)

/-- a renaming below a bound -/
def cut (b : Nat) (ρ : Ren) : Ren := fun id => if id < b then ρ id else none
theorem cut_le (b : Nat) (ρ : Ren) : (cut b ρ).le ρ := fun id x h => by
  unfold cut at h; split at h
  · exact h
  · cases h
theorem cut_mono {b c : Nat} {ρ ρ' : Ren} (h : b ≤ c) (hr : ρ.le ρ') : (cut b ρ).le (cut c ρ') := fun id x e => by
  unfold cut at *; split at e
  · rw [if_pos (by omega)]; exact hr _ _ e
  · cases e
theorem cut_below (b : Nat) (ρ : Ren) : Below b (cut b ρ) := fun id h => by
  unfold cut; rw [if_neg (by omega)]
theorem cut_some {b id : Nat} {ρ : Ren} {x : Nat × Nat} (h : cut b ρ id = some x) : id < b ∧ ρ id = some x := by
  unfold cut at h; split at h
  · exact ⟨by assumption, h⟩
  · cases h

section
variable (tr : Nat → Tr) (t0 : List Value) (H0 : IHeap) (n0 : Nat)

def sT (d : Nat → Bool) : Nat → Nat → Value × Nat
  | 0, u => (t0.getD u (.tuple #[]), n0)
  | k + 1, u => if d k = true ∧ (tr k).dst = some u then ((tr k).v, (tr k).n') else sT d k u

def sH (d : Nat → Bool) : Nat → Nat → Option IObj × Nat
  | 0, id => (H0 id, n0)
  | k + 1, id => if d k = true ∧ id ∈ (tr k).ids then (upds (fun _ => none) (tr k).up id, (tr k).n') else sH d k id

theorem sT_congr {d d' : Nat → Bool} {u : Nat} : ∀ k, (∀ j, j < k → (tr j).dst = some u → d j = d' j) → sT tr t0 n0 d k u = sT tr t0 n0 d' k u
  | 0, _ => rfl
  | k + 1, h => by
    simp only [sT]
    rw [sT_congr k fun j hj => h j (by omega)]
    by_cases hu : (tr k).dst = some u
    · rw [h k (by omega) hu]
    · simp [hu]
theorem sH_congr {d d' : Nat → Bool} {id : Nat} : ∀ k, (∀ j, j < k → id ∈ (tr j).ids → d j = d' j) → sH tr H0 n0 d k id = sH tr H0 n0 d' k id
  | 0, _ => rfl
  | k + 1, h => by
    simp only [sH]
    rw [sH_congr k fun j hj => h j (by omega)]
    by_cases hu : id ∈ (tr k).ids
    · rw [h k (by omega) hu]
    · simp [hu]
theorem sT_skip {d : Nat → Bool} {u : Nat} {k : Nat} : ∀ m, k ≤ m → (∀ j, k ≤ j → j < m → (tr j).dst = some u → d j = false) → sT tr t0 n0 d m u = sT tr t0 n0 d k u
  | 0, hk, _ => by rw [Nat.le_zero.1 hk]
  | m + 1, hk, h => by
    by_cases hm : k = m + 1
    · rw [hm]
    · simp only [sT]
      rw [if_neg fun c => by have := h m (by omega) (by omega) c.2; rw [this] at c; exact absurd c.1 (by simp)]
      exact sT_skip m (by omega) fun j h1 h2 => h j h1 (by omega)
theorem sH_skip {d : Nat → Bool} {id : Nat} {k : Nat} : ∀ m, k ≤ m → (∀ j, k ≤ j → j < m → id ∈ (tr j).ids → d j = false) → sH tr H0 n0 d m id = sH tr H0 n0 d k id
  | 0, hk, _ => by rw [Nat.le_zero.1 hk]
  | m + 1, hk, h => by
    by_cases hm : k = m + 1
    · rw [hm]
    · simp only [sH]
      rw [if_neg fun c => by have := h m (by omega) (by omega) c.2; rw [this] at c; exact absurd c.1 (by simp)]
      exact sH_skip m (by omega) fun j h1 h2 => h j h1 (by omega)
end

structure Drawn (P : Program) (R : Option Nat) (ops : Array Oper) (Q : Exit → Act → World → Prop) (W : Nat → Prop) (m : Nat) (tr : Nat → Tr) (pre : Nat → List Nat) (t0 : List Value) (H0 : IHeap) (n0 : Nat) : Prop where
  first : 0 < m → (tr 0).n = n0
  next : ∀ i, (tr (i + 1)).n = (tr i).n'
  mono : ∀ i, (tr i).n ≤ (tr i).n'
  lt : ∀ i j, j ∈ pre i → j < i
  uses : ∀ i, i < m → ∀ u ∈ (tr i).uses, ∀ j, j < m → j ≠ i → (tr j).dst = some u → j ∈ pre i ∨ i ∈ pre j
  dsts : ∀ i, i < m → ∀ u, (tr i).dst = some u → ∀ j, j < m → j ≠ i → (tr j).dst = some u → j ∈ pre i ∨ i ∈ pre j
  sees : ∀ i, i < m → ∀ id o, (tr i).H id = some o → (sH tr H0 n0 (fun j => decide (j ∈ pre i)) i id).1 = some o
  apart : ∀ i, i < m → ∀ j, j < m → j ≠ i → j ∉ pre i → i ∉ pre j → ∀ id ∈ (tr j).ids, (tr i).H id = none
  ids : ∀ i, i < m → ∀ id ∈ (tr i).ids, ((tr i).n ≤ id ∨ ((tr i).H id).isSome) ∧ id < (tr i).n'
  wr : ∀ i, i < m → ∀ id ∈ (tr i).ids, W id
  dlen : ∀ i, i < m → ∀ u, (tr i).dst = some u → u < t0.length
  run : ∀ i, i < m → ∀ (ρ : Ren) (a : Act) (w : World), a.tmps.size = t0.length → (∀ u ∈ (tr i).uses, VR ρ (sT tr t0 n0 (fun _ => true) i u).1 (a.tmps.getD u undef)) → Below (tr i).n ρ → HR ρ (tr i).H w →
    ∀ K : Act → World → Prop, (∀ v' w' ρ', Post ρ (tr i).H (tr i).n ⟨(tr i).v, (tr i).up, (tr i).n'⟩ v' ρ' w w' → K (a.put (tr i).dst v') w') → wpOpIn (FW R) 0 P ops Q i K a w

structure Inv (W : Nat → Prop) (m : Nat) (tr : Nat → Tr) (t0 : List Value) (H0 : IHeap) (n0 m0 : Nat) (ρ0 : Ren) (w0 : World) (d : Nat → Bool) (a : Act) (w : World) (ρ : Ren) : Prop where
  size : a.tmps.size = t0.length
  defers : a.defers = []
  val : ∀ u, u < t0.length → VR (cut (sT tr t0 n0 d m u).2 ρ) (sT tr t0 n0 d m u).1 (a.tmps.getD u undef)
  obj : ∀ id o, (sH tr H0 n0 d m id).1 = some o → ∃ r κ, ρ id = some (r, κ) ∧ OR (cut (sH tr H0 n0 d m id).2 ρ) κ o w.heap[r]?
  inj : ∀ i j o p r κ κ', (sH tr H0 n0 d m i).1 = some o → (sH tr H0 n0 d m j).1 = some p → ρ i = some (r, κ) → ρ j = some (r, κ') → i = j
  dom : ∀ id x, ρ id = some x → id < n0 ∨ ∃ j, j < m ∧ d j = true ∧ (tr j).n ≤ id ∧ id < (tr j).n'
  step : Step W ρ0 ρ w0 w
  base : ∀ id o, H0 id = some o → id < n0
  mle : m0 ≤ n0
  fresh : ∀ id x, ρ id = some x → ρ0 id = some x ∨ m0 ≤ id

theorem OR.lt {ρ : Ren} {κ : Nat} {o : IObj} {w : World} {r : Nat} (h : OR ρ κ o w.heap[r]?) : r < w.heap.size := by
  rcases Nat.lt_or_ge r w.heap.size with h' | h'
  · exact h'
  · exfalso
    rw [Array.getElem?_eq_none h'] at h
    cases o with
    | cells c ro => obtain ⟨c', T, fz, h1, _⟩ := h; cases h1
    | map es => obtain ⟨es', clock, h1, _⟩ := h; cases h1

section
variable {R : Option Nat} {P : Program} {ops : Array Oper} {Q : Exit → Act → World → Prop} {W : Nat → Prop} {m : Nat} {tr : Nat → Tr} {pre : Nat → List Nat} {t0 : List Value} {H0 : IHeap} {n0 : Nat}

theorem Drawn.n_le (h : Drawn P R ops Q W m tr pre t0 H0 n0) : ∀ {i j : Nat}, i < j → (tr i).n' ≤ (tr j).n := by
  intro i j hij
  induction j with
  | zero => omega
  | succ j ih =>
    rw [h.next]
    by_cases e : i = j
    · subst e; exact Nat.le_refl _
    · exact Nat.le_trans (ih (by omega)) (h.mono j)
theorem Drawn.n0_le (h : Drawn P R ops Q W m tr pre t0 H0 n0) {i : Nat} (hi : i < m) : n0 ≤ (tr i).n := by
  have h0 := h.first (by omega)
  rcases Nat.eq_zero_or_pos i with rfl | hp
  · omega
  · exact Nat.le_trans (h0 ▸ h.mono 0) (h.n_le hp)

/-- how far the numbers of a value go -/
theorem sT_bound (h : Drawn P R ops Q W m tr pre t0 H0 n0) (d : Nat → Bool) (u : Nat) {i : Nat} (hi : i < m) : ∀ k, k ≤ i → (sT tr t0 n0 d k u).2 ≤ (tr i).n
  | 0, _ => h.n0_le hi
  | k + 1, hk => by
    simp only [sT]; split
    · exact h.n_le (by omega)
    · exact sT_bound h d u hi k (by omega)
theorem sH_bound (h : Drawn P R ops Q W m tr pre t0 H0 n0) (d : Nat → Bool) (u : Nat) {i : Nat} (hi : i < m) : ∀ k, k ≤ i → (sH tr H0 n0 d k u).2 ≤ (tr i).n
  | 0, _ => h.n0_le hi
  | k + 1, hk => by
    simp only [sH]; split
    · exact h.n_le (by omega)
    · exact sH_bound h d u hi k (by omega)

/-- one more operation -/
theorem Inv.more (h : Drawn P R ops Q W m tr pre t0 H0 n0) {m0 : Nat} {ρ0 : Ren} {w0 : World} {d : Nat → Bool} {a : Act} {w : World} {ρ : Ren} (I : Inv W m tr t0 H0 n0 m0 ρ0 w0 d a w ρ) {i : Nat} (hi : i < m)
    (hd : d i = false) (hpre : ∀ j ∈ pre i, d j = true) (hcl : ∀ j, j < m → d j = true → ∀ k ∈ pre j, d k = true) {K : Act → World → Prop}
    (hK : ∀ a' w' ρ', Inv W m tr t0 H0 n0 m0 ρ0 w0 (fun j => d j || decide (j = i)) a' w' ρ' → K a' w') : wpOpIn (FW R) 0 P ops Q i K a w := by
  -- whoever writes what i reads is done exactly if it is before i
  have done : ∀ j, j < m → j ≠ i → (j ∈ pre i ∨ i ∈ pre j) → (d j = true ↔ j ∈ pre i) := by
    intro j hj hne ho
    constructor
    · intro hdj
      rcases ho with ho | ho
      · exact ho
      · have := hcl j hj hdj i ho; rw [hd] at this; cases this
    · exact hpre j
  have later : ∀ j, j < m → i ≤ j → (j ≠ i → j ∈ pre i ∨ i ∈ pre j) → d j = false := by
    intro j hj hij ho
    by_cases e : j = i
    · rw [e]; exact hd
    · rcases ho e with h1 | h1
      · have := h.lt i j h1; omega
      · cases hdj : d j with
        | false => rfl
        | true => have := hcl j hj hdj i h1; rw [hd] at this; cases this
  have huse : ∀ u ∈ (tr i).uses, sT tr t0 n0 d m u = sT tr t0 n0 (fun _ => true) i u := by
    intro u hu
    rw [sT_skip tr t0 n0 m (Nat.le_of_lt hi) fun j h1 h2 h3 => later j h2 h1 fun e => h.uses i hi u hu j h2 e h3]
    refine sT_congr tr t0 n0 i fun j hj hdst => ?_
    have hne : j ≠ i := by omega
    have hord := h.uses i hi u hu j (by omega) hne hdst
    rcases hord with h1 | h1
    · exact hpre j h1
    · have := h.lt j i h1; omega
  have hsee : ∀ id o, (tr i).H id = some o → sH tr H0 n0 d m id = sH tr H0 n0 (fun j => decide (j ∈ pre i)) i id := by
    intro id o ho
    have hord : ∀ j, j < m → j ≠ i → id ∈ (tr j).ids → j ∈ pre i ∨ i ∈ pre j := by
      intro j hj hne hid
      by_cases h1 : j ∈ pre i
      · exact .inl h1
      · by_cases h2 : i ∈ pre j
        · exact .inr h2
        · have := h.apart i hi j hj hne h1 h2 id hid; rw [ho] at this; cases this
    rw [sH_skip tr H0 n0 m (Nat.le_of_lt hi) fun j h1 h2 h3 => later j h2 h1 fun e => hord j h2 e h3]
    refine sH_congr tr H0 n0 i fun j hj hid => ?_
    have hne : j ≠ i := by omega
    have := done j (by omega) hne (hord j (by omega) hne hid)
    cases hdj : d j with
    | true => simp [this.1 hdj]
    | false => symm; simp only [decide_eq_false_iff_not]; intro c; rw [this.2 c] at hdj; cases hdj
  have hin : ∀ id o, (tr i).H id = some o → (sH tr H0 n0 d m id).1 = some o ∧ (sH tr H0 n0 d m id).2 ≤ (tr i).n := by
    intro id o ho
    rw [hsee id o ho]
    exact ⟨h.sees i hi id o ho, sH_bound h _ id hi i (Nat.le_refl _)⟩
  have hlt : ∀ id o, (tr i).H id = some o → id < (tr i).n := by
    intro id o ho
    have key : ∀ (d' : Nat → Bool) k, k ≤ i → (∀ o, (sH tr H0 n0 d' k id).1 = some o → id < (tr i).n) := by
      intro d' k
      induction k with
      | zero => intro _ o ho; exact Nat.lt_of_lt_of_le (I.base id o ho) (h.n0_le hi)
      | succ k ih =>
        intro hk o ho
        simp only [sH] at ho
        split at ho
        · rename_i hc
          have h1 := (h.ids k (by omega) id hc.2).2
          have h2 := h.n_le (show k < i by omega)
          omega
        · exact ih (by omega) o ho
    exact key _ i (Nat.le_refl _) o (h.sees i hi id o ho)
  have hHR : HR (cut (tr i).n ρ) (tr i).H w := by
    refine ⟨fun id o ho => ?_, fun x y o p r κ κ' hx hy hrx hry => I.inj x y o p r κ κ' (hin x o hx).1 (hin y p hy).1 (cut_some hrx).2 (cut_some hry).2⟩
    obtain ⟨h1, h2⟩ := hin id o ho
    obtain ⟨r, κ, hr, hor⟩ := I.obj id o h1
    refine ⟨r, κ, ?_, hor.mono (cut_mono h2 ρ.le_refl)⟩
    unfold cut
    rw [if_pos (hlt id o ho)]; exact hr
  have hval : ∀ u ∈ (tr i).uses, VR (cut (tr i).n ρ) (sT tr t0 n0 (fun _ => true) i u).1 (a.tmps.getD u undef) := by
    intro u hu
    by_cases hul : u < t0.length
    · have h1 := I.val u hul
      rw [huse u hu] at h1
      exact h1.mono (cut_mono (sT_bound h _ u hi i (Nat.le_refl _)) ρ.le_refl)
    · have hnone : ∀ k, k ≤ i → (sT tr t0 n0 (fun _ => true) k u).1 = .tuple #[] ∨ ∃ j, j < k ∧ (tr j).dst = some u := by
        intro k
        induction k with
        | zero => intro _; left; simp [sT, List.getD_eq_getElem?_getD, List.getElem?_eq_none (Nat.le_of_not_lt hul)]
        | succ k ih =>
          intro hk
          by_cases hc : (tr k).dst = some u
          · exact .inr ⟨k, by omega, hc⟩
          · rcases ih (by omega) with h1 | ⟨j, h1, h2⟩
            · left; simp only [sT]; rw [if_neg (fun c => hc c.2)]; exact h1
            · exact .inr ⟨j, by omega, h2⟩
      rcases hnone i (Nat.le_refl _) with h1 | ⟨j, h1, h2⟩
      · rw [h1]; exact .unk _
      · exact absurd (h.dlen j (by omega) u h2) hul
  refine h.run i hi (cut (tr i).n ρ) a w I.size hval (cut_below _ _) hHR K fun v' w' ρi hp => ?_
  -- the renaming goes on
  have hni : ∀ id, (tr i).n ≤ id → id < (tr i).n' → ρ id = none := by
    intro id h1 h2
    cases hr : ρ id with
    | none => rfl
    | some x =>
      rcases I.dom id x hr with hl | ⟨j, hj, hdj, h3, h4⟩
      · have := h.n0_le hi; omega
      · rcases Nat.lt_trichotomy j i with hl | rfl | hl
        · have := h.n_le hl; omega
        · rw [hd] at hdj; cases hdj
        · have := h.n_le hl; omega
  let ρ' : Ren := fun id => if (tr i).n ≤ id ∧ id < (tr i).n' then ρi id else ρ id
  have hle : ρ.le ρ' := by
    intro id x hx
    simp only [ρ']
    rw [if_neg fun c => by rw [hni id c.1 c.2] at hx; cases hx]
    exact hx
  have hile : ρi.le ρ' := by
    intro id x hx
    simp only [ρ']
    have hb := hp.below.lt hx
    rcases hp.fresh id x hx with h1 | h1
    · obtain ⟨h2, h3⟩ := cut_some h1
      rw [if_neg (by omega)]; exact h3
    · rw [if_pos ⟨h1, hb⟩]; exact hx
  have hilec : ρi.le (cut (tr i).n' ρ') := by
    intro id x hx
    unfold cut; rw [if_pos (hp.below.lt hx)]; exact hile id x hx
  have hids : ∀ id ∈ (tr i).ids, ρi id = none ∨ ρ' id = ρi id := by
    intro id hid
    cases hx : ρi id with
    | none => exact .inl rfl
    | some x => exact .inr (hile id x hx)
  have hold : ∀ id o, (sH tr H0 n0 d m id).1 = some o → id ∉ (tr i).ids → ∀ r κ, ρ id = some (r, κ) → w'.heap[r]? = w.heap[r]? := by
    intro id o ho hnid r κ hr
    obtain ⟨r2, κ2, hr2, hor⟩ := I.obj id o ho
    rw [hr] at hr2; cases hr2
    refine hp.step.keep r hor.lt fun j κ3 hj hjid => ?_
    obtain ⟨hj1, hj2⟩ := cut_some hj
    rcases (hp.ids j hjid).1 with h1 | h1
    · omega
    · obtain ⟨o2, ho2⟩ := Option.isSome_iff_exists.1 h1
      have := I.inj id j o o2 r κ κ3 ho (hin j o2 ho2).1 hr hj2
      exact hnid (this ▸ hjid)
  have hsHi : ∀ id ∈ (tr i).ids, sH tr H0 n0 (fun j => d j || decide (j = i)) m id = (upds (fun _ => none) (tr i).up id, (tr i).n') := by
    intro id hid
    rw [sH_skip tr H0 n0 (k := i + 1) m (by omega) fun j h1 h2 h3 => ?_]
    · simp only [sH]
      rw [if_pos ⟨by simp, hid⟩]
    · have hne : j ≠ i := by omega
      have hj := later j h2 (by omega) fun _ => by
        by_cases c1 : j ∈ pre i
        · exact .inl c1
        · by_cases c2 : i ∈ pre j
          · exact .inr c2
          · exfalso
            have e1 := h.apart i hi j h2 hne c1 c2 id h3
            have e2 := h.apart j h2 i hi (Ne.symm hne) c2 c1 id hid
            have v1 := h.ids i hi id hid
            have v2 := h.ids j h2 id h3
            rw [e1] at v1; rw [e2] at v2
            simp only [Option.isSome_none, Bool.false_eq_true, or_false] at v1 v2
            have := h.n_le (show i < j by omega)
            omega
      simp [hj, hne]
  have hsHo : ∀ id, id ∉ (tr i).ids → sH tr H0 n0 (fun j => d j || decide (j = i)) m id = sH tr H0 n0 d m id := by
    intro id hid
    refine sH_congr tr H0 n0 m fun j hj hjd => ?_
    by_cases e : j = i
    · subst e; exact absurd hjd hid
    · simp [e]
  have hupd : ∀ id ∈ (tr i).ids, ∀ o, upds (fun _ => none) (tr i).up id = some o → ∃ r κ, ρi id = some (r, κ) ∧ OR ρi κ o w'.heap[r]? := by
    intro id hid o ho
    exact hp.heap.obj id o (by rw [upds_mem (K := fun _ => none) hid]; exact ho)
  refine hK _ w' ρ' ⟨?_, ?_, ?_, ?_, ?_, ?_, ?_, I.base, I.mle, fun id x hx => by
    simp only [ρ'] at hx
    split at hx
    · rename_i hc; have := h.n0_le hi; have := I.mle; exact .inr (by omega)
    · exact I.fresh id x hx⟩
  · cases hdst : (tr i).dst <;> simp [Act.put, I.size]
  · cases hdst : (tr i).dst <;> simp [Act.put, I.defers]
  · intro u hu
    by_cases hdst : (tr i).dst = some u
    · have h1 : sT tr t0 n0 (fun j => d j || decide (j = i)) m u = ((tr i).v, (tr i).n') := by
        rw [sT_skip tr t0 n0 (k := i + 1) m (by omega) fun j h1 h2 h3 => ?_]
        · simp only [sT]; rw [if_pos ⟨by simp, hdst⟩]
        · have hne : j ≠ i := by omega
          have := later j h2 (by omega) fun _ => h.dsts i hi u hdst j h2 hne h3
          simp [this, hne]
      rw [h1, hdst]
      simp only [Act.put]
      have : (a.tmps.setIfInBounds u v').getD u undef = v' := by
        simp [Array.getD_eq_getD_getElem?, I.size, hu]
      rw [this]
      exact hp.val.mono hilec
    · have h1 : sT tr t0 n0 (fun j => d j || decide (j = i)) m u = sT tr t0 n0 d m u := by
        refine sT_congr tr t0 n0 m fun j hj hjd => ?_
        by_cases e : j = i
        · subst e; exact absurd hjd hdst
        · simp [e]
      rw [h1]
      have h2 : (a.put (tr i).dst v').tmps.getD u undef = a.tmps.getD u undef := by
        cases hq : (tr i).dst with
        | none => rfl
        | some q =>
          have : q ≠ u := fun e => hdst (by rw [hq, e])
          simp [Act.put, Array.getD_eq_getD_getElem?, Array.getElem?_setIfInBounds, this]
      rw [h2]
      exact (I.val u hu).mono (cut_mono (Nat.le_refl _) hle)
  · intro id o ho
    by_cases hid : id ∈ (tr i).ids
    · rw [hsHi id hid] at ho ⊢
      obtain ⟨r, κ, h1, h2⟩ := hupd id hid o ho
      exact ⟨r, κ, hile _ _ h1, h2.mono hilec⟩
    · rw [hsHo id hid] at ho ⊢
      obtain ⟨r, κ, h1, h2⟩ := I.obj id o ho
      exact ⟨r, κ, hle _ _ h1, by rw [hold id o ho hid r κ h1]; exact h2.mono (cut_mono (Nat.le_refl _) hle)⟩
  · have pick : ∀ {id o r κ}, (sH tr H0 n0 (fun j => d j || decide (j = i)) m id).1 = some o → ρ' id = some (r, κ) →
        (id ∈ (tr i).ids ∧ ρi id = some (r, κ) ∧ upds (tr i).H (tr i).up id = some o) ∨ (id ∉ (tr i).ids ∧ ρ id = some (r, κ) ∧ (sH tr H0 n0 d m id).1 = some o ∧ r < w.heap.size) := by
      intro id o r κ ho hr
      by_cases hid : id ∈ (tr i).ids
      · rw [hsHi id hid] at ho
        obtain ⟨r2, κ2, h1, h2⟩ := hupd id hid o ho
        have := hile _ _ h1
        rw [hr] at this; cases this
        exact .inl ⟨hid, h1, by rw [upds_mem (K := fun _ => none) hid]; exact ho⟩
      · rw [hsHo id hid] at ho
        obtain ⟨r2, κ2, h1, h2⟩ := I.obj id o ho
        have := hle _ _ h1
        rw [hr] at this; cases this
        exact .inr ⟨hid, h1, ho, h2.lt⟩
    have mixed : ∀ {x y o p r κ κ'}, x ∈ (tr i).ids → ρi x = some (r, κ) → y ∉ (tr i).ids → ρ y = some (r, κ') → (sH tr H0 n0 d m y).1 = some p → r < w.heap.size → upds (tr i).H (tr i).up x = some o → x = y := by
      intro x y o p r κ κ' hx hrx hy hry hpy hrl _
      exfalso
      rcases hp.fresh x _ hrx with h1 | h1
      · obtain ⟨h2, h3⟩ := cut_some h1
        rcases (hp.ids x hx).1 with h4 | h4
        · omega
        · obtain ⟨o2, ho2⟩ := Option.isSome_iff_exists.1 h4
          have := I.inj x y o2 p r κ κ' (hin x o2 ho2).1 hpy h3 hry
          exact hy (this ▸ hx)
      · have hnone : cut (tr i).n ρ x = none := cut_below _ _ x h1
        rcases hp.step.new x r κ hnone hrx with h2 | ⟨j, κ2, h2, h3⟩
        · omega
        · obtain ⟨h4, h5⟩ := cut_some h2
          rcases (hp.ids j h3).1 with h6 | h6
          · omega
          · obtain ⟨o2, ho2⟩ := Option.isSome_iff_exists.1 h6
            have := I.inj j y o2 p r κ2 κ' (hin j o2 ho2).1 hpy h5 hry
            exact hy (this ▸ h3)
    intro x y o p r κ κ' hx hy hrx hry
    rcases pick hx hrx with ⟨a1, a2, a3⟩ | ⟨a1, a2, a3, a4⟩
    · rcases pick hy hry with ⟨b1, b2, b3⟩ | ⟨b1, b2, b3, b4⟩
      · exact hp.heap.inj x y o p r κ κ' a3 b3 a2 b2
      · exact mixed a1 a2 b1 b2 b3 b4 a3
    · rcases pick hy hry with ⟨b1, b2, b3⟩ | ⟨b1, b2, b3, b4⟩
      · exact (mixed b1 b2 a1 a2 a3 a4 b3).symm
      · exact I.inj x y o p r κ κ' a3 b3 a2 b2
  · intro id x hx
    simp only [ρ'] at hx
    split at hx
    · rename_i hc
      exact .inr ⟨i, hi, by simp, hc.1, hc.2⟩
    · rcases I.dom id x hx with h1 | ⟨j, h1, h2, h3, h4⟩
      · exact .inl h1
      · exact .inr ⟨j, h1, by simp [h2], h3, h4⟩
  · refine I.step.trans (V := W) ?_ (fun _ _ _ h => h)
    refine ⟨hle, ?_, hp.step.size, ?_, hp.step.os, hp.step.tape, hp.step.output⟩
    · intro id r κ h1 h2
      simp only [ρ'] at h2
      split at h2
      · rename_i hc
        have hnone : cut (tr i).n ρ id = none := cut_below _ _ id hc.1
        rcases hp.step.new id r κ hnone h2 with h3 | ⟨j, κ2, h3, h4⟩
        · exact .inl h3
        · exact .inr ⟨j, κ2, (cut_some h3).2, h.wr i hi j h4⟩
      · rw [h1] at h2; cases h2
    · intro r hr hn
      exact hp.step.keep r hr fun j κ h3 h4 => hn j κ (cut_some h3).2 (h.wr i hi j h4)
end
end Go.Proofs.Ytdnnojblneccdaa
