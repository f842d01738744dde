/-
  Regions whose order is open, step by step.
-/
import Derived.Test.YtdnnojblneccdaaE26
namespace Go.Proofs.Ytdnnojblneccdaa
set_option linter.unusedSimpArgs false
set_option linter.unusedVariables false
open Go
open Enc (enc)

/-- the updates that are seen -/
def upsW (pre : List Nat) : List (Nat × Ups) → Ups
  | [] => []
  | w :: ws => cond (pre.any (Nat.beq w.1)) (w.2 ++ upsW pre ws) (upsW pre ws)
def allW (Wr : List (Nat × Ups)) : Ups := Wr.flatMap (·.2)
theorem upsW_append (pre : List Nat) (a b : List (Nat × Ups)) : upsW pre (a ++ b) = upsW pre a ++ upsW pre b := by
  induction a with
  | nil => rfl
  | cons w a ih =>
    simp only [List.cons_append, upsW, ih]
    cases pre.any (Nat.beq w.1)
    · rfl
    · simp
theorem upsOf_append (pre : List Nat) : ∀ (a b : List Left) (j : Nat), upsOf pre (a ++ b) j = upsOf pre a j ++ upsOf pre b (j + a.length)
  | [], b, j => by simp [upsOf]
  | y :: a, b, j => by
    simp only [List.cons_append, upsOf, upsOf_append pre a b (j + 1), List.length_cons]
    have : j + 1 + a.length = j + (a.length + 1) := by omega
    rw [this]
    split
    · rw [List.append_assoc]
    · rfl
theorem any_beq (pre : List Nat) (j : Nat) : pre.any (Nat.beq j) = true ↔ j ∈ pre := by
  rw [List.any_eq_true]
  constructor
  · rintro ⟨x, h1, h2⟩
    have := Nat.eq_of_beq_eq_true h2
    subst this; exact h1
  · intro h; exact ⟨j, h, Nat.beq_refl j⟩

/-- what is left behind so far, in short -/
structure Rep (n0 : Nat) (acc : List Left) (k : Nat) (Wr : List (Nat × Ups)) (Vs : List (Nat × Vis)) (n : Nat) : Prop where
  len : acc.length = k
  ups : ∀ pre, upsOf pre acc 0 = upsW pre Wr
  all : allUps acc = allW Wr
  wr : ∀ j y, acc[j]? = some y → y.up = [] ∨ (j, y.up) ∈ Wr
  vis : ∀ j y, acc[j]? = some y → y.vis = .ids [] ∨ (j, y.vis) ∈ Vs
  fresh : ∀ y ∈ acc, ∀ id, n ≤ id → y.vis.clear n0 id
  le : n0 ≤ n

theorem Rep.nil (n : Nat) : Rep n [] 0 [] [] n := ⟨rfl, fun _ => rfl, rfl, fun j y h => by simp at h, fun j y h => by simp at h, fun y h => by simp at h, Nat.le_refl _⟩

theorem Rep.snoc {n0 k n n' : Nat} {acc : List Left} {Wr : List (Nat × Ups)} {Vs : List (Nat × Vis)} (R : Rep n0 acc k Wr Vs n) (x : Left) (Wr' : List (Nat × Ups)) (Vs' : List (Nat × Vis)) (hn : n ≤ n')
    (hw : x.up = [] ∧ Wr' = Wr ∨ Wr' = Wr ++ [(k, x.up)]) (hv : x.vis = .ids [] ∧ Vs' = Vs ∨ Vs' = (k, x.vis) :: Vs ∨ x.vis = .ids [] ∧ ∃ u, Vs' = u :: Vs) (hf : ∀ id, n' ≤ id → x.vis.clear n0 id) : Rep n0 (acc ++ [x]) (k + 1) Wr' Vs' n' := by
  refine ⟨by simp [R.len], fun pre => ?_, ?_, fun j y h => ?_, fun j y h => ?_, fun y h id hid => ?_, Nat.le_trans R.le hn⟩
  · rw [upsOf_append, R.ups pre]
    simp only [upsOf, Nat.zero_add, R.len, List.append_nil]
    rcases hw with ⟨h1, rfl⟩ | rfl
    · rw [h1]; simp
    · rw [upsW_append]
      simp only [upsW, List.append_nil]
      cases hb : pre.any (Nat.beq k) with
      | true => rw [if_pos ((any_beq pre k).1 hb)]; rfl
      | false => rw [if_neg (fun h => by rw [(any_beq pre k).2 h] at hb; cases hb)]; rfl
  · simp only [allUps, List.flatMap_append, List.flatMap_cons, List.flatMap_nil, List.append_nil]
    have := R.all
    simp only [allUps] at this
    rw [this]
    rcases hw with ⟨h1, rfl⟩ | rfl
    · rw [h1]; simp
    · simp [allW]
  · by_cases hj : j < acc.length
    · rw [List.getElem?_append_left hj] at h
      rcases R.wr j y h with h1 | h1
      · exact .inl h1
      · rcases hw with ⟨_, rfl⟩ | rfl
        · exact .inr h1
        · exact .inr (List.mem_append_left _ h1)
    · rw [List.getElem?_append_right (by omega)] at h
      have hjk : j - acc.length = 0 := by
        have := (List.getElem?_eq_some_iff.1 h).1
        simp at this; omega
      rw [hjk] at h
      cases h
      have : j = k := by have := R.len; omega
      subst this
      rcases hw with ⟨h1, rfl⟩ | rfl
      · exact .inl h1
      · exact .inr (by simp)
  · by_cases hj : j < acc.length
    · rw [List.getElem?_append_left hj] at h
      rcases R.vis j y h with h1 | h1
      · exact .inl h1
      · rcases hv with ⟨_, rfl⟩ | rfl | ⟨_, u, rfl⟩
        · exact .inr h1
        · exact .inr (List.mem_cons_of_mem _ h1)
        · exact .inr (List.mem_cons_of_mem _ h1)
    · rw [List.getElem?_append_right (by omega)] at h
      have hjk : j - acc.length = 0 := by
        have := (List.getElem?_eq_some_iff.1 h).1
        simp at this; omega
      rw [hjk] at h
      cases h
      have : j = k := by have := R.len; omega
      subst this
      rcases hv with ⟨h1, _⟩ | rfl | ⟨h1, _⟩
      · exact .inl h1
      · exact .inr List.mem_cons_self
      · exact .inl h1
  · rcases List.mem_append.1 h with h1 | h1
    · exact R.fresh y h1 id (Nat.le_trans hn hid)
    · simp only [List.mem_singleton] at h1; subst h1; exact hf id hid

theorem apart2_mk {n0 : Nat} {pre : List Nat} {x : Left} : ∀ {acc : List Left} {k : Nat}, (∀ j y, acc[j]? = some y → (k + j ∈ pre ∨ ((∀ p ∈ x.up, y.vis.clear n0 p.1) ∧ ∀ p ∈ y.up, x.vis.clear n0 p.1))) → apart2 n0 pre x acc k
  | [], _, _ => trivial
  | y :: acc, k, h => ⟨by simpa using h 0 y rfl, apart2_mk fun j z hz => by
      have := h (j + 1) z (by simpa using hz)
      have e : k + (j + 1) = k + 1 + j := by omega
      rw [e] at this; exact this⟩

/-- a thing that writes nothing, against those that wrote -/
def quietW (n0 : Nat) (pre : List Nat) (vis : Vis) : List (Nat × Ups) → Prop
  | [] => True
  | w :: ws => (cond (pre.any (Nat.beq w.1)) True (∀ p ∈ w.2, vis.clear n0 p.1)) ∧ quietW n0 pre vis ws
theorem quietW_spec {n0 : Nat} {pre : List Nat} {vis : Vis} : ∀ {Wr : List (Nat × Ups)}, quietW n0 pre vis Wr → ∀ w ∈ Wr, w.1 ∈ pre ∨ ∀ p ∈ w.2, vis.clear n0 p.1
  | w :: ws, h, u, hu => by
    rcases List.mem_cons.1 hu with rfl | hu
    · have h1 := h.1
      cases hb : pre.any (Nat.beq u.1) with
      | true => exact .inl ((any_beq _ _).1 hb)
      | false => rw [hb] at h1; exact .inr h1
    · exact quietW_spec h.2 u hu
/-- a thing that writes id, against those that looked -/
def clearV (n0 : Nat) (pre : List Nat) (id : Nat) : List (Nat × Vis) → Prop
  | [] => True
  | w :: ws => (cond (pre.any (Nat.beq w.1)) True (w.2.clear n0 id)) ∧ clearV n0 pre id ws
theorem clearV_spec {n0 : Nat} {pre : List Nat} {id : Nat} : ∀ {Vs : List (Nat × Vis)}, clearV n0 pre id Vs → ∀ w ∈ Vs, w.1 ∈ pre ∨ w.2.clear n0 id
  | w :: ws, h, u, hu => by
    rcases List.mem_cons.1 hu with rfl | hu
    · have h1 := h.1
      cases hb : pre.any (Nat.beq u.1) with
      | true => exact .inl ((any_beq _ _).1 hb)
      | false => rw [hb] at h1; exact .inr h1
    · exact clearV_spec h.2 u hu

section
variable {P : Program} {Γ : Fns} {D : Ty} {K : Kinds} {W : Nat → Prop} {R : Option Nat} {ops : Array Oper} {Q : Post3} {o : Oper} {os : List Oper} {pre : List Nat} {pres : List (List Nat)} {N : Nat} {L : List (Nat × Value)} {H : IHeap} {M : Ups} {n n0 k : Nat}
  {Wr : List (Nat × Ups)} {Vs : List (Nat × Vis)}

/-- what is to be shown of the rest of such a region -/
def vcE (Γ : Fns) (D : Ty) (K : Kinds) (W : Nat → Prop) (ops : Array Oper) (H0 : IHeap) (n0 : Nat) (Q : Post3) (os : List Oper) (pres : List (List Nat)) (k : Nat) (Wr : List (Nat × Ups)) (Vs : List (Nat × Vis)) (t : List Value) (n : Nat) : Prop :=
  ∀ acc, Rep n0 acc k Wr Vs n → vcD Γ D K W ops H0 n0 Q os pres acc t n

theorem vcE_start {os : List Oper} {H0 : IHeap} {t : List Value} (h : vcE Γ D K W ops H0 n Q os pres 0 [] [] t n) : vcD Γ D K W ops H0 n Q os pres [] t n := h [] (Rep.nil n)

theorem vcE_nil (h : Q (dense N L) (hp H (putH (allW Wr) M)) n) : vcE Γ D K W ops (hp H M) n0 Q [] [] k Wr Vs (dense N L) n := by
  intro acc R
  unfold vcD
  rw [R.all, upds_hp]; exact h

/-- nothing written; what is looked at, is written by none that may come between -/
theorem vcE_val {d : Tmp} {v : Value} {ids : List Nat} {u M' : Ups} (hd : o.dst = some d) (hg : o.guard = none) (hu : upsW pre Wr = u) (hM : putH u M = M') (h : iopC Γ D K (ev (dense N L)) (hp H M') n o.op = some ⟨v, [], n⟩) (hc : isCall o.op = false)
    (hs : seesIds (ev (dense N L)) o.op = ids) (hl : ∀ id ∈ ids, id < n) (hq : quietW n0 pre (.ids ids) Wr)
    (hk : vcE Γ D K W ops (hp H M) n0 Q os pres (k + 1) Wr ((k, .ids ids) :: Vs) (dense N ((d, v) :: L)) n) : vcE Γ D K W ops (hp H M) n0 Q (o :: os) (pre :: pres) k Wr Vs (dense N L) n := by
  intro acc R
  subst hu
  subst hM
  unfold vcD
  rw [R.ups pre, upds_hp, h]
  simp only [wantedI, hg, wpo]
  have hv : visOf (ev (dense N L)) o.op (List.map (fun x => x.fst) (upsW pre Wr)) = .ids ids := by simp only [visOf, hc]; rw [hs]; rfl
  refine ⟨fun _ => ⟨fun p hm => (by cases hm), Nat.le_refl _, ?_, ?_⟩, fun hb => by cases hb⟩
  · refine apart2_mk fun j y hy => ?_
    rw [hv]
    rcases R.wr j y hy with h1 | h1
    · right; exact ⟨fun p hm => (by cases hm), by rw [h1]; exact fun p hm => (by cases hm)⟩
    · rcases quietW_spec hq _ h1 with h2 | h2
      · left; simpa using h2
      · right; exact ⟨fun p hm => (by cases hm), h2⟩
  · have hh := hk (acc ++ [⟨[], .ids ids⟩]) (R.snoc _ _ _ (Nat.le_refl _) (.inl ⟨rfl, rfl⟩) (.inr (.inl rfl)) (fun id hid => by
      show id ∉ ids
      intro hm; have := hl id hm; omega))
    rw [hv]
    rw [tput_dense, hd]
    exact hh
/-- nothing written or looked at -/
theorem vcE_bl {d : Tmp} {v : Value} (hd : o.dst = some d) (hg : o.guard = none) (h : ∀ H', iopC Γ D K (ev (dense N L)) H' n o.op = some ⟨v, [], n⟩) (hc : isCall o.op = false) (hs : seesIds (ev (dense N L)) o.op = [])
    (hk : vcE Γ D K W ops (hp H M) n0 Q os pres (k + 1) Wr Vs (dense N ((d, v) :: L)) n) : vcE Γ D K W ops (hp H M) n0 Q (o :: os) (pre :: pres) k Wr Vs (dense N L) n := by
  intro acc R
  unfold vcD
  rw [h]
  simp only [wantedI, hg, wpo]
  have hv : ∀ l, visOf (ev (dense N L)) o.op l = .ids [] := by intro l; simp only [visOf, hc]; rw [hs]; rfl
  refine ⟨fun _ => ⟨fun p hm => (by cases hm), Nat.le_refl _, ?_, ?_⟩, fun hb => by cases hb⟩
  · refine apart2_mk fun j y hy => .inr ⟨fun p hm => (by cases hm), fun p _ => ?_⟩
    rw [hv]; simp [Vis.clear]
  · have hh := hk (acc ++ [⟨[], .ids []⟩]) (R.snoc _ _ _ (Nat.le_refl _) (.inl ⟨rfl, rfl⟩) (.inl ⟨rfl, rfl⟩) (fun id hid => by simp [Vis.clear]))
    rw [hv]
    rw [tput_dense, hd]
    exact hh
/-- with a guard, nothing written -/
theorem vcE_opt {d : Tmp} {b : Bool} {v : Value} {u M' : Ups} {vis : Vis} (hd : o.dst = some d) (hg : wantedI ops (dense N L) o = some b) (hu : upsW pre Wr = u) (hM : putH u M = M') (h : b = true → iopC Γ D K (ev (dense N L)) (hp H M') n o.op = some ⟨v, [], n⟩)
    (hv : b = true → visOf (ev (dense N L)) o.op (u.map (·.1)) = vis) (hf : ∀ id, n ≤ id → n0 ≤ id → vis.clear n0 id) (hq : quietW n0 pre vis Wr)
    (hk : vcE Γ D K W ops (hp H M) n0 Q os pres (k + 1) Wr ((k, vis) :: Vs) (dense N ((d, gv b v) :: L)) n) : vcE Γ D K W ops (hp H M) n0 Q (o :: os) (pre :: pres) k Wr Vs (dense N L) n := by
  intro acc R
  subst hu
  subst hM
  unfold vcD
  rw [R.ups pre, upds_hp]
  simp only [wpo, hg]
  refine ⟨fun hb => ?_, fun hb => ?_⟩
  · rw [h hb, hv hb]
    subst hb
    refine ⟨fun p hm => (by cases hm), Nat.le_refl _, ?_, ?_⟩
    · refine apart2_mk fun j y hy => ?_
      rcases R.wr j y hy with h1 | h1
      · right; exact ⟨fun p hm => (by cases hm), by rw [h1]; exact fun p hm => (by cases hm)⟩
      · rcases quietW_spec hq _ h1 with h2 | h2
        · left; simpa using h2
        · right; exact ⟨fun p hm => (by cases hm), h2⟩
    · have hh := hk (acc ++ [⟨[], vis⟩]) (R.snoc _ _ _ (Nat.le_refl _) (.inl ⟨rfl, rfl⟩) (.inr (.inl rfl)) (fun id hid => hf id hid (Nat.le_trans R.le hid)))
      rw [tput_dense, hd]
      exact hh
  · subst hb
    have hh := hk (acc ++ [⟨[], .ids []⟩]) (R.snoc _ _ _ (Nat.le_refl _) (.inl ⟨rfl, rfl⟩) (.inr (.inr ⟨rfl, _, rfl⟩)) (fun id hid => by simp [Vis.clear]))
    rw [tput_dense, hd]
    exact hh
/-- a call that writes nothing -/
theorem vcE_call {d : Tmp} {v : Value} {u M' : Ups} (hd : o.dst = some d) (hg : o.guard = none) (hu : upsW pre Wr = u) (hM : putH u M = M') (h : iopC Γ D K (ev (dense N L)) (hp H M') n o.op = some ⟨v, [], n⟩) (hc : isCall o.op = true)
    (hl : ∀ p ∈ u, p.1 < n) (hq : quietW n0 pre (.all (u.map (·.1))) Wr)
    (hk : vcE Γ D K W ops (hp H M) n0 Q os pres (k + 1) Wr ((k, .all (u.map (·.1))) :: Vs) (dense N ((d, v) :: L)) n) : vcE Γ D K W ops (hp H M) n0 Q (o :: os) (pre :: pres) k Wr Vs (dense N L) n := by
  intro acc R
  subst hu
  subst hM
  unfold vcD
  rw [R.ups pre, upds_hp, h]
  simp only [wantedI, hg, wpo]
  have hv : visOf (ev (dense N L)) o.op (List.map (fun x => x.fst) (upsW pre Wr)) = .all ((upsW pre Wr).map (·.1)) := by simp only [visOf, hc, if_true]
  refine ⟨fun _ => ⟨fun p hm => (by cases hm), Nat.le_refl _, ?_, ?_⟩, fun hb => by cases hb⟩
  · refine apart2_mk fun j y hy => ?_
    rw [hv]
    rcases R.wr j y hy with h1 | h1
    · right; exact ⟨fun p hm => (by cases hm), by rw [h1]; exact fun p hm => (by cases hm)⟩
    · rcases quietW_spec hq _ h1 with h2 | h2
      · left; simpa using h2
      · right; exact ⟨fun p hm => (by cases hm), h2⟩
  · have hh := hk (acc ++ [⟨[], .all ((upsW pre Wr).map (·.1))⟩]) (R.snoc _ _ _ (Nat.le_refl _) (.inl ⟨rfl, rfl⟩) (.inr (.inl rfl)) (fun id hid => by
      have := R.le
      refine ⟨by omega, ?_⟩
      intro hm
      obtain ⟨p, h1, h2⟩ := List.mem_map.1 hm
      have := hl p h1; omega))
    rw [hv]
    rw [tput_dense, hd]
    exact hh
/-- a new row -/
theorem vcE_new {d : Tmp} {v : Value} {x : Option IObj} (hd : o.dst = some d) (hg : o.guard = none) (h : ∀ H', iopC Γ D K (ev (dense N L)) H' n o.op = some ⟨v, [(n, x)], n + 1⟩) (hc : isCall o.op = false) (hs : seesIds (ev (dense N L)) o.op = []) (hW : W n)
    (hk : vcE Γ D K W ops (hp H M) n0 Q os pres (k + 1) (Wr ++ [(k, [(n, x)])]) Vs (dense N ((d, v) :: L)) (n + 1)) : vcE Γ D K W ops (hp H M) n0 Q (o :: os) (pre :: pres) k Wr Vs (dense N L) n := by
  intro acc R
  unfold vcD
  rw [h]
  simp only [wantedI, hg, wpo]
  have hv : ∀ l, visOf (ev (dense N L)) o.op l = .ids [] := by intro l; simp only [visOf, hc]; rw [hs]; rfl
  refine ⟨fun _ => ⟨fun p hm => ?_, by omega, ?_, ?_⟩, fun hb => by cases hb⟩
  · simp only [List.mem_singleton] at hm; subst hm; exact ⟨hW, .inl (Nat.le_refl _), by simp⟩
  · refine apart2_mk fun j y hy => .inr ⟨fun p hm => ?_, fun p _ => ?_⟩
    · simp only [List.mem_singleton] at hm; subst hm
      exact R.fresh y (List.mem_of_getElem? hy) n (Nat.le_refl _)
    · rw [hv]; simp [Vis.clear]
  · have hh := hk (acc ++ [⟨[(n, x)], .ids []⟩]) (R.snoc _ _ _ (by omega) (.inr rfl) (.inl ⟨rfl, rfl⟩) (fun id hid => by simp [Vis.clear]))
    rw [hv]
    rw [tput_dense, hd]
    exact hh
/-- a store -/
theorem vcE_sto {v : Value} {id : Nat} {x : Option IObj} {u M' : Ups} (hd : o.dst = none) (hg : o.guard = none) (hu : upsW pre Wr = u) (hM : putH u M = M') (h : iopC Γ D K (ev (dense N L)) (hp H M') n o.op = some ⟨v, [(id, x)], n⟩) (hc : isCall o.op = false)
    (hs : seesIds (ev (dense N L)) o.op = [id]) (hH : (hp H M' id).isSome = true) (hl : id < n) (hW : W id) (hq : quietW n0 pre (.ids [id]) Wr) (hv' : clearV n0 pre id Vs)
    (hk : vcE Γ D K W ops (hp H M) n0 Q os pres (k + 1) (Wr ++ [(k, [(id, x)])]) ((k, .ids [id]) :: Vs) (dense N L) n) : vcE Γ D K W ops (hp H M) n0 Q (o :: os) (pre :: pres) k Wr Vs (dense N L) n := by
  intro acc R
  subst hu
  subst hM
  unfold vcD
  rw [R.ups pre, upds_hp, h]
  simp only [wantedI, hg, wpo]
  have hv : visOf (ev (dense N L)) o.op (List.map (fun x => x.fst) (upsW pre Wr)) = .ids [id] := by simp only [visOf, hc]; rw [hs]; rfl
  refine ⟨fun _ => ⟨fun p hm => ?_, Nat.le_refl _, ?_, ?_⟩, fun hb => by cases hb⟩
  · simp only [List.mem_singleton] at hm; subst hm
    refine ⟨hW, .inr ?_, hl⟩
    simp only [seenH, hc, Bool.false_eq_true, if_false, hs, restr, List.mem_singleton, if_true]
    exact hH
  · refine apart2_mk fun j y hy => ?_
    rw [hv]
    have a1 : j ∈ pre ∨ ∀ p ∈ y.up, Vis.clear n0 (.ids [id]) p.1 := by
      rcases R.wr j y hy with h1 | h1
      · right; rw [h1]; exact fun p hm => (by cases hm)
      · exact quietW_spec hq _ h1
    have a2 : j ∈ pre ∨ y.vis.clear n0 id := by
      rcases R.vis j y hy with h1 | h1
      · right; rw [h1]; simp [Vis.clear]
      · exact clearV_spec hv' _ h1
    simp only [Nat.zero_add]
    rcases a1 with a1 | a1
    · exact .inl a1
    · rcases a2 with a2 | a2
      · exact .inl a2
      · exact .inr ⟨fun p hm => (by simp only [List.mem_singleton] at hm; subst hm; exact a2), a1⟩
  · have hh := hk (acc ++ [⟨[(id, x)], .ids [id]⟩]) (R.snoc _ _ _ (Nat.le_refl _) (.inr rfl) (.inr (.inl rfl)) (fun id' hid => by
      show id' ∉ [id]
      simp only [List.mem_singleton]; omega))
    rw [hv]
    rw [tput_dense, hd]
    exact hh
end
/-! what is looked at -/
section
variable {e : Operand → Value}
theorem si_load {t : TypeId} {a : Operand} {id off : Nat} {s : Option Nat} (ha : e a = .pointer (some ⟨id, off, s⟩)) : seesIds e (.load t a) = [id] := by simp only [seesIds, ha, blk]
theorem si_store {t : TypeId} {a x : Operand} {id off : Nat} {s : Option Nat} (ha : e a = .pointer (some ⟨id, off, s⟩)) : seesIds e (.store t a x) = [id] := by simp only [seesIds, ha, blk]
theorem vi_load {t : TypeId} {a : Operand} {id off : Nat} {s : Option Nat} {news : List Nat} (ha : e a = .pointer (some ⟨id, off, s⟩)) : visOf e (.load t a) news = .ids [id] := by
  simp only [visOf, isCall, si_load ha]; rfl
theorem vi_bl {op : Op} {news : List Nat} (hc : isCall op = false) (hs : seesIds e op = []) : visOf e op news = .ids [] := by simp only [visOf, hc, hs]; rfl
theorem vi_call {op : Op} {news : List Nat} (hc : isCall op = true) : visOf e op news = .all news := by simp only [visOf, hc, if_true]
theorem lt1 {id n : Nat} (h : id < n) : ∀ i ∈ [id], i < n := by simpa using h
theorem lt0 {n : Nat} : ∀ i ∈ ([] : List Nat), i < n := fun i hi => by cases hi
theorem ltu0 {n : Nat} : ∀ p ∈ ([] : Ups), p.1 < n := fun i hi => by cases hi
theorem ltuc {n id : Nat} {x : Option IObj} {u : Ups} (h : id < n) (hs : ∀ p ∈ u, p.1 < n) : ∀ p ∈ ((id, x) :: u : Ups), p.1 < n := fun p hm => by
  rcases List.mem_cons.1 hm with rfl | hm
  · exact h
  · exact hs p hm
theorem hf1 {id n n0 : Nat} (h : id < n) : ∀ j, n ≤ j → n0 ≤ j → Vis.clear n0 (.ids [id]) j := fun j h1 _ => by simp [Vis.clear]; omega
theorem hf0 {n n0 : Nat} : ∀ j, n ≤ j → n0 ≤ j → Vis.clear n0 (.ids []) j := fun j h1 _ => by simp [Vis.clear]
theorem hfa0 {n n0 : Nat} : ∀ j, n ≤ j → n0 ≤ j → Vis.clear n0 (.all (([] : Ups).map (·.1))) j := fun j _ h => by simp [Vis.clear, h]
/-- another row than the one written -/
theorem qn1 {id m n0 : Nat} {x : Option IObj} (h : m ≠ id) : ∀ p ∈ ([(m, x)] : Ups), Vis.clear n0 (.ids [id]) p.1 := fun p hm => by
  simp only [List.mem_singleton] at hm; subst hm; simpa [Vis.clear] using h
theorem qa1 {m n0 : Nat} {x : Option IObj} {news : List Nat} (h : n0 ≤ m) (hs : m ∉ news) : ∀ p ∈ ([(m, x)] : Ups), Vis.clear n0 (.all news) p.1 := fun p hm => by
  simp only [List.mem_singleton] at hm; subst hm; exact ⟨h, hs⟩
theorem cn1 {id m n0 : Nat} (h : id ≠ m) : Vis.clear n0 (.ids [m]) id := by simpa [Vis.clear] using h
end
end Go.Proofs.Ytdnnojblneccdaa
