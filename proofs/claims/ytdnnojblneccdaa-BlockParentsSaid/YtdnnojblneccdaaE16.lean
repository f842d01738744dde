/-
  The region whose order is open, from its conditions.
-/
import Derived.Test.YtdnnojblneccdaaE15
namespace Go.Proofs.Ytdnnojblneccdaa
set_option linter.unusedSimpArgs false
set_option linter.unusedVariables false
open Go

def trOf (l : List Tr) (nf : Nat) : Nat → Tr := fun j => (l[j]?).getD ⟨none, .tuple #[], [], nf, nf, fun _ => none, []⟩
theorem trOf_lt {l : List Tr} {nf nf' : Nat} {r : List Tr} {j : Nat} (h : j < l.length) : trOf (l ++ r) nf' j = trOf l nf j := by
  unfold trOf
  rw [List.getElem?_append_left h, List.getElem?_eq_getElem h]; rfl
theorem trOf_at {l : List Tr} {nf : Nat} {x : Tr} {r : List Tr} : trOf (l ++ x :: r) nf l.length = x := by
  simp [trOf]
theorem trOf_ge {l : List Tr} {nf j : Nat} (h : l.length ≤ j) : trOf l nf j = ⟨none, .tuple #[], [], nf, nf, fun _ => none, []⟩ := by
  simp [trOf, List.getElem?_eq_none h]

theorem sT_tr {tr tr' : Nat → Tr} {t0 : List Value} {n0 : Nat} {d : Nat → Bool} {u : Nat} : ∀ k, (∀ j, j < k → tr j = tr' j) → sT tr t0 n0 d k u = sT tr' t0 n0 d k u
  | 0, _ => rfl
  | k + 1, h => by simp only [sT]; rw [sT_tr k fun j hj => h j (by omega), h k (by omega)]
theorem sH_tr {tr tr' : Nat → Tr} {H0 : IHeap} {n0 : Nat} {d : Nat → Bool} {u : Nat} : ∀ k, (∀ j, j < k → tr j = tr' j) → sH tr H0 n0 d k u = sH tr' H0 n0 d k u
  | 0, _ => rfl
  | k + 1, h => by simp only [sH]; rw [sH_tr k fun j hj => h j (by omega), h k (by omega)]

/-- operands and guard -/
def usesOf (ops : Array Oper) (o : Oper) : List Nat :=
  (o.op.operands.toList.filterMap fun | .tmp t => some t | _ => none) ++
  (match o.guard with
   | some (g, _) => ((ops[g]?).bind (·.dst)).toList
   | none => [])

/-- the closed look at a region: its edges, who is before whom, who writes which variable -/
def regOk (len : Nat) (ops : List Oper) (pres : List (List Nat)) : Bool :=
  let pre := fun i => pres.getD i []
  ops.length == pres.length &&
  (ops.zipIdx.all fun (o, i) =>
    (o.after.toList.all fun e => !Region.binds .any e || e.on < i) &&
    ((pre i).all fun j => decide (j < i) && o.after.toList.any fun e => Region.binds .any e && (j == e.on || (pre e.on).contains j)) &&
    ((usesOf ops.toArray o).all fun u => ops.zipIdx.all fun (p, j) => j == i || p.dst != some u || (pre i).contains j || (pre j).contains i) &&
    (match o.dst with
     | none => true
     | some u => decide (u < len) && ops.zipIdx.all fun (p, j) => j == i || p.dst != some u || (pre i).contains j || (pre j).contains i))

structure RegOk (tl : Nat) (ops : Array Oper) (pres : List (List Nat)) : Prop where
  len : ops.size = pres.length
  lt : ∀ i o, ops[i]? = some o → ∀ e ∈ o.after.toList, Region.binds .any e = true → e.on < i
  pre : ∀ i o, ops[i]? = some o → ∀ j ∈ pres.getD i [], j < i ∧ ∃ e ∈ o.after.toList, Region.binds .any e = true ∧ (j = e.on ∨ j ∈ pres.getD e.on [])
  uses : ∀ i o, ops[i]? = some o → ∀ u ∈ usesOf ops o, ∀ j p, ops[j]? = some p → j ≠ i → p.dst = some u → j ∈ pres.getD i [] ∨ i ∈ pres.getD j []
  dsts : ∀ i o u, ops[i]? = some o → o.dst = some u → u < tl ∧ ∀ j p, ops[j]? = some p → j ≠ i → p.dst = some u → j ∈ pres.getD i [] ∨ i ∈ pres.getD j []

theorem regOk_ok {tl : Nat} {ops : List Oper} {pres : List (List Nat)} (h : regOk tl ops pres = true) : RegOk tl ops.toArray pres := by
  simp only [regOk, Bool.and_eq_true, beq_iff_eq, List.all_eq_true] at h
  obtain ⟨h0, h⟩ := h
  have hz : ∀ {i : Nat} {o : Oper}, ops.toArray[i]? = some o → (o, i) ∈ ops.zipIdx := by
    intro i o ho
    rw [List.mem_iff_getElem?]
    exact ⟨i, by simp only [List.getElem?_zipIdx]; simp at ho; simp [ho]⟩
  refine ⟨by simpa using h0, ?_, ?_, ?_, ?_⟩
  · intro i o ho e he hb
    have := (h _ (hz ho)).1.1.1 e he
    simp only [hb, Bool.not_true, Bool.false_or, decide_eq_true_eq] at this
    exact this
  · intro i o ho j hj
    have := (h _ (hz ho)).1.1.2 j hj
    simp only [Bool.and_eq_true, decide_eq_true_eq, List.any_eq_true, Bool.or_eq_true, beq_iff_eq, List.contains_iff_mem] at this
    obtain ⟨h1, e, h2, h3, h4⟩ := this
    exact ⟨h1, e, h2, h3, h4⟩
  · intro i o ho u hu j p hp hne hd
    have := (h _ (hz ho)).1.2 u hu _ (hz hp)
    simp only [hd, bne_self_eq_false, Bool.or_false, Bool.or_eq_true, beq_iff_eq, List.contains_iff_mem] at this
    rcases this with (h1 | h1) | h1
    · exact absurd h1 hne
    · exact .inl h1
    · exact .inr h1
  · intro i o u ho hd
    have := (h _ (hz ho)).2
    simp only [hd, Bool.and_eq_true, decide_eq_true_eq, List.all_eq_true] at this
    refine ⟨this.1, fun j p hp hne hd2 => ?_⟩
    have := this.2 _ (hz hp)
    simp only [hd2, bne_self_eq_false, Bool.or_false, Bool.or_eq_true, beq_iff_eq, List.contains_iff_mem] at this
    rcases this with (h1 | h1) | h1
    · exact absurd h1 hne
    · exact .inl h1
    · exact .inr h1

theorem upsOf_sH {accT : List Tr} {accL : List Left} {pre : List Nat} {H0 : IHeap} {n0 nf : Nat} (hl : accL.length = accT.length) (hu : ∀ (j : Nat) x y, accT[j]? = some x → accL[j]? = some y → x.up = y.up) (id : Nat) :
    upds H0 (upsOf pre accL 0) id = (sH (trOf accT nf) H0 n0 (fun j => decide (j ∈ pre)) accT.length id).1 := by
  have key : ∀ (k : Nat), k ≤ accT.length → upds H0 (upsOf pre (accL.take k) 0) id = (sH (trOf accT nf) H0 n0 (fun j => decide (j ∈ pre)) k id).1 := by
    have happ : ∀ (l : List Left) (x : Left) (j : Nat), upsOf pre (l ++ [x]) j = upsOf pre l j ++ (if j + l.length ∈ pre then x.up else []) := by
      intro l
      induction l with
      | nil => intro x j; simp [upsOf]
      | cons y l ih =>
        intro x j
        simp only [List.cons_append, upsOf, ih, List.length_cons]
        have : j + 1 + l.length = j + (l.length + 1) := by omega
        rw [this]
        split <;> simp
    intro k
    induction k with
    | zero => intro _; simp [upsOf, upds, sH]
    | succ k ih =>
      intro hk
      have hkL : k < accL.length := by omega
      have hkT : k < accT.length := by omega
      rw [List.take_succ_eq_append_getElem hkL, happ, upds_append]
      simp only [Nat.zero_add, List.length_take, Nat.min_eq_left (Nat.le_of_lt hkL), sH]
      have hx : (trOf accT nf k) = accT[k] := by simp [trOf, hkT]
      have hup : (accT[k]).up = (accL[k]).up := hu k _ _ (by simp [hkT]) (by simp [hkL])
      rw [hx]
      by_cases hm : k ∈ pre
      · simp only [hm, if_true, decide_true, true_and]
        by_cases hid : id ∈ (accT[k]).up.map (·.1)
        · rw [if_pos hid]
          rw [hup] at hid ⊢
          exact upds_mem hid
        · rw [if_neg hid]
          rw [hup] at hid
          rw [upds_not_mem hid]; exact ih (by omega)
      · simp only [hm, if_false, decide_false, Bool.false_eq_true, false_and, upds]
        exact ih (by omega)
  have := key accT.length (Nat.le_refl _)
  rwa [← hl, List.take_length, hl] at this

theorem all_sH {accT : List Tr} {accL : List Left} {H0 : IHeap} {n0 nf : Nat} (hl : accL.length = accT.length) (hu : ∀ (j : Nat) x y, accT[j]? = some x → accL[j]? = some y → x.up = y.up) (id : Nat) :
    upds H0 (allUps accL) id = (sH (trOf accT nf) H0 n0 (fun _ => true) accT.length id).1 := by
  have h1 : allUps accL = upsOf (List.range accL.length) accL 0 := by
    have : ∀ (l : List Left) (j m : Nat), j + l.length ≤ m → upsOf (List.range m) l j = allUps l := by
      intro l
      induction l with
      | nil => intro j m _; rfl
      | cons y l ih =>
        intro j m hm
        simp only [List.length_cons] at hm
        simp only [upsOf, allUps, List.flatMap_cons]
        rw [if_pos (by simp; omega), ih (j + 1) m (by omega)]
        rfl
    rw [this accL 0 accL.length (by omega)]
  rw [h1, upsOf_sH (n0 := n0) (nf := nf) hl hu id]
  rw [sH_congr (d' := fun _ => true) (trOf accT nf) H0 n0 accT.length fun j hj _ => by simp [hl, hj]]

theorem apart2_get {n0 : Nat} {pre : List Nat} {x : Left} : ∀ {l : List Left} {j : Nat}, apart2 n0 pre x l j → ∀ (k : Nat) y, l[k]? = some y → j + k ∉ pre → (∀ p ∈ x.up, y.vis.clear n0 p.1) ∧ ∀ p ∈ y.up, x.vis.clear n0 p.1
  | [], _, _, k, y, h, _ => by simp at h
  | z :: l, j, h, k, y, hk, hn => by
    simp only [apart2] at h
    cases k with
    | zero =>
      simp only [List.getElem?_cons_zero, Option.some.injEq] at hk
      subst hk
      exact h.1.resolve_left (by simpa using hn)
    | succ k => exact apart2_get h.2 k y (by simpa using hk) (by rw [show j + 1 + k = j + (k + 1) by omega]; exact hn)

/-- what has been gone through -/
structure Good (P : Program) (R : Option Nat) (ops : Array Oper) (Q : Exit → Act → World → Prop) (W : Nat → Prop) (pres : List (List Nat)) (t0 : List Value) (H0 : IHeap) (n0 : Nat) (accT : List Tr) (accL : List Left) (t : List Value) (n : Nat) : Prop where
  len : accL.length = accT.length
  ups : ∀ (j : Nat) x y, accT[j]? = some x → accL[j]? = some y → x.up = y.up
  ofOp : ∀ j, j < accT.length → ∃ o, ops[j]? = some o ∧ (trOf accT n j).dst = o.dst ∧ (trOf accT n j).uses = usesOf ops o
  first : 0 < accT.length → (trOf accT n 0).n = n0
  cur : accT.length = 0 → n = n0
  next : ∀ j, (trOf accT n (j + 1)).n = (trOf accT n j).n'
  mono : ∀ j, (trOf accT n j).n ≤ (trOf accT n j).n'
  tlen : t.length = t0.length
  tval : ∀ u, t.getD u (.tuple #[]) = (sT (trOf accT n) t0 n0 (fun _ => true) accT.length u).1
  sees : ∀ i, i < accT.length → ∀ id o, (trOf accT n i).H id = some o → (sH (trOf accT n) H0 n0 (fun j => decide (j ∈ pres.getD i [])) i id).1 = some o
  apart : ∀ i, i < accT.length → ∀ j, j < accT.length → j ≠ i → j ∉ pres.getD i [] → i ∉ pres.getD j [] → ∀ id ∈ (trOf accT n j).ids, (trOf accT n i).H id = none
  ids : ∀ i, i < accT.length → ∀ id ∈ (trOf accT n i).ids, ((trOf accT n i).n ≤ id ∨ ((trOf accT n i).H id).isSome) ∧ id < (trOf accT n i).n'
  wr : ∀ i, i < accT.length → ∀ id ∈ (trOf accT n i).ids, W id
  run : ∀ i, i < accT.length → ∀ (ρ : Ren) (a : Act) (w : World), a.tmps.size = t0.length → (∀ u ∈ (trOf accT n i).uses, VR ρ (sT (trOf accT n) t0 n0 (fun _ => true) i u).1 (a.tmps.getD u undef)) → Below (trOf accT n i).n ρ → HR ρ (trOf accT n i).H w →
    ∀ K : Act → World → Prop, (∀ v' w' ρ', Post ρ (trOf accT n i).H (trOf accT n i).n ⟨(trOf accT n i).v, (trOf accT n i).up, (trOf accT n i).n'⟩ v' ρ' w w' → K (a.put (trOf accT n i).dst v') w') → wpOpIn (FW R) 0 P ops Q i K a w
  vis : ∀ (j : Nat) y, accL[j]? = some y → ∀ id, y.vis.clear n0 id → (trOf accT n j).H id = none

/-- one more operation gone through -/
theorem Good.snoc {R : Option Nat} {P : Program} {ops : Array Oper} {Q : Exit → Act → World → Prop} {W : Nat → Prop} {pres : List (List Nat)} {t0 : List Value} {H0 : IHeap} {n0 : Nat} {accT : List Tr} {accL : List Left} {t : List Value} {n : Nat}
    (G : Good P R ops Q W pres t0 H0 n0 accT accL t n) {o : Oper} (ho : ops[accT.length]? = some o) (x : Tr) (y : Left) (h1 : x.dst = o.dst) (h2 : x.uses = usesOf ops o) (h3 : x.n = n) (h4 : x.n ≤ x.n') (h5 : x.up = y.up)
    (h6 : ∀ id o', x.H id = some o' → upds H0 (upsOf (pres.getD accT.length []) accL 0) id = some o')
    (h7 : apart2 n0 (pres.getD accT.length []) y accL 0) (h8 : ∀ id ∈ x.ids, (x.n ≤ id ∨ (x.H id).isSome) ∧ id < x.n') (h9 : ∀ id ∈ x.ids, W id) (h10 : ∀ id, y.vis.clear n0 id → x.H id = none)
    (h11 : ∀ (ρ : Ren) (a : Act) (w : World), a.tmps.size = t0.length → (∀ u ∈ x.uses, VR ρ (t.getD u (.tuple #[])) (a.tmps.getD u undef)) → Below x.n ρ → HR ρ x.H w →
      ∀ K : Act → World → Prop, (∀ v' w' ρ', Post ρ x.H x.n ⟨x.v, x.up, x.n'⟩ v' ρ' w w' → K (a.put x.dst v') w') → wpOpIn (FW R) 0 P ops Q accT.length K a w)
    (h12 : ∀ u, o.dst = some u → u < t0.length) :
    Good P R ops Q W pres t0 H0 n0 (accT ++ [x]) (accL ++ [y]) (tput t o.dst x.v) x.n' := by
  have hlt : ∀ {j}, j < accT.length → trOf (accT ++ [x]) x.n' j = trOf accT n j := fun h => trOf_lt h
  have hat : trOf (accT ++ [x]) x.n' accT.length = x := trOf_at
  have hge : ∀ {j}, accT.length < j → trOf (accT ++ [x]) x.n' j = ⟨none, .tuple #[], [], x.n', x.n', fun _ => none, []⟩ := fun h => trOf_ge (by simp; omega)
  have hsT : ∀ (d : Nat → Bool) k, k ≤ accT.length → ∀ u, sT (trOf (accT ++ [x]) x.n') t0 n0 d k u = sT (trOf accT n) t0 n0 d k u := fun d k hk u => sT_tr k fun j hj => hlt (by omega)
  have hsH : ∀ (d : Nat → Bool) k, k ≤ accT.length → ∀ u, sH (trOf (accT ++ [x]) x.n') H0 n0 d k u = sH (trOf accT n) H0 n0 d k u := fun d k hk u => sH_tr k fun j hj => hlt (by omega)
  have hlen : (accT ++ [x]).length = accT.length + 1 := by simp
  have split : ∀ {j}, j < (accT ++ [x]).length → j < accT.length ∨ j = accT.length := fun h => by rw [hlen] at h; omega
  have hpair : ∀ j, j < accT.length → j ∉ pres.getD accT.length [] → (∀ id ∈ x.ids, (trOf accT n j).H id = none) ∧ ∀ id ∈ (trOf accT n j).ids, x.H id = none := by
    intro j hj hn
    have hjL : j < accL.length := by rw [G.len]; exact hj
    obtain ⟨a1, a2⟩ := apart2_get h7 j accL[j] (by simp [hjL]) (by simpa using hn)
    constructor
    · intro id hid
      rw [Tr.ids, h5] at hid
      obtain ⟨p, hp, rfl⟩ := List.mem_map.1 hid
      exact G.vis j accL[j] (by simp [hjL]) _ (a1 p hp)
    · intro id hid
      have hu := G.ups j accT[j] accL[j] (by simp [hj]) (by simp [hjL])
      have hx : trOf accT n j = accT[j] := by simp [trOf, hj]
      rw [hx, Tr.ids, hu] at hid
      obtain ⟨p, hp, rfl⟩ := List.mem_map.1 hid
      exact h10 _ (a2 p hp)
  refine ⟨by simp [G.len], ?_, ?_, ?_, ?_, ?_, ?_, ?_, ?_, ?_, ?_, ?_, ?_, ?_, ?_⟩
  · intro j a b ha hb
    by_cases hj : j < accT.length
    · rw [List.getElem?_append_left hj] at ha
      rw [List.getElem?_append_left (by rw [G.len]; exact hj)] at hb
      exact G.ups j a b ha hb
    · have hjl : j = accT.length := by
        have := (List.getElem?_eq_some_iff.1 ha).1
        simp at this; omega
      subst hjl
      rw [List.getElem?_append_right (Nat.le_refl _)] at ha
      rw [List.getElem?_append_right (by rw [G.len]; exact Nat.le_refl _)] at hb
      simp [G.len] at ha hb
      rw [← ha, ← hb]; exact h5
  · intro j hj
    rcases split hj with h | rfl
    · rw [hlt h]; exact G.ofOp j h
    · rw [hat]; exact ⟨o, ho, h1, h2⟩
  · intro _
    by_cases h0 : 0 < accT.length
    · rw [hlt h0]; exact G.first h0
    · have hz : accT.length = 0 := by omega
      have := hat; rw [hz] at this; rw [this, h3]; exact G.cur hz
  · intro h; simp at h
  · intro j
    rcases Nat.lt_trichotomy (j + 1) accT.length with h | h | h
    · rw [hlt h, hlt (by omega)]; exact G.next j
    · rw [h, hat, hlt (by omega), h3]
      have := G.next j
      rw [h, trOf_ge (Nat.le_refl _)] at this
      exact this
    · by_cases hj : j = accT.length
      · subst hj; rw [hat, hge (by omega)]
      · rw [hge h, hge (by omega)]
  · intro j
    rcases Nat.lt_trichotomy j accT.length with h | rfl | h
    · rw [hlt h]; exact G.mono j
    · rw [hat]; exact h4
    · rw [hge h]; exact Nat.le_refl _
  · cases hd : o.dst <;> simp [tput, G.tlen]
  · intro u
    rw [hlen]
    simp only [sT, true_and, hat, h1]
    by_cases hu : o.dst = some u
    · rw [if_pos hu, hu]
      have := h12 u hu
      simp [tput, List.getD_eq_getElem?_getD, G.tlen, this]
    · rw [if_neg hu, hsT _ _ (Nat.le_refl _), ← G.tval u]
      cases hd : o.dst with
      | none => rfl
      | some q =>
        have : q ≠ u := fun e => hu (by rw [hd, e])
        simp [tput, List.getD_eq_getElem?_getD, List.getElem?_set, this]
  · intro i hi id o' hH
    rcases split hi with h | rfl
    · rw [hlt h] at hH
      rw [hsH _ i (by omega)]
      exact G.sees i h id o' hH
    · rw [hat] at hH
      rw [hsH _ _ (Nat.le_refl _), ← upsOf_sH (nf := n) G.len G.ups]
      exact h6 id o' hH
  · intro i hi j hj hne hn1 hn2 id hid
    rcases split hi with h | rfl
    · rcases split hj with h' | rfl
      · rw [hlt h]; rw [hlt h'] at hid; exact G.apart i h j h' hne hn1 hn2 id hid
      · rw [hlt h]; rw [hat] at hid; exact (hpair i h hn2).1 id hid
    · rcases split hj with h' | rfl
      · rw [hat]; rw [hlt h'] at hid; exact (hpair j h' hn1).2 id hid
      · exact absurd rfl hne
  · intro i hi id hid
    rcases split hi with h | rfl
    · rw [hlt h] at hid ⊢; exact G.ids i h id hid
    · rw [hat] at hid ⊢; exact h8 id hid
  · intro i hi id hid
    rcases split hi with h | rfl
    · rw [hlt h] at hid; exact G.wr i h id hid
    · rw [hat] at hid; exact h9 id hid
  · intro i hi
    rcases split hi with h | rfl
    · rw [hlt h]
      intro ρ a w e1 e2
      refine G.run i h ρ a w e1 fun u hu => ?_
      have := e2 u hu
      rwa [hsT _ i (by omega)] at this
    · rw [hat]
      intro ρ a w e1 e2
      refine h11 ρ a w e1 fun u hu => ?_
      have := e2 u hu
      rwa [hsT _ _ (Nat.le_refl _), ← G.tval u] at this
  · intro j z hz id hc
    by_cases hj : j < accT.length
    · rw [List.getElem?_append_left (by rw [G.len]; exact hj)] at hz
      rw [hlt hj]; exact G.vis j z hz id hc
    · have hjl : j = accT.length := by
        have := (List.getElem?_eq_some_iff.1 hz).1
        simp [G.len] at this; omega
      subst hjl
      rw [List.getElem?_append_right (by rw [G.len]; exact Nat.le_refl _)] at hz
      simp [G.len] at hz
      rw [hat]; exact h10 id (hz ▸ hc)
end Go.Proofs.Ytdnnojblneccdaa
