/-
  Regions, both kinds, as rules.
-/
import Derived.Test.YtdnnojblneccdaaE16
namespace Go.Proofs.Ytdnnojblneccdaa
set_option linter.unusedSimpArgs false
set_option linter.unusedVariables false
open Go

theorem operand_rel {ρ : Ren} {ops : Array Oper} {o : Oper} {t : List Value} {a : Act} (h : ∀ u ∈ usesOf ops o, VR ρ (t.getD u (.tuple #[])) (a.tmps.getD u undef)) :
    ∀ x ∈ o.op.operands, VR ρ (ev t x) (a.eval x) := by
  intro x hx
  cases x with
  | tmp u =>
    exact h u (List.mem_append_left _ (List.mem_filterMap.2 ⟨.tmp u, by simpa using hx, rfl⟩))
  | const v =>
    simp only [Ytdnnojblneccdaa.ev, Act.eval]
    split
    · exact VR.clo ρ (by assumption)
    · exact .unk _
  | global g => exact .unk _
  | func f => exact .func _ rfl (by simp) rfl (by simp)

theorem wanted_rel {ρ : Ren} {ops : Array Oper} {o : Oper} {t : List Value} {a : Act} {b : Bool} (hs : a.tmps.size = t.length) (h : ∀ u ∈ usesOf ops o, VR ρ (t.getD u (.tuple #[])) (a.tmps.getD u undef))
    (hw : wantedI ops t o = some b) : Region.wanted o (yielded ops a.tmps) = b := by
  unfold wantedI at hw
  unfold Region.wanted
  split at hw
  · rename_i hg; rw [hg]; cases hw; rfl
  · rename_i j want hg
    rw [hg]
    split at hw
    · rename_i d hd
      simp only [Option.bind_eq_some_iff] at hw
      obtain ⟨x, ht, hx⟩ := hw
      · have hu : d ∈ usesOf ops o := List.mem_append_right _ (by simp [hg, hd])
        have h1 := h d hu
        have hdl : d < t.length := (List.getElem?_eq_some_iff.1 ht).1
        simp only [List.getD_eq_getElem?_getD, ht, Option.getD_some, Array.getD_eq_getD_getElem?] at h1
        have hds : d < a.tmps.size := by rw [hs]; exact hdl
        have hda : a.tmps[d]? = some a.tmps[d] := by simp
        rw [hda] at h1
        have := wantV_rel hx h1
        simp only [yielded, hd, Option.bind_some, hda]
        exact this
    · cases hw

section
variable {R : Option Nat} {P : Program} {Γ : Fns} {D : Ty} {K : Kinds}

theorem vcD_good (hE : Env P Γ D K) {W : Nat → Prop} {ops : Array Oper} {pres : List (List Nat)} {t0 : List Value} {H0 : IHeap} {n0 : Nat} {Q : Post3} {Q' : Exit → Act → World → Prop}
    (hR : RegOk t0.length ops pres) (hbase : ∀ id o, H0 id = some o → id < n0) :
    ∀ (os : List Oper) (ps : List (List Nat)) (accT : List Tr) (accL : List Left) (t : List Value) (n : Nat), Good P R ops Q' W pres t0 H0 n0 accT accL t n →
      (∀ i, ops[accT.length + i]? = os[i]?) → (∀ i, pres[accT.length + i]? = ps[i]?) → n0 ≤ n → vcD Γ D K W ops H0 n0 Q os ps accL t n →
      ∃ accT' accL' t' n', Good P R ops Q' W pres t0 H0 n0 accT' accL' t' n' ∧ accT'.length = ops.size ∧ n0 ≤ n' ∧ Q t' (upds H0 (allUps accL')) n'
  | [], ps, accT, accL, t, n, G, h1, h2, hn, hv => by
    refine ⟨accT, accL, t, n, G, ?_, hn, hv⟩
    have h3 := h1 0
    simp only [Nat.add_zero, List.getElem?_nil] at h3
    have h4 : ops.size ≤ accT.length := by simpa [Array.getElem?_eq_none_iff] using h3
    rcases Nat.lt_or_ge accT.length ops.size with h | h
    · omega
    · by_cases he : accT.length = ops.size
      · exact he
      · obtain ⟨o, ho, _⟩ := G.ofOp ops.size (by omega)
        simp at ho
  | o :: os, ps, accT, accL, t, n, G, h1, h2, hn, hv => by
    cases ps with
    | nil => exact hv.elim
    | cons pre ps =>
      have ho : ops[accT.length]? = some o := by have := h1 0; simpa using this
      have hp : pres.getD accT.length [] = pre := by have := h2 0; simp at this; simp [List.getD_eq_getElem?_getD, this]
      have hd : ∀ u, o.dst = some u → u < t0.length := fun u hu => (hR.dsts _ o u ho hu).1
      simp only [vcD] at hv
      have next : ∀ (x : Tr) (y : Left), Good P R ops Q' W pres t0 H0 n0 (accT ++ [x]) (accL ++ [y]) (tput t o.dst x.v) x.n' → n0 ≤ x.n' → vcD Γ D K W ops H0 n0 Q os ps (accL ++ [y]) (tput t o.dst x.v) x.n' →
          ∃ accT' accL' t' n', Good P R ops Q' W pres t0 H0 n0 accT' accL' t' n' ∧ accT'.length = ops.size ∧ n0 ≤ n' ∧ Q t' (upds H0 (allUps accL')) n' := by
        intro x y G' hn' hv'
        refine vcD_good hE hR hbase os ps _ _ _ _ G' (fun i => ?_) (fun i => ?_) hn' hv'
        · have := h1 (i + 1)
          simp only [List.length_append, List.length_singleton, List.getElem?_cons_succ] at this ⊢
          rw [← this]; congr 1; omega
        · have := h2 (i + 1)
          simp only [List.length_append, List.length_singleton, List.getElem?_cons_succ] at this ⊢
          rw [← this]; congr 1; omega
      cases hw : wantedI ops t o with
      | none => rw [hw] at hv; exact hv.elim
      | some b =>
        rw [hw] at hv
        cases b with
        | true =>
          have hv1 := hv.1 rfl
          cases hop : iopC Γ D K (ev t) (upds H0 (upsOf pre accL 0)) n o.op with
          | none => rw [hop] at hv1; exact hv1.elim
          | some ef =>
            rw [hop] at hv1
            obtain ⟨v1, v2, v3, v4⟩ := hv1
            have hop' : iopC Γ D K (ev t) (seenH (ev t) o.op (upds H0 (upsOf pre accL 0))) n o.op = some ef := by rw [iopC_seen]; exact hop
            let x : Tr := ⟨o.dst, ef.v, ef.up, n, ef.n, seenH (ev t) o.op (upds H0 (upsOf pre accL 0)), usesOf ops o⟩
            refine next x ⟨ef.up, visOf (ev t) o.op ((upsOf pre accL 0).map (·.1))⟩ (G.snoc ho x _ rfl rfl rfl v2 rfl ?_ (by rw [hp]; exact v3) ?_ ?_ ?_ ?_ hd) (Nat.le_trans hn v2) v4
            · intro id o' hH
              rw [hp]
              simp only [x, seenH] at hH
              split at hH
              · exact hH
              · exact restr_le _ _ _ _ hH
            · intro id hid
              obtain ⟨p, hp1, rfl⟩ := List.mem_map.1 hid
              exact (v1 p hp1).2
            · intro id hid
              obtain ⟨p, hp1, rfl⟩ := List.mem_map.1 hid
              exact (v1 p hp1).1
            · intro id hc
              simp only [x, seenH]
              simp only [visOf] at hc
              split
              · rename_i hcall
                rw [if_pos hcall] at hc
                simp only [Vis.clear] at hc
                rw [upds_not_mem hc.2]
                cases hH : H0 id with
                | none => rfl
                | some o' => have := hbase id o' hH; omega
              · rename_i hcall
                rw [if_neg hcall] at hc
                simp only [Vis.clear] at hc
                simp only [restr]; rw [if_neg hc]
            · intro ρ a w e1 e2 e3 e4 K' e5
              have hw' := wanted_rel (e1.trans G.tlen.symm) e2 hw
              unfold wpOpIn
              simp only [ho, hw', if_true]
              exact iopC_wp hE e3 e4 hop' (operand_rel e2) e5
        | false =>
          have hv1 := hv.2 rfl
          let x : Tr := ⟨o.dst, .chan none, [], n, n, fun _ => none, usesOf ops o⟩
          refine next x ⟨[], .ids []⟩ (G.snoc ho x _ rfl rfl rfl (Nat.le_refl _) rfl (fun id o' h => by cases h) ?_ (fun id hid => by cases hid) (fun id hid => by cases hid) (fun _ _ => rfl) ?_ hd) hn hv1
          · have : ∀ (l : List Left) (j : Nat), apart2 n0 (pres.getD accT.length []) ⟨[], .ids []⟩ l j := by
              intro l
              induction l with
              | nil => intro j; trivial
              | cons y l ih => intro j; exact ⟨.inr ⟨fun p hp => (by cases hp), fun p _ => by simp [Vis.clear]⟩, ih _⟩
            exact this _ _
          · intro ρ a w e1 e2 e3 e4 K' e5
            have hw' := wanted_rel (e1.trans G.tlen.symm) e2 hw
            unfold wpOpIn
            simp only [ho, hw', Bool.false_eq_true, if_false]
            exact ⟨FW_about, e5 undef w ρ (Post.pure e3 e4 .skip)⟩

/-- a region whose order is open -/
theorem wp_drawn (hE : Env P Γ D K) (hm : P.follows .mixedOrders = true) {W : Nat → Prop} {id : Nat} {ops : List Oper} {pres : List (List Nat)} {Q : Post3} {Q' : Exit → Act → World → Prop}
    {t0 : List Value} {H0 : IHeap} {n0 : Nat} {ρ0 ρ : Ren} {w0 w : World} {m0 : Nat} {a : Act} (hR : regOk t0.length ops pres = true) (hs : St W ρ0 w0 m0 t0 H0 n0 ρ a w)
    (hv : vcD Γ D K W ops.toArray H0 n0 Q ops pres [] t0 n0)
    (hk : ∀ ρ' t' H' n' a' w', St W ρ0 w0 m0 t' H' n' ρ' a' w' → Q t' H' n' → Q' .normal a' w') : (Code.region id ops.toArray true).wpIn (FW R) 0 P Q' a w := by
  have hRO := regOk_ok hR
  have hbase : ∀ id o, H0 id = some o → id < n0 := by
    intro id o ho
    obtain ⟨r, κ, h1, _⟩ := hs.heap.obj id o ho
    exact hs.below.lt h1
  have G0 : Good P R ops.toArray Q' W pres t0 H0 n0 [] [] t0 n0 := by
    refine ⟨rfl, by simp, by simp, by simp, fun _ => rfl, fun j => rfl, fun j => Nat.le_refl _, rfl, fun u => rfl, ?_, ?_, ?_, ?_, ?_, by simp⟩ <;> (intro i hi; simp at hi)
  obtain ⟨accT, accL, t', n', G, hlen, hn', hQ⟩ := vcD_good hE hRO hbase ops pres [] [] t0 n0 G0 (by simp) (by simp) (Nat.le_refl _) hv
  have hops : ∀ i, i < ops.toArray.size → i < accT.length := fun i hi => by rw [hlen]; exact hi
  have hDr : Drawn P R ops.toArray Q' W ops.toArray.size (trOf accT n') (fun i => pres.getD i []) t0 H0 n0 := by
    refine ⟨fun h => G.first (hops 0 h), G.next, G.mono, ?_, ?_, ?_, fun i hi => G.sees i (hops i hi), fun i hi j hj => G.apart i (hops i hi) j (hops j hj), fun i hi => G.ids i (hops i hi), fun i hi => G.wr i (hops i hi), ?_, fun i hi => G.run i (hops i hi)⟩
    · intro i j hj
      by_cases hi : i < ops.toArray.size
      · exact (hRO.pre i _ (by simp [Array.getElem?_eq_getElem hi]; rfl) j hj).1
      · have : pres.getD i [] = [] := by
          rw [List.getD_eq_getElem?_getD, List.getElem?_eq_none (by rw [← hRO.len]; omega)]; rfl
        rw [this] at hj; cases hj
    · intro i hi u hu j hj hne hd
      obtain ⟨o, ho, h1, h2⟩ := G.ofOp i (hops i hi)
      obtain ⟨p, hp, h3, h4⟩ := G.ofOp j (hops j hj)
      rw [h2] at hu; rw [h3] at hd
      exact hRO.uses i o ho u hu j p hp hne hd
    · intro i hi u hu j hj hne hd
      obtain ⟨o, ho, h1, h2⟩ := G.ofOp i (hops i hi)
      obtain ⟨p, hp, h3, h4⟩ := G.ofOp j (hops j hj)
      rw [h1] at hu; rw [h3] at hd
      exact (hRO.dsts i o u ho hu).2 j p hp hne hd
    · intro i hi u hu
      obtain ⟨o, ho, h1, h2⟩ := G.ofOp i (hops i hi)
      rw [h1] at hu
      exact (hRO.dsts i o u ho hu).1
  refine wpIn_region_any hm ?_
  have hEd : Edges ops.toArray (fun i => pres.getD i []) := ⟨hRO.lt, fun i o ho j hj => (hRO.pre i o ho j hj).2⟩
  refine drawn_any hDr hEd (m0 := m0) (ρ0 := ρ0) (w0 := w0) ?_ ops.toArray.size (Array.replicate ops.toArray.size false) a _ ρ (by simp) ?_ ?_ ?_
  · intro a' w' ρ' I
    refine hk ρ' t' (upds H0 (allUps accL)) n' a' w' ⟨⟨I.size.trans G.tlen.symm, fun u v hu => ?_, I.defers⟩, ?_, ⟨?_, ?_⟩, I.step, Nat.le_trans hs.le hn', I.fresh⟩ hQ
    · have hul : u < t0.length := by rw [← G.tlen]; exact (List.getElem?_eq_some_iff.1 hu).1
      have h1 := I.val u hul
      have h2 := G.tval u
      rw [hlen] at h2
      rw [← h2] at h1
      simp only [List.getD_eq_getElem?_getD, hu, Option.getD_some] at h1
      refine ⟨a'.tmps[u]'(by rw [I.size]; exact hul), by simp [I.size, hul], ?_⟩
      have h3 : a'.tmps.getD u undef = a'.tmps[u]'(by rw [I.size]; exact hul) := by simp [Array.getD_eq_getD_getElem?, I.size, hul]
      rw [h3] at h1
      exact h1.mono (cut_le _ _)
    · intro id hid
      cases hr : ρ' id with
      | none => rfl
      | some x =>
        exfalso
        rcases I.dom id x hr with h1 | ⟨j, h1, _, h3, h4⟩
        · omega
        · have hj := hops j h1
          have : (trOf accT n' j).n' ≤ n' := by
            have hlast : ∀ k, j < k → (trOf accT n' j).n' ≤ (trOf accT n' k).n := fun k hk => hDr.n_le hk
            have := hlast accT.length hj
            rwa [trOf_ge (Nat.le_refl _)] at this
          omega
    · intro id o ho
      rw [all_sH (n0 := n0) (nf := n') G.len G.ups id, hlen] at ho
      obtain ⟨r, κ, h1, h2⟩ := I.obj id o ho
      exact ⟨r, κ, h1, h2.mono (cut_le _ _)⟩
    · intro i j o p r κ κ' hi hj
      rw [all_sH (n0 := n0) (nf := n') G.len G.ups, hlen] at hi hj
      exact I.inj i j o p r κ κ' hi hj
  · have : ∀ m, cnt (fun j => (Array.replicate ops.toArray.size false).getD j false) m = m := by
      intro m
      induction m with
      | zero => rfl
      | succ m ih => simp only [cnt, ih]; simp [Array.getD_eq_getD_getElem?, Array.getElem?_replicate]; split <;> simp
    exact this _
  · intro j hj hd
    simp [Array.getD_eq_getD_getElem?, Array.getElem?_replicate] at hd
    split at hd <;> simp at hd
  · have hfalse : ∀ j, (Array.replicate ops.toArray.size false).getD j false = false := by
      intro j; simp [Array.getD_eq_getD_getElem?, Array.getElem?_replicate]; split <;> simp
    have h1 : ∀ m u, sT (trOf accT n') t0 n0 (fun j => (Array.replicate ops.toArray.size false).getD j false) m u = (t0.getD u (.tuple #[]), n0) := by
      intro m u
      induction m with
      | zero => rfl
      | succ m ih => simp only [sT]; rw [if_neg (by rw [hfalse]; simp)]; exact ih
    have h2 : ∀ m u, sH (trOf accT n') H0 n0 (fun j => (Array.replicate ops.toArray.size false).getD j false) m u = (H0 u, n0) := by
      intro m u
      induction m with
      | zero => rfl
      | succ m ih => simp only [sH]; rw [if_neg (by rw [hfalse]; simp)]; exact ih
    have hcut : ρ.le (cut n0 ρ) := fun id x hx => by
      unfold cut; rw [if_pos (hs.below.lt hx)]; exact hx
    refine ⟨hs.tr.size, hs.tr.defers, fun u hu => ?_, fun id o ho => ?_, fun i j o p r κ κ' hi hj => ?_, fun id x hx => .inl (hs.below.lt hx), hs.step.drawn _, hbase, hs.le, hs.fresh⟩
    · rw [h1]
      obtain ⟨y, e1, e2⟩ := hs.tr.val u t0[u] (by simp [hu])
      simp only [List.getD_eq_getElem?_getD, Array.getD_eq_getD_getElem?, e1, List.getElem?_eq_getElem hu, Option.getD_some]
      exact e2.mono hcut
    · rw [h2] at ho ⊢
      obtain ⟨r, κ, e1, e2⟩ := hs.heap.obj id o ho
      exact ⟨r, κ, e1, e2.mono hcut⟩
    · rw [h2] at hi hj
      exact hs.heap.inj i j o p r κ κ' hi hj
end
end Go.Proofs.Ytdnnojblneccdaa
