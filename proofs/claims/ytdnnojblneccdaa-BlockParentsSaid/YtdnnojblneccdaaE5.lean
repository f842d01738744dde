/-
  Numbers, comparisons, slices, places in rows.
-/
import Derived.Test.YtdnnojblneccdaaE4
namespace Go.Proofs.Ytdnnojblneccdaa
set_option linter.unusedSimpArgs false
set_option linter.unusedVariables false
open Go

/-- values of this type may be held against each other, cell by cell -/
structure EqT (P : Program) (t : TypeId) (ks : List TK) : Prop where
  guard : P.eqGuardType P.depth t = false
  run : ∀ (dd : Nat) (w : World) (xs ys : Array Value) (b : Bool), 30 ≤ dd → cellsEq ks xs.toList ys.toList = some b → (Op.equalIn dd t (.agg xs) (.agg ys)).run P w = .ok b w
def KOk (P : Program) (K : Kinds) : Prop := ∀ t ks, K t = some ks → EqT P t ks

theorem cellEq_rel {ρ : Ren} {k : TK} {x y x' y' : Value} {b : Bool} (h : cellEq k x y = some b) (hx : VR ρ x x') (hy : VR ρ y y') : cellEq k x' y' = some b := by
  unfold cellEq at h
  split at h
  · cases hx; cases hy; exact h
  · cases hx; cases hy; exact h
  · cases hx; cases hy; exact h
  · cases h
theorem cellsEq_rel {ρ : Ren} : ∀ {ks : List TK} {xs ys xs' ys' : List Value} {b : Bool}, cellsEq ks xs ys = some b → xs.length = xs'.length → ys.length = ys'.length →
    (∀ (i : Nat) x y, xs[i]? = some x → xs'[i]? = some y → VR ρ x y) → (∀ (i : Nat) x y, ys[i]? = some x → ys'[i]? = some y → VR ρ x y) → cellsEq ks xs' ys' = some b
  | [], [], [], [], [], _, h, _, _, _, _ => h
  | k :: ks, x :: xs, y :: ys, x' :: xs', y' :: ys', b, h, h1, h2, h3, h4 => by
    simp only [cellsEq, Option.bind_eq_some_iff, Option.map_eq_some_iff] at h ⊢
    obtain ⟨a, ha, c, hc, rfl⟩ := h
    exact ⟨a, cellEq_rel ha (h3 0 _ _ rfl rfl) (h4 0 _ _ rfl rfl), c,
      cellsEq_rel hc (by simpa using h1) (by simpa using h2) (fun i x y e f => h3 (i + 1) x y (by simpa using e) (by simpa using f)) (fun i x y e f => h4 (i + 1) x y (by simpa using e) (by simpa using f)), rfl⟩
  | [], [], [], _ :: _, _, _, _, h, _, _, _ => by simp at h
  | [], [], [], _, _ :: _, _, _, _, h, _, _ => by simp at h
  | [], _ :: _, _, _, _, _, h, _, _, _, _ => by simp [cellsEq] at h
  | [], [], _ :: _, _, _, _, h, _, _, _, _ => by simp [cellsEq] at h
  | _ :: _, [], _, _, _, _, h, _, _, _, _ => by simp [cellsEq] at h
  | _ :: _, _ :: _, [], _, _, _, h, _, _, _, _ => by simp [cellsEq] at h
  | _ :: _, _ :: _, _ :: _, [], _, _, _, h, _, _, _ => by simp at h
  | _ :: _, _ :: _, _ :: _, _ :: _, [], _, _, _, h, _, _ => by simp at h

section
variable {P : Program} {D : Ty} {K : Kinds} {ρ : Ren} {H : IHeap} {w : World} {n : Nat}

theorem eqIn_ptrL (d : Nat) {t e : TypeId} (h : P.underlying t = some (.pointer e)) (b : Option Addr) : (Op.equalIn (d + 1) t (.pointer none) (.pointer b)).run P w = .ok b.isNone w := by
  simp [Op.equalIn, run_underlying h]
theorem eqIn_ptrR (d : Nat) {t e : TypeId} (h : P.underlying t = some (.pointer e)) (b : Option Addr) : (Op.equalIn (d + 1) t (.pointer b) (.pointer none)).run P w = .ok b.isNone w := by
  cases b <;> simp [Op.equalIn, run_underlying h]
theorem eqIn_sliceL (d : Nat) {t e : TypeId} (h : P.underlying t = some (.slice e)) (b : Option Addr) (l c l' c' : Nat) : (Op.equalIn (d + 1) t (.slice none l c) (.slice b l' c')).run P w = .ok b.isNone w := by
  simp [Op.equalIn, run_underlying h]
theorem eqIn_sliceR (d : Nat) {t e : TypeId} (h : P.underlying t = some (.slice e)) (b : Option Addr) (l c l' c' : Nat) : (Op.equalIn (d + 1) t (.slice b l c) (.slice none l' c')).run P w = .ok b.isNone w := by
  cases b <;> simp [Op.equalIn, run_underlying h]
theorem eqIn_mapL (d : Nat) {t k e : TypeId} (h : P.underlying t = some (.map k e)) (b : Option Nat) : (Op.equalIn (d + 1) t (.map none) (.map b)).run P w = .ok b.isNone w := by
  simp [Op.equalIn, run_underlying h]
theorem eqIn_mapR (d : Nat) {t k e : TypeId} (h : P.underlying t = some (.map k e)) (b : Option Nat) : (Op.equalIn (d + 1) t (.map b) (.map none)).run P w = .ok b.isNone w := by
  cases b <;> simp [Op.equalIn, run_underlying h]
theorem equal_succ (t : TypeId) (x y : Value) : Op.equal t x y = Op.equalIn (9999 + 1) t x y := rfl

theorem ok_eq (hD : DOk P D) (hK : KOk P K) {t : TypeId} {x y x' y' : Value} {b : Bool} (h : eqOp D K t x y = some b) (hx : VR ρ x x') (hy : VR ρ y y') (op : BinOp) (o1 o2 : Operand) :
    (eqGuard op t o1 o2 x' y').run P w = .ok () w ∧ (Op.equal t x' y').run P w = .ok b w := by
  unfold eqOp at h
  split at h
  · simp only [Option.bind_eq_some_iff] at h
    obtain ⟨ks, hks, h⟩ := h
    obtain ⟨a', rfl, h1, h2⟩ := agg_inv hx
    obtain ⟨b', rfl, h3, h4⟩ := agg_inv hy
    have hE := hK t ks hks
    refine ⟨run_eqGuard_agg w op t o1 o2 a' b' hE.guard, ?_⟩
    exact hE.run 10000 w a' b' b (by omega) (cellsEq_rel h (by simpa using h1) (by simpa using h3) (fun i x y e f => h2 i x y (by simpa using e) (by simpa using f)) (fun i x y e f => h4 i x y (by simpa using e) (by simpa using f)))
  · simp only [Option.bind_eq_some_iff] at h
    obtain ⟨d, hd, h⟩ := h
    split at h
    · rename_i hk
      cases h
      cases hx; cases hy
      obtain ⟨u, u1, u2, u3⟩ := run_und hD hd w
      rw [hk] at u3; simp only [TK.fits] at u3; subst u3
      exact ⟨by cases op <;> simp [eqGuard], by rw [equal_succ]; exact run_equalIn_bool' w _ t _ _ u2⟩
    · cases h
  all_goals first
    | (cases h; done)
    | skip
  all_goals
    simp only [Option.bind_eq_some_iff] at h
    obtain ⟨d, hd, h⟩ := h
    split at h
    · rename_i hk
      cases h
      obtain ⟨u, u1, u2, u3⟩ := run_und hD hd w
      rw [hk] at u3; simp only [TK.fits] at u3; subst u3
      cases hx <;> cases hy <;>
        exact ⟨by cases op <;> simp [eqGuard], by
          rw [equal_succ]
          first
            | exact eqIn_ptrL _ u2 _
            | exact eqIn_ptrR _ u2 _
            | exact eqIn_sliceL _ u2 _ _ _ _ _
            | exact eqIn_sliceR _ u2 _ _ _ _ _
            | exact eqIn_mapL _ u2 _
            | exact eqIn_mapR _ u2 _⟩
    · cases h

theorem ok_intOp {op : BinOp} {k : IntKind} {a b : Int} {v : Value} (h : intOp op k a b = some v) (t : TypeId) : (binOp op t (.int k a) (.int k b)).run P w = .ok v w := by
  unfold intOp at h
  split at h <;> first
    | (cases h; done)
    | (cases h; simp [binOp, Op.intArith, Op.intBits, Op.intCmp]; done)
    | (split at h <;> first | (cases h; done) | (rename_i hne; cases h; simp [binOp, Op.intDiv, hne]))

theorem ok_strOp {op : BinOp} {a b : ByteArray} {v : Value} (h : strOp op a b = some v) (t : TypeId) : (binOp op t (.string a) (.string b)).run P w = .ok v w := by
  unfold strOp at h
  split at h
  · split at h
    · cases h
    · rename_i hn
      cases h
      simp only [binOp, Op.stringOp]
      rw [if_neg hn]; rfl
  all_goals first
    | (cases h; done)
    | (cases h; simp [binOp, Op.stringOp])

theorem ok_binOp (hD : DOk P D) (hK : KOk P K) {op : BinOp} {t : TypeId} {x y x' y' v : Value} (h : binOp' D K op t x y = some v) (hx : VR ρ x x') (hy : VR ρ y y') (o1 o2 : Operand) :
    (do eqGuard op t o1 o2 x' y'; binOp op t x' y' : Sem Value).run P w = .ok v w ∧ VR ρ v v := by
  unfold binOp' at h
  split at h
  · rename_i k a k' b
    cases hx; cases hy
    have hg : (eqGuard op t o1 o2 (.int k a) (.int k' b)).run P w = .ok () w := by cases op <;> simp [eqGuard]
    simp only [Sem.run_bind, hg, Result.andThen_ok]
    split at h
    · split at h
      · cases h
      · rename_i hb
        cases h
        exact ⟨by simp [binOp, Op.shift, hb], .int _ _⟩
    · split at h
      · cases h
      · rename_i hb
        cases h
        exact ⟨by simp [binOp, Op.shift, hb], .int _ _⟩
    · split at h
      · rename_i hk; subst hk
        refine ⟨ok_intOp h t, ?_⟩
        unfold intOp at h
        split at h <;> first
          | (cases h; done)
          | (cases h; first | exact .int _ _ | exact .bool _)
          | (split at h <;> cases h; exact .int _ _)
      · cases h
  · rename_i a b
    cases hx; cases hy
    have hg : (eqGuard op t o1 o2 (.string a) (.string b)).run P w = .ok () w := by cases op <;> simp [eqGuard]
    simp only [Sem.run_bind, hg, Result.andThen_ok]
    refine ⟨ok_strOp h t, ?_⟩
    unfold strOp at h
    split at h
    · split at h
      · cases h
      · cases h; exact .str _
    all_goals first
      | (cases h; done)
      | (cases h; exact .bool _)
  · rename_i hn1 hn2
    have ep : ∀ b, eqOp D K t x y = some b → (do eqGuard .eql t o1 o2 x' y'; binOp .eql t x' y' : Sem Value).run P w = .ok (.bool b) w := by
      intro b hb
      obtain ⟨g1, g2⟩ := ok_eq (P := P) (w := w) hD hK hb hx hy .eql o1 o2
      have ep : (do pure (.bool (← Op.equal t x' y')) : Sem Value).run P w = .ok (.bool b) w := by simp [g2]
      rw [Sem.run_bind, g1]
      unfold eqOp at hb
      split at hb <;> first
        | (cases hb; done)
        | (cases hx <;> cases hy <;> exact ep)
    have en : ∀ b, eqOp D K t x y = some b → (do eqGuard .neq t o1 o2 x' y'; binOp .neq t x' y' : Sem Value).run P w = .ok (.bool !b) w := by
      intro b hb
      obtain ⟨g1, g2⟩ := ok_eq (P := P) (w := w) hD hK hb hx hy .neq o1 o2
      have en : (do pure (.bool (!(← Op.equal t x' y'))) : Sem Value).run P w = .ok (.bool !b) w := by simp [g2]
      rw [Sem.run_bind, g1]
      unfold eqOp at hb
      split at hb <;> first
        | (cases hb; done)
        | (cases hx <;> cases hy <;> exact en)
    split at h
    · simp only [Option.map_eq_some_iff] at h
      obtain ⟨b, hb, rfl⟩ := h
      exact ⟨ep b hb, .bool _⟩
    · simp only [Option.map_eq_some_iff] at h
      obtain ⟨b, hb, rfl⟩ := h
      exact ⟨en b hb, .bool _⟩
    · cases h
end
end Go.Proofs.Ytdnnojblneccdaa
