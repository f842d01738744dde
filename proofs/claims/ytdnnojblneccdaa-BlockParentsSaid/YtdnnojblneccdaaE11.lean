/-
  All operations together.
-/
import Derived.Test.YtdnnojblneccdaaE10
namespace Go.Proofs.Ytdnnojblneccdaa
set_option linter.unusedSimpArgs false
set_option linter.unusedVariables false
open Go

section
variable {P : Program} {D : Ty} {K : Kinds} {ρ : Ren} {H : IHeap} {w : World} {n : Nat}

/-- the operation's run, from related operands, comes to the effect -/
def OpRuns (P : Program) (o : Oper) (e' : Operand → Value) (ρ : Ren) (H : IHeap) (n : Nat) (ef : Eff) (w : World) : Prop :=
  ∃ nx v' w' ρ', (execOp e' o).run P w = .ok nx w' ∧ (nx = .value v' ∨ nx = .skip ∧ v' = undef) ∧ Post ρ H n ef v' ρ' w w'

theorem Runs.op {o : Oper} {e' : Operand → Value} {s : Sem Value} {ef : Eff} (h : Runs P s ρ H n ef w) (ho : execOp e' o = (do pure (.value (← s)) : Sem Next)) : OpRuns P o e' ρ H n ef w := by
  obtain ⟨v', w', ρ', h1, h2⟩ := h
  exact ⟨.value v', v', w', ρ', by rw [ho]; simp [h1], .inl rfl, h2⟩

theorem ok_sliceNil {sz : Nat} {lo hi mx lo' hi' mx' : Option Value} {v : Value} (h : sliceIt ⟨0, 0, none⟩ 0 0 sz lo hi mx = some v) (r1 : VRO ρ lo lo') (r2 : VRO ρ hi hi') (r3 : VRO ρ mx mx') :
    ∃ l h m : Nat, (Instr.sliceBounds true 0 0 lo' hi' mx').run P w = .ok (l, h, m) w ∧ h - l = 0 ∧ m - l = 0 := by
  unfold sliceIt at h
  split at h
  · rename_i l hh m e1 e2 e3
    split at h
    · rename_i hcond
      obtain ⟨c1, c2, c3, c4⟩ := hcond
      refine ⟨l, hh, if mx.isSome then m else 0, bounds_run (P := P) (w := w) (isSlice := true) e1 e2 e3 c1 c2 c3 c4 r1 r2 r3, by omega, ?_⟩
      split <;> omega
    · cases h
  · cases h

theorem vro {e e' : Operand → Value} {x : Option Operand} (h : ∀ y, x = some y → VR ρ (e y) (e' y)) : VRO ρ (x.map e) (x.map e') := by
  cases x with
  | none => exact .none
  | some y => exact .some (h y rfl)

theorem iop_ok (hD : DOk P D) (hK : KOk P K) (hF : ∀ t, fieldsKnown D t = true) (hb : Below n ρ) (hh : HR ρ H w) {o : Oper} {e e' : Operand → Value} {ef : Eff}
    (h : iop D K e H n o.op = some ef) (hv : ∀ x ∈ o.op.operands, VR ρ (e x) (e' x)) : OpRuns P o e' ρ H n ef w := by
  obtain ⟨dst, op, type, pos, after, guard⟩ := o
  simp only at h hv
  have gen : ∀ {v v' : Value} {s : Sem Value}, val n v = some ef → VR ρ v v' → s.run P w = .ok v' w → execOp e' ⟨dst, op, type, pos, after, guard⟩ = (do pure (.value (← s)) : Sem Next) → OpRuns P ⟨dst, op, type, pos, after, guard⟩ e' ρ H n ef w :=
    fun h1 h2 h3 h4 => (Runs.val hb hh h1 h2 h3).op h4
  cases op with
  | move x => cases h; exact ⟨.value (e' x), e' x, w, ρ, by simp [execOp], .inl rfl, Post.pure hb hh (hv x (by simp [Op.operands]))⟩
  | assign x => cases h; exact ⟨.value (e' x), e' x, w, ρ, by simp [execOp], .inl rfl, Post.pure hb hh (hv x (by simp [Op.operands]))⟩
  | pick c a b =>
    simp only [iop] at h
    have hc := hv c (by simp [Op.operands])
    split at h
    · rename_i cb hcb
      rw [hcb] at hc
      cases h
      refine ⟨.value (if cb then e' a else e' b), _, w, ρ, by simp [execOp, bool_inv hc, asBool], .inl rfl, Post.pure hb hh ?_⟩
      cases cb
      · simpa using hv b (by simp [Op.operands])
      · simpa using hv a (by simp [Op.operands])
    · cases h
  | alloc t => exact (ok_alloc hD hb hh h).op rfl
  | box t x => exact (ok_box (t := t) hb hh h (hv x (by simp [Op.operands]))).op rfl
  | build t parts => exact (ok_build (e' := e') hD hF hb hh (by simpa only [iop] using h) (fun x hx => hv x (by simpa [Op.operands] using hx))).op rfl
  | buildSlice t len parts => exact (ok_buildSlice (e' := e') hD hb hh (by simpa only [iop] using h) (fun x hx => hv x (by simpa [Op.operands] using hx))).op rfl
  | load t a => exact (ok_load hD hb hh h (hv a (by simp [Op.operands]))).op rfl
  | store t a x =>
    obtain ⟨w', ρ', h1, h2⟩ := ok_store hD hb hh h (hv a (by simp [Op.operands])) (hv x (by simp [Op.operands]))
    exact ⟨.skip, undef, w', ρ', by simp [execOp, h1], .inr ⟨rfl, rfl⟩, h2⟩
  | nilCheck x =>
    simp only [iop] at h
    have hx := hv x (by simp [Op.operands])
    split at h
    · rename_i id off hex
      rw [hex] at hx
      cases h
      obtain ⟨r, κ, h1, h2⟩ := ptr_inv hx
      refine ⟨.value (e' x), e' x, w, ρ, ?_, .inl rfl, Post.pure hb hh hx⟩
      rw [h2]; simp [execOp, h2]
    · rename_i f a b hex
      rw [hex] at hx
      cases h
      refine ⟨.value (e' x), e' x, w, ρ, ?_, .inl rfl, Post.pure hb hh hx⟩
      generalize he : e' x = y at *
      cases hx
      simp [execOp, he]
    · cases h
  | binOp op t x y ty =>
    simp only [iop, Option.bind_eq_some_iff] at h
    obtain ⟨v, hv1, h⟩ := h
    obtain ⟨h1, h2⟩ := ok_binOp (P := P) (w := w) hD hK hv1 (hv x (by simp [Op.operands])) (hv y (by simp [Op.operands])) x y
    exact gen h h2 h1 rfl
  | unOp op t x =>
    simp only [iop, Option.bind_eq_some_iff] at h
    obtain ⟨v, hv1, h⟩ := h
    have hx := hv x (by simp [Op.operands])
    generalize e x = ex at *
    generalize he : e' x = ex' at *
    have : (Op.unary op ex').run P w = .ok v w ∧ VR ρ v v := by
      unfold unOp' at hv1
      split at hv1
      · cases hx; cases hv1; exact ⟨by simp [Op.unary, Op.intArith], .int _ _⟩
      · cases hx; cases hv1; exact ⟨by simp [Op.unary, Op.intBits], .int _ _⟩
      · cases hx; cases hv1; exact ⟨by simp [Op.unary], .bool _⟩
      · cases hv1
    exact gen h this.2 this.1 (by simp only [execOp, he])
  | convert s d x => exact (ok_convert hD hb hh h (hv x (by simp [Op.operands]))).op rfl
  | sliceToArrayPointer t x =>
    simp only [iop, Option.bind_eq_some_iff] at h
    obtain ⟨d, hd, h⟩ := h
    have hx := hv x (by simp [Op.operands])
    generalize e x = ex at *
    generalize he : e' x = ex' at *
    split at h
    · rename_i k el a len cap hk
      split at h
      · rename_i hle
        have hu := und_arr (P := P) hD hd hk w
        cases hx with
        | slice off len cap hr =>
          rename_i id r κ
          exact gen h (.ptr off hr) (s := Instr.arrayAt t (.slice (some ⟨r, off, none⟩) len cap)) (by simp [Instr.arrayAt, hu, Nat.not_lt.2 hle]) (by simp only [execOp, he])
        | oslice hr q1 q2 q3 =>
          rename_i id r κ off sz cap'
          exact gen h (.ptr off hr) (s := Instr.arrayAt t (.slice (some ⟨r, off, none⟩) len cap')) (by simp [Instr.arrayAt, hu, Nat.not_lt.2 hle]) (by simp only [execOp, he])
      · cases h
    · cases h
  | makeFunc fn first captured =>
    simp only [iop] at h
    have hrel : ∀ (xs : Array Operand), (∀ x ∈ xs, x ∈ (Op.makeFunc fn first captured).operands) → ∀ (i : Nat) (x y : Value), (xs.map e)[i]? = some x → (xs.map e')[i]? = some y → VR ρ x y := by
      intro xs hxs i x y h1 h2
      simp only [Array.getElem?_map, Option.map_eq_some_iff] at h1 h2
      obtain ⟨o, ho, rfl⟩ := h1
      obtain ⟨o', ho', rfl⟩ := h2
      rw [ho] at ho'; cases ho'
      exact hv o (hxs o (Array.mem_of_getElem? ho))
    exact gen h (.func fn (by simp) (hrel first (fun x hx => by simp [Op.operands, hx])) (by simp) (hrel captured (fun x hx => by simp [Op.operands, hx]))) (s := Instr.makeFunc fn (first.map e') (captured.map e')) rfl rfl
  | makeSlice t l c => exact (ok_make hD hb hh h (hv l (by simp [Op.operands])) (hv c (by simp [Op.operands]))).op rfl
  | slice t x lo hi mx =>
    simp only [iop, Option.bind_eq_some_iff] at h
    obtain ⟨d, hd, h⟩ := h
    have hx := hv x (by simp [Op.operands])
    have r1 : VRO ρ (lo.map e) (lo.map e') := vro fun y hy => hv y (by simp [Op.operands, hy])
    have r2 : VRO ρ (hi.map e) (hi.map e') := vro fun y hy => hv y (by simp [Op.operands, hy])
    have r3 : VRO ρ (mx.map e) (mx.map e') := vro fun y hy => hv y (by simp [Op.operands, hy])
    generalize e x = ex at *
    generalize he : e' x = ex' at *
    split at h
    · rename_i k el id off hk
      simp only [Option.bind_eq_some_iff] at h
      obtain ⟨de, hde, v, hv1, h⟩ := h
      obtain ⟨r, κ, h1, rfl⟩ := ptr_inv hx
      obtain ⟨l, hh', m, b1, b2⟩ := ok_sliceIt (P := P) (w := w) (cap' := k) hv1 h1 (.inl ⟨rfl, rfl⟩) r1 r2 r3 false
      exact gen h b2 (s := Instr.sliceAt t (.pointer (some ⟨r, off, none⟩)) (lo.map e') (hi.map e') (mx.map e')) (by simp [Instr.sliceAt, und_arr (P := P) hD hd hk, Instr.sureAddr, b1, run_size hD hde]) (by simp only [execOp, he])
    · rename_i el a len cap hk
      simp only [Option.bind_eq_some_iff] at h
      obtain ⟨de, hde, v, hv1, h⟩ := h
      have hu := und_slice (P := P) hD hd hk w
      cases hx with
      | slice off len cap hr =>
        rename_i id r κ
        obtain ⟨l, hh', m, b1, b2⟩ := ok_sliceIt (P := P) (w := w) (cap' := cap) hv1 hr (.inl ⟨rfl, rfl⟩) r1 r2 r3 true
        refine gen h b2 (s := Instr.sliceAt t (.slice (some ⟨r, off, none⟩) len cap) (lo.map e') (hi.map e') (mx.map e')) ?_ (by simp only [execOp, he])
        simp only [Instr.sliceAt, Sem.run_bind, hu, Result.andThen_ok, Instr.slice, b1, run_size hD hde, Sem.run_pure]
        split <;> simp
      | oslice hr q1 q2 q3 =>
        rename_i id r κ off sz' cap'
        obtain ⟨l, hh', m, b1, b2⟩ := ok_sliceIt (P := P) (w := w) hv1 hr (.inr ⟨_, rfl, q1, q3⟩) r1 r2 r3 true
        refine gen h b2 (s := Instr.sliceAt t (.slice (some ⟨r, off, none⟩) len cap') (lo.map e') (hi.map e') (mx.map e')) ?_ (by simp only [execOp, he])
        simp only [Instr.sliceAt, Sem.run_bind, hu, Result.andThen_ok, Instr.slice, b1, run_size hD hde, Sem.run_pure]
        split <;> simp
    · rename_i el len cap hk
      simp only [Option.bind_eq_some_iff] at h
      obtain ⟨de, hde, v, hv1, h⟩ := h
      have hu := und_slice (P := P) hD hd hk w
      cases hx
      obtain ⟨l, h', m, b1, b2, b3⟩ := ok_sliceNil (P := P) (w := w) hv1 r1 r2 r3
      refine gen h .nilSlice (s := Instr.sliceAt t (.slice none 0 0) (lo.map e') (hi.map e') (mx.map e')) ?_ (by simp only [execOp, he])
      simp only [Instr.sliceAt, Sem.run_bind, hu, Result.andThen_ok, Instr.slice, b1, run_size hD hde, Sem.run_pure, b2, b3]
      split <;> simp
    · cases h
  | fieldAddr t x f => exact (ok_fieldAddr hD hb hh h (hv x (by simp [Op.operands]))).op rfl
  | field t x f => exact (ok_field hD hb hh h (hv x (by simp [Op.operands]))).op rfl
  | indexAddr t x i =>
    simp only [iop, Option.bind_eq_some_iff] at h
    obtain ⟨d, hd, h⟩ := h
    have hx := hv x (by simp [Op.operands])
    have hi := hv i (by simp [Op.operands])
    generalize e x = ex at *
    generalize e i = ei at *
    generalize he : e' x = ex' at *
    generalize he2 : e' i = ei' at *
    split at h
    · rename_i k el id off ki iv hk
      simp only [Option.bind_eq_some_iff] at h
      obtain ⟨de, hde, h⟩ := h
      split at h
      · rename_i hc
        obtain ⟨r, κ, h1, rfl⟩ := ptr_inv hx
        rw [int_inv hi] at he2
        refine gen h (.ptr (off + iv.toNat * de.size) h1) (s := Instr.indexAt t (.pointer (some ⟨r, off, none⟩)) (.int ki iv)) ?_ (by simp only [execOp, he, he2])
        simp [Instr.indexAt, asIntOf, und_arr (P := P) hD hd hk, Instr.sureAddr, hc.1, hc.2, run_size hD hde, addr_add]
      · cases h
    · rename_i el id off sp len cap ki iv hk
      simp only [Option.bind_eq_some_iff] at h
      obtain ⟨de, hde, h⟩ := h
      split at h
      · rename_i hc
        rw [int_inv hi] at he2
        cases hx with
        | slice off len cap hr =>
          rename_i r κ
          refine gen h (.ptr (off + iv.toNat * de.size) hr) (s := Instr.indexAt t (.slice (some ⟨r, off, none⟩) len cap) (.int ki iv)) ?_ (by simp only [execOp, he, he2])
          simp [Instr.indexAt, asIntOf, und_slice (P := P) hD hd hk, hc.1, hc.2, run_size hD hde, addr_add]
        | oslice hr q1 q2 q3 =>
          rename_i r κ sz' cap'
          refine gen h (.ptr (off + iv.toNat * de.size) hr) (s := Instr.indexAt t (.slice (some ⟨r, off, none⟩) len cap') (.int ki iv)) ?_ (by simp only [execOp, he, he2])
          simp [Instr.indexAt, asIntOf, und_slice (P := P) hD hd hk, hc.1, hc.2, run_size hD hde, addr_add]
      · cases h
    · cases h
  | index t x i =>
    simp only [iop, Option.bind_eq_some_iff] at h
    obtain ⟨d, hd, h⟩ := h
    have hx := hv x (by simp [Op.operands])
    have hi := hv i (by simp [Op.operands])
    generalize e x = ex at *
    generalize e i = ei at *
    generalize he : e' x = ex' at *
    generalize he2 : e' i = ei' at *
    split at h
    · rename_i k el cs ki iv hk
      simp only [Option.bind_eq_some_iff] at h
      obtain ⟨de, hde, h⟩ := h
      split at h
      · rename_i hc
        simp only [Option.bind_eq_some_iff] at h
        obtain ⟨v, hv1, h⟩ := h
        obtain ⟨b, rfl, hs, hr⟩ := agg_inv hx
        rw [int_inv hi] at he2
        obtain ⟨v', p1, p2⟩ := part_run (P := P) hD hde hs hr hv1 w
        refine gen h p2 (s := Instr.index t (.agg b) (.int ki iv)) ?_ (by simp only [execOp, he, he2])
        simp [Instr.index, asIntOf, und_arr (P := P) hD hd hk, hc.1, hc.2, run_size hD hde, p1]
      · cases h
    · rename_i s ki iv hk
      split at h
      · rename_i hc
        simp only [Option.bind_eq_some_iff] at h
        obtain ⟨b, hb1, h⟩ := h
        rw [int_inv hi] at he2
        rw [str_inv hx] at he
        refine gen h (.int _ _) (s := Instr.index t (.string s) (.int ki iv)) ?_ (by simp only [execOp, he, he2])
        have : s[iv.toNat]? = some b := by
          obtain ⟨hi, hb2⟩ := Array.getElem?_eq_some_iff.1 hb1
          rw [getElem?_pos s iv.toNat hi]
          exact congrArg some hb2
        simp [Instr.index, asIntOf, und_str (P := P) hD hd hk, hc, this]
      · cases h
    · cases h
  | extract x i =>
    simp only [iop] at h
    have hx := hv x (by simp [Op.operands])
    generalize e x = ex at *
    generalize he : e' x = ex' at *
    split at h
    · rename_i vs
      simp only [Option.bind_eq_some_iff] at h
      obtain ⟨v, hv1, h⟩ := h
      split at h
      · cases h
      · rename_i hne
        cases hx with
        | unk => simp at hne
        | tuple hs hr =>
          rename_i b
          have hi : i < vs.size := (Array.getElem?_eq_some_iff.1 hv1).1
          have hb2 : b[i]? = some b[i] := by simp
          refine gen h (hr i _ _ hv1 hb2) (s := Instr.extract (.tuple b) i) (by simp [Instr.extract, hb2]) (by simp only [execOp, he])
    · cases h
  | call c =>
    obtain ⟨callee, args, argTypes⟩ := c
    cases callee with
    | value f => simp [iop] at h
    | invoke r m => simp [iop] at h
    | builtin b =>
      simp only [iop] at h
      have hargs : ∀ x ∈ args.toList, VR ρ (e x) (e' x) := fun x hx => hv x (by simp [Op.operands, Call.operands]; simpa using hx)
      have hex : ∀ (s : Sem Value), builtin b argTypes type (args.map fun | .const _ => true | _ => false) (args.map e') = (do pure (.value (← s)) : Sem Next) →
          execOp e' ⟨dst, .call ⟨.builtin b, args, argTypes⟩, type, pos, after, guard⟩ = (do pure (.value (← s)) : Sem Next) := by
        intro s hs
        rw [← hs]; rfl
      have run : ∀ (s : Sem Value), Runs P s ρ H n ef w → builtin b argTypes type (args.map fun | .const _ => true | _ => false) (args.map e') = (do pure (.value (← s)) : Sem Next) →
          OpRuns P ⟨dst, .call ⟨.builtin b, args, argTypes⟩, type, pos, after, guard⟩ e' ρ H n ef w := fun s h1 h2 => h1.op (hex s h2)
      have one : ∀ {x : Value}, args.toList.map e = [x] → ∃ x', args.map e' = #[x'] ∧ VR ρ x x' := by
        intro x hx
        obtain ⟨l⟩ := args
        simp only [List.map_eq_cons_iff, List.map_eq_nil_iff] at hx
        obtain ⟨a, l2, rfl, rfl, rfl⟩ := hx
        exact ⟨e' a, by simp, hargs a (by simp)⟩
      have two : ∀ {x y : Value}, args.toList.map e = [x, y] → ∃ x' y', args.map e' = #[x', y'] ∧ VR ρ x x' ∧ VR ρ y y' := by
        intro x y hx
        obtain ⟨l⟩ := args
        simp only [List.map_eq_cons_iff, List.map_eq_nil_iff] at hx
        obtain ⟨a, l2, rfl, rfl, b, l3, rfl, rfl, rfl⟩ := hx
        exact ⟨e' a, e' b, by simp, hargs a (by simp), hargs b (by simp)⟩
      unfold doBuiltin at h
      split at h
      · rename_i xs x hx
        obtain ⟨x', hx1, hx2⟩ := one hx
        simp only [Option.bind_eq_some_iff] at h
        obtain ⟨d, ⟨t, ht, hd⟩, h⟩ := h
        refine run (Builtin.len_ argTypes type #[x']) ?_ (by simp only [builtin, hx1])
        split at h
        · rename_i s hk
          exact Runs.val hb hh h (.int _ _) (by simp [Builtin.len_, ht, und_str (P := P) hD hd hk, str_inv hx2, goInt])
        · rename_i el a k c hk
          refine Runs.val hb hh h (.int _ _) ?_
          cases hx2 <;> simp [Builtin.len_, ht, und_slice (P := P) hD hd hk, goInt]
        · rename_i k el hk
          exact Runs.val hb hh h (.int _ _) (by simp [Builtin.len_, ht, und_arr (P := P) hD hd hk, goInt])
        · rename_i kk el hk
          cases hx2
          exact Runs.val hb hh h (.int _ _) (by simp [Builtin.len_, ht, und_map (P := P) hD hd hk, goInt])
        · rename_i kk el id hk
          split at h
          · rename_i es ho
            cases hx2 with
            | map hr =>
              obtain ⟨r, κ, h1, es', clock, h2, h3, _⟩ := hh.obj _ _ ho
              rw [hr] at h1; cases h1
              refine Runs.val hb hh h (.int _ _) ?_
              simp [Builtin.len_, ht, und_map (P := P) hD hd hk, goInt, getObj, Sem.run, h2, h3]
          · cases h
        · cases h
      · rename_i xs x hx
        obtain ⟨x', hx1, hx2⟩ := one hx
        simp only [Option.bind_eq_some_iff] at h
        obtain ⟨d, ⟨t, ht, hd⟩, h⟩ := h
        refine run (Builtin.cap_ argTypes type #[x']) ?_ (by simp only [builtin, hx1])
        split at h
        · rename_i el blk off k c hk
          refine Runs.val hb hh h (.int _ _) ?_
          cases hx2; simp [Builtin.cap_, ht, und_slice (P := P) hD hd hk, goInt]
        · rename_i el k c hk
          refine Runs.val hb hh h (.int _ _) ?_
          cases hx2; simp [Builtin.cap_, ht, und_slice (P := P) hD hd hk, goInt]
        · cases h
      · rename_i xs k a k2 b2 hx
        obtain ⟨x', y', hx1, hx2, hx3⟩ := two hx
        rw [int_inv hx2, int_inv hx3] at hx1
        refine run (Builtin.min_ argTypes type #[.int k a, .int k2 b2]) ?_ (by simp only [builtin, hx1])
        exact Runs.val hb hh h (.int _ _) (by simp [Builtin.min_, Builtin.min2])
      · rename_i xs k a k2 b2 hx
        obtain ⟨x', y', hx1, hx2, hx3⟩ := two hx
        rw [int_inv hx2, int_inv hx3] at hx1
        refine run (Builtin.max_ argTypes type #[.int k a, .int k2 b2]) ?_ (by simp only [builtin, hx1])
        exact Runs.val hb hh h (.int _ _) (by simp [Builtin.max_, Builtin.max2])
      · rename_i xs s x hx
        obtain ⟨x', y', hx1, hx2, hx3⟩ := two hx
        exact run _ (ok_append (ty := type) hD hb hh h hx2 hx3) (by simp only [builtin, hx1])
      · rename_i xs s x hx
        obtain ⟨x', y', hx1, hx2, hx3⟩ := two hx
        exact run _ (ok_copy (ty := type) hD hb hh h hx2 hx3) (by simp only [builtin, hx1])
      · cases h
  | _ => simp [iop] at h
end
end Go.Proofs.Ytdnnojblneccdaa
