/-
  A function, from its body.
-/
import Derived.Test.YtdnnojblneccdaaE18
namespace Go.Proofs.Ytdnnojblneccdaa
set_option linter.unusedSimpArgs false
set_option linter.unusedVariables false
open Go

/-- other numbers in a value -/
def ren1 (g : Nat → Nat) : Value → Value
  | .pointer (some a) => .pointer (some { a with block := g a.block })
  | .slice (some a) l c => .slice (some { a with block := g a.block }) l c
  | .map (some r) => .map (some (g r))
  | v => v
def ren2 (g : Nat → Nat) : Value → Value
  | .agg cs => .agg (cs.map (ren1 g))
  | v => ren1 g v
def ren (g : Nat → Nat) : Value → Value
  | .tuple vs => .tuple (vs.map (ren2 g))
  | v => ren2 g v
/-- numbers of a value -/
def okN1 (p : Nat → Prop) : Value → Prop
  | .pointer (some a) => p a.block
  | .slice (some a) _ _ => p a.block
  | .map (some r) => p r
  | .agg _ | .iface _ _ => False
  | .tuple vs => vs = #[]
  | .func _ a b => a = #[] ∧ b = #[]
  | _ => True
def okN2 (p : Nat → Prop) : Value → Prop
  | .agg cs => ∀ x ∈ cs.toList, okN1 p x
  | v => okN1 p v
def okN (p : Nat → Prop) : Value → Prop
  | .tuple vs => ∀ x ∈ vs.toList, okN2 p x
  | v => okN2 p v

section
variable {ρ ρ' : Ren} {g : Nat → Nat} {p : Nat → Prop} (hp : ∀ id x, p id → ρ' (g id) = some x → ρ id = some x)
include hp

theorem VR.ren1 {v v' : Value} (h : VR ρ' (ren1 g v) v') (ho : okN1 p v) : VR ρ v v' := by
  cases v with
  | pointer a =>
    cases a with
    | none => cases h; exact .nilPtr
    | some a =>
      obtain ⟨b, off, sp⟩ := a
      simp only [Ytdnnojblneccdaa.ren1, okN1] at h ho
      cases h with | ptr _ hr => exact .ptr _ (hp _ _ ho hr)
  | slice a l c =>
    cases a with
    | none => cases h; exact .nilSlice
    | some a =>
      obtain ⟨b, off, sp⟩ := a
      simp only [Ytdnnojblneccdaa.ren1, okN1] at h ho
      cases h with
      | slice _ _ _ hr => exact .slice _ _ _ (hp _ _ ho hr)
      | oslice hr h1 h2 h3 => exact .oslice (hp _ _ ho hr) h1 h2 h3
  | map r =>
    cases r with
    | none => cases h; exact .nilMap
    | some r =>
      simp only [Ytdnnojblneccdaa.ren1, okN1] at h ho
      cases h with | map hr => exact .map (hp _ _ ho hr)
  | agg => exact ho.elim
  | iface => exact ho.elim
  | tuple vs => simp only [okN1] at ho; subst ho; exact .unk _
  | func fn a b =>
    simp only [okN1] at ho
    obtain ⟨rfl, rfl⟩ := ho
    cases h with | func _ h1 h2 h3 h4 => exact .func fn h1 (by simp) h3 (by simp)
  | bool b => cases h; exact .bool _
  | int k n => cases h; exact .int _ _
  | float => cases h
  | complex => cases h
  | string s => cases h; exact .str _
  | chan => cases h; exact .skip
  | nilFunc => cases h; exact .nilFunc
  | nilIface => cases h; exact .nilIface
theorem VR.ren2 {v v' : Value} (h : VR ρ' (ren2 g v) v') (ho : okN2 p v) : VR ρ v v' := by
  cases v with
  | agg cs =>
    simp only [Ytdnnojblneccdaa.ren2, okN2] at h ho
    cases h with
    | agg hs hr =>
      refine .agg (by simpa using hs) fun i x y hx hy => ?_
      exact VR.ren1 hp (hr i (Ytdnnojblneccdaa.ren1 g x) y (by simp [hx]) hy) (ho x (by simpa using Array.mem_of_getElem? hx))
  | _ => exact VR.ren1 hp h ho
theorem VR.ren {v v' : Value} (h : VR ρ' (ren g v) v') (ho : okN p v) : VR ρ v v' := by
  cases v with
  | tuple vs =>
    simp only [Ytdnnojblneccdaa.ren, okN] at h ho
    by_cases he : vs = #[]
    · subst he; exact .unk _
    · generalize hw : vs.map (Ytdnnojblneccdaa.ren2 g) = ws at h
      cases h with
      | unk => exact absurd (by simpa using hw) he
      | tuple hs hr =>
        subst hw
        refine .tuple (by simpa using hs) fun i x y hx hy => ?_
        exact VR.ren2 hp (hr i (Ytdnnojblneccdaa.ren2 g x) y (by simp [hx]) hy) (ho x (by simpa using Array.mem_of_getElem? hx))
  | _ => exact VR.ren2 hp h ho
end

def renO (g : Nat → Nat) : IObj → IObj
  | .cells c ro => .cells (c.map (ren1 g)) ro
  | .map es => .map (es.map fun e => (ren2 g e.1, ren2 g e.2))
def okO (p : Nat → Prop) : IObj → Prop
  | .cells c _ => ∀ x ∈ c, okN1 p x
  | .map es => ∀ e ∈ es, okN2 p e.1 ∧ okN2 p e.2
theorem OR.ren {ρ ρ' : Ren} {g : Nat → Nat} {p : Nat → Prop} (hp : ∀ id x, p id → ρ' (g id) = some x → ρ id = some x) {κ : Nat} {o : IObj} {x : Option Obj} (h : OR ρ' κ (renO g o) x) (ho : okO p o) : OR ρ κ o x := by
  cases o with
  | cells c ro =>
    obtain ⟨c', T, fz, h1, h2, h3, h4, h5⟩ := h
    refine ⟨c', T, fz, h1, h2, by simpa using h3, h4, fun i v hv => ?_⟩
    obtain ⟨v', e1, e2⟩ := h5 i (ren1 g v) (by simp [hv])
    exact ⟨v', e1, VR.ren1 hp e2 (ho v (List.mem_of_getElem? hv))⟩
  | map es =>
    obtain ⟨es', clock, h1, h2, h3, h3', h4⟩ := h
    refine ⟨es', clock, h1, by simpa using h2, h3, h3', fun i v hv => ?_⟩
    obtain ⟨v', e1, e2, e3⟩ := h4 i (ren2 g v.1, ren2 g v.2) (by simp [hv])
    obtain ⟨o1, o2⟩ := ho v (List.mem_of_getElem? hv)
    exact ⟨v', e1, VR.ren2 hp e2 o1, VR.ren2 hp e3 o2⟩

/-- what the body came to is the effect, under other numbers -/
structure Exp (e : Eff) (n : Nat) (H : IHeap) (v : Value) (H' : IHeap) (g : Nat → Nat) : Prop where
  old : ∀ id, id < n → g id = id
  val : ren g e.v = v
  okv : okN (fun id => id < n ∨ id ∈ e.ids) e.v
  obj : ∀ id ∈ e.ids, ∀ o, upds (fun _ => none) e.up id = some o → H' (g id) = some (renO g o) ∧ okO (fun id => id < n ∨ id ∈ e.ids) o
  new : ∀ id ∈ e.ids, n ≤ id → n ≤ g id
  inj : ∀ i ∈ e.ids, ∀ j ∈ e.ids, g i = g j → i = j
  ids : ∀ id ∈ e.ids, (n ≤ id ∨ (H id).isSome) ∧ id < e.n
  le : n ≤ e.n

def RetP (D : Ty) (rs : List ResultVar) (n : Nat) (H : IHeap) (e : Eff) : PostX := fun ex t' H' _ =>
  (ex = .normal ∨ ex = .ret) ∧ wpo (ires D t' H' rs) fun v => ∃ g, Exp e n H v H' g

section
variable {P : Program} {D : Ty}

def resSem (a : Act) (r : ResultVar) : Sem Value :=
  match r with
  | .tmp u => pure (a.tmps.getD u undef)
  | .cell u ty => do loadVar ty (← asAddr (a.tmps.getD u undef))

theorem ires1_ok (hD : DOk P D) {ρ : Ren} {w : World} {t : List Value} {H : IHeap} {a : Act} (ht : TR ρ t a) (hh : HR ρ H w) {r : ResultVar} {v : Value} (h : ires1 D t H r = some v) :
    ∃ v', (resSem a r).run P w = .ok v' w ∧ VR ρ v v' := by
  have hget : ∀ u, VR ρ (t.getD u (.tuple #[])) (a.tmps.getD u undef) := fun u => ht.ev (.tmp u)
  cases r with
  | tmp u => cases h; exact ⟨_, rfl, hget u⟩
  | cell u ty =>
    simp only [ires1] at h
    have hu := hget u
    split at h
    · rename_i id off he
      rw [he] at hu
      simp only [Option.bind_eq_some_iff] at h
      obtain ⟨d, hd, h⟩ := h
      split at h
      · rename_i c ro ho
        generalize hx : a.tmps.getD u undef = x at hu
        obtain ⟨r, κ, h1, rfl⟩ := ptr_inv hu
        obtain ⟨v', e1, e2⟩ := run_rdVar (P := P) hD hh ho hd h hu
        exact ⟨v', by simp only [resSem, hx]; simp [asAddr, e1], e2⟩
      · cases h
    · cases h

theorem ires_ok (hD : DOk P D) {ρ : Ren} {w : World} {t : List Value} {H : IHeap} {a : Act} (ht : TR ρ t a) (hh : HR ρ H w) {fn : Func} {v : Value} (h : ires D t H fn.results.toList = some v) :
    ∃ v', (results fn a.tmps).run P w = .ok v' w ∧ VR ρ v v' := by
  have hm : ∀ (rs : List ResultVar) (vs : List Value), rs.mapM (ires1 D t H) = some vs →
      ∃ vs' : List Value, (rs.mapM (resSem a)).run P w = .ok vs' w ∧ vs.length = vs'.length ∧
        ∀ (i : Nat) x y, vs[i]? = some x → vs'[i]? = some y → VR ρ x y := by
    intro rs
    induction rs with
    | nil => intro vs h; simp at h; subst h; exact ⟨[], by simp, rfl, fun i x y h => by simp at h⟩
    | cons r rs ih =>
      intro vs h
      rw [List.mapM_cons] at h
      simp only [bind, Option.bind_eq_some_iff, pure, Option.some.injEq] at h
      obtain ⟨v, hv, vs2, hvs, rfl⟩ := h
      obtain ⟨v', e1, e2⟩ := ires1_ok (P := P) hD ht hh hv
      obtain ⟨vs', f1, f2, f3⟩ := ih vs2 hvs
      refine ⟨v' :: vs', by rw [List.mapM_cons]; simp only [Sem.run_bind, e1, Result.andThen_ok, f1, Sem.run_pure], by simp [f2], fun i x y hx hy => ?_⟩
      cases i with
      | zero => simp at hx hy; subst hx; subst hy; exact e2
      | succ i => exact f3 i x y (by simpa using hx) (by simpa using hy)
  have hgen : ∀ (vs : List Value), fn.results.toList.mapM (ires1 D t H) = some vs → ∃ vs' : Array Value, (results fn a.tmps).run P w = .ok (if h : vs'.size = 1 then vs'[0] else .tuple vs') w ∧ vs.length = vs'.size ∧
      ∀ (i : Nat) x y, vs[i]? = some x → vs'[i]? = some y → VR ρ x y := by
    intro vs hvs
    obtain ⟨vs', f1, f2, f3⟩ := hm _ vs hvs
    refine ⟨vs'.toArray, ?_, by simpa using f2, fun i x y hx hy => f3 i x y hx (by simpa using hy)⟩
    have : (fn.results.mapM (resSem a)).run P w = .ok vs'.toArray w := by
      rw [Array.mapM_eq_mapM_toList, Sem.run_map, f1]; rfl
    have he : results fn a.tmps = (do let vs ← fn.results.mapM (resSem a); pure (if h : vs.size = 1 then vs[0] else .tuple vs)) := by
      unfold results
      refine congrArg (fun f => (do let vs ← fn.results.mapM f; pure (if h : vs.size = 1 then vs[0] else .tuple vs) : Sem Value)) ?_
      funext r
      cases r <;> rfl
    rw [he]
    simp only [Sem.run_bind, this, Result.andThen_ok, Sem.run_pure]
  unfold ires at h
  split at h
  · rename_i r hr
    obtain ⟨vs', f1, f2, f3⟩ := hgen [v] (by rw [hr]; simp [h])
    have hs : vs'.size = 1 := f2.symm
    rw [dif_pos hs] at f1
    exact ⟨vs'[0], f1, f3 0 v vs'[0] rfl (by simp [hs])⟩
  · rename_i hne
    simp only [Option.map_eq_some_iff] at h
    obtain ⟨vs, hvs, rfl⟩ := h
    obtain ⟨vs', f1, f2, f3⟩ := hgen vs hvs
    have hs : vs'.size ≠ 1 := by
      intro hs
      have hl : vs.length = 1 := by omega
      have hrl : fn.results.toList.length = vs.length := by
        have : ∀ (rs : List ResultVar) (vs : List Value), rs.mapM (ires1 D t H) = some vs → rs.length = vs.length := by
          intro rs
          induction rs with
          | nil => intro vs h; simp at h; subst h; rfl
          | cons r rs ih =>
            intro vs h
            rw [List.mapM_cons] at h
            simp only [bind, Option.bind_eq_some_iff, pure, Option.some.injEq] at h
            obtain ⟨v, hv, vs2, hvs, rfl⟩ := h
            simp [ih vs2 hvs]
        exact this _ _ hvs
      rw [hl] at hrl
      obtain ⟨r, hr⟩ := List.length_eq_one_iff.1 hrl
      exact hne r hr
    rw [dif_neg hs] at f1
    exact ⟨.tuple vs', f1, .tuple (by simpa using f2) fun i x y hx hy => f3 i x y (by simpa using hx) hy⟩

theorem Ref.of_body (hD : DOk P D) {k : FuncId} {fn : Func} {c : Code} {F : FnI} (hf : P.funcs[k]? = some fn) (hb : fn.body = some c) (hname : (fn.name == "runtime.NumGoroutine") = false)
    (h : ∀ args H n e, F args H n = some e → IWp P (fun id => n ≤ id ∨ id ∈ e.ids) none c (RetP D fn.results.toList n H e) (args ++ List.replicate (fn.ntmps - args.length) (.tuple #[])) H n) : Ref P k F := by
  intro args H n e hF ρ w args' hbel hh hargs
  have hcf : (callFunc k args').run P w = .ok (.enter k args') w := by
    unfold callFunc
    simp only [Sem.run_bind, program]
    have hn : ¬ fn.name = "runtime.NumGoroutine" := by simpa using hname
    simp [Sem.run, hf, hn, hb]
  unfold CallW
  rw [hcf]
  refine calls_of_wp hf hb ?_
  have hs : St (fun id => n ≤ id ∨ id ∈ e.ids) ρ w n (args ++ List.replicate (fn.ntmps - args.length) (.tuple #[])) H n ρ { tmps := args' ++ Array.replicate (fn.ntmps - args'.size) undef, defers := [] } w := by
    refine St.refl ⟨by simp [hargs.1], fun i x hx => ?_, rfl⟩ hbel hh
    by_cases hi : i < args.length
    · rw [List.getElem?_append_left hi] at hx
      obtain ⟨y, e1, e2⟩ := hargs.2 i x hx
      exact ⟨y, by rw [Array.getElem?_append_left (by rw [hargs.1]; exact hi)]; exact e1, e2⟩
    · rw [List.getElem?_append_right (by omega)] at hx
      have := (List.getElem?_eq_some_iff.1 hx)
      obtain ⟨h1, h2⟩ := this
      simp only [List.length_replicate] at h1
      simp only [List.getElem_replicate] at h2
      subst h2
      exact ⟨undef, by rw [Array.getElem?_append_right (by rw [hargs.1]; omega), hargs.1]; simp [h1], .unk _⟩
  refine (wpIn_wide (n := 0)).1 (wpIn_mono (F := FW none) (h args H n e hF ρ w n ρ _ w hs) ?_)
  rintro ex a' w' ⟨ρ', t', H', n', hst, hex, hres⟩
  -- the results
  have main : ∃ v, (results fn a'.tmps).run P w' = .ok v w' ∧ ∃ ρ'', Post ρ H n e v ρ'' w w' := by
    cases hr : ires D t' H' fn.results.toList with
    | none => rw [hr] at hres; exact hres.elim
    | some v =>
      rw [hr] at hres
      obtain ⟨g, E⟩ := hres
      obtain ⟨v', hrun, hv'⟩ := ires_ok (P := P) hD hst.tr hst.heap hr
      refine ⟨v', hrun, ?_⟩
      let ρ'' : Ren := fun id => if id < n then ρ id else if id ∈ e.ids then ρ' (g id) else none
      have hp : ∀ id x, (id < n ∨ id ∈ e.ids) → ρ' (g id) = some x → ρ'' id = some x := by
        intro id x hid hx
        simp only [ρ'']
        by_cases hlt : id < n
        · rw [if_pos hlt]
          rw [E.old id hlt] at hx
          rcases hst.fresh id x hx with h1 | h1
          · exact h1
          · omega
        · rw [if_neg hlt, if_pos (hid.resolve_left hlt)]; exact hx
      have hle : ρ.le ρ'' := by
        intro id x hx
        simp only [ρ'']; rw [if_pos (hbel.lt hx)]; exact hx
      have hρ'lt : ∀ id x, id < n → ρ' id = some x → ρ id = some x := by
        intro id x hlt hx
        rcases hst.fresh id x hx with h1 | h1
        · exact h1
        · omega
      refine ⟨ρ'', ?_, ⟨hle, ?_, hst.step.size, ?_, hst.step.os, hst.step.tape, hst.step.output⟩, ?_, ⟨?_, ?_⟩, E.ids, E.le, ?_⟩
      · intro id hid
        simp only [ρ'']
        rw [if_neg (by have := E.le; omega), if_neg fun hm => by have := (E.ids id hm).2; omega]
      · intro id r κ h1 h2
        simp only [ρ''] at h2
        split at h2
        · rw [h1] at h2; cases h2
        · rename_i hlt
          split at h2
          · rename_i hm
            have hg := E.new id hm (by omega)
            have h0 : ρ (g id) = none := hbel _ hg
            rcases hst.step.new (g id) r κ h0 h2 with h3 | ⟨i, κ', h3, h4⟩
            · exact .inl h3
            · have := hbel.lt h3
              exact .inr ⟨i, κ', h3, h4.resolve_left (by omega)⟩
          · cases h2
      · intro r hr2 hn2
        refine hst.step.keep r hr2 fun id κ h3 h4 => ?_
        have := hbel.lt h3
        exact hn2 id κ h3 (h4.resolve_left (by omega))
      · exact VR.ren hp (E.val ▸ hv') E.okv
      · intro id o ho
        by_cases hm : id ∈ e.ids
        · rw [upds_mem (K := fun _ => none) hm] at ho
          obtain ⟨h1, h2⟩ := E.obj id hm o ho
          obtain ⟨r, κ, h3, h4⟩ := hst.heap.obj _ _ h1
          exact ⟨r, κ, hp id _ (.inr hm) h3, h4.ren hp h2⟩
        · rw [upds_not_mem hm] at ho
          obtain ⟨r, κ, h3, h4⟩ := hh.obj id o ho
          refine ⟨r, κ, hle _ _ h3, ?_⟩
          have hkeep : w'.heap[r]? = w.heap[r]? := by
            refine hst.step.keep r h4.lt fun j κ' h5 h6 => ?_
            have hjn := hbel.lt h5
            have hje := h6.resolve_left (by omega)
            obtain ⟨o2, ho2⟩ := Option.isSome_iff_exists.1 ((E.ids j hje).1.resolve_left (by omega))
            have := hh.inj id j o o2 r κ κ' ho ho2 h3 h5
            exact hm (this ▸ hje)
          rw [hkeep]; exact h4.mono hle
      · -- two numbers of one block are one
        have pick : ∀ {id o r κ}, upds H e.up id = some o → ρ'' id = some (r, κ) →
            (id ∈ e.ids ∧ ρ' (g id) = some (r, κ) ∧ ∃ o', H' (g id) = some o') ∨ (id ∉ e.ids ∧ id < n ∧ ρ id = some (r, κ) ∧ ρ' id = some (r, κ) ∧ H id = some o ∧ r < w.heap.size) := by
          intro id o r κ ho hr2
          by_cases hm : id ∈ e.ids
          · rw [upds_mem (K := fun _ => none) hm] at ho
            obtain ⟨h1, h2⟩ := E.obj id hm o ho
            obtain ⟨r2, κ2, h3, h4⟩ := hst.heap.obj _ _ h1
            have := hp id _ (.inr hm) h3
            rw [hr2] at this; cases this
            exact .inl ⟨hm, h3, _, h1⟩
          · rw [upds_not_mem hm] at ho
            obtain ⟨r2, κ2, h3, h4⟩ := hh.obj id o ho
            have := hle _ _ h3
            rw [hr2] at this; cases this
            exact .inr ⟨hm, hbel.lt h3, h3, hst.step.le _ _ h3, ho, h4.lt⟩
        have mixed : ∀ {x y p r κ κ'}, x ∈ e.ids → ρ' (g x) = some (r, κ) → (∃ o', H' (g x) = some o') → y ∉ e.ids → ρ y = some (r, κ') → H y = some p → r < w.heap.size → False := by
          intro x y p r κ κ' hx hrx _ hy hry hpy hrl
          by_cases hxn : x < n
          · rw [E.old x hxn] at hrx
            have h1 := hρ'lt x _ hxn hrx
            obtain ⟨o2, ho2⟩ := Option.isSome_iff_exists.1 ((E.ids x hx).1.resolve_left (by omega))
            have := hh.inj x y o2 p r κ κ' ho2 hpy h1 hry
            exact hy (this ▸ hx)
          · have hg := E.new x hx (by omega)
            rcases hst.step.new (g x) r κ (hbel _ hg) hrx with h3 | ⟨i, κ2, h3, h4⟩
            · omega
            · have hin := hbel.lt h3
              have hie := h4.resolve_left (by omega)
              obtain ⟨o2, ho2⟩ := Option.isSome_iff_exists.1 ((E.ids i hie).1.resolve_left (by omega))
              have := hh.inj i y o2 p r κ2 κ' ho2 hpy h3 hry
              exact hy (this ▸ hie)
        intro x y o p r κ κ' hx hy hrx hry
        rcases pick hx hrx with ⟨a1, a2, a3⟩ | ⟨a1, a2, a3, a4, a5, a6⟩
        · rcases pick hy hry with ⟨b1, b2, b3⟩ | ⟨b1, b2, b3, b4, b5, b6⟩
          · obtain ⟨o1, ho1⟩ := a3
            obtain ⟨o2, ho2⟩ := b3
            exact E.inj x a1 y b1 (hst.heap.inj _ _ _ _ r κ κ' ho1 ho2 a2 b2)
          · exact (mixed a1 a2 a3 b1 b3 b5 b6).elim
        · rcases pick hy hry with ⟨b1, b2, b3⟩ | ⟨b1, b2, b3, b4, b5, b6⟩
          · exact (mixed b1 b2 b3 a1 a3 a5 a6).elim
          · exact hh.inj x y o p r κ κ' a5 b5 a3 b3
      · intro id x hx
        simp only [ρ''] at hx
        split at hx
        · exact .inl hx
        · exact .inr (by omega)
  obtain ⟨v, h1, ρ'', h2⟩ := main
  rcases hex with rfl | rfl
  · exact ⟨hst.tr.defers, v, h1, ρ'', h2⟩
  · exact ⟨hst.tr.defers, v, h1, ρ'', h2⟩
end
end Go.Proofs.Ytdnnojblneccdaa
