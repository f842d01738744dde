/-
  Regions in the order of the text; calls by what is known of the callees.
-/
import Derived.Test.YtdnnojblneccdaaE11
import Derived.OrdersIn
namespace Go.Proofs.Ytdnnojblneccdaa
set_option linter.unusedSimpArgs false
set_option linter.unusedVariables false
open Go

/-- what a call comes to: its arguments, the memory, the next free number -/
abbrev FnI := List Value → IHeap → Nat → Option Eff

/-- a call of a function: by its body, or by the model's own row -/
def CallW (P : Program) (f : FuncId) (args : Array Value) (w : World) (R : Value → World → Prop) : Prop :=
  match (callFunc f args).run P w with
  | .ok (.enter g as) w1 => Calls P g as w1 fun
      | .returned v, w' => R v w'
      | _, _ => False
  | .ok (.value v) w1 => R v w1
  | _ => False

theorem CallW.mono {P : Program} {f : FuncId} {args : Array Value} {w : World} {R R' : Value → World → Prop} (h : CallW P f args w R) (hr : ∀ v w', R v w' → R' v w') : CallW P f args w R' := by
  unfold CallW at *
  split
  · rename_i e
    simp only [e] at h
    exact h.mono fun en w' he => by
      cases en with
      | returned v => exact hr _ _ he
      | panicked c => exact he
      | outgrown => exact he
  · rename_i e
    simp only [e] at h
    exact hr _ _ h
  · rename_i h1 h2
    split at h
    · rename_i e; exact (h1 _ _ _ e).elim
    · rename_i e; exact (h2 _ _ e).elim
    · exact h

def ArgsR (ρ : Ren) (args : List Value) (args' : Array Value) : Prop := args'.size = args.length ∧ ∀ (i : Nat) x, args[i]? = some x → ∃ y, args'[i]? = some y ∧ VR ρ x y

/-- the function does what F says -/
def Ref (P : Program) (f : FuncId) (F : FnI) : Prop :=
  ∀ args H n e, F args H n = some e → ∀ ρ w args', Below n ρ → HR ρ H w → ArgsR ρ args args' → CallW P f args' w fun v' w' => ∃ ρ', Post ρ H n e v' ρ' w w'

/-- no bounds; in the round of such a loop over a function, or in none -/
def FW (R : Option Nat) : Fence := { Fence.wide with round := R }
theorem FW_about {R : Option Nat} {o : Option FuncId} : ∀ f, o = some f → (FW R).fn f := fun _ _ => trivial
theorem FW_calls {R : Option Nat} {n : Nat} {P : Program} {f : FuncId} {args : Array Value} {w : World} {Q : Ending → World → Prop} (h : Calls P f args w Q) : CallsIn (FW R) n P f args w Q := callsIn_wide.2 h

abbrev Fns := List (Nat × FnI)
def FnsOk (P : Program) (Γ : Fns) : Prop := ∀ f F, Γ.lookup f = some F → Ref P f F

/-- an operand's value -/
def ev (t : List Value) : Operand → Value
  | .tmp u => t.getD u (.tuple #[])
  | .const v => if clo v then v else .tuple #[]
  | .global _ => .tuple #[]
  | .func f => .func (.func f) #[] #[]

structure TR (ρ : Ren) (t : List Value) (a : Act) : Prop where
  size : a.tmps.size = t.length
  val : ∀ (i : Nat) x, t[i]? = some x → ∃ y, a.tmps[i]? = some y ∧ VR ρ x y
  defers : a.defers = []

theorem TR.mono {ρ ρ' : Ren} {t : List Value} {a : Act} (h : TR ρ t a) (hr : ρ.le ρ') : TR ρ' t a :=
  ⟨h.size, fun i x e => let ⟨y, a, b⟩ := h.val i x e; ⟨y, a, b.mono hr⟩, h.defers⟩

theorem TR.ev {ρ : Ren} {t : List Value} {a : Act} (h : TR ρ t a) (x : Operand) : VR ρ (ev t x) (a.eval x) := by
  cases x with
  | tmp u =>
    simp only [Ytdnnojblneccdaa.ev, Act.eval, List.getD_eq_getElem?_getD, Array.getD_eq_getD_getElem?]
    cases ht : t[u]? with
    | none => exact .unk _
    | some v =>
      obtain ⟨y, e, r⟩ := h.val u v ht
      rw [e]; exact r
  | const v =>
    simp only [Ytdnnojblneccdaa.ev, Act.eval]
    split
    · exact VR.clo ρ (by assumption)
    · exact .unk _
  | global g => exact .unk _
  | func f => exact .func _ rfl (by simp) rfl (by simp)

def tput (t : List Value) (d : Option Tmp) (v : Value) : List Value :=
  match d with
  | some d => t.set d v
  | none => t

theorem TR.put {ρ : Ren} {t : List Value} {a : Act} (h : TR ρ t a) (d : Option Tmp) {v v' : Value} (hv : VR ρ v v') : TR ρ (tput t d v) (a.put d v') := by
  cases d with
  | none => exact h
  | some d =>
    refine ⟨by simp [Act.put, tput, h.size], fun i x hx => ?_, h.defers⟩
    simp only [tput, List.getElem?_set] at hx
    simp only [Act.put, Array.getElem?_setIfInBounds]
    split at hx
    · rename_i hd
      rw [if_pos hd]
      split at hx
      · rename_i hl; cases hx; rw [if_pos (by rw [h.size]; exact hl)]; exact ⟨v', rfl, hv⟩
      · cases hx
    · rename_i hd
      rw [if_neg hd]
      exact h.val i x hx

/-- an operation, calls among them -/
def iopC (Γ : Fns) (D : Ty) (K : Kinds) (e : Operand → Value) (H : IHeap) (n : Nat) (op : Op) : Option Eff :=
  match op with
  | .call c => match c.callee with
    | .value f => match e f with
      | .func (.func g) first captured => (Γ.lookup g).bind fun F => F (first.toList ++ c.args.toList.map e ++ captured.toList) H n
      | _ => none
    | _ => iop D K e H n (.call c)
  | op => iop D K e H n op

structure Env (P : Program) (Γ : Fns) (D : Ty) (K : Kinds) : Prop where
  dok : DOk P D
  kok : KOk P K
  fld : ∀ t, fieldsKnown D t = true
  fns : FnsOk P Γ

section
variable {P : Program} {Γ : Fns} {D : Ty} {K : Kinds} {ρ : Ren} {H : IHeap} {w : World} {n : Nat} {t : List Value} {a : Act} {R : Option Nat}

theorem iopC_wp (hE : Env P Γ D K) (hb : Below n ρ) (hh : HR ρ H w) {o : Oper} {e : Operand → Value} {ef : Eff} (h : iopC Γ D K e H n o.op = some ef) (ht : ∀ x ∈ o.op.operands, VR ρ (e x) (a.eval x))
    {next : Act → World → Prop} {Q : Exit → Act → World → Prop} (hk : ∀ v' w' ρ', Post ρ H n ef v' ρ' w w' → next (a.put o.dst v') w') : o.wpIn (FW R) 0 P a w next Q := by
  have plain : iop D K e H n o.op = some ef → o.wpIn (FW R) 0 P a w next Q := by
    intro h
    obtain ⟨nx, v', w', ρ', h1, h2, h3⟩ := iop_ok hE.dok hE.kok hE.fld hb hh h ht
    have hsem : o.semAt (FW R).round a.eval = execOp a.eval o := Oper.semAt_eq _ _ _ fun c hc => by rw [hc] at h; cases h
    refine ⟨FW_about, ?_⟩
    rw [hsem, h1]
    rcases h2 with rfl | ⟨rfl, rfl⟩
    · exact hk _ _ _ h3
    · exact hk _ _ _ h3
  unfold iopC at h
  split at h
  · rename_i c hop
    split at h
    · rename_i f hcal
      split at h
      · rename_i g first captured hf
        simp only [Option.bind_eq_some_iff] at h
        obtain ⟨F, hF, h⟩ := h
        obtain ⟨dst, op, type, pos, after, guard⟩ := o
        simp only at hop; subst hop
        obtain ⟨callee, args, argTypes⟩ := c
        simp only at hcal; subst hcal
        have hfv := ht f (by simp [Op.operands, Call.operands])
        rw [hf] at hfv
        generalize hff : a.eval f = ff at hfv
        cases hfv with
        | func _ h1 h2 h3 h4 =>
          rename_i b d
          have hargs : ArgsR ρ (first.toList ++ args.toList.map e ++ captured.toList) (b ++ args.map a.eval ++ d) := by
            refine ⟨by simp [h1, h3], fun i x hx => ?_⟩
            have hlen : (first.toList ++ args.toList.map e).length = (b ++ args.map a.eval).size := by simp [h1]
            by_cases hi : i < (first.toList ++ args.toList.map e).length
            · rw [List.getElem?_append_left hi] at hx
              rw [Array.getElem?_append_left (by omega)]
              by_cases hi2 : i < first.toList.length
              · rw [List.getElem?_append_left hi2] at hx
                have hlb : i < b.size := by simp at hi2; omega
                rw [Array.getElem?_append_left hlb]
                exact ⟨b[i], by simp, h2 i x _ (by simpa using hx) (by simp)⟩
              · rw [List.getElem?_append_right (by omega)] at hx
                rw [Array.getElem?_append_right (by simp at hi2; omega)]
                simp only [List.getElem?_map, Option.map_eq_some_iff, Array.getElem?_toList] at hx
                obtain ⟨y, hy, rfl⟩ := hx
                simp only [Array.length_toList, h1] at hy
                refine ⟨a.eval y, by simp [hy], ht y ?_⟩
                have := Array.mem_of_getElem? hy
                simp [Op.operands, Call.operands, this]
            · rw [List.getElem?_append_right (by omega)] at hx
              rw [Array.getElem?_append_right (by omega)]
              rw [hlen] at hx
              have hlt : i - (b ++ args.map a.eval).size < d.size := by
                have : i - (b ++ args.map a.eval).size < captured.toList.length := (List.getElem?_eq_some_iff.1 hx).1
                simp at this ⊢; omega
              exact ⟨d[i - (b ++ args.map a.eval).size], by simp, h4 _ x _ (by simpa using hx) (by simp)⟩
          have hcall := hE.fns g F hF _ H n ef h ρ w _ hb hh hargs
          have hrun : (execOp a.eval ⟨dst, .call ⟨.value f, args, argTypes⟩, type, pos, after, guard⟩).run P w = (callFunc g (b ++ args.map a.eval ++ d)).run P w := by
            simp [execOp, resolve, hff, Deferred.ofValue, invoke]
          have hsem : Oper.semAt (FW R).round a.eval ⟨dst, .call ⟨.value f, args, argTypes⟩, type, pos, after, guard⟩ = execOp a.eval ⟨dst, .call ⟨.value f, args, argTypes⟩, type, pos, after, guard⟩ := Oper.semAt_eq _ _ _ fun c hc => by cases hc
          refine ⟨FW_about, ?_⟩
          rw [hsem, hrun]
          unfold CallW at hcall
          split at hcall
          · rename_i g' as w1 hr
            rw [hr]
            refine ⟨fun h => (by cases h), FW_calls (Calls.mono hcall fun en w' he => ?_)⟩
            cases en with
            | returned v => obtain ⟨ρ', hp⟩ := he; exact hk _ _ _ hp
            | panicked c => exact he.elim
            | outgrown => exact he.elim
          · rename_i v w1 hr
            rw [hr]
            obtain ⟨ρ', hp⟩ := hcall
            exact hk _ _ _ hp
          · exact hcall.elim
      · cases h
    · rename_i hn
      rw [hop] at plain
      exact plain h
  · exact plain h
end

/-- a guard's value: what is left out is not wanted, whichever way -/
def wantV (want : Bool) : Value → Option Bool
  | .bool b => some (b == want)
  | .chan none => some false
  | _ => none

theorem wantV_rel {ρ : Ren} {want b : Bool} {x y : Value} (h : wantV want x = some b) (hr : VR ρ x y) : ((match some y with | some (.bool b) => some b | _ => none : Option Bool) == some want) = b := by
  cases hr <;> simp only [wantV, Option.some.injEq] at h <;> first | (cases h; done) | (subst h; rename_i c; cases c <;> cases want <;> rfl) | (subst h; rfl)

/-- is the operation to be carried out? -/
def wantedI (ops : Array Oper) (t : List Value) (o : Oper) : Option Bool :=
  match o.guard with
  | none => some true
  | some (j, want) => match (ops[j]?).bind (·.dst) with
    | some d => (t[d]?).bind (wantV want)
    | none => none

def wpo {α : Type} (x : Option α) (Q : α → Prop) : Prop :=
  match x with
  | some a => Q a
  | none => False

/-- a state: variables, memory, the next free number -/
abbrev Post3 := List Value → IHeap → Nat → Prop

def vcS (Γ : Fns) (D : Ty) (K : Kinds) (W : Nat → Prop) (ops : Array Oper) (Q : Post3) : List Oper → Post3
  | [], t, H, n => Q t H n
  | o :: os, t, H, n => wpo (wantedI ops t o) fun b =>
      (b = true → wpo (iopC Γ D K (ev t) H n o.op) fun ef => (∀ p ∈ ef.up, W p.1) ∧ vcS Γ D K W ops Q os (tput t o.dst ef.v) (upds H ef.up) ef.n) ∧
      (b = false → vcS Γ D K W ops Q os (tput t o.dst (.chan none)) H n)

/-- the real state fits, and was come to from (ρ, w) by writing nothing but W -/
structure St (W : Nat → Prop) (ρ0 : Ren) (w0 : World) (n0 : Nat) (t : List Value) (H : IHeap) (n : Nat) (ρ : Ren) (a : Act) (w : World) : Prop where
  tr : TR ρ t a
  below : Below n ρ
  heap : HR ρ H w
  step : Step W ρ0 ρ w0 w
  le : n0 ≤ n
  fresh : ∀ id x, ρ id = some x → ρ0 id = some x ∨ n0 ≤ id

theorem St.refl {W : Nat → Prop} {ρ : Ren} {w : World} {n : Nat} {t : List Value} {H : IHeap} {a : Act} (h1 : TR ρ t a) (h2 : Below n ρ) (h3 : HR ρ H w) : St W ρ w n t H n ρ a w :=
  ⟨h1, h2, h3, Step.refl _ _ _, Nat.le_refl _, fun _ _ h => .inl h⟩

theorem vcS_ok {R : Option Nat} {P : Program} {Γ : Fns} {D : Ty} {K : Kinds} (hE : Env P Γ D K) {W : Nat → Prop} {ops : Array Oper} {Q : Post3} {ρ0 : Ren} {w0 : World} {n0 : Nat} {Q' : Exit → Act → World → Prop} :
    ∀ (is : List Nat) (os : List Oper) (t : List Value) (H : IHeap) (n : Nat) (ρ : Ren) (a : Act) (w : World), is.map (fun i => ops[i]?) = os.map some → vcS Γ D K W ops Q os t H n → St W ρ0 w0 n0 t H n ρ a w →
      (∀ ρ' t' H' n' a' w', St W ρ0 w0 n0 t' H' n' ρ' a' w' → Q t' H' n' → Q' .normal a' w') → wpOpsIn (FW R) 0 P ops Q' is a w
  | [], os, t, H, n, ρ, a, w, hi, hv, hs, hk => by
    cases os with
    | nil => exact hk ρ t H n a w hs hv
    | cons => simp at hi
  | i :: is, os, t, H, n, ρ, a, w, hi, hv, hs, hk => by
    cases os with
    | nil => simp at hi
    | cons o os =>
      simp only [List.map_cons, List.cons.injEq] at hi
      obtain ⟨hio, hi⟩ := hi
      simp only [wpOpsIn, hio]
      simp only [vcS] at hv
      cases hw : wantedI ops t o with
      | none => rw [hw] at hv; exact hv.elim
      | some b =>
        rw [hw] at hv
        have hwant : Region.wanted o (yielded ops a.tmps) = b := by
          unfold wantedI at hw
          unfold Region.wanted
          split at hw
          · rename_i hg; rw [hg]; cases hw; rfl
          · rename_i j want hg
            rw [hg]
            split at hw
            · rename_i d hd
              simp only [Option.bind_eq_some_iff] at hw
              obtain ⟨x, ht, hx⟩ := hw
              obtain ⟨y, e1, e2⟩ := hs.tr.val d _ ht
              have := wantV_rel hx e2
              simp only [yielded, hd, Option.bind_some, e1]
              exact this
            · cases hw
        rw [hwant]
        cases b with
        | true =>
          have hv1 := hv.1 rfl
          simp only [if_true]
          cases hop : iopC Γ D K (ev t) H n o.op with
          | none => rw [hop] at hv1; exact hv1.elim
          | some ef =>
            rw [hop] at hv1
            obtain ⟨hW, hv2⟩ := hv1
            refine iopC_wp hE hs.below hs.heap hop (fun x _ => hs.tr.ev x) fun v' w' ρ' hp => ?_
            refine vcS_ok hE is os _ _ _ ρ' _ w' hi hv2 ⟨(hs.tr.mono hp.step.le).put _ hp.val, hp.below, hp.heap, hs.step.trans (V := W) (hp.step.mono fun id hid => ?_) (fun _ _ _ h => h), Nat.le_trans hs.le hp.le, fun id x hx => (hp.fresh id x hx).elim (hs.fresh id x) (fun h => .inr (Nat.le_trans hs.le h))⟩ hk
            obtain ⟨p, hp1, hp2⟩ := List.mem_map.1 hid
            exact hp2 ▸ hW p hp1
        | false =>
          simp only [Bool.false_eq_true, if_false]
          exact ⟨FW_about, vcS_ok hE is os _ _ _ ρ _ w hi (hv.2 rfl) ⟨hs.tr.put _ .skip, hs.below, hs.heap, hs.step, hs.le, hs.fresh⟩ hk⟩
end Go.Proofs.Ytdnnojblneccdaa
