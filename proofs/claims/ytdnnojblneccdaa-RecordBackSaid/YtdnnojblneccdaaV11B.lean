import Derived.Test.YtdnnojblneccdaaV11A
import Derived.OrdersIn
import Derived.Deep.LoopGhost
import Derived.RangeFuncLeaves
import Derived.ChangeKeysEq
/-
  Regions in the order of the text; calls by what is known of the callees.
-/
namespace Go.Proofs.Ytdnnojblneccdaa
set_option linter.unusedSimpArgs false
set_option linter.unusedVariables false
open Go
/-- what a call comes to: its arguments, the memory, the next free number -/
abbrev FnI := List Value → IHeap → Nat → Option Eff
/-- a call of a function: by its body, or by the model's own row -/
def CallW (P : Program) (f : FuncId) (args : Array Value) (w : World) (R : Value → World → Prop) : Prop :=
  match (callFunc f args).run P w with
  | .ok (.enter g as) w1 => Calls P g as w1 fun
      | .returned v, w' => R v w'
      | _, _ => False
  | .ok (.value v) w1 => R v w1
  | _ => False
theorem CallW.mono {P : Program} {f : FuncId} {args : Array Value} {w : World} {R R' : Value → World → Prop} (h : CallW P f args w R) (hr : ∀ v w', R v w' → R' v w') : CallW P f args w R' := by
  unfold CallW at *
  split
  · rename_i e
    simp only [e] at h
    exact h.mono fun en w' he => by
      cases en with
      | returned v => exact hr _ _ he
      | panicked c => exact he
      | outgrown => exact he
  · rename_i e
    simp only [e] at h
    exact hr _ _ h
  · rename_i h1 h2
    split at h
    · rename_i e; exact (h1 _ _ _ e).elim
    · rename_i e; exact (h2 _ _ e).elim
    · exact h
def ArgsR (ρ : Ren) (args : List Value) (args' : Array Value) : Prop := args'.size = args.length ∧ ∀ (i : Nat) x, args[i]? = some x → ∃ y, args'[i]? = some y ∧ VR ρ x y
/-- the function does what F says -/
def Ref (P : Program) (f : FuncId) (F : FnI) : Prop :=
  ∀ args H n e, F args H n = some e → ∀ ρ w args', Below n ρ → HR ρ H w → ArgsR ρ args args' → CallW P f args' w fun v' w' => ∃ ρ', Post ρ H n e v' ρ' w w'
/-- no bounds; in the round of such a loop over a function, or in none -/
def FW (R : Option Nat) : Fence := { Fence.wide with round := R }
theorem FW_about {R : Option Nat} {o : Option FuncId} : ∀ f, o = some f → (FW R).fn f := fun _ _ => trivial
theorem FW_calls {R : Option Nat} {n : Nat} {P : Program} {f : FuncId} {args : Array Value} {w : World} {Q : Ending → World → Prop} (h : Calls P f args w Q) : CallsIn (FW R) n P f args w Q := callsIn_wide.2 h
abbrev Fns := List (Nat × FnI)
def FnsOk (P : Program) (Γ : Fns) : Prop := ∀ f F, Γ.lookup f = some F → Ref P f F
/-- an operand's value -/
def ev (t : List Value) : Operand → Value
  | .tmp u => t.getD u (.tuple #[])
  | .const v => if clo v then v else .tuple #[]
  | .global _ => .tuple #[]
  | .func f => .func (.func f) #[] #[]
structure TR (ρ : Ren) (t : List Value) (a : Act) : Prop where
  size : a.tmps.size = t.length
  val : ∀ (i : Nat) x, t[i]? = some x → ∃ y, a.tmps[i]? = some y ∧ VR ρ x y
theorem TR.mono {ρ ρ' : Ren} {t : List Value} {a : Act} (h : TR ρ t a) (hr : ρ.le ρ') : TR ρ' t a :=
  ⟨h.size, fun i x e => let ⟨y, a, b⟩ := h.val i x e; ⟨y, a, b.mono hr⟩⟩
theorem TR.ev {ρ : Ren} {t : List Value} {a : Act} (h : TR ρ t a) (x : Operand) : VR ρ (ev t x) (a.eval x) := by
  cases x with
  | tmp u =>
    simp only [Ytdnnojblneccdaa.ev, Act.eval, List.getD_eq_getElem?_getD, Array.getD_eq_getD_getElem?]
    cases ht : t[u]? with
    | none => exact .unk _
    | some v =>
      obtain ⟨y, e, r⟩ := h.val u v ht
      rw [e]; exact r
  | const v =>
    simp only [Ytdnnojblneccdaa.ev, Act.eval]
    split
    · exact VR.clo ρ (by assumption)
    · exact .unk _
  | global g => exact .unk _
  | func f => exact .func _ rfl (by simp) rfl (by simp)
def tput (t : List Value) (d : Option Tmp) (v : Value) : List Value :=
  match d with
  | some d => t.set d v
  | none => t
theorem TR.put {ρ : Ren} {t : List Value} {a : Act} (h : TR ρ t a) (d : Option Tmp) {v v' : Value} (hv : VR ρ v v') : TR ρ (tput t d v) (a.put d v') := by
  cases d with
  | none => exact h
  | some d =>
    refine ⟨by simp [Act.put, tput, h.size], fun i x hx => ?_⟩
    simp only [tput, List.getElem?_set] at hx
    simp only [Act.put, Array.getElem?_setIfInBounds]
    split at hx
    · rename_i hd
      rw [if_pos hd]
      split at hx
      · rename_i hl; cases hx; rw [if_pos (by rw [h.size]; exact hl)]; exact ⟨v', rfl, hv⟩
      · cases hx
    · rename_i hd
      rw [if_neg hd]
      exact h.val i x hx
/-- an operation, calls among them -/
def iopC (Γ : Fns) (D : Ty) (K : Kinds) (e : Operand → Value) (H : IHeap) (n : Nat) (op : Op) : Option Eff :=
  match op with
  | .call c => match c.callee with
    | .value f => match e f with
      | .func (.func g) first captured => (Γ.lookup g).bind fun F => F (first.toList ++ c.args.toList.map e ++ captured.toList) H n
      | _ => none
    | _ => iop D K e H n (.call c)
  | op => iop D K e H n op
structure Env (P : Program) (Γ : Fns) (D : Ty) (K : Kinds) : Prop where
  dok : DOk P D
  kok : KOk P K
  fld : ∀ t, fieldsKnown D t = true
  fns : FnsOk P Γ
section
variable {P : Program} {Γ : Fns} {D : Ty} {K : Kinds} {ρ : Ren} {H : IHeap} {w : World} {n : Nat} {t : List Value} {a : Act} {R : Option Nat}
theorem iopC_wp (hE : Env P Γ D K) (hb : Below n ρ) (hh : HR ρ H w) {o : Oper} {e : Operand → Value} {ef : Eff} (h : iopC Γ D K e H n o.op = some ef) (ht : ∀ x ∈ o.op.operands, VR ρ (e x) (a.eval x))
    {next : Act → World → Prop} {Q : Exit → Act → World → Prop} (hk : ∀ v' w' ρ', Post ρ H n ef v' ρ' w w' → next (a.put o.dst v') w') : o.wpIn (FW R) 0 P a w next Q := by
  have plain : iop D K e H n o.op = some ef → o.wpIn (FW R) 0 P a w next Q := by
    intro h
    obtain ⟨nx, v', w', ρ', h1, h2, h3⟩ := iop_ok hE.dok hE.kok hE.fld hb hh h ht
    have hsem : o.semAt (FW R).round a.eval = execOp a.eval o := Oper.semAt_eq _ _ _ fun c hc => by rw [hc] at h; cases h
    refine ⟨FW_about, ?_⟩
    rw [hsem, h1]
    rcases h2 with rfl | ⟨rfl, rfl⟩
    · exact hk _ _ _ h3
    · exact hk _ _ _ h3
  unfold iopC at h
  split at h
  · rename_i c hop
    split at h
    · rename_i f hcal
      split at h
      · rename_i g first captured hf
        simp only [Option.bind_eq_some_iff] at h
        obtain ⟨F, hF, h⟩ := h
        obtain ⟨dst, op, type, pos, after, guard⟩ := o
        simp only at hop; subst hop
        obtain ⟨callee, args, argTypes⟩ := c
        simp only at hcal; subst hcal
        have hfv := ht f (by simp [Op.operands, Call.operands])
        rw [hf] at hfv
        generalize hff : a.eval f = ff at hfv
        cases hfv with
        | func _ h1 h2 h3 h4 =>
          rename_i b d
          have hargs : ArgsR ρ (first.toList ++ args.toList.map e ++ captured.toList) (b ++ args.map a.eval ++ d) := by
            refine ⟨by simp [h1, h3], fun i x hx => ?_⟩
            have hlen : (first.toList ++ args.toList.map e).length = (b ++ args.map a.eval).size := by simp [h1]
            by_cases hi : i < (first.toList ++ args.toList.map e).length
            · rw [List.getElem?_append_left hi] at hx
              rw [Array.getElem?_append_left (by omega)]
              by_cases hi2 : i < first.toList.length
              · rw [List.getElem?_append_left hi2] at hx
                have hlb : i < b.size := by simp at hi2; omega
                rw [Array.getElem?_append_left hlb]
                exact ⟨b[i], by simp, h2 i x _ (by simpa using hx) (by simp)⟩
              · rw [List.getElem?_append_right (by omega)] at hx
                rw [Array.getElem?_append_right (by simp at hi2; omega)]
                simp only [List.getElem?_map, Option.map_eq_some_iff, Array.getElem?_toList] at hx
                obtain ⟨y, hy, rfl⟩ := hx
                simp only [Array.length_toList, h1] at hy
                refine ⟨a.eval y, by simp [hy], ht y ?_⟩
                have := Array.mem_of_getElem? hy
                simp [Op.operands, Call.operands, this]
            · rw [List.getElem?_append_right (by omega)] at hx
              rw [Array.getElem?_append_right (by omega)]
              rw [hlen] at hx
              have hlt : i - (b ++ args.map a.eval).size < d.size := by
                have : i - (b ++ args.map a.eval).size < captured.toList.length := (List.getElem?_eq_some_iff.1 hx).1
                simp at this ⊢; omega
              exact ⟨d[i - (b ++ args.map a.eval).size], by simp, h4 _ x _ (by simpa using hx) (by simp)⟩
          have hcall := hE.fns g F hF _ H n ef h ρ w _ hb hh hargs
          have hrun : (execOp a.eval ⟨dst, .call ⟨.value f, args, argTypes⟩, type, pos, after, guard⟩).run P w = (callFunc g (b ++ args.map a.eval ++ d)).run P w := by
            simp [execOp, resolve, hff, Deferred.ofValue, invoke]
          have hsem : Oper.semAt (FW R).round a.eval ⟨dst, .call ⟨.value f, args, argTypes⟩, type, pos, after, guard⟩ = execOp a.eval ⟨dst, .call ⟨.value f, args, argTypes⟩, type, pos, after, guard⟩ := Oper.semAt_eq _ _ _ fun c hc => by cases hc
          refine ⟨FW_about, ?_⟩
          rw [hsem, hrun]
          unfold CallW at hcall
          split at hcall
          · rename_i g' as w1 hr
            rw [hr]
            refine ⟨fun h => (by cases h), FW_calls (Calls.mono hcall fun en w' he => ?_)⟩
            cases en with
            | returned v => obtain ⟨ρ', hp⟩ := he; exact hk _ _ _ hp
            | panicked c => exact he.elim
            | outgrown => exact he.elim
          · rename_i v w1 hr
            rw [hr]
            obtain ⟨ρ', hp⟩ := hcall
            exact hk _ _ _ hp
          · exact hcall.elim
      · cases h
    · rename_i hn
      rw [hop] at plain
      exact plain h
  · exact plain h
end
/-- a guard's value: what is left out is not wanted, whichever way -/
def wantV (want : Bool) : Value → Option Bool
  | .bool b => some (b == want)
  | .chan none => some false
  | _ => none
theorem wantV_rel {ρ : Ren} {want b : Bool} {x y : Value} (h : wantV want x = some b) (hr : VR ρ x y) : ((match some y with | some (.bool b) => some b | _ => none : Option Bool) == some want) = b := by
  cases hr <;> simp only [wantV, Option.some.injEq] at h <;> first | (cases h; done) | (subst h; rename_i c; cases c <;> cases want <;> rfl) | (subst h; rfl)
/-- is the operation to be carried out? -/
def wantedI (ops : Array Oper) (t : List Value) (o : Oper) : Option Bool :=
  match o.guard with
  | none => some true
  | some (j, want) => match (ops[j]?).bind (·.dst) with
    | some d => (t[d]?).bind (wantV want)
    | none => none
def wpo {α : Type} (x : Option α) (Q : α → Prop) : Prop :=
  match x with
  | some a => Q a
  | none => False
/-- a state: variables, memory, the next free number -/
abbrev Post3 := List Value → IHeap → Nat → Prop
def vcS (Γ : Fns) (D : Ty) (K : Kinds) (W : Nat → Prop) (ops : Array Oper) (Q : Post3) : List Oper → Post3
  | [], t, H, n => Q t H n
  | o :: os, t, H, n => wpo (wantedI ops t o) fun b =>
      (b = true → wpo (iopC Γ D K (ev t) H n o.op) fun ef => (∀ p ∈ ef.up, W p.1) ∧ vcS Γ D K W ops Q os (tput t o.dst ef.v) (upds H ef.up) ef.n) ∧
      (b = false → vcS Γ D K W ops Q os (tput t o.dst (.chan none)) H n)
/-- what waits for the end of the function: marks that loops over functions left behind -/
def mark (D : Nat) : Deferred := { target := .collected D, args := #[] }
def Coll (w0 : World) (a : Act) (w : World) : Prop := ∃ ds : List Nat, a.defers = ds.map mark ∧ ds.Nodup ∧ ∀ D ∈ ds, w0.heap.size ≤ D ∧ w.heap[D]? = some (.deferred (some []))
theorem put_defers (a : Act) (d : Option Tmp) (v : Value) : (a.put d v).defers = a.defers := by cases d <;> rfl
theorem Coll.nil {w0 w : World} {a : Act} (h : a.defers = []) : Coll w0 a w := ⟨[], h, .nil, fun D hD => by cases hD⟩
theorem Coll.put {w0 w : World} {a : Act} (h : Coll w0 a w) (d : Option Tmp) (v : Value) : Coll w0 (a.put d v) w := by
  obtain ⟨ds, h1, h2, h3⟩ := h
  refine ⟨ds, ?_, h2, h3⟩
  cases d <;> exact h1
theorem Coll.on {w0 w w' : World} {a : Act} (h : Coll w0 a w) (ho : ∀ (k : Nat) (o : Obj), w.heap[k]? = some o → o.isCells = false → w'.heap[k]? = some o) : Coll w0 a w' := by
  obtain ⟨ds, h1, h2, h3⟩ := h
  exact ⟨ds, h1, h2, fun D hD => ⟨(h3 D hD).1, ho D _ (h3 D hD).2 rfl⟩⟩
/-- the real state fits, and was come to from (ρ, w) by writing nothing but W -/
structure St (W : Nat → Prop) (ρ0 : Ren) (w0 : World) (n0 : Nat) (t : List Value) (H : IHeap) (n : Nat) (ρ : Ren) (a : Act) (w : World) : Prop where
  tr : TR ρ t a
  below : Below n ρ
  heap : HR ρ H w
  step : Step W ρ0 ρ w0 w
  le : n0 ≤ n
  fresh : ∀ id x, ρ id = some x → ρ0 id = some x ∨ n0 ≤ id
  coll : Coll w0 a w
theorem St.refl {W : Nat → Prop} {ρ : Ren} {w : World} {n : Nat} {t : List Value} {H : IHeap} {a : Act} (h1 : TR ρ t a) (h2 : Below n ρ) (h3 : HR ρ H w) (h4 : a.defers = []) : St W ρ w n t H n ρ a w :=
  ⟨h1, h2, h3, Step.refl _ _ _, Nat.le_refl _, fun _ _ h => .inl h, .nil h4⟩
theorem vcS_okJ {R : Option Nat} {P : Program} {Γ : Fns} {D : Ty} {K : Kinds} (hE : Env P Γ D K) {W : Nat → Prop} {ops : Array Oper} {Q : Post3} {ρ0 : Ren} {w0 : World} {n0 : Nat} {Q' : Exit → Act → World → Prop} (js : List Nat) :
    ∀ (is : List Nat) (os : List Oper) (t : List Value) (H : IHeap) (n : Nat) (ρ : Ren) (a : Act) (w : World), is.map (fun i => ops[i]?) = os.map some → vcS Γ D K W ops Q os t H n → St W ρ0 w0 n0 t H n ρ a w →
      (∀ ρ' t' H' n' a' w', St W ρ0 w0 n0 t' H' n' ρ' a' w' → a'.defers = a.defers → Q t' H' n' → wpOpsIn (FW R) 0 P ops Q' js a' w') → wpOpsIn (FW R) 0 P ops Q' (is ++ js) a w
  | [], os, t, H, n, ρ, a, w, hi, hv, hs, hk => by
    cases os with
    | nil => exact hk ρ t H n a w hs rfl hv
    | cons => simp at hi
  | i :: is, os, t, H, n, ρ, a, w, hi, hv, hs, hk => by
    cases os with
    | nil => simp at hi
    | cons o os =>
      simp only [List.map_cons, List.cons.injEq] at hi
      obtain ⟨hio, hi⟩ := hi
      simp only [List.cons_append, wpOpsIn, hio]
      simp only [vcS] at hv
      cases hw : wantedI ops t o with
      | none => rw [hw] at hv; exact hv.elim
      | some b =>
        rw [hw] at hv
        have hwant : Region.wanted o (yielded ops a.tmps) = b := by
          unfold wantedI at hw
          unfold Region.wanted
          split at hw
          · rename_i hg; rw [hg]; cases hw; rfl
          · rename_i j want hg
            rw [hg]
            split at hw
            · rename_i d hd
              simp only [Option.bind_eq_some_iff] at hw
              obtain ⟨x, ht, hx⟩ := hw
              obtain ⟨y, e1, e2⟩ := hs.tr.val d _ ht
              have := wantV_rel hx e2
              simp only [yielded, hd, Option.bind_some, e1]
              exact this
            · cases hw
        rw [hwant]
        cases b with
        | true =>
          have hv1 := hv.1 rfl
          simp only [if_true]
          cases hop : iopC Γ D K (ev t) H n o.op with
          | none => rw [hop] at hv1; exact hv1.elim
          | some ef =>
            rw [hop] at hv1
            obtain ⟨hW, hv2⟩ := hv1
            refine iopC_wp hE hs.below hs.heap hop (fun x _ => hs.tr.ev x) fun v' w' ρ' hp => ?_
            refine vcS_okJ hE js is os _ _ _ ρ' _ w' hi hv2 ⟨(hs.tr.mono hp.step.le).put _ hp.val, hp.below, hp.heap, hs.step.trans (V := W) (hp.step.mono fun id hid => ?_) (fun _ _ _ h => h), Nat.le_trans hs.le hp.le, fun id x hx => (hp.fresh id x hx).elim (hs.fresh id x) (fun h => .inr (Nat.le_trans hs.le h)), (hs.coll.put _ _).on hp.step.others⟩ fun ρ' t' H' n' a' w' g1 g2 => hk ρ' t' H' n' a' w' g1 (g2.trans (put_defers _ _ _))
            obtain ⟨p, hp1, hp2⟩ := List.mem_map.1 hid
            exact hp2 ▸ hW p hp1
        | false =>
          simp only [Bool.false_eq_true, if_false]
          exact ⟨FW_about, vcS_okJ hE js is os _ _ _ ρ _ w hi (hv.2 rfl) ⟨hs.tr.put _ .skip, hs.below, hs.heap, hs.step, hs.le, hs.fresh, hs.coll.put _ _⟩ fun ρ' t' H' n' a' w' g1 g2 => hk ρ' t' H' n' a' w' g1 (g2.trans (put_defers _ _ _))⟩
theorem vcS_ok {R : Option Nat} {P : Program} {Γ : Fns} {D : Ty} {K : Kinds} (hE : Env P Γ D K) {W : Nat → Prop} {ops : Array Oper} {Q : Post3} {ρ0 : Ren} {w0 : World} {n0 : Nat} {Q' : Exit → Act → World → Prop}
    (is : List Nat) (os : List Oper) (t : List Value) (H : IHeap) (n : Nat) (ρ : Ren) (a : Act) (w : World) (hi : is.map (fun i => ops[i]?) = os.map some) (hv : vcS Γ D K W ops Q os t H n) (hs : St W ρ0 w0 n0 t H n ρ a w)
    (hk : ∀ ρ' t' H' n' a' w', St W ρ0 w0 n0 t' H' n' ρ' a' w' → a'.defers = a.defers → Q t' H' n' → Q' .normal a' w') : wpOpsIn (FW R) 0 P ops Q' is a w := by
  have := vcS_okJ (R := R) (Q' := Q') hE [] is os t H n ρ a w hi hv hs hk
  rwa [List.append_nil] at this
end Go.Proofs.Ytdnnojblneccdaa
/-
  A region whose order is open: if what is written by one operation is not seen by another one that is not ordered with it, every order comes to what the text's order comes to.
-/
namespace Go.Proofs.Ytdnnojblneccdaa
set_option linter.unusedSimpArgs false
set_option linter.unusedVariables false
open Go
structure Tr where
  dst : Option Nat
  v : Value
  up : Ups
  n : Nat
  n' : Nat
  H : IHeap
  uses : List Nat
abbrev Tr.ids (x : Tr) : List Nat := x.up.map (·.1)
/-- a renaming below a bound -/
def cut (b : Nat) (ρ : Ren) : Ren := fun id => if id < b then ρ id else none
theorem cut_le (b : Nat) (ρ : Ren) : (cut b ρ).le ρ := fun id x h => by
  unfold cut at h; split at h
  · exact h
  · cases h
theorem cut_mono {b c : Nat} {ρ ρ' : Ren} (h : b ≤ c) (hr : ρ.le ρ') : (cut b ρ).le (cut c ρ') := fun id x e => by
  unfold cut at *; split at e
  · rw [if_pos (by omega)]; exact hr _ _ e
  · cases e
theorem cut_below (b : Nat) (ρ : Ren) : Below b (cut b ρ) := fun id h => by
  unfold cut; rw [if_neg (by omega)]
theorem cut_some {b id : Nat} {ρ : Ren} {x : Nat × Nat} (h : cut b ρ id = some x) : id < b ∧ ρ id = some x := by
  unfold cut at h; split at h
  · exact ⟨by assumption, h⟩
  · cases h
section
variable (tr : Nat → Tr) (t0 : List Value) (H0 : IHeap) (n0 : Nat)
def sT (d : Nat → Bool) : Nat → Nat → Value × Nat
  | 0, u => (t0.getD u (.tuple #[]), n0)
  | k + 1, u => if d k = true ∧ (tr k).dst = some u then ((tr k).v, (tr k).n') else sT d k u
def sH (d : Nat → Bool) : Nat → Nat → Option IObj × Nat
  | 0, id => (H0 id, n0)
  | k + 1, id => if d k = true ∧ id ∈ (tr k).ids then (upds (fun _ => none) (tr k).up id, (tr k).n') else sH d k id
theorem sT_congr {d d' : Nat → Bool} {u : Nat} : ∀ k, (∀ j, j < k → (tr j).dst = some u → d j = d' j) → sT tr t0 n0 d k u = sT tr t0 n0 d' k u
  | 0, _ => rfl
  | k + 1, h => by
    simp only [sT]
    rw [sT_congr k fun j hj => h j (by omega)]
    by_cases hu : (tr k).dst = some u
    · rw [h k (by omega) hu]
    · simp [hu]
theorem sH_congr {d d' : Nat → Bool} {id : Nat} : ∀ k, (∀ j, j < k → id ∈ (tr j).ids → d j = d' j) → sH tr H0 n0 d k id = sH tr H0 n0 d' k id
  | 0, _ => rfl
  | k + 1, h => by
    simp only [sH]
    rw [sH_congr k fun j hj => h j (by omega)]
    by_cases hu : id ∈ (tr k).ids
    · rw [h k (by omega) hu]
    · simp [hu]
theorem sT_skip {d : Nat → Bool} {u : Nat} {k : Nat} : ∀ m, k ≤ m → (∀ j, k ≤ j → j < m → (tr j).dst = some u → d j = false) → sT tr t0 n0 d m u = sT tr t0 n0 d k u
  | 0, hk, _ => by rw [Nat.le_zero.1 hk]
  | m + 1, hk, h => by
    by_cases hm : k = m + 1
    · rw [hm]
    · simp only [sT]
      rw [if_neg fun c => by have := h m (by omega) (by omega) c.2; rw [this] at c; exact absurd c.1 (by simp)]
      exact sT_skip m (by omega) fun j h1 h2 => h j h1 (by omega)
theorem sH_skip {d : Nat → Bool} {id : Nat} {k : Nat} : ∀ m, k ≤ m → (∀ j, k ≤ j → j < m → id ∈ (tr j).ids → d j = false) → sH tr H0 n0 d m id = sH tr H0 n0 d k id
  | 0, hk, _ => by rw [Nat.le_zero.1 hk]
  | m + 1, hk, h => by
    by_cases hm : k = m + 1
    · rw [hm]
    · simp only [sH]
      rw [if_neg fun c => by have := h m (by omega) (by omega) c.2; rw [this] at c; exact absurd c.1 (by simp)]
      exact sH_skip m (by omega) fun j h1 h2 => h j h1 (by omega)
end
structure Drawn (P : Program) (R : Option Nat) (ops : Array Oper) (Q : Exit → Act → World → Prop) (W : Nat → Prop) (m : Nat) (tr : Nat → Tr) (pre : Nat → List Nat) (t0 : List Value) (H0 : IHeap) (n0 : Nat) : Prop where
  first : 0 < m → (tr 0).n = n0
  next : ∀ i, (tr (i + 1)).n = (tr i).n'
  mono : ∀ i, (tr i).n ≤ (tr i).n'
  lt : ∀ i j, j ∈ pre i → j < i
  uses : ∀ i, i < m → ∀ u ∈ (tr i).uses, ∀ j, j < m → j ≠ i → (tr j).dst = some u → j ∈ pre i ∨ i ∈ pre j
  dsts : ∀ i, i < m → ∀ u, (tr i).dst = some u → ∀ j, j < m → j ≠ i → (tr j).dst = some u → j ∈ pre i ∨ i ∈ pre j
  sees : ∀ i, i < m → ∀ id o, (tr i).H id = some o → (sH tr H0 n0 (fun j => decide (j ∈ pre i)) i id).1 = some o
  apart : ∀ i, i < m → ∀ j, j < m → j ≠ i → j ∉ pre i → i ∉ pre j → ∀ id ∈ (tr j).ids, (tr i).H id = none
  ids : ∀ i, i < m → ∀ id ∈ (tr i).ids, ((tr i).n ≤ id ∨ ((tr i).H id).isSome) ∧ id < (tr i).n'
  wr : ∀ i, i < m → ∀ id ∈ (tr i).ids, W id
  dlen : ∀ i, i < m → ∀ u, (tr i).dst = some u → u < t0.length
  run : ∀ i, i < m → ∀ (ρ : Ren) (a : Act) (w : World), a.tmps.size = t0.length → (∀ u ∈ (tr i).uses, VR ρ (sT tr t0 n0 (fun _ => true) i u).1 (a.tmps.getD u undef)) → Below (tr i).n ρ → HR ρ (tr i).H w →
    ∀ K : Act → World → Prop, (∀ v' w' ρ', Post ρ (tr i).H (tr i).n ⟨(tr i).v, (tr i).up, (tr i).n'⟩ v' ρ' w w' → K (a.put (tr i).dst v') w') → wpOpIn (FW R) 0 P ops Q i K a w
structure Inv (X : List Deferred) (W : Nat → Prop) (m : Nat) (tr : Nat → Tr) (t0 : List Value) (H0 : IHeap) (n0 m0 : Nat) (ρ0 : Ren) (w0 : World) (d : Nat → Bool) (a : Act) (w : World) (ρ : Ren) : Prop where
  size : a.tmps.size = t0.length
  coll : Coll w0 a w ∧ a.defers = X
  val : ∀ u, u < t0.length → VR (cut (sT tr t0 n0 d m u).2 ρ) (sT tr t0 n0 d m u).1 (a.tmps.getD u undef)
  obj : ∀ id o, (sH tr H0 n0 d m id).1 = some o → ∃ r κ, ρ id = some (r, κ) ∧ OR (cut (sH tr H0 n0 d m id).2 ρ) κ o w.heap[r]?
  inj : ∀ i j o p r κ κ', (sH tr H0 n0 d m i).1 = some o → (sH tr H0 n0 d m j).1 = some p → ρ i = some (r, κ) → ρ j = some (r, κ') → i = j
  dom : ∀ id x, ρ id = some x → id < n0 ∨ ∃ j, j < m ∧ d j = true ∧ (tr j).n ≤ id ∧ id < (tr j).n'
  step : Step W ρ0 ρ w0 w
  base : ∀ id o, H0 id = some o → id < n0
  mle : m0 ≤ n0
  fresh : ∀ id x, ρ id = some x → ρ0 id = some x ∨ m0 ≤ id
theorem OR.lt {ρ : Ren} {κ : Nat} {o : IObj} {w : World} {r : Nat} (h : OR ρ κ o w.heap[r]?) : r < w.heap.size := by
  rcases Nat.lt_or_ge r w.heap.size with h' | h'
  · exact h'
  · exfalso
    rw [Array.getElem?_eq_none h'] at h
    cases o with
    | cells c ro => obtain ⟨c', T, fz, h1, _⟩ := h; cases h1
    | map es => obtain ⟨es', clock, h1, _⟩ := h; cases h1
section
variable {R : Option Nat} {P : Program} {ops : Array Oper} {Q : Exit → Act → World → Prop} {W : Nat → Prop} {m : Nat} {tr : Nat → Tr} {pre : Nat → List Nat} {t0 : List Value} {H0 : IHeap} {n0 : Nat}
theorem Drawn.n_le (h : Drawn P R ops Q W m tr pre t0 H0 n0) : ∀ {i j : Nat}, i < j → (tr i).n' ≤ (tr j).n := by
  intro i j hij
  induction j with
  | zero => omega
  | succ j ih =>
    rw [h.next]
    by_cases e : i = j
    · subst e; exact Nat.le_refl _
    · exact Nat.le_trans (ih (by omega)) (h.mono j)
theorem Drawn.n0_le (h : Drawn P R ops Q W m tr pre t0 H0 n0) {i : Nat} (hi : i < m) : n0 ≤ (tr i).n := by
  have h0 := h.first (by omega)
  rcases Nat.eq_zero_or_pos i with rfl | hp
  · omega
  · exact Nat.le_trans (h0 ▸ h.mono 0) (h.n_le hp)
/-- how far the numbers of a value go -/
theorem sT_bound (h : Drawn P R ops Q W m tr pre t0 H0 n0) (d : Nat → Bool) (u : Nat) {i : Nat} (hi : i < m) : ∀ k, k ≤ i → (sT tr t0 n0 d k u).2 ≤ (tr i).n
  | 0, _ => h.n0_le hi
  | k + 1, hk => by
    simp only [sT]; split
    · exact h.n_le (by omega)
    · exact sT_bound h d u hi k (by omega)
theorem sH_bound (h : Drawn P R ops Q W m tr pre t0 H0 n0) (d : Nat → Bool) (u : Nat) {i : Nat} (hi : i < m) : ∀ k, k ≤ i → (sH tr H0 n0 d k u).2 ≤ (tr i).n
  | 0, _ => h.n0_le hi
  | k + 1, hk => by
    simp only [sH]; split
    · exact h.n_le (by omega)
    · exact sH_bound h d u hi k (by omega)
/-- one more operation -/
theorem Inv.more {X : List Deferred} (h : Drawn P R ops Q W m tr pre t0 H0 n0) {m0 : Nat} {ρ0 : Ren} {w0 : World} {d : Nat → Bool} {a : Act} {w : World} {ρ : Ren} (I : Inv X W m tr t0 H0 n0 m0 ρ0 w0 d a w ρ) {i : Nat} (hi : i < m)
    (hd : d i = false) (hpre : ∀ j ∈ pre i, d j = true) (hcl : ∀ j, j < m → d j = true → ∀ k ∈ pre j, d k = true) {K : Act → World → Prop}
    (hK : ∀ a' w' ρ', Inv X W m tr t0 H0 n0 m0 ρ0 w0 (fun j => d j || decide (j = i)) a' w' ρ' → K a' w') : wpOpIn (FW R) 0 P ops Q i K a w := by
  -- whoever writes what i reads is done exactly if it is before i
  have done : ∀ j, j < m → j ≠ i → (j ∈ pre i ∨ i ∈ pre j) → (d j = true ↔ j ∈ pre i) := by
    intro j hj hne ho
    constructor
    · intro hdj
      rcases ho with ho | ho
      · exact ho
      · have := hcl j hj hdj i ho; rw [hd] at this; cases this
    · exact hpre j
  have later : ∀ j, j < m → i ≤ j → (j ≠ i → j ∈ pre i ∨ i ∈ pre j) → d j = false := by
    intro j hj hij ho
    by_cases e : j = i
    · rw [e]; exact hd
    · rcases ho e with h1 | h1
      · have := h.lt i j h1; omega
      · cases hdj : d j with
        | false => rfl
        | true => have := hcl j hj hdj i h1; rw [hd] at this; cases this
  have huse : ∀ u ∈ (tr i).uses, sT tr t0 n0 d m u = sT tr t0 n0 (fun _ => true) i u := by
    intro u hu
    rw [sT_skip tr t0 n0 m (Nat.le_of_lt hi) fun j h1 h2 h3 => later j h2 h1 fun e => h.uses i hi u hu j h2 e h3]
    refine sT_congr tr t0 n0 i fun j hj hdst => ?_
    have hne : j ≠ i := by omega
    have hord := h.uses i hi u hu j (by omega) hne hdst
    rcases hord with h1 | h1
    · exact hpre j h1
    · have := h.lt j i h1; omega
  have hsee : ∀ id o, (tr i).H id = some o → sH tr H0 n0 d m id = sH tr H0 n0 (fun j => decide (j ∈ pre i)) i id := by
    intro id o ho
    have hord : ∀ j, j < m → j ≠ i → id ∈ (tr j).ids → j ∈ pre i ∨ i ∈ pre j := by
      intro j hj hne hid
      by_cases h1 : j ∈ pre i
      · exact .inl h1
      · by_cases h2 : i ∈ pre j
        · exact .inr h2
        · have := h.apart i hi j hj hne h1 h2 id hid; rw [ho] at this; cases this
    rw [sH_skip tr H0 n0 m (Nat.le_of_lt hi) fun j h1 h2 h3 => later j h2 h1 fun e => hord j h2 e h3]
    refine sH_congr tr H0 n0 i fun j hj hid => ?_
    have hne : j ≠ i := by omega
    have := done j (by omega) hne (hord j (by omega) hne hid)
    cases hdj : d j with
    | true => simp [this.1 hdj]
    | false => symm; simp only [decide_eq_false_iff_not]; intro c; rw [this.2 c] at hdj; cases hdj
  have hin : ∀ id o, (tr i).H id = some o → (sH tr H0 n0 d m id).1 = some o ∧ (sH tr H0 n0 d m id).2 ≤ (tr i).n := by
    intro id o ho
    rw [hsee id o ho]
    exact ⟨h.sees i hi id o ho, sH_bound h _ id hi i (Nat.le_refl _)⟩
  have hlt : ∀ id o, (tr i).H id = some o → id < (tr i).n := by
    intro id o ho
    have key : ∀ (d' : Nat → Bool) k, k ≤ i → (∀ o, (sH tr H0 n0 d' k id).1 = some o → id < (tr i).n) := by
      intro d' k
      induction k with
      | zero => intro _ o ho; exact Nat.lt_of_lt_of_le (I.base id o ho) (h.n0_le hi)
      | succ k ih =>
        intro hk o ho
        simp only [sH] at ho
        split at ho
        · rename_i hc
          have h1 := (h.ids k (by omega) id hc.2).2
          have h2 := h.n_le (show k < i by omega)
          omega
        · exact ih (by omega) o ho
    exact key _ i (Nat.le_refl _) o (h.sees i hi id o ho)
  have hHR : HR (cut (tr i).n ρ) (tr i).H w := by
    refine ⟨fun id o ho => ?_, fun x y o p r κ κ' hx hy hrx hry => I.inj x y o p r κ κ' (hin x o hx).1 (hin y p hy).1 (cut_some hrx).2 (cut_some hry).2⟩
    obtain ⟨h1, h2⟩ := hin id o ho
    obtain ⟨r, κ, hr, hor⟩ := I.obj id o h1
    refine ⟨r, κ, ?_, hor.mono (cut_mono h2 ρ.le_refl)⟩
    unfold cut
    rw [if_pos (hlt id o ho)]; exact hr
  have hval : ∀ u ∈ (tr i).uses, VR (cut (tr i).n ρ) (sT tr t0 n0 (fun _ => true) i u).1 (a.tmps.getD u undef) := by
    intro u hu
    by_cases hul : u < t0.length
    · have h1 := I.val u hul
      rw [huse u hu] at h1
      exact h1.mono (cut_mono (sT_bound h _ u hi i (Nat.le_refl _)) ρ.le_refl)
    · have hnone : ∀ k, k ≤ i → (sT tr t0 n0 (fun _ => true) k u).1 = .tuple #[] ∨ ∃ j, j < k ∧ (tr j).dst = some u := by
        intro k
        induction k with
        | zero => intro _; left; simp [sT, List.getD_eq_getElem?_getD, List.getElem?_eq_none (Nat.le_of_not_lt hul)]
        | succ k ih =>
          intro hk
          by_cases hc : (tr k).dst = some u
          · exact .inr ⟨k, by omega, hc⟩
          · rcases ih (by omega) with h1 | ⟨j, h1, h2⟩
            · left; simp only [sT]; rw [if_neg (fun c => hc c.2)]; exact h1
            · exact .inr ⟨j, by omega, h2⟩
      rcases hnone i (Nat.le_refl _) with h1 | ⟨j, h1, h2⟩
      · rw [h1]; exact .unk _
      · exact absurd (h.dlen j (by omega) u h2) hul
  refine h.run i hi (cut (tr i).n ρ) a w I.size hval (cut_below _ _) hHR K fun v' w' ρi hp => ?_
  -- the renaming goes on
  have hni : ∀ id, (tr i).n ≤ id → id < (tr i).n' → ρ id = none := by
    intro id h1 h2
    cases hr : ρ id with
    | none => rfl
    | some x =>
      rcases I.dom id x hr with hl | ⟨j, hj, hdj, h3, h4⟩
      · have := h.n0_le hi; omega
      · rcases Nat.lt_trichotomy j i with hl | rfl | hl
        · have := h.n_le hl; omega
        · rw [hd] at hdj; cases hdj
        · have := h.n_le hl; omega
  let ρ' : Ren := fun id => if (tr i).n ≤ id ∧ id < (tr i).n' then ρi id else ρ id
  have hle : ρ.le ρ' := by
    intro id x hx
    simp only [ρ']
    rw [if_neg fun c => by rw [hni id c.1 c.2] at hx; cases hx]
    exact hx
  have hile : ρi.le ρ' := by
    intro id x hx
    simp only [ρ']
    have hb := hp.below.lt hx
    rcases hp.fresh id x hx with h1 | h1
    · obtain ⟨h2, h3⟩ := cut_some h1
      rw [if_neg (by omega)]; exact h3
    · rw [if_pos ⟨h1, hb⟩]; exact hx
  have hilec : ρi.le (cut (tr i).n' ρ') := by
    intro id x hx
    unfold cut; rw [if_pos (hp.below.lt hx)]; exact hile id x hx
  have hids : ∀ id ∈ (tr i).ids, ρi id = none ∨ ρ' id = ρi id := by
    intro id hid
    cases hx : ρi id with
    | none => exact .inl rfl
    | some x => exact .inr (hile id x hx)
  have hold : ∀ id o, (sH tr H0 n0 d m id).1 = some o → id ∉ (tr i).ids → ∀ r κ, ρ id = some (r, κ) → w'.heap[r]? = w.heap[r]? := by
    intro id o ho hnid r κ hr
    obtain ⟨r2, κ2, hr2, hor⟩ := I.obj id o ho
    rw [hr] at hr2; cases hr2
    refine hp.step.keep r hor.lt fun j κ3 hj hjid => ?_
    obtain ⟨hj1, hj2⟩ := cut_some hj
    rcases (hp.ids j hjid).1 with h1 | h1
    · omega
    · obtain ⟨o2, ho2⟩ := Option.isSome_iff_exists.1 h1
      have := I.inj id j o o2 r κ κ3 ho (hin j o2 ho2).1 hr hj2
      exact hnid (this ▸ hjid)
  have hsHi : ∀ id ∈ (tr i).ids, sH tr H0 n0 (fun j => d j || decide (j = i)) m id = (upds (fun _ => none) (tr i).up id, (tr i).n') := by
    intro id hid
    rw [sH_skip tr H0 n0 (k := i + 1) m (by omega) fun j h1 h2 h3 => ?_]
    · simp only [sH]
      rw [if_pos ⟨by simp, hid⟩]
    · have hne : j ≠ i := by omega
      have hj := later j h2 (by omega) fun _ => by
        by_cases c1 : j ∈ pre i
        · exact .inl c1
        · by_cases c2 : i ∈ pre j
          · exact .inr c2
          · exfalso
            have e1 := h.apart i hi j h2 hne c1 c2 id h3
            have e2 := h.apart j h2 i hi (Ne.symm hne) c2 c1 id hid
            have v1 := h.ids i hi id hid
            have v2 := h.ids j h2 id h3
            rw [e1] at v1; rw [e2] at v2
            simp only [Option.isSome_none, Bool.false_eq_true, or_false] at v1 v2
            have := h.n_le (show i < j by omega)
            omega
      simp [hj, hne]
  have hsHo : ∀ id, id ∉ (tr i).ids → sH tr H0 n0 (fun j => d j || decide (j = i)) m id = sH tr H0 n0 d m id := by
    intro id hid
    refine sH_congr tr H0 n0 m fun j hj hjd => ?_
    by_cases e : j = i
    · subst e; exact absurd hjd hid
    · simp [e]
  have hupd : ∀ id ∈ (tr i).ids, ∀ o, upds (fun _ => none) (tr i).up id = some o → ∃ r κ, ρi id = some (r, κ) ∧ OR ρi κ o w'.heap[r]? := by
    intro id hid o ho
    exact hp.heap.obj id o (by rw [upds_mem (K := fun _ => none) hid]; exact ho)
  refine hK _ w' ρ' ⟨?_, ?_, ?_, ?_, ?_, ?_, ?_, I.base, I.mle, fun id x hx => by
    simp only [ρ'] at hx
    split at hx
    · rename_i hc; have := h.n0_le hi; have := I.mle; exact .inr (by omega)
    · exact I.fresh id x hx⟩
  · cases hdst : (tr i).dst <;> simp [Act.put, I.size]
  · exact ⟨(I.coll.1.put _ _).on hp.step.others, by cases (tr i).dst <;> exact I.coll.2⟩
  · intro u hu
    by_cases hdst : (tr i).dst = some u
    · have h1 : sT tr t0 n0 (fun j => d j || decide (j = i)) m u = ((tr i).v, (tr i).n') := by
        rw [sT_skip tr t0 n0 (k := i + 1) m (by omega) fun j h1 h2 h3 => ?_]
        · simp only [sT]; rw [if_pos ⟨by simp, hdst⟩]
        · have hne : j ≠ i := by omega
          have := later j h2 (by omega) fun _ => h.dsts i hi u hdst j h2 hne h3
          simp [this, hne]
      rw [h1, hdst]
      simp only [Act.put]
      have : (a.tmps.setIfInBounds u v').getD u undef = v' := by
        simp [Array.getD_eq_getD_getElem?, I.size, hu]
      rw [this]
      exact hp.val.mono hilec
    · have h1 : sT tr t0 n0 (fun j => d j || decide (j = i)) m u = sT tr t0 n0 d m u := by
        refine sT_congr tr t0 n0 m fun j hj hjd => ?_
        by_cases e : j = i
        · subst e; exact absurd hjd hdst
        · simp [e]
      rw [h1]
      have h2 : (a.put (tr i).dst v').tmps.getD u undef = a.tmps.getD u undef := by
        cases hq : (tr i).dst with
        | none => rfl
        | some q =>
          have : q ≠ u := fun e => hdst (by rw [hq, e])
          simp [Act.put, Array.getD_eq_getD_getElem?, Array.getElem?_setIfInBounds, this]
      rw [h2]
      exact (I.val u hu).mono (cut_mono (Nat.le_refl _) hle)
  · intro id o ho
    by_cases hid : id ∈ (tr i).ids
    · rw [hsHi id hid] at ho ⊢
      obtain ⟨r, κ, h1, h2⟩ := hupd id hid o ho
      exact ⟨r, κ, hile _ _ h1, h2.mono hilec⟩
    · rw [hsHo id hid] at ho ⊢
      obtain ⟨r, κ, h1, h2⟩ := I.obj id o ho
      exact ⟨r, κ, hle _ _ h1, by rw [hold id o ho hid r κ h1]; exact h2.mono (cut_mono (Nat.le_refl _) hle)⟩
  · have pick : ∀ {id o r κ}, (sH tr H0 n0 (fun j => d j || decide (j = i)) m id).1 = some o → ρ' id = some (r, κ) →
        (id ∈ (tr i).ids ∧ ρi id = some (r, κ) ∧ upds (tr i).H (tr i).up id = some o) ∨ (id ∉ (tr i).ids ∧ ρ id = some (r, κ) ∧ (sH tr H0 n0 d m id).1 = some o ∧ r < w.heap.size) := by
      intro id o r κ ho hr
      by_cases hid : id ∈ (tr i).ids
      · rw [hsHi id hid] at ho
        obtain ⟨r2, κ2, h1, h2⟩ := hupd id hid o ho
        have := hile _ _ h1
        rw [hr] at this; cases this
        exact .inl ⟨hid, h1, by rw [upds_mem (K := fun _ => none) hid]; exact ho⟩
      · rw [hsHo id hid] at ho
        obtain ⟨r2, κ2, h1, h2⟩ := I.obj id o ho
        have := hle _ _ h1
        rw [hr] at this; cases this
        exact .inr ⟨hid, h1, ho, h2.lt⟩
    have mixed : ∀ {x y o p r κ κ'}, x ∈ (tr i).ids → ρi x = some (r, κ) → y ∉ (tr i).ids → ρ y = some (r, κ') → (sH tr H0 n0 d m y).1 = some p → r < w.heap.size → upds (tr i).H (tr i).up x = some o → x = y := by
      intro x y o p r κ κ' hx hrx hy hry hpy hrl _
      exfalso
      rcases hp.fresh x _ hrx with h1 | h1
      · obtain ⟨h2, h3⟩ := cut_some h1
        rcases (hp.ids x hx).1 with h4 | h4
        · omega
        · obtain ⟨o2, ho2⟩ := Option.isSome_iff_exists.1 h4
          have := I.inj x y o2 p r κ κ' (hin x o2 ho2).1 hpy h3 hry
          exact hy (this ▸ hx)
      · have hnone : cut (tr i).n ρ x = none := cut_below _ _ x h1
        rcases hp.step.new x r κ hnone hrx with h2 | ⟨j, κ2, h2, h3⟩
        · omega
        · obtain ⟨h4, h5⟩ := cut_some h2
          rcases (hp.ids j h3).1 with h6 | h6
          · omega
          · obtain ⟨o2, ho2⟩ := Option.isSome_iff_exists.1 h6
            have := I.inj j y o2 p r κ2 κ' (hin j o2 ho2).1 hpy h5 hry
            exact hy (this ▸ h3)
    intro x y o p r κ κ' hx hy hrx hry
    rcases pick hx hrx with ⟨a1, a2, a3⟩ | ⟨a1, a2, a3, a4⟩
    · rcases pick hy hry with ⟨b1, b2, b3⟩ | ⟨b1, b2, b3, b4⟩
      · exact hp.heap.inj x y o p r κ κ' a3 b3 a2 b2
      · exact mixed a1 a2 b1 b2 b3 b4 a3
    · rcases pick hy hry with ⟨b1, b2, b3⟩ | ⟨b1, b2, b3, b4⟩
      · exact (mixed b1 b2 a1 a2 a3 a4 b3).symm
      · exact I.inj x y o p r κ κ' a3 b3 a2 b2
  · intro id x hx
    simp only [ρ'] at hx
    split at hx
    · rename_i hc
      exact .inr ⟨i, hi, by simp, hc.1, hc.2⟩
    · rcases I.dom id x hx with h1 | ⟨j, h1, h2, h3, h4⟩
      · exact .inl h1
      · exact .inr ⟨j, h1, by simp [h2], h3, h4⟩
  · refine I.step.trans (V := W) ?_ (fun _ _ _ h => h)
    refine ⟨hle, ?_, hp.step.size, ?_, hp.step.os, hp.step.tape, hp.step.output, hp.step.others⟩
    · intro id r κ h1 h2
      simp only [ρ'] at h2
      split at h2
      · rename_i hc
        have hnone : cut (tr i).n ρ id = none := cut_below _ _ id hc.1
        rcases hp.step.new id r κ hnone h2 with h3 | ⟨j, κ2, h3, h4⟩
        · exact .inl h3
        · exact .inr ⟨j, κ2, (cut_some h3).2, h.wr i hi j h4⟩
      · rw [h1] at h2; cases h2
    · intro r hr hn
      exact hp.step.keep r hr fun j κ h3 h4 => hn j κ (cut_some h3).2 (h.wr i hi j h4)
end
end Go.Proofs.Ytdnnojblneccdaa
/-
  Regions whose order is open: what is to be shown, as a function of the text's order.
-/
namespace Go.Proofs.Ytdnnojblneccdaa
set_option linter.unusedSimpArgs false
set_option linter.unusedVariables false
open Go
def cnt (d : Nat → Bool) : Nat → Nat
  | 0 => 0
  | k + 1 => cnt d k + if d k then 0 else 1
theorem cnt_zero {d : Nat → Bool} : ∀ {m : Nat}, cnt d m = 0 → ∀ j, j < m → d j = true
  | m + 1, h, j, hj => by
    simp only [cnt] at h
    by_cases e : j = m
    · subst e
      cases hd : d j with
      | true => rfl
      | false => rw [hd] at h; simp at h
    · exact cnt_zero (m := m) (by omega) j (by omega)
theorem cnt_same {d d' : Nat → Bool} : ∀ {m : Nat}, (∀ j, j < m → d j = d' j) → cnt d m = cnt d' m
  | 0, _ => rfl
  | m + 1, h => by simp only [cnt]; rw [cnt_same fun j hj => h j (by omega), h m (by omega)]
theorem cnt_more {d : Nat → Bool} {i : Nat} : ∀ {m : Nat}, i < m → d i = false → cnt (fun j => d j || decide (j = i)) m + 1 = cnt d m
  | m + 1, hi, hd => by
    simp only [cnt]
    by_cases e : i = m
    · subst e
      have : cnt (fun j => d j || decide (j = i)) i = cnt d i := cnt_same fun j hj => by simp [show j ≠ i by omega]
      rw [this]; simp [hd]
    · have := cnt_more (m := m) (by omega) hd
      have hm : m ≠ i := fun h => e h.symm
      simp only [hm, decide_false, Bool.or_false]
      omega
theorem Inv.congr {X : List Deferred} {W : Nat → Prop} {m : Nat} {tr : Nat → Tr} {t0 : List Value} {H0 : IHeap} {n0 m0 : Nat} {ρ0 : Ren} {w0 : World} {d d' : Nat → Bool} {a : Act} {w : World} {ρ : Ren}
    (I : Inv X W m tr t0 H0 n0 m0 ρ0 w0 d a w ρ) (h : ∀ j, j < m → d j = d' j) : Inv X W m tr t0 H0 n0 m0 ρ0 w0 d' a w ρ := by
  have h1 : ∀ u, sT tr t0 n0 d' m u = sT tr t0 n0 d m u := fun u => sT_congr tr t0 n0 m fun j hj _ => (h j hj).symm
  have h2 : ∀ u, sH tr H0 n0 d' m u = sH tr H0 n0 d m u := fun u => sH_congr tr H0 n0 m fun j hj _ => (h j hj).symm
  refine ⟨I.size, I.coll, fun u hu => by rw [h1]; exact I.val u hu, fun id o ho => by rw [h2] at ho ⊢; exact I.obj id o ho, fun i j o p r κ κ' hi hj => by rw [h2] at hi hj; exact I.inj i j o p r κ κ' hi hj, ?_, I.step, I.base, I.mle, I.fresh⟩
  intro id x hx
  rcases I.dom id x hx with h3 | ⟨j, h3, h4, h5⟩
  · exact .inl h3
  · exact .inr ⟨j, h3, by rw [← h j h3]; exact h4, h5⟩
/-- the edges of a region, and who is before whom -/
structure Edges (ops : Array Oper) (pre : Nat → List Nat) : Prop where
  lt : ∀ i o, ops[i]? = some o → ∀ e ∈ o.after.toList, Region.binds .any e = true → e.on < i
  pre : ∀ i o, ops[i]? = some o → ∀ j ∈ pre i, ∃ e ∈ o.after.toList, Region.binds .any e = true ∧ (j = e.on ∨ j ∈ pre e.on)
theorem drawn_any {X : List Deferred} {R : Option Nat} {P : Program} {ops : Array Oper} {Q : Exit → Act → World → Prop} {W : Nat → Prop} {tr : Nat → Tr} {pre : Nat → List Nat} {t0 : List Value} {H0 : IHeap} {n0 : Nat}
    (h : Drawn P R ops Q W ops.size tr pre t0 H0 n0) (he : Edges ops pre) {m0 : Nat} {ρ0 : Ren} {w0 : World}
    (hQ : ∀ a w ρ, Inv X W ops.size tr t0 H0 n0 m0 ρ0 w0 (fun _ => true) a w ρ → Q .normal a w) :
    ∀ (fuel : Nat) (listed : Array Bool) (a : Act) (w : World) (ρ : Ren), listed.size = ops.size → cnt (fun j => listed.getD j false) ops.size = fuel →
      (∀ j, j < ops.size → listed.getD j false = true → ∀ k ∈ pre j, listed.getD k false = true) → Inv X W ops.size tr t0 H0 n0 m0 ρ0 w0 (fun j => listed.getD j false) a w ρ → wpAnyIn (FW R) 0 P .any ops Q fuel listed a w := by
  have hedge : ∀ (listed : Array Bool) i, i ∈ Region.ready .any ops listed → i < ops.size ∧ (listed.size = ops.size → listed.getD i false = false) ∧
      ∀ o, ops[i]? = some o → ∀ e ∈ o.after.toList, Region.binds .any e = true → listed.getD e.on false = true := by
    intro listed i hi
    simp only [Region.ready, List.mem_filter, List.mem_range, Bool.and_eq_true, Bool.not_eq_true'] at hi
    obtain ⟨h1, h2, h3⟩ := hi
    refine ⟨h1, fun hs => ?_, fun o ho e hem hb => ?_⟩
    · have : i < listed.size := by omega
      simpa [Array.getD_eq_getD_getElem?, this] using h2
    · simp only [ho, Option.map_some, Option.getD_some] at h3
      have := (Array.all_eq_true_iff_forall_mem.1 h3) e (by simpa using hem)
      rw [hb] at this
      simpa using this
  have hready : ∀ (listed : Array Bool), listed.size = ops.size → Region.ready .any ops listed = [] → ∀ i, i < ops.size → listed.getD i false = true := by
    intro listed hs hr i
    induction i using Nat.strongRecOn with
    | _ i ih =>
      intro hi
      cases hd : listed.getD i false with
      | true => rfl
      | false =>
        exfalso
        have hm : i ∈ Region.ready .any ops listed := by
          simp only [Region.ready, List.mem_filter, List.mem_range, Bool.and_eq_true, Bool.not_eq_true']
          refine ⟨hi, ?_, ?_⟩
          · have : i < listed.size := by omega
            simpa [Array.getD_eq_getD_getElem?, this] using hd
          · have ho : ops[i]? = some ops[i] := by simp
            simp only [ho, Option.map_some, Option.getD_some]
            rw [Array.all_eq_true_iff_forall_mem]
            intro e hem
            cases hb : Region.binds .any e with
            | false => simp
            | true =>
              have hlt := he.lt i _ ho e (by simpa using hem) hb
              simp [ih e.on hlt (by omega)]
        rw [hr] at hm; cases hm
  intro fuel
  induction fuel with
  | zero =>
    intro listed a w ρ hs hc hcl I
    have hall := cnt_zero hc
    refine ⟨?_, hQ a w ρ (I.congr hall)⟩
    rw [List.eq_nil_iff_forall_not_mem]
    intro i hi
    have h1 := hedge listed i hi
    have := h1.2.1 hs
    rw [hall i h1.1] at this; cases this
  | succ fuel ih =>
    intro listed a w ρ hs hc hcl I
    refine ⟨fun hr => hQ a w ρ (I.congr (hready listed hs hr)), fun i hi => ?_⟩
    obtain ⟨h1, h2, h3⟩ := hedge listed i hi
    have hdi := h2 hs
    have ho : ops[i]? = some ops[i] := by simp
    have hpre : ∀ j ∈ pre i, listed.getD j false = true := by
      intro j hj
      obtain ⟨e, e1, e2, e3⟩ := he.pre i _ ho j hj
      have hon := h3 _ ho e e1 e2
      rcases e3 with rfl | e3
      · exact hon
      · have := he.lt i _ ho e e1 e2
        exact hcl e.on (by omega) hon j e3
    have hset : ∀ j, (listed.setIfInBounds i true).getD j false = (listed.getD j false || decide (j = i)) := by
      intro j
      simp only [Array.getD_eq_getD_getElem?, Array.getElem?_setIfInBounds]
      by_cases e : i = j
      · subst e; simp [show i < listed.size by omega]
      · simp [e, Ne.symm e]
    refine I.more h h1 hdi hpre hcl fun a' w' ρ' I' => ?_
    refine ih _ a' w' ρ' (by simpa using hs) ?_ ?_ (I'.congr fun j _ => (hset j).symm)
    · rw [cnt_same fun j _ => hset j]
      have := cnt_more (d := fun j => listed.getD j false) h1 hdi
      omega
    · intro j hj hdj k hk
      rw [hset] at hdj ⊢
      by_cases e : j = i
      · subst e; rw [hpre k hk]; rfl
      · simp only [e, decide_false, Bool.or_false] at hdj
        rw [hcl j hj hdj k hk]; rfl
end Go.Proofs.Ytdnnojblneccdaa
/-
  What an operation sees of the memory; the conditions of a region whose order is open, by going through it in the order of the text.
-/
namespace Go.Proofs.Ytdnnojblneccdaa
set_option linter.unusedSimpArgs false
set_option linter.unusedVariables false
open Go
def blk : Value → List Nat
  | .pointer (some a) => [a.block]
  | .slice (some a) _ _ => [a.block]
  | .map (some r) => [r]
  | _ => []
def mblk : Value → List Nat
  | .map (some r) => [r]
  | _ => []
def lens : Callee → Bool
  | .builtin .len | .builtin .cap => true
  | _ => false
/-- the rows that an operation reads or writes, calls of functions left out -/
def seesIds (e : Operand → Value) : Op → List Nat
  | .load _ a => blk (e a)
  | .store _ a _ => blk (e a)
  | .convert _ _ x => blk (e x)
  | .call c => c.args.toList.flatMap fun x => cond (lens c.callee) (mblk (e x)) (blk (e x))
  | _ => []
def restr (l : List Nat) (H : IHeap) : IHeap := fun id => if id ∈ l then H id else none
theorem restr_le (l : List Nat) (H : IHeap) : (restr l H).le H := fun id o h => by
  unfold restr at h; split at h
  · exact h
  · cases h
theorem srcCells_restr {l : List Nat} {H : IHeap} {sz : Nat} {x : Value} (h : ∀ id ∈ blk x, id ∈ l) : srcCells (restr l H) sz x = srcCells H sz x := by
  unfold srcCells
  split
  · rfl
  · simp only [restr]; rw [if_pos (h _ (by simp [blk]))]
  · rfl
  · rfl
theorem iop_restr {D : Ty} {K : Kinds} {e : Operand → Value} {H : IHeap} {n : Nat} (op : Op) : iop D K e (restr (seesIds e op) H) n op = iop D K e H n op := by
  cases op with
  | load t a =>
    simp only [iop, doLoad, seesIds]
    split
    · rename_i id off he
      simp only [he, blk, restr, List.mem_singleton, if_true]
    · rfl
  | store t a x =>
    simp only [iop, doStore, seesIds]
    split
    · rename_i id off he
      simp only [he, blk, restr, List.mem_singleton, if_true]
    · rfl
  | convert s d x =>
    simp only [iop, doConvert, seesIds]
    split
    · split
      · rfl
      · rfl
      · rfl
      · rename_i el id off len cap hk hx
        simp only [hx, blk, restr, List.mem_singleton, if_true]
      · rename_i a len cap hk hx
        have h1 : srcCells (restr (blk (.slice a len cap)) H) 1 (.slice a len cap) = srcCells H 1 (.slice a len cap) := srcCells_restr (fun id h => h)
        simp only [hx, h1]
      · rfl
    · rfl
  | call c =>
    obtain ⟨callee, args, argTypes⟩ := c
    cases callee with
    | value f => rfl
    | invoke r m => rfl
    | builtin b =>
      simp only [iop]
      have hmem : ∀ {xs : List Value}, args.toList.map e = xs → ∀ x ∈ xs, ∀ id ∈ cond (lens (.builtin b)) (mblk x) (blk x), id ∈ seesIds e (.call ⟨.builtin b, args, argTypes⟩) := by
        rintro xs rfl x hx id hid
        obtain ⟨o, ho, rfl⟩ := List.mem_map.1 hx
        exact List.mem_flatMap.2 ⟨o, ho, hid⟩
      generalize hl : seesIds e (.call ⟨.builtin b, args, argTypes⟩) = l at hmem ⊢
      generalize hxs : args.toList.map e = xs at hmem ⊢
      have hm := hmem rfl
      unfold doBuiltin
      split
      · rename_i x
        cases argTypes[0]?.bind D with
        | none => rfl
        | some d =>
          simp only [Option.bind_some]
          cases d.k <;> cases x <;> try rfl
          rename_i kk ee r
          cases r with
          | none => rfl
          | some id => simp only [restr]; rw [if_pos (hm (.map (some id)) (by simp) id (by simp [lens, mblk]))]
      · rfl
      · rfl
      · rfl
      · rename_i s x
        cases argTypes[0]? with
        | none => rfl
        | some t =>
          cases argTypes[1]? with
          | none => rfl
          | some t2 =>
            simp only [Option.bind_some, doAppend]
            have hs : ∀ sz, srcCells (restr l H) sz s = srcCells H sz s := fun sz => srcCells_restr (by simpa [lens] using hm s (by simp))
            have hx : ∀ sz, srcCells (restr l H) sz x = srcCells H sz x := fun sz => srcCells_restr (by simpa [lens] using hm x (by simp))
            have ha : ∀ de, srcArg D (restr l H) t2 de x = srcArg D H t2 de x := by
              intro de
              unfold srcArg
              cases D t2 with
              | none => rfl
              | some d2 =>
                simp only [Option.bind_some]
                split
                · rfl
                · rfl
                · rw [hx]
            split
            · rename_i base len cap d hd
              have hb : ∀ a : Addr, base = some a → restr l H a.block = H a.block := by
                rintro a rfl
                simp only [restr]; rw [if_pos (hm (.slice (some a) len cap) (by simp) a.block (by simp [lens, blk]))]
              cases hdk : d.k <;> try rfl
              rename_i el
              simp only
              congr 1; funext de
              rw [ha]
              congr 1; funext p
              split
              · cases base with
                | none => rfl
                | some a => simp only [hb a rfl]
              · split
                · cases base with
                  | none => rfl
                  | some a =>
                    obtain ⟨id, off, sp⟩ := a
                    cases sp with
                    | none => simp only [hs]
                    | some sz => have := hb _ rfl; simp only at this ⊢; rw [this]
                · rfl
            · rfl
      · rename_i s x
        cases argTypes[0]? with
        | none => rfl
        | some t =>
          simp only [Option.bind_some, doCopy]
          have hx : ∀ sz, srcCells (restr l H) sz x = srcCells H sz x := fun sz => srcCells_restr (by simpa [lens] using hm x (by simp))
          split
          · rename_i base len cap d hd
            cases hdk : d.k <;> try rfl
            rename_i el
            simp only
            cases D el with
            | none => rfl
            | some de =>
              cases srcLen x with
              | none => rfl
              | some k =>
                simp only [hx]
                cases base with
                | none => rfl
                | some a => simp only [restr]; rw [if_pos (hm (.slice (some a) len cap) (by simp) a.block (by simp [lens, blk]))]
          · rfl
      · rfl
  | _ => rfl
inductive Vis where
  | ids (l : List Nat)
  | all (news : List Nat)
/-- what one operation left behind, for those that come later -/
structure Left where
  up : Ups
  vis : Vis
/-- the number is not seen -/
def Vis.clear (n0 : Nat) : Vis → Nat → Prop
  | .ids l, id => id ∉ l
  | .all news, id => n0 ≤ id ∧ id ∉ news
def isCall : Op → Bool
  | .call c => match c.callee with | .value _ => true | _ => false
  | _ => false
def apart2 (n0 : Nat) (pre : List Nat) (x : Left) : List Left → Nat → Prop
  | [], _ => True
  | y :: ys, j => (j ∈ pre ∨ ((∀ p ∈ x.up, y.vis.clear n0 p.1) ∧ ∀ p ∈ y.up, x.vis.clear n0 p.1)) ∧ apart2 n0 pre x ys (j + 1)
/-- the updates of those that come before, in the order of the text -/
def upsOf (pre : List Nat) : List Left → Nat → Ups
  | [], _ => []
  | y :: ys, j => if j ∈ pre then y.up ++ upsOf pre ys (j + 1) else upsOf pre ys (j + 1)
def allUps (l : List Left) : Ups := l.flatMap (·.up)
/-- what the operation sees -/
def seenH (e : Operand → Value) (op : Op) (H : IHeap) : IHeap := if isCall op then H else restr (seesIds e op) H
def visOf (e : Operand → Value) (op : Op) (news : List Nat) : Vis := if isCall op then .all news else .ids (seesIds e op)
def vcD (Γ : Fns) (D : Ty) (K : Kinds) (W : Nat → Prop) (ops : Array Oper) (H0 : IHeap) (n0 : Nat) (Q : Post3) : List Oper → List (List Nat) → List Left → List Value → Nat → Prop
  | [], _, acc, t, n => Q t (upds H0 (allUps acc)) n
  | _ :: _, [], _, _, _ => False
  | o :: os, pre :: pres, acc, t, n => wpo (wantedI ops t o) fun b =>
      (b = true → wpo (iopC Γ D K (ev t) (upds H0 (upsOf pre acc 0)) n o.op) fun ef =>
        (∀ p ∈ ef.up, W p.1 ∧ (n ≤ p.1 ∨ (seenH (ev t) o.op (upds H0 (upsOf pre acc 0)) p.1).isSome = true) ∧ p.1 < ef.n) ∧ n ≤ ef.n ∧
        apart2 n0 pre ⟨ef.up, visOf (ev t) o.op ((upsOf pre acc 0).map (·.1))⟩ acc 0 ∧
        vcD Γ D K W ops H0 n0 Q os pres (acc ++ [⟨ef.up, visOf (ev t) o.op ((upsOf pre acc 0).map (·.1))⟩]) (tput t o.dst ef.v) ef.n) ∧
      (b = false → vcD Γ D K W ops H0 n0 Q os pres (acc ++ [⟨[], .ids []⟩]) (tput t o.dst (.chan none)) n)
theorem iopC_seen {Γ : Fns} {D : Ty} {K : Kinds} {e : Operand → Value} {H : IHeap} {n : Nat} (op : Op) : iopC Γ D K e (seenH e op H) n op = iopC Γ D K e H n op := by
  unfold seenH
  split
  · rfl
  · rename_i h
    unfold iopC
    split
    · rename_i c
      split
      · rename_i f hf
        exact absurd (by simp [isCall, hf]) h
      · exact iop_restr _
    · exact iop_restr _
end Go.Proofs.Ytdnnojblneccdaa
/-
  The region whose order is open, from its conditions.
-/
namespace Go.Proofs.Ytdnnojblneccdaa
set_option linter.unusedSimpArgs false
set_option linter.unusedVariables false
open Go
def trOf (l : List Tr) (nf : Nat) : Nat → Tr := fun j => (l[j]?).getD ⟨none, .tuple #[], [], nf, nf, fun _ => none, []⟩
theorem trOf_lt {l : List Tr} {nf nf' : Nat} {r : List Tr} {j : Nat} (h : j < l.length) : trOf (l ++ r) nf' j = trOf l nf j := by
  unfold trOf
  rw [List.getElem?_append_left h, List.getElem?_eq_getElem h]; rfl
theorem trOf_at {l : List Tr} {nf : Nat} {x : Tr} {r : List Tr} : trOf (l ++ x :: r) nf l.length = x := by
  simp [trOf]
theorem trOf_ge {l : List Tr} {nf j : Nat} (h : l.length ≤ j) : trOf l nf j = ⟨none, .tuple #[], [], nf, nf, fun _ => none, []⟩ := by
  simp [trOf, List.getElem?_eq_none h]
theorem sT_tr {tr tr' : Nat → Tr} {t0 : List Value} {n0 : Nat} {d : Nat → Bool} {u : Nat} : ∀ k, (∀ j, j < k → tr j = tr' j) → sT tr t0 n0 d k u = sT tr' t0 n0 d k u
  | 0, _ => rfl
  | k + 1, h => by simp only [sT]; rw [sT_tr k fun j hj => h j (by omega), h k (by omega)]
theorem sH_tr {tr tr' : Nat → Tr} {H0 : IHeap} {n0 : Nat} {d : Nat → Bool} {u : Nat} : ∀ k, (∀ j, j < k → tr j = tr' j) → sH tr H0 n0 d k u = sH tr' H0 n0 d k u
  | 0, _ => rfl
  | k + 1, h => by simp only [sH]; rw [sH_tr k fun j hj => h j (by omega), h k (by omega)]
/-- operands and guard -/
def usesOf (ops : Array Oper) (o : Oper) : List Nat :=
  (o.op.operands.toList.filterMap fun | .tmp t => some t | _ => none) ++
  (match o.guard with
   | some (g, _) => ((ops[g]?).bind (·.dst)).toList
   | none => [])
/-- the closed look at a region: its edges, who is before whom, who writes which variable -/
def regOk (len : Nat) (ops : List Oper) (pres : List (List Nat)) : Bool :=
  let pre := fun i => pres.getD i []
  ops.length == pres.length &&
  (ops.zipIdx.all fun (o, i) =>
    (o.after.toList.all fun e => !Region.binds .any e || e.on < i) &&
    ((pre i).all fun j => decide (j < i) && o.after.toList.any fun e => Region.binds .any e && (j == e.on || (pre e.on).contains j)) &&
    ((usesOf ops.toArray o).all fun u => ops.zipIdx.all fun (p, j) => j == i || p.dst != some u || (pre i).contains j || (pre j).contains i) &&
    (match o.dst with
     | none => true
     | some u => decide (u < len) && ops.zipIdx.all fun (p, j) => j == i || p.dst != some u || (pre i).contains j || (pre j).contains i))
structure RegOk (tl : Nat) (ops : Array Oper) (pres : List (List Nat)) : Prop where
  len : ops.size = pres.length
  lt : ∀ i o, ops[i]? = some o → ∀ e ∈ o.after.toList, Region.binds .any e = true → e.on < i
  pre : ∀ i o, ops[i]? = some o → ∀ j ∈ pres.getD i [], j < i ∧ ∃ e ∈ o.after.toList, Region.binds .any e = true ∧ (j = e.on ∨ j ∈ pres.getD e.on [])
  uses : ∀ i o, ops[i]? = some o → ∀ u ∈ usesOf ops o, ∀ j p, ops[j]? = some p → j ≠ i → p.dst = some u → j ∈ pres.getD i [] ∨ i ∈ pres.getD j []
  dsts : ∀ i o u, ops[i]? = some o → o.dst = some u → u < tl ∧ ∀ j p, ops[j]? = some p → j ≠ i → p.dst = some u → j ∈ pres.getD i [] ∨ i ∈ pres.getD j []
theorem regOk_ok {tl : Nat} {ops : List Oper} {pres : List (List Nat)} (h : regOk tl ops pres = true) : RegOk tl ops.toArray pres := by
  simp only [regOk, Bool.and_eq_true, beq_iff_eq, List.all_eq_true] at h
  obtain ⟨h0, h⟩ := h
  have hz : ∀ {i : Nat} {o : Oper}, ops.toArray[i]? = some o → (o, i) ∈ ops.zipIdx := by
    intro i o ho
    rw [List.mem_iff_getElem?]
    exact ⟨i, by simp only [List.getElem?_zipIdx]; simp at ho; simp [ho]⟩
  refine ⟨by simpa using h0, ?_, ?_, ?_, ?_⟩
  · intro i o ho e he hb
    have := (h _ (hz ho)).1.1.1 e he
    simp only [hb, Bool.not_true, Bool.false_or, decide_eq_true_eq] at this
    exact this
  · intro i o ho j hj
    have := (h _ (hz ho)).1.1.2 j hj
    simp only [Bool.and_eq_true, decide_eq_true_eq, List.any_eq_true, Bool.or_eq_true, beq_iff_eq, List.contains_iff_mem] at this
    obtain ⟨h1, e, h2, h3, h4⟩ := this
    exact ⟨h1, e, h2, h3, h4⟩
  · intro i o ho u hu j p hp hne hd
    have := (h _ (hz ho)).1.2 u hu _ (hz hp)
    simp only [hd, bne_self_eq_false, Bool.or_false, Bool.or_eq_true, beq_iff_eq, List.contains_iff_mem] at this
    rcases this with (h1 | h1) | h1
    · exact absurd h1 hne
    · exact .inl h1
    · exact .inr h1
  · intro i o u ho hd
    have := (h _ (hz ho)).2
    simp only [hd, Bool.and_eq_true, decide_eq_true_eq, List.all_eq_true] at this
    refine ⟨this.1, fun j p hp hne hd2 => ?_⟩
    have := this.2 _ (hz hp)
    simp only [hd2, bne_self_eq_false, Bool.or_false, Bool.or_eq_true, beq_iff_eq, List.contains_iff_mem] at this
    rcases this with (h1 | h1) | h1
    · exact absurd h1 hne
    · exact .inl h1
    · exact .inr h1
theorem upsOf_sH {accT : List Tr} {accL : List Left} {pre : List Nat} {H0 : IHeap} {n0 nf : Nat} (hl : accL.length = accT.length) (hu : ∀ (j : Nat) x y, accT[j]? = some x → accL[j]? = some y → x.up = y.up) (id : Nat) :
    upds H0 (upsOf pre accL 0) id = (sH (trOf accT nf) H0 n0 (fun j => decide (j ∈ pre)) accT.length id).1 := by
  have key : ∀ (k : Nat), k ≤ accT.length → upds H0 (upsOf pre (accL.take k) 0) id = (sH (trOf accT nf) H0 n0 (fun j => decide (j ∈ pre)) k id).1 := by
    have happ : ∀ (l : List Left) (x : Left) (j : Nat), upsOf pre (l ++ [x]) j = upsOf pre l j ++ (if j + l.length ∈ pre then x.up else []) := by
      intro l
      induction l with
      | nil => intro x j; simp [upsOf]
      | cons y l ih =>
        intro x j
        simp only [List.cons_append, upsOf, ih, List.length_cons]
        have : j + 1 + l.length = j + (l.length + 1) := by omega
        rw [this]
        split <;> simp
    intro k
    induction k with
    | zero => intro _; simp [upsOf, upds, sH]
    | succ k ih =>
      intro hk
      have hkL : k < accL.length := by omega
      have hkT : k < accT.length := by omega
      rw [List.take_succ_eq_append_getElem hkL, happ, upds_append]
      simp only [Nat.zero_add, List.length_take, Nat.min_eq_left (Nat.le_of_lt hkL), sH]
      have hx : (trOf accT nf k) = accT[k] := by simp [trOf, hkT]
      have hup : (accT[k]).up = (accL[k]).up := hu k _ _ (by simp [hkT]) (by simp [hkL])
      rw [hx]
      by_cases hm : k ∈ pre
      · simp only [hm, if_true, decide_true, true_and]
        by_cases hid : id ∈ (accT[k]).up.map (·.1)
        · rw [if_pos hid]
          rw [hup] at hid ⊢
          exact upds_mem hid
        · rw [if_neg hid]
          rw [hup] at hid
          rw [upds_not_mem hid]; exact ih (by omega)
      · simp only [hm, if_false, decide_false, Bool.false_eq_true, false_and, upds]
        exact ih (by omega)
  have := key accT.length (Nat.le_refl _)
  rwa [← hl, List.take_length, hl] at this
theorem all_sH {accT : List Tr} {accL : List Left} {H0 : IHeap} {n0 nf : Nat} (hl : accL.length = accT.length) (hu : ∀ (j : Nat) x y, accT[j]? = some x → accL[j]? = some y → x.up = y.up) (id : Nat) :
    upds H0 (allUps accL) id = (sH (trOf accT nf) H0 n0 (fun _ => true) accT.length id).1 := by
  have h1 : allUps accL = upsOf (List.range accL.length) accL 0 := by
    have : ∀ (l : List Left) (j m : Nat), j + l.length ≤ m → upsOf (List.range m) l j = allUps l := by
      intro l
      induction l with
      | nil => intro j m _; rfl
      | cons y l ih =>
        intro j m hm
        simp only [List.length_cons] at hm
        simp only [upsOf, allUps, List.flatMap_cons]
        rw [if_pos (by simp; omega), ih (j + 1) m (by omega)]
        rfl
    rw [this accL 0 accL.length (by omega)]
  rw [h1, upsOf_sH (n0 := n0) (nf := nf) hl hu id]
  rw [sH_congr (d' := fun _ => true) (trOf accT nf) H0 n0 accT.length fun j hj _ => by simp [hl, hj]]
theorem apart2_get {n0 : Nat} {pre : List Nat} {x : Left} : ∀ {l : List Left} {j : Nat}, apart2 n0 pre x l j → ∀ (k : Nat) y, l[k]? = some y → j + k ∉ pre → (∀ p ∈ x.up, y.vis.clear n0 p.1) ∧ ∀ p ∈ y.up, x.vis.clear n0 p.1
  | [], _, _, k, y, h, _ => by simp at h
  | z :: l, j, h, k, y, hk, hn => by
    simp only [apart2] at h
    cases k with
    | zero =>
      simp only [List.getElem?_cons_zero, Option.some.injEq] at hk
      subst hk
      exact h.1.resolve_left (by simpa using hn)
    | succ k => exact apart2_get h.2 k y (by simpa using hk) (by rw [show j + 1 + k = j + (k + 1) by omega]; exact hn)
/-- what has been gone through -/
structure Good (P : Program) (R : Option Nat) (ops : Array Oper) (Q : Exit → Act → World → Prop) (W : Nat → Prop) (pres : List (List Nat)) (t0 : List Value) (H0 : IHeap) (n0 : Nat) (accT : List Tr) (accL : List Left) (t : List Value) (n : Nat) : Prop where
  len : accL.length = accT.length
  ups : ∀ (j : Nat) x y, accT[j]? = some x → accL[j]? = some y → x.up = y.up
  ofOp : ∀ j, j < accT.length → ∃ o, ops[j]? = some o ∧ (trOf accT n j).dst = o.dst ∧ (trOf accT n j).uses = usesOf ops o
  first : 0 < accT.length → (trOf accT n 0).n = n0
  cur : accT.length = 0 → n = n0
  next : ∀ j, (trOf accT n (j + 1)).n = (trOf accT n j).n'
  mono : ∀ j, (trOf accT n j).n ≤ (trOf accT n j).n'
  tlen : t.length = t0.length
  tval : ∀ u, t.getD u (.tuple #[]) = (sT (trOf accT n) t0 n0 (fun _ => true) accT.length u).1
  sees : ∀ i, i < accT.length → ∀ id o, (trOf accT n i).H id = some o → (sH (trOf accT n) H0 n0 (fun j => decide (j ∈ pres.getD i [])) i id).1 = some o
  apart : ∀ i, i < accT.length → ∀ j, j < accT.length → j ≠ i → j ∉ pres.getD i [] → i ∉ pres.getD j [] → ∀ id ∈ (trOf accT n j).ids, (trOf accT n i).H id = none
  ids : ∀ i, i < accT.length → ∀ id ∈ (trOf accT n i).ids, ((trOf accT n i).n ≤ id ∨ ((trOf accT n i).H id).isSome) ∧ id < (trOf accT n i).n'
  wr : ∀ i, i < accT.length → ∀ id ∈ (trOf accT n i).ids, W id
  run : ∀ i, i < accT.length → ∀ (ρ : Ren) (a : Act) (w : World), a.tmps.size = t0.length → (∀ u ∈ (trOf accT n i).uses, VR ρ (sT (trOf accT n) t0 n0 (fun _ => true) i u).1 (a.tmps.getD u undef)) → Below (trOf accT n i).n ρ → HR ρ (trOf accT n i).H w →
    ∀ K : Act → World → Prop, (∀ v' w' ρ', Post ρ (trOf accT n i).H (trOf accT n i).n ⟨(trOf accT n i).v, (trOf accT n i).up, (trOf accT n i).n'⟩ v' ρ' w w' → K (a.put (trOf accT n i).dst v') w') → wpOpIn (FW R) 0 P ops Q i K a w
  vis : ∀ (j : Nat) y, accL[j]? = some y → ∀ id, y.vis.clear n0 id → (trOf accT n j).H id = none
/-- one more operation gone through -/
theorem Good.snoc {R : Option Nat} {P : Program} {ops : Array Oper} {Q : Exit → Act → World → Prop} {W : Nat → Prop} {pres : List (List Nat)} {t0 : List Value} {H0 : IHeap} {n0 : Nat} {accT : List Tr} {accL : List Left} {t : List Value} {n : Nat}
    (G : Good P R ops Q W pres t0 H0 n0 accT accL t n) {o : Oper} (ho : ops[accT.length]? = some o) (x : Tr) (y : Left) (h1 : x.dst = o.dst) (h2 : x.uses = usesOf ops o) (h3 : x.n = n) (h4 : x.n ≤ x.n') (h5 : x.up = y.up)
    (h6 : ∀ id o', x.H id = some o' → upds H0 (upsOf (pres.getD accT.length []) accL 0) id = some o')
    (h7 : apart2 n0 (pres.getD accT.length []) y accL 0) (h8 : ∀ id ∈ x.ids, (x.n ≤ id ∨ (x.H id).isSome) ∧ id < x.n') (h9 : ∀ id ∈ x.ids, W id) (h10 : ∀ id, y.vis.clear n0 id → x.H id = none)
    (h11 : ∀ (ρ : Ren) (a : Act) (w : World), a.tmps.size = t0.length → (∀ u ∈ x.uses, VR ρ (t.getD u (.tuple #[])) (a.tmps.getD u undef)) → Below x.n ρ → HR ρ x.H w →
      ∀ K : Act → World → Prop, (∀ v' w' ρ', Post ρ x.H x.n ⟨x.v, x.up, x.n'⟩ v' ρ' w w' → K (a.put x.dst v') w') → wpOpIn (FW R) 0 P ops Q accT.length K a w)
    (h12 : ∀ u, o.dst = some u → u < t0.length) :
    Good P R ops Q W pres t0 H0 n0 (accT ++ [x]) (accL ++ [y]) (tput t o.dst x.v) x.n' := by
  have hlt : ∀ {j}, j < accT.length → trOf (accT ++ [x]) x.n' j = trOf accT n j := fun h => trOf_lt h
  have hat : trOf (accT ++ [x]) x.n' accT.length = x := trOf_at
  have hge : ∀ {j}, accT.length < j → trOf (accT ++ [x]) x.n' j = ⟨none, .tuple #[], [], x.n', x.n', fun _ => none, []⟩ := fun h => trOf_ge (by simp; omega)
  have hsT : ∀ (d : Nat → Bool) k, k ≤ accT.length → ∀ u, sT (trOf (accT ++ [x]) x.n') t0 n0 d k u = sT (trOf accT n) t0 n0 d k u := fun d k hk u => sT_tr k fun j hj => hlt (by omega)
  have hsH : ∀ (d : Nat → Bool) k, k ≤ accT.length → ∀ u, sH (trOf (accT ++ [x]) x.n') H0 n0 d k u = sH (trOf accT n) H0 n0 d k u := fun d k hk u => sH_tr k fun j hj => hlt (by omega)
  have hlen : (accT ++ [x]).length = accT.length + 1 := by simp
  have split : ∀ {j}, j < (accT ++ [x]).length → j < accT.length ∨ j = accT.length := fun h => by rw [hlen] at h; omega
  have hpair : ∀ j, j < accT.length → j ∉ pres.getD accT.length [] → (∀ id ∈ x.ids, (trOf accT n j).H id = none) ∧ ∀ id ∈ (trOf accT n j).ids, x.H id = none := by
    intro j hj hn
    have hjL : j < accL.length := by rw [G.len]; exact hj
    obtain ⟨a1, a2⟩ := apart2_get h7 j accL[j] (by simp [hjL]) (by simpa using hn)
    constructor
    · intro id hid
      rw [Tr.ids, h5] at hid
      obtain ⟨p, hp, rfl⟩ := List.mem_map.1 hid
      exact G.vis j accL[j] (by simp [hjL]) _ (a1 p hp)
    · intro id hid
      have hu := G.ups j accT[j] accL[j] (by simp [hj]) (by simp [hjL])
      have hx : trOf accT n j = accT[j] := by simp [trOf, hj]
      rw [hx, Tr.ids, hu] at hid
      obtain ⟨p, hp, rfl⟩ := List.mem_map.1 hid
      exact h10 _ (a2 p hp)
  refine ⟨by simp [G.len], ?_, ?_, ?_, ?_, ?_, ?_, ?_, ?_, ?_, ?_, ?_, ?_, ?_, ?_⟩
  · intro j a b ha hb
    by_cases hj : j < accT.length
    · rw [List.getElem?_append_left hj] at ha
      rw [List.getElem?_append_left (by rw [G.len]; exact hj)] at hb
      exact G.ups j a b ha hb
    · have hjl : j = accT.length := by
        have := (List.getElem?_eq_some_iff.1 ha).1
        simp at this; omega
      subst hjl
      rw [List.getElem?_append_right (Nat.le_refl _)] at ha
      rw [List.getElem?_append_right (by rw [G.len]; exact Nat.le_refl _)] at hb
      simp [G.len] at ha hb
      rw [← ha, ← hb]; exact h5
  · intro j hj
    rcases split hj with h | rfl
    · rw [hlt h]; exact G.ofOp j h
    · rw [hat]; exact ⟨o, ho, h1, h2⟩
  · intro _
    by_cases h0 : 0 < accT.length
    · rw [hlt h0]; exact G.first h0
    · have hz : accT.length = 0 := by omega
      have := hat; rw [hz] at this; rw [this, h3]; exact G.cur hz
  · intro h; simp at h
  · intro j
    rcases Nat.lt_trichotomy (j + 1) accT.length with h | h | h
    · rw [hlt h, hlt (by omega)]; exact G.next j
    · rw [h, hat, hlt (by omega), h3]
      have := G.next j
      rw [h, trOf_ge (Nat.le_refl _)] at this
      exact this
    · by_cases hj : j = accT.length
      · subst hj; rw [hat, hge (by omega)]
      · rw [hge h, hge (by omega)]
  · intro j
    rcases Nat.lt_trichotomy j accT.length with h | rfl | h
    · rw [hlt h]; exact G.mono j
    · rw [hat]; exact h4
    · rw [hge h]; exact Nat.le_refl _
  · cases hd : o.dst <;> simp [tput, G.tlen]
  · intro u
    rw [hlen]
    simp only [sT, true_and, hat, h1]
    by_cases hu : o.dst = some u
    · rw [if_pos hu, hu]
      have := h12 u hu
      simp [tput, List.getD_eq_getElem?_getD, G.tlen, this]
    · rw [if_neg hu, hsT _ _ (Nat.le_refl _), ← G.tval u]
      cases hd : o.dst with
      | none => rfl
      | some q =>
        have : q ≠ u := fun e => hu (by rw [hd, e])
        simp [tput, List.getD_eq_getElem?_getD, List.getElem?_set, this]
  · intro i hi id o' hH
    rcases split hi with h | rfl
    · rw [hlt h] at hH
      rw [hsH _ i (by omega)]
      exact G.sees i h id o' hH
    · rw [hat] at hH
      rw [hsH _ _ (Nat.le_refl _), ← upsOf_sH (nf := n) G.len G.ups]
      exact h6 id o' hH
  · intro i hi j hj hne hn1 hn2 id hid
    rcases split hi with h | rfl
    · rcases split hj with h' | rfl
      · rw [hlt h]; rw [hlt h'] at hid; exact G.apart i h j h' hne hn1 hn2 id hid
      · rw [hlt h]; rw [hat] at hid; exact (hpair i h hn2).1 id hid
    · rcases split hj with h' | rfl
      · rw [hat]; rw [hlt h'] at hid; exact (hpair j h' hn1).2 id hid
      · exact absurd rfl hne
  · intro i hi id hid
    rcases split hi with h | rfl
    · rw [hlt h] at hid ⊢; exact G.ids i h id hid
    · rw [hat] at hid ⊢; exact h8 id hid
  · intro i hi id hid
    rcases split hi with h | rfl
    · rw [hlt h] at hid; exact G.wr i h id hid
    · rw [hat] at hid; exact h9 id hid
  · intro i hi
    rcases split hi with h | rfl
    · rw [hlt h]
      intro ρ a w e1 e2
      refine G.run i h ρ a w e1 fun u hu => ?_
      have := e2 u hu
      rwa [hsT _ i (by omega)] at this
    · rw [hat]
      intro ρ a w e1 e2
      refine h11 ρ a w e1 fun u hu => ?_
      have := e2 u hu
      rwa [hsT _ _ (Nat.le_refl _), ← G.tval u] at this
  · intro j z hz id hc
    by_cases hj : j < accT.length
    · rw [List.getElem?_append_left (by rw [G.len]; exact hj)] at hz
      rw [hlt hj]; exact G.vis j z hz id hc
    · have hjl : j = accT.length := by
        have := (List.getElem?_eq_some_iff.1 hz).1
        simp [G.len] at this; omega
      subst hjl
      rw [List.getElem?_append_right (by rw [G.len]; exact Nat.le_refl _)] at hz
      simp [G.len] at hz
      rw [hat]; exact h10 id (hz ▸ hc)
end Go.Proofs.Ytdnnojblneccdaa
/-
  Regions, both kinds, as rules.
-/
namespace Go.Proofs.Ytdnnojblneccdaa
set_option linter.unusedSimpArgs false
set_option linter.unusedVariables false
open Go
theorem operand_rel {ρ : Ren} {ops : Array Oper} {o : Oper} {t : List Value} {a : Act} (h : ∀ u ∈ usesOf ops o, VR ρ (t.getD u (.tuple #[])) (a.tmps.getD u undef)) :
    ∀ x ∈ o.op.operands, VR ρ (ev t x) (a.eval x) := by
  intro x hx
  cases x with
  | tmp u =>
    exact h u (List.mem_append_left _ (List.mem_filterMap.2 ⟨.tmp u, by simpa using hx, rfl⟩))
  | const v =>
    simp only [Ytdnnojblneccdaa.ev, Act.eval]
    split
    · exact VR.clo ρ (by assumption)
    · exact .unk _
  | global g => exact .unk _
  | func f => exact .func _ rfl (by simp) rfl (by simp)
theorem wanted_rel {ρ : Ren} {ops : Array Oper} {o : Oper} {t : List Value} {a : Act} {b : Bool} (hs : a.tmps.size = t.length) (h : ∀ u ∈ usesOf ops o, VR ρ (t.getD u (.tuple #[])) (a.tmps.getD u undef))
    (hw : wantedI ops t o = some b) : Region.wanted o (yielded ops a.tmps) = b := by
  unfold wantedI at hw
  unfold Region.wanted
  split at hw
  · rename_i hg; rw [hg]; cases hw; rfl
  · rename_i j want hg
    rw [hg]
    split at hw
    · rename_i d hd
      simp only [Option.bind_eq_some_iff] at hw
      obtain ⟨x, ht, hx⟩ := hw
      · have hu : d ∈ usesOf ops o := List.mem_append_right _ (by simp [hg, hd])
        have h1 := h d hu
        have hdl : d < t.length := (List.getElem?_eq_some_iff.1 ht).1
        simp only [List.getD_eq_getElem?_getD, ht, Option.getD_some, Array.getD_eq_getD_getElem?] at h1
        have hds : d < a.tmps.size := by rw [hs]; exact hdl
        have hda : a.tmps[d]? = some a.tmps[d] := by simp
        rw [hda] at h1
        have := wantV_rel hx h1
        simp only [yielded, hd, Option.bind_some, hda]
        exact this
    · cases hw
section
variable {R : Option Nat} {P : Program} {Γ : Fns} {D : Ty} {K : Kinds}
theorem vcD_good (hE : Env P Γ D K) {W : Nat → Prop} {ops : Array Oper} {pres : List (List Nat)} {t0 : List Value} {H0 : IHeap} {n0 : Nat} {Q : Post3} {Q' : Exit → Act → World → Prop}
    (hR : RegOk t0.length ops pres) (hbase : ∀ id o, H0 id = some o → id < n0) :
    ∀ (os : List Oper) (ps : List (List Nat)) (accT : List Tr) (accL : List Left) (t : List Value) (n : Nat), Good P R ops Q' W pres t0 H0 n0 accT accL t n →
      (∀ i, ops[accT.length + i]? = os[i]?) → (∀ i, pres[accT.length + i]? = ps[i]?) → n0 ≤ n → vcD Γ D K W ops H0 n0 Q os ps accL t n →
      ∃ accT' accL' t' n', Good P R ops Q' W pres t0 H0 n0 accT' accL' t' n' ∧ accT'.length = ops.size ∧ n0 ≤ n' ∧ Q t' (upds H0 (allUps accL')) n'
  | [], ps, accT, accL, t, n, G, h1, h2, hn, hv => by
    refine ⟨accT, accL, t, n, G, ?_, hn, hv⟩
    have h3 := h1 0
    simp only [Nat.add_zero, List.getElem?_nil] at h3
    have h4 : ops.size ≤ accT.length := by simpa [Array.getElem?_eq_none_iff] using h3
    rcases Nat.lt_or_ge accT.length ops.size with h | h
    · omega
    · by_cases he : accT.length = ops.size
      · exact he
      · obtain ⟨o, ho, _⟩ := G.ofOp ops.size (by omega)
        simp at ho
  | o :: os, ps, accT, accL, t, n, G, h1, h2, hn, hv => by
    cases ps with
    | nil => exact hv.elim
    | cons pre ps =>
      have ho : ops[accT.length]? = some o := by have := h1 0; simpa using this
      have hp : pres.getD accT.length [] = pre := by have := h2 0; simp at this; simp [List.getD_eq_getElem?_getD, this]
      have hd : ∀ u, o.dst = some u → u < t0.length := fun u hu => (hR.dsts _ o u ho hu).1
      simp only [vcD] at hv
      have next : ∀ (x : Tr) (y : Left), Good P R ops Q' W pres t0 H0 n0 (accT ++ [x]) (accL ++ [y]) (tput t o.dst x.v) x.n' → n0 ≤ x.n' → vcD Γ D K W ops H0 n0 Q os ps (accL ++ [y]) (tput t o.dst x.v) x.n' →
          ∃ accT' accL' t' n', Good P R ops Q' W pres t0 H0 n0 accT' accL' t' n' ∧ accT'.length = ops.size ∧ n0 ≤ n' ∧ Q t' (upds H0 (allUps accL')) n' := by
        intro x y G' hn' hv'
        refine vcD_good hE hR hbase os ps _ _ _ _ G' (fun i => ?_) (fun i => ?_) hn' hv'
        · have := h1 (i + 1)
          simp only [List.length_append, List.length_singleton, List.getElem?_cons_succ] at this ⊢
          rw [← this]; congr 1; omega
        · have := h2 (i + 1)
          simp only [List.length_append, List.length_singleton, List.getElem?_cons_succ] at this ⊢
          rw [← this]; congr 1; omega
      cases hw : wantedI ops t o with
      | none => rw [hw] at hv; exact hv.elim
      | some b =>
        rw [hw] at hv
        cases b with
        | true =>
          have hv1 := hv.1 rfl
          cases hop : iopC Γ D K (ev t) (upds H0 (upsOf pre accL 0)) n o.op with
          | none => rw [hop] at hv1; exact hv1.elim
          | some ef =>
            rw [hop] at hv1
            obtain ⟨v1, v2, v3, v4⟩ := hv1
            have hop' : iopC Γ D K (ev t) (seenH (ev t) o.op (upds H0 (upsOf pre accL 0))) n o.op = some ef := by rw [iopC_seen]; exact hop
            let x : Tr := ⟨o.dst, ef.v, ef.up, n, ef.n, seenH (ev t) o.op (upds H0 (upsOf pre accL 0)), usesOf ops o⟩
            refine next x ⟨ef.up, visOf (ev t) o.op ((upsOf pre accL 0).map (·.1))⟩ (G.snoc ho x _ rfl rfl rfl v2 rfl ?_ (by rw [hp]; exact v3) ?_ ?_ ?_ ?_ hd) (Nat.le_trans hn v2) v4
            · intro id o' hH
              rw [hp]
              simp only [x, seenH] at hH
              split at hH
              · exact hH
              · exact restr_le _ _ _ _ hH
            · intro id hid
              obtain ⟨p, hp1, rfl⟩ := List.mem_map.1 hid
              exact (v1 p hp1).2
            · intro id hid
              obtain ⟨p, hp1, rfl⟩ := List.mem_map.1 hid
              exact (v1 p hp1).1
            · intro id hc
              simp only [x, seenH]
              simp only [visOf] at hc
              split
              · rename_i hcall
                rw [if_pos hcall] at hc
                simp only [Vis.clear] at hc
                rw [upds_not_mem hc.2]
                cases hH : H0 id with
                | none => rfl
                | some o' => have := hbase id o' hH; omega
              · rename_i hcall
                rw [if_neg hcall] at hc
                simp only [Vis.clear] at hc
                simp only [restr]; rw [if_neg hc]
            · intro ρ a w e1 e2 e3 e4 K' e5
              have hw' := wanted_rel (e1.trans G.tlen.symm) e2 hw
              unfold wpOpIn
              simp only [ho, hw', if_true]
              exact iopC_wp hE e3 e4 hop' (operand_rel e2) e5
        | false =>
          have hv1 := hv.2 rfl
          let x : Tr := ⟨o.dst, .chan none, [], n, n, fun _ => none, usesOf ops o⟩
          refine next x ⟨[], .ids []⟩ (G.snoc ho x _ rfl rfl rfl (Nat.le_refl _) rfl (fun id o' h => by cases h) ?_ (fun id hid => by cases hid) (fun id hid => by cases hid) (fun _ _ => rfl) ?_ hd) hn hv1
          · have : ∀ (l : List Left) (j : Nat), apart2 n0 (pres.getD accT.length []) ⟨[], .ids []⟩ l j := by
              intro l
              induction l with
              | nil => intro j; trivial
              | cons y l ih => intro j; exact ⟨.inr ⟨fun p hp => (by cases hp), fun p _ => by simp [Vis.clear]⟩, ih _⟩
            exact this _ _
          · intro ρ a w e1 e2 e3 e4 K' e5
            have hw' := wanted_rel (e1.trans G.tlen.symm) e2 hw
            unfold wpOpIn
            simp only [ho, hw', Bool.false_eq_true, if_false]
            exact ⟨FW_about, e5 undef w ρ (Post.pure e3 e4 .skip)⟩
/-- a region whose order is open -/
theorem wp_drawn (hE : Env P Γ D K) (hm : P.follows .mixedOrders = true) {W : Nat → Prop} {id : Nat} {ops : List Oper} {pres : List (List Nat)} {Q : Post3} {Q' : Exit → Act → World → Prop}
    {t0 : List Value} {H0 : IHeap} {n0 : Nat} {ρ0 ρ : Ren} {w0 w : World} {m0 : Nat} {a : Act} (hR : regOk t0.length ops pres = true) (hs : St W ρ0 w0 m0 t0 H0 n0 ρ a w)
    (hv : vcD Γ D K W ops.toArray H0 n0 Q ops pres [] t0 n0)
    (hk : ∀ ρ' t' H' n' a' w', St W ρ0 w0 m0 t' H' n' ρ' a' w' → a'.defers = a.defers → Q t' H' n' → Q' .normal a' w') : (Code.region id ops.toArray true).wpIn (FW R) 0 P Q' a w := by
  have hRO := regOk_ok hR
  have hbase : ∀ id o, H0 id = some o → id < n0 := by
    intro id o ho
    obtain ⟨r, κ, h1, _⟩ := hs.heap.obj id o ho
    exact hs.below.lt h1
  have G0 : Good P R ops.toArray Q' W pres t0 H0 n0 [] [] t0 n0 := by
    refine ⟨rfl, by simp, by simp, by simp, fun _ => rfl, fun j => rfl, fun j => Nat.le_refl _, rfl, fun u => rfl, ?_, ?_, ?_, ?_, ?_, by simp⟩ <;> (intro i hi; simp at hi)
  obtain ⟨accT, accL, t', n', G, hlen, hn', hQ⟩ := vcD_good hE hRO hbase ops pres [] [] t0 n0 G0 (by simp) (by simp) (Nat.le_refl _) hv
  have hops : ∀ i, i < ops.toArray.size → i < accT.length := fun i hi => by rw [hlen]; exact hi
  have hDr : Drawn P R ops.toArray Q' W ops.toArray.size (trOf accT n') (fun i => pres.getD i []) t0 H0 n0 := by
    refine ⟨fun h => G.first (hops 0 h), G.next, G.mono, ?_, ?_, ?_, fun i hi => G.sees i (hops i hi), fun i hi j hj => G.apart i (hops i hi) j (hops j hj), fun i hi => G.ids i (hops i hi), fun i hi => G.wr i (hops i hi), ?_, fun i hi => G.run i (hops i hi)⟩
    · intro i j hj
      by_cases hi : i < ops.toArray.size
      · exact (hRO.pre i _ (by simp [Array.getElem?_eq_getElem hi]; rfl) j hj).1
      · have : pres.getD i [] = [] := by
          rw [List.getD_eq_getElem?_getD, List.getElem?_eq_none (by rw [← hRO.len]; omega)]; rfl
        rw [this] at hj; cases hj
    · intro i hi u hu j hj hne hd
      obtain ⟨o, ho, h1, h2⟩ := G.ofOp i (hops i hi)
      obtain ⟨p, hp, h3, h4⟩ := G.ofOp j (hops j hj)
      rw [h2] at hu; rw [h3] at hd
      exact hRO.uses i o ho u hu j p hp hne hd
    · intro i hi u hu j hj hne hd
      obtain ⟨o, ho, h1, h2⟩ := G.ofOp i (hops i hi)
      obtain ⟨p, hp, h3, h4⟩ := G.ofOp j (hops j hj)
      rw [h1] at hu; rw [h3] at hd
      exact (hRO.dsts i o u ho hu).2 j p hp hne hd
    · intro i hi u hu
      obtain ⟨o, ho, h1, h2⟩ := G.ofOp i (hops i hi)
      rw [h1] at hu
      exact (hRO.dsts i o u ho hu).1
  refine wpIn_region_any hm ?_
  have hEd : Edges ops.toArray (fun i => pres.getD i []) := ⟨hRO.lt, fun i o ho j hj => (hRO.pre i o ho j hj).2⟩
  refine drawn_any (X := a.defers) hDr hEd (m0 := m0) (ρ0 := ρ0) (w0 := w0) ?_ ops.toArray.size (Array.replicate ops.toArray.size false) a _ ρ (by simp) ?_ ?_ ?_
  · intro a' w' ρ' I
    refine hk ρ' t' (upds H0 (allUps accL)) n' a' w' ⟨⟨I.size.trans G.tlen.symm, fun u v hu => ?_⟩, ?_, ⟨?_, ?_⟩, I.step, Nat.le_trans hs.le hn', I.fresh, I.coll.1⟩ I.coll.2 hQ
    · have hul : u < t0.length := by rw [← G.tlen]; exact (List.getElem?_eq_some_iff.1 hu).1
      have h1 := I.val u hul
      have h2 := G.tval u
      rw [hlen] at h2
      rw [← h2] at h1
      simp only [List.getD_eq_getElem?_getD, hu, Option.getD_some] at h1
      refine ⟨a'.tmps[u]'(by rw [I.size]; exact hul), by simp [I.size, hul], ?_⟩
      have h3 : a'.tmps.getD u undef = a'.tmps[u]'(by rw [I.size]; exact hul) := by simp [Array.getD_eq_getD_getElem?, I.size, hul]
      rw [h3] at h1
      exact h1.mono (cut_le _ _)
    · intro id hid
      cases hr : ρ' id with
      | none => rfl
      | some x =>
        exfalso
        rcases I.dom id x hr with h1 | ⟨j, h1, _, h3, h4⟩
        · omega
        · have hj := hops j h1
          have : (trOf accT n' j).n' ≤ n' := by
            have hlast : ∀ k, j < k → (trOf accT n' j).n' ≤ (trOf accT n' k).n := fun k hk => hDr.n_le hk
            have := hlast accT.length hj
            rwa [trOf_ge (Nat.le_refl _)] at this
          omega
    · intro id o ho
      rw [all_sH (n0 := n0) (nf := n') G.len G.ups id, hlen] at ho
      obtain ⟨r, κ, h1, h2⟩ := I.obj id o ho
      exact ⟨r, κ, h1, h2.mono (cut_le _ _)⟩
    · intro i j o p r κ κ' hi hj
      rw [all_sH (n0 := n0) (nf := n') G.len G.ups, hlen] at hi hj
      exact I.inj i j o p r κ κ' hi hj
  · have : ∀ m, cnt (fun j => (Array.replicate ops.toArray.size false).getD j false) m = m := by
      intro m
      induction m with
      | zero => rfl
      | succ m ih => simp only [cnt, ih]; simp [Array.getD_eq_getD_getElem?, Array.getElem?_replicate]; split <;> simp
    exact this _
  · intro j hj hd
    simp [Array.getD_eq_getD_getElem?, Array.getElem?_replicate] at hd
    split at hd <;> simp at hd
  · have hfalse : ∀ j, (Array.replicate ops.toArray.size false).getD j false = false := by
      intro j; simp [Array.getD_eq_getD_getElem?, Array.getElem?_replicate]; split <;> simp
    have h1 : ∀ m u, sT (trOf accT n') t0 n0 (fun j => (Array.replicate ops.toArray.size false).getD j false) m u = (t0.getD u (.tuple #[]), n0) := by
      intro m u
      induction m with
      | zero => rfl
      | succ m ih => simp only [sT]; rw [if_neg (by rw [hfalse]; simp)]; exact ih
    have h2 : ∀ m u, sH (trOf accT n') H0 n0 (fun j => (Array.replicate ops.toArray.size false).getD j false) m u = (H0 u, n0) := by
      intro m u
      induction m with
      | zero => rfl
      | succ m ih => simp only [sH]; rw [if_neg (by rw [hfalse]; simp)]; exact ih
    have hcut : ρ.le (cut n0 ρ) := fun id x hx => by
      unfold cut; rw [if_pos (hs.below.lt hx)]; exact hx
    refine ⟨hs.tr.size, ⟨hs.coll, rfl⟩, fun u hu => ?_, fun id o ho => ?_, fun i j o p r κ κ' hi hj => ?_, fun id x hx => .inl (hs.below.lt hx), hs.step.drawn _, hbase, hs.le, hs.fresh⟩
    · rw [h1]
      obtain ⟨y, e1, e2⟩ := hs.tr.val u t0[u] (by simp [hu])
      simp only [List.getD_eq_getElem?_getD, Array.getD_eq_getD_getElem?, e1, List.getElem?_eq_getElem hu, Option.getD_some]
      exact e2.mono hcut
    · rw [h2] at ho ⊢
      obtain ⟨r, κ, e1, e2⟩ := hs.heap.obj id o ho
      exact ⟨r, κ, e1, e2.mono hcut⟩
    · rw [h2] at hi hj
      exact hs.heap.inj i j o p r κ κ' hi hj
end
end Go.Proofs.Ytdnnojblneccdaa
/-
  Code on ideal memory: rules; and functions.
-/
namespace Go.Proofs.Ytdnnojblneccdaa
set_option linter.unusedSimpArgs false
set_option linter.unusedVariables false
open Go
/-- how a piece of code is left, in ideal memory -/
abbrev PostX := Exit → List Value → IHeap → Nat → Prop
section
variable (P : Program) (W : Nat → Prop) (R : Option Nat)
def IWp (c : Code) (Q : PostX) (t : List Value) (H : IHeap) (n : Nat) : Prop :=
  ∀ (ρ0 : Ren) (w0 : World) (m0 : Nat) (ρ : Ren) (a : Act) (w : World), St W ρ0 w0 m0 t H n ρ a w →
    c.wpIn (FW R) 0 P (fun ex a' w' => ∃ ρ' t' H' n', St W ρ0 w0 m0 t' H' n' ρ' a' w' ∧ Q ex t' H' n') a w
end
/-- a loop whose state is held by a relation -/
theorem wpR_loop {F : Fence} {n : Nat} {P : Program} {c : Code} {Q : Exit → Act → World → Prop} {a : Act} {w : World} (I : Nat → Act → World → Prop) (k : Nat) (h₀ : I k a w)
    (round : ∀ k a w, I k a w → c.wpIn F n P (Exit.then (fun a' w' => ∃ j, j < k ∧ I j a' w') Q) a w) : (Code.loop c).wpIn F n P Q a w := by
  refine wpIn_loop (fun a w => ∃ n, I n a w) (fun a w => leastOf (fun n => I n a w)) ⟨k, h₀⟩ ?_
  intro a w hI
  refine wpIn_mono (round _ a w (leastOf_spec hI).1) ?_
  intro e a' w' hq
  cases e with
  | normal =>
    obtain ⟨j, hj, hI'⟩ := hq
    exact ⟨⟨j, hI'⟩, Nat.lt_of_le_of_lt ((leastOf_spec ⟨j, hI'⟩).2 j hI') hj⟩
  | _ => exact hq
section
variable {P : Program} {W : Nat → Prop} {R : Option Nat} {Q : PostX} {t : List Value} {H : IHeap} {n : Nat}
theorem IWp.mono {c : Code} {Q' : PostX} (h : IWp P W R c Q' t H n) (hq : ∀ ex t H n, Q' ex t H n → Q ex t H n) : IWp P W R c Q t H n := by
  intro ρ0 w0 m0 ρ a w hs
  refine wpIn_mono (h ρ0 w0 m0 ρ a w hs) ?_
  rintro ex a w ⟨ρ', t', H', n', h1, h2⟩
  exact ⟨ρ', t', H', n', h1, hq _ _ _ _ h2⟩
def PostX.seq (next : Post3) (Q : PostX) : PostX
  | .normal, t, H, n => next t H n
  | ex, t, H, n => Q ex t H n
def PostX.block (id : Nat) (Q : PostX) : PostX
  | .exit id', t, H, n => if id' = id then Q .normal t H n else Q (.exit id') t H n
  | ex, t, H, n => Q ex t H n
theorem IWp.skip (h : Q .normal t H n) : IWp P W R .skip Q t H n := fun _ _ _ _ _ _ hs => wpIn_skip ⟨_, t, H, n, hs, h⟩
theorem IWp.ret (h : Q .ret t H n) : IWp P W R .ret Q t H n := fun _ _ _ _ _ _ hs => wpIn_ret ⟨_, t, H, n, hs, h⟩
theorem IWp.exit {id : Nat} (h : Q (.exit id) t H n) : IWp P W R (.exit id) Q t H n := fun _ _ _ _ _ _ hs => wpIn_exit ⟨_, t, H, n, hs, h⟩
theorem IWp.seq {x y : Code} (h : IWp P W R x (PostX.seq (fun t H n => IWp P W R y Q t H n) Q) t H n) : IWp P W R (.seq x y) Q t H n := by
  intro ρ0 w0 m0 ρ a w hs
  refine wpIn_seq (wpIn_mono (h ρ0 w0 m0 ρ a w hs) ?_)
  rintro ex a w ⟨ρ', t', H', n', h1, h2⟩
  cases ex with
  | normal => exact h2 ρ0 w0 m0 ρ' a w h1
  | exit id => exact ⟨ρ', t', H', n', h1, h2⟩
  | goto l => exact ⟨ρ', t', H', n', h1, h2⟩
  | ret => exact ⟨ρ', t', H', n', h1, h2⟩
  | panic ch => exact ⟨ρ', t', H', n', h1, h2⟩
  | outgrown => exact ⟨ρ', t', H', n', h1, h2⟩
theorem IWp.block {id : Nat} {c : Code} (h : IWp P W R c (PostX.block id Q) t H n) : IWp P W R (.block id c) Q t H n := by
  intro ρ0 w0 m0 ρ a w hs
  refine wpIn_block (wpIn_mono (h ρ0 w0 m0 ρ a w hs) ?_)
  rintro ex a w ⟨ρ', t', H', n', h1, h2⟩
  cases ex with
  | exit id' =>
    simp only [PostX.block] at h2
    simp only [Exit.inBlock]
    split
    · rename_i e; rw [if_pos e] at h2; exact ⟨ρ', t', H', n', h1, h2⟩
    · rename_i e; rw [if_neg e] at h2; exact ⟨ρ', t', H', n', h1, h2⟩
  | normal => exact ⟨ρ', t', H', n', h1, h2⟩
  | goto l => exact ⟨ρ', t', H', n', h1, h2⟩
  | ret => exact ⟨ρ', t', H', n', h1, h2⟩
  | panic ch => exact ⟨ρ', t', H', n', h1, h2⟩
  | outgrown => exact ⟨ρ', t', H', n', h1, h2⟩
theorem IWp.cond {c : Operand} {x y : Code} (h : wpo (match ev t c with | .bool b => some b | _ => none) fun b => (b = true → IWp P W R x Q t H n) ∧ (b = false → IWp P W R y Q t H n)) : IWp P W R (.cond c x y) Q t H n := by
  intro ρ0 w0 m0 ρ a w hs
  have hc := hs.tr.ev c
  split at h
  · rename_i b hb
    rw [hb] at hc
    have := bool_inv hc
    cases b with
    | true => exact wpIn_cond_true this (h.1 rfl ρ0 w0 m0 ρ a w hs)
    | false => exact wpIn_cond_false this (h.2 rfl ρ0 w0 m0 ρ a w hs)
  · exact h.elim
/-- less is known -/
def fgt : List Value → List Value → Prop
  | [], [] => True
  | x :: xs, y :: ys => (x = .tuple #[] ∨ x = y) ∧ fgt xs ys
  | _, _ => False
theorem fgt_spec : ∀ {s t : List Value}, fgt s t → s.length = t.length ∧ ∀ (i : Nat) x y, s[i]? = some x → t[i]? = some y → x = .tuple #[] ∨ x = y
  | [], [], _ => ⟨rfl, fun i x y h => by simp at h⟩
  | x :: xs, y :: ys, h => by
    obtain ⟨h1, h2⟩ := fgt_spec h.2
    refine ⟨by simp [h1], fun i a b ha hb => ?_⟩
    cases i with
    | zero => simp only [List.getElem?_cons_zero, Option.some.injEq] at ha hb; subst ha; subst hb; exact h.1
    | succ i => exact h2 i a b (by simpa using ha) (by simpa using hb)
theorem St.forget {ρ0 ρ : Ren} {w0 w : World} {m0 : Nat} {a : Act} {t' : List Value} {H' : IHeap} {n' : Nat} (h : St W ρ0 w0 m0 t H n ρ a w) (ht : fgt t' t) (hH : H'.le H) (hn : n ≤ n') : St W ρ0 w0 m0 t' H' n' ρ a w := by
  obtain ⟨h1, h2⟩ := fgt_spec ht
  refine ⟨⟨h.tr.size.trans h1.symm, fun i x hx => ?_⟩, h.below.mono hn, h.heap.sub hH, h.step, Nat.le_trans h.le hn, h.fresh, h.coll⟩
  have hi : i < t.length := by rw [← h1]; exact (List.getElem?_eq_some_iff.1 hx).1
  obtain ⟨y, e1, e2⟩ := h.tr.val i t[i] (by simp [hi])
  refine ⟨y, e1, ?_⟩
  rcases h2 i x t[i] hx (by simp [hi]) with rfl | rfl
  · exact .unk _
  · exact e2
theorem IWp.forget {c : Code} {t' : List Value} {H' : IHeap} {n' : Nat} (h : IWp P W R c Q t' H' n') (ht : fgt t' t) (hH : H'.le H) (hn : n ≤ n') : IWp P W R c Q t H n :=
  fun ρ0 w0 m0 ρ a w hs => h ρ0 w0 m0 ρ a w (hs.forget ht hH hn)
/-- a loop: at each round's head the state is that of some s, which the round lowers -/
theorem IWp.loop {c : Code} {S : Type} (st : S → List Value × IHeap × Nat) (ok : S → Prop) (μ : S → Nat) (s0 : S) (h0 : ok s0) (ht : fgt (st s0).1 t) (hH : (st s0).2.1.le H) (hn : n ≤ (st s0).2.2)
    (round : ∀ s, ok s → IWp P W R c (PostX.seq (fun t' H' n' => ∃ s', ok s' ∧ μ s' < μ s ∧ fgt (st s').1 t' ∧ (st s').2.1.le H' ∧ n' ≤ (st s').2.2) Q) (st s).1 (st s).2.1 (st s).2.2) : IWp P W R (.loop c) Q t H n := by
  intro ρ0 w0 m0 ρ a w hs
  refine wpR_loop (fun k a w => ∃ s ρ, μ s = k ∧ ok s ∧ St W ρ0 w0 m0 (st s).1 (st s).2.1 (st s).2.2 ρ a w) (μ s0) ⟨s0, ρ, rfl, h0, hs.forget ht hH hn⟩ ?_
  rintro k a w ⟨s, ρ, rfl, hok, hst⟩
  refine wpIn_mono (round s hok ρ0 w0 m0 ρ a w hst) ?_
  rintro ex a' w' ⟨ρ', t', H', n', h1, h2⟩
  cases ex with
  | normal =>
    obtain ⟨s', h3, h4, h5, h6, h7⟩ := h2
    exact ⟨μ s', h4, s', ρ', rfl, h3, h1.forget h5 h6 h7⟩
  | exit id => exact ⟨ρ', t', H', n', h1, h2⟩
  | goto l => exact ⟨ρ', t', H', n', h1, h2⟩
  | ret => exact ⟨ρ', t', H', n', h1, h2⟩
  | panic ch => exact ⟨ρ', t', H', n', h1, h2⟩
  | outgrown => exact ⟨ρ', t', H', n', h1, h2⟩
variable {Γ : Fns} {D : Ty} {K : Kinds}
theorem IWp.region (hE : Env P Γ D K) {id : Nat} {ops : List Oper} (h : vcS Γ D K W ops.toArray (fun t H n => Q .normal t H n) ops t H n) : IWp P W R (.region id ops.toArray false) Q t H n := by
  intro ρ0 w0 m0 ρ a w hs
  refine wpIn_region ?_
  have hmap : (List.range ops.toArray.size).map (fun i => ops.toArray[i]?) = ops.map some := by
    apply List.ext_getElem?
    intro i
    simp only [List.getElem?_map, List.getElem?_toArray, List.size_toArray]
    by_cases hi : i < ops.length
    · simp [hi]
    · simp [List.getElem?_eq_none (Nat.le_of_not_lt hi), List.getElem?_eq_none (show (List.range ops.length).length ≤ i by simp; omega)]
  exact vcS_ok hE _ ops t H n ρ a w hmap h hs fun ρ' t' H' n' a' w' h1 _ h2 => ⟨ρ', t', H', n', h1, h2⟩
theorem IWp.drawn (hE : Env P Γ D K) (hm : P.follows .mixedOrders = true) {id : Nat} {ops : List Oper} (pres : List (List Nat)) (hR : regOk t.length ops pres = true)
    (h : vcD Γ D K W ops.toArray H n (fun t H n => Q .normal t H n) ops pres [] t n) : IWp P W R (.region id ops.toArray true) Q t H n := by
  intro ρ0 w0 m0 ρ a w hs
  exact wp_drawn hE hm hR hs h fun ρ' t' H' n' a' w' h1 _ h2 => ⟨ρ', t', H', n', h1, h2⟩
end
/-- the results, as the model finds them -/
def ires1 (D : Ty) (t : List Value) (H : IHeap) : ResultVar → Option Value
  | .tmp u => some (t.getD u (.tuple #[]))
  | .cell u ty => match t.getD u (.tuple #[]) with
    | .pointer (some ⟨id, off, none⟩) => (D ty).bind fun d => match H id with | some (.cells c _) => rdVar d c off | _ => none
    | _ => none
def ires (D : Ty) (t : List Value) (H : IHeap) (rs : List ResultVar) : Option Value :=
  match rs with
  | [r] => ires1 D t H r
  | rs => (rs.mapM (ires1 D t H)).map fun vs => .tuple vs.toArray
end Go.Proofs.Ytdnnojblneccdaa
/-
  A function, from its body.
-/
namespace Go.Proofs.Ytdnnojblneccdaa
set_option linter.unusedSimpArgs false
set_option linter.unusedVariables false
open Go
/-- other numbers in a value -/
def ren1 (g : Nat → Nat) : Value → Value
  | .pointer (some a) => .pointer (some { a with block := g a.block })
  | .slice (some a) l c => .slice (some { a with block := g a.block }) l c
  | .map (some r) => .map (some (g r))
  | v => v
def ren2 (g : Nat → Nat) : Value → Value
  | .agg cs => .agg (cs.map (ren1 g))
  | .func fn a b => .func fn (a.map (ren1 g)) (b.map (ren1 g))
  | v => ren1 g v
def ren (g : Nat → Nat) : Value → Value
  | .tuple vs => .tuple (vs.map (ren2 g))
  | v => ren2 g v
/-- numbers of a value -/
def okN1 (p : Nat → Prop) : Value → Prop
  | .pointer (some a) => p a.block
  | .slice (some a) _ _ => p a.block
  | .map (some r) => p r
  | .agg _ | .iface _ _ => False
  | .tuple vs => vs = #[]
  | .func _ a b => a = #[] ∧ b = #[]
  | _ => True
def okN2 (p : Nat → Prop) : Value → Prop
  | .agg cs => ∀ x ∈ cs.toList, okN1 p x
  | .func _ a b => (∀ x ∈ a.toList, okN1 p x) ∧ ∀ x ∈ b.toList, okN1 p x
  | v => okN1 p v
def okN (p : Nat → Prop) : Value → Prop
  | .tuple vs => ∀ x ∈ vs.toList, okN2 p x
  | v => okN2 p v
section
variable {ρ ρ' : Ren} {g : Nat → Nat} {p : Nat → Prop} (hp : ∀ id x, p id → ρ' (g id) = some x → ρ id = some x)
include hp
theorem VR.ren1 {v v' : Value} (h : VR ρ' (ren1 g v) v') (ho : okN1 p v) : VR ρ v v' := by
  cases v with
  | pointer a =>
    cases a with
    | none => cases h; exact .nilPtr
    | some a =>
      obtain ⟨b, off, sp⟩ := a
      simp only [Ytdnnojblneccdaa.ren1, okN1] at h ho
      cases h with | ptr _ hr => exact .ptr _ (hp _ _ ho hr)
  | slice a l c =>
    cases a with
    | none => cases h; exact .nilSlice
    | some a =>
      obtain ⟨b, off, sp⟩ := a
      simp only [Ytdnnojblneccdaa.ren1, okN1] at h ho
      cases h with
      | void a' => exact .void a'
      | slice _ _ _ hr => exact .slice _ _ _ (hp _ _ ho hr)
      | oslice hr h1 h2 h3 => exact .oslice (hp _ _ ho hr) h1 h2 h3
  | map r =>
    cases r with
    | none => cases h; exact .nilMap
    | some r =>
      simp only [Ytdnnojblneccdaa.ren1, okN1] at h ho
      cases h with | map hr => exact .map (hp _ _ ho hr)
  | agg => exact ho.elim
  | iface => exact ho.elim
  | tuple vs => simp only [okN1] at ho; subst ho; exact .unk _
  | func fn a b =>
    simp only [okN1] at ho
    obtain ⟨rfl, rfl⟩ := ho
    cases h with | func _ h1 h2 h3 h4 => exact .func fn h1 (by simp) h3 (by simp)
  | bool b => cases h; exact .bool _
  | int k n => cases h; exact .int _ _
  | float => cases h
  | complex => cases h
  | string s => cases h; exact .str _
  | chan => cases h; exact .skip
  | nilFunc => cases h; exact .nilFunc
  | nilIface => cases h; exact .nilIface
theorem VR.ren2 {v v' : Value} (h : VR ρ' (ren2 g v) v') (ho : okN2 p v) : VR ρ v v' := by
  cases v with
  | agg cs =>
    simp only [Ytdnnojblneccdaa.ren2, okN2] at h ho
    cases h with
    | agg hs hr =>
      refine .agg (by simpa using hs) fun i x y hx hy => ?_
      exact VR.ren1 hp (hr i (Ytdnnojblneccdaa.ren1 g x) y (by simp [hx]) hy) (ho x (by simpa using Array.mem_of_getElem? hx))
  | func fn a b =>
    simp only [Ytdnnojblneccdaa.ren2, okN2] at h ho
    cases h with
    | func _ h1 h2 h3 h4 =>
      exact .func fn (by simpa using h1) (fun i x y hx hy => VR.ren1 hp (h2 i (Ytdnnojblneccdaa.ren1 g x) y (by simp [hx]) hy) (ho.1 x (by simpa using Array.mem_of_getElem? hx)))
        (by simpa using h3) (fun i x y hx hy => VR.ren1 hp (h4 i (Ytdnnojblneccdaa.ren1 g x) y (by simp [hx]) hy) (ho.2 x (by simpa using Array.mem_of_getElem? hx)))
  | _ => exact VR.ren1 hp h ho
theorem VR.ren {v v' : Value} (h : VR ρ' (ren g v) v') (ho : okN p v) : VR ρ v v' := by
  cases v with
  | tuple vs =>
    simp only [Ytdnnojblneccdaa.ren, okN] at h ho
    by_cases he : vs = #[]
    · subst he; exact .unk _
    · generalize hw : vs.map (Ytdnnojblneccdaa.ren2 g) = ws at h
      cases h with
      | unk => exact absurd (by simpa using hw) he
      | tuple hs hr =>
        subst hw
        refine .tuple (by simpa using hs) fun i x y hx hy => ?_
        exact VR.ren2 hp (hr i (Ytdnnojblneccdaa.ren2 g x) y (by simp [hx]) hy) (ho x (by simpa using Array.mem_of_getElem? hx))
  | _ => exact VR.ren2 hp h ho
end
def renO (g : Nat → Nat) : IObj → IObj
  | .cells c ro => .cells (c.map (ren1 g)) ro
  | .map es => .map (es.map fun e => (ren2 g e.1, ren2 g e.2))
def okO (p : Nat → Prop) : IObj → Prop
  | .cells c _ => ∀ x ∈ c, okN1 p x
  | .map es => ∀ e ∈ es, okN2 p e.1 ∧ okN2 p e.2
theorem OR.ren {ρ ρ' : Ren} {g : Nat → Nat} {p : Nat → Prop} (hp : ∀ id x, p id → ρ' (g id) = some x → ρ id = some x) {κ : Nat} {o : IObj} {x : Option Obj} (h : OR ρ' κ (renO g o) x) (ho : okO p o) : OR ρ κ o x := by
  cases o with
  | cells c ro =>
    obtain ⟨c', T, fz, h1, h2, h3, h4, h5⟩ := h
    refine ⟨c', T, fz, h1, h2, by simpa using h3, h4, fun i v hv => ?_⟩
    obtain ⟨v', e1, e2⟩ := h5 i (ren1 g v) (by simp [hv])
    exact ⟨v', e1, VR.ren1 hp e2 (ho v (List.mem_of_getElem? hv))⟩
  | map es =>
    obtain ⟨es', clock, h1, h2, h3, h3', h4⟩ := h
    refine ⟨es', clock, h1, by simpa using h2, h3, h3', fun i v hv => ?_⟩
    obtain ⟨v', e1, e2, e3⟩ := h4 i (ren2 g v.1, ren2 g v.2) (by simp [hv])
    obtain ⟨o1, o2⟩ := ho v (List.mem_of_getElem? hv)
    exact ⟨v', e1, VR.ren2 hp e2 o1, VR.ren2 hp e3 o2⟩
/-- what the body came to is the effect, under other numbers -/
structure Exp (e : Eff) (n : Nat) (H : IHeap) (v : Value) (H' : IHeap) (g : Nat → Nat) : Prop where
  old : ∀ id, id < n → g id = id
  val : ren g e.v = v
  okv : okN (fun id => id < n ∨ id ∈ e.ids) e.v
  obj : ∀ id ∈ e.ids, ∀ o, upds (fun _ => none) e.up id = some o → H' (g id) = some (renO g o) ∧ okO (fun id => id < n ∨ id ∈ e.ids) o
  new : ∀ id ∈ e.ids, n ≤ id → n ≤ g id
  inj : ∀ i ∈ e.ids, ∀ j ∈ e.ids, g i = g j → i = j
  ids : ∀ id ∈ e.ids, (n ≤ id ∨ (H id).isSome) ∧ id < e.n
  le : n ≤ e.n
def RetP (D : Ty) (rs : List ResultVar) (n : Nat) (H : IHeap) (e : Eff) : PostX := fun ex t' H' _ =>
  (ex = .normal ∨ ex = .ret) ∧ wpo (ires D t' H' rs) fun v => ∃ g, Exp e n H v H' g
section
variable {P : Program} {D : Ty}
def resSem (a : Act) (r : ResultVar) : Sem Value :=
  match r with
  | .tmp u => pure (a.tmps.getD u undef)
  | .cell u ty => do loadVar ty (← asAddr (a.tmps.getD u undef))
theorem ires1_ok (hD : DOk P D) {ρ : Ren} {w : World} {t : List Value} {H : IHeap} {a : Act} (ht : TR ρ t a) (hh : HR ρ H w) {r : ResultVar} {v : Value} (h : ires1 D t H r = some v) :
    ∃ v', (resSem a r).run P w = .ok v' w ∧ VR ρ v v' := by
  have hget : ∀ u, VR ρ (t.getD u (.tuple #[])) (a.tmps.getD u undef) := fun u => ht.ev (.tmp u)
  cases r with
  | tmp u => cases h; exact ⟨_, rfl, hget u⟩
  | cell u ty =>
    simp only [ires1] at h
    have hu := hget u
    split at h
    · rename_i id off he
      rw [he] at hu
      simp only [Option.bind_eq_some_iff] at h
      obtain ⟨d, hd, h⟩ := h
      split at h
      · rename_i c ro ho
        generalize hx : a.tmps.getD u undef = x at hu
        obtain ⟨r, κ, h1, rfl⟩ := ptr_inv hu
        obtain ⟨v', e1, e2⟩ := run_rdVar (P := P) hD hh ho hd h hu
        exact ⟨v', by simp only [resSem, hx]; simp [asAddr, e1], e2⟩
      · cases h
    · cases h
theorem ires_ok (hD : DOk P D) {ρ : Ren} {w : World} {t : List Value} {H : IHeap} {a : Act} (ht : TR ρ t a) (hh : HR ρ H w) {fn : Func} {v : Value} (h : ires D t H fn.results.toList = some v) :
    ∃ v', (results fn a.tmps).run P w = .ok v' w ∧ VR ρ v v' := by
  have hm : ∀ (rs : List ResultVar) (vs : List Value), rs.mapM (ires1 D t H) = some vs →
      ∃ vs' : List Value, (rs.mapM (resSem a)).run P w = .ok vs' w ∧ vs.length = vs'.length ∧
        ∀ (i : Nat) x y, vs[i]? = some x → vs'[i]? = some y → VR ρ x y := by
    intro rs
    induction rs with
    | nil => intro vs h; simp at h; subst h; exact ⟨[], by simp, rfl, fun i x y h => by simp at h⟩
    | cons r rs ih =>
      intro vs h
      rw [List.mapM_cons] at h
      simp only [bind, Option.bind_eq_some_iff, pure, Option.some.injEq] at h
      obtain ⟨v, hv, vs2, hvs, rfl⟩ := h
      obtain ⟨v', e1, e2⟩ := ires1_ok (P := P) hD ht hh hv
      obtain ⟨vs', f1, f2, f3⟩ := ih vs2 hvs
      refine ⟨v' :: vs', by rw [List.mapM_cons]; simp only [Sem.run_bind, e1, Result.andThen_ok, f1, Sem.run_pure], by simp [f2], fun i x y hx hy => ?_⟩
      cases i with
      | zero => simp at hx hy; subst hx; subst hy; exact e2
      | succ i => exact f3 i x y (by simpa using hx) (by simpa using hy)
  have hgen : ∀ (vs : List Value), fn.results.toList.mapM (ires1 D t H) = some vs → ∃ vs' : Array Value, (results fn a.tmps).run P w = .ok (if h : vs'.size = 1 then vs'[0] else .tuple vs') w ∧ vs.length = vs'.size ∧
      ∀ (i : Nat) x y, vs[i]? = some x → vs'[i]? = some y → VR ρ x y := by
    intro vs hvs
    obtain ⟨vs', f1, f2, f3⟩ := hm _ vs hvs
    refine ⟨vs'.toArray, ?_, by simpa using f2, fun i x y hx hy => f3 i x y hx (by simpa using hy)⟩
    have : (fn.results.mapM (resSem a)).run P w = .ok vs'.toArray w := by
      rw [Array.mapM_eq_mapM_toList, Sem.run_map, f1]; rfl
    have he : results fn a.tmps = (do let vs ← fn.results.mapM (resSem a); pure (if h : vs.size = 1 then vs[0] else .tuple vs)) := by
      unfold results
      refine congrArg (fun f => (do let vs ← fn.results.mapM f; pure (if h : vs.size = 1 then vs[0] else .tuple vs) : Sem Value)) ?_
      funext r
      cases r <;> rfl
    rw [he]
    simp only [Sem.run_bind, this, Result.andThen_ok, Sem.run_pure]
  unfold ires at h
  split at h
  · rename_i r hr
    obtain ⟨vs', f1, f2, f3⟩ := hgen [v] (by rw [hr]; simp [h])
    have hs : vs'.size = 1 := f2.symm
    rw [dif_pos hs] at f1
    exact ⟨vs'[0], f1, f3 0 v vs'[0] rfl (by simp [hs])⟩
  · rename_i hne
    simp only [Option.map_eq_some_iff] at h
    obtain ⟨vs, hvs, rfl⟩ := h
    obtain ⟨vs', f1, f2, f3⟩ := hgen vs hvs
    have hs : vs'.size ≠ 1 := by
      intro hs
      have hl : vs.length = 1 := by omega
      have hrl : fn.results.toList.length = vs.length := by
        have : ∀ (rs : List ResultVar) (vs : List Value), rs.mapM (ires1 D t H) = some vs → rs.length = vs.length := by
          intro rs
          induction rs with
          | nil => intro vs h; simp at h; subst h; rfl
          | cons r rs ih =>
            intro vs h
            rw [List.mapM_cons] at h
            simp only [bind, Option.bind_eq_some_iff, pure, Option.some.injEq] at h
            obtain ⟨v, hv, vs2, hvs, rfl⟩ := h
            simp [ih vs2 hvs]
        exact this _ _ hvs
      rw [hl] at hrl
      obtain ⟨r, hr⟩ := List.length_eq_one_iff.1 hrl
      exact hne r hr
    rw [dif_neg hs] at f1
    exact ⟨.tuple vs', f1, .tuple (by simpa using f2) fun i x y hx hy => f3 i x y (by simpa using hx) hy⟩
/-- the marks are taken away -/
structure Took (B : Nat) (w w' : World) : Prop where
  os : w'.os = w.os
  tape : w'.tape = w.tape
  output : w'.output = w.output
  size : w'.heap.size = w.heap.size
  same : ∀ k, (k < B ∨ ∀ x, w.heap[k]? ≠ some (.deferred x)) → w'.heap[k]? = w.heap[k]?
theorem Took.refl (B : Nat) (w : World) : Took B w w := ⟨rfl, rfl, rfl, rfl, fun _ _ => rfl⟩
theorem Took.trans {B : Nat} {w w1 w2 : World} (h : Took B w w1) (k : Took B w1 w2) : Took B w w2 :=
  ⟨k.os.trans h.os, k.tape.trans h.tape, k.output.trans h.output, k.size.trans h.size, fun i hi => by
    have e := h.same i hi
    rw [k.same i (hi.imp id fun hx x => by rw [e]; exact hx x), e]⟩
theorem Took.put {B D : Nat} {w : World} (hB : B ≤ D) (hD : w.heap[D]? = some (.deferred (some []))) : Took B w (w.putObj D (.deferred none)) :=
  ⟨rfl, rfl, rfl, by simp, fun k hk => World.putObj_heap_other fun e => by
    subst e
    rcases hk with hk | hk
    · omega
    · exact hk _ hD⟩
theorem Took.heap {B : Nat} {w w' : World} (h : Took B w w') {ρ : Ren} {H : IHeap} (hh : HR ρ H w) : HR ρ H w' := by
  refine ⟨fun id o ho => ?_, hh.inj⟩
  obtain ⟨r, κ, h1, h2⟩ := hh.obj id o ho
  refine ⟨r, κ, h1, ?_⟩
  rw [h.same r (.inr fun x hx => ?_)]
  · exact h2
  · cases o with
    | cells c ro => obtain ⟨c', T, fz, h3, _⟩ := h2; rw [h3] at hx; cases hx
    | map es => obtain ⟨es', clock, h3, _⟩ := h2; rw [h3] at hx; cases hx
theorem Took.step {W : Nat → Prop} {ρ ρ' : Ren} {w0 w w' : World} (h : Took w0.heap.size w w') (hs : Step W ρ ρ' w0 w) : Step W ρ ρ' w0 w' :=
  ⟨hs.le, hs.new, by rw [h.size]; exact hs.size, fun r hr hn => (h.same r (.inl hr)).trans (hs.keep r hr hn), h.os.trans hs.os, h.tape.trans hs.tape, h.output.trans hs.output,
    fun k o hk ho => (h.same k (.inl (Array.getElem?_eq_some_iff.1 hk).1)).trans (hs.others k o hk ho)⟩
theorem leaves_marks {F : Fence} {n : Nat} {P : Program} {fn : Func} {tmps : Array Value} {R : Ending → World → Prop} {B : Nat} : ∀ (ds : List Nat) {w : World}, ds.Nodup → (∀ D ∈ ds, B ≤ D ∧ w.heap[D]? = some (.deferred (some []))) →
    (∀ w', Took B w w' → ∃ v, (results fn tmps).run P w' = .ok v w' ∧ R (.returned v) w') → LeavesInM F n P fn tmps R (ds.map mark) .returning w
  | [], w, _, _, h => h w (Took.refl _ _)
  | D :: ds, w, hn, hd, h => by
    obtain ⟨h1, h2⟩ := hd D List.mem_cons_self
    obtain ⟨n1, n2⟩ := List.nodup_cons.1 hn
    refine ⟨by simp, .inl ⟨D, w.putObj D (.deferred none), rfl, run_takeDeferred h2, ?_⟩⟩
    refine leaves_marks ds n2 (fun D' hD' => ?_) fun w' hT => h w' ((Took.put h1 h2).trans hT)
    obtain ⟨h3, h4⟩ := hd D' (List.mem_cons_of_mem _ hD')
    exact ⟨h3, (World.putObj_heap_other fun e => n1 (by rw [← e]; exact hD')).trans h4⟩
theorem Ref.of_body (hD : DOk P D) {k : FuncId} {fn : Func} {c : Code} {F : FnI} (hf : P.funcs[k]? = some fn) (hb : fn.body = some c) (hname : (fn.name == "runtime.NumGoroutine") = false)
    (h : ∀ args H n e, F args H n = some e → IWp P (fun id => n ≤ id ∨ id ∈ e.ids) none c (RetP D fn.results.toList n H e) (args ++ List.replicate (fn.ntmps - args.length) (.tuple #[])) H n) : Ref P k F := by
  intro args H n e hF ρ w args' hbel hh hargs
  have hcf : (callFunc k args').run P w = .ok (.enter k args') w := by
    unfold callFunc
    simp only [Sem.run_bind, program]
    have hn : ¬ fn.name = "runtime.NumGoroutine" := by simpa using hname
    simp [Sem.run, hf, hn, hb]
  unfold CallW
  rw [hcf]
  refine callsIn_wide.1 (callsIn_of_wp_marks (F := FW none) (n := 0) hf hb trivial ?_)
  have hs : St (fun id => n ≤ id ∨ id ∈ e.ids) ρ w n (args ++ List.replicate (fn.ntmps - args.length) (.tuple #[])) H n ρ { tmps := args' ++ Array.replicate (fn.ntmps - args'.size) undef, defers := [] } w := by
    refine St.refl ⟨by simp [hargs.1], fun i x hx => ?_⟩ hbel hh rfl
    by_cases hi : i < args.length
    · rw [List.getElem?_append_left hi] at hx
      obtain ⟨y, e1, e2⟩ := hargs.2 i x hx
      exact ⟨y, by rw [Array.getElem?_append_left (by rw [hargs.1]; exact hi)]; exact e1, e2⟩
    · rw [List.getElem?_append_right (by omega)] at hx
      have := (List.getElem?_eq_some_iff.1 hx)
      obtain ⟨h1, h2⟩ := this
      simp only [List.length_replicate] at h1
      simp only [List.getElem_replicate] at h2
      subst h2
      exact ⟨undef, by rw [Array.getElem?_append_right (by rw [hargs.1]; omega), hargs.1]; simp [h1], .unk _⟩
  refine wpIn_mono (h args H n e hF ρ w n ρ _ w hs) ?_
  rintro ex a' wl ⟨ρ', t', H', n', hst0, hex, hres⟩
  have hend : ∀ w', Took w.heap.size wl w' → ∃ v, (results fn a'.tmps).run P w' = .ok v w' ∧ ∃ ρ'', Post ρ H n e v ρ'' w w' := by
   intro w' hT
   have hst : St (fun id => n ≤ id ∨ id ∈ e.ids) ρ w n t' H' n' ρ' { a' with defers := [] } w' := ⟨⟨hst0.tr.size, hst0.tr.val⟩, hst0.below, hT.heap hst0.heap, hT.step hst0.step, hst0.le, hst0.fresh, .nil rfl⟩
   -- the results
   have main : ∃ v, (results fn a'.tmps).run P w' = .ok v w' ∧ ∃ ρ'', Post ρ H n e v ρ'' w w' := by
     cases hr : ires D t' H' fn.results.toList with
     | none => rw [hr] at hres; exact hres.elim
     | some v =>
       rw [hr] at hres
       obtain ⟨g, E⟩ := hres
       obtain ⟨v', hrun, hv'⟩ := ires_ok (P := P) hD hst.tr hst.heap hr
       refine ⟨v', hrun, ?_⟩
       let ρ'' : Ren := fun id => if id < n then ρ id else if id ∈ e.ids then ρ' (g id) else none
       have hp : ∀ id x, (id < n ∨ id ∈ e.ids) → ρ' (g id) = some x → ρ'' id = some x := by
         intro id x hid hx
         simp only [ρ'']
         by_cases hlt : id < n
         · rw [if_pos hlt]
           rw [E.old id hlt] at hx
           rcases hst.fresh id x hx with h1 | h1
           · exact h1
           · omega
         · rw [if_neg hlt, if_pos (hid.resolve_left hlt)]; exact hx
       have hle : ρ.le ρ'' := by
         intro id x hx
         simp only [ρ'']; rw [if_pos (hbel.lt hx)]; exact hx
       have hρ'lt : ∀ id x, id < n → ρ' id = some x → ρ id = some x := by
         intro id x hlt hx
         rcases hst.fresh id x hx with h1 | h1
         · exact h1
         · omega
       refine ⟨ρ'', ?_, ⟨hle, ?_, hst.step.size, ?_, hst.step.os, hst.step.tape, hst.step.output, hst.step.others⟩, ?_, ⟨?_, ?_⟩, E.ids, E.le, ?_⟩
       · intro id hid
         simp only [ρ'']
         rw [if_neg (by have := E.le; omega), if_neg fun hm => by have := (E.ids id hm).2; omega]
       · intro id r κ h1 h2
         simp only [ρ''] at h2
         split at h2
         · rw [h1] at h2; cases h2
         · rename_i hlt
           split at h2
           · rename_i hm
             have hg := E.new id hm (by omega)
             have h0 : ρ (g id) = none := hbel _ hg
             rcases hst.step.new (g id) r κ h0 h2 with h3 | ⟨i, κ', h3, h4⟩
             · exact .inl h3
             · have := hbel.lt h3
               exact .inr ⟨i, κ', h3, h4.resolve_left (by omega)⟩
           · cases h2
       · intro r hr2 hn2
         refine hst.step.keep r hr2 fun id κ h3 h4 => ?_
         have := hbel.lt h3
         exact hn2 id κ h3 (h4.resolve_left (by omega))
       · exact VR.ren hp (E.val ▸ hv') E.okv
       · intro id o ho
         by_cases hm : id ∈ e.ids
         · rw [upds_mem (K := fun _ => none) hm] at ho
           obtain ⟨h1, h2⟩ := E.obj id hm o ho
           obtain ⟨r, κ, h3, h4⟩ := hst.heap.obj _ _ h1
           exact ⟨r, κ, hp id _ (.inr hm) h3, h4.ren hp h2⟩
         · rw [upds_not_mem hm] at ho
           obtain ⟨r, κ, h3, h4⟩ := hh.obj id o ho
           refine ⟨r, κ, hle _ _ h3, ?_⟩
           have hkeep : w'.heap[r]? = w.heap[r]? := by
             refine hst.step.keep r h4.lt fun j κ' h5 h6 => ?_
             have hjn := hbel.lt h5
             have hje := h6.resolve_left (by omega)
             obtain ⟨o2, ho2⟩ := Option.isSome_iff_exists.1 ((E.ids j hje).1.resolve_left (by omega))
             have := hh.inj id j o o2 r κ κ' ho ho2 h3 h5
             exact hm (this ▸ hje)
           rw [hkeep]; exact h4.mono hle
       · -- two numbers of one block are one
         have pick : ∀ {id o r κ}, upds H e.up id = some o → ρ'' id = some (r, κ) →
             (id ∈ e.ids ∧ ρ' (g id) = some (r, κ) ∧ ∃ o', H' (g id) = some o') ∨ (id ∉ e.ids ∧ id < n ∧ ρ id = some (r, κ) ∧ ρ' id = some (r, κ) ∧ H id = some o ∧ r < w.heap.size) := by
           intro id o r κ ho hr2
           by_cases hm : id ∈ e.ids
           · rw [upds_mem (K := fun _ => none) hm] at ho
             obtain ⟨h1, h2⟩ := E.obj id hm o ho
             obtain ⟨r2, κ2, h3, h4⟩ := hst.heap.obj _ _ h1
             have := hp id _ (.inr hm) h3
             rw [hr2] at this; cases this
             exact .inl ⟨hm, h3, _, h1⟩
           · rw [upds_not_mem hm] at ho
             obtain ⟨r2, κ2, h3, h4⟩ := hh.obj id o ho
             have := hle _ _ h3
             rw [hr2] at this; cases this
             exact .inr ⟨hm, hbel.lt h3, h3, hst.step.le _ _ h3, ho, h4.lt⟩
         have mixed : ∀ {x y p r κ κ'}, x ∈ e.ids → ρ' (g x) = some (r, κ) → (∃ o', H' (g x) = some o') → y ∉ e.ids → ρ y = some (r, κ') → H y = some p → r < w.heap.size → False := by
           intro x y p r κ κ' hx hrx _ hy hry hpy hrl
           by_cases hxn : x < n
           · rw [E.old x hxn] at hrx
             have h1 := hρ'lt x _ hxn hrx
             obtain ⟨o2, ho2⟩ := Option.isSome_iff_exists.1 ((E.ids x hx).1.resolve_left (by omega))
             have := hh.inj x y o2 p r κ κ' ho2 hpy h1 hry
             exact hy (this ▸ hx)
           · have hg := E.new x hx (by omega)
             rcases hst.step.new (g x) r κ (hbel _ hg) hrx with h3 | ⟨i, κ2, h3, h4⟩
             · omega
             · have hin := hbel.lt h3
               have hie := h4.resolve_left (by omega)
               obtain ⟨o2, ho2⟩ := Option.isSome_iff_exists.1 ((E.ids i hie).1.resolve_left (by omega))
               have := hh.inj i y o2 p r κ2 κ' ho2 hpy h3 hry
               exact hy (this ▸ hie)
         intro x y o p r κ κ' hx hy hrx hry
         rcases pick hx hrx with ⟨a1, a2, a3⟩ | ⟨a1, a2, a3, a4, a5, a6⟩
         · rcases pick hy hry with ⟨b1, b2, b3⟩ | ⟨b1, b2, b3, b4, b5, b6⟩
           · obtain ⟨o1, ho1⟩ := a3
             obtain ⟨o2, ho2⟩ := b3
             exact E.inj x a1 y b1 (hst.heap.inj _ _ _ _ r κ κ' ho1 ho2 a2 b2)
           · exact (mixed a1 a2 a3 b1 b3 b5 b6).elim
         · rcases pick hy hry with ⟨b1, b2, b3⟩ | ⟨b1, b2, b3, b4, b5, b6⟩
           · exact (mixed b1 b2 b3 a1 a3 a5 a6).elim
           · exact hh.inj x y o p r κ κ' a5 b5 a3 b3
       · intro id x hx
         simp only [ρ''] at hx
         split at hx
         · exact .inl hx
         · exact .inr (by omega)
   exact main
  obtain ⟨ds, d1, d2, d3⟩ := hst0.coll
  have hl := leaves_marks (F := FW none) (n := 0) (P := P) (fn := fn) (tmps := a'.tmps) (R := fun
      | .returned v, w' => ∃ ρ', Post ρ H n e v ρ' w w'
      | _, _ => False) ds d2 d3 hend
  rw [← d1] at hl
  rcases hex with rfl | rfl
  · exact hl
  · exact hl
end
end Go.Proofs.Ytdnnojblneccdaa
/-
  The types of a program, looked at by the kernel; comparisons of arrays and structs.
-/
namespace Go.Proofs.Ytdnnojblneccdaa
set_option linter.unusedSimpArgs false
set_option linter.unusedVariables false
open Go
def beq1 : Value → Value → Bool
  | .bool a, .bool b => a == b
  | .int k a, .int k' b => k == k' && a == b
  | .string a, .string b => decide (a = b)
  | .pointer none, .pointer none => true
  | .slice none 0 0, .slice none 0 0 => true
  | .map none, .map none => true
  | .nilFunc, .nilFunc => true
  | .nilIface, .nilIface => true
  | _, _ => false
theorem beq1_eq {a b : Value} (h : beq1 a b = true) : a = b := by
  unfold beq1 at h
  split at h <;> simp_all
def beqs : List Value → List Value → Bool
  | [], [] => true
  | a :: zs, b :: bs => beq1 a b && beqs zs bs
  | _, _ => false
theorem beqs_eq : ∀ {a b : List Value}, beqs a b = true → a = b
  | [], [], _ => rfl
  | a :: zs, b :: bs, h => by
    simp only [beqs, Bool.and_eq_true] at h
    rw [beq1_eq h.1, beqs_eq h.2]
def TK.fitsB : TK → TypeDesc → Bool
  | .bool, .bool => true
  | .int k, .int k' => k == k'
  | .str, .string => true
  | .ptr e, .pointer e' => e == e'
  | .slice e, .slice e' => e == e'
  | .arr n e, .array n' e' => n == n' && e == e'
  | .struct fs, .struct a => a.toList.map (fun f => (f.offset, f.type)) == fs
  | .map k e, .map k' e' => k == k' && e == e'
  | .func, .func .. => true
  | .iface, .interface _ => true
  | _, _ => false
theorem TK.fitsB_ok {k : TK} {d : TypeDesc} (h : k.fitsB d = true) : k.fits d := by
  unfold TK.fitsB at h
  split at h <;> simp_all [TK.fits]
def tyCheck (P : Program) (t : TypeId) (d : TD) : Bool :=
  match P.underlying t, P.info? t with
  | some u, some i => d.k.fitsB u && i.size == d.size && i.bytes == d.bytes && d.zero.length == d.size &&
    (match i.zero with
     | some (.tuple _) => false
     | some z => beqs z.cells.toList d.zero && z.cells.toList.all clo1 && (d.k.isAgg || clo1 z)
     | none => false)
  | _, _ => false
theorem tyCheck_ok {P : Program} {t : TypeId} {d : TD} (h : tyCheck P t d = true) : TyOk P t d := by
  unfold tyCheck at h
  split at h
  · rename_i u i hu hi
    simp only [Bool.and_eq_true, beq_iff_eq] at h
    obtain ⟨⟨⟨⟨h1, h2⟩, h3⟩, h4⟩, h5⟩ := h
    split at h5
    · cases h5
    · rename_i z hz hzz
      simp only [Bool.and_eq_true, Bool.or_eq_true] at h5
      obtain ⟨⟨h6, h7⟩, h8⟩ := h5
      exact ⟨⟨u, hu, TK.fitsB_ok h1⟩, ⟨i, z, hi, h2, h3, hzz, beqs_eq h6, h7, fun a e => hz a e, fun hk => h8.resolve_left (by rw [hk]; simp)⟩, h4⟩
    · cases h5
  · cases h
/-- the whole table -/
def tysCheck (P : Program) (l : List (Nat × TD)) : Bool := l.all fun p => tyCheck P p.1 p.2
def tyOf (l : List (Nat × TD)) : Ty := fun t => l.lookup t
theorem tysCheck_ok {P : Program} {l : List (Nat × TD)} (h : tysCheck P l = true) : DOk P (tyOf l) := by
  intro t d hd
  have hm : (t, d) ∈ l := by
    unfold tyOf at hd
    induction l with
    | nil => simp at hd
    | cons x l ih =>
      obtain ⟨a, b⟩ := x
      rw [List.lookup_cons] at hd
      split at hd
      · rename_i e
        simp at e; subst e; cases hd; exact List.mem_cons_self
      · simp only [tysCheck, List.all_cons, Bool.and_eq_true] at h
        exact List.mem_cons_of_mem _ (ih h.2 hd)
  exact tyCheck_ok (List.all_eq_true.1 h _ hm)
def fieldsCheck (l : List (Nat × TD)) : Bool := l.all fun p => match p.2.k with | .struct fs => fs.all fun f => (l.lookup f.2).isSome | _ => true
theorem fieldsCheck_ok {l : List (Nat × TD)} (h : fieldsCheck l = true) : ∀ t, fieldsKnown (tyOf l) t = true := by
  intro t
  unfold fieldsKnown
  split
  · rename_i d hd
    have hm : (t, d) ∈ l := by
      unfold tyOf at hd
      clear h
      induction l with
      | nil => simp at hd
      | cons x l ih =>
        obtain ⟨a, b⟩ := x
        rw [List.lookup_cons] at hd
        split at hd
        · rename_i e
          simp at e; subst e; cases hd; exact List.mem_cons_self
        · exact List.mem_cons_of_mem _ (ih hd)
    have := List.all_eq_true.1 h _ hm
    simp only at this
    split
    · rename_i fs hk
      rw [hk] at this
      exact this
    · rfl
  · rfl
/-- the kinds of the cells of a type whose values may be compared -/
def kindsOf (D : Ty) (S : List Nat) : Nat → TypeId → Option (List TK)
  | 0, _ => none
  | m + 1, t =>
    match D t with
    | some d => match d.k with
      | .bool => if d.size = 1 then some [.bool] else none
      | .int k => if d.size = 1 then some [.int k] else none
      | .str => if d.size = 1 then some [.str] else none
      | .arr n e => (kindsOf D S m e).bind fun ks => match D e with
        | some de => if ks.length = de.size ∧ d.size = n * ks.length then some ((List.replicate n ks).flatten) else none
        | none => none
      | .struct fs => if t ∈ S then (go (kindsOf D S m) fs 0).bind fun ks => if ks.length = d.size then some ks else none else none
      | _ => none
    | none => none
where
  go (f : TypeId → Option (List TK)) : List (Nat × Nat) → Nat → Option (List TK)
    | [], _ => some []
    | (off, ft) :: fs, at_ => if off = at_ then (f ft).bind fun ks => if ks.length = 0 then none else (go f fs (at_ + ks.length)).map fun r => ks ++ r else none
def structCheck (P : Program) (t : TypeId) : Bool :=
  !P.stoodInHeld t && (match P.underlying t with | some (.struct a) => a.all fun f => f.name != "_" | _ => false)
theorem cellsEq_append : ∀ {ks ls : List TK} {xs xs2 ys ys2 : List Value} {b : Bool}, xs.length = ks.length → ys.length = ks.length → cellsEq (ks ++ ls) (xs ++ xs2) (ys ++ ys2) = some b →
    ∃ b1 b2, cellsEq ks xs ys = some b1 ∧ cellsEq ls xs2 ys2 = some b2 ∧ b = (b1 && b2)
  | [], ls, [], xs2, [], ys2, b, _, _, h => ⟨true, b, rfl, h, by simp⟩
  | k :: ks, ls, x :: xs, xs2, y :: ys, ys2, b, h1, h2, h => by
    simp only [List.cons_append, cellsEq, Option.bind_eq_some_iff, Option.map_eq_some_iff] at h
    obtain ⟨a, ha, c, hc, rfl⟩ := h
    obtain ⟨b1, b2, g1, g2, rfl⟩ := cellsEq_append (by simpa using h1) (by simpa using h2) hc
    exact ⟨a && b1, b2, by simp [cellsEq, ha, g1], g2, by rw [Bool.and_assoc]⟩
  | [], _, _ :: _, _, _, _, _, h, _, _ => by simp at h
  | [], _, [], _, _ :: _, _, _, _, h, _ => by simp at h
  | _ :: _, _, [], _, _, _, _, h, _, _ => by simp at h
  | _ :: _, _, _ :: _, _, [], _, _, _, h, _ => by simp at h
theorem cellsEq_len : ∀ {ks : List TK} {xs ys : List Value} {b : Bool}, cellsEq ks xs ys = some b → xs.length = ks.length ∧ ys.length = ks.length
  | [], [], [], _, _ => ⟨rfl, rfl⟩
  | k :: ks, x :: xs, y :: ys, b, h => by
    simp only [cellsEq, Option.bind_eq_some_iff, Option.map_eq_some_iff] at h
    obtain ⟨a, ha, c, hc, rfl⟩ := h
    obtain ⟨h1, h2⟩ := cellsEq_len hc
    exact ⟨by simp [h1], by simp [h2]⟩
  | [], [], _ :: _, _, h => by simp [cellsEq] at h
  | [], _ :: _, _, _, h => by simp [cellsEq] at h
  | _ :: _, [], _, _, h => by simp [cellsEq] at h
  | _ :: _, _ :: _, [], _, h => by simp [cellsEq] at h
section
variable {P : Program} {D : Ty} {S : List Nat}
/-- the value that these cells make, as a part of the type -/
def partV (d : TD) (cs : List Value) : Value := if d.k.isAgg then .agg cs.toArray else cs.headD (.tuple #[])
theorem part_cells (hD : DOk P D) {ft : TypeId} {df : TD} (hd : D ft = some df) {ks : List TK} {a : Array Value} {off : Nat} (hle : off + ks.length ≤ a.size) (hs : df.size = ks.length) (h1 : df.k.isAgg = false → ks.length = 1) (w : World) :
    (part ft a off).run P w = .ok (partV df ((a.toList.drop off).take ks.length)) w := by
  unfold partV
  cases hg : df.k.isAgg with
  | true =>
    have : (a.extract off (off + df.size)) = ((a.toList.drop off).take ks.length).toArray := by
      apply Array.ext'
      simp [Array.toList_extract, List.extract, hs]
    simp [part, run_isAgg hD hd, hg, run_size hD hd, this]
  | false =>
    have hl := h1 hg
    have hlt : off < a.size := by omega
    have ha : a[off]? = some a[off] := by simp
    have hh : ((a.toList.drop off).take ks.length).headD (.tuple #[]) = a[off] := by
      rw [hl]
      have : (a.toList.drop off).take 1 = [a[off]] := by
        rw [List.take_one]
        simp [ha]
      rw [this]; rfl
    simp only [part, Sem.run_bind, run_isAgg hD hd, hg, Result.andThen_ok, Bool.false_eq_true, if_false, ha, Sem.run_pure, hh]
theorem equal_ok (hD : DOk P D) (hS : ∀ t ∈ S, structCheck P t = true) : ∀ (m : Nat) (t : TypeId) (d : TD) (ks : List TK), D t = some d → kindsOf D S m t = some ks → d.size = ks.length ∧ (d.k.isAgg = false → ks.length = 1) ∧
    ∀ (dd : Nat) (w : World) (xs ys : List Value) (b : Bool), m ≤ dd → cellsEq ks xs ys = some b → (Op.equalIn dd t (partV d xs) (partV d ys)).run P w = .ok b w
  | 0, t, d, ks, _, h => by simp [kindsOf] at h
  | m + 1, t, d, ks, hd, h => by
    simp only [kindsOf, hd] at h
    obtain ⟨u, hu, hfit⟩ := (hD t d hd).und
    have scal : ∀ (k : TK), d.size = 1 → d.k.isAgg = false → ks = [k] → (∀ dd w x y b, cellEq k x y = some b → (Op.equalIn (dd + 1) t x y).run P w = .ok b w) →
        d.size = ks.length ∧ (d.k.isAgg = false → ks.length = 1) ∧ ∀ (dd : Nat) (w : World) (xs ys : List Value) (b : Bool), m + 1 ≤ dd → cellsEq ks xs ys = some b → (Op.equalIn dd t (partV d xs) (partV d ys)).run P w = .ok b w := by
      intro k hsz hagg hks hrun
      subst hks
      refine ⟨hsz, fun _ => rfl, fun dd w xs ys b hm hc => ?_⟩
      obtain ⟨l1, l2⟩ := cellsEq_len hc
      obtain ⟨x, rfl⟩ := List.length_eq_one_iff.1 l1
      obtain ⟨y, rfl⟩ := List.length_eq_one_iff.1 l2
      simp only [cellsEq, Option.bind_eq_some_iff, Option.map_some, Option.some.injEq, Bool.and_true] at hc
      obtain ⟨a, ha, rfl⟩ := hc
      obtain ⟨dd, rfl⟩ : ∃ e, dd = e + 1 := ⟨dd - 1, by omega⟩
      simp only [partV, hagg, Bool.false_eq_true, if_false, List.headD_cons]
      exact hrun dd w x y a ha
    split at h
    · rename_i hk
      split at h
      case isFalse => cases h
      rename_i hsz
      cases h
      rw [hk] at hfit; simp only [TK.fits] at hfit; subst hfit
      refine scal .bool hsz (by rw [hk]; rfl) rfl fun dd w x y b hc => ?_
      unfold cellEq at hc
      split at hc <;> first | (cases hc; done) | skip
      all_goals first
        | (rename_i e; cases e; done)
        | (cases hc; exact run_equalIn_bool' w dd t _ _ hu)
        | (exfalso; rename_i e _ _; cases e; done)
        | simp_all
    · rename_i k hk
      split at h
      case isFalse => cases h
      rename_i hsz
      cases h
      rw [hk] at hfit; simp only [TK.fits] at hfit; subst hfit
      refine scal (.int k) hsz (by rw [hk]; rfl) rfl fun dd w x y b hc => ?_
      cases x <;> cases y <;> simp only [cellEq] at hc <;> try (cases hc; done)
      split at hc
      · rename_i hkk; subst hkk; cases hc; exact run_equalIn_int w dd t _ k _ _ hu
      · cases hc
    · rename_i hk
      split at h
      case isFalse => cases h
      rename_i hsz
      cases h
      rw [hk] at hfit; simp only [TK.fits] at hfit; subst hfit
      refine scal .str hsz (by rw [hk]; rfl) rfl fun dd w x y b hc => ?_
      cases x <;> cases y <;> simp only [cellEq] at hc <;> try (cases hc; done)
      cases hc
      rw [beq_toListBytes]
      exact run_equalIn_string w dd t _ _ hu
    · rename_i n e hk
      simp only [Option.bind_eq_some_iff] at h
      obtain ⟨ks', hks', h⟩ := h
      split at h
      · rename_i de hde
        split at h
        · rename_i hsz2
          obtain ⟨hsz, hsz3⟩ := hsz2
          cases h
          rw [hk] at hfit; simp only [TK.fits] at hfit; subst hfit
          obtain ⟨_, i1, i2⟩ := equal_ok hD hS m e de ks' hde hks'
          refine ⟨by rw [hsz3]; simp, fun hf => absurd hf (by rw [hk]; simp [TK.isAgg]), fun dd w xs ys b hm hc => ?_⟩
          obtain ⟨dd, rfl⟩ : ∃ e, dd = e + 1 := ⟨dd - 1, by omega⟩
          obtain ⟨ie, ze, j1, j2, _⟩ := (hD e de hde).info
          have hpv : ∀ cs, partV d cs = .agg cs.toArray := by intro cs; simp [partV, hk, TK.isAgg]
          rw [hpv, hpv, run_equalIn_array w dd xs.toArray ys.toArray hu j1]
          have hco : P.cellsOf e = ks'.length := by simp [Program.cellsOf, j1, j2, hsz]
          rw [hco]
          have items : ∀ (is : List Nat) (k0 : Nat) (xr yr : List Value) (b : Bool), is = List.range' k0 is.length → xs.drop (k0 * ks'.length) = xr → ys.drop (k0 * ks'.length) = yr →
              cellsEq ((List.replicate is.length ks').flatten) xr yr = some b → (Op.eqItems dd e ks'.length xs.toArray ys.toArray is).run P w = .ok b w := by
            intro is
            induction is with
            | nil =>
              intro k0 xr yr b _ h1 h2 hc
              simp only [List.length_nil, List.replicate_zero, List.flatten_nil] at hc
              have hb : b = true := by
                obtain ⟨l1, l2⟩ := cellsEq_len hc
                have e1 := List.eq_nil_of_length_eq_zero l1
                have e2 := List.eq_nil_of_length_eq_zero l2
                rw [e1, e2] at hc; simpa [cellsEq] using hc.symm
              subst hb
              simp [Op.eqItems]
            | cons j is ih =>
              intro k0 xr yr b hr h1 h2 hc
              simp only [List.length_cons, List.range'_succ, List.cons.injEq] at hr
              obtain ⟨rfl, hr⟩ := hr
              simp only [List.length_cons, List.replicate_succ, List.flatten_cons] at hc
              obtain ⟨l1, l2⟩ := cellsEq_len hc
              simp only [List.length_append] at l1 l2
              have t1 : xr = xr.take ks'.length ++ xr.drop ks'.length := (List.take_append_drop _ _).symm
              have t2 : yr = yr.take ks'.length ++ yr.drop ks'.length := (List.take_append_drop _ _).symm
              rw [t1, t2] at hc
              obtain ⟨b1, b2, c1, c2, rfl⟩ := cellsEq_append (by simp; omega) (by simp; omega) hc
              have hx : j * ks'.length + ks'.length ≤ xs.toArray.size := by
                have : (xs.drop (j * ks'.length)).length = xr.length := by rw [h1]
                simp at this ⊢
                by_cases h0 : ks'.length = 0
                · simp [h0]
                · omega
              have hy : j * ks'.length + ks'.length ≤ ys.toArray.size := by
                have : (ys.drop (j * ks'.length)).length = yr.length := by rw [h2]
                simp at this ⊢
                by_cases h0 : ks'.length = 0
                · simp [h0]
                · omega
              have p1 := part_cells (P := P) hD hde (ks := ks') (a := xs.toArray) hx hsz.symm i1 w
              have p2 := part_cells (P := P) hD hde (ks := ks') (a := ys.toArray) hy hsz.symm i1 w
              simp only [h1, h2] at p1 p2
              have p3 := i2 dd w _ _ b1 (by omega) c1
              have p4 := ih (j + 1) (xr.drop ks'.length) (yr.drop ks'.length) b2 hr (by rw [← h1, List.drop_drop]; congr 1; rw [Nat.add_mul, Nat.one_mul]) (by rw [← h2, List.drop_drop]; congr 1; rw [Nat.add_mul, Nat.one_mul]) c2
              simp only [Op.eqItems, Sem.run_bind, p1, p2, p3, Result.andThen_ok]
              cases b1
              · simp
              · simpa using p4
          exact items (List.range n) 0 xs ys b (by simp [List.range_eq_range']) (by simp) (by simp) (by simpa using hc)
        · cases h
      · cases h
    · rename_i fs hk
      split at h
      · rename_i hmem
        simp only [Option.bind_eq_some_iff] at h
        obtain ⟨ks2, h, hks2⟩ := h
        split at hks2
        case isFalse => cases hks2
        rename_i hszs
        cases hks2
        rw [hk] at hfit
        obtain ⟨a, rfl, hfs⟩ := hfit
        have hsc := hS t hmem
        simp only [structCheck, hu, Bool.and_eq_true, Bool.not_eq_true', Array.all_eq_true_iff_forall_mem] at hsc
        refine ⟨hszs.symm, fun hf => absurd hf (by rw [hk]; simp [TK.isAgg]), fun dd w xs ys b hm hc => ?_⟩
        obtain ⟨dd, rfl⟩ : ∃ e, dd = e + 1 := ⟨dd - 1, by omega⟩
        have hpv : ∀ cs, partV d cs = .agg cs.toArray := by intro cs; simp [partV, hk, TK.isAgg]
        have hfo : P.fieldsOf t = a := by simp [Program.fieldsOf, hu]
        rw [hpv, hpv, run_equalIn_struct w dd t xs.toArray ys.toArray (by rw [hfo]; exact hu) hsc.1, hfo]
        have fields : ∀ (l : List Field) (at_ : Nat) (ks : List TK) (xr yr : List Value) (b : Bool), (∀ f ∈ l, f.name ≠ "_") → kindsOf.go (kindsOf D S m) (l.map fun f => (f.offset, f.type)) at_ = some ks →
            xs.drop at_ = xr → ys.drop at_ = yr → cellsEq ks xr yr = some b → (Op.eqFields dd xs.toArray ys.toArray l).run P w = .ok b w := by
          intro l
          induction l with
          | nil =>
            intro at_ ks xr yr b _ hg h1 h2 hc
            simp only [List.map_nil, kindsOf.go, Option.some.injEq] at hg
            subst hg
            have hb : b = true := by
              obtain ⟨l1, l2⟩ := cellsEq_len hc
              have e1 := List.eq_nil_of_length_eq_zero l1
              have e2 := List.eq_nil_of_length_eq_zero l2
              rw [e1, e2] at hc; simpa [cellsEq] using hc.symm
            subst hb
            simp [Op.eqFields]
          | cons f l ih =>
            intro at_ ks xr yr b hn hg h1 h2 hc
            simp only [List.map_cons, kindsOf.go] at hg
            split at hg
            · rename_i hoff
              subst hoff
              simp only [Option.bind_eq_some_iff] at hg
              obtain ⟨kf, hkf, hg⟩ := hg
              split at hg
              case isTrue => cases hg
              rename_i hk0
              simp only [Option.map_eq_some_iff] at hg
              obtain ⟨kr, hkr, rfl⟩ := hg
              have hdf : ∃ df, D f.type = some df := by
                cases m with
                | zero => simp [kindsOf] at hkf
                | succ m =>
                  cases hdf : D f.type with
                  | none => simp [kindsOf, hdf] at hkf
                  | some df => exact ⟨df, rfl⟩
              obtain ⟨df, hdf⟩ := hdf
              obtain ⟨hsz, i1, i2⟩ := equal_ok hD hS m f.type df kf hdf hkf
              obtain ⟨l1, l2⟩ := cellsEq_len hc
              simp only [List.length_append] at l1 l2
              have t1 : xr = xr.take kf.length ++ xr.drop kf.length := (List.take_append_drop _ _).symm
              have t2 : yr = yr.take kf.length ++ yr.drop kf.length := (List.take_append_drop _ _).symm
              rw [t1, t2] at hc
              obtain ⟨b1, b2, c1, c2, rfl⟩ := cellsEq_append (by simp; omega) (by simp; omega) hc
              have hx : f.offset + kf.length ≤ xs.toArray.size := by
                have : (xs.drop f.offset).length = xr.length := by rw [h1]
                simp at this ⊢
                omega
              have hy : f.offset + kf.length ≤ ys.toArray.size := by
                have : (ys.drop f.offset).length = yr.length := by rw [h2]
                simp at this ⊢
                omega
              have p1 := part_cells (P := P) hD hdf (ks := kf) (a := xs.toArray) hx hsz i1 w
              have p2 := part_cells (P := P) hD hdf (ks := kf) (a := ys.toArray) hy hsz i1 w
              simp only [h1, h2] at p1 p2
              have p3 := i2 dd w _ _ b1 (by omega) c1
              have p4 := ih (f.offset + kf.length) kr (xr.drop kf.length) (yr.drop kf.length) b2 (fun g hg => hn g (List.mem_cons_of_mem _ hg)) hkr (by rw [← h1, List.drop_drop]) (by rw [← h2, List.drop_drop]) c2
              have hnf : f.name ≠ "_" := hn f List.mem_cons_self
              simp only [Op.eqFields, hnf, ne_eq, not_false_eq_true, if_true, Sem.run_bind, p1, p2, p3, Result.andThen_ok]
              cases b1
              · simp
              · simpa using p4
            · cases hg
        refine fields a.toList 0 ks xs ys b (fun f hf => ?_) (by rw [hfs]; exact h) (by simp) (by simp) hc
        have := hsc.2 f (by simpa using hf)
        simpa using this
      · cases h
    · cases h
end
end Go.Proofs.Ytdnnojblneccdaa
/-
  Which types' values may be held against each other, from a table; states of few known variables.
-/
namespace Go.Proofs.Ytdnnojblneccdaa
set_option linter.unusedSimpArgs false
set_option linter.unusedVariables false
open Go
def kindsCheck (P : Program) (D : Ty) (S : List Nat) (l : List (Nat × List TK)) : Bool :=
  l.all fun p => !P.eqGuardType P.depth p.1 && decide (kindsOf D S 30 p.1 = some p.2) && (match D p.1 with | some d => d.k.isAgg | none => false)
theorem lookup_mem {α : Type} {l : List (Nat × α)} {t : Nat} {d : α} (h : l.lookup t = some d) : (t, d) ∈ l := by
  induction l with
  | nil => simp at h
  | cons x l ih =>
    obtain ⟨a, b⟩ := x
    rw [List.lookup_cons] at h
    split at h
    · rename_i e
      simp at e; subst e; cases h; exact List.mem_cons_self
    · exact List.mem_cons_of_mem _ (ih h)
theorem kindsCheck_ok {P : Program} {D : Ty} {S : List Nat} {l : List (Nat × List TK)} (hD : DOk P D) (hS : S.all (structCheck P) = true) (h : kindsCheck P D S l = true) : KOk P (fun t => l.lookup t) := by
  intro t ks hk
  have hm := List.all_eq_true.1 h _ (lookup_mem hk)
  simp only [Bool.and_eq_true, Bool.not_eq_true', decide_eq_true_eq] at hm
  obtain ⟨⟨h1, h2⟩, h3⟩ := hm
  split at h3
  · rename_i d hd
    obtain ⟨i1, i2, i3⟩ := equal_ok hD (fun t ht => List.all_eq_true.1 hS t ht) 30 t d ks hd h2
    refine ⟨h1, fun dd w xs ys b hdd hc => ?_⟩
    have := i3 dd w xs.toList ys.toList b hdd hc
    simpa [partV, h3] using this
  · cases h3
theorem env_mk {P : Program} {tys : List (Nat × TD)} {S : List Nat} {kks : List (Nat × List TK)} {Γ : Fns} (h1 : tysCheck P tys = true) (h2 : fieldsCheck tys = true) (h3 : S.all (structCheck P) = true)
    (h4 : kindsCheck P (tyOf tys) S kks = true) (h5 : FnsOk P Γ) : Env P Γ (tyOf tys) (fun t => kks.lookup t) :=
  ⟨tysCheck_ok h1, kindsCheck_ok (tysCheck_ok h1) h3 h4, fieldsCheck_ok h2, h5⟩
theorem fnsOk_nil {P : Program} : FnsOk P [] := fun f F h => by simp at h
theorem fnsOk_cons {P : Program} {f : FuncId} {F : FnI} {Γ : Fns} (h : Ref P f F) (hs : FnsOk P Γ) : FnsOk P ((f, F) :: Γ) := by
  intro g G hG
  rw [List.lookup_cons] at hG
  split at hG
  · rename_i e
    simp at e; subst e; cases hG; exact h
  · exact hs g G hG
/-- N variables, of which few are known -/
def dense (N : Nat) (L : List (Nat × Value)) : List Value := (List.range N).map fun i => (L.lookup i).getD (.tuple #[])
@[simp] theorem dense_length (N : Nat) (L : List (Nat × Value)) : (dense N L).length = N := by simp [dense]
theorem dense_get (N : Nat) (L : List (Nat × Value)) (i : Nat) : (dense N L)[i]? = if i < N then some ((L.lookup i).getD (.tuple #[])) else none := by
  unfold dense
  rw [List.getElem?_map]
  by_cases h : i < N
  · rw [List.getElem?_range h, if_pos h]; rfl
  · rw [if_neg h, List.getElem?_eq_none (by simpa using h)]; rfl
theorem ev_tmp (N : Nat) (L : List (Nat × Value)) (i : Nat) : ev (dense N L) (.tmp i) = if i < N then (L.lookup i).getD (.tuple #[]) else .tuple #[] := by
  show (dense N L).getD i (.tuple #[]) = _
  rw [List.getD_eq_getElem?_getD, dense_get]
  split <;> rfl
def putL (d : Option Tmp) (v : Value) (L : List (Nat × Value)) : List (Nat × Value) :=
  match d with
  | some d => (d, v) :: L
  | none => L
theorem tput_dense (N : Nat) (L : List (Nat × Value)) (d : Option Tmp) (v : Value) : tput (dense N L) d v = dense N (putL d v L) := by
  cases d with
  | none => rfl
  | some d =>
    apply List.ext_getElem?
    intro i
    simp only [tput, putL, List.getElem?_set, dense_get, dense_length, List.lookup_cons]
    by_cases h : d = i
    · subst h
      simp
    · rw [if_neg h]
      have : (i == d) = false := by simpa using fun e : i = d => h e.symm
      simp [this]
/-- arguments, numbered -/
def idxL (k : Nat) : List Value → List (Nat × Value)
  | [] => []
  | a :: zs => (k, a) :: idxL (k + 1) zs
theorem lookup_idxL : ∀ (zs : List Value) (k i : Nat), (idxL k zs).lookup i = if k ≤ i then zs[i - k]? else none
  | [], k, i => by simp [idxL]
  | a :: zs, k, i => by
    simp only [idxL, List.lookup_cons, lookup_idxL zs (k + 1) i]
    by_cases h : i = k
    · subst h; simp
    · have : (i == k) = false := by simpa using h
      simp only [this]
      by_cases h2 : k + 1 ≤ i
      · rw [if_pos h2, if_pos (by omega)]
        obtain ⟨j, rfl⟩ : ∃ j, i = k + 1 + j := ⟨i - (k + 1), by omega⟩
        have e1 : k + 1 + j - (k + 1) = j := by omega
        have e2 : k + 1 + j - k = j + 1 := by omega
        rw [e1, e2]; rfl
      · rw [if_neg h2, if_neg (by omega)]
theorem dense_init (zs : List Value) (N : Nat) (h : zs.length ≤ N) : zs ++ List.replicate (N - zs.length) (.tuple #[]) = dense N (idxL 0 zs) := by
  apply List.ext_getElem?
  intro i
  rw [dense_get, lookup_idxL, if_pos (Nat.zero_le _), Nat.sub_zero]
  by_cases h1 : i < zs.length
  · rw [List.getElem?_append_left h1, if_pos (by omega)]
    simp [h1]
  · rw [List.getElem?_append_right (by omega)]
    by_cases h2 : i < N
    · rw [if_pos h2, List.getElem?_eq_none (show zs.length ≤ i by omega), List.getElem?_replicate, if_pos (by omega)]; rfl
    · rw [if_neg h2, List.getElem?_eq_none (by simp; omega)]
theorem fgt_mk : ∀ {s t : List Value}, s.length = t.length → (∀ (i : Nat) x y, s[i]? = some x → t[i]? = some y → x = .tuple #[] ∨ x = y) → fgt s t
  | [], [], _, _ => trivial
  | x :: xs, y :: ys, h1, h2 => ⟨h2 0 x y rfl rfl, fgt_mk (by simpa using h1) fun i a b ha hb => h2 (i + 1) a b (by simpa using ha) (by simpa using hb)⟩
/-- what is known here, is known there -/
def subL : List (Nat × Value) → List (Nat × Value) → Prop
  | [], _ => True
  | p :: ps, L => L.lookup p.1 = some p.2 ∧ subL ps L
theorem subL_spec : ∀ {M L : List (Nat × Value)}, subL M L → ∀ i v, M.lookup i = some v → L.lookup i = some v
  | [], _, _, i, v, h => by simp at h
  | (j, x) :: M, L, h, i, v, e => by
    rw [List.lookup_cons] at e
    split at e
    · rename_i hij
      simp at hij; subst hij; cases e; exact h.1
    · exact subL_spec h.2 i v e
theorem fgt_dense {N : Nat} {M L : List (Nat × Value)} (h : subL M L) : fgt (dense N M) (dense N L) := by
  refine fgt_mk (by simp) fun i x y hx hy => ?_
  rw [dense_get] at hx hy
  split at hx
  · rename_i hi
    rw [if_pos hi] at hy
    cases hx; cases hy
    cases hM : M.lookup i with
    | none => exact .inl rfl
    | some v => rw [subL_spec h i v hM]; exact .inr rfl
  · cases hx
/-- of what is known, that of these -/
def keepL (ks : List Nat) (L : List (Nat × Value)) : List (Nat × Value) := ks.map fun k => (k, (L.lookup k).getD (.tuple #[]))
theorem lookup_keepL {ks : List Nat} {L : List (Nat × Value)} {i : Nat} {v : Value} (h : (keepL ks L).lookup i = some v) : v = (L.lookup i).getD (.tuple #[]) := by
  induction ks with
  | nil => simp [keepL] at h
  | cons k ks ih =>
    simp only [keepL, List.map_cons, List.lookup_cons] at h
    split at h
    · rename_i e; simp at e; subst e; cases h; rfl
    · exact ih h
theorem fgt_keepL {N : Nat} {ks : List Nat} {L : List (Nat × Value)} : fgt (dense N (keepL ks L)) (dense N L) := by
  refine fgt_mk (by simp) fun i x y hx hy => ?_
  rw [dense_get] at hx hy
  split at hx
  · rename_i hi
    rw [if_pos hi] at hy
    cases hx; cases hy
    cases hM : (keepL ks L).lookup i with
    | none => exact .inl rfl
    | some v => exact .inr (lookup_keepL hM)
  · cases hx
/-- memory: few rows over others; the newest first -/
def hp (H : IHeap) : Ups → IHeap
  | [] => H
  | (id, o) :: M => upd (hp H M) id o
theorem hp_eq (H : IHeap) (id : Nat) (o : Option IObj) (M : Ups) : hp H ((id, o) :: M) id = o := by simp [hp, upd]
theorem hp_ne (H : IHeap) {id j : Nat} (o : Option IObj) (M : Ups) (h : id ≠ j) : hp H ((j, o) :: M) id = hp H M id := by simp [hp, upd, h]
theorem hp_nil (H : IHeap) : hp H [] = H := rfl
def putH : Ups → Ups → Ups
  | [], M => M
  | p :: l, M => putH l (p :: M)
theorem upds_hp (H : IHeap) : ∀ (l M : Ups), upds (hp H M) l = hp H (putH l M)
  | [], M => rfl
  | (id, o) :: l, M => by
    simp only [upds, putH]
    rw [← upds_hp H l ((id, o) :: M)]; rfl
section
variable {P : Program} {Γ : Fns} {D : Ty} {K : Kinds} {W : Nat → Prop} {R : Option Nat} {ops : Array Oper} {Q : Post3} {o : Oper} {os : List Oper} {N : Nat} {L : List (Nat × Value)} {H : IHeap} {M : Ups} {n : Nat}
/-- an operation without a guard -/
theorem vcS_op {ef : Eff} (hg : o.guard = none) (h : iopC Γ D K (ev (dense N L)) (hp H M) n o.op = some ef) (hW : ∀ p ∈ ef.up, W p.1)
    (k : vcS Γ D K W ops Q os (dense N (putL o.dst ef.v L)) (hp H (putH ef.up M)) ef.n) : vcS Γ D K W ops Q (o :: os) (dense N L) (hp H M) n := by
  simp only [vcS, wantedI, hg, wpo, h]
  refine ⟨fun _ => ⟨hW, ?_⟩, fun h => by cases h⟩
  rw [tput_dense, upds_hp]; exact k
/-- an operation that changes nothing, with a guard -/
theorem vcS_guard {b : Bool} {v : Value} (hg : wantedI ops (dense N L) o = some b) (h : b = true → iopC Γ D K (ev (dense N L)) (hp H M) n o.op = some ⟨v, [], n⟩)
    (k : vcS Γ D K W ops Q os (dense N (putL o.dst (if b = true then v else .chan none) L)) (hp H M) n) : vcS Γ D K W ops Q (o :: os) (dense N L) (hp H M) n := by
  simp only [vcS, hg, wpo]
  refine ⟨fun hb => ?_, fun hb => ?_⟩
  · rw [h hb]
    subst hb
    refine ⟨fun p hm => (by cases hm), ?_⟩
    rw [tput_dense]; exact k
  · subst hb
    rw [tput_dense]; exact k
theorem vcS_nil (k : Q (dense N L) (hp H M) n) : vcS Γ D K W ops Q [] (dense N L) (hp H M) n := k
theorem IWp.keep {c : Code} {Q : PostX} (ks : List Nat) (h : IWp P W R c Q (dense N (keepL ks L)) H n) : IWp P W R c Q (dense N L) H n :=
  h.forget fgt_keepL (fun _ _ h => h) (Nat.le_refl _)
/-- a row lies below the free numbers -/
theorem IWp.lt {c : Code} {Q : PostX} {t : List Value} {id : Nat} {o : IObj} (hH : H id = some o) (h : id < n → IWp P W R c Q t H n) : IWp P W R c Q t H n := by
  intro ρ0 w0 m0 ρ a w hs
  obtain ⟨r, κ, h1, _⟩ := hs.heap.obj id o hH
  exact h (hs.below.lt h1) ρ0 w0 m0 ρ a w hs
end
end Go.Proofs.Ytdnnojblneccdaa
/-
  Steps through code on states of few known variables.
-/
namespace Go.Proofs.Ytdnnojblneccdaa
set_option linter.unusedSimpArgs false
set_option linter.unusedVariables false
open Go
/-- an operand's value, where it is known -/
def opd (N : Nat) (L : List (Nat × Value)) : Operand → Option Value
  | .tmp u => cond (Nat.blt u N) (L.lookup u) none
  | .const v => cond (clo v) (some v) none
  | .func f => some (.func (.func f) #[] #[])
  | .global _ => none
theorem pl {N : Nat} {L : List (Nat × Value)} {x : Operand} {v : Value} (h : opd N L x = some v) : ev (dense N L) x = v := by
  cases x with
  | tmp u =>
    rw [ev_tmp]
    simp only [opd] at h
    cases hb : Nat.blt u N with
    | false => rw [hb] at h; cases h
    | true =>
      rw [hb] at h
      rw [if_pos (by simpa [Nat.blt_eq] using hb)]
      simp only [cond_true] at h
      rw [h]; rfl
  | const v =>
    simp only [opd] at h
    simp only [ev]
    cases hb : clo v with
    | false => rw [hb] at h; cases h
    | true => rw [hb] at h; cases h; rfl
  | func f => simp only [opd, Option.some.injEq] at h; exact h
  | global g => cases h
/-- a value that is there only if b holds -/
def gv (b : Bool) (v : Value) : Value := cond b v (.chan none)
theorem gd {N : Nat} {L : List (Nat × Value)} {x : Operand} {v : Value} {b : Bool} (hb : b = true) (h : opd N L x = some (gv b v)) : ev (dense N L) x = v := by
  subst hb; exact pl h
theorem opd_tmp {N : Nat} {L : List (Nat × Value)} {u : Nat} {v : Value} (h : opd N L (.tmp u) = some v) : (dense N L)[u]? = some v := by
  simp only [opd] at h
  cases hb : Nat.blt u N with
  | false => rw [hb] at h; cases h
  | true =>
    rw [hb] at h
    rw [dense_get, if_pos (by simpa [Nat.blt_eq] using hb)]
    simp only [cond_true] at h
    rw [h]; rfl
/-- guards -/
theorem wgT {ops : Array Oper} {N : Nat} {L : List (Nat × Value)} {o : Oper} {j d : Nat} {b : Bool} (hg : o.guard = some (j, true)) (hj : (ops[j]?).bind (·.dst) = some d) (h : opd N L (.tmp d) = some (.bool b)) : wantedI ops (dense N L) o = some b := by
  simp only [wantedI, hg, hj, opd_tmp h, Option.bind_some, wantV]
  cases b <;> rfl
theorem wgF {ops : Array Oper} {N : Nat} {L : List (Nat × Value)} {o : Oper} {j d : Nat} {b : Bool} (hg : o.guard = some (j, false)) (hj : (ops[j]?).bind (·.dst) = some d) (h : opd N L (.tmp d) = some (.bool b)) : wantedI ops (dense N L) o = some (!b) := by
  simp only [wantedI, hg, hj, opd_tmp h, Option.bind_some, wantV]
  cases b <;> rfl
theorem hp_sk {H : IHeap} {id j : Nat} {o r : Option IObj} {M : Ups} (h : id ≠ j) (k : hp H M id = r) : hp H ((j, o) :: M) id = r := (hp_ne H o M h).trans k
/-! one operation: what it comes to -/
section
variable {Γ : Fns} {D : Ty} {K : Kinds} {e : Operand → Value} {H : IHeap} {n : Nat}
theorem ox_move {x : Operand} {v : Value} (h : e x = v) : iopC Γ D K e H n (.move x) = some ⟨v, [], n⟩ := by subst h; rfl
theorem ox_assign {x : Operand} {v : Value} (h : e x = v) : iopC Γ D K e H n (.assign x) = some ⟨v, [], n⟩ := by subst h; rfl
/-- a && b -/
theorem ox_and {c x y : Operand} {b a : Bool} (hc : e c = .bool b) (hx : b = true → e x = .bool a) (hy : e y = .bool false) : iopC Γ D K e H n (.pick c x y) = some ⟨.bool (b && a), [], n⟩ := by
  simp only [iopC, iop, hc, hy, val]
  cases b
  · rfl
  · rw [hx rfl]; rfl
/-- a || b -/
theorem ox_or {c x y : Operand} {b a : Bool} (hc : e c = .bool b) (hx : e x = .bool true) (hy : b = false → e y = .bool a) : iopC Γ D K e H n (.pick c x y) = some ⟨.bool (b || a), [], n⟩ := by
  simp only [iopC, iop, hc, hx, val]
  cases b
  · rw [hy rfl]; rfl
  · rfl
theorem ox_alloc {t : TypeId} {d : TD} (hd : D t = some d) : iopC Γ D K e H n (.alloc t) = some ⟨.pointer (some ⟨n, 0, none⟩), [(n, some (.cells d.zero false))], n + 1⟩ := by
  simp only [iopC, iop, hd, Option.bind_some, new]
theorem ox_box {t : TypeId} {x : Operand} {v : Value} {cs : List Value} (hx : e x = v) (hc : cellsOf v = some cs) : iopC Γ D K e H n (.box t x) = some ⟨.pointer (some ⟨n, 0, none⟩), [(n, some (.cells cs false))], n + 1⟩ := by
  simp only [iopC, iop, hx, hc, Option.bind_some, new]
theorem ox_load {t : TypeId} {a : Operand} {id off : Nat} {d : TD} {c : List Value} {ro : Bool} {v : Value} (ha : e a = .pointer (some ⟨id, off, none⟩)) (hd : D t = some d) (hH : H id = some (.cells c ro)) (hv : rdVar d c off = some v) :
    iopC Γ D K e H n (.load t a) = some ⟨v, [], n⟩ := by
  simp only [iopC, iop, doLoad, ha, hd, hH, hv, Option.bind_some, val]
theorem ox_store {t : TypeId} {a x : Operand} {id off : Nat} {d : TD} {c vs c' : List Value} {v : Value} (ha : e a = .pointer (some ⟨id, off, none⟩)) (hx : e x = v) (hd : D t = some d) (hH : H id = some (.cells c false)) (hv : cellsOf v = some vs)
    (h1 : vs.length = d.size) (h2 : off + d.size ≤ c.length) (h3 : vs.all known = true) (hc : wrCells c off vs = c') :
    iopC Γ D K e H n (.store t a x) = some ⟨.tuple #[], [(id, some (.cells c' false))], n⟩ := by
  simp only [iopC, iop, doStore, ha, hx, hd, hH, hv, Option.bind_some, hc]
  rw [if_pos ⟨h1, h2, h3⟩]
theorem ox_bin {op : BinOp} {t t2 : TypeId} {x y : Operand} {v w r : Value} (hx : e x = v) (hy : e y = w) (h : binOp' D K op t v w = some r) : iopC Γ D K e H n (.binOp op t x y t2) = some ⟨r, [], n⟩ := by
  simp only [iopC, iop, hx, hy, h, Option.bind_some, val]
theorem ox_un {op : UnOp} {t : TypeId} {x : Operand} {v r : Value} (hx : e x = v) (h : unOp' op v = some r) : iopC Γ D K e H n (.unOp op t x) = some ⟨r, [], n⟩ := by
  simp only [iopC, iop, hx, h, Option.bind_some, val]
theorem ox_conv {s t : TypeId} {x : Operand} {k k' : IntKind} {a : Int} {ds dd : TD} (hx : e x = .int k' a) (hs : D s = some ds) (hd : D t = some dd) (hk : dd.k = .int k) : iopC Γ D K e H n (.convert s t x) = some ⟨.int k (k.wrap a), [], n⟩ := by
  simp only [iopC, iop, doConvert, hx, hs, hd, hk, val]
theorem ox_fieldAddr {t : TypeId} {x : Operand} {f id off o ft : Nat} {d df : TD} {fs : List (Nat × Nat)} (hx : e x = .pointer (some ⟨id, off, none⟩)) (hd : D t = some d) (hk : d.k = .struct fs) (hf : fs[f]? = some (o, ft)) (hdf : D ft = some df) (h0 : df.size ≠ 0) :
    iopC Γ D K e H n (.fieldAddr t x f) = some ⟨.pointer (some ⟨id, off + o, none⟩), [], n⟩ := by
  simp only [iopC, iop, doField, hx, hd, hk, hf, hdf, Option.bind_some, if_neg h0, val]
theorem ox_iaS {t : TypeId} {x y : Operand} {id off len cap el : Nat} {s : Option Nat} {k : IntKind} {i : Int} {d de : TD} (hx : e x = .slice (some ⟨id, off, s⟩) len cap) (hy : e y = .int k i) (hd : D t = some d) (hk : d.k = .slice el) (hde : D el = some de) (h0 : 0 ≤ i) (h1 : i < len) :
    iopC Γ D K e H n (.indexAddr t x y) = some ⟨.pointer (some ⟨id, off + i.toNat * de.size, none⟩), [], n⟩ := by
  simp only [iopC, iop, hx, hy, hd, hk, hde, Option.bind_some, if_pos (And.intro h0 h1), val]
theorem ox_iaA {t : TypeId} {x y : Operand} {id off len el : Nat} {k : IntKind} {i : Int} {d de : TD} (hx : e x = .pointer (some ⟨id, off, none⟩)) (hy : e y = .int k i) (hd : D t = some d) (hk : d.k = .arr len el) (hde : D el = some de) (h0 : 0 ≤ i) (h1 : i < len) :
    iopC Γ D K e H n (.indexAddr t x y) = some ⟨.pointer (some ⟨id, off + i.toNat * de.size, none⟩), [], n⟩ := by
  simp only [iopC, iop, hx, hy, hd, hk, hde, Option.bind_some, if_pos (And.intro h0 h1), val]
theorem ox_ixA {t : TypeId} {x y : Operand} {len el : Nat} {cs : Array Value} {k : IntKind} {i : Int} {d de : TD} {v : Value} (hx : e x = .agg cs) (hy : e y = .int k i) (hd : D t = some d) (hk : d.k = .arr len el) (hde : D el = some de) (h0 : 0 ≤ i) (h1 : i < len) (hv : rdVar de cs.toList (i.toNat * de.size) = some v) :
    iopC Γ D K e H n (.index t x y) = some ⟨v, [], n⟩ := by
  simp only [iopC, iop, hx, hy, hd, hk, hde, Option.bind_some, if_pos (And.intro h0 h1), hv, val]
theorem ox_slS {t : TypeId} {x : Operand} {lo hi mx : Option Operand} {a : Addr} {len cap el : Nat} {d de : TD} {v : Value} (hx : e x = .slice (some a) len cap) (hd : D t = some d) (hk : d.k = .slice el) (hde : D el = some de) (hv : sliceIt a len cap de.size (lo.map e) (hi.map e) (mx.map e) = some v) :
    iopC Γ D K e H n (.slice t x lo hi mx) = some ⟨v, [], n⟩ := by
  simp only [iopC, iop, hx, hd, hk, hde, Option.bind_some, hv, val]
theorem ox_slN {t : TypeId} {x : Operand} {lo hi mx : Option Operand} {l c el : Nat} {d de : TD} {v : Value} (hx : e x = .slice none l c) (hd : D t = some d) (hk : d.k = .slice el) (hde : D el = some de) (hv : sliceIt ⟨0, 0, none⟩ 0 0 de.size (lo.map e) (hi.map e) (mx.map e) = some v) :
    iopC Γ D K e H n (.slice t x lo hi mx) = some ⟨.slice none 0 0, [], n⟩ := by
  simp only [iopC, iop, hx, hd, hk, hde, Option.bind_some, hv, val]
theorem ox_slA {t : TypeId} {x : Operand} {lo hi mx : Option Operand} {id off len el : Nat} {d de : TD} {v : Value} (hx : e x = .pointer (some ⟨id, off, none⟩)) (hd : D t = some d) (hk : d.k = .arr len el) (hde : D el = some de) (hv : sliceIt ⟨id, off, none⟩ len len de.size (lo.map e) (hi.map e) (mx.map e) = some v) :
    iopC Γ D K e H n (.slice t x lo hi mx) = some ⟨v, [], n⟩ := by
  simp only [iopC, iop, hx, hd, hk, hde, Option.bind_some, hv, val]
/-- a whole array as a slice -/
theorem ox_slAll {t : TypeId} {x : Operand} {id off len el : Nat} {d de : TD} (hx : e x = .pointer (some ⟨id, off, none⟩)) (hd : D t = some d) (hk : d.k = .arr len el) (hde : D el = some de) :
    iopC Γ D K e H n (.slice t x none none none) = some ⟨.slice (some ⟨id, off, none⟩) len len, [], n⟩ := by
  refine ox_slA hx hd hk hde ?_
  simp [sliceIt, bnd, goOn]
theorem ox_calls {t : List Value} {f : FuncId} {args : Array Operand} {ats : Array TypeId} {F : FnI} {ef : Eff} (hF : Γ.lookup f = some F) (h : F (args.toList.map (ev t)) H n = some ef) :
    iopC Γ D K (ev t) H n (.call ⟨.value (.func f), args, ats⟩) = some ef := by
  simp only [iopC, ev, hF, Option.bind_some]
  simpa using h
/-- arguments -/
def opds (N : Nat) (L : List (Nat × Value)) : List Operand → Option (List Value)
  | [] => some []
  | x :: xs => match opd N L x, opds N L xs with
    | some v, some vs => some (v :: vs)
    | _, _ => none
theorem opds_ev {N : Nat} {L : List (Nat × Value)} : ∀ {xs : List Operand} {vs : List Value}, opds N L xs = some vs → xs.map (ev (dense N L)) = vs
  | [], vs, h => by cases h; rfl
  | x :: xs, vs, h => by
    simp only [opds] at h
    split at h
    · rename_i v vs' h1 h2
      cases h
      simp only [List.map_cons, pl h1, opds_ev h2]
    · cases h
theorem ox_fn {N : Nat} {L : List (Nat × Value)} {f : FuncId} {args : Array Operand} {ats : Array TypeId} {F : FnI} {ef : Eff} {vs : List Value} (hF : Γ.lookup f = some F) (ha : opds N L args.toList = some vs) (h : F vs H n = some ef) :
    iopC Γ D K (ev (dense N L)) H n (.call ⟨.value (.func f), args, ats⟩) = some ef :=
  ox_calls hF (by rw [opds_ev ha]; exact h)
/-- parts of a literal -/
def opp (N : Nat) (L : List (Nat × Value)) : List (Nat × Operand) → Option (List (Nat × Value))
  | [] => some []
  | (i, x) :: xs => match opd N L x, opp N L xs with
    | some v, some vs => some ((i, v) :: vs)
    | _, _ => none
theorem opp_ev {N : Nat} {L : List (Nat × Value)} : ∀ {xs : List (Nat × Operand)} {vs : List (Nat × Value)}, opp N L xs = some vs → xs.map (fun p => (p.1, ev (dense N L) p.2)) = vs
  | [], vs, h => by cases h; rfl
  | (i, x) :: xs, vs, h => by
    simp only [opp] at h
    split at h
    · rename_i v vs' h1 h2
      cases h
      simp only [List.map_cons, pl h1, opp_ev h2]
    · cases h
theorem ox_buildA {N : Nat} {L : List (Nat × Value)} {t : TypeId} {parts : Array (Nat × Operand)} {len el : Nat} {d de : TD} {vs : List (Nat × Value)} {cs : List Value} (hd : D t = some d) (hk : d.k = .arr len el) (hde : D el = some de) (hp : opp N L parts.toList = some vs)
    (hf : fillIn (fun i => some (i * de.size, de.size)) d.zero vs = some cs) : iopC Γ D K (ev (dense N L)) H n (.build t parts) = some ⟨.agg cs.toArray, [], n⟩ := by
  simp only [iopC, iop, hd, hk, hde, Option.bind_some, opp_ev hp, hf, val]
theorem ox_buildS {N : Nat} {L : List (Nat × Value)} {t : TypeId} {parts : Array (Nat × Operand)} {fs : List (Nat × Nat)} {d : TD} {vs : List (Nat × Value)} {cs : List Value} (hd : D t = some d) (hk : d.k = .struct fs) (hp : opp N L parts.toList = some vs)
    (hf : fillIn (fun i => fs[i]?.bind fun f => (D f.2).map fun df => (f.1, df.size)) d.zero vs = some cs) : iopC Γ D K (ev (dense N L)) H n (.build t parts) = some ⟨.agg cs.toArray, [], n⟩ := by
  simp only [iopC, iop, hd, hk, Option.bind_some, opp_ev hp, hf, val]
theorem is_some {x : Option IObj} {o : IObj} (h : x = some o) : x.isSome = true := by rw [h]; rfl
theorem ox_len {x : Operand} {t : TypeId} {d : TD} {el : Nat} {a : Option Addr} {len cap : Nat} (hx : e x = .slice a len cap) (hd : D t = some d) (hk : d.k = .slice el) : iopC Γ D K e H n (.call ⟨.builtin .len, #[x], #[t]⟩) = some ⟨.int .i64 len, [], n⟩ := by
  simp [iopC, iop, doBuiltin, hx, hd, hk, val]
theorem ox_extract {x : Operand} {i : Nat} {vs : Array Value} {v : Value} (hx : e x = .tuple vs) (hv : vs[i]? = some v) : iopC Γ D K e H n (.extract x i) = some ⟨v, [], n⟩ := by
  have : vs.isEmpty = false := by
    have := (Array.getElem?_eq_some_iff.1 hv).1
    simp; intro h; subst h; simp at this
  simp [iopC, iop, hx, hv, this, val]
end
section
variable {P : Program} {Γ : Fns} {D : Ty} {K : Kinds} {W : Nat → Prop} {R : Option Nat} {ops : Array Oper} {Q : Post3} {o : Oper} {os : List Oper} {N : Nat} {L : List (Nat × Value)} {H : IHeap} {M : Ups} {n : Nat}
/-- nothing written -/
theorem vcS_val {d : Tmp} {v : Value} (hd : o.dst = some d) (hg : o.guard = none) (h : iopC Γ D K (ev (dense N L)) (hp H M) n o.op = some ⟨v, [], n⟩)
    (k : vcS Γ D K W ops Q os (dense N ((d, v) :: L)) (hp H M) n) : vcS Γ D K W ops Q (o :: os) (dense N L) (hp H M) n := by
  refine vcS_op hg h (fun p hm => (by cases hm)) ?_
  rw [hd]; exact k
/-- one row written, or a new one -/
theorem vcS_new {d : Tmp} {v : Value} {id n' : Nat} {x : Option IObj} (hd : o.dst = some d) (hg : o.guard = none) (h : iopC Γ D K (ev (dense N L)) (hp H M) n o.op = some ⟨v, [(id, x)], n'⟩) (hW : W id)
    (k : vcS Γ D K W ops Q os (dense N ((d, v) :: L)) (hp H ((id, x) :: M)) n') : vcS Γ D K W ops Q (o :: os) (dense N L) (hp H M) n := by
  refine vcS_op hg h (fun p hm => (by simp only [List.mem_singleton] at hm; subst hm; exact hW)) ?_
  rw [hd]; exact k
theorem vcS_sto {v : Value} {id n' : Nat} {x : Option IObj} (hd : o.dst = none) (hg : o.guard = none) (h : iopC Γ D K (ev (dense N L)) (hp H M) n o.op = some ⟨v, [(id, x)], n'⟩) (hW : W id)
    (k : vcS Γ D K W ops Q os (dense N L) (hp H ((id, x) :: M)) n') : vcS Γ D K W ops Q (o :: os) (dense N L) (hp H M) n := by
  refine vcS_op hg h (fun p hm => (by simp only [List.mem_singleton] at hm; subst hm; exact hW)) ?_
  rw [hd]; exact k
/-- a call -/
theorem vcS_call {d : Tmp} {v : Value} {up M' : Ups} {n' : Nat} (hd : o.dst = some d) (hg : o.guard = none) (h : iopC Γ D K (ev (dense N L)) (hp H M) n o.op = some ⟨v, up, n'⟩) (hM : putH up M = M') (hW : ∀ p ∈ up, W p.1)
    (k : vcS Γ D K W ops Q os (dense N ((d, v) :: L)) (hp H M') n') : vcS Γ D K W ops Q (o :: os) (dense N L) (hp H M) n := by
  refine vcS_op hg h hW ?_
  rw [hd, hM]; exact k
/-- with a guard, nothing written -/
theorem vcS_opt {d : Tmp} {b : Bool} {v : Value} (hd : o.dst = some d) (hg : wantedI ops (dense N L) o = some b) (h : b = true → iopC Γ D K (ev (dense N L)) (hp H M) n o.op = some ⟨v, [], n⟩)
    (k : vcS Γ D K W ops Q os (dense N ((d, gv b v) :: L)) (hp H M) n) : vcS Γ D K W ops Q (o :: os) (dense N L) (hp H M) n := by
  refine vcS_guard hg h ?_
  rw [hd]
  have : (if b = true then v else .chan none) = gv b v := by cases b <;> rfl
  rw [this]; exact k
/-- pieces of code, one after another -/
def IW (P : Program) (W : Nat → Prop) (R : Option Nat) : List Code → PostX → Post3
  | [], Q, t, H, n => Q .normal t H n
  | c :: cs, Q, t, H, n => IWp P W R c (PostX.seq (fun t H n => IW P W R cs Q t H n) Q) t H n
theorem IW.one {c : Code} {Q : PostX} {t : List Value} (h : IW P W R [c] Q t H n) : IWp P W R c Q t H n := by
  refine IWp.mono h fun ex t H n hx => ?_
  cases ex <;> exact hx
theorem IW.seq {a b : Code} {cs : List Code} {Q : PostX} {t : List Value} (h : IW P W R (a :: b :: cs) Q t H n) : IW P W R (.seq a b :: cs) Q t H n := by
  refine IWp.seq (IWp.mono h fun ex t H n hx => ?_)
  cases ex <;> exact hx
theorem IW.reg (hE : Env P Γ D K) {id : Nat} {ops : List Oper} {cs : List Code} {Q : PostX} {t : List Value} (h : vcS Γ D K W ops.toArray (fun t H n => IW P W R cs Q t H n) ops t H n) : IW P W R (.region id ops.toArray false :: cs) Q t H n :=
  IWp.region hE h
theorem IW.drw (hE : Env P Γ D K) (hm : P.follows .mixedOrders = true) {id : Nat} {ops : List Oper} {cs : List Code} {Q : PostX} {t : List Value} (pres : List (List Nat)) (hR : regOk t.length ops pres = true)
    (h : vcD Γ D K W ops.toArray H n (fun t H n => IW P W R cs Q t H n) ops pres [] t n) : IW P W R (.region id ops.toArray true :: cs) Q t H n :=
  IWp.drawn hE hm pres hR h
theorem IW.cond {c : Operand} {x y : Code} {cs : List Code} {Q : PostX} {b : Bool} (hc : opd N L c = some (.bool b)) (h1 : b = true → IW P W R (x :: cs) Q (dense N L) H n) (h2 : b = false → IW P W R (y :: cs) Q (dense N L) H n) :
    IW P W R (.cond c x y :: cs) Q (dense N L) H n := by
  refine IWp.cond ?_
  rw [pl hc]
  exact ⟨h1, h2⟩
theorem IW.ret {cs : List Code} {Q : PostX} {t : List Value} (h : Q .ret t H n) : IW P W R (.ret :: cs) Q t H n := IWp.ret h
theorem IW.exit {cs : List Code} {Q : PostX} {t : List Value} {id : Nat} (h : Q (.exit id) t H n) : IW P W R (.exit id :: cs) Q t H n := IWp.exit h
theorem IW.skip {cs : List Code} {Q : PostX} {t : List Value} (h : IW P W R cs Q t H n) : IW P W R (.skip :: cs) Q t H n := IWp.skip h
theorem IW.nil {Q : PostX} {t : List Value} (h : Q .normal t H n) : IW P W R [] Q t H n := h
/-- where an exit from this block, and its end, go on -/
def blkQ (id : Nat) (next : Post3) (Q : PostX) : PostX
  | .normal, t, H, n => next t H n
  | .exit id', t, H, n => if id' = id then next t H n else Q (.exit id') t H n
  | ex, t, H, n => Q ex t H n
theorem IW.block {id : Nat} {c : Code} {cs : List Code} {Q : PostX} {t : List Value} (h : IW P W R [c] (blkQ id (fun t H n => IW P W R cs Q t H n) Q) t H n) : IW P W R (.block id c :: cs) Q t H n := by
  refine IWp.block (IWp.mono h fun ex t H n hx => ?_)
  cases ex <;> exact hx
theorem blkQ_exit {id : Nat} {next : Post3} {Q : PostX} {t : List Value} (h : next t H n) : blkQ id next Q (.exit id) t H n := by simp only [blkQ, if_true]; exact h
theorem IW.keep {cs : List Code} {Q : PostX} (ks : List Nat) (hne : cs ≠ []) (h : IW P W R cs Q (dense N (keepL ks L)) H n) : IW P W R cs Q (dense N L) H n := by
  cases cs with
  | nil => exact (hne rfl).elim
  | cons c cs => exact IWp.keep ks h
/-- less is known from here on -/
theorem IW.forget {cs : List Code} {Q : PostX} {L' : List (Nat × Value)} {M' : Ups} {n' : Nat} (hne : cs ≠ []) (ht : subL L' L) (hH : (hp H M').le (hp H M)) (hn : n ≤ n') (h : IW P W R cs Q (dense N L') (hp H M') n') : IW P W R cs Q (dense N L) (hp H M) n := by
  cases cs with
  | nil => exact (hne rfl).elim
  | cons c cs => exact IWp.forget h (fgt_dense ht) hH hn
/-- a row lies below the free numbers -/
theorem IW.lt {cs : List Code} {Q : PostX} {t : List Value} {id : Nat} {o : IObj} (hne : cs ≠ []) (hH : H id = some o) (h : id < n → IW P W R cs Q t H n) : IW P W R cs Q t H n := by
  cases cs with
  | nil => exact (hne rfl).elim
  | cons c cs => exact IWp.lt hH h
/-- a loop: S are the states at the head; the round lowers μ -/
theorem IW.loop {c : Code} {cs : List Code} {Q : PostX} {S : Type} (sL : S → List (Nat × Value)) (sM : S → Ups) (sn : S → Nat) (ok : S → Prop) (μ : S → Nat) (s0 : S) (h0 : ok s0) (ht : subL (sL s0) L) (hH : (hp H (sM s0)).le (hp H M)) (hn : n ≤ sn s0)
    (round : ∀ s, ok s → IW P W R [c] (PostX.seq (fun t' H' n' => ∃ s' L' M', ok s' ∧ μ s' < μ s ∧ t' = dense N L' ∧ subL (sL s') L' ∧ H' = hp H M' ∧ (hp H (sM s')).le (hp H M') ∧ n' ≤ sn s') (PostX.seq (fun t H n => IW P W R cs Q t H n) Q)) (dense N (sL s)) (hp H (sM s)) (sn s)) :
    IW P W R (.loop c :: cs) Q (dense N L) (hp H M) n := by
  refine IWp.loop (fun s => (dense N (sL s), hp H (sM s), sn s)) ok μ s0 h0 (fgt_dense ht) hH hn fun s hs => ?_
  refine IWp.mono (IW.one (round s hs)) fun ex t H' n' hx => ?_
  cases ex with
  | normal =>
    obtain ⟨s', L', M', h1, h2, rfl, h3, rfl, h4, h5⟩ := hx
    exact ⟨s', h1, h2, fgt_dense h3, h4, h5⟩
  | _ => exact hx
theorem IW.nilB {id : Nat} {cs : List Code} {Q : PostX} {t : List Value} (h : IW P W R cs Q t H n) : IW P W R [] (blkQ id (fun t H n => IW P W R cs Q t H n) Q) t H n := h
theorem IW.nilS {next : Post3} {Q : PostX} {t : List Value} (h : next t H n) : IW P W R [] (PostX.seq next Q) t H n := h
theorem exS {next : Post3} {Q : PostX} {t : List Value} {id : Nat} (h : Q (.exit id) t H n) : PostX.seq next Q (.exit id) t H n := h
theorem retS {next : Post3} {Q : PostX} {t : List Value} (h : Q .ret t H n) : PostX.seq next Q .ret t H n := h
theorem retB {id : Nat} {next : Post3} {Q : PostX} {t : List Value} (h : Q .ret t H n) : blkQ id next Q .ret t H n := h
theorem Ref.of_iw (hD : DOk P D) {k : FuncId} {fn : Func} {c : Code} {F : FnI} (hf : P.funcs[k]? = some fn) (hb : fn.body = some c) (hname : (fn.name == "runtime.NumGoroutine") = false)
    (h : ∀ args H n e, F args H n = some e → args.length ≤ fn.ntmps ∧ IW P (fun id => n ≤ id ∨ id ∈ e.ids) none [c] (RetP D fn.results.toList n H e) (dense fn.ntmps (idxL 0 args)) (hp H []) n) : Ref P k F := by
  refine Ref.of_body hD hf hb hname fun args H n e hF => ?_
  obtain ⟨h1, h2⟩ := h args H n e hF
  rw [dense_init _ _ h1]
  exact IW.one h2
theorem ren1_id (v : Value) : ren1 (fun x => x) v = v := by unfold ren1; split <;> rfl
theorem ren2_id (v : Value) : ren2 (fun x => x) v = v := by
  unfold ren2
  split
  · rename_i cs
    have : ren1 (fun x => x) = id := funext ren1_id
    rw [this]; simp
  · have : ren1 (fun x => x) = id := funext ren1_id
    rw [this]; simp
  · exact ren1_id _
theorem ren_id (v : Value) : ren (fun x => x) v = v := by
  unfold ren
  split
  · rename_i cs
    have : ren2 (fun x => x) = id := funext ren2_id
    rw [this]; simp
  · exact ren2_id _
theorem okN1_mono {p q : Nat → Prop} (h : ∀ id, p id → q id) {v : Value} (hv : okN1 p v) : okN1 q v := by
  unfold okN1 at *
  split <;> simp_all
theorem okN2_mono {p q : Nat → Prop} (h : ∀ id, p id → q id) {v : Value} (hv : okN2 p v) : okN2 q v := by
  unfold okN2 at *
  split
  · exact fun x hx => okN1_mono h (hv x hx)
  · exact ⟨fun x hx => okN1_mono h (hv.1 x hx), fun x hx => okN1_mono h (hv.2 x hx)⟩
  · rename_i hn1 hn2
    split at hv
    · rename_i cs; exact (hn1 cs rfl).elim
    · rename_i fn a b; exact (hn2 fn a b rfl).elim
    · exact okN1_mono h hv
theorem okN_mono {p q : Nat → Prop} (h : ∀ id, p id → q id) {v : Value} (hv : okN p v) : okN q v := by
  unfold okN at *
  split
  · exact fun x hx => okN2_mono h (hv x hx)
  · rename_i hn
    split at hv
    · rename_i cs; exact (hn cs rfl).elim
    · exact okN2_mono h hv
/-- what comes out: values alone, nothing written -/
theorem RetP.pure {rs : List ResultVar} {n n' n'' : Nat} {v : Value} {ex : Exit} {t : List Value} {H H' : IHeap} (hx : ex = .normal ∨ ex = .ret) (hr : ires D t H' rs = some v) (hv : okN (fun id => id < n) v) (hn : n ≤ n') : RetP D rs n H ⟨v, [], n'⟩ ex t H' n'' := by
  refine ⟨hx, ?_⟩
  rw [hr]
  have hid : ren (fun x => x) v = v := ren_id v
  exact ⟨fun x => x, fun _ _ => rfl, hid, okN_mono (fun id h => .inl h) hv, fun id hid => by simp [Eff.ids] at hid, fun id hid => by simp [Eff.ids] at hid, fun i hi => by simp [Eff.ids] at hi, fun i hi => by simp [Eff.ids] at hi, hn⟩
end
end Go.Proofs.Ytdnnojblneccdaa
/-
  Go values as Lean values.
-/
namespace Go.Proofs.Ytdnnojblneccdaa
set_option linter.unusedSimpArgs false
set_option linter.unusedVariables false
open Go
/-- a Lean type whose members stand for values -/
class Enc (α : Type) where
  enc : α → Value
  inj : ∀ a b, enc a = enc b → a = b
open Enc (enc)
open Classical in
noncomputable def dec {α : Type} [Enc α] (x : Value) : Option α := if h : ∃ a : α, x = enc a then some h.choose else none
theorem dec_enc {α : Type} [Enc α] (a : α) : dec (enc a) = some a := by
  unfold dec
  have h : ∃ b : α, enc a = enc b := ⟨a, rfl⟩
  rw [dif_pos h]
  exact congrArg some (Enc.inj _ _ h.choose_spec.symm)
theorem dec_some {α : Type} [Enc α] {x : Value} {a : α} (h : dec x = some a) : x = enc a := by
  unfold dec at h
  split at h
  · rename_i h'; cases h; exact h'.choose_spec
  · cases h
instance : Enc Bool := ⟨.bool, fun a b h => by cases h; rfl⟩
instance : Enc Int := ⟨.int .i64, fun a b h => by cases h; rfl⟩
instance : Enc UInt64 := ⟨fun x => .int .u64 (x.toNat : Int), fun a b h => by
  simp only [Value.int.injEq, true_and] at h
  exact UInt64.toNat_inj.1 (by omega)⟩
instance : Enc UInt32 := ⟨fun x => .int .u32 (x.toNat : Int), fun a b h => by
  simp only [Value.int.injEq, true_and] at h
  exact UInt32.toNat_inj.1 (by omega)⟩
instance : Enc UInt8 := ⟨fun x => .int .u8 (x.toNat : Int), fun a b h => by
  simp only [Value.int.injEq, true_and] at h
  exact UInt8.toNat_inj.1 (by omega)⟩
/-- cells of one kind -/
def encs {α : Type} [Enc α] (l : List α) : List Value := l.map enc
theorem encs_length {α : Type} [Enc α] (l : List α) : (encs l).length = l.length := by simp [encs]
theorem encs_inj {α : Type} [Enc α] : ∀ {a b : List α}, encs a = encs b → a = b
  | [], [], _ => rfl
  | x :: a, y :: b, h => by
    simp only [encs, List.map_cons, List.cons.injEq] at h
    rw [Enc.inj _ _ h.1, encs_inj h.2]
  | [], _ :: _, h => by simp [encs] at h
  | _ :: _, [], h => by simp [encs] at h
theorem encs_get {α : Type} [Enc α] (l : List α) (i : Nat) : (encs l)[i]? = (l[i]?).map enc := by simp [encs]
theorem encs_append {α : Type} [Enc α] (a b : List α) : encs (a ++ b) = encs a ++ encs b := by simp [encs]
theorem encs_set {α : Type} [Enc α] (a : List α) (k : Nat) (x : α) : encs (a.set k x) = (encs a).set k (enc x) := by simp [encs]
open Classical in
noncomputable def decs {α : Type} [Enc α] (x : List Value) : Option (List α) := if h : ∃ a : List α, x = encs a then some h.choose else none
theorem decs_encs {α : Type} [Enc α] (a : List α) : decs (encs a) = some a := by
  unfold decs
  have h : ∃ b : List α, encs a = encs b := ⟨a, rfl⟩
  rw [dif_pos h]
  exact congrArg some (encs_inj h.choose_spec.symm)
theorem decs_some {α : Type} [Enc α] {x : List Value} {a : List α} (h : decs x = some a) : x = encs a := by
  unfold decs at h
  split at h
  · rename_i h'; cases h; exact h'.choose_spec
  · cases h
/-- a type of one cell, of a known kind -/
class Enc1 (α : Type) extends Enc α where
  agg1 : ∀ a : α, known (enc a) = true
instance : Enc1 Bool := ⟨fun _ => rfl⟩
instance : Enc1 Int := ⟨fun _ => rfl⟩
instance : Enc1 UInt64 := ⟨fun _ => rfl⟩
instance : Enc1 UInt32 := ⟨fun _ => rfl⟩
instance : Enc1 UInt8 := ⟨fun _ => rfl⟩
theorem encs_known {α : Type} [Enc1 α] (l : List α) : (encs l).all known = true := by
  simp only [encs, List.all_map, List.all_eq_true]
  intro x _
  exact Enc1.agg1 x
/-- arrays -/
instance {α : Type} [Enc α] {k : Nat} : Enc (Vector α k) := ⟨fun v => .agg (encs v.toList).toArray, fun a b h => by
  simp only [Value.agg.injEq] at h
  have : encs a.toList = encs b.toList := by simpa using congrArg Array.toList h
  exact Vector.toList_inj.1 (encs_inj this)⟩
theorem enc_vec {α : Type} [Enc α] {k : Nat} (v : Vector α k) : enc v = .agg (encs v.toList).toArray := rfl
theorem cellEq_u8 (a b : UInt8) : cellEq (.int .u8) (enc a) (enc b) = some (a == b) := by
  show (if IntKind.u8 = IntKind.u8 then some ((a.toNat : Int) == (b.toNat : Int)) else none) = _
  rw [if_pos rfl]
  refine congrArg some ?_
  rw [Bool.eq_iff_iff, beq_iff_eq, beq_iff_eq]
  exact ⟨fun e => UInt8.toNat_inj.1 (by omega), fun e => by rw [e]⟩
theorem cellsEq_encs {α : Type} [Enc α] [BEq α] {k : TK} (hk : ∀ a b : α, cellEq k (enc a) (enc b) = some (a == b)) : ∀ (a b : List α) (m : Nat), a.length = m → b.length = m → cellsEq (List.replicate m k) (encs a) (encs b) = some (a == b)
  | [], [], 0, _, _ => rfl
  | x :: a, y :: b, m + 1, h1, h2 => by
    simp only [List.replicate_succ, encs, List.map_cons, cellsEq, hk, Option.bind_some]
    have := cellsEq_encs hk a b m (by simpa using h1) (by simpa using h2)
    simp only [encs] at this
    rw [this]
    rfl
  | [], _ :: _, 0, _, h => by simp at h
  | _ :: _, _, 0, h, _ => by simp at h
  | [], _, _ + 1, h, _ => by simp at h
  | _ :: _, [], _ + 1, _, h => by simp at h
/-- arrays of one kind of cells, held against each other -/
theorem eq_vec {α : Type} [Enc α] [BEq α] {D : Ty} {K : Kinds} {k : TK} {t : TypeId} {m : Nat} (hK : K t = some (List.replicate m k)) (hk : ∀ a b : α, cellEq k (enc a) (enc b) = some (a == b)) (x y : Vector α m) :
    binOp' D K .eql t (enc x) (enc y) = some (.bool (x == y)) := by
  have := cellsEq_encs hk x.toList y.toList m (by simp) (by simp)
  simp only [enc_vec, binOp', eqOp, hK, Option.bind_some, this, Option.map_some]
  rw [Vector.toList_beq_toList]
theorem ne_vec {α : Type} [Enc α] [BEq α] {D : Ty} {K : Kinds} {k : TK} {t : TypeId} {m : Nat} (hK : K t = some (List.replicate m k)) (hk : ∀ a b : α, cellEq k (enc a) (enc b) = some (a == b)) (x y : Vector α m) :
    binOp' D K .neq t (enc x) (enc y) = some (.bool !(x == y)) := by
  have := cellsEq_encs hk x.toList y.toList m (by simp) (by simp)
  simp only [enc_vec, binOp', eqOp, hK, Option.bind_some, this, Option.map_some]
  rw [Vector.toList_beq_toList]
end Go.Proofs.Ytdnnojblneccdaa
