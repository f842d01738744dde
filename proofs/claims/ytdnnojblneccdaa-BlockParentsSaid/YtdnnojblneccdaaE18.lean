/-
  Code on ideal memory: rules; and functions.
-/
import Derived.Test.YtdnnojblneccdaaE17
import Derived.Deep.LoopGhost
namespace Go.Proofs.Ytdnnojblneccdaa
set_option linter.unusedSimpArgs false
set_option linter.unusedVariables false
open Go

/-- how a piece of code is left, in ideal memory -/
abbrev PostX := Exit → List Value → IHeap → Nat → Prop

section
variable (P : Program) (W : Nat → Prop) (R : Option Nat)

def IWp (c : Code) (Q : PostX) (t : List Value) (H : IHeap) (n : Nat) : Prop :=
  ∀ (ρ0 : Ren) (w0 : World) (m0 : Nat) (ρ : Ren) (a : Act) (w : World), St W ρ0 w0 m0 t H n ρ a w →
    c.wpIn (FW R) 0 P (fun ex a' w' => ∃ ρ' t' H' n', St W ρ0 w0 m0 t' H' n' ρ' a' w' ∧ Q ex t' H' n') a w
end

/-- a loop whose state is held by a relation -/
theorem wpR_loop {F : Fence} {n : Nat} {P : Program} {c : Code} {Q : Exit → Act → World → Prop} {a : Act} {w : World} (I : Nat → Act → World → Prop) (k : Nat) (h₀ : I k a w)
    (round : ∀ k a w, I k a w → c.wpIn F n P (Exit.then (fun a' w' => ∃ j, j < k ∧ I j a' w') Q) a w) : (Code.loop c).wpIn F n P Q a w := by
  refine wpIn_loop (fun a w => ∃ n, I n a w) (fun a w => leastOf (fun n => I n a w)) ⟨k, h₀⟩ ?_
  intro a w hI
  refine wpIn_mono (round _ a w (leastOf_spec hI).1) ?_
  intro e a' w' hq
  cases e with
  | normal =>
    obtain ⟨j, hj, hI'⟩ := hq
    exact ⟨⟨j, hI'⟩, Nat.lt_of_le_of_lt ((leastOf_spec ⟨j, hI'⟩).2 j hI') hj⟩
  | _ => exact hq

section
variable {P : Program} {W : Nat → Prop} {R : Option Nat} {Q : PostX} {t : List Value} {H : IHeap} {n : Nat}

theorem IWp.mono {c : Code} {Q' : PostX} (h : IWp P W R c Q' t H n) (hq : ∀ ex t H n, Q' ex t H n → Q ex t H n) : IWp P W R c Q t H n := by
  intro ρ0 w0 m0 ρ a w hs
  refine wpIn_mono (h ρ0 w0 m0 ρ a w hs) ?_
  rintro ex a w ⟨ρ', t', H', n', h1, h2⟩
  exact ⟨ρ', t', H', n', h1, hq _ _ _ _ h2⟩

def PostX.seq (next : Post3) (Q : PostX) : PostX
  | .normal, t, H, n => next t H n
  | ex, t, H, n => Q ex t H n
def PostX.block (id : Nat) (Q : PostX) : PostX
  | .exit id', t, H, n => if id' = id then Q .normal t H n else Q (.exit id') t H n
  | ex, t, H, n => Q ex t H n

theorem IWp.skip (h : Q .normal t H n) : IWp P W R .skip Q t H n := fun _ _ _ _ _ _ hs => wpIn_skip ⟨_, t, H, n, hs, h⟩
theorem IWp.label {l : Nat} (h : Q .normal t H n) : IWp P W R (.label l) Q t H n := fun _ _ _ _ _ _ hs => wpIn_label ⟨_, t, H, n, hs, h⟩
theorem IWp.ret (h : Q .ret t H n) : IWp P W R .ret Q t H n := fun _ _ _ _ _ _ hs => wpIn_ret ⟨_, t, H, n, hs, h⟩
theorem IWp.exit {id : Nat} (h : Q (.exit id) t H n) : IWp P W R (.exit id) Q t H n := fun _ _ _ _ _ _ hs => wpIn_exit ⟨_, t, H, n, hs, h⟩
theorem IWp.seq {x y : Code} (h : IWp P W R x (PostX.seq (fun t H n => IWp P W R y Q t H n) Q) t H n) : IWp P W R (.seq x y) Q t H n := by
  intro ρ0 w0 m0 ρ a w hs
  refine wpIn_seq (wpIn_mono (h ρ0 w0 m0 ρ a w hs) ?_)
  rintro ex a w ⟨ρ', t', H', n', h1, h2⟩
  cases ex with
  | normal => exact h2 ρ0 w0 m0 ρ' a w h1
  | exit id => exact ⟨ρ', t', H', n', h1, h2⟩
  | goto l => exact ⟨ρ', t', H', n', h1, h2⟩
  | ret => exact ⟨ρ', t', H', n', h1, h2⟩
  | panic ch => exact ⟨ρ', t', H', n', h1, h2⟩
  | outgrown => exact ⟨ρ', t', H', n', h1, h2⟩
theorem IWp.block {id : Nat} {c : Code} (h : IWp P W R c (PostX.block id Q) t H n) : IWp P W R (.block id c) Q t H n := by
  intro ρ0 w0 m0 ρ a w hs
  refine wpIn_block (wpIn_mono (h ρ0 w0 m0 ρ a w hs) ?_)
  rintro ex a w ⟨ρ', t', H', n', h1, h2⟩
  cases ex with
  | exit id' =>
    simp only [PostX.block] at h2
    simp only [Exit.inBlock]
    split
    · rename_i e; rw [if_pos e] at h2; exact ⟨ρ', t', H', n', h1, h2⟩
    · rename_i e; rw [if_neg e] at h2; exact ⟨ρ', t', H', n', h1, h2⟩
  | normal => exact ⟨ρ', t', H', n', h1, h2⟩
  | goto l => exact ⟨ρ', t', H', n', h1, h2⟩
  | ret => exact ⟨ρ', t', H', n', h1, h2⟩
  | panic ch => exact ⟨ρ', t', H', n', h1, h2⟩
  | outgrown => exact ⟨ρ', t', H', n', h1, h2⟩
theorem IWp.cond {c : Operand} {x y : Code} (h : wpo (match ev t c with | .bool b => some b | _ => none) fun b => (b = true → IWp P W R x Q t H n) ∧ (b = false → IWp P W R y Q t H n)) : IWp P W R (.cond c x y) Q t H n := by
  intro ρ0 w0 m0 ρ a w hs
  have hc := hs.tr.ev c
  split at h
  · rename_i b hb
    rw [hb] at hc
    have := bool_inv hc
    cases b with
    | true => exact wpIn_cond_true this (h.1 rfl ρ0 w0 m0 ρ a w hs)
    | false => exact wpIn_cond_false this (h.2 rfl ρ0 w0 m0 ρ a w hs)
  · exact h.elim

/-- less is known -/
def fgt : List Value → List Value → Prop
  | [], [] => True
  | x :: xs, y :: ys => (x = .tuple #[] ∨ x = y) ∧ fgt xs ys
  | _, _ => False
theorem fgt_spec : ∀ {s t : List Value}, fgt s t → s.length = t.length ∧ ∀ (i : Nat) x y, s[i]? = some x → t[i]? = some y → x = .tuple #[] ∨ x = y
  | [], [], _ => ⟨rfl, fun i x y h => by simp at h⟩
  | x :: xs, y :: ys, h => by
    obtain ⟨h1, h2⟩ := fgt_spec h.2
    refine ⟨by simp [h1], fun i a b ha hb => ?_⟩
    cases i with
    | zero => simp only [List.getElem?_cons_zero, Option.some.injEq] at ha hb; subst ha; subst hb; exact h.1
    | succ i => exact h2 i a b (by simpa using ha) (by simpa using hb)
theorem St.forget {ρ0 ρ : Ren} {w0 w : World} {m0 : Nat} {a : Act} {t' : List Value} {H' : IHeap} {n' : Nat} (h : St W ρ0 w0 m0 t H n ρ a w) (ht : fgt t' t) (hH : H'.le H) (hn : n ≤ n') : St W ρ0 w0 m0 t' H' n' ρ a w := by
  obtain ⟨h1, h2⟩ := fgt_spec ht
  refine ⟨⟨h.tr.size.trans h1.symm, fun i x hx => ?_, h.tr.defers⟩, h.below.mono hn, h.heap.sub hH, h.step, Nat.le_trans h.le hn, h.fresh⟩
  have hi : i < t.length := by rw [← h1]; exact (List.getElem?_eq_some_iff.1 hx).1
  obtain ⟨y, e1, e2⟩ := h.tr.val i t[i] (by simp [hi])
  refine ⟨y, e1, ?_⟩
  rcases h2 i x t[i] hx (by simp [hi]) with rfl | rfl
  · exact .unk _
  · exact e2
theorem IWp.forget {c : Code} {t' : List Value} {H' : IHeap} {n' : Nat} (h : IWp P W R c Q t' H' n') (ht : fgt t' t) (hH : H'.le H) (hn : n ≤ n') : IWp P W R c Q t H n :=
  fun ρ0 w0 m0 ρ a w hs => h ρ0 w0 m0 ρ a w (hs.forget ht hH hn)

/-- a loop: at each round's head the state is that of some s, which the round lowers -/
theorem IWp.loop {c : Code} {S : Type} (st : S → List Value × IHeap × Nat) (ok : S → Prop) (μ : S → Nat) (s0 : S) (h0 : ok s0) (ht : fgt (st s0).1 t) (hH : (st s0).2.1.le H) (hn : n ≤ (st s0).2.2)
    (round : ∀ s, ok s → IWp P W R c (PostX.seq (fun t' H' n' => ∃ s', ok s' ∧ μ s' < μ s ∧ fgt (st s').1 t' ∧ (st s').2.1.le H' ∧ n' ≤ (st s').2.2) Q) (st s).1 (st s).2.1 (st s).2.2) : IWp P W R (.loop c) Q t H n := by
  intro ρ0 w0 m0 ρ a w hs
  refine wpR_loop (fun k a w => ∃ s ρ, μ s = k ∧ ok s ∧ St W ρ0 w0 m0 (st s).1 (st s).2.1 (st s).2.2 ρ a w) (μ s0) ⟨s0, ρ, rfl, h0, hs.forget ht hH hn⟩ ?_
  rintro k a w ⟨s, ρ, rfl, hok, hst⟩
  refine wpIn_mono (round s hok ρ0 w0 m0 ρ a w hst) ?_
  rintro ex a' w' ⟨ρ', t', H', n', h1, h2⟩
  cases ex with
  | normal =>
    obtain ⟨s', h3, h4, h5, h6, h7⟩ := h2
    exact ⟨μ s', h4, s', ρ', rfl, h3, h1.forget h5 h6 h7⟩
  | exit id => exact ⟨ρ', t', H', n', h1, h2⟩
  | goto l => exact ⟨ρ', t', H', n', h1, h2⟩
  | ret => exact ⟨ρ', t', H', n', h1, h2⟩
  | panic ch => exact ⟨ρ', t', H', n', h1, h2⟩
  | outgrown => exact ⟨ρ', t', H', n', h1, h2⟩

variable {Γ : Fns} {D : Ty} {K : Kinds}

theorem IWp.region (hE : Env P Γ D K) {id : Nat} {ops : List Oper} (h : vcS Γ D K W ops.toArray (fun t H n => Q .normal t H n) ops t H n) : IWp P W R (.region id ops.toArray false) Q t H n := by
  intro ρ0 w0 m0 ρ a w hs
  refine wpIn_region ?_
  have hmap : (List.range ops.toArray.size).map (fun i => ops.toArray[i]?) = ops.map some := by
    apply List.ext_getElem?
    intro i
    simp only [List.getElem?_map, List.getElem?_toArray, List.size_toArray]
    by_cases hi : i < ops.length
    · simp [hi]
    · simp [List.getElem?_eq_none (Nat.le_of_not_lt hi), List.getElem?_eq_none (show (List.range ops.length).length ≤ i by simp; omega)]
  exact vcS_ok hE _ ops t H n ρ a w hmap h hs fun ρ' t' H' n' a' w' h1 h2 => ⟨ρ', t', H', n', h1, h2⟩

theorem IWp.drawn (hE : Env P Γ D K) (hm : P.follows .mixedOrders = true) {id : Nat} {ops : List Oper} (pres : List (List Nat)) (hR : regOk t.length ops pres = true)
    (h : vcD Γ D K W ops.toArray H n (fun t H n => Q .normal t H n) ops pres [] t n) : IWp P W R (.region id ops.toArray true) Q t H n := by
  intro ρ0 w0 m0 ρ a w hs
  exact wp_drawn hE hm hR hs h fun ρ' t' H' n' a' w' h1 h2 => ⟨ρ', t', H', n', h1, h2⟩
end

/-- the results, as the model finds them -/
def ires1 (D : Ty) (t : List Value) (H : IHeap) : ResultVar → Option Value
  | .tmp u => some (t.getD u (.tuple #[]))
  | .cell u ty => match t.getD u (.tuple #[]) with
    | .pointer (some ⟨id, off, none⟩) => (D ty).bind fun d => match H id with | some (.cells c _) => rdVar d c off | _ => none
    | _ => none
def ires (D : Ty) (t : List Value) (H : IHeap) (rs : List ResultVar) : Option Value :=
  match rs with
  | [r] => ires1 D t H r
  | rs => (rs.mapM (ires1 D t H)).map fun vs => .tuple vs.toArray
end Go.Proofs.Ytdnnojblneccdaa
