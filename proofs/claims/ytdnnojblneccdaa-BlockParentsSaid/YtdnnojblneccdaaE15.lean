/-
  What an operation sees of the memory; the conditions of a region whose order is open, by going through it in the order of the text.
-/
import Derived.Test.YtdnnojblneccdaaE14
namespace Go.Proofs.Ytdnnojblneccdaa
set_option linter.unusedSimpArgs false
set_option linter.unusedVariables false
open Go

def blk : Value → List Nat
  | .pointer (some a) => [a.block]
  | .slice (some a) _ _ => [a.block]
  | .map (some r) => [r]
  | _ => []

def mblk : Value → List Nat
  | .map (some r) => [r]
  | _ => []
def lens : Callee → Bool
  | .builtin .len | .builtin .cap => true
  | _ => false
/-- the rows that an operation reads or writes, calls of functions left out -/
def seesIds (e : Operand → Value) : Op → List Nat
  | .load _ a => blk (e a)
  | .store _ a _ => blk (e a)
  | .convert _ _ x => blk (e x)
  | .call c => c.args.toList.flatMap fun x => cond (lens c.callee) (mblk (e x)) (blk (e x))
  | _ => []

def restr (l : List Nat) (H : IHeap) : IHeap := fun id => if id ∈ l then H id else none
theorem restr_le (l : List Nat) (H : IHeap) : (restr l H).le H := fun id o h => by
  unfold restr at h; split at h
  · exact h
  · cases h

theorem srcCells_restr {l : List Nat} {H : IHeap} {sz : Nat} {x : Value} (h : ∀ id ∈ blk x, id ∈ l) : srcCells (restr l H) sz x = srcCells H sz x := by
  unfold srcCells
  split
  · rfl
  · simp only [restr]; rw [if_pos (h _ (by simp [blk]))]
  · rfl
  · rfl

theorem iop_restr {D : Ty} {K : Kinds} {e : Operand → Value} {H : IHeap} {n : Nat} (op : Op) : iop D K e (restr (seesIds e op) H) n op = iop D K e H n op := by
  cases op with
  | load t a =>
    simp only [iop, doLoad, seesIds]
    split
    · rename_i id off he
      simp only [he, blk, restr, List.mem_singleton, if_true]
    · rfl
  | store t a x =>
    simp only [iop, doStore, seesIds]
    split
    · rename_i id off he
      simp only [he, blk, restr, List.mem_singleton, if_true]
    · rfl
  | convert s d x =>
    simp only [iop, doConvert, seesIds]
    split
    · split
      · rfl
      · rfl
      · rfl
      · rename_i a len cap hk hx
        have h1 : srcCells (restr (blk (.slice a len cap)) H) 1 (.slice a len cap) = srcCells H 1 (.slice a len cap) := srcCells_restr (fun id h => h)
        simp only [hx, h1]
      · rfl
    · rfl
  | call c =>
    obtain ⟨callee, args, argTypes⟩ := c
    cases callee with
    | value f => rfl
    | invoke r m => rfl
    | builtin b =>
      simp only [iop]
      have hmem : ∀ {xs : List Value}, args.toList.map e = xs → ∀ x ∈ xs, ∀ id ∈ cond (lens (.builtin b)) (mblk x) (blk x), id ∈ seesIds e (.call ⟨.builtin b, args, argTypes⟩) := by
        rintro xs rfl x hx id hid
        obtain ⟨o, ho, rfl⟩ := List.mem_map.1 hx
        exact List.mem_flatMap.2 ⟨o, ho, hid⟩
      generalize hl : seesIds e (.call ⟨.builtin b, args, argTypes⟩) = l at hmem ⊢
      generalize hxs : args.toList.map e = xs at hmem ⊢
      have hm := hmem rfl
      unfold doBuiltin
      split
      · rename_i x
        cases argTypes[0]?.bind D with
        | none => rfl
        | some d =>
          simp only [Option.bind_some]
          cases d.k <;> cases x <;> try rfl
          rename_i kk ee r
          cases r with
          | none => rfl
          | some id => simp only [restr]; rw [if_pos (hm (.map (some id)) (by simp) id (by simp [lens, mblk]))]
      · rfl
      · rfl
      · rfl
      · rename_i s x
        cases argTypes[0]? with
        | none => rfl
        | some t =>
          cases argTypes[1]? with
          | none => rfl
          | some t2 =>
            simp only [Option.bind_some, doAppend]
            have hs : ∀ sz, srcCells (restr l H) sz s = srcCells H sz s := fun sz => srcCells_restr (by simpa [lens] using hm s (by simp))
            have hx : ∀ sz, srcCells (restr l H) sz x = srcCells H sz x := fun sz => srcCells_restr (by simpa [lens] using hm x (by simp))
            have ha : ∀ de, srcArg D (restr l H) t2 de x = srcArg D H t2 de x := by
              intro de
              unfold srcArg
              cases D t2 with
              | none => rfl
              | some d2 =>
                simp only [Option.bind_some]
                split
                · rfl
                · rfl
                · rw [hx]
            split
            · rename_i base len cap d hd
              have hb : ∀ a : Addr, base = some a → restr l H a.block = H a.block := by
                rintro a rfl
                simp only [restr]; rw [if_pos (hm (.slice (some a) len cap) (by simp) a.block (by simp [lens, blk]))]
              cases hdk : d.k <;> try rfl
              rename_i el
              simp only
              congr 1; funext de
              rw [ha]
              congr 1; funext p
              split
              · cases base with
                | none => rfl
                | some a => simp only [hb a rfl]
              · split
                · cases base with
                  | none => rfl
                  | some a =>
                    obtain ⟨id, off, sp⟩ := a
                    cases sp with
                    | none => simp only [hs]
                    | some sz => have := hb _ rfl; simp only at this ⊢; rw [this]
                · rfl
            · rfl
      · rename_i s x
        cases argTypes[0]? with
        | none => rfl
        | some t =>
          simp only [Option.bind_some, doCopy]
          have hx : ∀ sz, srcCells (restr l H) sz x = srcCells H sz x := fun sz => srcCells_restr (by simpa [lens] using hm x (by simp))
          split
          · rename_i base len cap d hd
            cases hdk : d.k <;> try rfl
            rename_i el
            simp only
            cases D el with
            | none => rfl
            | some de =>
              cases srcLen x with
              | none => rfl
              | some k =>
                simp only [hx]
                cases base with
                | none => rfl
                | some a => simp only [restr]; rw [if_pos (hm (.slice (some a) len cap) (by simp) a.block (by simp [lens, blk]))]
          · rfl
      · rfl
  | _ => rfl

inductive Vis where
  | ids (l : List Nat)
  | all (news : List Nat)

/-- what one operation left behind, for those that come later -/
structure Left where
  up : Ups
  vis : Vis

/-- the number is not seen -/
def Vis.clear (n0 : Nat) : Vis → Nat → Prop
  | .ids l, id => id ∉ l
  | .all news, id => n0 ≤ id ∧ id ∉ news

def isCall : Op → Bool
  | .call c => match c.callee with | .value _ => true | _ => false
  | _ => false

def apart2 (n0 : Nat) (pre : List Nat) (x : Left) : List Left → Nat → Prop
  | [], _ => True
  | y :: ys, j => (j ∈ pre ∨ ((∀ p ∈ x.up, y.vis.clear n0 p.1) ∧ ∀ p ∈ y.up, x.vis.clear n0 p.1)) ∧ apart2 n0 pre x ys (j + 1)

/-- the updates of those that come before, in the order of the text -/
def upsOf (pre : List Nat) : List Left → Nat → Ups
  | [], _ => []
  | y :: ys, j => if j ∈ pre then y.up ++ upsOf pre ys (j + 1) else upsOf pre ys (j + 1)

def allUps (l : List Left) : Ups := l.flatMap (·.up)

/-- what the operation sees -/
def seenH (e : Operand → Value) (op : Op) (H : IHeap) : IHeap := if isCall op then H else restr (seesIds e op) H
def visOf (e : Operand → Value) (op : Op) (news : List Nat) : Vis := if isCall op then .all news else .ids (seesIds e op)

def vcD (Γ : Fns) (D : Ty) (K : Kinds) (W : Nat → Prop) (ops : Array Oper) (H0 : IHeap) (n0 : Nat) (Q : Post3) : List Oper → List (List Nat) → List Left → List Value → Nat → Prop
  | [], _, acc, t, n => Q t (upds H0 (allUps acc)) n
  | _ :: _, [], _, _, _ => False
  | o :: os, pre :: pres, acc, t, n => wpo (wantedI ops t o) fun b =>
      (b = true → wpo (iopC Γ D K (ev t) (upds H0 (upsOf pre acc 0)) n o.op) fun ef =>
        (∀ p ∈ ef.up, W p.1 ∧ (n ≤ p.1 ∨ (seenH (ev t) o.op (upds H0 (upsOf pre acc 0)) p.1).isSome = true) ∧ p.1 < ef.n) ∧ n ≤ ef.n ∧
        apart2 n0 pre ⟨ef.up, visOf (ev t) o.op ((upsOf pre acc 0).map (·.1))⟩ acc 0 ∧
        vcD Γ D K W ops H0 n0 Q os pres (acc ++ [⟨ef.up, visOf (ev t) o.op ((upsOf pre acc 0).map (·.1))⟩]) (tput t o.dst ef.v) ef.n) ∧
      (b = false → vcD Γ D K W ops H0 n0 Q os pres (acc ++ [⟨[], .ids []⟩]) (tput t o.dst (.chan none)) n)

theorem iopC_seen {Γ : Fns} {D : Ty} {K : Kinds} {e : Operand → Value} {H : IHeap} {n : Nat} (op : Op) : iopC Γ D K e (seenH e op H) n op = iopC Γ D K e H n op := by
  unfold seenH
  split
  · rfl
  · rename_i h
    unfold iopC
    split
    · rename_i c
      split
      · rename_i f hf
        exact absurd (by simp [isCall, hf]) h
      · exact iop_restr _
    · exact iop_restr _
end Go.Proofs.Ytdnnojblneccdaa
