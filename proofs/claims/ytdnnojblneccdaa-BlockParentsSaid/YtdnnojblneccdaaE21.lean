/-
  Which types' values may be held against each other, from a table; states of few known variables.
-/
import Derived.Test.YtdnnojblneccdaaE20
namespace Go.Proofs.Ytdnnojblneccdaa
set_option linter.unusedSimpArgs false
set_option linter.unusedVariables false
open Go

def kindsCheck (P : Program) (D : Ty) (S : List Nat) (l : List (Nat × List TK)) : Bool :=
  l.all fun p => !P.eqGuardType P.depth p.1 && decide (kindsOf D S 30 p.1 = some p.2) && (match D p.1 with | some d => d.k.isAgg | none => false)

theorem lookup_mem {α : Type} {l : List (Nat × α)} {t : Nat} {d : α} (h : l.lookup t = some d) : (t, d) ∈ l := by
  induction l with
  | nil => simp at h
  | cons x l ih =>
    obtain ⟨a, b⟩ := x
    rw [List.lookup_cons] at h
    split at h
    · rename_i e
      simp at e; subst e; cases h; exact List.mem_cons_self
    · exact List.mem_cons_of_mem _ (ih h)

theorem kindsCheck_ok {P : Program} {D : Ty} {S : List Nat} {l : List (Nat × List TK)} (hD : DOk P D) (hS : S.all (structCheck P) = true) (h : kindsCheck P D S l = true) : KOk P (fun t => l.lookup t) := by
  intro t ks hk
  have hm := List.all_eq_true.1 h _ (lookup_mem hk)
  simp only [Bool.and_eq_true, Bool.not_eq_true', decide_eq_true_eq] at hm
  obtain ⟨⟨h1, h2⟩, h3⟩ := hm
  split at h3
  · rename_i d hd
    obtain ⟨i1, i2, i3⟩ := equal_ok hD (fun t ht => List.all_eq_true.1 hS t ht) 30 t d ks hd h2
    refine ⟨h1, fun dd w xs ys b hdd hc => ?_⟩
    have := i3 dd w xs.toList ys.toList b hdd hc
    simpa [partV, h3] using this
  · cases h3

theorem env_mk {P : Program} {tys : List (Nat × TD)} {S : List Nat} {kks : List (Nat × List TK)} {Γ : Fns} (h1 : tysCheck P tys = true) (h2 : fieldsCheck tys = true) (h3 : S.all (structCheck P) = true)
    (h4 : kindsCheck P (tyOf tys) S kks = true) (h5 : FnsOk P Γ) : Env P Γ (tyOf tys) (fun t => kks.lookup t) :=
  ⟨tysCheck_ok h1, kindsCheck_ok (tysCheck_ok h1) h3 h4, fieldsCheck_ok h2, h5⟩

theorem fnsOk_nil {P : Program} : FnsOk P [] := fun f F h => by simp at h
theorem fnsOk_cons {P : Program} {f : FuncId} {F : FnI} {Γ : Fns} (h : Ref P f F) (hs : FnsOk P Γ) : FnsOk P ((f, F) :: Γ) := by
  intro g G hG
  rw [List.lookup_cons] at hG
  split at hG
  · rename_i e
    simp at e; subst e; cases hG; exact h
  · exact hs g G hG

/-- N variables, of which few are known -/
def dense (N : Nat) (L : List (Nat × Value)) : List Value := (List.range N).map fun i => (L.lookup i).getD (.tuple #[])
@[simp] theorem dense_length (N : Nat) (L : List (Nat × Value)) : (dense N L).length = N := by simp [dense]
theorem dense_get (N : Nat) (L : List (Nat × Value)) (i : Nat) : (dense N L)[i]? = if i < N then some ((L.lookup i).getD (.tuple #[])) else none := by
  unfold dense
  rw [List.getElem?_map]
  by_cases h : i < N
  · rw [List.getElem?_range h, if_pos h]; rfl
  · rw [if_neg h, List.getElem?_eq_none (by simpa using h)]; rfl
theorem dense_getD (N : Nat) (L : List (Nat × Value)) (i : Nat) (d : Value) (h : i < N) : (dense N L).getD i d = (L.lookup i).getD (.tuple #[]) := by
  rw [List.getD_eq_getElem?_getD, dense_get, if_pos h]; rfl
theorem ev_tmp (N : Nat) (L : List (Nat × Value)) (i : Nat) : ev (dense N L) (.tmp i) = if i < N then (L.lookup i).getD (.tuple #[]) else .tuple #[] := by
  show (dense N L).getD i (.tuple #[]) = _
  rw [List.getD_eq_getElem?_getD, dense_get]
  split <;> rfl

def putL (d : Option Tmp) (v : Value) (L : List (Nat × Value)) : List (Nat × Value) :=
  match d with
  | some d => (d, v) :: L
  | none => L
theorem tput_dense (N : Nat) (L : List (Nat × Value)) (d : Option Tmp) (v : Value) : tput (dense N L) d v = dense N (putL d v L) := by
  cases d with
  | none => rfl
  | some d =>
    apply List.ext_getElem?
    intro i
    simp only [tput, putL, List.getElem?_set, dense_get, dense_length, List.lookup_cons]
    by_cases h : d = i
    · subst h
      simp
    · rw [if_neg h]
      have : (i == d) = false := by simpa using fun e : i = d => h e.symm
      simp [this]

/-- arguments, numbered -/
def idxL (k : Nat) : List Value → List (Nat × Value)
  | [] => []
  | a :: as => (k, a) :: idxL (k + 1) as
theorem lookup_idxL : ∀ (as : List Value) (k i : Nat), (idxL k as).lookup i = if k ≤ i then as[i - k]? else none
  | [], k, i => by simp [idxL]
  | a :: as, k, i => by
    simp only [idxL, List.lookup_cons, lookup_idxL as (k + 1) i]
    by_cases h : i = k
    · subst h; simp
    · have : (i == k) = false := by simpa using h
      simp only [this]
      by_cases h2 : k + 1 ≤ i
      · rw [if_pos h2, if_pos (by omega)]
        obtain ⟨j, rfl⟩ : ∃ j, i = k + 1 + j := ⟨i - (k + 1), by omega⟩
        have e1 : k + 1 + j - (k + 1) = j := by omega
        have e2 : k + 1 + j - k = j + 1 := by omega
        rw [e1, e2]; rfl
      · rw [if_neg h2, if_neg (by omega)]
theorem dense_init (as : List Value) (N : Nat) (h : as.length ≤ N) : as ++ List.replicate (N - as.length) (.tuple #[]) = dense N (idxL 0 as) := by
  apply List.ext_getElem?
  intro i
  rw [dense_get, lookup_idxL, if_pos (Nat.zero_le _), Nat.sub_zero]
  by_cases h1 : i < as.length
  · rw [List.getElem?_append_left h1, if_pos (by omega)]
    simp [h1]
  · rw [List.getElem?_append_right (by omega)]
    by_cases h2 : i < N
    · rw [if_pos h2, List.getElem?_eq_none (show as.length ≤ i by omega), List.getElem?_replicate, if_pos (by omega)]; rfl
    · rw [if_neg h2, List.getElem?_eq_none (by simp; omega)]

theorem fgt_mk : ∀ {s t : List Value}, s.length = t.length → (∀ (i : Nat) x y, s[i]? = some x → t[i]? = some y → x = .tuple #[] ∨ x = y) → fgt s t
  | [], [], _, _ => trivial
  | x :: xs, y :: ys, h1, h2 => ⟨h2 0 x y rfl rfl, fgt_mk (by simpa using h1) fun i a b ha hb => h2 (i + 1) a b (by simpa using ha) (by simpa using hb)⟩

/-- what is known here, is known there -/
def subL : List (Nat × Value) → List (Nat × Value) → Prop
  | [], _ => True
  | p :: ps, L => L.lookup p.1 = some p.2 ∧ subL ps L
theorem subL_spec : ∀ {M L : List (Nat × Value)}, subL M L → ∀ i v, M.lookup i = some v → L.lookup i = some v
  | [], _, _, i, v, h => by simp at h
  | (j, x) :: M, L, h, i, v, e => by
    rw [List.lookup_cons] at e
    split at e
    · rename_i hij
      simp at hij; subst hij; cases e; exact h.1
    · exact subL_spec h.2 i v e
theorem fgt_dense {N : Nat} {M L : List (Nat × Value)} (h : subL M L) : fgt (dense N M) (dense N L) := by
  refine fgt_mk (by simp) fun i x y hx hy => ?_
  rw [dense_get] at hx hy
  split at hx
  · rename_i hi
    rw [if_pos hi] at hy
    cases hx; cases hy
    cases hM : M.lookup i with
    | none => exact .inl rfl
    | some v => rw [subL_spec h i v hM]; exact .inr rfl
  · cases hx
/-- of what is known, that of these -/
def keepL (ks : List Nat) (L : List (Nat × Value)) : List (Nat × Value) := ks.map fun k => (k, (L.lookup k).getD (.tuple #[]))
theorem lookup_keepL {ks : List Nat} {L : List (Nat × Value)} {i : Nat} {v : Value} (h : (keepL ks L).lookup i = some v) : v = (L.lookup i).getD (.tuple #[]) := by
  induction ks with
  | nil => simp [keepL] at h
  | cons k ks ih =>
    simp only [keepL, List.map_cons, List.lookup_cons] at h
    split at h
    · rename_i e; simp at e; subst e; cases h; rfl
    · exact ih h
theorem fgt_keepL {N : Nat} {ks : List Nat} {L : List (Nat × Value)} : fgt (dense N (keepL ks L)) (dense N L) := by
  refine fgt_mk (by simp) fun i x y hx hy => ?_
  rw [dense_get] at hx hy
  split at hx
  · rename_i hi
    rw [if_pos hi] at hy
    cases hx; cases hy
    cases hM : (keepL ks L).lookup i with
    | none => exact .inl rfl
    | some v => exact .inr (lookup_keepL hM)
  · cases hx

/-- memory: few rows over others; the newest first -/
def hp (H : IHeap) : Ups → IHeap
  | [] => H
  | (id, o) :: M => upd (hp H M) id o
theorem hp_eq (H : IHeap) (id : Nat) (o : Option IObj) (M : Ups) : hp H ((id, o) :: M) id = o := by simp [hp, upd]
theorem hp_ne (H : IHeap) {id j : Nat} (o : Option IObj) (M : Ups) (h : id ≠ j) : hp H ((j, o) :: M) id = hp H M id := by simp [hp, upd, h]
theorem hp_nil (H : IHeap) : hp H [] = H := rfl
def putH : Ups → Ups → Ups
  | [], M => M
  | p :: l, M => putH l (p :: M)
theorem upds_hp (H : IHeap) : ∀ (l M : Ups), upds (hp H M) l = hp H (putH l M)
  | [], M => rfl
  | (id, o) :: l, M => by
    simp only [upds, putH]
    rw [← upds_hp H l ((id, o) :: M)]; rfl
theorem hp_le {H : IHeap} {M M' : Ups} (h : ∀ id o, hp H M' id = some o → hp H M id = some o) : (hp H M').le (hp H M) := fun id o e => h id o e

section
variable {P : Program} {Γ : Fns} {D : Ty} {K : Kinds} {W : Nat → Prop} {R : Option Nat} {ops : Array Oper} {Q : Post3} {o : Oper} {os : List Oper} {N : Nat} {L : List (Nat × Value)} {H : IHeap} {M : Ups} {n : Nat}

/-- an operation without a guard -/
theorem vcS_op {ef : Eff} (hg : o.guard = none) (h : iopC Γ D K (ev (dense N L)) (hp H M) n o.op = some ef) (hW : ∀ p ∈ ef.up, W p.1)
    (k : vcS Γ D K W ops Q os (dense N (putL o.dst ef.v L)) (hp H (putH ef.up M)) ef.n) : vcS Γ D K W ops Q (o :: os) (dense N L) (hp H M) n := by
  simp only [vcS, wantedI, hg, wpo, h]
  refine ⟨fun _ => ⟨hW, ?_⟩, fun h => by cases h⟩
  rw [tput_dense, upds_hp]; exact k
/-- an operation that changes nothing -/
theorem vcS_pure {v : Value} (hg : o.guard = none) (h : iopC Γ D K (ev (dense N L)) (hp H M) n o.op = some ⟨v, [], n⟩)
    (k : vcS Γ D K W ops Q os (dense N (putL o.dst v L)) (hp H M) n) : vcS Γ D K W ops Q (o :: os) (dense N L) (hp H M) n :=
  vcS_op hg h (fun p hm => (by cases hm)) k
/-- an operation that changes nothing, with a guard -/
theorem vcS_guard {b : Bool} {v : Value} (hg : wantedI ops (dense N L) o = some b) (h : b = true → iopC Γ D K (ev (dense N L)) (hp H M) n o.op = some ⟨v, [], n⟩)
    (k : vcS Γ D K W ops Q os (dense N (putL o.dst (if b = true then v else .chan none) L)) (hp H M) n) : vcS Γ D K W ops Q (o :: os) (dense N L) (hp H M) n := by
  simp only [vcS, hg, wpo]
  refine ⟨fun hb => ?_, fun hb => ?_⟩
  · rw [h hb]
    subst hb
    refine ⟨fun p hm => (by cases hm), ?_⟩
    rw [tput_dense]; exact k
  · subst hb
    rw [tput_dense]; exact k
/-- an operation with a guard: both ways -/
theorem vcS_split {b : Bool} (hg : wantedI ops (dense N L) o = some b) (h1 : b = true → ∃ ef, iopC Γ D K (ev (dense N L)) (hp H M) n o.op = some ef ∧ (∀ p ∈ ef.up, W p.1) ∧
      vcS Γ D K W ops Q os (dense N (putL o.dst ef.v L)) (hp H (putH ef.up M)) ef.n)
    (h2 : b = false → vcS Γ D K W ops Q os (dense N (putL o.dst (.chan none) L)) (hp H M) n) : vcS Γ D K W ops Q (o :: os) (dense N L) (hp H M) n := by
  simp only [vcS, hg, wpo]
  refine ⟨fun hb => ?_, fun hb => ?_⟩
  · obtain ⟨ef, e1, e2, e3⟩ := h1 hb
    rw [e1]
    refine ⟨e2, ?_⟩
    rw [tput_dense, upds_hp]; exact e3
  · rw [tput_dense]; exact h2 hb
theorem vcS_nil (k : Q (dense N L) (hp H M) n) : vcS Γ D K W ops Q [] (dense N L) (hp H M) n := k

theorem IWp.keep {c : Code} {Q : PostX} (ks : List Nat) (h : IWp P W R c Q (dense N (keepL ks L)) H n) : IWp P W R c Q (dense N L) H n :=
  h.forget fgt_keepL (fun _ _ h => h) (Nat.le_refl _)

/-- a row lies below the free numbers -/
theorem IWp.lt {c : Code} {Q : PostX} {t : List Value} {id : Nat} {o : IObj} (hH : H id = some o) (h : id < n → IWp P W R c Q t H n) : IWp P W R c Q t H n := by
  intro ρ0 w0 m0 ρ a w hs
  obtain ⟨r, κ, h1, _⟩ := hs.heap.obj id o hH
  exact h (hs.below.lt h1) ρ0 w0 m0 ρ a w hs
end
end Go.Proofs.Ytdnnojblneccdaa
