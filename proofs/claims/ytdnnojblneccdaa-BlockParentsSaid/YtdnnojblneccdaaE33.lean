/-
  What a loop forgets of its memory.
-/
import Derived.Test.YtdnnojblneccdaaE32
namespace Go.Proofs.Ytdnnojblneccdaa
set_option linter.unusedSimpArgs false
set_option linter.unusedVariables false
open Go
open Enc (enc)

theorem vi_len {e : Operand → Value} {x : Operand} {ts : Array TypeId} {news : List Nat} {a : Option Addr} {l c : Nat} (hx : e x = .slice a l c) : visOf e (.call ⟨.builtin .len, #[x], ts⟩) news = .ids [] := by
  have : seesIds e (.call ⟨.builtin .len, #[x], ts⟩) = [] := by simp [seesIds, lens, hx, mblk]
  simp only [visOf, isCall, this]; rfl
theorem le_vec {α : Type} [Enc α] {k j : Nat} (v : Vector α k) (h : Nat.ble j k = true) : j ≤ (encs v.toList).length := by rw [encs_vec_length]; exact Nat.le_of_ble_eq_true h
/-- what A holds, besides these, B holds -/
def leX (H : IHeap) (ks : List Nat) (A B : Ups) : Prop := ∀ id o, id ∉ ks → hp H A id = some o → hp H B id = some o
section
variable {H : IHeap} {ks : List Nat} {A B : Ups} {a n : Nat} {x y : Option IObj}
theorem leX_le (h : leX H [] A B) : (hp H A).le (hp H B) := fun id o e => h id o (by simp) e
theorem leX_refl : leX H ks A A := fun _ _ _ h => h
theorem leX_cons (hxy : x = y) (h : leX H (a :: ks) A B) : leX H ks ((a, x) :: A) ((a, y) :: B) := by
  subst hxy
  intro id o hk e
  by_cases ha : id = a
  · subst ha; rw [hp_eq] at e ⊢; exact e
  · rw [hp_ne _ _ _ ha] at e ⊢
    exact h id o (by simp [ha, hk]) e
/-- a new row is forgotten -/
theorem leX_new (ha : hp H A a = none) (h : leX H ks A B) : leX H ks A ((a, y) :: B) := by
  intro id o hk e
  by_cases hi : id = a
  · subst hi; rw [ha] at e; cases e
  · rw [hp_ne _ _ _ hi]; exact h id o hk e
/-- what was there earlier -/
theorem leX_old (ha : a ∈ ks) (h : leX H ks A B) : leX H ks A ((a, y) :: B) := by
  intro id o hk e
  have hi : id ≠ a := fun hi => hk (by rw [hi]; exact ha)
  rw [hp_ne _ _ _ hi]; exact h id o hk e
theorem leX_drop (ha : a ∈ ks) (h : leX H ks A B) : leX H ks ((a, x) :: A) B := by
  intro id o hk e
  have hi : id ≠ a := fun hi => hk (by rw [hi]; exact ha)
  rw [hp_ne _ _ _ hi] at e; exact h id o hk e
/-- a row is forgotten -/
theorem leX_lose (h : leX H ks A B) (hH : H a = none) (hA : ∀ p ∈ A, p.1 ≠ a) : leX H ks A ((a, y) :: B) := by
  refine leX_new ?_ h
  clear h
  induction A with
  | nil => exact hH
  | cons p A ih =>
    obtain ⟨i, o⟩ := p
    rw [hp_ne _ _ _ (fun e => hA (i, o) List.mem_cons_self e.symm)]
    exact ih fun p hp => hA p (List.mem_cons_of_mem _ hp)
theorem free_hp (hf : ∀ id, n ≤ id → H id = none) (ha : n ≤ a) (hA : wAll (fun id => id ≠ a) A) : hp H A a = none := by
  induction A with
  | nil => exact hf a ha
  | cons p A ih =>
    obtain ⟨i, o⟩ := p
    rw [hp_ne _ _ _ (fun e => hA.1 e.symm)]
    exact ih hA.2
end
/-! results with several new rows -/
def gL (n : Nat) (ms : List Nat) (id : Nat) : Nat := if id < n then id else (ms[id - n]?).getD id
def upL : Nat → List (List Value) → Ups
  | _, [] => []
  | n, c :: cs => (n, some (.cells c false)) :: upL (n + 1) cs
def rowsAt (H : IHeap) (g : Nat → Nat) : List Nat → List (List Value) → Prop
  | [], [] => True
  | m :: ms, c :: cs => H m = some (.cells (c.map (ren1 g)) false) ∧ rowsAt H g ms cs
  | _, _ => False
theorem rowsAt_len {H : IHeap} {g : Nat → Nat} : ∀ {ms : List Nat} {cs : List (List Value)}, rowsAt H g ms cs → ms.length = cs.length
  | [], [], _ => rfl
  | m :: ms, c :: cs, h => by simp [rowsAt_len h.2]
theorem rowsAt_get {H : IHeap} {g : Nat → Nat} : ∀ {ms : List Nat} {cs : List (List Value)}, rowsAt H g ms cs → ∀ (i : Nat) c, cs[i]? = some c → ∃ m, ms[i]? = some m ∧ H m = some (.cells (c.map (ren1 g)) false)
  | [], [], _, i, c, h => by simp at h
  | m :: ms, c :: cs, h, i, c', hc => by
    cases i with
    | zero => simp at hc; subst hc; exact ⟨m, rfl, h.1⟩
    | succ i => simpa using rowsAt_get h.2 i c' (by simpa using hc)
theorem upL_ids : ∀ (cs : List (List Value)) (n id : Nat), id ∈ (upL n cs).map (·.1) ↔ n ≤ id ∧ id < n + cs.length
  | [], n, id => by simp [upL]
  | c :: cs, n, id => by
    simp only [upL, List.map_cons, List.mem_cons, upL_ids cs (n + 1) id, List.length_cons]
    omega
theorem upL_get {H : IHeap} : ∀ (cs : List (List Value)) (n id : Nat) (o : IObj), n ≤ id → id < n + cs.length → upds H (upL n cs) id = some o → ∃ c, cs[id - n]? = some c ∧ o = .cells c false := by
  intro cs
  induction cs generalizing H with
  | nil => intro n id o h1 h2; simp at h2; omega
  | cons c cs ih =>
    intro n id o h1 h2 h
    simp only [upL, upds] at h
    by_cases e : id = n
    · subst e
      have hnot : id ∉ (upL (id + 1) cs).map (·.1) := by rw [upL_ids]; omega
      rw [upds_not_mem hnot] at h
      simp only [upd, if_true, Option.some.injEq] at h
      exact ⟨c, by simp, h.symm⟩
    · obtain ⟨c', h3, h4⟩ := ih (n + 1) id o (by omega) (by simp only [List.length_cons] at h2; omega) h
      refine ⟨c', ?_, h4⟩
      have : id - n = id - (n + 1) + 1 := by omega
      rw [this]; simpa using h3
def allL (p : Nat → Prop) : List Nat → Prop
  | [] => True
  | x :: l => p x ∧ allL p l
theorem allL_spec {p : Nat → Prop} : ∀ {l : List Nat}, allL p l → ∀ x ∈ l, p x
  | y :: l, h, x, hx => by
    cases hx with
    | head => exact h.1
    | tail _ hx => exact allL_spec h.2 x hx
theorem RetP.news {D : Ty} {rs : List ResultVar} {n n'' n1 : Nat} {H H' : IHeap} {ex : Exit} {t : List Value} {v v' : Value} (ms : List Nat) {cs : List (List Value)} {up : Ups} (hx : ex = .normal ∨ ex = .ret) (hr : ires D t H' rs = some v') (hv : v' = ren (gL n ms) v) (hup : up = upL n cs) (hn1 : n1 = n + cs.length)
    (hm : allL (fun m => n ≤ m) ms) (hnd : ms.Nodup) (hH : rowsAt H' (gL n ms) ms cs) (hc : ∀ c ∈ cs, ∀ x ∈ c, okN1 (fun id => id < n + cs.length) x) (hok : okN (fun id => id < n + cs.length) v) : RetP D rs n H ⟨v, up, n1⟩ ex t H' n'' := by
  subst hv; subst hup; subst hn1
  have hlen := rowsAt_len hH
  have hm' : ∀ m ∈ ms, n ≤ m := allL_spec hm
  have hids : ∀ id, id ∈ (⟨v, upL n cs, n + cs.length⟩ : Eff).ids ↔ n ≤ id ∧ id < n + cs.length := fun id => upL_ids cs n id
  have hg : ∀ id, n ≤ id → id < n + cs.length → ∃ m, ms[id - n]? = some m ∧ gL n ms id = m := by
    intro id h1 h2
    have h3 : id - n < ms.length := by omega
    refine ⟨ms[id - n], by simp [h3], ?_⟩
    unfold gL
    rw [if_neg (by omega)]; simp [h3]
  refine ⟨hx, ?_⟩
  rw [hr]
  have hpp : ∀ id, (id < n + cs.length) → (id < n ∨ id ∈ (⟨v, upL n cs, n + cs.length⟩ : Eff).ids) := fun id h => by
    rw [hids]; omega
  refine ⟨gL n ms, fun id hid => if_pos hid, rfl, okN_mono hpp hok, ?_, ?_, ?_, ?_, Nat.le_add_right _ _⟩
  · intro id hid o ho
    obtain ⟨h1, h2⟩ := (hids id).1 hid
    obtain ⟨c, h3, rfl⟩ := upL_get cs n id o h1 h2 ho
    obtain ⟨m, h4, h5⟩ := rowsAt_get hH _ c h3
    obtain ⟨m', h6, h7⟩ := hg id h1 h2
    rw [h4] at h6; cases h6
    refine ⟨by rw [h7, h5]; rfl, ?_⟩
    simp only [okO]
    intro x hx
    exact okN1_mono hpp (hc c (List.mem_of_getElem? h3) x hx)
  · intro id hid _
    obtain ⟨h1, h2⟩ := (hids id).1 hid
    obtain ⟨m', h6, h7⟩ := hg id h1 h2
    rw [h7]; exact hm' m' (List.mem_of_getElem? h6)
  · intro i hi j hj e
    obtain ⟨h1, h2⟩ := (hids i).1 hi
    obtain ⟨h3, h4⟩ := (hids j).1 hj
    obtain ⟨a, ha, ha'⟩ := hg i h1 h2
    obtain ⟨b, hb, hb'⟩ := hg j h3 h4
    rw [ha', hb'] at e
    subst e
    have ia : i - n < ms.length := by omega
    have ib : j - n < ms.length := by omega
    have ea : ms[i - n] = a := by simpa [ia] using ha
    have eb : ms[j - n] = a := by simpa [ib] using hb
    have hpw := List.pairwise_iff_getElem.1 hnd
    rcases Nat.lt_trichotomy (i - n) (j - n) with h | h | h
    · exact absurd (ea.trans eb.symm) (hpw _ _ ia ib h)
    · omega
    · exact absurd (eb.trans ea.symm) (hpw _ _ ib ia h)
  · intro id hid
    obtain ⟨h1, h2⟩ := (hids id).1 hid
    exact ⟨.inl h1, h2⟩
theorem gL_lt {n : Nat} {ms : List Nat} {id : Nat} (h : id < n) : gL n ms id = id := if_pos h
theorem gL_at {n : Nat} {ms : List Nat} {id m : Nat} (h : n ≤ id) (hm : ms[id - n]? = some m) : gL n ms id = m := by
  unfold gL; rw [if_neg (by omega), hm]; rfl
theorem plain_okN1 {p : Nat → Prop} {c : List Value} (h : c.all plain = true) : ∀ x ∈ c, okN1 p x := fun x hx => plain_ok (List.all_eq_true.1 h x hx)
/-! what was there stays -/
theorem hp_keep {H : IHeap} {n id : Nat} {o : IObj} {M : Ups} (hf : ∀ id, n ≤ id → H id = none) (h : H id = some o) (hM : wAll (fun m => n ≤ m) M) : hp H M id = some o := by
  induction M with
  | nil => exact h
  | cons p M ih =>
    obtain ⟨i, x⟩ := p
    rw [hp_ne]
    · exact ih hM.2
    · intro e
      subst e
      rw [hf _ hM.1] at h; cases h
theorem rdC_keep {α : Type} [Row α] {H : IHeap} {n : Nat} {M : Ups} {x : Value} {l : List α} (hf : ∀ id, n ≤ id → H id = none) (h : rdC H x = some l) (hM : wAll (fun m => n ≤ m) M) : rdC (hp H M) x = some l := by
  obtain ⟨a, cap, rfl⟩ := rdC_len h
  rcases rdC_inv h with ⟨rfl, h2, rfl, rfl⟩ | ⟨id, off, sp, c, ro, rfl, hc, hle, hl, _⟩
  · rfl
  · exact rdC_mk (hp_keep hf hc hM) hle hl rfl
theorem ires_cell {D : Ty} {N u ty id off : Nat} {L : List (Nat × Value)} {H : IHeap} {d : TD} {c : List Value} {ro : Bool} {v : Value} (h : opd N L (.tmp u) = some (.pointer (some ⟨id, off, none⟩))) (hd : D ty = some d) (hH : H id = some (.cells c ro)) (hv : rdVar d c off = some v) : ires D (dense N L) H [.cell u ty] = some v := by
  have h1 : (dense N L).getD u (.tuple #[]) = .pointer (some ⟨id, off, none⟩) := pl h
  simp only [ires, ires1, h1, hd, hH, Option.bind_some, hv]
/-- a slice's header with other numbers -/
def renSl (g : Nat → Nat) (s : Sl) : Sl := ⟨s.a.map fun a => { a with block := g a.block }, s.len, s.cap⟩
def okSl (p : Nat → Prop) (s : Sl) : Prop := ∀ a, s.a = some a → p a.block
theorem ren_sl (g : Nat → Nat) (s : Sl) : ren1 g (enc s) = enc (renSl g s) := by
  obtain ⟨a, l, c⟩ := s
  cases a <;> rfl
theorem ok_sl {p : Nat → Prop} {s : Sl} (h : okSl p s) : okN1 p (enc s) := by
  obtain ⟨a, l, c⟩ := s
  cases a with
  | none => trivial
  | some a => exact h a rfl
/-- where a fresh slice of k things lies -/
def spV (sz k : Nat) : Option Nat := if k = 0 then none else some sz
def slF (n sz k : Nat) : Sl := ⟨some ⟨n, 0, spV sz k⟩, k, k⟩
end Go.Proofs.Ytdnnojblneccdaa
