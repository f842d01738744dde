/-
  Functions without a body: the model's own rows.
-/
import Derived.Test.YtdnnojblneccdaaE27
import Derived.Laws.Externs
namespace Go.Proofs.Ytdnnojblneccdaa
set_option linter.unusedSimpArgs false
set_option linter.unusedVariables false
open Go
open Enc (enc)

theorem Ref.of_extern {P : Program} {k : FuncId} {fn : Func} {row : Array Value → Sem Value} {F : FnI} (hf : P.funcs[k]? = some fn) (hname : (fn.name == "runtime.NumGoroutine") = false)
    (hb : fn.body.isNone = true) (hn : Extern.findNext fn = none) (he : Extern.find fn = some row)
    (h : ∀ args H n e, F args H n = some e → ∀ ρ w args', Below n ρ → HR ρ H w → ArgsR ρ args args' → ∃ v', (row args').run P w = .ok v' w ∧ Post ρ H n e v' ρ w w) : Ref P k F := by
  intro args H n e hF ρ w args' hbel hh hargs
  obtain ⟨v', h1, h2⟩ := h args H n e hF ρ w args' hbel hh hargs
  unfold CallW
  rw [run_callFunc_extern hf hname hb hn he, h1]
  exact ⟨ρ, h2⟩

theorem run_loadBytes {P : Program} {w : World} {r : Nat} {c : Array Value} {T : TypeId} {fz : Bool} {x : Option Obj} :
    ∀ (l : List UInt8) (off : Nat) (acc : ByteArray), (∀ (i : Nat) b, l[i]? = some b → w.cell? ⟨r, off + i, none⟩ = some (.int .u8 b.toNat)) →
      (Extern.Bytes.loadBytes ⟨r, off, none⟩ l.length acc).run P w = .ok ⟨acc.data ++ l.toArray⟩ w
  | [], off, acc, _ => by
    simp only [List.length_nil, Extern.Bytes.loadBytes, Sem.run_pure]
    have : (⟨acc.data ++ ([] : List UInt8).toArray⟩ : ByteArray) = acc := by apply ByteArray.ext; simp
    rw [this]
  | b :: l, off, acc, h => by
    have h0 := h 0 b rfl
    simp only [Nat.add_zero] at h0
    have hadd : (⟨r, off, none⟩ : Addr).add 1 = ⟨r, off + 1, none⟩ := by simp [Addr.add]
    simp only [List.length_cons, Extern.Bytes.loadBytes, Sem.run_bind, run_load, h0, Result.andThen_ok, hadd]
    rw [run_loadBytes (T := T) (fz := fz) (c := c) (x := x) l (off + 1) _ fun i b hb => by
      have := h (i + 1) b (by simpa using hb)
      have e : off + (i + 1) = off + 1 + i := by omega
      rw [e] at this; exact this]
    congr 1
    apply ByteArray.ext
    have : ((b.toNat : Int).toNat).toUInt8 = b := by simp [Nat.toUInt8]
    simp [ByteArray.push, this]

theorem bytes_rel {P : Program} {ρ : Ren} {H : IHeap} {w : World} {x x' : Value} {l : List UInt8} (hh : HR ρ H w) (h : rdS H x = some l) (hx : VR ρ x x') : (Extern.Bytes.bytesOf x').run P w = .ok ⟨l.toArray⟩ w := by
  have row : ∀ {id off len r κ : Nat} {c : List Value} {ro : Bool}, H id = some (.cells c ro) → ρ id = some (r, κ) → off + len ≤ c.length → decs ((c.drop off).take len) = some l →
      (Extern.Bytes.loadBytes ⟨r, off, none⟩ len .empty).run P w = .ok ⟨l.toArray⟩ w := by
    intro id off len r κ c ro ho hr hle hd
    obtain ⟨r', κ', c', T, fz, g1, g2, g3, g4, _, g6⟩ := hh.row ho
    rw [hr] at g1; cases g1
    have hd := decs_some hd
    have hlen : l.length = len := by
      have := congrArg List.length hd
      rw [encs_length] at this
      simp at this; omega
    have := run_loadBytes (P := P) (w := w) (r := r) (c := #[]) (T := 0) (fz := false) (x := none) l off .empty fun i b hb => by
      have hi : i < l.length := (List.getElem?_eq_some_iff.1 hb).1
      have h1 : ((c.drop off).take len)[i]? = some (enc b) := by rw [hd, encs_get, hb]; rfl
      rw [List.getElem?_take, if_pos (by omega), List.getElem?_drop] at h1
      obtain ⟨v', e1, e2⟩ := g6 _ _ h1
      have e3 : v' = .int .u8 b.toNat := by
        generalize hz : enc b = z at e2
        cases e2 <;> first | (exact hz.symm) | (cases hz)
      subst e3
      simp [World.cell?, g2, e1]
    rw [hlen] at this
    rw [this]
    congr 1
    apply ByteArray.ext; simp
  unfold rdS at h
  split at h
  · cases h
    rcases slice_inv hx with ⟨_, rfl, rfl, rfl⟩ | ⟨_, _, _, _, h, _⟩ | ⟨_, _, _, _, _, _, h, _⟩
    · rfl
    · cases h
    · cases h
  · rename_i a len cap
    split at h
    · rename_i c ro ho
      split at h
      · rename_i hle
        rcases slice_inv hx with ⟨h, _⟩ | ⟨id, off, r, κ, e, hr, rfl⟩ | ⟨id, off, sz', r, κ, cap', e, hr, _, _, _, rfl⟩
        · cases h
        · cases e; exact row ho hr hle h
        · cases e; exact row ho hr hle h
      · cases h
    · cases h
  · cases h

/-- how bytes stand -/
def cmpL : List UInt8 → List UInt8 → Int
  | [], [] => 0
  | [], _ :: _ => -1
  | _ :: _, [] => 1
  | a :: as, b :: bs => if a = b then cmpL as bs else if a < b then -1 else 1

theorem cmp_eq : ∀ (a b : List UInt8), Extern.BytealgCompare.cmp ⟨a.toArray⟩ ⟨b.toArray⟩ = cmpL a b := by
  have gen : ∀ (a b : List UInt8), (match (List.range (min a.length b.length)).find? (fun i => a.getD i 0 != b.getD i 0) with
      | some i => if a.getD i 0 < b.getD i 0 then -1 else 1
      | none => if a.length < b.length then -1 else if a.length > b.length then (1 : Int) else 0) = cmpL a b := by
    intro a
    induction a with
    | nil => intro b; cases b <;> simp [cmpL]
    | cons x a ih =>
      intro b
      cases b with
      | nil => simp [cmpL]
      | cons y b =>
        have hm : min (a.length + 1) (b.length + 1) = min a.length b.length + 1 := by omega
        simp only [List.length_cons, hm, List.range_succ_eq_map, List.find?_cons, List.getD_cons_zero, cmpL]
        by_cases hxy : x = y
        · subst hxy
          simp only [bne_self_eq_false, if_true, List.find?_map]
          have := ih b
          rw [← this]
          have hfun : ((fun i => (x :: a).getD i 0 != (x :: b).getD i 0) ∘ Nat.succ) = fun i => a.getD i 0 != b.getD i 0 := by
            funext i; simp
          rw [hfun]
          cases (List.range (min a.length b.length)).find? (fun i => a.getD i 0 != b.getD i 0) with
          | none => simp
          | some i => simp
        · have : (x != y) = true := by simpa using hxy
          simp only [this, if_neg hxy, List.getD_cons_zero]
  intro a b
  rw [← gen a b]
  have e1 : ∀ (l : List UInt8) (i : Nat), (⟨l.toArray⟩ : ByteArray)[i]! = l.getD i 0 := by
    intro l i
    have h1 : (⟨l.toArray⟩ : ByteArray)[i]! = l.toArray[i]! := by
      simp only [getElem!_def]
      by_cases h : i < l.length
      · have : i < (⟨l.toArray⟩ : ByteArray).size := by simpa [ByteArray.size] using h
        simp [getElem?_pos, this, h]
        rfl
      · have : ¬ i < (⟨l.toArray⟩ : ByteArray).size := by simpa [ByteArray.size] using h
        simp [getElem?_neg, this, h]
    rw [h1]
    simp only [getElem!_def, List.getElem?_toArray, List.getD_eq_getElem?_getD]
    cases l[i]? <;> rfl
  simp only [Extern.BytealgCompare.cmp, e1]
  rfl
end Go.Proofs.Ytdnnojblneccdaa
