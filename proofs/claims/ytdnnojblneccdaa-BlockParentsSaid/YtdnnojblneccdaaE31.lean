/-
  Results in new rows.
-/
import Derived.Test.YtdnnojblneccdaaE30
namespace Go.Proofs.Ytdnnojblneccdaa
set_option linter.unusedSimpArgs false
set_option linter.unusedVariables false
open Go
open Enc (enc)
open Row (cel)

/-- a cell that leads nowhere -/
def plain : Value → Bool
  | .bool _ | .int _ _ | .string _ | .pointer none | .slice none _ _ | .map none | .nilFunc | .nilIface => true
  | _ => false
theorem plain_ren {g : Nat → Nat} {v : Value} (h : plain v = true) : ren1 g v = v := by
  unfold plain at h
  split at h <;> first | rfl | (cases h; done)
theorem plain_ok {p : Nat → Prop} {v : Value} (h : plain v = true) : okN1 p v := by
  unfold plain at h
  split at h <;> first | trivial | (cases h; done)
theorem plains_ren {g : Nat → Nat} {c : List Value} (h : c.all plain = true) : c.map (ren1 g) = c := by
  have : ∀ x ∈ c, ren1 g x = x := fun x hx => plain_ren (List.all_eq_true.1 h x hx)
  calc c.map (ren1 g) = c.map id := List.map_congr_left this
    _ = c := by simp

section
variable {D : Ty}
/-- one new row comes out, and a slice of it -/
theorem RetP.new1 {rs : List ResultVar} {n m n'' : Nat} {H H' : IHeap} {ex : Exit} {t : List Value} {off len cap : Nat} {s : Option Nat} {c : List Value} (hx : ex = .normal ∨ ex = .ret) (hr : ires D t H' rs = some (.slice (some ⟨m, off, s⟩) len cap)) (hm : n ≤ m)
    (hH : H' m = some (.cells c false)) (hc : c.all plain = true) : RetP D rs n H ⟨.slice (some ⟨n, off, s⟩) len cap, [(n, some (.cells c false))], n + 1⟩ ex t H' n'' := by
  refine ⟨hx, ?_⟩
  rw [hr]
  refine ⟨fun id => if id = n then m else id, fun id hid => ?_, ?_, ?_, ?_, ?_, ?_, ?_, Nat.le_succ _⟩
  · exact if_neg (by omega)
  · simp [ren, ren2, ren1]
  · show n < n ∨ n ∈ _
    right; simp [Eff.ids]
  · intro id hid o ho
    simp only [Eff.ids, List.map_cons, List.map_nil, List.mem_singleton] at hid
    subst hid
    simp only [upds, upd, if_true, Option.some.injEq] at ho
    subst ho
    refine ⟨?_, ?_⟩
    · simp only [if_true, hH, renO, plains_ren hc]
    · simp only [okO]
      intro x hx
      exact plain_ok (List.all_eq_true.1 hc x hx)
  · intro id hid _
    simp only [Eff.ids, List.map_cons, List.map_nil, List.mem_singleton] at hid
    subst hid; simpa using hm
  · intro i hi j hj _
    simp only [Eff.ids, List.map_cons, List.map_nil, List.mem_singleton] at hi hj
    rw [hi, hj]
  · intro id hid
    simp only [Eff.ids, List.map_cons, List.map_nil, List.mem_singleton] at hid
    subst hid; exact ⟨.inl (Nat.le_refl _), Nat.lt_succ_self _⟩
/-- from n on nothing lies -/
theorem IW.free {P : Program} {W : Nat → Prop} {R : Option Nat} {cs : List Code} {Q : PostX} {t : List Value} {H : IHeap} {n : Nat} (hne : cs ≠ []) (h : (∀ id, n ≤ id → H id = none) → IW P W R cs Q t H n) : IW P W R cs Q t H n := by
  cases cs with
  | nil => exact (hne rfl).elim
  | cons c cs =>
    intro ρ0 w0 m0 ρ a w hs
    refine h (fun id hid => ?_) ρ0 w0 m0 ρ a w hs
    cases hH : H id with
    | none => rfl
    | some o =>
      obtain ⟨r, κ, h1, _⟩ := hs.heap.obj id o hH
      have := hs.below.lt h1
      omega
/-- what a slice spans lies below the free numbers -/
theorem IW.ltC {α : Type} [Row α] {P : Program} {W : Nat → Prop} {R : Option Nat} {cs : List Code} {Q : PostX} {t : List Value} {H : IHeap} {n : Nat} {x : Value} {l : List α} (hne : cs ≠ []) (hx : rdC H x = some l)
    (h : (∀ id off s len cap, x = .slice (some ⟨id, off, s⟩) len cap → id < n) → IW P W R cs Q t H n) : IW P W R cs Q t H n := by
  obtain ⟨a, cap, rfl⟩ := rdC_len hx
  rcases rdC_inv hx with ⟨rfl, _⟩ | ⟨id, off, sp, c, ro, rfl, hc, _⟩
  · exact h fun id off s len cap e => by cases e
  · exact IW.lt hne hc fun hid => h fun id' off' s len cap' e => by cases e; exact hid
theorem rdC_hp {α : Type} [Row α] {H : IHeap} {n m : Nat} {o : Option IObj} {M : Ups} {x : Value} {l : List α} (h : rdC (hp H M) x = some l) (hlt : ∀ id off s len cap, x = .slice (some ⟨id, off, s⟩) len cap → id < n) (hm : n ≤ m) : rdC (hp H ((m, o) :: M)) x = some l := by
  obtain ⟨a, cap, rfl⟩ := rdC_len h
  rcases rdC_inv h with ⟨rfl, h2, rfl, rfl⟩ | ⟨id, off, sp, c, ro, rfl, hc, hle, hl, _⟩
  · rfl
  · have := hlt _ _ _ _ _ rfl
    exact rdC_mk ((hp_ne H o M (by omega)).trans hc) hle hl rfl
end
end Go.Proofs.Ytdnnojblneccdaa
