/-
  Package bytes' Compare; cmp.Or.
-/
import Derived.Test.YtdnnojblneccdaaC1
namespace Go.Proofs.Ytdnnojblneccdaa
set_option linter.unusedSimpArgs false
set_option linter.unusedVariables false
open Go
open Enc (enc)
set_option maxRecDepth 100000

noncomputable def F82 : FnI := fun args H n => match args with
  | [x, y] => (rdS H x).bind fun a => (rdS H y).bind fun b => some ⟨.int .i64 (cmpL a b), [], n⟩
  | _ => none
theorem F82_inv {args : List Value} {H : IHeap} {n : Nat} {e : Eff} (h : F82 args H n = some e) : ∃ x y a b, args = [x, y] ∧ rdS H x = some a ∧ rdS H y = some b ∧ e = ⟨.int .i64 (cmpL a b), [], n⟩ := by
  unfold F82 at h; split at h
  · simp only [Option.bind_eq_some_iff] at h
    obtain ⟨a, ha, b, hb, h⟩ := h
    cases h; exact ⟨_, _, a, b, rfl, ha, hb, rfl⟩
  · cases h
theorem F82_ev {x y : Value} {H : IHeap} {n : Nat} {a b : List UInt8} (ha : rdS H x = some a) (hb : rdS H y = some b) : F82 [x, y] H n = some ⟨.int .i64 (cmpL a b), [], n⟩ := by
  simp only [F82, ha, hb, Option.bind_some]
theorem R82 : Ref Try.prog 82 F82 := by
  refine Ref.of_extern Try.func82 (row := Extern.BytealgCompare.compare) (by kernel_rfl) (by kernel_rfl) (by kernel_rfl) (by kernel_rfl) fun args H n e hF ρ w args' hbel hh hargs => ?_
  obtain ⟨x, y, a, b, rfl, ha, hb, rfl⟩ := F82_inv hF
  obtain ⟨hs, hv⟩ := hargs
  obtain ⟨x', hx', rx⟩ := hv 0 x rfl
  obtain ⟨y', hy', ry⟩ := hv 1 y rfl
  have he : args' = #[x', y'] := by
    apply Array.ext (by simpa using hs)
    intro i h1 h2
    have : i = 0 ∨ i = 1 := by simp at h2; omega
    rcases this with rfl | rfl
    · exact (Array.getElem?_eq_some_iff.1 hx').2
    · exact (Array.getElem?_eq_some_iff.1 hy').2
  subst he
  refine ⟨.int .i64 (cmpL a b), ?_, Post.pure hbel hh (.int _ _)⟩
  change Sem.run _ (do let a ← Extern.Bytes.bytesOf x'; let b ← Extern.Bytes.bytesOf y'; pure (goInt (Extern.BytealgCompare.cmp a b))) w = _
  simp only [Sem.run_bind, bytes_rel hh ha rx, bytes_rel hh hb ry, Result.andThen_ok, Sem.run_pure, cmp_eq, goInt]
noncomputable def F62 : FnI := F82
-- bytes.Compare ['Sl', 'Sl'] -> ['Int'], results [4]
theorem R62 : Ref Try.prog 62 F62 := by
  refine Ref.of_iw dok Try.func62 rfl (by kernel_rfl) fun args H n e hF => ?_
  obtain ⟨x, y, a, b, rfl, ha, hb, rfl⟩ := F82_inv hF
  refine ⟨Nat.le_of_ble_eq_true rfl, ?_⟩
  simp only [idxL]
  have hE : Env Try.prog [(82, F82)] D K := env (fnsOk_cons R82 fnsOk_nil)
  refine IW.seq ?_
  refine IW.reg hE ?_
  refine vcS_val rfl rfl (ox_assign (pl rfl)) ?_
  refine vcS_nil ?_
  refine IW.seq ?_
  refine IW.reg hE ?_
  refine vcS_val rfl rfl (ox_move (pl rfl)) ?_
  refine vcS_val rfl rfl (ox_move (pl rfl)) ?_
  refine vcS_val rfl rfl (ox_fn rfl rfl (F82_ev ha hb)) ?_
  refine vcS_val rfl rfl (ox_assign (pl rfl)) ?_
  refine vcS_nil ?_
  refine IW.ret ?_
  exact RetP.ret (.inr rfl) rfl rfl trivial (rfl)
/-- the first that is not 0 -/
def orL : List Int → Int
  | [] => 0
  | x :: xs => if x ≠ 0 then x else orL xs
noncomputable def F63 : FnI := fun args H n => match args with
  | [.slice (some ⟨id, off, _⟩) len _] => match H id with
    | some (.cells c _) => if off + len ≤ c.length ∧ len ≤ 2 ^ 47 then (decs ((c.drop off).take len)).bind fun l => some ⟨.int .i64 (orL l), [], n⟩ else none
    | _ => none
  | _ => none
theorem F63_inv {args : List Value} {H : IHeap} {n : Nat} {e : Eff} (h : F63 args H n = some e) :
    ∃ id off sp cap c ro, ∃ l : List Int, args = [.slice (some ⟨id, off, sp⟩) l.length cap] ∧ H id = some (.cells c ro) ∧ off + l.length ≤ c.length ∧ l.length ≤ 2 ^ 47 ∧ (c.drop off).take l.length = encs l ∧ e = ⟨.int .i64 (orL l), [], n⟩ := by
  unfold F63 at h; split at h
  · rename_i id off sp len cap
    split at h
    · rename_i c ro hc
      split at h
      · rename_i hle
        simp only [Option.bind_eq_some_iff] at h
        obtain ⟨l, hl, h⟩ := h
        cases h
        have hl := decs_some hl
        have hlen : l.length = len := by
          have := congrArg List.length hl
          rw [encs_length] at this
          simp at this; omega
        subst hlen
        exact ⟨id, off, sp, cap, c, ro, l, rfl, hc, hle.1, hle.2, hl, rfl⟩
      · cases h
    · cases h
  · cases h
theorem F63_ev {id off len cap : Nat} {sp : Option Nat} {H : IHeap} {n : Nat} {c A C : List Value} {ro : Bool} {l : List Int} (hH : H id = some (.cells c ro)) (hc : c = A ++ (encs l ++ C)) (h1 : A.length = off) (h2 : l.length = len) (h3 : len ≤ 2 ^ 47) :
    F63 [.slice (some ⟨id, off, sp⟩) len cap] H n = some ⟨.int .i64 (orL l), [], n⟩ := by
  have hx : rdS H (.slice (some ⟨id, off, sp⟩) len cap) = some l := rs_part hH hc h1 h2
  simp only [rdS, hH] at hx
  split at hx
  · rename_i hle
    simp only [F63, hH]
    rw [if_pos ⟨hle, h3⟩, hx]; rfl
  · cases hx
theorem orL_take : ∀ {l : List Int} {k : Nat}, (∀ x ∈ l.take k, x = 0) → orL l = orL (l.drop k)
  | l, 0, _ => by simp
  | [], _ + 1, _ => by simp
  | x :: l, k + 1, h => by
    have h0 : x = 0 := h x (by simp)
    simp only [orL, h0, ne_eq, not_true_eq_false, if_false, List.drop_succ_cons]
    exact orL_take fun y hy => h y (by simp [hy])
theorem orL_at {l : List Int} {k : Nat} (h : ∀ x ∈ l.take k, x = 0) (hk : k < l.length) : orL l = if l[k] ≠ 0 then l[k] else orL (l.drop (k + 1)) := by
  rw [orL_take h, List.drop_eq_getElem_cons hk]; rfl
theorem orL_all {l : List Int} (h : ∀ x ∈ l, x = 0) : orL l = 0 := by
  have := orL_take (l := l) (k := l.length) (by simpa using h)
  rw [this]; simp [orL]
theorem take_snoc {l : List Int} {k : Nat} (h : ∀ x ∈ l.take k, x = 0) (hk : k < l.length) (h0 : l[k] = 0) : ∀ x ∈ l.take (k + 1), x = 0 := by
  intro x hx
  rw [List.take_succ_eq_append_getElem hk] at hx
  rcases List.mem_append.1 hx with h1 | h1
  · exact h x h1
  · simp only [List.mem_singleton] at h1; rw [h1, h0]
-- cmp.Or[int] ['Sl'] -> ['Int'], results [2]
theorem R63 : Ref Try.prog 63 F63 := by
  refine Ref.of_iw dok Try.func63 rfl (by kernel_rfl) fun args H n e hF => ?_
  obtain ⟨id, off, sp, cap, c, ro, l, rfl, hc, hle, hlm, hl, rfl⟩ := F63_inv hF
  refine ⟨Nat.le_of_ble_eq_true rfl, ?_⟩
  simp only [idxL]
  have hE : Env Try.prog [] D K := env fnsOk_nil
  refine IW.seq ?_
  refine IW.reg hE ?_
  refine vcS_val rfl rfl (ox_assign (pl rfl)) ?_
  refine vcS_nil ?_
  refine IW.seq ?_
  refine IW.reg hE ?_
  refine vcS_val rfl rfl (ox_assign (pl rfl)) ?_
  refine vcS_nil ?_
  refine IW.seq ?_
  refine IW.seq ?_
  refine IW.reg hE ?_
  refine vcS_val rfl rfl (ox_move (pl rfl)) ?_
  refine vcS_val rfl rfl (ox_len (pl rfl) D_82 rfl) ?_
  refine vcS_val rfl rfl (ox_move (pl rfl)) ?_
  refine vcS_nil ?_
  refine IW.block ?_
  refine IW.loop (S := Nat) (fun s => [(6, .slice (some ⟨id, off, sp⟩) l.length cap), (7, .int .i64 l.length), (8, .int .i64 s), (3, .int .i64 0)]) (fun s => []) (fun s => n) (fun s => s ≤ l.length ∧ ∀ x ∈ l.take s, x = 0) (fun s => l.length - s) (0) (by simp) (⟨rfl, ⟨rfl, ⟨rfl, ⟨rfl, trivial⟩⟩⟩⟩) (fun _ _ h => h) (Nat.le_refl _) (fun s hs => ?_)
  obtain ⟨hs1, hs2⟩ := hs
  refine IW.seq ?_
  refine IW.reg hE ?_
  refine vcS_val rfl rfl (ox_bin (pl rfl) (pl rfl) (bo_i64_lss _ _)) ?_
  refine vcS_nil ?_
  refine IW.seq ?_
  refine IW.cond rfl (fun hc1 => ?_) (fun hc1 => ?_)
  · replace hc1 := of_decide_eq_true hc1
    have hc1 : s < l.length := by omega
    refine IW.skip ?_
    refine IW.seq ?_
    refine IW.block ?_
    refine IW.seq ?_
    refine IW.reg hE ?_
    refine vcS_val rfl rfl (ox_iaS (pl rfl) (pl rfl) D_82 rfl D_3 (by omega) (by omega)) ?_
    refine vcS_val rfl rfl (ox_load (pl rfl) D_3 hc (rd_el hl hc1 rfl rfl)) ?_
    refine vcS_val rfl rfl (ox_assign (pl rfl)) ?_
    refine vcS_nil ?_
    refine IW.seq ?_
    refine IW.reg hE ?_
    refine vcS_val rfl rfl (ox_move (pl rfl)) ?_
    refine vcS_val rfl rfl (ox_move (pl rfl)) ?_
    refine vcS_val rfl rfl (ox_bin (pl rfl) (pl rfl) (bo_i64_neq _ _)) ?_
    refine vcS_nil ?_
    refine IW.cond rfl (fun hc2 => ?_) (fun hc2 => ?_)
    · have hc2 : l[s] ≠ 0 := by simpa using hc2
      refine IW.seq ?_
      refine IW.reg hE ?_
      refine vcS_val rfl rfl (ox_move (pl rfl)) ?_
      refine vcS_val rfl rfl (ox_assign (pl rfl)) ?_
      refine vcS_nil ?_
      refine IW.ret ?_
      refine retB ?_
      refine retS (retS ?_)
      refine retB ?_
      exact RetP.ret (.inr rfl) rfl rfl trivial (by rw [orL_at hs2 hc1, if_pos hc2]; rfl)
    · have hc2 : l[s] = 0 := by simpa using hc2
      refine IW.skip ?_
      refine IW.nilB ?_
      refine IW.reg hE ?_
      refine vcS_val rfl rfl (ox_bin (pl rfl) (pl rfl) (bo_i64_add (by omega))) ?_
      refine vcS_val rfl rfl (ox_move (pl rfl)) ?_
      refine vcS_nil ?_
      refine IW.nilS ?_
      exact ⟨s + 1, _, _, ⟨by omega, take_snoc hs2 hc1 hc2⟩, by omega, rfl, ⟨rfl, ⟨rfl, ⟨rfl, ⟨rfl, trivial⟩⟩⟩⟩, rfl, fun _ _ h => h, Nat.le_refl _⟩
  · replace hc1 := of_decide_eq_false hc1
    refine IW.exit ?_
    refine exS (exS ?_)
    refine blkQ_exit ?_
    refine IW.seq ?_
    refine IW.reg hE ?_
    refine vcS_val rfl rfl (ox_move (pl rfl)) ?_
    refine vcS_val rfl rfl (ox_assign (pl rfl)) ?_
    refine vcS_nil ?_
    refine IW.ret ?_
    exact RetP.ret (.inr rfl) rfl rfl trivial (by rw [orL_all (fun x hx => hs2 x (by rw [List.take_of_length_le (by omega)]; exact hx))])
end Go.Proofs.Ytdnnojblneccdaa
