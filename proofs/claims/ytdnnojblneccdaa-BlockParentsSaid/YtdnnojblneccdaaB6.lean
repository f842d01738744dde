/-
  slices.Concat.
-/
import Derived.Test.YtdnnojblneccdaaB5
namespace Go.Proofs.Ytdnnojblneccdaa
set_option linter.unusedSimpArgs false
set_option linter.unusedVariables false
open Go
open Enc (enc)
open Row (cel)
set_option maxRecDepth 100000

section
variable {α : Type}
/-- the first s of them, one behind the other -/
def firsts (ls : List (List α)) (s : Nat) : List α := (ls.take s).flatten
theorem firsts_succ {ls : List (List α)} {s : Nat} (h : s < ls.length) : firsts ls (s + 1) = firsts ls s ++ ls[s] := by
  unfold firsts
  rw [List.take_succ_eq_append_getElem h, List.flatten_append]; simp
theorem firsts_le {ls : List (List α)} {s : Nat} (h : s < ls.length) : (firsts ls s).length + ls[s].length ≤ ls.flatten.length := by
  have : ls.flatten = firsts ls (s + 1) ++ (ls.drop (s + 1)).flatten := by rw [firsts, ← List.flatten_append, List.take_append_drop]
  rw [this, firsts_succ h, List.length_append, List.length_append]; omega
theorem firsts_all {ls : List (List α)} {s : Nat} (h : ls.length ≤ s) : firsts ls s = ls.flatten := by rw [firsts, List.take_of_length_le h]
theorem nil_of_total {ls : List (List α)} {s : Nat} (h : s < ls.length) (h0 : ls.flatten.length = 0) : ls[s] = [] := by
  have := firsts_le h
  exact List.length_eq_zero_iff.1 (by omega)
def capC (ls : List (List α)) (s : Nat) : Nat := if s = 0 then ls.flatten.length else (firsts ls s).length
theorem capC_succ {ls : List (List α)} {s : Nat} (h : s < ls.length) : capC ls (s + 1) = (firsts ls s).length + ls[s].length := by
  unfold capC
  rw [if_neg (by omega), firsts_succ h, List.length_append]
end
section
variable {α : Type} [Row α]
noncomputable def rdL (α : Type) [Row α] (H : IHeap) : List Sl → Option (List (List α))
  | [] => some []
  | s :: S => match rdC (α := α) H (enc s), rdL α H S with
    | some l, some ls => some (l :: ls)
    | _, _ => none
theorem rdL_get {H : IHeap} : ∀ {S : List Sl} {ls : List (List α)}, rdL α H S = some ls → ls.length = S.length ∧ ∀ (i : Nat) (h : i < S.length) (h' : i < ls.length), rdC H (enc S[i]) = some ls[i]
  | [], ls, h => by cases h; exact ⟨rfl, fun i h => (by simp at h)⟩
  | s :: S, ls, h => by
    simp only [rdL] at h
    split at h
    · rename_i l ls' h1 h2
      cases h
      obtain ⟨g1, g2⟩ := rdL_get h2
      refine ⟨by simp [g1], fun i hi hi' => ?_⟩
      cases i with
      | zero => exact h1
      | succ i => exact g2 i (by simpa using hi) (by simpa using hi')
    · cases h
theorem rdL_at {H : IHeap} {S : List Sl} {ls : List (List α)} (h : rdL α H S = some ls) {i : Nat} (hi : i < S.length) : ∃ sa sc, ∃ h' : i < ls.length, enc S[i] = .slice sa ls[i].length sc ∧ rdC H (.slice sa ls[i].length sc) = some ls[i] := by
  obtain ⟨g1, g2⟩ := rdL_get h
  have hi' : i < ls.length := by omega
  have h2 := g2 i hi hi'
  obtain ⟨a, cap, e⟩ := rdC_len h2
  exact ⟨a, cap, hi', e, by rw [← e]; exact h2⟩
theorem rd_hdr {d : TD} {c : List Value} {off i j : Nat} {S : List Sl} {v : Value} (hl : (c.drop off).take (S.length * Row.sz Sl) = cels S) (h : i < S.length) (hv : enc S[i] = v) (hk : d.k.isAgg = false) (hj : j = off + i * Row.sz Sl) : rdVar d c j = some v := by
  subst hv
  refine rd_celIn hl h (v := enc S[i]) (o := 0) ?_ (by omega)
  unfold rdVar
  rw [if_neg (by rw [hk]; simp)]
  rfl
theorem rdC_free {H : IHeap} {n : Nat} {x : Value} {l : List α} (hf : ∀ id, n ≤ id → H id = none) (h : rdC H x = some l) : ∀ id off s len cap, x = .slice (some ⟨id, off, s⟩) len cap → id < n := by
  intro id off s len cap e
  subst e
  rcases rdC_inv h with ⟨e, _⟩ | ⟨id', off', sp', c, ro, e, hc, _⟩
  · cases e
  · cases e
    refine Nat.lt_of_not_le fun hle => ?_
    rw [hf _ hle] at hc; cases hc
def celC (z : List Value) (ls : List (List α)) (s : Nat) : List Value := if s = 0 then (List.replicate ls.flatten.length z).flatten else cels (firsts ls s)
theorem celC_ok (z : List Value) (ls : List (List α)) (s k : Nat) (hk : k = Row.sz α) : (firsts ls s).length * k ≤ (celC z ls s).length ∧ (celC z ls s).take ((firsts ls s).length * k) = cels (firsts ls s) := by
  subst hk
  unfold celC
  by_cases h0 : s = 0
  · subst h0; simp [firsts, cels]
  · rw [if_neg h0, cels_length]
    exact ⟨Nat.le_refl _, by rw [← cels_length, List.take_length]⟩
theorem celC_succ {z : List Value} {ls : List (List α)} {s : Nat} (h : s < ls.length) : celC z ls (s + 1) = cels (firsts ls s ++ ls[s]) := by
  unfold celC
  rw [if_neg (by omega), firsts_succ h]
theorem hp_step {H : IHeap} {n a b : Nat} {x y z : Option IObj} (hf : ∀ id, n ≤ id → H id = none) (ha : n ≤ a) (hxy : x = y) : (hp H [(b, x)]).le (hp H [(b, y), (a, none), (a, z)]) := by
  subst hxy
  intro id o h
  by_cases hb : id = b
  · subst hb; rw [hp_eq] at h ⊢; exact h
  · rw [hp_ne _ _ _ hb, hp_nil] at h
    rw [hp_ne _ _ _ hb]
    have : id ≠ a := by
      intro e; rw [e, hf a ha] at h; cases h
    rw [hp_ne _ _ _ this, hp_ne _ _ _ this]; exact h
def concE (n : Nat) (l : List α) : Eff := if l.length = 0 then ⟨.slice none 0 0, [], n⟩ else ⟨.slice (some ⟨n, 0, some (Row.sz α)⟩) l.length l.length, [(n, some (.cells (cels l) false))], n + 1⟩
theorem concE_zero {n : Nat} {l : List α} (h : l.length = 0) : concE n l = ⟨.slice none 0 0, [], n⟩ := if_pos h
theorem concE_pos {n : Nat} {l : List α} (h : l.length ≠ 0) : concE n l = ⟨.slice (some ⟨n, 0, some (Row.sz α)⟩) l.length l.length, [(n, some (.cells (cels l) false))], n + 1⟩ := if_neg h
noncomputable def concF (α : Type) [Row α] (bytes : Nat) : FnI := fun args H n => match args with
  | [x] => (rdC H x).bind fun (S : List Sl) => (rdL α H S).bind fun ls => if S.length ≤ 2 ^ 47 ∧ ls.flatten.length * bytes ≤ most then some (concE n ls.flatten) else none
  | _ => none
theorem concF_inv {bytes : Nat} {args : List Value} {H : IHeap} {n : Nat} {e : Eff} (h : concF α bytes args H n = some e) : ∃ xa xc, ∃ S : List Sl, ∃ ls : List (List α), args = [.slice xa S.length xc] ∧ rdC H (.slice xa S.length xc) = some S ∧ rdL α H S = some ls ∧ S.length ≤ 2 ^ 47 ∧ ls.flatten.length * bytes ≤ most ∧ e = concE n ls.flatten := by
  unfold concF at h; split at h
  · simp only [Option.bind_eq_some_iff] at h
    obtain ⟨S, hS, ls, hls, h⟩ := h
    split at h
    · rename_i hle; cases h
      obtain ⟨xa, xc, rfl⟩ := rdC_len hS
      exact ⟨xa, xc, S, ls, rfl, hS, hls, hle.1, hle.2, rfl⟩
    · cases h
  · cases h
theorem concF_ev {bytes : Nat} {x : Value} {H : IHeap} {n : Nat} {S : List Sl} {ls : List (List α)} {l : List α} (hS : rdC H x = some S) (hls : rdL α H S = some ls) (h1 : S.length ≤ 2 ^ 47) (hl : ls.flatten = l) (h2 : l.length * bytes ≤ most) : concF α bytes [x] H n = some (concE n l) := by
  subst hl
  simp only [concF, hS, hls, Option.bind_some]
  rw [if_pos ⟨h1, h2⟩]
theorem growF_ev0 {sz bytes : Nat} {z : List Value} {H : IHeap} {n : Nat} {k : Nat} (hk : k = 0) : growF sz bytes z [.slice none 0 0, .int .i64 k] H n = some ⟨.slice none 0 0, [], n⟩ := by
  subst hk
  rw [growF_ev (by omega), growE_zero]
theorem growF_evp {sz bytes : Nat} {z : List Value} {H : IHeap} {n : Nat} {k : Nat} (h0 : 0 < k) (hk : k * bytes ≤ most) : growF sz bytes z [.slice none 0 0, .int .i64 k] H n = some ⟨.slice (some ⟨n, 0, some sz⟩) 0 k, [(n, some (.cells ((List.replicate k z).flatten) false))], n + 1⟩ := by
  rw [growF_ev hk, growE_pos h0]
end
noncomputable def F65 : FnI := concF Dig 32
-- slices.Concat[[]headwater/api.Digest,headwater/api.Digest] ['Sl'] -> ['Sl'], results [2]
theorem R65 : Ref Try.prog 65 F65 := by
  refine Ref.of_iw dok Try.func65 rfl (by kernel_rfl) fun args H n e hF => ?_
  obtain ⟨xa, xc, S, ls, rfl, hS, hls, hle, hto, rfl⟩ := concF_inv hF
  have hlen := (rdL_get hls).1
  have htt : ls.flatten.length ≤ 2 ^ 47 := by simp only [most] at hto; omega
  refine ⟨Nat.le_of_ble_eq_true rfl, ?_⟩
  simp only [idxL]
  have hE : Env Try.prog [(83, F83)] D K := env (fnsOk_cons R83 fnsOk_nil)
  refine IW.seq ?_
  refine IW.reg hE ?_
  refine vcS_val rfl rfl (ox_assign (pl rfl)) ?_
  refine vcS_nil ?_
  refine IW.seq ?_
  refine IW.free (by simp) (fun hfree => ?_)
  refine IW.reg hE ?_
  refine vcS_val rfl rfl (ox_assign (pl rfl)) ?_
  refine vcS_nil ?_
  refine IW.seq ?_
  refine IW.seq ?_
  refine IW.reg hE ?_
  refine vcS_val rfl rfl (ox_move (pl rfl)) ?_
  refine vcS_val rfl rfl (ox_len (pl rfl) D_113 rfl) ?_
  refine vcS_val rfl rfl (ox_move (pl rfl)) ?_
  refine vcS_nil ?_
  refine IW.block ?_
  refine IW.loop (S := Nat) (fun s => [(0, .slice xa S.length xc), (2, .slice none 0 0), (9, .slice xa S.length xc), (10, .int .i64 S.length), (11, .int .i64 s), (3, .int .i64 (firsts ls s).length)]) (fun s => []) (fun s => n) (fun s => s ≤ S.length) (fun s => S.length - s) (0) (by simp) (⟨rfl, ⟨rfl, ⟨rfl, ⟨rfl, ⟨rfl, ⟨rfl, trivial⟩⟩⟩⟩⟩⟩) (fun _ _ h => h) (Nat.le_refl _) (fun s hs => ?_)
  refine IW.seq ?_
  refine IW.reg hE ?_
  refine vcS_val rfl rfl (ox_bin (pl rfl) (pl rfl) (bo_i64_lss _ _)) ?_
  refine vcS_nil ?_
  refine IW.seq ?_
  refine IW.cond rfl (fun hc1 => ?_) (fun hc1 => ?_)
  · replace hc1 := of_decide_eq_true hc1
    have hc1 : s < S.length := by omega
    obtain ⟨i1, o1, p1, c1, r1, e1, m1, l1⟩ := rdC_at hS hc1
    subst e1
    obtain ⟨sa, sc, hi, es, hr⟩ := rdL_at hls hc1
    have hb := firsts_le hi
    refine IW.skip ?_
    refine IW.seq ?_
    refine IW.block ?_
    refine IW.seq ?_
    refine IW.reg hE ?_
    refine vcS_val rfl rfl (ox_iaS (pl rfl) (pl rfl) D_113 rfl D_34 (by omega) (by omega)) ?_
    refine vcS_val rfl rfl (ox_load (pl rfl) D_34 m1 (rd_hdr l1 hc1 es rfl rfl)) ?_
    refine vcS_val rfl rfl (ox_assign (pl rfl)) ?_
    refine vcS_nil ?_
    refine IW.seq ?_
    refine IW.reg hE ?_
    refine vcS_val rfl rfl (ox_move (pl rfl)) ?_
    refine vcS_val rfl rfl (ox_move (pl rfl)) ?_
    refine vcS_val rfl rfl (ox_len (pl rfl) D_34 rfl) ?_
    refine vcS_val rfl rfl (ox_bin (pl rfl) (pl rfl) (bo_i64_add (by omega))) ?_
    refine vcS_val rfl rfl (ox_assign (pl rfl)) ?_
    refine vcS_nil ?_
    refine IW.seq ?_
    refine IW.reg hE ?_
    refine vcS_val rfl rfl (ox_move (pl rfl)) ?_
    refine vcS_val rfl rfl (ox_bin (pl rfl) (pl rfl) (bo_i64_lss _ _)) ?_
    refine vcS_nil ?_
    refine IW.cond rfl (fun hc2 => ?_) (fun hc2 => ?_)
    · exact absurd (of_decide_eq_true hc2) (by omega)
    · replace hc2 := of_decide_eq_false hc2
      refine IW.skip ?_
      refine IW.nilB ?_
      refine IW.reg hE ?_
      refine vcS_val rfl rfl (ox_bin (pl rfl) (pl rfl) (bo_i64_add (by omega))) ?_
      refine vcS_val rfl rfl (ox_move (pl rfl)) ?_
      refine vcS_nil ?_
      refine IW.nilS ?_
      exact ⟨s + 1, _, _, by omega, by omega, rfl, ⟨rfl, ⟨rfl, ⟨rfl, ⟨rfl, ⟨rfl, ⟨(by rw [firsts_succ hi, List.length_append]; rfl), trivial⟩⟩⟩⟩⟩⟩, rfl, fun _ _ h => h, Nat.le_refl _⟩
  · replace hc1 := of_decide_eq_false hc1
    have hs2 : firsts ls s = ls.flatten := firsts_all (by omega)
    rw [hs2]
    refine IW.exit ?_
    refine exS (exS ?_)
    refine blkQ_exit ?_
    refine IW.seq ?_
    by_cases h0 : ls.flatten.length = 0
    · refine IW.reg hE ?_
      refine vcS_val rfl rfl (ox_move (pl rfl)) ?_
      refine vcS_ups rfl rfl (ox_fn rfl rfl (growF_ev0 h0)) rfl trivial ?_
      refine vcS_val rfl rfl (ox_assign (pl rfl)) ?_
      refine vcS_nil ?_
      refine IW.seq ?_
      refine IW.seq ?_
      refine IW.reg hE ?_
      refine vcS_val rfl rfl (ox_move (pl rfl)) ?_
      refine vcS_val rfl rfl (ox_len (pl rfl) D_113 rfl) ?_
      refine vcS_val rfl rfl (ox_move (pl rfl)) ?_
      refine vcS_nil ?_
      refine IW.block ?_
      refine IW.loop (S := Nat) (fun s => [(0, .slice xa S.length xc), (2, .slice none 0 0), (25, .slice xa S.length xc), (26, .int .i64 S.length), (27, .int .i64 s), (6, .slice none 0 0)]) (fun s => []) (fun s => n) (fun s => s ≤ S.length) (fun s => S.length - s) (0) (by simp) (⟨rfl, ⟨rfl, ⟨rfl, ⟨rfl, ⟨rfl, ⟨rfl, trivial⟩⟩⟩⟩⟩⟩) (fun _ _ h => h) (Nat.le_refl _) (fun s hs => ?_)
      refine IW.seq ?_
      refine IW.reg hE ?_
      refine vcS_val rfl rfl (ox_bin (pl rfl) (pl rfl) (bo_i64_lss _ _)) ?_
      refine vcS_nil ?_
      refine IW.seq ?_
      refine IW.cond rfl (fun hc3 => ?_) (fun hc3 => ?_)
      · replace hc3 := of_decide_eq_true hc3
        have hc3 : s < S.length := by omega
        obtain ⟨i1, o1, p1, c1, r1, e1, m1, l1⟩ := rdC_at hS hc3
        subst e1
        obtain ⟨sa, sc, hi, es, hr⟩ := rdL_at hls hc3
        have hb := firsts_le hi
        have e0 := nil_of_total hi h0
        rw [e0] at es hr
        refine IW.skip ?_
        refine IW.seq ?_
        refine IW.block ?_
        refine IW.seq ?_
        refine IW.reg hE ?_
        refine vcS_val rfl rfl (ox_iaS (pl rfl) (pl rfl) D_113 rfl D_34 (by omega) (by omega)) ?_
        refine vcS_val rfl rfl (ox_load (pl rfl) D_34 m1 (rd_hdr l1 hc3 es rfl rfl)) ?_
        refine vcS_val rfl rfl (ox_assign (pl rfl)) ?_
        refine vcS_nil ?_
        refine IW.reg hE ?_
        refine vcS_val rfl rfl (ox_move (pl rfl)) ?_
        refine vcS_val rfl rfl (ox_move (pl rfl)) ?_
        refine vcS_val rfl rfl (ox_app0 (α := Dig) (pl rfl) (pl rfl) D_34 rfl D_24 D_34 rfl rfl hr rfl (Nat.le_refl _)) ?_
        refine vcS_val rfl rfl (ox_assign (pl rfl)) ?_
        refine vcS_nil ?_
        refine IW.nilB ?_
        refine IW.reg hE ?_
        refine vcS_val rfl rfl (ox_bin (pl rfl) (pl rfl) (bo_i64_add (by omega))) ?_
        refine vcS_val rfl rfl (ox_move (pl rfl)) ?_
        refine vcS_nil ?_
        refine IW.nilS ?_
        exact ⟨s + 1, _, _, by omega, by omega, rfl, ⟨rfl, ⟨rfl, ⟨rfl, ⟨rfl, ⟨rfl, ⟨rfl, trivial⟩⟩⟩⟩⟩⟩, rfl, fun _ _ h => h, Nat.le_refl _⟩
      · replace hc3 := of_decide_eq_false hc3
        refine IW.exit ?_
        refine exS (exS ?_)
        refine blkQ_exit ?_
        refine IW.seq ?_
        refine IW.reg hE ?_
        refine vcS_val rfl rfl (ox_move (pl rfl)) ?_
        refine vcS_val rfl rfl (ox_assign (pl rfl)) ?_
        refine vcS_nil ?_
        refine IW.ret ?_
        rw [concE_zero h0]; exact RetP.ret (.inr rfl) rfl rfl trivial rfl
    · refine IW.reg hE ?_
      refine vcS_val rfl rfl (ox_move (pl rfl)) ?_
      refine vcS_ups rfl rfl (ox_fn rfl rfl (growF_evp (by omega) hto)) rfl ⟨.inl (by omega), trivial⟩ ?_
      refine vcS_val rfl rfl (ox_assign (pl rfl)) ?_
      refine vcS_nil ?_
      refine IW.seq ?_
      refine IW.seq ?_
      refine IW.reg hE ?_
      refine vcS_val rfl rfl (ox_move (pl rfl)) ?_
      refine vcS_val rfl rfl (ox_len (pl rfl) D_113 rfl) ?_
      refine vcS_val rfl rfl (ox_move (pl rfl)) ?_
      refine vcS_nil ?_
      refine IW.block ?_
      refine IW.loop (S := Nat) (fun s => [(0, .slice xa S.length xc), (2, .slice none 0 0), (25, .slice xa S.length xc), (26, .int .i64 S.length), (27, .int .i64 s), (6, .slice (some ⟨n + s, 0, some 32⟩) (firsts ls s).length (capC ls s))]) (fun s => [(n + s, some (.cells (celC zDig ls s) false))]) (fun s => n + s + 1) (fun s => s ≤ S.length) (fun s => S.length - s) (0) (by simp) (⟨rfl, ⟨rfl, ⟨rfl, ⟨rfl, ⟨rfl, ⟨rfl, trivial⟩⟩⟩⟩⟩⟩) (fun _ _ h => h) (Nat.le_refl _) (fun s hs => ?_)
      refine IW.seq ?_
      refine IW.reg hE ?_
      refine vcS_val rfl rfl (ox_bin (pl rfl) (pl rfl) (bo_i64_lss _ _)) ?_
      refine vcS_nil ?_
      refine IW.seq ?_
      refine IW.cond rfl (fun hc4 => ?_) (fun hc4 => ?_)
      · replace hc4 := of_decide_eq_true hc4
        have hc4 : s < S.length := by omega
        obtain ⟨i1, o1, p1, c1, r1, e1, m1, l1⟩ := rdC_at hS hc4
        subst e1
        obtain ⟨sa, sc, hi, es, hr⟩ := rdL_at hls hc4
        have hb := firsts_le hi
        have hi1 : i1 < n := rdC_free hfree hS i1 o1 p1 _ _ rfl
        have hk := celC_ok zDig ls s 32 rfl
        refine IW.skip ?_
        refine IW.seq ?_
        refine IW.block ?_
        refine IW.seq ?_
        refine IW.reg hE ?_
        refine vcS_val rfl rfl (ox_iaS (pl rfl) (pl rfl) D_113 rfl D_34 (by omega) (by omega)) ?_
        refine vcS_val rfl rfl (ox_load (pl rfl) D_34 (hp_sk (by omega) m1) (rd_hdr l1 hc4 es rfl rfl)) ?_
        refine vcS_val rfl rfl (ox_assign (pl rfl)) ?_
        refine vcS_nil ?_
        refine IW.reg hE ?_
        refine vcS_val rfl rfl (ox_move (pl rfl)) ?_
        refine vcS_val rfl rfl (ox_move (pl rfl)) ?_
        refine vcS_ups rfl rfl (ox_appO (α := Dig) (l1 := firsts ls s) (pl rfl) (pl rfl) D_34 rfl D_24 D_34 rfl rfl rfl (hp_eq _ _ _ _) rfl hk.1 hk.2 (rdC_hp hr (rdC_free hfree hr) (by omega)) (Nat.le_trans (Nat.mul_le_mul_right _ hb) hto) (by decide)) rfl ⟨.inl (by omega), .inl (by omega), trivial⟩ ?_
        refine vcS_val rfl rfl (ox_assign (pl rfl)) ?_
        refine vcS_nil ?_
        refine IW.nilB ?_
        refine IW.reg hE ?_
        refine vcS_val rfl rfl (ox_bin (pl rfl) (pl rfl) (bo_i64_add (by omega))) ?_
        refine vcS_val rfl rfl (ox_move (pl rfl)) ?_
        refine vcS_nil ?_
        refine IW.nilS ?_
        exact ⟨s + 1, _, _, by omega, by omega, rfl, ⟨rfl, ⟨rfl, ⟨rfl, ⟨rfl, ⟨rfl, ⟨(by rw [firsts_succ hi, capC_succ hi, List.length_append]; rfl), trivial⟩⟩⟩⟩⟩⟩, rfl, hp_step hfree (by omega) (by rw [celC_succ hi]), by omega⟩
      · replace hc4 := of_decide_eq_false hc4
        have hs3 : firsts ls s = ls.flatten := firsts_all (by omega)
        refine IW.exit ?_
        refine exS (exS ?_)
        refine blkQ_exit ?_
        refine IW.seq ?_
        refine IW.reg hE ?_
        refine vcS_val rfl rfl (ox_move (pl rfl)) ?_
        refine vcS_val rfl rfl (ox_assign (pl rfl)) ?_
        refine vcS_nil ?_
        refine IW.ret ?_
        have hs0 : s ≠ 0 := by intro e; rw [e] at hs3; rw [← hs3] at h0; exact h0 rfl
        rw [concE_pos h0]; exact RetP.new1 (.inr rfl) ((ires_tmp rfl).trans (by rw [show capC ls s = ls.flatten.length by unfold capC; rw [if_neg hs0, hs3], hs3]; rfl)) (by omega) ((hp_eq _ _ _ _).trans (by rw [show celC zDig ls s = cels ls.flatten by unfold celC; rw [if_neg hs0, hs3]])) (dig_plain _)
end Go.Proofs.Ytdnnojblneccdaa
