import Derived.Test.YtdnnojblneccdaaJD
import Derived.Test.YtdnnojblneccdaaJF
/-
  What a conversion of any slice sees; bytes as numbers.
-/
namespace Go.Proofs.Ytdnnojblneccdaa
set_option linter.unusedSimpArgs false
set_option linter.unusedVariables false
open Go
open Enc (enc)

section
variable {e : Operand → Value}
theorem si_convV {s t : TypeId} {x : Operand} {v : Value} (ha : e x = v) : seesIds e (.convert s t x) = blk v := by simp only [seesIds, ha]
theorem vi_convV {s t : TypeId} {x : Operand} {v : Value} {news : List Nat} (ha : e x = v) : visOf e (.convert s t x) news = .ids (blk v) := by
  simp only [visOf, isCall, si_convV ha]; rfl
theorem vi_conv1 {s t : TypeId} {x : Operand} {id off len cap : Nat} {sp : Option Nat} {news : List Nat} (ha : e x = .slice (some ⟨id, off, sp⟩) len cap) : visOf e (.convert s t x) news = .ids [id] := by
  rw [vi_convV ha]; rfl
theorem hfL {ids : List Nat} {n n0 : Nat} (h : ∀ id ∈ ids, id < n) : ∀ j, n ≤ j → n0 ≤ j → Vis.clear n0 (.ids ids) j := fun j h1 _ hm => by
  have := h j hm; omega
theorem qnL {ids : List Nat} {m n n0 : Nat} {x : Option IObj} (h : ∀ id ∈ ids, id < n) (hm : n ≤ m) : ∀ p ∈ ([(m, x)] : Ups), Vis.clear n0 (.ids ids) p.1 := fun p hp => by
  simp only [List.mem_singleton] at hp
  subst hp
  intro hi
  have := h _ hi; omega
theorem cnL {ids : List Nat} {m n n0 : Nat} (h : ∀ id ∈ ids, id < n) (hm : n ≤ m) : Vis.clear n0 (.ids ids) m := fun hi => by
  have := h _ hi; omega
theorem blk_lt {n m : Nat} {ids : List Nat} (h : ∀ id ∈ ids, id < n) (hm : n ≤ m) : ∀ id ∈ ids, id < m := fun id hi => Nat.lt_of_lt_of_le (h id hi) hm
end
/-- what a slice spans lies below the free numbers -/
theorem IW.blk {α : Type} [Row α] {P : Program} {W : Nat → Prop} {R : Option Nat} {cs : List Code} {Q : PostX} {t : List Value} {H : IHeap} {n : Nat} {x : Value} {l : List α} (hne : cs ≠ []) (hx : rdC H x = some l)
    (h : (∀ id ∈ blk x, id < n) → IW P W R cs Q t H n) : IW P W R cs Q t H n := by
  refine IW.ltC hne hx fun hl => h fun id hi => ?_
  obtain ⟨a, cap, rfl⟩ := rdC_len hx
  cases a with
  | none => cases hi
  | some a =>
    obtain ⟨b, off, sp⟩ := a
    simp only [Ytdnnojblneccdaa.blk, List.mem_singleton] at hi
    subst hi
    exact hl _ _ _ _ _ rfl
theorem cv_8_i {Γ : Fns} {D : Ty} {K : Kinds} {e : Operand → Value} {H : IHeap} {n : Nat} {s t : TypeId} {x : Operand} {ds dd : TD} {a : UInt8} (hx : e x = enc a) (hs : D s = some ds) (hd : D t = some dd) (hk : dd.k = .int .i64) : iopC Γ D K e H n (.convert s t x) = some ⟨.int .i64 (a.toNat : Int), [], n⟩ := by
  rw [ox_conv (k' := .u8) (a := (a.toNat : Int)) hx hs hd hk]
  have := a.toNat_lt
  rw [wrap_i64 (by omega) (by omega)]
end Go.Proofs.Ytdnnojblneccdaa
/-
  Plain law: what padded bytes look like; different bytes are padded differently.
-/
namespace Go.Proofs.Ytdnnojblneccdaa
set_option linter.unusedSimpArgs false
set_option linter.unusedVariables false
open Go
open Enc (enc)
set_option maxRecDepth 100000

/-- four bytes, the high one first -/
def be4 (m : Nat) : List UInt8 := [UInt8.ofNat (m / 16777216), UInt8.ofNat (m / 65536), UInt8.ofNat (m / 256), UInt8.ofNat m]
theorem shr_u8 {m k : Nat} (hm : m < 2 ^ 64) (hk : k ≤ 64) : (shr64 (UInt64.ofNat m) k).toUInt8 = UInt8.ofNat (m / 2 ^ k) := by
  rw [← UInt8.toNat_inj, UInt64.toNat_toUInt8, shr64_val _ _ hk, UInt64.toNat_ofNat', UInt8.toNat_ofNat', Nat.mod_eq_of_lt hm]
theorem be8_small {m : Nat} (h : m < 4294967296) : be8 (UInt64.ofNat m) = List.replicate 4 0 ++ be4 m := by
  have h64 : m < 2 ^ 64 := by omega
  have e : be8 (UInt64.ofNat m) = [(shr64 (UInt64.ofNat m) 56).toUInt8, (shr64 (UInt64.ofNat m) 48).toUInt8, (shr64 (UInt64.ofNat m) 40).toUInt8, (shr64 (UInt64.ofNat m) 32).toUInt8, (shr64 (UInt64.ofNat m) 24).toUInt8, (shr64 (UInt64.ofNat m) 16).toUInt8, (shr64 (UInt64.ofNat m) 8).toUInt8, (shr64 (UInt64.ofNat m) 0).toUInt8] := rfl
  rw [e, shr_u8 h64 (by decide), shr_u8 h64 (by decide), shr_u8 h64 (by decide), shr_u8 h64 (by decide), shr_u8 h64 (by decide), shr_u8 h64 (by decide), shr_u8 h64 (by decide), shr_u8 h64 (by decide)]
  rw [show m / 2 ^ 56 = 0 by omega, show m / 2 ^ 48 = 0 by omega, show m / 2 ^ 40 = 0 by omega, show m / 2 ^ 32 = 0 by omega, show m / 2 ^ 0 = m by omega]
  rfl
theorem mulHi8 {k : Nat} (h : k < 2 ^ 61) : mulHi (UInt64.ofNat k) 8 = 0 := by
  rw [← UInt64.toNat_inj, mulHi_val, UInt64.toNat_ofNat']
  show k % 2 ^ 64 * 8 / 2 ^ 64 = 0
  omega
theorem ofNat_mul8 (k : Nat) : UInt64.ofNat k * 8 = UInt64.ofNat (8 * k) := by
  rw [← UInt64.toNat_inj, UInt64.toNat_mul, UInt64.toNat_ofNat', UInt64.toNat_ofNat']
  show k % 2 ^ 64 * 8 % 2 ^ 64 = _
  omega
theorem padL_form {b : List UInt8} (h : b.length ≤ 2000) : padL b = b ++ ([128] ++ (List.replicate (padN b.length - 5 - b.length) 0 ++ be4 (8 * b.length))) := by
  have hp := padN_ge b.length
  have e8 : be8 0 = List.replicate 8 0 := by decide +kernel
  unfold padL
  rw [mulHi8 (by omega), ofNat_mul8, be8_small (by omega), e8]
  congr 2
  rw [← List.append_assoc, ← List.append_assoc, List.replicate_append_replicate, List.replicate_append_replicate]
  congr 2
  omega
/-- the number that the first j of the last four bytes tell -/
def nb (p : List UInt8) : Nat → Nat
  | 0 => 0
  | j + 1 => nb p j * 256 + (p.getD (p.length - 4 + j) 0).toNat
theorem nb_lt (p : List UInt8) : ∀ j, nb p j < 256 ^ j
  | 0 => by simp [nb]
  | j + 1 => by
    have := nb_lt p j
    have hb := (p.getD (p.length - 4 + j) 0).toNat_lt
    rw [nb, Nat.pow_succ]; omega
theorem nb_small {p : List UInt8} {j : Nat} (h : j < 4) : nb p j < 16777216 :=
  Nat.lt_of_lt_of_le (nb_lt p j) (Nat.pow_le_pow_right (n := 256) (by decide) (show j ≤ 3 by omega))
theorem getD_app {l r : List UInt8} {i k : Nat} (h : i = l.length + k) : (l ++ r).getD i 0 = r.getD k 0 := by
  subst h
  rw [List.getD_eq_getElem?_getD, List.getD_eq_getElem?_getD, List.getElem?_append_right (by omega), Nat.add_sub_cancel_left]
theorem pad_last {b : List UInt8} (h : b.length ≤ 2000) {k : Nat} (hk : k < 4) : (padL b).getD ((padL b).length - 4 + k) 0 = (be4 (8 * b.length)).getD k 0 := by
  have hp := padN_ge b.length
  rw [padL_length, padL_form h]
  rw [getD_app (k := padN b.length - 4 + k - b.length) (by omega), getD_app (k := padN b.length - 5 + k - b.length) (by simp; omega), getD_app (k := k) (by simp; omega)]
theorem pad_num {b : List UInt8} (h : b.length ≤ 2000) : nb (padL b) 4 = 8 * b.length := by
  simp only [nb]
  rw [pad_last h (by decide), pad_last h (by decide), pad_last h (by decide), pad_last h (by decide)]
  simp only [be4, List.getD_cons_zero, List.getD_cons_succ, UInt8.toNat_ofNat']
  omega
theorem pad_take (b : List UInt8) : (padL b).take b.length = b := by unfold padL; simp
theorem pad_128 (b : List UInt8) : (padL b).getD b.length 0 = 128 := by
  unfold padL
  rw [getD_app (l := b) (i := b.length) (k := 0) rfl]; rfl
theorem pad_zero {b : List UInt8} (h : b.length ≤ 2000) {i : Nat} (h1 : b.length + 1 ≤ i) (h2 : i < padN b.length - 4) : (padL b).getD i 0 = 0 := by
  have hp := padN_ge b.length
  rw [padL_form h, getD_app (k := i - b.length) (by omega), getD_app (k := i - b.length - 1) (by simp; omega)]
  rw [List.getD_eq_getElem?_getD, List.getElem?_append_left (by simp; omega), List.getElem?_replicate]
  split <;> rfl
theorem pad_inj {a b : List UInt8} (ha : a.length ≤ 2000) (hb : b.length ≤ 2000) : (padL a == padL b) = (a == b) := by
  by_cases e : a = b
  · subst e; simp
  · have : padL a ≠ padL b := fun h => by
      have h1 := pad_num ha
      have h2 := pad_num hb
      rw [h, h2] at h1
      have h3 : a.length = b.length := by omega
      have h4 := pad_take a
      rw [h, h3, pad_take b] at h4
      exact e h4.symm
    rw [beq_eq_false_iff_ne.2 this, beq_eq_false_iff_ne.2 e]
theorem bool_ne_self (a : Bool) : (a != a) = false := by cases a <;> rfl
theorem pads1 {a b : List UInt8} (ha : a.length ≤ 2000) (hb : b.length ≤ 2000) :
    ((((((padL a == padL b) != (a == b)) || (((padN a.length % 128 : Nat) : Int) != 112 - 112)) || decide ((padN a.length : Int) - (a.length : Int) < 17)) || decide ((144 : Int) < (padN a.length : Int) - (a.length : Int))) || !((padL a).take a.length == a) || ((padL a).getD a.length 0 != 128)) = false := by
  have hp := padN_ge a.length
  rw [pad_inj ha hb, bool_ne_self, pad_take, pad_128]
  have h1 : padN a.length % 128 = 0 := by unfold padN; omega
  have h2 : decide ((padN a.length : Int) - (a.length : Int) < 17) = false := decide_eq_false (by omega)
  have h3 : decide ((144 : Int) < (padN a.length : Int) - (a.length : Int)) = false := decide_eq_false (by omega)
  rw [h1, h2, h3]
  simp
theorem nb_step (p : List UInt8) (j : Nat) : ((nb p j : Nat) : Int) * 256 + ((p.getD (p.length - 4 + j) 0).toNat : Int) = ((nb p (j + 1) : Nat) : Int) := by
  rw [nb]; push_cast; rfl
end Go.Proofs.Ytdnnojblneccdaa
/-
  headwaterlaw02.ShaPads.
-/
namespace Go.Proofs.Ytdnnojblneccdaa
set_option linter.unusedSimpArgs false
set_option linter.unusedVariables false
open Go
open Enc (enc)
set_option maxRecDepth 100000

theorem own_ev {x : Value} {H : IHeap} {n : Nat} {l : List UInt8} (hl : rdC H x = some l) (hle : l.length ≤ 2 ^ 47) : F36 [x] H n = some ⟨freshV 1 n l.length, [(n, some (.cells (encs l) false))], n + 1⟩ := by
  have := copyF_ev (bytes := 1) (n := n) hl (by simp only [most]; omega)
  show copyF UInt8 1 [x] H n = _
  rw [this, freshE, cels_u8]; rfl
theorem fresh_rd {H : IHeap} {n : Nat} {l : List UInt8} {ro : Bool} (hH : H n = some (.cells (encs l) ro)) : rdC H (freshV 1 n l.length) = some l := by
  unfold freshV
  split
  · rename_i h0
    have : l = [] := List.length_eq_zero_iff.1 h0
    subst this
    exact rdC_1all hH rfl
  · exact rdC_1all hH rfl
noncomputable def F8 : FnI := fun args H n => match args with
  | [x, y] => (rdC H x).bind fun (_ : List UInt8) => (rdC H y).bind fun (_ : List UInt8) => some ⟨.bool true, [], n⟩
  | _ => none
theorem F8_inv {args : List Value} {H : IHeap} {n : Nat} {e : Eff} (h : F8 args H n = some e) : ∃ xa xc ya yc, ∃ a b : List UInt8, args = [.slice xa a.length xc, .slice ya b.length yc] ∧ rdC H (.slice xa a.length xc) = some a ∧ rdC H (.slice ya b.length yc) = some b ∧ e = ⟨.bool true, [], n⟩ := by
  unfold F8 at h; split at h
  · simp only [Option.bind_eq_some_iff] at h
    obtain ⟨a, ha, b, hb, h⟩ := h
    cases h
    obtain ⟨xa, xc, rfl⟩ := rdC_len ha
    obtain ⟨ya, yc, rfl⟩ := rdC_len hb
    exact ⟨xa, xc, ya, yc, a, b, rfl, ha, hb, rfl⟩
  · cases h
theorem F8_ev {x y : Value} {H : IHeap} {n : Nat} {a b : List UInt8} (ha : rdC H x = some a) (hb : rdC H y = some b) : F8 [x, y] H n = some ⟨.bool true, [], n⟩ := by
  simp only [F8, ha, hb, Option.bind_some]
-- headwater/headwaterlaw02.ShaPads ['Sl', 'Sl'] -> ['Bool'], results [4]
theorem R8 : Ref Try.prog 8 F8 := by
  refine Ref.of_iw dok Try.func8 rfl (by kernel_rfl) fun args H n e hF => ?_
  obtain ⟨xa, xc, ya, yc, a, b, rfl, ha, hb, rfl⟩ := F8_inv hF
  have hpa := padN_ge a.length
  have hpb := padN_ge b.length
  have hla := padL_length a
  have hlb := padL_length b
  refine ⟨Nat.le_of_ble_eq_true rfl, ?_⟩
  simp only [idxL]
  have hE : Env Try.prog [(27, F27), (30, F30), (36, F36)] D K := env (fnsOk_cons R27 (fnsOk_cons R30 (fnsOk_cons R36 fnsOk_nil)))
  refine IW.seq ?_
  refine IW.blk (by simp) ha (fun hlta => ?_)
  refine IW.blk (by simp) hb (fun hltb => ?_)
  refine IW.free (by simp) (fun hfree => ?_)
  refine IW.reg hE ?_
  refine vcS_val rfl rfl (ox_assign (pl rfl)) ?_
  refine vcS_nil ?_
  refine IW.seq ?_
  refine IW.seq ?_
  refine IW.reg hE ?_
  refine vcS_val rfl rfl (ox_fn rfl rfl (fn0_ev _ _ _)) ?_
  refine vcS_val rfl rfl (ox_un (pl rfl) (uo_not _)) ?_
  refine vcS_nil ?_
  refine IW.cond rfl (fun hc1 => ?_) (fun hc1 => ?_)
  · cases hc1
  · refine IW.skip ?_
    refine IW.seq ?_
    refine IW.seq ?_
    refine IW.reg hE ?_
    refine vcS_val rfl rfl (ox_move (pl rfl)) ?_
    refine vcS_val rfl rfl (ox_len (pl rfl) D_35 rfl) ?_
    refine vcS_val rfl rfl (ox_bin (pl rfl) (pl rfl) (bo_i64_gtr _ _)) ?_
    refine vcS_val rfl rfl (ox_move (pl rfl)) ?_
    refine vcS_opt rfl (wgF rfl rfl rfl) (fun hb => ox_move (pl rfl)) ?_
    refine vcS_opt rfl (wgF rfl rfl rfl) (fun hb => ox_len (gd hb rfl) D_35 rfl) ?_
    refine vcS_opt rfl (wgF rfl rfl rfl) (fun hb => ox_bin (gd hb rfl) (pl rfl) (bo_i64_gtr _ _)) ?_
    refine vcS_val rfl rfl (ox_or (pl rfl) (pl rfl) (fun hc => gd (by rw [hc]; rfl) rfl)) ?_
    refine vcS_nil ?_
    refine IW.cond rfl (fun hc2 => ?_) (fun hc2 => ?_)
    · refine IW.seq ?_
      refine IW.reg hE ?_
      refine vcS_val rfl rfl (ox_assign (pl rfl)) ?_
      refine vcS_nil ?_
      refine IW.ret ?_
      exact RetP.ret (.inr rfl) rfl rfl trivial (rfl)
    · obtain ⟨ha2, hb2⟩ : a.length ≤ 2000 ∧ b.length ≤ 2000 := by simp only [Bool.or_eq_false_iff, decide_eq_false_iff_not] at hc2; omega
      refine IW.skip ?_
      refine IW.seq ?_
      refine IW.reg hE ?_
      refine vcS_val rfl rfl (ox_move (pl rfl)) ?_
      refine vcS_ups rfl rfl (ox_fn rfl rfl (own_ev (rdC_keep hfree ha (by exact trivial)) (by omega))) rfl ⟨.inl (by omega), trivial⟩ ?_
      refine vcS_ups rfl rfl (ox_fn rfl rfl (F30_ev (fresh_rd (hp_eq _ _ _ _)) (by omega))) rfl ⟨.inl (by omega), trivial⟩ ?_
      refine vcS_val rfl rfl (ox_move (pl rfl)) ?_
      refine vcS_ups rfl rfl (ox_fn rfl rfl (own_ev (rdC_keep hfree hb (by exact ⟨by omega, ⟨by omega, trivial⟩⟩)) (by omega))) rfl ⟨.inl (by omega), trivial⟩ ?_
      refine vcS_ups rfl rfl (ox_fn rfl rfl (F30_ev (fresh_rd (hp_eq _ _ _ _)) (by omega))) rfl ⟨.inl (by omega), trivial⟩ ?_
      refine vcS_val rfl rfl (ox_assign (pl rfl)) ?_
      refine vcS_val rfl rfl (ox_assign (pl rfl)) ?_
      refine vcS_nil ?_
      refine IW.seq ?_
      refine IW.seq ?_
      refine IW.drw hE mixed [[],[0],[],[2],[0,1,2,3],[],[5],[],[7],[5,6,7,8],[0,1,2,3,4,5,6,7,8,9],[0,1,2,3,4,5,6,7,8,9,10],[0,1,2,3,4,5,6,7,8,9,10,11],[0,1,2,3,4,5,6,7,8,9,10,11,12],[0,1,2,3,4,5,6,7,8,9,10,11,12,13],[0,1,2,3,4,5,6,7,8,9,10,11,12,13,14],[0,1,2,3,4,5,6,7,8,9,10,11,12,13,14,15],[0,1,2,3,4,5,6,7,8,9,10,11,12,13,14,15,16],[0,1,2,3,4,5,6,7,8,9,10,11,12,13,14,15,16,17],[0,1,2,3,4,5,6,7,8,9,10,11,12,13,14,15,16,17,18],[0,1,2,3,4,5,6,7,8,9,10,11,12,13,14,15,16,17],[0,1,2,3,4,5,6,7,8,9,10,11,12,13,14,15,16,17,20],[0,1,2,3,4,5,6,7,8,9,10,11,12,13,14,15,16,17,18,19,20,21],[0,1,2,3,4,5,6,7,8,9,10,11,12,13,14,15,16,17,18,19,20,21,22],[0,1,2,3,4,5,6,7,8,9,10,11,12,13,14,15,16,17,18,19,20,21,22,23],[0,1,2,3,4,5,6,7,8,9,10,11,12,13,14,15,16,17,18,19,20,21,22,23,24],[0,1,2,3,4,5,6,7,8,9,10,11,12,13,14,15,16,17,18,19,20,21,22,23,24,25],[0,1,2,3,4,5,6,7,8,9,10,11,12,13,14,15,16,17,18,19,20,21,22,23,24,25,26],[0,1,2,3,4,5,6,7,8,9,10,11,12,13,14,15,16,17,18,19,20,21,22,23,24,25],[0,1,2,3,4,5,6,7,8,9,10,11,12,13,14,15,16,17,18,19,20,21,22,23,24,25,28],[0,1,2,3,4,5,6,7,8,9,10,11,12,13,14,15,16,17,18,19,20,21,22,23,24,25,26,27,28,29],[0,1,2,3,4,5,6,7,8,9,10,11,12,13,14,15,16,17,18,19,20,21,22,23,24,25,26,27,28,29,30],[0,1,2,3,4,5,6,7,8,9,10,11,12,13,14,15,16,17,18,19,20,21,22,23,24,25,26,27,28,29,30,31],[0,1,2,3,4,5,6,7,8,9,10,11,12,13,14,15,16,17,18,19,20,21,22,23,24,25,26,27,28,29,30,31,32],[0,1,2,3,4,5,6,7,8,9,10,11,12,13,14,15,16,17,18,19,20,21,22,23,24,25,26,27,28,29,30,31,32,33],[0,1,2,3,4,5,6,7,8,9,10,11,12,13,14,15,16,17,18,19,20,21,22,23,24,25,26,27,28,29,30,31,32,33],[0,1,2,3,4,5,6,7,8,9,10,11,12,13,14,15,16,17,18,19,20,21,22,23,24,25,26,27,28,29,30,31,32,33,35],[0,1,2,3,4,5,6,7,8,9,10,11,12,13,14,15,16,17,18,19,20,21,22,23,24,25,26,27,28,29,30,31,32,33,34,35,36],[0,1,2,3,4,5,6,7,8,9,10,11,12,13,14,15,16,17,18,19,20,21,22,23,24,25,26,27,28,29,30,31,32,33,34,35,36,37],[0,1,2,3,4,5,6,7,8,9,10,11,12,13,14,15,16,17,18,19,20,21,22,23,24,25,26,27,28,29,30,31,32,33],[0,1,2,3,4,5,6,7,8,9,10,11,12,13,14,15,16,17,18,19,20,21,22,23,24,25,26,27,28,29,30,31,32,33,39],[0,1,2,3,4,5,6,7,8,9,10,11,12,13,14,15,16,17,18,19,20,21,22,23,24,25,26,27,28,29,30,31,32,33,34,35,36,37,38,39,40],[0,1,2,3,4,5,6,7,8,9,10,11,12,13,14,15,16,17,18,19,20,21,22,23,24,25,26,27,28,29,30,31,32,33,34,35,36,37,38,39,40,41],[0,1,2,3,4,5,6,7,8,9,10,11,12,13,14,15,16,17,18,19,20,21,22,23,24,25,26,27,28,29,30,31,32,33,34,35,36,37,38,39,40,41,42],[0,1,2,3,4,5,6,7,8,9,10,11,12,13,14,15,16,17,18,19,20,21,22,23,24,25,26,27,28,29,30,31,32,33,34,35,36,37,38,39,40,41,42,43],[0,1,2,3,4,5,6,7,8,9,10,11,12,13,14,15,16,17,18,19,20,21,22,23,24,25,26,27,28,29,30,31,32,33,34,35,36,37,38,39,40,41,42,43],[0,1,2,3,4,5,6,7,8,9,10,11,12,13,14,15,16,17,18,19,20,21,22,23,24,25,26,27,28,29,30,31,32,33,34,35,36,37,38,39,40,41,42,43,45],[0,1,2,3,4,5,6,7,8,9,10,11,12,13,14,15,16,17,18,19,20,21,22,23,24,25,26,27,28,29,30,31,32,33,34,35,36,37,38,39,40,41,42,43,44,45,46],[0,1,2,3,4,5,6,7,8,9,10,11,12,13,14,15,16,17,18,19,20,21,22,23,24,25,26,27,28,29,30,31,32,33,34,35,36,37,38,39,40,41,42,43,44,45,46,47],[0,1,2,3,4,5,6,7,8,9,10,11,12,13,14,15,16,17,18,19,20,21,22,23,24,25,26,27,28,29,30,31,32,33,34,35,36,37,38,39,40,41,42,43,44,45,46,47,48],[0,1,2,3,4,5,6,7,8,9,10,11,12,13,14,15,16,17,18,19,20,21,22,23,24,25,26,27,28,29,30,31,32,33,34,35,36,37,38,39,40,41,42,43,44,45,46,47,48,49]] (by kernel_rfl) (vcE_start ?_)
      refine vcE_bl rfl rfl (fun _ => ox_move (pl rfl)) rfl rfl ?_
      refine vcE_val rfl rfl rfl rfl (ox_cvS (pl rfl) D_35 rfl D_5 rfl D_9 rfl (rdC_1all (hp_sk (by omega) (hp_sk (by omega) (hp_eq _ _ _ _))) (padL_length _))) rfl (si_conv (pl rfl)) (lt1 (by omega)) (trivial) ?_
      refine vcE_bl rfl rfl (fun _ => ox_move (pl rfl)) rfl rfl ?_
      refine vcE_val rfl rfl rfl rfl (ox_cvS (pl rfl) D_35 rfl D_5 rfl D_9 rfl (rdC_1all (hp_eq _ _ _ _) (padL_length _))) rfl (si_conv (pl rfl)) (lt1 (by omega)) (trivial) ?_
      refine vcE_bl rfl rfl (fun _ => ox_bin (pl rfl) (pl rfl) (bo_str_eql _ _)) rfl rfl ?_
      refine vcE_bl rfl rfl (fun _ => ox_move (pl rfl)) rfl rfl ?_
      refine vcE_val rfl rfl rfl rfl (ox_cvS (pl rfl) D_35 rfl D_5 rfl D_9 rfl (rdC_keep hfree ha (by exact ⟨by omega, ⟨by omega, ⟨by omega, ⟨by omega, trivial⟩⟩⟩⟩))) rfl (si_convV (pl rfl)) (blk_lt hlta (by omega)) (trivial) ?_
      refine vcE_bl rfl rfl (fun _ => ox_move (pl rfl)) rfl rfl ?_
      refine vcE_val rfl rfl rfl rfl (ox_cvS (pl rfl) D_35 rfl D_5 rfl D_9 rfl (rdC_keep hfree hb (by exact ⟨by omega, ⟨by omega, ⟨by omega, ⟨by omega, trivial⟩⟩⟩⟩))) rfl (si_convV (pl rfl)) (blk_lt hltb (by omega)) (trivial) ?_
      refine vcE_bl rfl rfl (fun _ => ox_bin (pl rfl) (pl rfl) (bo_str_eql _ _)) rfl rfl ?_
      refine vcE_bl rfl rfl (fun _ => ox_bin (pl rfl) (pl rfl) (bo_bool_neq D_4 rfl _ _)) rfl rfl ?_
      refine vcE_bl rfl rfl (fun _ => ox_move (pl rfl)) rfl rfl ?_
      refine vcE_opt rfl (wgF rfl rfl rfl) rfl rfl (fun hb => ox_move (pl rfl)) (fun hb => vi_bl rfl rfl) hf0 (trivial) ?_
      refine vcE_opt rfl (wgF rfl rfl rfl) rfl rfl (fun hb => ox_len (gd hb rfl) D_35 rfl) (fun hb => vi_len (gd hb rfl)) hf0 (trivial) ?_
      refine vcE_opt rfl (wgF rfl rfl rfl) rfl rfl (fun hb => ox_bin (gd hb rfl) (pl rfl) (bo_i64_rem (padN a.length) 128 rfl rfl (by decide))) (fun hb => vi_bl rfl rfl) hf0 (trivial) ?_
      refine vcE_opt rfl (wgF rfl rfl rfl) rfl rfl (fun hb => ox_bin (gd hb rfl) (pl rfl) (bo_i64_neq _ _)) (fun hb => vi_bl rfl rfl) hf0 (trivial) ?_
      refine vcE_bl rfl rfl (fun _ => ox_or (pl rfl) (pl rfl) (fun hc => gd (by rw [hc]; rfl) rfl)) rfl rfl ?_
      refine vcE_bl rfl rfl (fun _ => ox_move (pl rfl)) rfl rfl ?_
      refine vcE_opt rfl (wgF rfl rfl rfl) rfl rfl (fun hb => ox_move (pl rfl)) (fun hb => vi_bl rfl rfl) hf0 (trivial) ?_
      refine vcE_opt rfl (wgF rfl rfl rfl) rfl rfl (fun hb => ox_len (gd hb rfl) D_35 rfl) (fun hb => vi_len (gd hb rfl)) hf0 (trivial) ?_
      refine vcE_opt rfl (wgF rfl rfl rfl) rfl rfl (fun hb => ox_move (pl rfl)) (fun hb => vi_bl rfl rfl) hf0 (trivial) ?_
      refine vcE_opt rfl (wgF rfl rfl rfl) rfl rfl (fun hb => ox_len (gd hb rfl) D_35 rfl) (fun hb => vi_len (gd hb rfl)) hf0 (trivial) ?_
      refine vcE_opt rfl (wgF rfl rfl rfl) rfl rfl (fun hb => ox_bin (gd hb rfl) (gd hb rfl) (bo_i64_sub (by omega))) (fun hb => vi_bl rfl rfl) hf0 (trivial) ?_
      refine vcE_opt rfl (wgF rfl rfl rfl) rfl rfl (fun hb => ox_bin (gd hb rfl) (pl rfl) (bo_i64_lss _ _)) (fun hb => vi_bl rfl rfl) hf0 (trivial) ?_
      refine vcE_bl rfl rfl (fun _ => ox_or (pl rfl) (pl rfl) (fun hc => gd (by rw [hc]; rfl) rfl)) rfl rfl ?_
      refine vcE_bl rfl rfl (fun _ => ox_move (pl rfl)) rfl rfl ?_
      refine vcE_opt rfl (wgF rfl rfl rfl) rfl rfl (fun hb => ox_move (pl rfl)) (fun hb => vi_bl rfl rfl) hf0 (trivial) ?_
      refine vcE_opt rfl (wgF rfl rfl rfl) rfl rfl (fun hb => ox_len (gd hb rfl) D_35 rfl) (fun hb => vi_len (gd hb rfl)) hf0 (trivial) ?_
      refine vcE_opt rfl (wgF rfl rfl rfl) rfl rfl (fun hb => ox_move (pl rfl)) (fun hb => vi_bl rfl rfl) hf0 (trivial) ?_
      refine vcE_opt rfl (wgF rfl rfl rfl) rfl rfl (fun hb => ox_len (gd hb rfl) D_35 rfl) (fun hb => vi_len (gd hb rfl)) hf0 (trivial) ?_
      refine vcE_opt rfl (wgF rfl rfl rfl) rfl rfl (fun hb => ox_bin (gd hb rfl) (gd hb rfl) (bo_i64_sub (by omega))) (fun hb => vi_bl rfl rfl) hf0 (trivial) ?_
      refine vcE_opt rfl (wgF rfl rfl rfl) rfl rfl (fun hb => ox_bin (gd hb rfl) (pl rfl) (bo_i64_gtr _ _)) (fun hb => vi_bl rfl rfl) hf0 (trivial) ?_
      refine vcE_bl rfl rfl (fun _ => ox_or (pl rfl) (pl rfl) (fun hc => gd (by rw [hc]; rfl) rfl)) rfl rfl ?_
      refine vcE_bl rfl rfl (fun _ => ox_move (pl rfl)) rfl rfl ?_
      refine vcE_opt rfl (wgF rfl rfl rfl) rfl rfl (fun hb => ox_move (pl rfl)) (fun hb => vi_bl rfl rfl) hf0 (trivial) ?_
      refine vcE_opt rfl (wgF rfl rfl rfl) rfl rfl (fun hb => ox_move (pl rfl)) (fun hb => vi_bl rfl rfl) hf0 (trivial) ?_
      refine vcE_opt rfl (wgF rfl rfl rfl) rfl rfl (fun hb => ox_len (gd hb rfl) D_35 rfl) (fun hb => vi_len (gd hb rfl)) hf0 (trivial) ?_
      refine vcE_opt rfl (wgF rfl rfl rfl) rfl rfl (fun hb => ox_slH (gd hb rfl) D_35 rfl D_5 (bndI (gd hb rfl) rfl) (by omega) (.inl rfl)) (fun hb => vi_bl rfl rfl) hf0 (trivial) ?_
      refine vcE_opt rfl (wgF rfl rfl rfl) rfl rfl (fun hb => ox_cvS (gd hb rfl) D_35 rfl D_5 rfl D_9 rfl (rdC_sl0 (rdC_1all (hp_sk (by omega) (hp_sk (by omega) (hp_eq _ _ _ _))) (padL_length _)) (by omega))) (fun hb => vi_conv1 (gd hb rfl)) (hf1 (by omega)) (trivial) ?_
      refine vcE_opt rfl (wgF rfl rfl rfl) rfl rfl (fun hb => ox_move (pl rfl)) (fun hb => vi_bl rfl rfl) hf0 (trivial) ?_
      refine vcE_opt rfl (wgF rfl rfl rfl) rfl rfl (fun hb => ox_cvS (gd hb rfl) D_35 rfl D_5 rfl D_9 rfl (rdC_keep hfree ha (by exact ⟨by omega, ⟨by omega, ⟨by omega, ⟨by omega, trivial⟩⟩⟩⟩))) (fun hb => vi_convV (gd hb rfl)) (hfL (blk_lt hlta (by omega))) (trivial) ?_
      refine vcE_opt rfl (wgF rfl rfl rfl) rfl rfl (fun hb => ox_bin (gd hb rfl) (gd hb rfl) (bo_str_neq _ _)) (fun hb => vi_bl rfl rfl) hf0 (trivial) ?_
      refine vcE_bl rfl rfl (fun _ => ox_or (pl rfl) (pl rfl) (fun hc => gd (by rw [hc]; rfl) rfl)) rfl rfl ?_
      refine vcE_bl rfl rfl (fun _ => ox_move (pl rfl)) rfl rfl ?_
      refine vcE_opt rfl (wgF rfl rfl rfl) rfl rfl (fun hb => ox_move (pl rfl)) (fun hb => vi_bl rfl rfl) hf0 (trivial) ?_
      refine vcE_opt rfl (wgF rfl rfl rfl) rfl rfl (fun hb => ox_move (pl rfl)) (fun hb => vi_bl rfl rfl) hf0 (trivial) ?_
      refine vcE_opt rfl (wgF rfl rfl rfl) rfl rfl (fun hb => ox_len (gd hb rfl) D_35 rfl) (fun hb => vi_len (gd hb rfl)) hf0 (trivial) ?_
      refine vcE_opt rfl (wgF rfl rfl rfl) rfl rfl (fun hb => ox_iaS (gd hb rfl) (gd hb rfl) D_35 rfl D_5 (by omega) (by omega)) (fun hb => vi_bl rfl rfl) hf0 (trivial) ?_
      refine vcE_opt rfl (wgF rfl rfl rfl) rfl rfl (fun hb => ox_load (gd hb rfl) D_5 (hp_sk (by omega) (hp_sk (by omega) (hp_eq _ _ _ _))) (rd_ix (a.length) (0 : UInt8) rfl (by simp) ((show a.length < (padL a).length by omega)))) (fun hb => vi_load (gd hb rfl)) (hf1 (by omega)) (trivial) ?_
      refine vcE_opt rfl (wgF rfl rfl rfl) rfl rfl (fun hb => ox_bin (gd hb rfl) (pl (v := enc (128 : UInt8)) rfl) (bo_u8_neq _ _)) (fun hb => vi_bl rfl rfl) hf0 (trivial) ?_
      refine vcE_bl rfl rfl (fun _ => ox_or (pl rfl) (pl rfl) (fun hc => gd (by rw [hc]; rfl) rfl)) rfl rfl ?_
      refine vcE_nil ?_
      refine IW.cond rfl (fun hc3 => ?_) (fun hc3 => ?_)
      · exact nomatch (pads1 ha2 hb2).symm.trans hc3
      · refine IW.skip ?_
        refine IW.seq ?_
        refine IW.reg hE ?_
        refine vcS_val rfl rfl (ox_assign (pl rfl)) ?_
        refine vcS_nil ?_
        refine IW.seq ?_
        refine IW.seq ?_
        refine IW.reg hE ?_
        refine vcS_val rfl rfl (ox_move (pl rfl)) ?_
        refine vcS_val rfl rfl (ox_len (pl rfl) D_35 rfl) ?_
        refine vcS_val rfl rfl (ox_bin (pl rfl) (pl rfl) (bo_i64_sub (by omega))) ?_
        refine vcS_val rfl rfl (ox_assign (pl rfl)) ?_
        refine vcS_nil ?_
        refine IW.block ?_
        refine IW.loop (S := Nat) (fun s => [(0, .slice xa a.length xc), (5, .slice (some ⟨n + 1, 0, none⟩) (padN a.length) (padN a.length)), (7, .int .i64 (nb (padL a) s)), (8, .int .i64 ((padN a.length : Int) - 4 + s))]) (fun s => [(n + 1, some (.cells (encs (padL a)) false))]) (fun s => n + 1 + 1 + 1 + 1) (fun s => s ≤ 4) (fun s => 4 - s) (0) (by simp) (⟨rfl, ⟨rfl, ⟨rfl, ⟨(congrArg (fun z => some (Value.int .i64 z)) (by omega)), trivial⟩⟩⟩⟩) (leX_le (leX_same (hp_sk (by omega) (hp_sk (by omega) (hp_eq _ _ _ _))) rfl (leX_none hfree (by exact ⟨by omega, ⟨by omega, ⟨by omega, ⟨by omega, trivial⟩⟩⟩⟩)))) (Nat.le_refl _) (fun s hs => ?_)
        refine IW.seq ?_
        refine IW.seq ?_
        refine IW.reg hE ?_
        refine vcS_val rfl rfl (ox_move (pl rfl)) ?_
        refine vcS_val rfl rfl (ox_move (pl rfl)) ?_
        refine vcS_val rfl rfl (ox_len (pl rfl) D_35 rfl) ?_
        refine vcS_val rfl rfl (ox_bin (pl rfl) (pl rfl) (bo_i64_lss _ _)) ?_
        refine vcS_nil ?_
        refine IW.cond rfl (fun hc4 => ?_) (fun hc4 => ?_)
        · replace hc4 := of_decide_eq_true hc4
          have hs4 : s < 4 := by omega
          have hnb := nb_small (p := padL a) hs4
          have hby := ((padL a).getD ((padL a).length - 4 + s) 0).toNat_lt
          refine IW.skip ?_
          refine IW.seq ?_
          refine IW.block ?_
          refine IW.reg hE ?_
          refine vcS_val rfl rfl (ox_move (pl rfl)) ?_
          refine vcS_val rfl rfl (ox_bin (pl rfl) (pl rfl) (bo_i64_mul (by omega))) ?_
          refine vcS_val rfl rfl (ox_move (pl rfl)) ?_
          refine vcS_val rfl rfl (ox_move (pl rfl)) ?_
          refine vcS_val rfl rfl (ox_iaS (pl rfl) (pl rfl) D_35 rfl D_5 (by omega) (by omega)) ?_
          refine vcS_val rfl rfl (ox_load (pl rfl) D_5 (hp_eq _ _ _ _) (rd_ix ((padL a).length - 4 + s) (0 : UInt8) rfl (by show 0 + _ * 1 = _; omega) ((show (padL a).length - 4 + s < (padL a).length by omega)))) ?_
          refine vcS_val rfl rfl (cv_8_i (pl rfl) D_5 D_3 rfl) ?_
          refine vcS_val rfl rfl (ox_bin (pl rfl) (pl rfl) (bo_i64_add (by omega))) ?_
          refine vcS_val rfl rfl (ox_assign (pl rfl)) ?_
          refine vcS_nil ?_
          refine IW.nilB ?_
          refine IW.reg hE ?_
          refine vcS_val rfl rfl (ox_move (pl rfl)) ?_
          refine vcS_val rfl rfl (ox_bin (pl rfl) (pl rfl) (bo_i64_add (by omega))) ?_
          refine vcS_val rfl rfl (ox_assign (pl rfl)) ?_
          refine vcS_nil ?_
          refine IW.nilS ?_
          exact ⟨s + 1, _, _, by omega, by omega, rfl, ⟨rfl, ⟨rfl, ⟨(congrArg (fun z => some (Value.int .i64 z)) (nb_step _ _)), ⟨(congrArg (fun z => some (Value.int .i64 z)) (by omega)), trivial⟩⟩⟩⟩, rfl, fun _ _ h => h, Nat.le_refl _⟩
        · replace hc4 := of_decide_eq_false hc4
          have hs4 : s = 4 := by omega
          subst hs4
          refine IW.exit ?_
          refine exS (exS ?_)
          refine blkQ_exit ?_
          refine IW.seq ?_
          refine IW.seq ?_
          refine IW.reg hE ?_
          refine vcS_val rfl rfl (ox_move (pl rfl)) ?_
          refine vcS_val rfl rfl (ox_len (pl rfl) D_35 rfl) ?_
          refine vcS_val rfl rfl (ox_bin (pl rfl) (pl rfl) (bo_i64_add (by omega))) ?_
          refine vcS_val rfl rfl (ox_assign (pl rfl)) ?_
          refine vcS_nil ?_
          refine IW.block ?_
          refine IW.loop (S := Nat) (fun s => [(0, .slice xa a.length xc), (5, .slice (some ⟨n + 1, 0, none⟩) (padN a.length) (padN a.length)), (7, .int .i64 (nb (padL a) 4)), (9, .int .i64 ((a.length : Int) + 1 + s))]) (fun s => [(n + 1, some (.cells (encs (padL a)) false))]) (fun s => n + 1 + 1 + 1 + 1) (fun s => a.length + 1 + s ≤ padN a.length - 4) (fun s => padN a.length - s) (0) (by omega) (⟨rfl, ⟨rfl, ⟨rfl, ⟨(congrArg (fun z => some (Value.int .i64 z)) (by omega)), trivial⟩⟩⟩⟩) (fun _ _ h => h) (Nat.le_refl _) (fun s hs => ?_)
          refine IW.seq ?_
          refine IW.seq ?_
          refine IW.reg hE ?_
          refine vcS_val rfl rfl (ox_move (pl rfl)) ?_
          refine vcS_val rfl rfl (ox_move (pl rfl)) ?_
          refine vcS_val rfl rfl (ox_len (pl rfl) D_35 rfl) ?_
          refine vcS_val rfl rfl (ox_bin (pl rfl) (pl rfl) (bo_i64_sub (by omega))) ?_
          refine vcS_val rfl rfl (ox_bin (pl rfl) (pl rfl) (bo_i64_lss _ _)) ?_
          refine vcS_nil ?_
          refine IW.cond rfl (fun hc5 => ?_) (fun hc5 => ?_)
          · replace hc5 := of_decide_eq_true hc5
            refine IW.skip ?_
            refine IW.seq ?_
            refine IW.block ?_
            refine IW.seq ?_
            refine IW.reg hE ?_
            refine vcS_val rfl rfl (ox_move (pl rfl)) ?_
            refine vcS_val rfl rfl (ox_move (pl rfl)) ?_
            refine vcS_val rfl rfl (ox_iaS (pl rfl) (pl rfl) D_35 rfl D_5 (by omega) (by omega)) ?_
            refine vcS_val rfl rfl (ox_load (pl rfl) D_5 (hp_eq _ _ _ _) (rd_ix (a.length + 1 + s) (0 : UInt8) rfl (by show 0 + _ * 1 = _; omega) ((show a.length + 1 + s < (padL a).length by omega)))) ?_
            refine vcS_val rfl rfl (ox_bin (pl rfl) (pl (v := enc (0 : UInt8)) rfl) (bo_u8_neq _ _)) ?_
            refine vcS_nil ?_
            refine IW.cond rfl (fun hc6 => ?_) (fun hc6 => ?_)
            · exact absurd hc6 (by rw [pad_zero ha2 (by omega) (by omega)]; decide)
            · refine IW.skip ?_
              refine IW.nilB ?_
              refine IW.reg hE ?_
              refine vcS_val rfl rfl (ox_move (pl rfl)) ?_
              refine vcS_val rfl rfl (ox_bin (pl rfl) (pl rfl) (bo_i64_add (by omega))) ?_
              refine vcS_val rfl rfl (ox_assign (pl rfl)) ?_
              refine vcS_nil ?_
              refine IW.nilS ?_
              exact ⟨s + 1, _, _, by omega, by omega, rfl, ⟨rfl, ⟨rfl, ⟨rfl, ⟨(congrArg (fun z => some (Value.int .i64 z)) (by omega)), trivial⟩⟩⟩⟩, rfl, fun _ _ h => h, Nat.le_refl _⟩
          · replace hc5 := of_decide_eq_false hc5
            refine IW.exit ?_
            refine exS (exS ?_)
            refine blkQ_exit ?_
            refine IW.seq ?_
            refine IW.reg hE ?_
            refine vcS_val rfl rfl (ox_move (pl rfl)) ?_
            refine vcS_val rfl rfl (ox_move (pl rfl)) ?_
            refine vcS_val rfl rfl (ox_len (pl rfl) D_35 rfl) ?_
            refine vcS_val rfl rfl (ox_bin (pl rfl) (pl rfl) (bo_i64_mul (by omega))) ?_
            refine vcS_val rfl rfl (ox_bin (pl rfl) (pl rfl) (bo_i64_eql _ _)) ?_
            refine vcS_val rfl rfl (ox_assign (pl rfl)) ?_
            refine vcS_nil ?_
            refine IW.ret ?_
            exact RetP.ret (.inr rfl) rfl rfl trivial (by rw [pad_num ha2]; simp)
end Go.Proofs.Ytdnnojblneccdaa
