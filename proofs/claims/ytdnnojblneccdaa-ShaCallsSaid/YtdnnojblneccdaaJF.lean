import Derived.Test.YtdnnojblneccdaaJE
import Derived.Test.YtdnnojblneccdaaJD
import Derived.Test.YtdnnojblneccdaaRows
/-
  Numbers of many words: products.
-/
namespace Go.Proofs.Ytdnnojblneccdaa
set_option linter.unusedSimpArgs false
set_option linter.unusedVariables false
open Go
open Enc (enc)
set_option maxRecDepth 100000

/-- one row of the product: k words of b gone through -/
def tin (x : UInt64) (b out : List UInt64) (i : Nat) : Nat → List UInt64 × UInt64
  | 0 => (out, 0)
  | k + 1 =>
    let p := tin x b out i k
    let y := b.getD k 0
    let z := p.1.getD (i + k) 0
    (p.1.set (i + k) (z + (x * y + p.2 + 0) + 0), mulHi x y + carry (x * y) p.2 0 + carry z (x * y + p.2 + 0) 0)
def tout (a b : List UInt64) : Nat → List UInt64
  | 0 => List.replicate (a.length + b.length) 0
  | i + 1 => let p := tin (a.getD i 0) b (tout a b i) i b.length; p.1.set (i + b.length) p.2
def timesL (a b : List UInt64) : List UInt64 := tout a b a.length
theorem tin_length (x : UInt64) (b out : List UInt64) (i : Nat) : ∀ k, (tin x b out i k).1.length = out.length
  | 0 => rfl
  | k + 1 => by simp only [tin, List.length_set]; exact tin_length x b out i k
theorem tout_length (a b : List UInt64) : ∀ i, (tout a b i).length = a.length + b.length
  | 0 => by simp [tout]
  | i + 1 => by simp only [tout, List.length_set, tin_length]; exact tout_length a b i
theorem timesL_length (a b : List UInt64) : (timesL a b).length = a.length + b.length := tout_length a b _
noncomputable def F86 : FnI := fun args H n => match args with
  | [x, y] => (rdC H x).bind fun (a : List UInt64) => (rdC H y).bind fun (b : List UInt64) => if a.length + b.length ≤ 1000 then some ⟨.slice (some ⟨n, 0, none⟩) (a.length + b.length) (a.length + b.length), [(n, some (.cells (encs (timesL a b)) false))], n + 1⟩ else none
  | _ => none
theorem F86_inv {args : List Value} {H : IHeap} {n : Nat} {e : Eff} (h : F86 args H n = some e) : ∃ xa xc ya yc, ∃ a b : List UInt64, args = [.slice xa a.length xc, .slice ya b.length yc] ∧ rdC H (.slice xa a.length xc) = some a ∧ rdC H (.slice ya b.length yc) = some b ∧ a.length + b.length ≤ 1000 ∧ e = ⟨.slice (some ⟨n, 0, none⟩) (a.length + b.length) (a.length + b.length), [(n, some (.cells (encs (timesL a b)) false))], n + 1⟩ := by
  unfold F86 at h; split at h
  · simp only [Option.bind_eq_some_iff] at h
    obtain ⟨a, ha, b, hb, h⟩ := h
    split at h
    · rename_i hle
      cases h
      obtain ⟨xa, xc, rfl⟩ := rdC_len ha
      obtain ⟨ya, yc, rfl⟩ := rdC_len hb
      exact ⟨xa, xc, ya, yc, a, b, rfl, ha, hb, hle, rfl⟩
    · cases h
  · cases h
theorem F86_ev {x y : Value} {H : IHeap} {n k : Nat} {a b : List UInt64} (ha : rdC H x = some a) (hb : rdC H y = some b) (hk : a.length + b.length = k) (hle : k ≤ 1000) : F86 [x, y] H n = some ⟨.slice (some ⟨n, 0, none⟩) k k, [(n, some (.cells (encs (timesL a b)) false))], n + 1⟩ := by
  subst hk
  simp only [F86, ha, hb, Option.bind_some, if_pos hle]
-- (headwater/sha.limbs).times ['Sl', 'Sl'] -> ['Sl'], results [4]
theorem R86 : Ref Try.prog 86 F86 := by
  refine Ref.of_iw dok Try.func86 rfl (by kernel_rfl) fun args H n e hF => ?_
  obtain ⟨xa, xc, ya, yc, a, b, rfl, ha, hb, hle, rfl⟩ := F86_inv hF
  refine ⟨Nat.le_of_ble_eq_true rfl, ?_⟩
  simp only [idxL]
  have hE : Env Try.prog [(34, F34), (35, F35)] D K := env (fnsOk_cons R34 (fnsOk_cons R35 fnsOk_nil))
  refine IW.seq ?_
  refine IW.free (by simp) (fun hfree => ?_)
  refine IW.reg hE ?_
  refine vcS_val rfl rfl (ox_assign (pl rfl)) ?_
  refine vcS_nil ?_
  refine IW.seq ?_
  refine IW.reg hE ?_
  refine vcS_val rfl rfl (ox_move (pl rfl)) ?_
  refine vcS_val rfl rfl (ox_len (pl rfl) D_118 rfl) ?_
  refine vcS_val rfl rfl (ox_move (pl rfl)) ?_
  refine vcS_val rfl rfl (ox_len (pl rfl) D_118 rfl) ?_
  refine vcS_val rfl rfl (ox_bin (pl rfl) (pl rfl) (bo_i64_add (by omega))) ?_
  refine vcS_new rfl rfl (ox_makeN (a.length + b.length) (a.length + b.length) (0 : UInt64) (pl rfl) (by omega) (pl rfl) (by omega) D_118 rfl D_22 rfl (Nat.le_refl _) (by simp only [most]; omega) (by show 8 * _ ≤ _; omega)) (.inl (by omega)) ?_
  refine vcS_val rfl rfl (ox_assign (pl rfl)) ?_
  refine vcS_nil ?_
  refine IW.seq ?_
  refine IW.seq ?_
  refine IW.reg hE ?_
  refine vcS_val rfl rfl (ox_move (pl rfl)) ?_
  refine vcS_val rfl rfl (ox_len (pl rfl) D_118 rfl) ?_
  refine vcS_val rfl rfl (ox_move (pl rfl)) ?_
  refine vcS_nil ?_
  refine IW.block ?_
  refine IW.loop (S := Nat) (fun i => [(0, .slice xa a.length xc), (1, .slice ya b.length yc), (5, .slice (some ⟨n, 0, none⟩) (a.length + b.length) (a.length + b.length)), (20, .slice xa a.length xc), (21, .int .i64 a.length), (22, .int .i64 i)]) (fun i => [(n, some (.cells (encs (tout a b i)) false))]) (fun i => n + 1) (fun i => i ≤ a.length) (fun i => a.length - i) (0) (by simp) (⟨rfl, ⟨rfl, ⟨rfl, ⟨rfl, ⟨rfl, ⟨rfl, trivial⟩⟩⟩⟩⟩⟩) (fun _ _ h => h) (Nat.le_refl _) (fun i hi => ?_)
  refine IW.seq ?_
  refine IW.reg hE ?_
  refine vcS_val rfl rfl (ox_bin (pl rfl) (pl rfl) (bo_i64_lss _ _)) ?_
  refine vcS_nil ?_
  refine IW.seq ?_
  refine IW.cond rfl (fun hc1 => ?_) (fun hc1 => ?_)
  · replace hc1 := of_decide_eq_true hc1
    have hl := tout_length a b i
    refine IW.skip ?_
    refine IW.seq ?_
    refine IW.block ?_
    refine IW.seq ?_
    refine IW.reg hE ?_
    refine vcS_val rfl rfl (ox_move (pl rfl)) ?_
    refine vcS_val rfl rfl (ox_iaC (α := UInt64) (v := .slice xa a.length xc) (i) (pl rfl) (pl rfl) D_118 rfl D_22 rfl (rdC_keep hfree ha (by exact ⟨by omega, trivial⟩)) rfl (by omega)) ?_
    refine vcS_val rfl rfl (ox_ldC (v := .slice xa a.length xc) (i) (0 : UInt64) (pl rfl) D_22 rfl (rdC_keep hfree ha (by exact ⟨by omega, trivial⟩)) (by omega)) ?_
    refine vcS_val rfl rfl (ox_assign (pl rfl)) ?_
    refine vcS_val rfl rfl (ox_assign (pl rfl)) ?_
    refine vcS_nil ?_
    refine IW.seq ?_
    refine IW.reg hE ?_
    refine vcS_val rfl rfl (ox_assign (pl (v := enc (0 : UInt64)) rfl)) ?_
    refine vcS_nil ?_
    refine IW.seq ?_
    refine IW.seq ?_
    refine IW.reg hE ?_
    refine vcS_val rfl rfl (ox_move (pl rfl)) ?_
    refine vcS_val rfl rfl (ox_len (pl rfl) D_118 rfl) ?_
    refine vcS_val rfl rfl (ox_move (pl rfl)) ?_
    refine vcS_nil ?_
    refine IW.block ?_
    refine IW.loop (S := Nat) (fun k => [(0, .slice xa a.length xc), (1, .slice ya b.length yc), (5, .slice (some ⟨n, 0, none⟩) (a.length + b.length) (a.length + b.length)), (6, .int .i64 i), (7, enc (a.getD i 0)), (8, enc (tin (a.getD i 0) b (tout a b i) i k).2), (20, .slice xa a.length xc), (21, .int .i64 a.length), (22, .int .i64 i), (27, .slice ya b.length yc), (28, .int .i64 b.length), (29, .int .i64 k)]) (fun k => [(n, some (.cells (encs (tin (a.getD i 0) b (tout a b i) i k).1) false))]) (fun k => n + 1) (fun k => k ≤ b.length) (fun k => b.length - k) (0) (by simp) (⟨rfl, ⟨rfl, ⟨rfl, ⟨rfl, ⟨rfl, ⟨rfl, ⟨rfl, ⟨rfl, ⟨rfl, ⟨rfl, ⟨rfl, ⟨rfl, trivial⟩⟩⟩⟩⟩⟩⟩⟩⟩⟩⟩⟩) (fun _ _ h => h) (Nat.le_refl _) (fun k hk => ?_)
    refine IW.seq ?_
    refine IW.reg hE ?_
    refine vcS_val rfl rfl (ox_bin (pl rfl) (pl rfl) (bo_i64_lss _ _)) ?_
    refine vcS_nil ?_
    refine IW.seq ?_
    refine IW.cond rfl (fun hc2 => ?_) (fun hc2 => ?_)
    · replace hc2 := of_decide_eq_true hc2
      have hl2 := tin_length (a.getD i 0) b (tout a b i) i k
      refine IW.skip ?_
      refine IW.seq ?_
      refine IW.block ?_
      refine IW.seq ?_
      refine IW.reg hE ?_
      refine vcS_val rfl rfl (ox_move (pl rfl)) ?_
      refine vcS_val rfl rfl (ox_iaC (α := UInt64) (v := .slice ya b.length yc) (k) (pl rfl) (pl rfl) D_118 rfl D_22 rfl (rdC_keep hfree hb (by exact ⟨by omega, trivial⟩)) rfl (by omega)) ?_
      refine vcS_val rfl rfl (ox_ldC (v := .slice ya b.length yc) (k) (0 : UInt64) (pl rfl) D_22 rfl (rdC_keep hfree hb (by exact ⟨by omega, trivial⟩)) (by omega)) ?_
      refine vcS_val rfl rfl (ox_assign (pl rfl)) ?_
      refine vcS_val rfl rfl (ox_assign (pl rfl)) ?_
      refine vcS_nil ?_
      refine IW.seq ?_
      refine IW.reg hE ?_
      refine vcS_val rfl rfl (ox_move (pl rfl)) ?_
      refine vcS_val rfl rfl (ox_move (pl rfl)) ?_
      refine vcS_val rfl rfl (ox_fn rfl rfl (fn2_ev _ _ _ _ _)) ?_
      refine vcS_val rfl rfl (ox_move (pl rfl)) ?_
      refine vcS_val rfl rfl (ox_extract (pl rfl) rfl) ?_
      refine vcS_val rfl rfl (ox_extract (pl rfl) rfl) ?_
      refine vcS_val rfl rfl (ox_assign (pl rfl)) ?_
      refine vcS_val rfl rfl (ox_assign (pl rfl)) ?_
      refine vcS_nil ?_
      refine IW.seq ?_
      refine IW.reg hE ?_
      refine vcS_val rfl rfl (ox_move (pl rfl)) ?_
      refine vcS_val rfl rfl (ox_move (pl rfl)) ?_
      refine vcS_val rfl rfl (ox_fn rfl rfl (F35_ev _ _ (0 : UInt64) (by decide))) ?_
      refine vcS_val rfl rfl (ox_move (pl rfl)) ?_
      refine vcS_val rfl rfl (ox_extract (pl rfl) rfl) ?_
      refine vcS_val rfl rfl (ox_extract (pl rfl) rfl) ?_
      refine vcS_val rfl rfl (ox_assign (pl rfl)) ?_
      refine vcS_val rfl rfl (ox_assign (pl rfl)) ?_
      refine vcS_nil ?_
      refine IW.seq ?_
      refine IW.reg hE ?_
      refine vcS_val rfl rfl (ox_move (pl rfl)) ?_
      refine vcS_val rfl rfl (ox_move (pl rfl)) ?_
      refine vcS_val rfl rfl (ox_bin (pl rfl) (pl rfl) (bo_u64_add _ _)) ?_
      refine vcS_val rfl rfl (ox_assign (pl rfl)) ?_
      refine vcS_nil ?_
      refine IW.seq ?_
      refine IW.reg hE ?_
      refine vcS_val rfl rfl (ox_move (pl rfl)) ?_
      refine vcS_val rfl rfl (ox_move (pl rfl)) ?_
      refine vcS_val rfl rfl (ox_move (pl rfl)) ?_
      refine vcS_val rfl rfl (ox_bin (pl rfl) (pl rfl) (bo_i64_add (by omega))) ?_
      refine vcS_val rfl rfl (ox_move (pl rfl)) ?_
      refine vcS_val rfl rfl (ox_move (pl rfl)) ?_
      refine vcS_val rfl rfl (ox_move (pl rfl)) ?_
      refine vcS_val rfl rfl (ox_bin (pl rfl) (pl rfl) (bo_i64_add (by omega))) ?_
      refine vcS_val rfl rfl (ox_iaS (pl rfl) (pl rfl) D_118 rfl D_22 (by omega) (by omega)) ?_
      refine vcS_val rfl rfl (ox_load (pl rfl) D_22 (hp_eq _ _ _ _) (rd_ix (i + k) (0 : UInt64) rfl (by simp; omega) ((show i + k < (tin (a.getD i 0) b (tout a b i) i k).1.length by omega)))) ?_
      refine vcS_val rfl rfl (ox_move (pl rfl)) ?_
      refine vcS_val rfl rfl (ox_fn rfl rfl (F35_ev _ _ (0 : UInt64) (by decide))) ?_
      refine vcS_val rfl rfl (ox_move (pl rfl)) ?_
      refine vcS_val rfl rfl (ox_extract (pl rfl) rfl) ?_
      refine vcS_val rfl rfl (ox_extract (pl rfl) rfl) ?_
      refine vcS_val rfl rfl (ox_iaS (pl rfl) (pl rfl) D_118 rfl D_22 (by omega) (by omega)) ?_
      refine vcS_sto rfl rfl (ox_store (pl rfl) (pl rfl) D_22 (hp_eq _ _ _ _) rfl rfl (by rw [encs_length]; have := (show i + k < (tin (a.getD i 0) b (tout a b i) i k).1.length by omega); first | (simp; omega) | (simp at this ⊢; omega)) rfl (wr_ix (i + k) (by simp; omega) _)) (.inl (by omega)) ?_
      refine vcS_val rfl rfl (ox_assign (pl rfl)) ?_
      refine vcS_nil ?_
      refine IW.reg hE ?_
      refine vcS_val rfl rfl (ox_move (pl rfl)) ?_
      refine vcS_val rfl rfl (ox_move (pl rfl)) ?_
      refine vcS_val rfl rfl (ox_bin (pl rfl) (pl rfl) (bo_u64_add _ _)) ?_
      refine vcS_val rfl rfl (ox_assign (pl rfl)) ?_
      refine vcS_nil ?_
      refine IW.nilB ?_
      refine IW.reg hE ?_
      refine vcS_val rfl rfl (ox_bin (pl rfl) (pl rfl) (bo_i64_add (by omega))) ?_
      refine vcS_val rfl rfl (ox_move (pl rfl)) ?_
      refine vcS_nil ?_
      refine IW.nilS ?_
      exact ⟨k + 1, _, _, by omega, by omega, rfl, ⟨rfl, ⟨rfl, ⟨rfl, ⟨rfl, ⟨rfl, ⟨rfl, ⟨rfl, ⟨rfl, ⟨rfl, ⟨rfl, ⟨rfl, ⟨rfl, trivial⟩⟩⟩⟩⟩⟩⟩⟩⟩⟩⟩⟩, rfl, leX_le (leX_cons rfl (leX_old (by simp) leX_refl)), Nat.le_refl _⟩
    · replace hc2 := of_decide_eq_false hc2
      have hkb : k = b.length := by omega
      subst hkb
      have hl2 := tin_length (a.getD i 0) b (tout a b i) i b.length
      refine IW.exit ?_
      refine exS (exS ?_)
      refine blkQ_exit ?_
      refine IW.reg hE ?_
      refine vcS_val rfl rfl (ox_move (pl rfl)) ?_
      refine vcS_val rfl rfl (ox_move (pl rfl)) ?_
      refine vcS_val rfl rfl (ox_move (pl rfl)) ?_
      refine vcS_val rfl rfl (ox_len (pl rfl) D_118 rfl) ?_
      refine vcS_val rfl rfl (ox_bin (pl rfl) (pl rfl) (bo_i64_add (by omega))) ?_
      refine vcS_val rfl rfl (ox_move (pl rfl)) ?_
      refine vcS_val rfl rfl (ox_iaS (pl rfl) (pl rfl) D_118 rfl D_22 (by omega) (by omega)) ?_
      refine vcS_sto rfl rfl (ox_store (pl rfl) (pl rfl) D_22 (hp_eq _ _ _ _) rfl rfl (by rw [encs_length]; have := (show i + b.length < (tin (a.getD i 0) b (tout a b i) i b.length).1.length by omega); first | (simp; omega) | (simp at this ⊢; omega)) rfl (wr_ix (i + b.length) (by simp; omega) _)) (.inl (by omega)) ?_
      refine vcS_nil ?_
      refine IW.nilB ?_
      refine IW.reg hE ?_
      refine vcS_val rfl rfl (ox_bin (pl rfl) (pl rfl) (bo_i64_add (by omega))) ?_
      refine vcS_val rfl rfl (ox_move (pl rfl)) ?_
      refine vcS_nil ?_
      refine IW.nilS ?_
      exact ⟨i + 1, _, _, by omega, by omega, rfl, ⟨rfl, ⟨rfl, ⟨rfl, ⟨rfl, ⟨rfl, ⟨rfl, trivial⟩⟩⟩⟩⟩⟩, rfl, leX_le (leX_cons rfl (leX_old (by simp) leX_refl)), Nat.le_refl _⟩
  · replace hc1 := of_decide_eq_false hc1
    have hia : i = a.length := by omega
    subst hia
    refine IW.exit ?_
    refine exS (exS ?_)
    refine blkQ_exit ?_
    refine IW.seq ?_
    refine IW.reg hE ?_
    refine vcS_val rfl rfl (ox_move (pl rfl)) ?_
    refine vcS_val rfl rfl (ox_assign (pl rfl)) ?_
    refine vcS_nil ?_
    refine IW.ret ?_
    exact RetP.new1 (.inr rfl) (ires_tmp rfl) (Nat.le_refl _) (hp_eq _ _ _ _) (by rw [← cels_one]; exact n64_plain _)
end Go.Proofs.Ytdnnojblneccdaa
/-
  Plain laws: the value of a number of many words; products; roots found bit by bit.
-/
namespace Go.Proofs.Ytdnnojblneccdaa
set_option linter.unusedSimpArgs false
set_option linter.unusedVariables false
set_option maxRecDepth 100000

def valL : List UInt64 → Nat
  | [] => 0
  | x :: l => x.toNat + 2 ^ 64 * valL l
theorem valL_append : ∀ a b : List UInt64, valL (a ++ b) = valL a + 2 ^ (64 * a.length) * valL b
  | [], b => by simp [valL]
  | x :: a, b => by
    rw [List.cons_append, valL, valL, valL_append a b, List.length_cons, show 64 * (a.length + 1) = 64 + 64 * a.length by omega, Nat.pow_add, Nat.mul_add, Nat.mul_assoc]
    omega
theorem valL_lt : ∀ a : List UInt64, valL a < 2 ^ (64 * a.length)
  | [] => by simp [valL]
  | x :: a => by
    have h := valL_lt a
    have hx := x.toNat_lt
    rw [valL, List.length_cons, show 64 * (a.length + 1) = 64 + 64 * a.length by omega, Nat.pow_add]
    have h2 : valL a + 1 ≤ 2 ^ (64 * a.length) := h
    have h3 := Nat.mul_le_mul_left (2 ^ 64) h2
    rw [Nat.mul_add] at h3
    omega
theorem valL_rep : ∀ n, valL (List.replicate n 0) = 0
  | 0 => rfl
  | n + 1 => by rw [List.replicate_succ, valL, valL_rep n]; rfl
theorem valL_zero : ∀ {l : List UInt64}, (∀ x ∈ l, x = 0) → valL l = 0
  | [], _ => rfl
  | x :: l, h => by
    rw [valL, valL_zero (fun y hy => h y (by simp [hy])), h x (by simp)]; rfl
theorem valL_pos : ∀ {l : List UInt64} {j : Nat}, j < l.length → l.getD j 0 ≠ 0 → 2 ^ (64 * j) ≤ valL l
  | [], j, h, _ => by simp at h
  | x :: l, 0, h, h0 => by
    simp only [List.getD_cons_zero] at h0
    have : x.toNat ≠ 0 := fun e => h0 (UInt64.toNat_inj.1 e)
    rw [valL]; simp; omega
  | x :: l, j + 1, h, h0 => by
    simp only [List.getD_cons_succ] at h0
    have := valL_pos (l := l) (j := j) (by simpa using h) h0
    rw [valL, show 64 * (j + 1) = 64 + 64 * j by omega, Nat.pow_add]
    have := Nat.mul_le_mul_left (2 ^ 64) this
    omega
theorem valL_set : ∀ (l : List UInt64) (j : Nat) (v : UInt64), j < l.length → valL (l.set j v) + 2 ^ (64 * j) * (l.getD j 0).toNat = valL l + 2 ^ (64 * j) * v.toNat
  | [], j, v, h => by simp at h
  | x :: l, 0, v, h => by simp [valL]; omega
  | x :: l, j + 1, v, h => by
    have := valL_set l j v (by simpa using h)
    simp only [List.set_cons_succ, valL, List.getD_cons_succ, show 64 * (j + 1) = 64 + 64 * j by omega, Nat.pow_add, Nat.mul_assoc]
    have h2 := congrArg (2 ^ 64 * ·) this
    simp only [Nat.mul_add] at h2
    omega
/-! words -/
theorem carry_val (a b : UInt64) : (a + b + 0).toNat + 2 ^ 64 * (carry a b 0).toNat = a.toNat + b.toNat := by
  have ha := a.toNat_lt; have hb := b.toNat_lt
  unfold carry
  rw [show (a + b + 0).toNat = (a.toNat + b.toNat) % 2 ^ 64 by simp [UInt64.toNat_add], UInt64.toNat_ofNat']
  simp
  omega
theorem shr64_val (x : UInt64) (k : Nat) (hk : k ≤ 64) : (shr64 x k).toNat = x.toNat / 2 ^ k := by
  unfold shr64
  rw [UInt64.toNat_ofNat', Nat.min_eq_left hk]
  exact Nat.mod_eq_of_lt (Nat.lt_of_le_of_lt (Nat.div_le_self x.toNat (2 ^ k)) x.toNat_lt)
theorem and32_val (x : UInt64) : (x &&& 4294967295).toNat = x.toNat % 2 ^ 32 := by
  rw [UInt64.toNat_and]
  exact Nat.and_two_pow_sub_one_eq_mod x.toNat 32
theorem mulHi_val (x y : UInt64) : (mulHi x y).toNat = x.toNat * y.toNat / 2 ^ 64 := by
  have hx := x.toNat_lt; have hy := y.toNat_lt
  obtain ⟨x1, x0, hx1, hx0, hxe⟩ : ∃ x1 x0, x1 = x.toNat / 2 ^ 32 ∧ x0 = x.toNat % 2 ^ 32 ∧ x.toNat = 2 ^ 32 * x1 + x0 := ⟨_, _, rfl, rfl, by omega⟩
  obtain ⟨y1, y0, hy1, hy0, hye⟩ : ∃ y1 y0, y1 = y.toNat / 2 ^ 32 ∧ y0 = y.toNat % 2 ^ 32 ∧ y.toNat = 2 ^ 32 * y1 + y0 := ⟨_, _, rfl, rfl, by omega⟩
  have b0 : x0 < 2 ^ 32 := by omega
  have b1 : x1 < 2 ^ 32 := by omega
  have c0 : y0 < 2 ^ 32 := by omega
  have c1 : y1 < 2 ^ 32 := by omega
  have m : ∀ a b : Nat, a < 2 ^ 32 → b < 2 ^ 32 → a * b ≤ (2 ^ 32 - 1) * (2 ^ 32 - 1) := fun a b ha hb => Nat.mul_le_mul (by omega) (by omega)
  have m00 := m x0 y0 b0 c0; have m10 := m x1 y0 b1 c0; have m01 := m x0 y1 b0 c1; have m11 := m x1 y1 b1 c1
  have e : x.toNat * y.toNat = 2 ^ 64 * (x1 * y1) + 2 ^ 32 * (x1 * y0) + 2 ^ 32 * (x0 * y1) + x0 * y0 := by
    rw [hxe, hye, Nat.mul_add, Nat.add_mul, Nat.add_mul]
    have : (2 ^ 32 * x1) * (2 ^ 32 * y1) = 2 ^ 64 * (x1 * y1) := by rw [Nat.mul_mul_mul_comm]
    rw [this, Nat.mul_assoc, Nat.mul_left_comm x0]
    omega
  rw [e]
  unfold mulHi
  simp only [UInt64.toNat_add, UInt64.toNat_mul, shr64_val _ 32 (by decide), and32_val, ← hx1, ← hx0, ← hy1, ← hy0]
  generalize x0 * y0 = p00 at *
  generalize x1 * y0 = p10 at *
  generalize x0 * y1 = p01 at *
  generalize x1 * y1 = p11 at *
  simp only [Nat.reducePow] at *
  omega
theorem mul_val (x y : UInt64) : (x * y).toNat + 2 ^ 64 * (mulHi x y).toNat = x.toNat * y.toNat := by
  rw [mulHi_val, UInt64.toNat_mul]; omega
/-- one step of a product, without loss -/
theorem step_val (x y z v : UInt64) : (z + (x * y + v + 0) + 0).toNat + 2 ^ 64 * (mulHi x y + carry (x * y) v 0 + carry z (x * y + v + 0) 0).toNat = x.toNat * y.toNat + v.toNat + z.toNat := by
  have h1 := mul_val x y
  have h2 := carry_val (x * y) v
  have h3 := carry_val z (x * y + v + 0)
  have hx := x.toNat_lt; have hy := y.toNat_lt; have hz := z.toNat_lt; have hv := v.toNat_lt
  have hm : x.toNat * y.toNat ≤ (2 ^ 64 - 1) * (2 ^ 64 - 1) := Nat.mul_le_mul (by omega) (by omega)
  have h4 := (z + (x * y + v + 0) + 0).toNat_lt
  have h5 := (x * y + v + 0).toNat_lt
  have h6 := (x * y).toNat_lt
  have h7 : (mulHi x y + carry (x * y) v 0 + carry z (x * y + v + 0) 0).toNat = (mulHi x y).toNat + (carry (x * y) v 0).toNat + (carry z (x * y + v + 0) 0).toNat := by
    simp only [UInt64.toNat_add]
    simp only [Nat.reducePow] at *
    omega
  rw [h7]
  simp only [Nat.reducePow] at *
  omega
theorem tin_val (x : UInt64) (b out : List UInt64) (i : Nat) (hout : i + b.length < out.length) : ∀ k, k ≤ b.length → valL (tin x b out i k).1 + 2 ^ (64 * (i + k)) * (tin x b out i k).2.toNat = valL out + 2 ^ (64 * i) * (x.toNat * valL (b.take k))
  | 0, _ => by simp [tin, valL]
  | k + 1, hk => by
    have ih := tin_val x b out i hout k (by omega)
    have hl := tin_length x b out i k
    simp only [tin]
    generalize tin x b out i k = p at *
    have hs := valL_set p.1 (i + k) (p.1.getD (i + k) 0 + (x * b.getD k 0 + p.2 + 0) + 0) (by omega)
    have st := step_val x (b.getD k 0) (p.1.getD (i + k) 0) p.2
    generalize p.1.getD (i + k) 0 = z at *
    have ht : valL (b.take (k + 1)) = valL (b.take k) + 2 ^ (64 * k) * (b.getD k 0).toNat := by
      rw [List.take_succ_eq_append_getElem (show k < b.length by omega), valL_append, List.length_take, Nat.min_eq_left (by omega), List.getD_eq_getElem?_getD, List.getElem?_eq_getElem (show k < b.length by omega)]
      simp [valL]
    rw [ht]
    generalize b.getD k 0 = y at *
    have e1 : 2 ^ (64 * (i + (k + 1))) = 2 ^ (64 * (i + k)) * 2 ^ 64 := by rw [← Nat.pow_add]; congr 1
    have e2 : 2 ^ (64 * i) * (x.toNat * (valL (b.take k) + 2 ^ (64 * k) * y.toNat)) = 2 ^ (64 * i) * (x.toNat * valL (b.take k)) + 2 ^ (64 * (i + k)) * (x.toNat * y.toNat) := by
      rw [Nat.mul_add, Nat.mul_add, show 64 * (i + k) = 64 * i + 64 * k by omega, Nat.pow_add, Nat.mul_assoc, Nat.mul_left_comm x.toNat]
    rw [e1, e2]
    generalize 2 ^ (64 * (i + k)) = P at *
    have st' := congrArg (P * ·) st
    simp only [Nat.mul_add] at st'
    rw [Nat.mul_assoc]
    omega
theorem valL_take_drop (l : List UInt64) (k : Nat) (hk : k ≤ l.length) : valL l = valL (l.take k) + 2 ^ (64 * k) * valL (l.drop k) := by
  conv => lhs; rw [← List.take_append_drop k l]
  rw [valL_append, List.length_take, Nat.min_eq_left hk]
theorem getD_rep (n j : Nat) : (List.replicate n (0 : UInt64)).getD j 0 = 0 := by
  rw [List.getD_eq_getElem?_getD, List.getElem?_replicate]; split <;> rfl
theorem getD_set (l : List UInt64) (i j : Nat) (v : UInt64) (h : i ≠ j) : (l.set i v).getD j 0 = l.getD j 0 := by
  rw [List.getD_eq_getElem?_getD, List.getElem?_set_ne h, ← List.getD_eq_getElem?_getD]
theorem tin_above (x : UInt64) (b out : List UInt64) (i j : Nat) : ∀ k, i + k ≤ j → (tin x b out i k).1.getD j 0 = out.getD j 0
  | 0, _ => rfl
  | k + 1, h => by
    simp only [tin]
    rw [getD_set _ _ _ _ (by omega)]
    exact tin_above x b out i j k (by omega)
theorem tout_above (a b : List UInt64) (j : Nat) : ∀ i, i + b.length ≤ j → (tout a b i).getD j 0 = 0
  | 0, _ => getD_rep _ _
  | i + 1, h => by
    simp only [tout]
    rw [getD_set _ _ _ _ (by omega), tin_above _ _ _ _ _ _ (by omega)]
    exact tout_above a b j i (by omega)
theorem tout_val (a b : List UInt64) : ∀ i, i ≤ a.length → valL (tout a b i) = valL (a.take i) * valL b
  | 0, _ => by simp [tout, valL_rep, valL]
  | i + 1, hi => by
    have ih := tout_val a b i (by omega)
    have hl := tout_length a b i
    have ht := tin_val (a.getD i 0) b (tout a b i) i (by omega) b.length (Nat.le_refl _)
    have hz := tin_above (a.getD i 0) b (tout a b i) i (i + b.length) b.length (Nat.le_refl _)
    rw [tout_above a b (i + b.length) i (Nat.le_refl _)] at hz
    have hl2 := tin_length (a.getD i 0) b (tout a b i) i b.length
    simp only [tout]
    generalize tin (a.getD i 0) b (tout a b i) i b.length = p at *
    have hs := valL_set p.1 (i + b.length) p.2 (by omega)
    rw [hz] at hs
    rw [List.take_length, ih] at ht
    have hk : valL (a.take (i + 1)) = valL (a.take i) + 2 ^ (64 * i) * (a.getD i 0).toNat := by
      rw [List.take_succ_eq_append_getElem (show i < a.length by omega), valL_append, List.length_take, Nat.min_eq_left (by omega), List.getD_eq_getElem?_getD, List.getElem?_eq_getElem (show i < a.length by omega)]
      simp [valL]
    rw [hk, Nat.add_mul, Nat.mul_assoc, ← ht]
    simp at hs
    omega
theorem timesL_val (a b : List UInt64) : valL (timesL a b) = valL a * valL b := by
  unfold timesL
  rw [tout_val a b a.length (Nat.le_refl _), List.take_length]
/-! not above -/
theorem val_split {l : List UInt64} {k : Nat} (hk : k < l.length) (h : ∀ j, k < j → j < l.length → l.getD j 0 = 0) : valL l = valL (l.take k) + 2 ^ (64 * k) * (l.getD k 0).toNat := by
  rw [valL_take_drop l k (by omega), List.drop_eq_getElem_cons hk, valL, valL_zero (l := l.drop (k + 1))]
  · rw [List.getD_eq_getElem?_getD, List.getElem?_eq_getElem hk]; simp
  · intro x hx
    obtain ⟨j, hj, rfl⟩ := List.getElem_of_mem hx
    rw [List.length_drop] at hj
    have := h (k + 1 + j) (by omega) (by omega)
    rw [List.getD_eq_getElem?_getD, List.getElem?_eq_getElem (by omega)] at this
    simpa using this
theorem within1 {l : List UInt64} {k j : Nat} {n : UInt64} (hkj : k < j) (hj : j < l.length) (h : l.getD j 0 ≠ 0) : decide (valL l ≤ n.toNat * 2 ^ (64 * k)) = false := by
  have h1 := valL_pos hj h
  have h2 : 2 ^ (64 + 64 * k) ≤ 2 ^ (64 * j) := Nat.pow_le_pow_right (by decide) (by omega)
  have h3 : n.toNat * 2 ^ (64 * k) < 2 ^ 64 * 2 ^ (64 * k) := Nat.mul_lt_mul_of_pos_right n.toNat_lt (Nat.pos_of_ne_zero (by simp))
  rw [← Nat.pow_add] at h3
  exact decide_eq_false (by omega)
theorem within2 {l : List UInt64} {k : Nat} {n : UInt64} (hk : k < l.length) (h : ∀ j, k < j → j < l.length → l.getD j 0 = 0) (hne : l.getD k 0 ≠ n) : decide (valL l ≤ n.toNat * 2 ^ (64 * k)) = decide (l.getD k 0 < n) := by
  rw [val_split hk h]
  have hlt := valL_lt (l.take k)
  rw [List.length_take, Nat.min_eq_left (by omega)] at hlt
  generalize l.getD k 0 = x at *
  rw [decide_eq_decide, UInt64.lt_iff_toNat_lt]
  have hne' : x.toNat ≠ n.toNat := fun e => hne (UInt64.toNat_inj.1 e)
  rw [Nat.mul_comm n.toNat]
  constructor
  · intro h1
    rcases Nat.lt_or_ge x.toNat n.toNat with h2 | h2
    · exact h2
    · have : n.toNat + 1 ≤ x.toNat := by omega
      have := Nat.mul_le_mul_left (2 ^ (64 * k)) this
      rw [Nat.mul_add] at this
      have := Nat.pos_of_ne_zero (show 2 ^ (64 * k) ≠ 0 by simp)
      omega
  · intro h1
    have := Nat.mul_le_mul_left (2 ^ (64 * k)) (show x.toNat + 1 ≤ n.toNat from h1)
    rw [Nat.mul_add] at this
    omega
theorem within3 {l : List UInt64} {k : Nat} {n : UInt64} (hk : k < l.length) (h : ∀ j, k < j → j < l.length → l.getD j 0 = 0) (he : l.getD k 0 = n) : decide (valL l ≤ n.toNat * 2 ^ (64 * k)) = !decide (∃ x ∈ l.take k, x ≠ 0) := by
  rw [val_split hk h, he, Nat.mul_comm n.toNat]
  by_cases h0 : ∃ x ∈ l.take k, x ≠ 0
  · obtain ⟨x, hx, hx0⟩ := h0
    have e0 : decide (∃ x ∈ l.take k, x ≠ 0) = true := decide_eq_true ⟨x, hx, hx0⟩
    rw [e0]
    obtain ⟨j, hj, rfl⟩ := List.getElem_of_mem hx
    have h1 := valL_pos (l := l.take k) (j := j) hj (by rw [List.getD_eq_getElem?_getD, List.getElem?_eq_getElem hj]; exact hx0)
    have := Nat.pos_of_ne_zero (show 2 ^ (64 * j) ≠ 0 by simp)
    exact decide_eq_false (by omega)
  · have e0 : decide (∃ x ∈ l.take k, x ≠ 0) = false := decide_eq_false h0
    rw [e0]
    have : valL (l.take k) = 0 := valL_zero fun x hx => Classical.byContradiction fun hx0 => h0 ⟨x, hx, hx0⟩
    exact decide_eq_true (by omega)
/-! roots, bit by bit -/
/-- s of the bits below 2^B gone through -/
def gr (B p N : Nat) : Nat → Nat
  | 0 => 0
  | s + 1 => if (gr B p N s + 2 ^ (B - 1 - s)) ^ p ≤ N then gr B p N s + 2 ^ (B - 1 - s) else gr B p N s
theorem gr_dvd (B p N : Nat) : ∀ s, s ≤ B → 2 ^ (B - s) ∣ gr B p N s
  | 0, _ => ⟨0, rfl⟩
  | s + 1, h => by
    have ih := gr_dvd B p N s (by omega)
    have h1 : 2 ^ (B - (s + 1)) ∣ 2 ^ (B - s) := Nat.pow_dvd_pow 2 (by omega)
    have h2 := Nat.dvd_trans h1 ih
    simp only [gr]
    split
    · exact Nat.dvd_add h2 (by rw [show B - 1 - s = B - (s + 1) by omega]; exact Nat.dvd_refl _)
    · exact h2
theorem gr_inv (B p N : Nat) (hp : p ≠ 0) (hN : N < (2 ^ B) ^ p) : ∀ s, s ≤ B → gr B p N s ^ p ≤ N ∧ N < (gr B p N s + 2 ^ (B - s)) ^ p
  | 0, _ => by simp [gr, Nat.zero_pow (Nat.pos_of_ne_zero hp), hN]
  | s + 1, h => by
    obtain ⟨h1, h2⟩ := gr_inv B p N hp hN s (by omega)
    have e : 2 ^ (B - s) = 2 ^ (B - 1 - s) + 2 ^ (B - 1 - s) := by
      rw [show B - s = (B - 1 - s) + 1 by omega, Nat.pow_succ]; omega
    simp only [gr]
    rw [show B - (s + 1) = B - 1 - s by omega]
    split
    · rename_i hle
      exact ⟨hle, by rw [e, ← Nat.add_assoc] at h2; exact h2⟩
    · exact ⟨h1, by omega⟩
theorem gr_lt (B p N : Nat) : ∀ s, s ≤ B → gr B p N s + 2 ^ (B - s) ≤ 2 ^ B
  | 0, _ => by simp [gr]
  | s + 1, h => by
    have ih := gr_lt B p N s (by omega)
    have e : 2 ^ (B - s) = 2 ^ (B - 1 - s) + 2 ^ (B - 1 - s) := by
      rw [show B - s = (B - 1 - s) + 1 by omega, Nat.pow_succ]; omega
    simp only [gr]
    rw [show B - (s + 1) = B - 1 - s by omega]
    have := Nat.two_pow_pos (B - 1 - s)
    split <;> omega
/-- the greatest number whose power is not above N -/
theorem gr_root {B p N : Nat} (hp : p ≠ 0) (hN : N < (2 ^ B) ^ p) : gr B p N B ^ p ≤ N ∧ N < (gr B p N B + 1) ^ p := by
  have := gr_inv B p N hp hN B (Nat.le_refl _)
  simpa using this
theorem root_unique {p N x y : Nat} (hx : x ^ p ≤ N ∧ N < (x + 1) ^ p) (hy : y ^ p ≤ N ∧ N < (y + 1) ^ p) : x = y := by
  rcases Nat.lt_trichotomy x y with h | h | h
  · have := Nat.pow_le_pow_left (show x + 1 ≤ y from h) p; omega
  · exact h
  · have := Nat.pow_le_pow_left (show y + 1 ≤ x from h) p; omega
theorem gr_same {B C p N : Nat} (hp : p ≠ 0) (hB : N < (2 ^ B) ^ p) (hC : N < (2 ^ C) ^ p) : gr B p N B = gr C p N C :=
  root_unique (gr_root hp hB) (gr_root hp hC)
end Go.Proofs.Ytdnnojblneccdaa
/-
  Roots: not above, bits.
-/
namespace Go.Proofs.Ytdnnojblneccdaa
set_option linter.unusedSimpArgs false
set_option linter.unusedVariables false
open Go
open Enc (enc)
set_option maxRecDepth 100000

noncomputable def F106 : FnI := fn1 fun (x : UInt64) => .bool (x != 0)
-- (headwater/sha.limbs).within$1 ['UInt64'] -> ['Bool'], results [2]
theorem R106 : Ref Try.prog 106 F106 := by
  refine Ref.of_iw dok Try.func106 rfl (by kernel_rfl) fun args H n e hF => ?_
  obtain ⟨a, rfl, rfl⟩ := fn1_inv hF
  refine ⟨Nat.le_of_ble_eq_true rfl, ?_⟩
  simp only [idxL]
  have hE : Env Try.prog [] D K := env fnsOk_nil
  refine IW.seq ?_
  refine IW.reg hE ?_
  refine vcS_val rfl rfl (ox_assign (pl rfl)) ?_
  refine vcS_nil ?_
  refine IW.seq ?_
  refine IW.reg hE ?_
  refine vcS_val rfl rfl (ox_move (pl rfl)) ?_
  refine vcS_val rfl rfl (ox_bin (pl rfl) (pl (v := enc (0 : UInt64)) rfl) (bo_u64_neq _ _)) ?_
  refine vcS_val rfl rfl (ox_assign (pl rfl)) ?_
  refine vcS_nil ?_
  refine IW.ret ?_
  exact RetP.ret (.inr rfl) rfl rfl trivial (rfl)
def idxNZ (l : List UInt64) : Int := match l.findIdx? (fun x => x != 0) with
  | some i => i
  | none => -1
theorem idx_at {l : List UInt64} {s : Nat} (h : ∀ j, j < s → l.getD j 0 = 0) (hs : s < l.length) (h0 : l.getD s 0 ≠ 0) : idxNZ l = s := by
  have : l.findIdx? (fun x => x != 0) = some s := by
    rw [List.findIdx?_eq_some_iff_getElem]
    refine ⟨hs, ?_, fun j hj => ?_⟩
    · rw [List.getD_eq_getElem?_getD, List.getElem?_eq_getElem hs] at h0
      simpa using h0
    · have := h j hj
      rw [List.getD_eq_getElem?_getD, List.getElem?_eq_getElem (by omega)] at this
      simpa using this
  unfold idxNZ; rw [this]
theorem idx_none {l : List UInt64} {s : Nat} (h : ∀ j, j < s → l.getD j 0 = 0) (hs : l.length ≤ s) : idxNZ l = -1 := by
  have : l.findIdx? (fun x => x != 0) = none := by
    rw [List.findIdx?_eq_none_iff]
    intro x hx
    obtain ⟨j, hj, rfl⟩ := List.getElem_of_mem hx
    have := h j (by omega)
    rw [List.getD_eq_getElem?_getD, List.getElem?_eq_getElem (by omega)] at this
    simpa using this
  unfold idxNZ; rw [this]
theorem idx_nz (l : List UInt64) : decide (0 ≤ idxNZ l) = decide (∃ x ∈ l, x ≠ 0) := by
  rw [decide_eq_decide]
  unfold idxNZ
  split
  · rename_i i h
    rw [List.findIdx?_eq_some_iff_getElem] at h
    obtain ⟨hi, h1, _⟩ := h
    exact ⟨fun _ => ⟨l[i], by simp, by simpa using h1⟩, fun _ => by omega⟩
  · rename_i h
    rw [List.findIdx?_eq_none_iff] at h
    constructor
    · intro h; omega
    · rintro ⟨x, hx, h0⟩
      have := h x hx
      simp at this
      exact (h0 this).elim
open Classical in
noncomputable def nzF (f : List UInt64 → Value) : FnI := fun args H n => match args with
  | [x, y] => (rdC H x).bind fun (l : List UInt64) => if l.length ≤ 2 ^ 47 ∧ y = .func (.func 106) #[] #[] then some ⟨f l, [], n⟩ else none
  | _ => none
theorem nzF_inv {f : List UInt64 → Value} {args : List Value} {H : IHeap} {n : Nat} {e : Eff} (h : nzF f args H n = some e) : ∃ xa xc, ∃ l : List UInt64, args = [.slice xa l.length xc, .func (.func 106) #[] #[]] ∧ rdC H (.slice xa l.length xc) = some l ∧ l.length ≤ 2 ^ 47 ∧ e = ⟨f l, [], n⟩ := by
  unfold nzF at h; split at h
  · simp only [Option.bind_eq_some_iff] at h
    obtain ⟨l, hl, h⟩ := h
    split at h
    · rename_i hle
      cases h
      obtain ⟨xa, xc, rfl⟩ := rdC_len hl
      exact ⟨xa, xc, l, by rw [hle.2], hl, hle.1, rfl⟩
    · cases h
  · cases h
theorem nzF_ev {f : List UInt64 → Value} {x : Value} {H : IHeap} {n : Nat} {l : List UInt64} (hl : rdC H x = some l) (hle : l.length ≤ 2 ^ 47) : nzF f [x, .func (.func 106) #[] #[]] H n = some ⟨f l, [], n⟩ := by
  simp only [nzF, hl, Option.bind_some]
  rw [if_pos ⟨hle, trivial⟩]
noncomputable def F115 : FnI := nzF fun l => .int .i64 (idxNZ l)
-- slices.IndexFunc[headwater/sha.limbs,uint64] ['Sl', '?'] -> ['Int'], results [4]
theorem R115 : Ref Try.prog 115 F115 := by
  refine Ref.of_iw dok Try.func115 rfl (by kernel_rfl) fun args H n e hF => ?_
  obtain ⟨xa, xc, l, rfl, hl, hle, rfl⟩ := nzF_inv hF
  refine ⟨Nat.le_of_ble_eq_true rfl, ?_⟩
  simp only [idxL]
  have hE : Env Try.prog [(106, F106)] D K := env (fnsOk_cons R106 fnsOk_nil)
  refine IW.seq ?_
  refine IW.free (by simp) (fun hfree => ?_)
  refine IW.reg hE ?_
  refine vcS_val rfl rfl (ox_assign (pl rfl)) ?_
  refine vcS_nil ?_
  refine IW.seq ?_
  refine IW.seq ?_
  refine IW.reg hE ?_
  refine vcS_val rfl rfl (ox_move (pl rfl)) ?_
  refine vcS_val rfl rfl (ox_len (pl rfl) D_118 rfl) ?_
  refine vcS_val rfl rfl (ox_move (pl rfl)) ?_
  refine vcS_nil ?_
  refine IW.block ?_
  refine IW.loop (S := Nat) (fun s => [(0, .slice xa l.length xc), (1, .func (.func 106) #[] #[]), (7, .int .i64 l.length), (8, .int .i64 s)]) (fun s => []) (fun s => n) (fun s => s ≤ l.length ∧ ∀ j, j < s → l.getD j 0 = 0) (fun s => l.length - s) (0) (⟨by simp, fun j hj => by omega⟩) (⟨rfl, ⟨rfl, ⟨rfl, ⟨rfl, trivial⟩⟩⟩⟩) (fun _ _ h => h) (Nat.le_refl _) (fun s hs => ?_)
  obtain ⟨hs1, hs2⟩ := hs
  refine IW.seq ?_
  refine IW.reg hE ?_
  refine vcS_val rfl rfl (ox_bin (pl rfl) (pl rfl) (bo_i64_lss _ _)) ?_
  refine vcS_nil ?_
  refine IW.seq ?_
  refine IW.cond rfl (fun hc1 => ?_) (fun hc1 => ?_)
  · replace hc1 := of_decide_eq_true hc1
    refine IW.skip ?_
    refine IW.seq ?_
    refine IW.block ?_
    refine IW.seq ?_
    refine IW.reg hE ?_
    refine vcS_val rfl rfl (ox_move (pl rfl)) ?_
    refine vcS_val rfl rfl (ox_assign (pl rfl)) ?_
    refine vcS_nil ?_
    refine IW.seq ?_
    refine IW.reg hE ?_
    refine vcS_val rfl rfl (ox_move (pl rfl)) ?_
    refine vcS_val rfl rfl (ox_move (pl rfl)) ?_
    refine vcS_val rfl rfl (ox_move (pl rfl)) ?_
    refine vcS_val rfl rfl (ox_iaC (α := UInt64) (v := .slice xa l.length xc) (s) (pl rfl) (pl rfl) D_118 rfl D_22 rfl (rdC_keep hfree hl (by exact trivial)) rfl (by omega)) ?_
    refine vcS_val rfl rfl (ox_ldC (v := .slice xa l.length xc) (s) (0 : UInt64) (pl rfl) D_22 rfl (rdC_keep hfree hl (by exact trivial)) (by omega)) ?_
    refine vcS_val rfl rfl (ox_fnT rfl rfl rfl (fn1_ev _ _ _ _)) ?_
    refine vcS_nil ?_
    refine IW.cond rfl (fun hc2 => ?_) (fun hc2 => ?_)
    · have hc2 : l.getD s 0 ≠ 0 := by simpa using hc2
      refine IW.seq ?_
      refine IW.reg hE ?_
      refine vcS_val rfl rfl (ox_move (pl rfl)) ?_
      refine vcS_val rfl rfl (ox_assign (pl rfl)) ?_
      refine vcS_nil ?_
      refine IW.ret ?_
      refine retB ?_
      refine retS (retS ?_)
      refine retB ?_
      exact RetP.ret (.inr rfl) rfl rfl trivial (by rw [idx_at hs2 (by omega) hc2])
    · have hc2 : l.getD s 0 = 0 := by simpa using hc2
      refine IW.skip ?_
      refine IW.nilB ?_
      refine IW.reg hE ?_
      refine vcS_val rfl rfl (ox_bin (pl rfl) (pl rfl) (bo_i64_add (by omega))) ?_
      refine vcS_val rfl rfl (ox_move (pl rfl)) ?_
      refine vcS_nil ?_
      refine IW.nilS ?_
      exact ⟨s + 1, _, _, ⟨by omega, fun j hj => (Nat.lt_or_ge j s).elim (hs2 j) (fun h => by rw [show j = s by omega]; exact hc2)⟩, by omega, rfl, ⟨rfl, ⟨rfl, ⟨rfl, ⟨rfl, trivial⟩⟩⟩⟩, rfl, fun _ _ h => h, Nat.le_refl _⟩
  · replace hc1 := of_decide_eq_false hc1
    refine IW.exit ?_
    refine exS (exS ?_)
    refine blkQ_exit ?_
    refine IW.seq ?_
    refine IW.reg hE ?_
    refine vcS_val rfl rfl (ox_assign (pl rfl)) ?_
    refine vcS_nil ?_
    refine IW.ret ?_
    exact RetP.ret (.inr rfl) rfl rfl trivial (by rw [idx_none hs2 (by omega)])
noncomputable def F105 : FnI := nzF fun l => .bool (decide (∃ x ∈ l, x ≠ 0))
-- slices.ContainsFunc[headwater/sha.limbs,uint64] ['Sl', '?'] -> ['Bool'], results [4]
theorem R105 : Ref Try.prog 105 F105 := by
  refine Ref.of_iw dok Try.func105 rfl (by kernel_rfl) fun args H n e hF => ?_
  obtain ⟨xa, xc, l, rfl, hl, hle, rfl⟩ := nzF_inv hF
  refine ⟨Nat.le_of_ble_eq_true rfl, ?_⟩
  simp only [idxL]
  have hE : Env Try.prog [(106, F106), (115, F115)] D K := env (fnsOk_cons R106 (fnsOk_cons R115 fnsOk_nil))
  refine IW.seq ?_
  refine IW.free (by simp) (fun hfree => ?_)
  refine IW.reg hE ?_
  refine vcS_val rfl rfl (ox_assign (pl rfl)) ?_
  refine vcS_nil ?_
  refine IW.seq ?_
  refine IW.reg hE ?_
  refine vcS_val rfl rfl (ox_move (pl rfl)) ?_
  refine vcS_val rfl rfl (ox_move (pl rfl)) ?_
  refine vcS_val rfl rfl (ox_fn rfl rfl (nzF_ev (rdC_keep hfree hl (by exact trivial)) hle)) ?_
  refine vcS_val rfl rfl (ox_bin (pl rfl) (pl rfl) (bo_i64_geq _ _)) ?_
  refine vcS_val rfl rfl (ox_assign (pl rfl)) ?_
  refine vcS_nil ?_
  refine IW.ret ?_
  exact RetP.ret (.inr rfl) rfl rfl trivial (congrArg Value.bool (idx_nz l))
noncomputable def F87 : FnI := fun args H n => match args with
  | [.slice (some ⟨id, off, none⟩) len cap, y, .int .i64 k] => (dec y).bind fun (m : UInt64) => (rdC H (.slice (some ⟨id, off, none⟩) len cap)).bind fun (l : List UInt64) =>
      if l.length ≤ cap ∧ l.length ≤ 1000 ∧ 0 ≤ k ∧ k < l.length then some ⟨.bool (decide (valL l ≤ m.toNat * 2 ^ (64 * k.toNat))), [], n⟩ else none
  | _ => none
theorem F87_inv {args : List Value} {H : IHeap} {n : Nat} {e : Eff} (h : F87 args H n = some e) : ∃ (id off cap k : Nat) (m : UInt64) (l : List UInt64), args = [.slice (some ⟨id, off, none⟩) l.length cap, enc m, .int .i64 k] ∧ rdC H (.slice (some ⟨id, off, none⟩) l.length cap) = some l ∧ l.length ≤ cap ∧ l.length ≤ 1000 ∧ k < l.length ∧ e = ⟨.bool (decide (valL l ≤ m.toNat * 2 ^ (64 * k))), [], n⟩ := by
  unfold F87 at h; split at h
  · rename_i id off len cap y k
    simp only [Option.bind_eq_some_iff] at h
    obtain ⟨m, hm, l, hl, h⟩ := h
    split at h
    · rename_i hle
      cases h
      obtain ⟨xa, xc, e⟩ := rdC_len hl
      cases e
      obtain ⟨h1, h2, h3, h4⟩ := hle
      exact ⟨id, off, _, k.toNat, m, l, by rw [dec_some hm, Int.toNat_of_nonneg h3], hl, h1, h2, by omega, rfl⟩
    · cases h
  · cases h
theorem F87_ev {id off cap len : Nat} {kk : Int} (k : Nat) {m : UInt64} {l : List UInt64} {H : IHeap} {n : Nat} (hl : rdC H (.slice (some ⟨id, off, none⟩) len cap) = some l) (hk : kk = k) (h1 : l.length ≤ cap) (h2 : l.length ≤ 1000) (h3 : k < l.length) :
    F87 [.slice (some ⟨id, off, none⟩) len cap, enc m, .int .i64 kk] H n = some ⟨.bool (decide (valL l ≤ m.toNat * 2 ^ (64 * k))), [], n⟩ := by
  subst hk
  simp only [F87, dec_enc, hl, Option.bind_some]
  rw [if_pos ⟨h1, h2, by omega, by omega⟩]; rfl
theorem zero_next {l : List UInt64} {s : Nat} (h : ∀ j, l.length - 1 - s < j → j < l.length → l.getD j 0 = 0) (h0 : l.getD (l.length - 1 - s) 0 = 0) : ∀ j, l.length - 1 - (s + 1) < j → j < l.length → l.getD j 0 = 0 := fun j h1 h2 => by
  by_cases e : j = l.length - 1 - s
  · rw [e]; exact h0
  · exact h j (by omega) h2
-- (headwater/sha.limbs).within ['Sl', 'UInt64', 'Int'] -> ['Bool'], results [6]
theorem R87 : Ref Try.prog 87 F87 := by
  refine Ref.of_iw dok Try.func87 rfl (by kernel_rfl) fun args H n e hF => ?_
  obtain ⟨id, off, cap, k, m, l, rfl, hl, hcp, hle, hk, rfl⟩ := F87_inv hF
  refine ⟨Nat.le_of_ble_eq_true rfl, ?_⟩
  simp only [idxL]
  have hE : Env Try.prog [(105, F105), (106, F106)] D K := env (fnsOk_cons R105 (fnsOk_cons R106 fnsOk_nil))
  refine IW.seq ?_
  refine IW.free (by simp) (fun hfree => ?_)
  refine IW.reg hE ?_
  refine vcS_val rfl rfl (ox_assign (pl rfl)) ?_
  refine vcS_nil ?_
  refine IW.seq ?_
  refine IW.seq ?_
  refine IW.reg hE ?_
  refine vcS_val rfl rfl (ox_move (pl rfl)) ?_
  refine vcS_val rfl rfl (ox_len (pl rfl) D_118 rfl) ?_
  refine vcS_val rfl rfl (ox_bin (pl rfl) (pl rfl) (bo_i64_sub (by omega))) ?_
  refine vcS_val rfl rfl (ox_assign (pl rfl)) ?_
  refine vcS_nil ?_
  refine IW.block ?_
  refine IW.loop (S := Nat) (fun s => [(0, .slice (some ⟨id, off, none⟩) l.length cap), (1, enc m), (2, .int .i64 k), (7, .int .i64 ((l.length : Int) - 1 - s))]) (fun s => []) (fun s => n) (fun s => s + k + 1 ≤ l.length ∧ ∀ j, l.length - 1 - s < j → j < l.length → l.getD j 0 = 0) (fun s => l.length - s) (0) (⟨by omega, fun j hj hj2 => by omega⟩) (⟨rfl, ⟨rfl, ⟨rfl, ⟨(congrArg (fun z => some (Value.int .i64 z)) (by omega)), trivial⟩⟩⟩⟩) (fun _ _ h => h) (Nat.le_refl _) (fun s hs => ?_)
  obtain ⟨hs1, hs2⟩ := hs
  refine IW.seq ?_
  refine IW.seq ?_
  refine IW.reg hE ?_
  refine vcS_val rfl rfl (ox_move (pl rfl)) ?_
  refine vcS_val rfl rfl (ox_move (pl rfl)) ?_
  refine vcS_val rfl rfl (ox_bin (pl rfl) (pl rfl) (bo_i64_gtr _ _)) ?_
  refine vcS_nil ?_
  refine IW.cond rfl (fun hc1 => ?_) (fun hc1 => ?_)
  · replace hc1 := of_decide_eq_true hc1
    refine IW.skip ?_
    refine IW.seq ?_
    refine IW.block ?_
    refine IW.seq ?_
    refine IW.reg hE ?_
    refine vcS_val rfl rfl (ox_move (pl rfl)) ?_
    refine vcS_val rfl rfl (ox_move (pl rfl)) ?_
    refine vcS_val rfl rfl (ox_iaC (α := UInt64) (v := .slice (some ⟨id, off, none⟩) l.length cap) (l.length - 1 - s) (pl rfl) (pl rfl) D_118 rfl D_22 rfl (rdC_keep hfree hl (by exact trivial)) (by omega) (by omega)) ?_
    refine vcS_val rfl rfl (ox_ldC (v := .slice (some ⟨id, off, none⟩) l.length cap) (l.length - 1 - s) (0 : UInt64) (pl rfl) D_22 rfl (rdC_keep hfree hl (by exact trivial)) (by omega)) ?_
    refine vcS_val rfl rfl (ox_bin (pl rfl) (pl (v := enc (0 : UInt64)) rfl) (bo_u64_neq _ _)) ?_
    refine vcS_nil ?_
    refine IW.cond rfl (fun hc2 => ?_) (fun hc2 => ?_)
    · have hc2 : l.getD (l.length - 1 - s) 0 ≠ 0 := by simpa using hc2
      refine IW.seq ?_
      refine IW.reg hE ?_
      refine vcS_val rfl rfl (ox_assign (pl rfl)) ?_
      refine vcS_nil ?_
      refine IW.ret ?_
      refine retB ?_
      refine retS (retS ?_)
      refine retB ?_
      exact RetP.ret (.inr rfl) rfl rfl trivial (congrArg Value.bool (within1 (show k < l.length - 1 - s by omega) (by omega) hc2).symm)
    · have hc2 : l.getD (l.length - 1 - s) 0 = 0 := by simpa using hc2
      refine IW.skip ?_
      refine IW.nilB ?_
      refine IW.reg hE ?_
      refine vcS_val rfl rfl (ox_move (pl rfl)) ?_
      refine vcS_val rfl rfl (ox_bin (pl rfl) (pl rfl) (bo_i64_sub (by omega))) ?_
      refine vcS_val rfl rfl (ox_assign (pl rfl)) ?_
      refine vcS_nil ?_
      refine IW.nilS ?_
      exact ⟨s + 1, _, _, ⟨by omega, zero_next hs2 hc2⟩, by omega, rfl, ⟨rfl, ⟨rfl, ⟨rfl, ⟨(congrArg (fun z => some (Value.int .i64 z)) (by omega)), trivial⟩⟩⟩⟩, rfl, fun _ _ h => h, Nat.le_refl _⟩
  · replace hc1 := of_decide_eq_false hc1
    have hz : ∀ j, k < j → j < l.length → l.getD j 0 = 0 := fun j h1 h2 => hs2 j (by omega) h2
    refine IW.exit ?_
    refine exS (exS ?_)
    refine blkQ_exit ?_
    refine IW.seq ?_
    refine IW.seq ?_
    refine IW.reg hE ?_
    refine vcS_val rfl rfl (ox_move (pl rfl)) ?_
    refine vcS_val rfl rfl (ox_move (pl rfl)) ?_
    refine vcS_val rfl rfl (ox_iaC (α := UInt64) (v := .slice (some ⟨id, off, none⟩) l.length cap) (k) (pl rfl) (pl rfl) D_118 rfl D_22 rfl (rdC_keep hfree hl (by exact trivial)) rfl (by omega)) ?_
    refine vcS_val rfl rfl (ox_ldC (v := .slice (some ⟨id, off, none⟩) l.length cap) (k) (0 : UInt64) (pl rfl) D_22 rfl (rdC_keep hfree hl (by exact trivial)) (by omega)) ?_
    refine vcS_val rfl rfl (ox_move (pl rfl)) ?_
    refine vcS_val rfl rfl (ox_bin (pl rfl) (pl rfl) (bo_u64_neq _ _)) ?_
    refine vcS_nil ?_
    refine IW.cond rfl (fun hc3 => ?_) (fun hc3 => ?_)
    · have hc3 : l.getD k 0 ≠ m := by simpa using hc3
      refine IW.seq ?_
      refine IW.reg hE ?_
      refine vcS_val rfl rfl (ox_move (pl rfl)) ?_
      refine vcS_val rfl rfl (ox_move (pl rfl)) ?_
      refine vcS_val rfl rfl (ox_iaC (α := UInt64) (v := .slice (some ⟨id, off, none⟩) l.length cap) (k) (pl rfl) (pl rfl) D_118 rfl D_22 rfl (rdC_keep hfree hl (by exact trivial)) rfl (by omega)) ?_
      refine vcS_val rfl rfl (ox_ldC (v := .slice (some ⟨id, off, none⟩) l.length cap) (k) (0 : UInt64) (pl rfl) D_22 rfl (rdC_keep hfree hl (by exact trivial)) (by omega)) ?_
      refine vcS_val rfl rfl (ox_move (pl rfl)) ?_
      refine vcS_val rfl rfl (ox_bin (pl rfl) (pl rfl) (bo_u64_lss _ _)) ?_
      refine vcS_val rfl rfl (ox_assign (pl rfl)) ?_
      refine vcS_nil ?_
      refine IW.ret ?_
      exact RetP.ret (.inr rfl) rfl rfl trivial (congrArg Value.bool (within2 hk hz hc3).symm)
    · have hc3 : l.getD k 0 = m := by simpa using hc3
      refine IW.skip ?_
      refine IW.seq ?_
      refine IW.reg hE ?_
      refine vcS_val rfl rfl (ox_move (pl rfl)) ?_
      refine vcS_val rfl rfl (ox_move (pl rfl)) ?_
      refine vcS_val rfl rfl (ox_slH (pl rfl) D_118 rfl D_22 (bndI (pl rfl) rfl) (by omega) (.inl rfl)) ?_
      refine vcS_val rfl rfl (ox_fn rfl rfl (nzF_ev (rdC_sl0 (rdC_keep hfree hl (by exact trivial)) (Nat.le_of_lt hk)) (by simp; omega))) ?_
      refine vcS_val rfl rfl (ox_un (pl rfl) (uo_not _)) ?_
      refine vcS_val rfl rfl (ox_assign (pl rfl)) ?_
      refine vcS_nil ?_
      refine IW.ret ?_
      exact RetP.ret (.inr rfl) rfl rfl trivial (congrArg Value.bool (within3 hk hz hc3).symm)
end Go.Proofs.Ytdnnojblneccdaa
/-
  Roots: bit by bit.
-/
namespace Go.Proofs.Ytdnnojblneccdaa
set_option linter.unusedSimpArgs false
set_option linter.unusedVariables false
open Go
open Enc (enc)
set_option maxRecDepth 100000

/-! one bit -/
theorem bit_or {z c : Nat} (hc : c < 64) (hz : 2 ^ (c + 1) ∣ z) : UInt64.ofNat z ||| shl64 1 c = UInt64.ofNat (z + 2 ^ c) := by
  obtain ⟨q, rfl⟩ := hz
  rw [← UInt64.toNat_inj, UInt64.toNat_or]
  have h1 : (shl64 1 c).toNat = 2 ^ c := by
    unfold shl64
    rw [UInt64.toNat_ofNat', Nat.min_eq_left (by omega)]
    show 1 * 2 ^ c % 2 ^ 64 = _
    rw [Nat.one_mul, Nat.mod_eq_of_lt (Nat.pow_lt_pow_right (by decide) hc)]
  rw [h1, UInt64.toNat_ofNat', UInt64.toNat_ofNat']
  have e64 : (2 : Nat) ^ 64 = 2 ^ (c + 1) * 2 ^ (63 - c) := by rw [← Nat.pow_add]; congr 1; omega
  have hm : 2 ^ (c + 1) * q % 2 ^ 64 = 2 ^ (c + 1) * (q % 2 ^ (63 - c)) := by rw [e64, Nat.mul_mod_mul_left]
  have hlt : 2 ^ c < 2 ^ (c + 1) := Nat.pow_lt_pow_right (by decide) (by omega)
  have hle : 2 ^ (c + 1) * (q % 2 ^ (63 - c)) + 2 ^ c < 2 ^ 64 := by
    have h2 : q % 2 ^ (63 - c) + 1 ≤ 2 ^ (63 - c) := Nat.mod_lt _ (Nat.two_pow_pos _)
    have h3 := Nat.mul_le_mul_left (2 ^ (c + 1)) h2
    rw [Nat.mul_add, ← e64] at h3
    omega
  rw [hm, ← Nat.two_pow_add_eq_or_of_lt hlt]
  rw [Nat.add_mod, hm, Nat.mod_eq_of_lt (a := 2 ^ c) (by omega), Nat.mod_eq_of_lt hle]
theorem bit_off {z c : Nat} (hc : c < 64) (hz : 2 ^ (c + 1) ∣ z) : UInt64.ofNat (z + 2 ^ c) &&& ~~~(shl64 1 c) = UInt64.ofNat z := by
  rw [← bit_or hc hz]
  obtain ⟨q, rfl⟩ := hz
  have h1 : (shl64 1 c).toNat = 2 ^ c := by
    unfold shl64
    rw [UInt64.toNat_ofNat', Nat.min_eq_left (by omega)]
    show 1 * 2 ^ c % 2 ^ 64 = _
    rw [Nat.one_mul, Nat.mod_eq_of_lt (Nat.pow_lt_pow_right (by decide) hc)]
  have e64 : (2 : Nat) ^ 64 = 2 ^ (c + 1) * 2 ^ (63 - c) := by rw [← Nat.pow_add]; congr 1; omega
  have hm : (UInt64.ofNat (2 ^ (c + 1) * q)).toNat = 2 ^ (c + 1) * (q % 2 ^ (63 - c)) := by rw [UInt64.toNat_ofNat', e64, Nat.mul_mod_mul_left]
  generalize UInt64.ofNat (2 ^ (c + 1) * q) = x at *
  generalize shl64 1 c = m at *
  apply UInt64.eq_of_toBitVec_eq
  simp only [UInt64.toBitVec_and, UInt64.toBitVec_or, UInt64.toBitVec_not]
  apply BitVec.eq_of_getLsbD_eq
  intro i hi
  have hx : x.toBitVec.getLsbD i = (2 ^ (c + 1) * (q % 2 ^ (63 - c))).testBit i := by rw [← hm]; rfl
  have hmm : m.toBitVec.getLsbD i = (2 ^ c).testBit i := by rw [← h1]; rfl
  simp only [BitVec.getLsbD_and, BitVec.getLsbD_or, BitVec.getLsbD_not, hx, hmm, hi, decide_true, Bool.true_and]
  rw [Nat.testBit_two_pow_mul, Nat.testBit_two_pow]
  by_cases e : c = i
  · subst e
    have : ¬ c ≥ c + 1 := by omega
    simp [this]
  · simp [e]
/-- two words -/
def yL (y : Nat) : List UInt64 := [UInt64.ofNat y, UInt64.ofNat (y / 2 ^ 64)]
theorem yL_val {y : Nat} (h : y < 2 ^ 128) : valL (yL y) = y := by
  simp only [yL, valL, UInt64.toNat_ofNat']
  omega
theorem pow_dvd_div {y b : Nat} (hb : 64 ≤ b) (h : 2 ^ (b + 1) ∣ y) : 2 ^ (b - 64 + 1) ∣ y / 2 ^ 64 ∧ (y + 2 ^ b) / 2 ^ 64 = y / 2 ^ 64 + 2 ^ (b - 64) ∧ UInt64.ofNat (y + 2 ^ b) = UInt64.ofNat y := by
  obtain ⟨q, rfl⟩ := h
  have e1 : (2 : Nat) ^ (b + 1) = 2 ^ 64 * 2 ^ (b - 64 + 1) := by rw [← Nat.pow_add]; congr 1; omega
  have e2 : (2 : Nat) ^ b = 2 ^ 64 * 2 ^ (b - 64) := by rw [← Nat.pow_add]; congr 1; omega
  rw [e1, Nat.mul_assoc, Nat.mul_div_cancel_left _ (by decide), e2, ← Nat.mul_add, Nat.mul_div_cancel_left _ (by decide)]
  refine ⟨⟨q, rfl⟩, rfl, ?_⟩
  rw [← UInt64.toNat_inj, UInt64.toNat_ofNat', UInt64.toNat_ofNat', Nat.mul_mod_right, Nat.mul_mod_right]
theorem div_same {y b : Nat} (hb : b < 64) (h : 2 ^ (b + 1) ∣ y) : (y + 2 ^ b) / 2 ^ 64 = y / 2 ^ 64 := by
  obtain ⟨q, rfl⟩ := h
  have e64 : (2 : Nat) ^ 64 = 2 ^ (b + 1) * 2 ^ (63 - b) := by rw [← Nat.pow_add]; congr 1; omega
  have hlt : 2 ^ b < 2 ^ (b + 1) := Nat.pow_lt_pow_right (by decide) (by omega)
  rw [e64, ← Nat.div_div_eq_div_mul, ← Nat.div_div_eq_div_mul, Nat.mul_add_div (Nat.two_pow_pos _), Nat.div_eq_of_lt hlt, Nat.add_zero, Nat.mul_div_cancel_left _ (Nat.two_pow_pos _)]
theorem yL_on {y b k c : Nat} (hb : b < 128) (h : 2 ^ (b + 1) ∣ y) (hk : k = b / 64) (hc : c = b % 64) : (yL y).set k ((yL y).getD k 0 ||| shl64 1 c) = yL (y + 2 ^ b) := by
  subst hk; subst hc
  rcases Nat.lt_or_ge b 64 with h1 | h1
  · rw [Nat.div_eq_of_lt h1, Nat.mod_eq_of_lt h1]
    simp only [yL, List.getD_cons_zero, List.set_cons_zero, bit_or h1 h, div_same h1 h]
  · obtain ⟨h2, h3, h4⟩ := pow_dvd_div h1 h
    rw [show b / 64 = 1 by omega, show b % 64 = b - 64 by omega]
    simp only [yL, List.getD_cons_succ, List.getD_cons_zero, List.set_cons_succ, List.set_cons_zero, bit_or (show b - 64 < 64 by omega) h2, h3, h4]
theorem yL_off {y b k c : Nat} (hb : b < 128) (h : 2 ^ (b + 1) ∣ y) (hk : k = b / 64) (hc : c = b % 64) : (yL (y + 2 ^ b)).set k ((yL (y + 2 ^ b)).getD k 0 &&& ~~~(shl64 1 c)) = yL y := by
  subst hk; subst hc
  rcases Nat.lt_or_ge b 64 with h1 | h1
  · rw [Nat.div_eq_of_lt h1, Nat.mod_eq_of_lt h1]
    simp only [yL, List.getD_cons_zero, List.set_cons_zero, bit_off h1 h, div_same h1 h]
  · obtain ⟨h2, h3, h4⟩ := pow_dvd_div h1 h
    rw [show b / 64 = 1 by omega, show b % 64 = b - 64 by omega]
    simp only [yL, List.getD_cons_succ, List.getD_cons_zero, List.set_cons_succ, List.set_cons_zero, h3, h4, bit_off (show b - 64 < 64 by omega) h2]
/-- the powers of y, as words -/
def pwL (y : List UInt64) : Nat → List UInt64
  | 0 => y
  | j + 1 => timesL (pwL y j) y
theorem pwL_length (y : List UInt64) : ∀ j, (pwL y j).length = y.length * (j + 1)
  | 0 => by simp [pwL]
  | j + 1 => by rw [pwL, timesL_length, pwL_length y j, Nat.mul_succ y.length (j + 1)]
theorem pwL_val (y : List UInt64) : ∀ j, valL (pwL y j) = valL y ^ (j + 1)
  | 0 => by simp [pwL]
  | j + 1 => by rw [pwL, timesL_val, pwL_val y j, Nat.pow_succ (n := valL y) (m := j + 1)]
@[simp] theorem yL_length (y : Nat) : (yL y).length = 2 := rfl
theorem yL_zero {p N : Nat} : yL (gr 81 p N 0) = [0, 0] := by simp [yL, gr]
def pSl (n s : Nat) : Nat → Value
  | 0 => .slice (some ⟨n, 0, none⟩) 2 2
  | j + 1 => .slice (some ⟨n + 2 + 10 * s + j, 0, none⟩) (2 * (j + 2)) (2 * (j + 2))
def pM (y : List UInt64) (n s : Nat) : Nat → Ups
  | 0 => [(n, some (.cells (encs y) false))]
  | j + 1 => [(n + 2 + 10 * s + j, some (.cells (encs (pwL y (j + 1))) false)), (n, some (.cells (encs y) false))]
def behN (p : Nat) (m : UInt64) : Nat := m.toNat % 2 ^ 32 * 2 ^ (64 * p)
def behV (p : Nat) (m : UInt64) : UInt64 := UInt64.ofNat (gr 81 p (behN p m) 81)
noncomputable def F68 : FnI := fun args H n => match args with
  | [x, .int .i64 p] => (dec x).bind fun (m : UInt64) => if p = 2 ∨ p = 3 then some ⟨enc (behV p.toNat m), [], n⟩ else none
  | _ => none
theorem F68_inv {args : List Value} {H : IHeap} {n : Nat} {e : Eff} (h : F68 args H n = some e) : ∃ (m : UInt64) (p : Nat), args = [enc m, .int .i64 p] ∧ (2 ≤ p ∧ p ≤ 3) ∧ e = ⟨enc (behV p m), [], n⟩ := by
  unfold F68 at h; split at h
  · simp only [Option.bind_eq_some_iff] at h
    obtain ⟨m, hm, h⟩ := h
    split at h
    · rename_i p hp; cases h
      exact ⟨m, p.toNat, by rw [dec_some hm, Int.toNat_of_nonneg (by omega)], by omega, rfl⟩
    · cases h
  · cases h
theorem F68_ev {H : IHeap} {n : Nat} (m : UInt64) (p : Nat) (hp : p = 2 ∨ p = 3) : F68 [enc m, .int .i64 p] H n = some ⟨enc (behV p m), [], n⟩ := by
  simp only [F68, dec_enc, Option.bind_some]
  rw [if_pos (by omega)]; rfl
theorem gr_on {p N s : Nat} {L : List UInt64} (hs : s < 81) (hL : L = pwL (yL (gr 81 p N s + 2 ^ (80 - s))) (p - 1)) (hp : p ≠ 0) (h : decide (valL L ≤ N) = true) : gr 81 p N (s + 1) = gr 81 p N s + 2 ^ (80 - s) := by
  have hle := gr_lt 81 p N s (by omega)
  have e : 2 ^ (81 - s) = 2 ^ (80 - s) + 2 ^ (80 - s) := by
    rw [show 81 - s = (80 - s) + 1 by omega, Nat.pow_succ]; omega
  have := Nat.two_pow_pos (80 - s)
  rw [hL, pwL_val, yL_val (by omega), show p - 1 + 1 = p by omega] at h
  rw [gr, show 81 - 1 - s = 80 - s by omega, if_pos (of_decide_eq_true h)]
theorem gr_off {p N s : Nat} {L : List UInt64} (hs : s < 81) (hL : L = pwL (yL (gr 81 p N s + 2 ^ (80 - s))) (p - 1)) (hp : p ≠ 0) (h : decide (valL L ≤ N) = false) : gr 81 p N (s + 1) = gr 81 p N s := by
  have hle := gr_lt 81 p N s (by omega)
  have e : 2 ^ (81 - s) = 2 ^ (80 - s) + 2 ^ (80 - s) := by
    rw [show 81 - s = (80 - s) + 1 by omega, Nat.pow_succ]; omega
  have := Nat.two_pow_pos (80 - s)
  rw [hL, pwL_val, yL_val (by omega), show p - 1 + 1 = p by omega] at h
  rw [gr, show 81 - 1 - s = 80 - s by omega, if_neg (of_decide_eq_false h)]
-- headwater/sha.behind ['UInt64', 'Int'] -> ['UInt64'], results [4]
theorem R68 : Ref Try.prog 68 F68 := by
  refine Ref.of_iw dok Try.func68 rfl (by kernel_rfl) fun args H n e hF => ?_
  obtain ⟨m, p, rfl, hp, rfl⟩ := F68_inv hF
  refine ⟨Nat.le_of_ble_eq_true rfl, ?_⟩
  simp only [idxL]
  have hE : Env Try.prog [(86, F86), (87, F87)] D K := env (fnsOk_cons R86 (fnsOk_cons R87 fnsOk_nil))
  refine IW.seq ?_
  refine IW.free (by simp) (fun hfree => ?_)
  refine IW.reg hE ?_
  refine vcS_val rfl rfl (ox_assign (pl (v := enc (0 : UInt64)) rfl)) ?_
  refine vcS_nil ?_
  refine IW.seq ?_
  refine IW.reg hE ?_
  refine vcS_val rfl rfl (ox_move (pl rfl)) ?_
  refine vcS_val rfl rfl (ox_bin (pl rfl) (pl (v := enc (4294967295 : UInt64)) rfl) (bo_u64_and _ _)) ?_
  refine vcS_val rfl rfl (ox_assign (pl rfl)) ?_
  refine vcS_nil ?_
  refine IW.seq ?_
  refine IW.reg hE ?_
  refine vcS_new rfl rfl (ox_bsl (cs := encs [(0 : UInt64), 0]) D_118 rfl D_22 (Nat.le_of_ble_eq_true rfl) rfl (by kernel_rfl)) (.inl (by omega)) ?_
  refine vcS_val rfl rfl (ox_assign (pl rfl)) ?_
  refine vcS_nil ?_
  refine IW.seq ?_
  refine IW.seq ?_
  refine IW.reg hE ?_
  refine vcS_val rfl rfl (ox_assign (pl rfl)) ?_
  refine vcS_nil ?_
  refine IW.block ?_
  refine IW.loop (S := Nat) (fun s => [(0, enc (m &&& 4294967295)), (1, .int .i64 p), (5, .slice (some ⟨n, 0, none⟩) 2 2), (6, .int .i64 (80 - (s : Int)))]) (fun s => [(n, some (.cells (encs (yL (gr 81 p ((m &&& 4294967295).toNat * 2 ^ (64 * p)) s))) false))]) (fun s => n + 2 + 10 * s) (fun s => s ≤ 81) (fun s => 81 - s) (0) (by simp) (⟨rfl, ⟨rfl, ⟨rfl, ⟨rfl, trivial⟩⟩⟩⟩) (leX_le (leX_cons (by rw [yL_zero]) leX_refl)) (by omega) (fun s hs => ?_)
  refine IW.seq ?_
  refine IW.seq ?_
  refine IW.reg hE ?_
  refine vcS_val rfl rfl (ox_move (pl rfl)) ?_
  refine vcS_val rfl rfl (ox_bin (pl rfl) (pl rfl) (bo_i64_geq _ _)) ?_
  refine vcS_nil ?_
  refine IW.cond rfl (fun hc1 => ?_) (fun hc1 => ?_)
  · replace hc1 := of_decide_eq_true hc1
    have hs81 : s < 81 := by omega
    have hd : 2 ^ (80 - s + 1) ∣ (gr 81 p ((m &&& 4294967295).toNat * 2 ^ (64 * p)) s) := by have := gr_dvd 81 p ((m &&& 4294967295).toNat * 2 ^ (64 * p)) s (by omega); rwa [show 81 - s = 80 - s + 1 by omega] at this
    refine IW.skip ?_
    refine IW.seq ?_
    refine IW.block ?_
    refine IW.seq ?_
    refine IW.drw hE mixed [[],[],[1],[0,1,2],[0,1,2,3],[],[5],[5,6],[0,1,2,3,4,5,6,7],[0,1,2,3,4,5,6,7,8],[0,1,2,3,4,5,6,7,8,9]] (by kernel_rfl) (vcE_start ?_)
    refine vcE_bl rfl rfl (fun _ => ox_move (pl rfl)) rfl rfl ?_
    refine vcE_bl rfl rfl (fun _ => ox_move (pl rfl)) rfl rfl ?_
    refine vcE_bl rfl rfl (fun _ => ox_bin (pl rfl) (pl rfl) (bo_i64_quo (80 - s) 64 (by omega) rfl (by decide) (by omega))) rfl rfl ?_
    refine vcE_bl rfl rfl (fun _ => ox_iaS (pl rfl) (pl rfl) D_118 rfl D_22 (by omega) (by omega)) rfl rfl ?_
    refine vcE_val rfl rfl rfl rfl (ox_load (pl rfl) D_22 (hp_eq _ _ _ _) (rd_ix ((80 - s) / 64) (0 : UInt64) rfl (by rw [Int.toNat_natCast]; show 0 + _ * 1 = _; omega) ((show (80 - s) / 64 < 2 by omega)))) rfl (si_load (pl rfl)) (lt1 (by omega)) (trivial) ?_
    refine vcE_bl rfl rfl (fun _ => ox_move (pl rfl)) rfl rfl ?_
    refine vcE_bl rfl rfl (fun _ => ox_bin (pl rfl) (pl rfl) (bo_i64_rem (80 - s) 64 (by omega) rfl (by decide))) rfl rfl ?_
    refine vcE_bl rfl rfl (fun _ => ox_bin (pl (v := enc (1 : UInt64)) rfl) (pl rfl) (bo_u64_shl _ (by omega))) rfl rfl ?_
    refine vcE_bl rfl rfl (fun _ => ox_bin (pl rfl) (pl rfl) (bo_u64_or _ _)) rfl rfl ?_
    refine vcE_bl rfl rfl (fun _ => ox_iaS (pl rfl) (pl rfl) D_118 rfl D_22 (by omega) (by omega)) rfl rfl ?_
    refine vcE_sto rfl rfl rfl rfl (ox_store (pl rfl) (pl rfl) D_22 (hp_eq _ _ _ _) rfl rfl (by rw [encs_length]; have := (show (80 - s) / 64 < 2 by omega); first | (simp; omega) | (simp at this ⊢; omega)) rfl (wr_ix ((80 - s) / 64) (by rw [Int.toNat_natCast]; show 0 + _ * 1 = _; omega) _)) rfl (si_store (pl rfl)) (is_some (hp_eq _ _ _ _)) (by omega) (.inl (by omega)) (trivial) (⟨trivial, trivial⟩) ?_
    refine vcE_nil ?_
    refine IW.seq ?_
    refine IW.reg hE ?_
    refine vcS_val rfl rfl (ox_move (pl rfl)) ?_
    refine vcS_val rfl rfl (ox_assign (pl rfl)) ?_
    refine vcS_nil ?_
    refine IW.seq ?_
    refine IW.seq ?_
    refine IW.reg hE ?_
    refine vcS_val rfl rfl (ox_move (pl rfl)) ?_
    refine vcS_val rfl rfl (ox_bin (pl rfl) (pl rfl) (bo_i64_sub (by omega))) ?_
    refine vcS_val rfl rfl (ox_move (pl rfl)) ?_
    refine vcS_nil ?_
    refine IW.block ?_
    refine IW.loop (S := Nat) (fun j => [(0, enc (m &&& 4294967295)), (1, .int .i64 p), (5, .slice (some ⟨n, 0, none⟩) 2 2), (6, .int .i64 (80 - (s : Int))), (7, pSl n s j), (27, .int .i64 ((p : Int) - 1)), (28, .int .i64 j)]) (fun j => pM (yL ((gr 81 p ((m &&& 4294967295).toNat * 2 ^ (64 * p)) s) + 2 ^ (80 - s))) n s j) (fun j => n + 2 + 10 * s + j) (fun j => j + 1 ≤ p) (fun j => p - j) (0) (by omega) (⟨rfl, ⟨rfl, ⟨rfl, ⟨rfl, ⟨rfl, ⟨rfl, ⟨rfl, trivial⟩⟩⟩⟩⟩⟩⟩) (leX_le (leX_cons (by rw [yL_on (b := 80 - s) (k := (80 - s) / 64) (c := (((80 - s) % 64 : Nat) : Int).toNat) (by omega) hd rfl (Int.toNat_natCast _)]) (leX_old (by simp) leX_refl))) (Nat.le_refl _) (fun j hj => ?_)
    refine IW.seq ?_
    rcases j with _ | _ | _ | j
    · simp only [pSl, pM]
      refine IW.reg hE ?_
      refine vcS_val rfl rfl (ox_bin (pl rfl) (pl rfl) (bo_i64_lss _ _)) ?_
      refine vcS_nil ?_
      refine IW.seq ?_
      refine IW.cond rfl (fun hc2 => ?_) (fun hc2 => ?_)
      · replace hc2 := of_decide_eq_true hc2
        refine IW.skip ?_
        refine IW.seq ?_
        refine IW.block ?_
        refine IW.reg hE ?_
        refine vcS_val rfl rfl (ox_move (pl rfl)) ?_
        refine vcS_val rfl rfl (ox_move (pl rfl)) ?_
        refine vcS_ups rfl rfl (ox_fn rfl rfl (F86_ev (k := 4) (rdC_1all (hp_eq _ _ _ _) rfl) (rdC_1all (hp_eq _ _ _ _) rfl) rfl (by decide))) rfl ⟨.inl (by omega), trivial⟩ ?_
        refine vcS_val rfl rfl (ox_assign (pl rfl)) ?_
        refine vcS_nil ?_
        refine IW.nilB ?_
        refine IW.reg hE ?_
        refine vcS_val rfl rfl (ox_bin (pl rfl) (pl rfl) (bo_i64_add (by omega))) ?_
        refine vcS_val rfl rfl (ox_move (pl rfl)) ?_
        refine vcS_nil ?_
        refine IW.nilS ?_
        exact ⟨0 + 1, _, _, by omega, by omega, rfl, ⟨rfl, ⟨rfl, ⟨rfl, ⟨(congrArg (fun z => some (Value.int .i64 z)) (by omega)), ⟨rfl, ⟨rfl, ⟨rfl, trivial⟩⟩⟩⟩⟩⟩⟩, rfl, leX_le (leX_cons rfl leX_refl), by omega⟩
      · exact absurd hc2 (by simp; omega)
    · simp only [pSl, pM]
      refine IW.reg hE ?_
      refine vcS_val rfl rfl (ox_bin (pl rfl) (pl rfl) (bo_i64_lss _ _)) ?_
      refine vcS_nil ?_
      refine IW.seq ?_
      refine IW.cond rfl (fun hc3 => ?_) (fun hc3 => ?_)
      · replace hc3 := of_decide_eq_true hc3
        refine IW.skip ?_
        refine IW.seq ?_
        refine IW.block ?_
        refine IW.reg hE ?_
        refine vcS_val rfl rfl (ox_move (pl rfl)) ?_
        refine vcS_val rfl rfl (ox_move (pl rfl)) ?_
        refine vcS_ups rfl rfl (ox_fn rfl rfl (F86_ev (k := 6) (rdC_1all (hp_eq _ _ _ _) (by rw [pwL_length]; rfl)) (rdC_1all (hp_sk (by omega) (hp_eq _ _ _ _)) rfl) (by rw [pwL_length]; rfl) (by decide))) rfl ⟨.inl (by omega), trivial⟩ ?_
        refine vcS_val rfl rfl (ox_assign (pl rfl)) ?_
        refine vcS_nil ?_
        refine IW.nilB ?_
        refine IW.reg hE ?_
        refine vcS_val rfl rfl (ox_bin (pl rfl) (pl rfl) (bo_i64_add (by omega))) ?_
        refine vcS_val rfl rfl (ox_move (pl rfl)) ?_
        refine vcS_nil ?_
        refine IW.nilS ?_
        exact ⟨0 + 1 + 1, _, _, by omega, by omega, rfl, ⟨rfl, ⟨rfl, ⟨rfl, ⟨(congrArg (fun z => some (Value.int .i64 z)) (by omega)), ⟨rfl, ⟨rfl, ⟨rfl, trivial⟩⟩⟩⟩⟩⟩⟩, rfl, leX_le (leX_cons rfl (leX_new (free_hp hfree (by omega) ⟨by omega, trivial⟩) leX_refl)), by omega⟩
      · replace hc3 := of_decide_eq_false hc3
        refine IW.exit ?_
        refine exS (exS ?_)
        refine blkQ_exit ?_
        refine IW.seq ?_
        refine IW.reg hE ?_
        refine vcS_val rfl rfl (ox_move (pl rfl)) ?_
        refine vcS_val rfl rfl (ox_move (pl rfl)) ?_
        refine vcS_val rfl rfl (ox_move (pl rfl)) ?_
        refine vcS_val rfl rfl (ox_fn rfl rfl (F87_ev p (rdC_1all (l := pwL (yL ((gr 81 p ((m &&& 4294967295).toNat * 2 ^ (64 * p)) s) + 2 ^ (80 - s))) 1) (hp_eq _ _ _ _) (by rw [pwL_length]; rfl)) rfl (by rw [pwL_length]; exact Nat.le_refl _) (by rw [pwL_length]; show 2 * _ ≤ _; omega) (by rw [pwL_length]; show _ < 2 * _; omega))) ?_
        refine vcS_val rfl rfl (ox_un (pl rfl) (uo_not _)) ?_
        refine vcS_nil ?_
        refine IW.cond rfl (fun hc4 => ?_) (fun hc4 => ?_)
        · have hoff := gr_off (p := p) (N := ((m &&& 4294967295).toNat * 2 ^ (64 * p))) (L := pwL (yL ((gr 81 p ((m &&& 4294967295).toNat * 2 ^ (64 * p)) s) + 2 ^ (80 - s))) 1) hs81 (by rw [show p - 1 = 1 by omega]) (by omega) (by simpa using hc4)
          refine IW.drw hE mixed [[],[],[1],[0,1,2],[0,1,2,3],[],[5],[5,6],[0,1,2,3,4,5,6,7],[0,1,2,3,4,5,6,7,8],[0,1,2,3,4,5,6,7,8,9]] (by kernel_rfl) (vcE_start ?_)
          refine vcE_bl rfl rfl (fun _ => ox_move (pl rfl)) rfl rfl ?_
          refine vcE_bl rfl rfl (fun _ => ox_move (pl rfl)) rfl rfl ?_
          refine vcE_bl rfl rfl (fun _ => ox_bin (pl rfl) (pl rfl) (bo_i64_quo (80 - s) 64 (by omega) rfl (by decide) (by omega))) rfl rfl ?_
          refine vcE_bl rfl rfl (fun _ => ox_iaS (pl rfl) (pl rfl) D_118 rfl D_22 (by omega) (by omega)) rfl rfl ?_
          refine vcE_val rfl rfl rfl rfl (ox_load (pl rfl) D_22 (hp_sk (by omega) (hp_eq _ _ _ _)) (rd_ix ((80 - s) / 64) (0 : UInt64) rfl (by rw [Int.toNat_natCast]; show 0 + _ * 1 = _; omega) ((show (80 - s) / 64 < 2 by omega)))) rfl (si_load (pl rfl)) (lt1 (by omega)) (trivial) ?_
          refine vcE_bl rfl rfl (fun _ => ox_move (pl rfl)) rfl rfl ?_
          refine vcE_bl rfl rfl (fun _ => ox_bin (pl rfl) (pl rfl) (bo_i64_rem (80 - s) 64 (by omega) rfl (by decide))) rfl rfl ?_
          refine vcE_bl rfl rfl (fun _ => ox_bin (pl (v := enc (1 : UInt64)) rfl) (pl rfl) (bo_u64_shl _ (by omega))) rfl rfl ?_
          refine vcE_bl rfl rfl (fun _ => ox_bin (pl rfl) (pl rfl) (bo_u64_andNot _ _)) rfl rfl ?_
          refine vcE_bl rfl rfl (fun _ => ox_iaS (pl rfl) (pl rfl) D_118 rfl D_22 (by omega) (by omega)) rfl rfl ?_
          refine vcE_sto rfl rfl rfl rfl (ox_store (pl rfl) (pl rfl) D_22 (hp_sk (by omega) (hp_eq _ _ _ _)) rfl rfl (by rw [encs_length]; have := (show (80 - s) / 64 < 2 by omega); first | (simp; omega) | (simp at this ⊢; omega)) rfl (wr_ix ((80 - s) / 64) (by rw [Int.toNat_natCast]; show 0 + _ * 1 = _; omega) _)) rfl (si_store (pl rfl)) (is_some (hp_sk (by omega) (hp_eq _ _ _ _))) (by omega) (.inl (by omega)) (trivial) (⟨trivial, trivial⟩) ?_
          refine vcE_nil ?_
          refine IW.nilB ?_
          refine IW.reg hE ?_
          refine vcS_val rfl rfl (ox_move (pl rfl)) ?_
          refine vcS_val rfl rfl (ox_bin (pl rfl) (pl rfl) (bo_i64_sub (by omega))) ?_
          refine vcS_val rfl rfl (ox_assign (pl rfl)) ?_
          refine vcS_nil ?_
          refine IW.nilS ?_
          exact ⟨s + 1, _, _, by omega, by omega, rfl, ⟨rfl, ⟨rfl, ⟨rfl, ⟨(congrArg (fun z => some (Value.int .i64 z)) (by omega)), trivial⟩⟩⟩⟩, rfl, leX_le (leX_same (hp_eq _ _ _ _) (by rw [hoff, yL_off (b := 80 - s) (k := (80 - s) / 64) (c := (((80 - s) % 64 : Nat) : Int).toNat) (by omega) hd rfl (Int.toNat_natCast _)]) (leX_none hfree (by exact ⟨by omega, ⟨by omega, ⟨by omega, trivial⟩⟩⟩))), by omega⟩
        · have hon := gr_on (p := p) (N := ((m &&& 4294967295).toNat * 2 ^ (64 * p))) (L := pwL (yL ((gr 81 p ((m &&& 4294967295).toNat * 2 ^ (64 * p)) s) + 2 ^ (80 - s))) 1) hs81 (by rw [show p - 1 = 1 by omega]) (by omega) (by simpa using hc4)
          refine IW.skip ?_
          refine IW.nilB ?_
          refine IW.reg hE ?_
          refine vcS_val rfl rfl (ox_move (pl rfl)) ?_
          refine vcS_val rfl rfl (ox_bin (pl rfl) (pl rfl) (bo_i64_sub (by omega))) ?_
          refine vcS_val rfl rfl (ox_assign (pl rfl)) ?_
          refine vcS_nil ?_
          refine IW.nilS ?_
          exact ⟨s + 1, _, _, by omega, by omega, rfl, ⟨rfl, ⟨rfl, ⟨rfl, ⟨(congrArg (fun z => some (Value.int .i64 z)) (by omega)), trivial⟩⟩⟩⟩, rfl, leX_le (leX_same (hp_sk (by omega) (hp_eq _ _ _ _)) (by rw [hon]) (leX_none hfree (by exact ⟨by omega, ⟨by omega, trivial⟩⟩))), by omega⟩
    · simp only [pSl, pM]
      refine IW.reg hE ?_
      refine vcS_val rfl rfl (ox_bin (pl rfl) (pl rfl) (bo_i64_lss _ _)) ?_
      refine vcS_nil ?_
      refine IW.seq ?_
      refine IW.cond rfl (fun hc5 => ?_) (fun hc5 => ?_)
      · exact absurd hc5 (by simp; omega)
      · replace hc5 := of_decide_eq_false hc5
        refine IW.exit ?_
        refine exS (exS ?_)
        refine blkQ_exit ?_
        refine IW.seq ?_
        refine IW.reg hE ?_
        refine vcS_val rfl rfl (ox_move (pl rfl)) ?_
        refine vcS_val rfl rfl (ox_move (pl rfl)) ?_
        refine vcS_val rfl rfl (ox_move (pl rfl)) ?_
        refine vcS_val rfl rfl (ox_fn rfl rfl (F87_ev p (rdC_1all (l := pwL (yL ((gr 81 p ((m &&& 4294967295).toNat * 2 ^ (64 * p)) s) + 2 ^ (80 - s))) 2) (hp_eq _ _ _ _) (by rw [pwL_length]; rfl)) rfl (by rw [pwL_length]; exact Nat.le_refl _) (by rw [pwL_length]; show 2 * _ ≤ _; omega) (by rw [pwL_length]; show _ < 2 * _; omega))) ?_
        refine vcS_val rfl rfl (ox_un (pl rfl) (uo_not _)) ?_
        refine vcS_nil ?_
        refine IW.cond rfl (fun hc6 => ?_) (fun hc6 => ?_)
        · have hoff := gr_off (p := p) (N := ((m &&& 4294967295).toNat * 2 ^ (64 * p))) (L := pwL (yL ((gr 81 p ((m &&& 4294967295).toNat * 2 ^ (64 * p)) s) + 2 ^ (80 - s))) 2) hs81 (by rw [show p - 1 = 2 by omega]) (by omega) (by simpa using hc6)
          refine IW.drw hE mixed [[],[],[1],[0,1,2],[0,1,2,3],[],[5],[5,6],[0,1,2,3,4,5,6,7],[0,1,2,3,4,5,6,7,8],[0,1,2,3,4,5,6,7,8,9]] (by kernel_rfl) (vcE_start ?_)
          refine vcE_bl rfl rfl (fun _ => ox_move (pl rfl)) rfl rfl ?_
          refine vcE_bl rfl rfl (fun _ => ox_move (pl rfl)) rfl rfl ?_
          refine vcE_bl rfl rfl (fun _ => ox_bin (pl rfl) (pl rfl) (bo_i64_quo (80 - s) 64 (by omega) rfl (by decide) (by omega))) rfl rfl ?_
          refine vcE_bl rfl rfl (fun _ => ox_iaS (pl rfl) (pl rfl) D_118 rfl D_22 (by omega) (by omega)) rfl rfl ?_
          refine vcE_val rfl rfl rfl rfl (ox_load (pl rfl) D_22 (hp_sk (by omega) (hp_eq _ _ _ _)) (rd_ix ((80 - s) / 64) (0 : UInt64) rfl (by rw [Int.toNat_natCast]; show 0 + _ * 1 = _; omega) ((show (80 - s) / 64 < 2 by omega)))) rfl (si_load (pl rfl)) (lt1 (by omega)) (trivial) ?_
          refine vcE_bl rfl rfl (fun _ => ox_move (pl rfl)) rfl rfl ?_
          refine vcE_bl rfl rfl (fun _ => ox_bin (pl rfl) (pl rfl) (bo_i64_rem (80 - s) 64 (by omega) rfl (by decide))) rfl rfl ?_
          refine vcE_bl rfl rfl (fun _ => ox_bin (pl (v := enc (1 : UInt64)) rfl) (pl rfl) (bo_u64_shl _ (by omega))) rfl rfl ?_
          refine vcE_bl rfl rfl (fun _ => ox_bin (pl rfl) (pl rfl) (bo_u64_andNot _ _)) rfl rfl ?_
          refine vcE_bl rfl rfl (fun _ => ox_iaS (pl rfl) (pl rfl) D_118 rfl D_22 (by omega) (by omega)) rfl rfl ?_
          refine vcE_sto rfl rfl rfl rfl (ox_store (pl rfl) (pl rfl) D_22 (hp_sk (by omega) (hp_eq _ _ _ _)) rfl rfl (by rw [encs_length]; have := (show (80 - s) / 64 < 2 by omega); first | (simp; omega) | (simp at this ⊢; omega)) rfl (wr_ix ((80 - s) / 64) (by rw [Int.toNat_natCast]; show 0 + _ * 1 = _; omega) _)) rfl (si_store (pl rfl)) (is_some (hp_sk (by omega) (hp_eq _ _ _ _))) (by omega) (.inl (by omega)) (trivial) (⟨trivial, trivial⟩) ?_
          refine vcE_nil ?_
          refine IW.nilB ?_
          refine IW.reg hE ?_
          refine vcS_val rfl rfl (ox_move (pl rfl)) ?_
          refine vcS_val rfl rfl (ox_bin (pl rfl) (pl rfl) (bo_i64_sub (by omega))) ?_
          refine vcS_val rfl rfl (ox_assign (pl rfl)) ?_
          refine vcS_nil ?_
          refine IW.nilS ?_
          exact ⟨s + 1, _, _, by omega, by omega, rfl, ⟨rfl, ⟨rfl, ⟨rfl, ⟨(congrArg (fun z => some (Value.int .i64 z)) (by omega)), trivial⟩⟩⟩⟩, rfl, leX_le (leX_same (hp_eq _ _ _ _) (by rw [hoff, yL_off (b := 80 - s) (k := (80 - s) / 64) (c := (((80 - s) % 64 : Nat) : Int).toNat) (by omega) hd rfl (Int.toNat_natCast _)]) (leX_none hfree (by exact ⟨by omega, ⟨by omega, ⟨by omega, trivial⟩⟩⟩))), by omega⟩
        · have hon := gr_on (p := p) (N := ((m &&& 4294967295).toNat * 2 ^ (64 * p))) (L := pwL (yL ((gr 81 p ((m &&& 4294967295).toNat * 2 ^ (64 * p)) s) + 2 ^ (80 - s))) 2) hs81 (by rw [show p - 1 = 2 by omega]) (by omega) (by simpa using hc6)
          refine IW.skip ?_
          refine IW.nilB ?_
          refine IW.reg hE ?_
          refine vcS_val rfl rfl (ox_move (pl rfl)) ?_
          refine vcS_val rfl rfl (ox_bin (pl rfl) (pl rfl) (bo_i64_sub (by omega))) ?_
          refine vcS_val rfl rfl (ox_assign (pl rfl)) ?_
          refine vcS_nil ?_
          refine IW.nilS ?_
          exact ⟨s + 1, _, _, by omega, by omega, rfl, ⟨rfl, ⟨rfl, ⟨rfl, ⟨(congrArg (fun z => some (Value.int .i64 z)) (by omega)), trivial⟩⟩⟩⟩, rfl, leX_le (leX_same (hp_sk (by omega) (hp_eq _ _ _ _)) (by rw [hon]) (leX_none hfree (by exact ⟨by omega, ⟨by omega, trivial⟩⟩))), by omega⟩
    · exact absurd hj (by omega)
  · replace hc1 := of_decide_eq_false hc1
    have h81 : s = 81 := by omega
    subst h81
    refine IW.exit ?_
    refine exS (exS ?_)
    refine blkQ_exit ?_
    refine IW.seq ?_
    refine IW.reg hE ?_
    refine vcS_val rfl rfl (ox_move (pl rfl)) ?_
    refine vcS_val rfl rfl (ox_iaS (pl rfl) (pl rfl) D_118 rfl D_22 (by omega) (by omega)) ?_
    refine vcS_val rfl rfl (ox_load (pl rfl) D_22 (hp_eq _ _ _ _) (rd_ix (0) (0 : UInt64) rfl (by simp) ((show 0 < 2 by decide)))) ?_
    refine vcS_val rfl rfl (ox_assign (pl rfl)) ?_
    refine vcS_nil ?_
    refine IW.ret ?_
    exact RetP.ret (.inr rfl) rfl rfl trivial (by unfold behV behN; rw [← and32_val]; rfl)
noncomputable def F28 : FnI := fn1 fun (m : UInt64) => enc (behV 2 m)
-- headwater/sha.Root ['UInt64'] -> ['UInt64'], results [2]
theorem R28 : Ref Try.prog 28 F28 := by
  refine Ref.of_iw dok Try.func28 rfl (by kernel_rfl) fun args H n e hF => ?_
  obtain ⟨a, rfl, rfl⟩ := fn1_inv hF
  refine ⟨Nat.le_of_ble_eq_true rfl, ?_⟩
  simp only [idxL]
  have hE : Env Try.prog [(68, F68)] D K := env (fnsOk_cons R68 fnsOk_nil)
  refine IW.seq ?_
  refine IW.reg hE ?_
  refine vcS_val rfl rfl (ox_assign (pl (v := enc (0 : UInt64)) rfl)) ?_
  refine vcS_nil ?_
  refine IW.seq ?_
  refine IW.reg hE ?_
  refine vcS_val rfl rfl (ox_move (pl rfl)) ?_
  refine vcS_val rfl rfl (ox_fn rfl rfl (F68_ev _ 2 (.inl rfl))) ?_
  refine vcS_val rfl rfl (ox_assign (pl rfl)) ?_
  refine vcS_nil ?_
  refine IW.ret ?_
  exact RetP.ret (.inr rfl) rfl rfl trivial (rfl)
noncomputable def F29 : FnI := fn1 fun (m : UInt64) => enc (behV 3 m)
-- headwater/sha.Cube ['UInt64'] -> ['UInt64'], results [2]
theorem R29 : Ref Try.prog 29 F29 := by
  refine Ref.of_iw dok Try.func29 rfl (by kernel_rfl) fun args H n e hF => ?_
  obtain ⟨a, rfl, rfl⟩ := fn1_inv hF
  refine ⟨Nat.le_of_ble_eq_true rfl, ?_⟩
  simp only [idxL]
  have hE : Env Try.prog [(68, F68)] D K := env (fnsOk_cons R68 fnsOk_nil)
  refine IW.seq ?_
  refine IW.reg hE ?_
  refine vcS_val rfl rfl (ox_assign (pl (v := enc (0 : UInt64)) rfl)) ?_
  refine vcS_nil ?_
  refine IW.seq ?_
  refine IW.reg hE ?_
  refine vcS_val rfl rfl (ox_move (pl rfl)) ?_
  refine vcS_val rfl rfl (ox_fn rfl rfl (F68_ev _ 3 (.inr rfl))) ?_
  refine vcS_val rfl rfl (ox_assign (pl rfl)) ?_
  refine vcS_nil ?_
  refine IW.ret ?_
  exact RetP.ret (.inr rfl) rfl rfl trivial (rfl)
end Go.Proofs.Ytdnnojblneccdaa
/-
  The chapter's examples.
-/
namespace Go.Proofs.Ytdnnojblneccdaa
set_option linter.unusedSimpArgs false
set_option linter.unusedVariables false
open Go
open Enc (enc)
set_option maxRecDepth 100000

def abcL : List UInt8 := [221, 175, 53, 161, 147, 97, 122, 186, 204, 65, 115, 73, 174, 32, 65, 49, 18, 230, 250, 78, 137, 169, 126, 162, 10, 158, 238, 230, 75, 85, 211, 154, 33, 146, 153, 42, 39, 79, 193, 168, 54, 186, 60, 35, 163, 254, 235, 189, 69, 77, 68, 35, 100, 60, 232, 14, 42, 154, 201, 79, 165, 76, 164, 159]
def abcV : Vector UInt8 64 := ⟨abcL.toArray, by decide⟩
theorem abc_sum : sumV startV [97, 98, 99] = abcV := by
  have : (sumV startV [97, 98, 99]).toList = abcL := by decide +kernel
  exact Vector.toList_inj.1 (this.trans (by rfl))
def abdL : List UInt8 := [83, 4, 142, 38, 129, 148, 30, 249, 155, 46, 41, 183, 107, 76, 125, 171, 228, 194, 208, 198, 52, 252, 109, 70, 224, 226, 241, 49, 7, 231, 175, 35]
def abdV : Vector UInt8 32 := ⟨abdL.toArray, by decide⟩
theorem abd_sum : digV [97, 98, 99] = abdV := by
  have : (digV [97, 98, 99]).toList = abdL := by decide +kernel
  exact Vector.toList_inj.1 (this.trans (by rfl))
def nilL : List UInt8 := [207, 131, 225, 53, 126, 239, 184, 189, 241, 84, 40, 80, 214, 109, 128, 7, 214, 32, 228, 5, 11, 87, 21, 220, 131, 244, 169, 33, 211, 108, 233, 206, 71, 208, 209, 60, 93, 133, 242, 176, 255, 131, 24, 210, 135, 126, 236, 47, 99, 185, 49, 189, 71, 65, 122, 129, 165, 56, 50, 122, 249, 39, 218, 62]
def nilV : Vector UInt8 64 := ⟨nilL.toArray, by decide⟩
theorem nil_sum : sumV startV [] = nilV := by
  have : (sumV startV []).toList = nilL := by decide +kernel
  exact Vector.toList_inj.1 (this.trans (by rfl))
theorem root2 : behV 2 2 = 0x6a09e667f3bcc908 := by decide +kernel
theorem root4 : behV 2 4 = 0 := by decide +kernel
theorem cube2 : behV 3 2 = 0x428a2f98d728ae22 := by decide +kernel
theorem cube27 : behV 3 27 = 0 := by decide +kernel
theorem rootBig : behV 2 4294967298 = 0x6a09e667f3bcc908 := by decide +kernel
theorem rdL_one {H : IHeap} {s : Sl} {l : List UInt8} (h : rdC H (enc s) = some l) : rdL UInt8 H [s] = some [l] := by
  simp only [rdL, h]
theorem ev24 {x : Value} {H : IHeap} {n : Nat} {s : Sl} {l : List UInt8} {v : Vector UInt8 64} (hS : rdC H x = some [s]) (hl : rdC H (enc s) = some l) (h2 : l.length ≤ 2 ^ 40) (hv : sumV startV l = v) : F24 [x] H n = some ⟨enc v, [], n⟩ := by
  subst hv
  exact sumF_ev hS (rdL_one hl) (by simp) (by simp) h2
theorem ev38 {x : Value} {H : IHeap} {n : Nat} {s : Sl} {l : List UInt8} {v : Vector UInt8 32} (hS : rdC H x = some [s]) (hl : rdC H (enc s) = some l) (h2 : l.length ≤ 2 ^ 40) (hv : digV l = v) : F38 [x] H n = some ⟨enc v, [], n⟩ := by
  subst hv
  exact sumF_ev hS (rdL_one hl) (by simp) (by simp) h2
theorem fn1_to {α : Type} [Enc α] {f : α → Value} {H : IHeap} {n : Nat} (a : α) {v : Value} (h : f a = v) : fn1 f [enc a] H n = some ⟨v, [], n⟩ := by
  subst h; exact fn1_ev _ _ _ _
noncomputable def F27 : FnI := fn0 (.bool true)
-- headwater/headwaterlaw02.lives [] -> ['Bool'], results [0]
theorem R27 : Ref Try.prog 27 F27 := by
  refine Ref.of_iw dok Try.func27 rfl (by kernel_rfl) fun args H n e hF => ?_
  obtain ⟨rfl, rfl⟩ := fn0_inv hF
  refine ⟨Nat.le_of_ble_eq_true rfl, ?_⟩
  simp only [idxL]
  have hE : Env Try.prog [(24, F24), (28, F28), (29, F29), (38, F38)] D K := env (fnsOk_cons R24 (fnsOk_cons R28 (fnsOk_cons R29 (fnsOk_cons R38 fnsOk_nil))))
  refine IW.seq ?_
  refine IW.reg hE ?_
  refine vcS_val rfl rfl (ox_assign (pl rfl)) ?_
  refine vcS_nil ?_
  refine IW.seq ?_
  refine IW.reg hE ?_
  refine vcS_new rfl rfl (ox_bsl (cs := encs [(97 : UInt8), 98, 99]) D_35 rfl D_5 (Nat.le_of_ble_eq_true rfl) rfl (by kernel_rfl)) (.inl (by omega)) ?_
  refine vcS_ups rfl rfl (ox_cvSl (pl rfl) D_35 rfl D_5 rfl (hp_eq _ _ _ _)) rfl ⟨.inl (by omega), trivial⟩ ?_
  refine vcS_new rfl rfl (ox_bsl (cs := cels [(⟨some ⟨n, 0, none⟩, 3, 3⟩ : Sl)]) D_94 rfl D_35 (Nat.le_of_ble_eq_true rfl) rfl rfl) (.inl (by omega)) ?_
  refine vcS_val rfl rfl (ox_fn rfl rfl (ev24 (s := (⟨some ⟨n, 0, none⟩, 3, 3⟩ : Sl)) (rdC_all (hp_eq _ _ _ _) rfl) (rdC_1all (l := [97, 98, 99]) (hp_sk (by omega) (hp_eq _ _ _ _)) rfl) (by decide) abc_sum)) ?_
  refine vcS_new rfl rfl (ox_bsl (cs := encs [(97 : UInt8), 98, 99]) D_35 rfl D_5 (Nat.le_of_ble_eq_true rfl) rfl (by kernel_rfl)) (.inl (by omega)) ?_
  refine vcS_ups rfl rfl (ox_cvSl (pl rfl) D_35 rfl D_5 rfl (hp_eq _ _ _ _)) rfl ⟨.inl (by omega), trivial⟩ ?_
  refine vcS_new rfl rfl (ox_bsl (cs := cels [(⟨some ⟨n + 1 + 1, 0, none⟩, 3, 3⟩ : Sl)]) D_94 rfl D_35 (Nat.le_of_ble_eq_true rfl) rfl rfl) (.inl (by omega)) ?_
  refine vcS_val rfl rfl (ox_fn rfl rfl (ev38 (s := (⟨some ⟨n + 1 + 1, 0, none⟩, 3, 3⟩ : Sl)) (rdC_all (hp_eq _ _ _ _) rfl) (rdC_1all (l := [97, 98, 99]) (hp_sk (by omega) (hp_eq _ _ _ _)) rfl) (by decide) abd_sum)) ?_
  refine vcS_new rfl rfl (ox_allocZ (cs := encs (Vector.replicate 64 (0 : UInt8)).toList) D_26 rfl) (.inl (by omega)) ?_
  refine vcS_new rfl rfl (ox_allocZ (cs := encs (Vector.replicate 32 (0 : UInt8)).toList) D_24 rfl) (.inl (by omega)) ?_
  refine vcS_sto rfl rfl (ox_store (pl rfl) (pl rfl) D_26 (hp_sk (by omega) (hp_eq _ _ _ _)) rfl (encs_vec_length _) (le_vec _ rfl) (encs_known _) (wr_all (by simp only [encs_vec_length]))) (.inl (by omega)) ?_
  refine vcS_sto rfl rfl (ox_store (pl rfl) (pl rfl) D_24 (hp_sk (by omega) (hp_eq _ _ _ _)) rfl (encs_vec_length _) (le_vec _ rfl) (encs_known _) (wr_all (by simp only [encs_vec_length]))) (.inl (by omega)) ?_
  refine vcS_nil ?_
  refine IW.seq ?_
  refine IW.reg hE ?_
  refine vcS_val rfl rfl (ox_slAH (pl rfl) D_26 rfl D_5 (bndI (pl rfl) rfl) (by first | omega | decide)) ?_
  refine vcS_val rfl rfl (ox_cvS (pl rfl) D_35 rfl D_5 rfl D_9 rfl (rdC_sl0 (len := 64) (rdC_1all (l := abcV.toList) (hp_sk (by omega) (hp_eq _ _ _ _)) rfl) (by decide))) ?_
  refine vcS_val rfl rfl (ox_bin (pl rfl) (pl (v := .string (bs [221, 175, 53, 161, 147, 97, 122, 186])) rfl) ((bo_str_eql _ _).trans (congrArg (fun b => some (Value.bool b)) (show _ = true by kernel_rfl)))) ?_
  refine vcS_val rfl rfl (ox_move (pl rfl)) ?_
  refine vcS_T rfl (wgT rfl rfl rfl) rfl (ox_slAH (pl rfl) D_24 rfl D_5 (bndI (pl rfl) rfl) (by first | omega | decide)) rfl trivial ?_
  refine vcS_T rfl (wgT rfl rfl rfl) rfl (ox_cvS (pl rfl) D_35 rfl D_5 rfl D_9 rfl (rdC_sl0 (len := 32) (rdC_1all (l := abdV.toList) (hp_eq _ _ _ _) rfl) (by decide))) rfl trivial ?_
  refine vcS_T rfl (wgT rfl rfl rfl) rfl (ox_bin (pl rfl) (pl (v := .string (bs [83, 4, 142, 38, 129, 148, 30, 249])) rfl) ((bo_str_eql _ _).trans (congrArg (fun b => some (Value.bool b)) (show _ = true by kernel_rfl)))) rfl trivial ?_
  refine vcS_val rfl rfl (ox_and (pl rfl) (fun hc => pl rfl) (pl rfl)) ?_
  refine vcS_val rfl rfl (ox_move (pl rfl)) ?_
  refine vcS_T rfl (wgT rfl rfl rfl) rfl (ox_fn rfl rfl (fn1_to (2 : UInt64) (v := enc (7640891576956012808 : UInt64)) (congrArg enc root2))) rfl trivial ?_
  refine vcS_T rfl (wgT rfl rfl rfl) rfl (ox_bin (pl rfl) (pl (v := enc (7640891576956012808 : UInt64)) rfl) ((bo_u64_eql _ _).trans (congrArg (fun b => some (Value.bool b)) (show _ = true by kernel_rfl)))) rfl trivial ?_
  refine vcS_val rfl rfl (ox_and (pl rfl) (fun hc => pl rfl) (pl rfl)) ?_
  refine vcS_val rfl rfl (ox_move (pl rfl)) ?_
  refine vcS_T rfl (wgT rfl rfl rfl) rfl (ox_fn rfl rfl (fn1_to (2 : UInt64) (v := enc (4794697086780616226 : UInt64)) (congrArg enc cube2))) rfl trivial ?_
  refine vcS_T rfl (wgT rfl rfl rfl) rfl (ox_bin (pl rfl) (pl (v := enc (4794697086780616226 : UInt64)) rfl) ((bo_u64_eql _ _).trans (congrArg (fun b => some (Value.bool b)) (show _ = true by kernel_rfl)))) rfl trivial ?_
  refine vcS_val rfl rfl (ox_and (pl rfl) (fun hc => pl rfl) (pl rfl)) ?_
  refine vcS_val rfl rfl (ox_assign (pl rfl)) ?_
  refine vcS_nil ?_
  refine IW.ret ?_
  exact RetP.ret (.inr rfl) rfl rfl trivial (rfl)
noncomputable def F5 : FnI := fn0 (.bool true)
-- headwater/headwaterlaw02.ShaNames [] -> ['Bool'], results [0]
theorem R5 : Ref Try.prog 5 F5 := by
  refine Ref.of_iw dok Try.func5 rfl (by kernel_rfl) fun args H n e hF => ?_
  obtain ⟨rfl, rfl⟩ := fn0_inv hF
  refine ⟨Nat.le_of_ble_eq_true rfl, ?_⟩
  simp only [idxL]
  have hE : Env Try.prog [(24, F24), (25, F25), (26, F26), (27, F27), (28, F28), (29, F29), (30, F30)] D K := env (fnsOk_cons R24 (fnsOk_cons R25 (fnsOk_cons R26 (fnsOk_cons R27 (fnsOk_cons R28 (fnsOk_cons R29 (fnsOk_cons R30 fnsOk_nil)))))))
  refine IW.seq ?_
  refine IW.reg hE ?_
  refine vcS_val rfl rfl (ox_assign (pl rfl)) ?_
  refine vcS_nil ?_
  refine IW.seq ?_
  refine IW.reg hE ?_
  refine vcS_new rfl rfl (ox_bsl (cs := cels [(⟨none, 0, 0⟩ : Sl)]) D_94 rfl D_35 (Nat.le_of_ble_eq_true rfl) rfl rfl) (.inl (by omega)) ?_
  refine vcS_val rfl rfl (ox_fn rfl rfl (ev24 (s := (⟨none, 0, 0⟩ : Sl)) (l := []) (rdC_all (hp_eq _ _ _ _) rfl) rfl (by decide) nil_sum)) ?_
  refine vcS_new rfl rfl (ox_allocZ (cs := encs (Vector.replicate 64 (0 : UInt8)).toList) D_26 rfl) (.inl (by omega)) ?_
  refine vcS_sto rfl rfl (ox_store (pl rfl) (pl rfl) D_26 (hp_eq _ _ _ _) rfl (encs_vec_length _) (le_vec _ rfl) (encs_known _) (wr_all (by simp only [encs_vec_length]))) (.inl (by omega)) ?_
  refine vcS_nil ?_
  refine IW.seq ?_
  refine IW.reg hE ?_
  refine vcS_val rfl rfl (ox_fn rfl rfl (fn0_ev _ _ _)) ?_
  refine vcS_new rfl rfl (ox_allocZ (cs := encs (Vector.replicate 80 (0 : UInt64)).toList) D_48 rfl) (.inl (by omega)) ?_
  refine vcS_sto rfl rfl (ox_store (pl rfl) (pl rfl) D_48 (hp_eq _ _ _ _) rfl (encs_vec_length _) (le_vec _ rfl) (encs_known _) (wr_all (by simp only [encs_vec_length]))) (.inl (by omega)) ?_
  refine vcS_nil ?_
  refine IW.seq ?_
  refine IW.reg hE ?_
  refine vcS_val rfl rfl (ox_fn rfl rfl (fn0_ev _ _ _)) ?_
  refine vcS_new rfl rfl (ox_allocZ (cs := encs (Vector.replicate 8 (0 : UInt64)).toList) D_50 rfl) (.inl (by omega)) ?_
  refine vcS_sto rfl rfl (ox_store (pl rfl) (pl rfl) D_50 (hp_eq _ _ _ _) rfl (encs_vec_length _) (le_vec _ rfl) (encs_known _) (wr_all (by simp only [encs_vec_length]))) (.inl (by omega)) ?_
  refine vcS_nil ?_
  refine IW.seq ?_
  refine IW.reg hE ?_
  refine vcS_val rfl rfl (ox_fn rfl rfl (fn0_ev _ _ _)) ?_
  refine vcS_val rfl rfl (ox_move (pl rfl)) ?_
  refine vcS_T rfl (wgT rfl rfl rfl) rfl (ox_slAH (pl rfl) D_26 rfl D_5 (bndI (pl rfl) rfl) (by first | omega | decide)) rfl trivial ?_
  refine vcS_T rfl (wgT rfl rfl rfl) rfl (ox_cvS (pl rfl) D_35 rfl D_5 rfl D_9 rfl (rdC_sl0 (len := 64) (rdC_1all (l := nilV.toList) (hp_sk (by omega) (hp_sk (by omega) (hp_sk (by omega) (hp_sk (by omega) (hp_eq _ _ _ _))))) rfl) (by decide))) rfl trivial ?_
  refine vcS_T rfl (wgT rfl rfl rfl) rfl (ox_bin (pl rfl) (pl (v := .string (bs [207, 131, 225, 53])) rfl) ((bo_str_eql _ _).trans (congrArg (fun b => some (Value.bool b)) (show _ = true by kernel_rfl)))) rfl trivial ?_
  refine vcS_val rfl rfl (ox_and (pl rfl) (fun hc => pl rfl) (pl rfl)) ?_
  refine vcS_val rfl rfl (ox_move (pl rfl)) ?_
  refine vcS_T rfl (wgT rfl rfl rfl) rfl (ox_iaA (pl rfl) (pl rfl) D_48 rfl D_22 (by omega) (by omega)) rfl trivial ?_
  refine vcS_T rfl (wgT rfl rfl rfl) rfl (ox_load (pl rfl) D_22 (hp_sk (by omega) (hp_sk (by omega) (hp_eq _ _ _ _))) (rd_ix (79) (0 : UInt64) rfl (rfl) (by decide))) rfl trivial ?_
  refine vcS_T rfl (wgT rfl rfl rfl) rfl (ox_bin (pl rfl) (pl (v := enc (7801388544844847127 : UInt64)) rfl) ((bo_u64_eql _ _).trans (congrArg (fun b => some (Value.bool b)) (show _ = true by kernel_rfl)))) rfl trivial ?_
  refine vcS_val rfl rfl (ox_and (pl rfl) (fun hc => pl rfl) (pl rfl)) ?_
  refine vcS_val rfl rfl (ox_move (pl rfl)) ?_
  refine vcS_T rfl (wgT rfl rfl rfl) rfl (ox_iaA (pl rfl) (pl rfl) D_50 rfl D_22 (by omega) (by omega)) rfl trivial ?_
  refine vcS_T rfl (wgT rfl rfl rfl) rfl (ox_load (pl rfl) D_22 (hp_eq _ _ _ _) (rd_ix (7) (0 : UInt64) rfl (rfl) (by decide))) rfl trivial ?_
  refine vcS_T rfl (wgT rfl rfl rfl) rfl (ox_bin (pl rfl) (pl (v := enc (6620516959819538809 : UInt64)) rfl) ((bo_u64_eql _ _).trans (congrArg (fun b => some (Value.bool b)) (show _ = true by kernel_rfl)))) rfl trivial ?_
  refine vcS_val rfl rfl (ox_and (pl rfl) (fun hc => pl rfl) (pl rfl)) ?_
  refine vcS_val rfl rfl (ox_move (pl rfl)) ?_
  refine vcS_T rfl (wgT rfl rfl rfl) rfl (ox_fn rfl rfl (fn1_to (4 : UInt64) (v := enc (0 : UInt64)) (congrArg enc root4))) rfl trivial ?_
  refine vcS_T rfl (wgT rfl rfl rfl) rfl (ox_bin (pl rfl) (pl (v := enc (0 : UInt64)) rfl) ((bo_u64_eql _ _).trans (congrArg (fun b => some (Value.bool b)) (show _ = true by kernel_rfl)))) rfl trivial ?_
  refine vcS_val rfl rfl (ox_and (pl rfl) (fun hc => pl rfl) (pl rfl)) ?_
  refine vcS_val rfl rfl (ox_move (pl rfl)) ?_
  refine vcS_T rfl (wgT rfl rfl rfl) rfl (ox_fn rfl rfl (fn1_to (27 : UInt64) (v := enc (0 : UInt64)) (congrArg enc cube27))) rfl trivial ?_
  refine vcS_T rfl (wgT rfl rfl rfl) rfl (ox_bin (pl rfl) (pl (v := enc (0 : UInt64)) rfl) (bo_u64_eql _ _)) rfl trivial ?_
  refine vcS_val rfl rfl (ox_and (pl rfl) (fun hc => pl rfl) (pl rfl)) ?_
  refine vcS_val rfl rfl (ox_move (pl rfl)) ?_
  refine vcS_T rfl (wgT rfl rfl rfl) rfl (ox_fn rfl rfl (fn1_to (4294967298 : UInt64) (v := enc (7640891576956012808 : UInt64)) (congrArg enc rootBig))) rfl trivial ?_
  refine vcS_T rfl (wgT rfl rfl rfl) rfl (ox_fn rfl rfl (fn1_to (2 : UInt64) (v := enc (7640891576956012808 : UInt64)) (congrArg enc root2))) rfl trivial ?_
  refine vcS_T rfl (wgT rfl rfl rfl) rfl (ox_bin (pl rfl) (pl rfl) ((bo_u64_eql _ _).trans (congrArg (fun b => some (Value.bool b)) (show _ = true by kernel_rfl)))) rfl trivial ?_
  refine vcS_val rfl rfl (ox_and (pl rfl) (fun hc => pl rfl) (pl rfl)) ?_
  refine vcS_val rfl rfl (ox_move (pl rfl)) ?_
  refine vcS_T rfl (wgT rfl rfl rfl) rfl (ox_fn rfl rfl (F30_ev (b := []) rfl (by decide))) rfl ⟨.inl (by omega), trivial⟩ ?_
  refine vcS_T rfl (wgT rfl rfl rfl) rfl (ox_len (pl rfl) D_35 rfl) rfl trivial ?_
  refine vcS_T rfl (wgT rfl rfl rfl) rfl (ox_bin (pl rfl) (pl rfl) ((bo_i64_eql _ _).trans (congrArg (fun b => some (Value.bool b)) (show _ = true by kernel_rfl)))) rfl trivial ?_
  refine vcS_val rfl rfl (ox_and (pl rfl) (fun hc => pl rfl) (pl rfl)) ?_
  refine vcS_val rfl rfl (ox_move (pl rfl)) ?_
  refine vcS_T rfl (wgT rfl rfl rfl) rfl (ox_makeN 112 112 (0 : UInt8) (pl rfl) rfl (pl rfl) rfl D_35 rfl D_5 rfl (Nat.le_refl _) (by decide) (by decide)) rfl ⟨.inl (by omega), trivial⟩ ?_
  refine vcS_T rfl (wgT rfl rfl rfl) rfl (ox_fn rfl rfl (F30_ev (b := List.replicate 112 0) (rdC_1all (hp_eq _ _ _ _) rfl) (by decide))) rfl ⟨.inl (by omega), trivial⟩ ?_
  refine vcS_T rfl (wgT rfl rfl rfl) rfl (ox_len (pl rfl) D_35 rfl) rfl trivial ?_
  refine vcS_T rfl (wgT rfl rfl rfl) rfl (ox_bin (pl rfl) (pl rfl) ((bo_i64_eql _ _).trans (congrArg (fun b => some (Value.bool b)) (show _ = true by kernel_rfl)))) rfl trivial ?_
  refine vcS_val rfl rfl (ox_and (pl rfl) (fun hc => pl rfl) (pl rfl)) ?_
  refine vcS_val rfl rfl (ox_assign (pl rfl)) ?_
  refine vcS_nil ?_
  refine IW.ret ?_
  exact RetP.ret (.inr rfl) rfl rfl trivial (rfl)
end Go.Proofs.Ytdnnojblneccdaa
/-
  From a law's arguments to the ideal ones.
-/
namespace Go.Proofs.Ytdnnojblneccdaa
set_option linter.unusedSimpArgs false
set_option linter.unusedVariables false
open Go Go.ChangeShapes Go.WideShapes Go.ChangeAt Go.RowKit
open Enc (enc)
set_option maxRecDepth 100000

theorem Try.own : ownKnob Try.prog.godebug = none := by kernel_rfl
theorem Try.laidOut : laidOutB Try.prog = true := by kernel_rfl
theorem vr_u8s {ρ : Ren} {l : List UInt8} : ∀ x ∈ encs l, VR ρ x x := fun x hx => by
  simp only [encs, List.mem_map] at hx
  obtain ⟨_, _, rfl⟩ := hx
  exact .int _ _
theorem vr_u64s {ρ : Ren} {l : List UInt64} : ∀ x ∈ encs l, VR ρ x x := fun x hx => by
  simp only [encs, List.mem_map] at hx
  obtain ⟨_, _, rfl⟩ := hx
  exact .int _ _
theorem vr_agg {ρ : Ren} {c : List Value} (h : ∀ x ∈ c, VR ρ x x) : VR ρ (.agg c.toArray) (.agg c.toArray) := by
  refine .agg rfl fun i x y hx hy => ?_
  rw [hx] at hy; cases hy
  exact h x (by simpa using Array.mem_of_getElem? hx)
theorem elem_u8 {T : Type} {W : World} : ElemOk T Try.prog W 5 UInt8 := elemOk_u8 Try.underlying5 (by kernel_rfl)
theorem cell_of {P : Program} {W : World} {base : Nat} {t : TypeId} {v : Value} {α : Type} [Enc α] (hc : CellIs P t α) (hu : (match P.underlying t with | some (.struct _) | some (.array _ _) => false | _ => true) = true) (h : Value.okWide P W .any base t v) : ∃ a : α, v = enc a := by
  refine hc.is W base v ?_
  unfold Value.okWide at h
  split at h
  · rename_i e; rw [e] at hu; simp at hu
  · rename_i e; rw [e] at hu; simp at hu
  · exact h
theorem int_of {W : World} {base : Nat} {v : Value} (h : Value.okWide Try.prog W .any base 3 v) : ∃ a : Int, v = .int .i64 a :=
  cell_of (α := Int) (cellIs_i64 Try.underlying3) (by kernel_rfl) h
theorem cellIs_u32 {P : Program} {t : TypeId} (ht : P.underlying t = some (.int .u32)) : CellIs P t UInt32 := ⟨fun W base v h => by
  obtain ⟨n, rfl, h1, h2⟩ := int_cell ht h
  have h1 : 0 ≤ n := h1
  have h2 : n ≤ 4294967295 := h2
  refine ⟨UInt32.ofNat n.toNat, ?_⟩
  show Value.int .u32 n = .int .u32 _
  congr 1
  rw [UInt32.toNat_ofNat']
  omega⟩
theorem bytes_of {W : World} {base : Nat} {v : Value} (h : Value.okWide Try.prog W .any base 35 v) : ∃ s : Sl, v = enc s ∧ SlOk W s := by
  have h2 : Cell.okWide Try.prog W .any base 35 v := by
    unfold Value.okWide at h
    rw [Try.underlying35] at h
    exact h
  exact slOk_of Try.underlying35 h2
theorem bytes_mem {T : Type} {en : TypeId × Value → T} {W : World} {sp : Nat → Bool} {hd : Bool} {s : Sl} {d : DataW T} {p : List MemPlace} (h1 : SlOk W s) (h : DataW.Trod en Try.prog W 0 sp hd 35 (enc s) d p) :
    ∃ l : List UInt8, rdC (HW W) (enc s) = some l := by
  obtain ⟨fuel, h⟩ := h
  exact rdC_world Try.underlying35 elem_u8 h1 h
theorem u64s_of {k t : Nat} {W : World} {base : Nat} {v : Value} (hu : Try.prog.underlying t = some (.array k 22)) (hts : Try.prog.cellTypes Try.prog.depth t = some (List.replicate k 22)) (hsz : Try.prog.cellsOf t = (List.replicate k 22).length) (h : Value.okWide Try.prog W .any base t v) : ∃ a : Vector UInt64 k, v = enc a := by
  obtain ⟨c, rfl, hc⟩ := fits_of_wide (ts := List.replicate k 22) hu rfl hts hsz h
  obtain ⟨a, rfl⟩ := fits_many (cellIs_u64 Try.underlying22) k hc
  exact ⟨a, rfl⟩
theorem u8s_of {k t : Nat} {W : World} {base : Nat} {v : Value} (hu : Try.prog.underlying t = some (.array k 5)) (hts : Try.prog.cellTypes Try.prog.depth t = some (List.replicate k 5)) (hsz : Try.prog.cellsOf t = (List.replicate k 5).length) (h : Value.okWide Try.prog W .any base t v) : ∃ a : Vector UInt8 k, v = enc a := by
  obtain ⟨c, rfl, hc⟩ := fits_of_wide (ts := List.replicate k 5) hu rfl hts hsz h
  obtain ⟨a, rfl⟩ := fits_many (cellIs_u8 Try.underlying5) k hc
  exact ⟨a, rfl⟩
end Go.Proofs.Ytdnnojblneccdaa
