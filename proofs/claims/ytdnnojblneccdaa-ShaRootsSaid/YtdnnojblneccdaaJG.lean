import Derived.Test.YtdnnojblneccdaaJF
/-
  Plain law: a root is the greatest number whose square is not above.
-/
namespace Go.Proofs.Ytdnnojblneccdaa
set_option linter.unusedSimpArgs false
set_option linter.unusedVariables false

theorem sq_small {x n : Nat} (h : x * x ≤ n) (hn : n < 4294967296) : x ≤ 65535 := by
  rcases Nat.lt_or_ge x 65536 with h1 | h1
  · omega
  · have := Nat.mul_le_mul h1 h1; omega
theorem u32_64 (a : UInt32) : a.toUInt64.toNat = a.toNat := by simp
theorem add_sq {s k : UInt64} (hs : s.toNat ≤ 65535) (hk : k.toNat ≤ 65535) : (s + k).toNat = s.toNat + k.toNat ∧ ((s + k) * (s + k)).toNat = (s.toNat + k.toNat) * (s.toNat + k.toNat) := by
  have h1 : (s + k).toNat = s.toNat + k.toNat := by rw [UInt64.toNat_add]; omega
  refine ⟨h1, ?_⟩
  rw [UInt64.toNat_mul, h1]
  have : (s.toNat + k.toNat) * (s.toNat + k.toNat) ≤ 131070 * 131070 := Nat.mul_le_mul (by omega) (by omega)
  exact Nat.mod_eq_of_lt (by omega)
theorem dbl_sq {s k : UInt64} (hs : s.toNat ≤ 65535) (hk : k.toNat ≤ 65535) : (2 * k).toNat = 2 * k.toNat ∧ ((s + 2 * k) * (s + 2 * k)).toNat = (s.toNat + 2 * k.toNat) * (s.toNat + 2 * k.toNat) := by
  have h0 : (2 * k).toNat = 2 * k.toNat := by rw [UInt64.toNat_mul]; show 2 * k.toNat % 2 ^ 64 = _; omega
  have h1 : (s + 2 * k).toNat = s.toNat + 2 * k.toNat := by rw [UInt64.toNat_add, h0]; omega
  refine ⟨h0, ?_⟩
  rw [UInt64.toNat_mul, h1]
  have : (s.toNat + 2 * k.toNat) * (s.toNat + 2 * k.toNat) ≤ 200000 * 200000 := Nat.mul_le_mul (by omega) (by omega)
  exact Nat.mod_eq_of_lt (by omega)
theorem out_in {s : UInt64} {a : UInt32} (hs : s.toNat ≤ 65535) (h : (decide (s < 65535) && decide ((s + 1) * (s + 1) ≤ a.toUInt64)) = true) : (s.toNat + 1) * (s.toNat + 1) ≤ a.toNat := by
  simp only [Bool.and_eq_true, decide_eq_true_eq] at h
  have h2 := h.2
  rw [UInt64.le_iff_toNat_le, (add_sq hs (k := 1) (by decide)).2, u32_64] at h2
  exact h2
theorem out_out {s : UInt64} {a : UInt32} (hs : s.toNat ≤ 65535) (h : (decide (s < 65535) && decide ((s + 1) * (s + 1) ≤ a.toUInt64)) = false) : a.toNat < (s.toNat + 1) * (s.toNat + 1) := by
  have ha := a.toNat_lt
  simp only [Bool.and_eq_false_iff, decide_eq_false_iff_not] at h
  rcases h with h | h
  · rw [UInt64.lt_iff_toNat_lt] at h
    have : (65535 : UInt64).toNat = 65535 := rfl
    have : s.toNat = 65535 := by omega
    rw [this]; omega
  · rw [UInt64.le_iff_toNat_le, (add_sq hs (k := 1) (by decide)).2, u32_64] at h
    have : (1 : UInt64).toNat = 1 := rfl
    rw [this] at h
    omega
theorem in_in {s k : UInt64} {a : UInt32} (hs : s.toNat ≤ 65535) (hk : 1 ≤ k.toNat ∧ (s.toNat + k.toNat) * (s.toNat + k.toNat) ≤ a.toNat) (h : (s + 2 * k) * (s + 2 * k) ≤ a.toUInt64) :
    (1 ≤ (2 * k).toNat ∧ (s.toNat + (2 * k).toNat) * (s.toNat + (2 * k).toNat) ≤ a.toNat) ∧ 65536 - (2 * k).toNat < 65536 - k.toNat := by
  have hsm := sq_small hk.2 a.toNat_lt
  obtain ⟨h1, h2⟩ := dbl_sq hs (k := k) (by omega)
  rw [UInt64.le_iff_toNat_le, h2, u32_64] at h
  rw [h1]
  have := sq_small h a.toNat_lt
  exact ⟨⟨by omega, h⟩, by omega⟩
theorem out_next {s k : UInt64} {a : UInt32} (hs : s.toNat ≤ 65535) (hk : 1 ≤ k.toNat ∧ (s.toNat + k.toNat) * (s.toNat + k.toNat) ≤ a.toNat) :
    ((s + k).toNat ≤ 65535 ∧ (s + k).toNat * (s + k).toNat ≤ a.toNat) ∧ 65536 - (s + k).toNat < 65536 - s.toNat := by
  have hsm := sq_small hk.2 a.toNat_lt
  rw [(add_sq hs (k := k) (by omega)).1]
  exact ⟨⟨hsm, hk.2⟩, by omega⟩
theorem carry_val3 (a b c : UInt64) (hc : c.toNat ≤ 1) : (a + b + c).toNat + 2 ^ 64 * (carry a b c).toNat = a.toNat + b.toNat + c.toNat := by
  have ha := a.toNat_lt; have hb := b.toNat_lt
  unfold carry
  rw [UInt64.toNat_add, UInt64.toNat_add, UInt64.toNat_ofNat']
  omega
theorem carry_le (a b c : UInt64) (hc : c.toNat ≤ 1) : (carry a b c).toNat ≤ 1 := by
  have := carry_val3 a b c hc
  have ha := a.toNat_lt; have hb := b.toNat_lt
  omega
/-- the root of n, in its two words -/
theorem beh_root {s : UInt64} {a : UInt32} (hs : s.toNat ≤ 65535) (h1 : s.toNat * s.toNat ≤ a.toNat) (h2 : a.toNat < (s.toNat + 1) * (s.toNat + 1)) :
    ∃ r : Nat, (behV 2 a.toUInt64).toNat = r ∧ r < 2 ^ 64 ∧ 2 * s.toNat * r * 2 ^ 64 + r * r ≤ (a.toNat - s.toNat * s.toNat) * 2 ^ 128 ∧ (a.toNat - s.toNat * s.toNat) * 2 ^ 128 < 2 * s.toNat * r * 2 ^ 64 + r * r + 2 * s.toNat * 2 ^ 64 + 2 * r + 1 := by
  have ha := a.toNat_lt
  have hN : behN 2 a.toUInt64 = a.toNat * 2 ^ 128 := by
    unfold behN
    rw [u32_64, Nat.mod_eq_of_lt ha]
  have hg := gr_root (B := 81) (p := 2) (N := behN 2 a.toUInt64) (by decide) (by rw [hN]; show a.toNat * 2 ^ 128 < (2 ^ 81) ^ 2; omega)
  refine ⟨(behV 2 a.toUInt64).toNat, rfl, (behV 2 a.toUInt64).toNat_lt, ?_⟩
  unfold behV
  rw [hN] at hg ⊢
  generalize gr 81 2 (a.toNat * 2 ^ 128) 81 = R at *
  rw [UInt64.toNat_ofNat']
  obtain ⟨q, r, hq, hr, hR⟩ : ∃ q r, q = R / 2 ^ 64 ∧ r = R % 2 ^ 64 ∧ R = 2 ^ 64 * q + r := ⟨_, _, rfl, rfl, by omega⟩
  have hr64 : r < 2 ^ 64 := by omega
  rw [← hr]
  simp only [Nat.pow_two] at hg
  have e1 : R * R = q * q * 2 ^ 128 + 2 * q * r * 2 ^ 64 + r * r := by
    rw [hR]
    have : (2 ^ 64 * q + r) * (2 ^ 64 * q + r) = 2 ^ 64 * q * (2 ^ 64 * q) + 2 * (2 ^ 64 * q * r) + r * r := by
      generalize 2 ^ 64 * q = z
      rw [Nat.mul_add, Nat.add_mul, Nat.add_mul, Nat.mul_comm r z]; omega
    rw [this, Nat.mul_mul_mul_comm, Nat.mul_assoc (2 ^ 64) q r, Nat.mul_assoc 2 q r]
    omega
  have e2 : (R + 1) * (R + 1) = R * R + 2 * R + 1 := by
    rw [Nat.mul_add, Nat.add_mul]; omega
  rw [e2, e1] at hg
  have e3 : 2 * q * r ≤ 2 * q * 2 ^ 64 := Nat.mul_le_mul_left _ (by omega)
  have hsq : q = s.toNat := by
    rcases Nat.lt_trichotomy q s.toNat with h | h | h
    · have h3 : (q + 1) * (q + 1) ≤ s.toNat * s.toNat := Nat.mul_le_mul (by omega) (by omega)
      have h4 : (q + 1) * (q + 1) = q * q + 2 * q + 1 := by rw [Nat.mul_add, Nat.add_mul]; omega
      have h5 : r * r ≤ (2 ^ 64 - 1) * (2 ^ 64 - 1) := Nat.mul_le_mul (by omega) (by omega)
      have h6 : 2 * q * r ≤ 2 * q * (2 ^ 64 - 1) := Nat.mul_le_mul_left _ (by omega)
      rw [h4] at h3
      generalize q * q = qq at *
      generalize 2 * q * r = qr at *
      generalize r * r = rr at *
      generalize s.toNat * s.toNat = ss at *
      have h7 : 2 * q * (2 ^ 64 - 1) = 2 * q * 2 ^ 64 - 2 * q := by rw [Nat.mul_sub]; omega
      omega
    · exact h
    · have h3 : (s.toNat + 1) * (s.toNat + 1) ≤ q * q := Nat.mul_le_mul (by omega) (by omega)
      generalize q * q = qq at *
      omega
  subst hsq
  generalize s.toNat * s.toNat = ss at *
  generalize r * r = rr at *
  generalize hz : 2 * s.toNat * r = qr at *
  generalize hd : a.toNat - ss = d
  have had : a.toNat = ss + d := by omega
  rw [had] at hg
  clear hN e1 e2 e3 hq hr hz hd had h1 h2
  constructor
  · omega
  · omega
section
variable (s r : UInt64)
def rT : UInt64 := mulHi (2 * s) r + carry (2 * s * r) (mulHi r r) 0
def rM : UInt64 := 2 * s * r + mulHi r r + 0
theorem rT_val (hs : s.toNat ≤ 65535) : (rT s r).toNat * 2 ^ 128 + (rM s r).toNat * 2 ^ 64 + (r * r).toNat = 2 * s.toNat * r.toNat * 2 ^ 64 + r.toNat * r.toNat ∧ (rT s r).toNat ≤ 131071 := by
  have h0 : (2 * s).toNat = 2 * s.toNat := by rw [UInt64.toNat_mul]; show 2 * s.toNat % 2 ^ 64 = _; omega
  have h1 := mul_val (2 * s) r
  have h2 := mul_val r r
  have h3 := carry_val (2 * s * r) (mulHi r r)
  have h4 := carry_le (2 * s * r) (mulHi r r) 0 (by decide)
  have hm : (mulHi (2 * s) r).toNat ≤ 131070 := by
    rw [mulHi_val, h0]
    have hr := r.toNat_lt
    have : 2 * s.toNat * r.toNat ≤ 131070 * (2 ^ 64 - 1) := Nat.mul_le_mul (by omega) (by omega)
    omega
  have hT : (rT s r).toNat = (mulHi (2 * s) r).toNat + (carry (2 * s * r) (mulHi r r) 0).toNat := by
    unfold rT; rw [UInt64.toNat_add]; omega
  rw [hT]
  unfold rM
  rw [h0] at h1
  generalize r.toNat * r.toNat = rr at *
  generalize 2 * s.toNat * r.toNat = sr at *
  omega
theorem cond_false {T M L d : UInt64} (h : T.toNat * 2 ^ 128 + M.toNat * 2 ^ 64 + L.toNat ≤ d.toNat * 2 ^ 128) : (decide (d < T) || (T == d && (M != 0 || L != 0))) = false := by
  have hM := M.toNat_lt; have hL := L.toNat_lt
  simp only [Bool.or_eq_false_iff, Bool.and_eq_false_iff, decide_eq_false_iff_not, beq_eq_false_iff_ne, bne_eq_false_iff_eq, UInt64.lt_iff_toNat_lt]
  refine ⟨by omega, ?_⟩
  by_cases e : T = d
  · right
    subst e
    exact ⟨UInt64.toNat_inj.1 (show M.toNat = 0 by omega), UInt64.toNat_inj.1 (show L.toNat = 0 by omega)⟩
  · exact .inl e
theorem cond_true {T M L d : UInt64} (h : d.toNat * 2 ^ 128 < T.toNat * 2 ^ 128 + M.toNat * 2 ^ 64 + L.toNat) : (decide (d < T) || (T == d && (L != 0 || M != 0))) = true := by
  have hM := M.toNat_lt; have hL := L.toNat_lt
  simp only [Bool.or_eq_true, Bool.and_eq_true, decide_eq_true_eq, beq_iff_eq, bne_iff_ne, UInt64.lt_iff_toNat_lt]
  by_cases e : d.toNat < T.toNat
  · exact .inl e
  · right
    have e2 : T.toNat = d.toNat := by omega
    refine ⟨UInt64.toNat_inj.1 e2, ?_⟩
    by_cases hl : L = 0
    · right
      intro hm
      subst hl; subst hm
      have : (0 : UInt64).toNat = 0 := rfl
      omega
    · exact .inl hl
end
theorem d_val {s : UInt64} {a : UInt32} (hs : s.toNat ≤ 65535) (h1 : s.toNat * s.toNat ≤ a.toNat) : (a.toUInt64 - s * s).toNat = a.toNat - s.toNat * s.toNat := by
  have ha := a.toNat_lt
  have hss : (s * s).toNat = s.toNat * s.toNat := by
    rw [UInt64.toNat_mul]
    exact Nat.mod_eq_of_lt (by omega)
  rw [UInt64.toNat_sub_of_le]
  · rw [hss, u32_64]
  · rw [UInt64.le_iff_toNat_le, hss, u32_64]; exact h1
theorem roots1 {s : UInt64} {a : UInt32} (hs : s.toNat ≤ 65535) (h1 : s.toNat * s.toNat ≤ a.toNat) (h2 : a.toNat < (s.toNat + 1) * (s.toNat + 1)) :
    (decide (a.toUInt64 - s * s < rT s (behV 2 a.toUInt64)) || (rT s (behV 2 a.toUInt64) == a.toUInt64 - s * s && (rM s (behV 2 a.toUInt64) != 0 || behV 2 a.toUInt64 * behV 2 a.toUInt64 != 0))) = false := by
  obtain ⟨r, hr, hr64, g1, g2⟩ := beh_root hs h1 h2
  refine cond_false ?_
  rw [(rT_val s (behV 2 a.toUInt64) hs).1, d_val hs h1, hr]
  exact g1
theorem roots2 {s : UInt64} {a : UInt32} (hs : s.toNat ≤ 65535) (h1 : s.toNat * s.toNat ≤ a.toNat) (h2 : a.toNat < (s.toNat + 1) * (s.toNat + 1)) (r : UInt64) (hrr : behV 2 a.toUInt64 = r) (x : UInt64) (hx : x = r * r + 2 * r + 0) (y : UInt64) (hy : y = rM s r + 2 * s + carry (r * r) (2 * r) 0) :
    (decide (a.toUInt64 - s * s < rT s r + carry (rM s r) (2 * s) (carry (r * r) (2 * r) 0) + carry y (shr64 r 63 + carry x 1 0) 0) || (rT s r + carry (rM s r) (2 * s) (carry (r * r) (2 * r) 0) + carry y (shr64 r 63 + carry x 1 0) 0 == a.toUInt64 - s * s && (x + 1 + 0 != 0 || y + (shr64 r 63 + carry x 1 0) + 0 != 0))) = true := by
  obtain ⟨r', hr, hr64, g1, g2⟩ := beh_root hs h1 h2
  rw [hrr] at hr
  subst hr
  refine cond_true ?_
  rw [d_val hs h1]
  refine Nat.lt_of_lt_of_le g2 ?_
  have hT := rT_val s r hs
  have c1 := carry_val (r * r) (2 * r)
  have c2 := carry_val3 (rM s r) (2 * s) (carry (r * r) (2 * r) 0) (carry_le _ _ _ (by decide))
  have c3 := carry_val x 1
  have c4 := carry_val y (shr64 r 63 + carry x 1 0)
  rw [← hx] at c1
  rw [← hy] at c2
  have l1 := carry_le (r * r) (2 * r) 0 (by decide)
  have l2 := carry_le (rM s r) (2 * s) (carry (r * r) (2 * r) 0) l1
  have l3 := carry_le x 1 0 (by decide)
  have l4 := carry_le y (shr64 r 63 + carry x 1 0) 0 (by decide)
  have h0 : (2 * s).toNat = 2 * s.toNat := by rw [UInt64.toNat_mul]; show 2 * s.toNat % 2 ^ 64 = _; omega
  have hsh := shr64_val r 63 (by decide)
  have h2r : (2 * r).toNat = 2 * r.toNat % 2 ^ 64 := by rw [UInt64.toNat_mul]; rfl
  have hov : (shr64 r 63 + carry x 1 0).toNat = (shr64 r 63).toNat + (carry x 1 0).toNat := by
    rw [UInt64.toNat_add, hsh]; omega
  have hz : (rT s r + carry (rM s r) (2 * s) (carry (r * r) (2 * r) 0) + carry y (shr64 r 63 + carry x 1 0) 0).toNat = (rT s r).toNat + (carry (rM s r) (2 * s) (carry (r * r) (2 * r) 0)).toNat + (carry y (shr64 r 63 + carry x 1 0) 0).toNat := by
    rw [UInt64.toNat_add, UInt64.toNat_add]; omega
  have h1u : (1 : UInt64).toNat = 1 := rfl
  rw [hz]
  rw [hov] at c4
  generalize 2 * s.toNat * r.toNat = sr at *
  generalize r.toNat * r.toNat = rr at *
  clear g1 g2 hrr hx hy hz hov h1 h2
  have hTv := hT.1
  clear hT
  omega
end Go.Proofs.Ytdnnojblneccdaa
/-
  headwaterlaw02.ShaRoots.
-/
namespace Go.Proofs.Ytdnnojblneccdaa
set_option linter.unusedSimpArgs false
set_option linter.unusedVariables false
open Go
open Enc (enc)
set_option maxRecDepth 100000

noncomputable def F7 : FnI := fn1 fun (_ : UInt32) => .bool true
-- headwater/headwaterlaw02.ShaRoots ['UInt32'] -> ['Bool'], results [2]
theorem R7 : Ref Try.prog 7 F7 := by
  refine Ref.of_iw dok Try.func7 rfl (by kernel_rfl) fun args H n e hF => ?_
  obtain ⟨a, rfl, rfl⟩ := fn1_inv hF
  refine ⟨Nat.le_of_ble_eq_true rfl, ?_⟩
  simp only [idxL]
  have hE : Env Try.prog [(27, F27), (28, F28), (34, F34), (35, F35)] D K := env (fnsOk_cons R27 (fnsOk_cons R28 (fnsOk_cons R34 (fnsOk_cons R35 fnsOk_nil))))
  refine IW.seq ?_
  refine IW.reg hE ?_
  refine vcS_val rfl rfl (ox_assign (pl rfl)) ?_
  refine vcS_nil ?_
  refine IW.seq ?_
  refine IW.seq ?_
  refine IW.reg hE ?_
  refine vcS_val rfl rfl (ox_fn rfl rfl (fn0_ev _ _ _)) ?_
  refine vcS_val rfl rfl (ox_un (pl rfl) (uo_not _)) ?_
  refine vcS_nil ?_
  refine IW.cond rfl (fun hc1 => ?_) (fun hc1 => ?_)
  · cases hc1
  · refine IW.skip ?_
    refine IW.seq ?_
    refine IW.reg hE ?_
    refine vcS_val rfl rfl (ox_assign (pl (v := enc (0 : UInt64)) rfl)) ?_
    refine vcS_nil ?_
    refine IW.seq ?_
    refine IW.block ?_
    refine IW.loop (S := UInt64) (fun s => [(0, enc a), (3, enc s)]) (fun s => []) (fun s => n) (fun s => s.toNat ≤ 65535 ∧ s.toNat * s.toNat ≤ a.toNat) (fun s => 65536 - s.toNat) (0) (⟨by decide, by show 0 * 0 ≤ _; omega⟩) (⟨rfl, ⟨rfl, trivial⟩⟩) (fun _ _ h => h) (Nat.le_refl _) (fun s hs => ?_)
    obtain ⟨hs1, hs2⟩ := hs
    refine IW.seq ?_
    refine IW.seq ?_
    refine IW.reg hE ?_
    refine vcS_val rfl rfl (ox_move (pl rfl)) ?_
    refine vcS_val rfl rfl (ox_bin (pl rfl) (pl (v := enc (65535 : UInt64)) rfl) (bo_u64_lss _ _)) ?_
    refine vcS_val rfl rfl (ox_move (pl rfl)) ?_
    refine vcS_opt rfl (wgT rfl rfl rfl) (fun hb => ox_move (pl rfl)) ?_
    refine vcS_opt rfl (wgT rfl rfl rfl) (fun hb => ox_bin (gd hb rfl) (pl (v := enc (1 : UInt64)) rfl) (bo_u64_add _ _)) ?_
    refine vcS_opt rfl (wgT rfl rfl rfl) (fun hb => ox_move (pl rfl)) ?_
    refine vcS_opt rfl (wgT rfl rfl rfl) (fun hb => ox_bin (gd hb rfl) (pl (v := enc (1 : UInt64)) rfl) (bo_u64_add _ _)) ?_
    refine vcS_opt rfl (wgT rfl rfl rfl) (fun hb => ox_bin (gd hb rfl) (gd hb rfl) (bo_u64_mul _ _)) ?_
    refine vcS_opt rfl (wgT rfl rfl rfl) (fun hb => ox_move (pl rfl)) ?_
    refine vcS_opt rfl (wgT rfl rfl rfl) (fun hb => cv_32_6 (gd hb rfl) D_54 D_22 rfl) ?_
    refine vcS_opt rfl (wgT rfl rfl rfl) (fun hb => ox_bin (gd hb rfl) (gd hb rfl) (bo_u64_leq _ _)) ?_
    refine vcS_val rfl rfl (ox_and (pl rfl) (fun hc => gd hc rfl) (pl rfl)) ?_
    refine vcS_nil ?_
    refine IW.cond rfl (fun hc2 => ?_) (fun hc2 => ?_)
    · have hin := out_in hs1 hc2
      refine IW.skip ?_
      refine IW.block ?_
      refine IW.seq ?_
      refine IW.reg hE ?_
      refine vcS_val rfl rfl (ox_assign (pl (v := enc (1 : UInt64)) rfl)) ?_
      refine vcS_nil ?_
      refine IW.seq ?_
      refine IW.block ?_
      refine IW.loop (S := UInt64) (fun k => [(0, enc a), (3, enc s), (4, enc k)]) (fun k => []) (fun k => n) (fun k => 1 ≤ k.toNat ∧ (s.toNat + k.toNat) * (s.toNat + k.toNat) ≤ a.toNat) (fun k => 65536 - k.toNat) (1) (⟨by decide, hin⟩) (⟨rfl, ⟨rfl, ⟨rfl, trivial⟩⟩⟩) (fun _ _ h => h) (Nat.le_refl _) (fun k hk => ?_)
      refine IW.seq ?_
      refine IW.seq ?_
      refine IW.reg hE ?_
      refine vcS_val rfl rfl (ox_move (pl rfl)) ?_
      refine vcS_val rfl rfl (ox_move (pl rfl)) ?_
      refine vcS_val rfl rfl (ox_bin (pl (v := enc (2 : UInt64)) rfl) (pl rfl) (bo_u64_mul _ _)) ?_
      refine vcS_val rfl rfl (ox_bin (pl rfl) (pl rfl) (bo_u64_add _ _)) ?_
      refine vcS_val rfl rfl (ox_move (pl rfl)) ?_
      refine vcS_val rfl rfl (ox_move (pl rfl)) ?_
      refine vcS_val rfl rfl (ox_bin (pl (v := enc (2 : UInt64)) rfl) (pl rfl) (bo_u64_mul _ _)) ?_
      refine vcS_val rfl rfl (ox_bin (pl rfl) (pl rfl) (bo_u64_add _ _)) ?_
      refine vcS_val rfl rfl (ox_bin (pl rfl) (pl rfl) (bo_u64_mul _ _)) ?_
      refine vcS_val rfl rfl (ox_move (pl rfl)) ?_
      refine vcS_val rfl rfl (cv_32_6 (pl rfl) D_54 D_22 rfl) ?_
      refine vcS_val rfl rfl (ox_bin (pl rfl) (pl rfl) (bo_u64_leq _ _)) ?_
      refine vcS_nil ?_
      refine IW.cond rfl (fun hc3 => ?_) (fun hc3 => ?_)
      · replace hc3 := of_decide_eq_true hc3
        refine IW.skip ?_
        refine IW.block ?_
        refine IW.reg hE ?_
        refine vcS_val rfl rfl (ox_move (pl rfl)) ?_
        refine vcS_val rfl rfl (ox_bin (pl (v := enc (2 : UInt64)) rfl) (pl rfl) (bo_u64_mul _ _)) ?_
        refine vcS_val rfl rfl (ox_assign (pl rfl)) ?_
        refine vcS_nil ?_
        refine IW.nilB ?_
        refine IW.nilS ?_
        exact ⟨2 * k, _, _, (in_in hs1 hk hc3).1, (in_in hs1 hk hc3).2, rfl, ⟨rfl, ⟨rfl, ⟨rfl, trivial⟩⟩⟩, rfl, fun _ _ h => h, Nat.le_refl _⟩
      · replace hc3 := of_decide_eq_false hc3
        refine IW.exit ?_
        refine exS (exS ?_)
        refine blkQ_exit ?_
        refine IW.reg hE ?_
        refine vcS_val rfl rfl (ox_move (pl rfl)) ?_
        refine vcS_val rfl rfl (ox_move (pl rfl)) ?_
        refine vcS_val rfl rfl (ox_bin (pl rfl) (pl rfl) (bo_u64_add _ _)) ?_
        refine vcS_val rfl rfl (ox_assign (pl rfl)) ?_
        refine vcS_nil ?_
        refine IW.nilB ?_
        refine IW.nilS ?_
        exact ⟨s + k, _, _, (out_next hs1 hk).1, (out_next hs1 hk).2, rfl, ⟨rfl, ⟨rfl, trivial⟩⟩, rfl, fun _ _ h => h, Nat.le_refl _⟩
    · have hout := out_out hs1 hc2
      refine IW.exit ?_
      refine exS (exS ?_)
      refine blkQ_exit ?_
      refine IW.seq ?_
      refine IW.reg hE ?_
      refine vcS_val rfl rfl (ox_move (pl rfl)) ?_
      refine vcS_val rfl rfl (cv_32_6 (pl rfl) D_54 D_22 rfl) ?_
      refine vcS_val rfl rfl (ox_fn rfl rfl (fn1_ev _ _ _ _)) ?_
      refine vcS_val rfl rfl (ox_assign (pl rfl)) ?_
      refine vcS_nil ?_
      refine IW.seq ?_
      refine IW.reg hE ?_
      refine vcS_val rfl rfl (ox_move (pl rfl)) ?_
      refine vcS_val rfl rfl (cv_32_6 (pl rfl) D_54 D_22 rfl) ?_
      refine vcS_val rfl rfl (ox_move (pl rfl)) ?_
      refine vcS_val rfl rfl (ox_move (pl rfl)) ?_
      refine vcS_val rfl rfl (ox_bin (pl rfl) (pl rfl) (bo_u64_mul _ _)) ?_
      refine vcS_val rfl rfl (ox_bin (pl rfl) (pl rfl) (bo_u64_sub _ _)) ?_
      refine vcS_val rfl rfl (ox_assign (pl rfl)) ?_
      refine vcS_nil ?_
      refine IW.seq ?_
      refine IW.reg hE ?_
      refine vcS_val rfl rfl (ox_move (pl rfl)) ?_
      refine vcS_val rfl rfl (ox_move (pl rfl)) ?_
      refine vcS_val rfl rfl (ox_fn rfl rfl (fn2_ev _ _ _ _ _)) ?_
      refine vcS_val rfl rfl (ox_move (pl rfl)) ?_
      refine vcS_val rfl rfl (ox_extract (pl rfl) rfl) ?_
      refine vcS_val rfl rfl (ox_extract (pl rfl) rfl) ?_
      refine vcS_val rfl rfl (ox_assign (pl rfl)) ?_
      refine vcS_val rfl rfl (ox_assign (pl rfl)) ?_
      refine vcS_nil ?_
      refine IW.seq ?_
      refine IW.reg hE ?_
      refine vcS_val rfl rfl (ox_move (pl rfl)) ?_
      refine vcS_val rfl rfl (ox_bin (pl (v := enc (2 : UInt64)) rfl) (pl rfl) (bo_u64_mul _ _)) ?_
      refine vcS_val rfl rfl (ox_move (pl rfl)) ?_
      refine vcS_val rfl rfl (ox_fn rfl rfl (fn2_ev _ _ _ _ _)) ?_
      refine vcS_val rfl rfl (ox_move (pl rfl)) ?_
      refine vcS_val rfl rfl (ox_extract (pl rfl) rfl) ?_
      refine vcS_val rfl rfl (ox_extract (pl rfl) rfl) ?_
      refine vcS_val rfl rfl (ox_assign (pl rfl)) ?_
      refine vcS_val rfl rfl (ox_assign (pl rfl)) ?_
      refine vcS_nil ?_
      refine IW.seq ?_
      refine IW.reg hE ?_
      refine vcS_val rfl rfl (ox_move (pl rfl)) ?_
      refine vcS_val rfl rfl (ox_move (pl rfl)) ?_
      refine vcS_val rfl rfl (ox_fn rfl rfl (F35_ev _ _ (0 : UInt64) (by decide))) ?_
      refine vcS_val rfl rfl (ox_move (pl rfl)) ?_
      refine vcS_val rfl rfl (ox_extract (pl rfl) rfl) ?_
      refine vcS_val rfl rfl (ox_extract (pl rfl) rfl) ?_
      refine vcS_val rfl rfl (ox_assign (pl rfl)) ?_
      refine vcS_val rfl rfl (ox_assign (pl rfl)) ?_
      refine vcS_nil ?_
      refine IW.seq ?_
      refine IW.reg hE ?_
      refine vcS_val rfl rfl (ox_move (pl rfl)) ?_
      refine vcS_val rfl rfl (ox_move (pl rfl)) ?_
      refine vcS_val rfl rfl (ox_bin (pl rfl) (pl rfl) (bo_u64_add _ _)) ?_
      refine vcS_val rfl rfl (ox_assign (pl rfl)) ?_
      refine vcS_nil ?_
      refine IW.seq ?_
      refine IW.seq ?_
      refine IW.reg hE ?_
      refine vcS_val rfl rfl (ox_move (pl rfl)) ?_
      refine vcS_val rfl rfl (ox_move (pl rfl)) ?_
      refine vcS_val rfl rfl (ox_bin (pl rfl) (pl rfl) (bo_u64_gtr _ _)) ?_
      refine vcS_val rfl rfl (ox_move (pl rfl)) ?_
      refine vcS_opt rfl (wgF rfl rfl rfl) (fun hb => ox_move (pl rfl)) ?_
      refine vcS_opt rfl (wgF rfl rfl rfl) (fun hb => ox_move (pl rfl)) ?_
      refine vcS_opt rfl (wgF rfl rfl rfl) (fun hb => ox_bin (gd hb rfl) (gd hb rfl) (bo_u64_eql _ _)) ?_
      refine vcS_opt rfl (wgF rfl rfl rfl) (fun hb => ox_move (gd hb rfl)) ?_
      refine vcS_opt rfl (wgT2 rfl rfl rfl) (fun hb => ox_move (pl rfl)) ?_
      refine vcS_opt rfl (wgT2 rfl rfl rfl) (fun hb => ox_bin (gd hb rfl) (pl (v := enc (0 : UInt64)) rfl) (bo_u64_neq _ _)) ?_
      refine vcS_opt rfl (wgT2 rfl rfl rfl) (fun hb => ox_move (gd hb rfl)) ?_
      refine vcS_opt rfl (wgF2 rfl rfl rfl) (fun hb => ox_move (pl rfl)) ?_
      refine vcS_opt rfl (wgF2 rfl rfl rfl) (fun hb => ox_bin (gd hb rfl) (pl (v := enc (0 : UInt64)) rfl) (bo_u64_neq _ _)) ?_
      refine vcS_opt rfl (wgT2 rfl rfl rfl) (fun hb => ox_or (gd hb rfl) (pl rfl) (fun hc => gd (by rw [hb, hc]; rfl) rfl)) ?_
      refine vcS_opt rfl (wgF rfl rfl rfl) (fun hb => ox_and (gd hb rfl) (fun hc => gd (by rw [hb, hc]; rfl) rfl) (pl rfl)) ?_
      refine vcS_val rfl rfl (ox_or (pl rfl) (pl rfl) (fun hc => gd (by rw [hc]; rfl) rfl)) ?_
      refine vcS_nil ?_
      refine IW.cond rfl (fun hc4 => ?_) (fun hc4 => ?_)
      · exact nomatch (roots1 hs1 hs2 hout).symm.trans hc4
      · refine IW.skip ?_
        refine IW.seq ?_
        refine IW.reg hE ?_
        refine vcS_val rfl rfl (ox_move (pl rfl)) ?_
        refine vcS_val rfl rfl (ox_move (pl rfl)) ?_
        refine vcS_val rfl rfl (ox_bin (pl (v := enc (2 : UInt64)) rfl) (pl rfl) (bo_u64_mul _ _)) ?_
        refine vcS_val rfl rfl (ox_fn rfl rfl (F35_ev _ _ (0 : UInt64) (by decide))) ?_
        refine vcS_val rfl rfl (ox_move (pl rfl)) ?_
        refine vcS_val rfl rfl (ox_extract (pl rfl) rfl) ?_
        refine vcS_val rfl rfl (ox_extract (pl rfl) rfl) ?_
        refine vcS_val rfl rfl (ox_assign (pl rfl)) ?_
        refine vcS_val rfl rfl (ox_assign (pl rfl)) ?_
        refine vcS_nil ?_
        refine IW.seq ?_
        refine IW.reg hE ?_
        refine vcS_val rfl rfl (ox_move (pl rfl)) ?_
        refine vcS_val rfl rfl (ox_bin (pl rfl) (pl (v := enc (63 : UInt64)) rfl) (bo_u64_shr _ (by omega))) ?_
        refine vcS_val rfl rfl (ox_assign (pl rfl)) ?_
        refine vcS_nil ?_
        refine IW.seq ?_
        refine IW.reg hE ?_
        refine vcS_val rfl rfl (ox_move (pl rfl)) ?_
        refine vcS_val rfl rfl (ox_fn rfl rfl (F35_ev _ (1 : UInt64) (0 : UInt64) (by decide))) ?_
        refine vcS_val rfl rfl (ox_move (pl rfl)) ?_
        refine vcS_val rfl rfl (ox_extract (pl rfl) rfl) ?_
        refine vcS_val rfl rfl (ox_extract (pl rfl) rfl) ?_
        refine vcS_val rfl rfl (ox_assign (pl rfl)) ?_
        refine vcS_val rfl rfl (ox_assign (pl rfl)) ?_
        refine vcS_nil ?_
        refine IW.seq ?_
        refine IW.reg hE ?_
        refine vcS_val rfl rfl (ox_move (pl rfl)) ?_
        refine vcS_val rfl rfl (ox_move (pl rfl)) ?_
        refine vcS_val rfl rfl (ox_bin (pl (v := enc (2 : UInt64)) rfl) (pl rfl) (bo_u64_mul _ _)) ?_
        refine vcS_val rfl rfl (ox_move (pl rfl)) ?_
        refine vcS_val rfl rfl (ox_fn rfl rfl (F35_ev _ _ _ (carry_le _ _ _ (by decide)))) ?_
        refine vcS_val rfl rfl (ox_move (pl rfl)) ?_
        refine vcS_val rfl rfl (ox_extract (pl rfl) rfl) ?_
        refine vcS_val rfl rfl (ox_extract (pl rfl) rfl) ?_
        refine vcS_val rfl rfl (ox_assign (pl rfl)) ?_
        refine vcS_val rfl rfl (ox_assign (pl rfl)) ?_
        refine vcS_nil ?_
        refine IW.seq ?_
        refine IW.reg hE ?_
        refine vcS_val rfl rfl (ox_move (pl rfl)) ?_
        refine vcS_val rfl rfl (ox_move (pl rfl)) ?_
        refine vcS_val rfl rfl (ox_move (pl rfl)) ?_
        refine vcS_val rfl rfl (ox_bin (pl rfl) (pl rfl) (bo_u64_add _ _)) ?_
        refine vcS_val rfl rfl (ox_fn rfl rfl (F35_ev _ _ (0 : UInt64) (by decide))) ?_
        refine vcS_val rfl rfl (ox_move (pl rfl)) ?_
        refine vcS_val rfl rfl (ox_extract (pl rfl) rfl) ?_
        refine vcS_val rfl rfl (ox_extract (pl rfl) rfl) ?_
        refine vcS_val rfl rfl (ox_assign (pl rfl)) ?_
        refine vcS_val rfl rfl (ox_assign (pl rfl)) ?_
        refine vcS_nil ?_
        refine IW.seq ?_
        refine IW.reg hE ?_
        refine vcS_val rfl rfl (ox_move (pl rfl)) ?_
        refine vcS_val rfl rfl (ox_move (pl rfl)) ?_
        refine vcS_val rfl rfl (ox_bin (pl rfl) (pl rfl) (bo_u64_add _ _)) ?_
        refine vcS_val rfl rfl (ox_move (pl rfl)) ?_
        refine vcS_val rfl rfl (ox_bin (pl rfl) (pl rfl) (bo_u64_add _ _)) ?_
        refine vcS_val rfl rfl (ox_assign (pl rfl)) ?_
        refine vcS_nil ?_
        refine IW.seq ?_
        refine IW.reg hE ?_
        refine vcS_val rfl rfl (ox_move (pl rfl)) ?_
        refine vcS_val rfl rfl (ox_move (pl rfl)) ?_
        refine vcS_val rfl rfl (ox_bin (pl rfl) (pl rfl) (bo_u64_gtr _ _)) ?_
        refine vcS_val rfl rfl (ox_move (pl rfl)) ?_
        refine vcS_opt rfl (wgF rfl rfl rfl) (fun hb => ox_move (pl rfl)) ?_
        refine vcS_opt rfl (wgF rfl rfl rfl) (fun hb => ox_move (pl rfl)) ?_
        refine vcS_opt rfl (wgF rfl rfl rfl) (fun hb => ox_bin (gd hb rfl) (gd hb rfl) (bo_u64_eql _ _)) ?_
        refine vcS_opt rfl (wgF rfl rfl rfl) (fun hb => ox_move (gd hb rfl)) ?_
        refine vcS_opt rfl (wgT2 rfl rfl rfl) (fun hb => ox_move (pl rfl)) ?_
        refine vcS_opt rfl (wgT2 rfl rfl rfl) (fun hb => ox_bin (gd hb rfl) (pl (v := enc (0 : UInt64)) rfl) (bo_u64_neq _ _)) ?_
        refine vcS_opt rfl (wgT2 rfl rfl rfl) (fun hb => ox_move (gd hb rfl)) ?_
        refine vcS_opt rfl (wgF2 rfl rfl rfl) (fun hb => ox_move (pl rfl)) ?_
        refine vcS_opt rfl (wgF2 rfl rfl rfl) (fun hb => ox_bin (gd hb rfl) (pl (v := enc (0 : UInt64)) rfl) (bo_u64_neq _ _)) ?_
        refine vcS_opt rfl (wgT2 rfl rfl rfl) (fun hb => ox_or (gd hb rfl) (pl rfl) (fun hc => gd (by rw [hb, hc]; rfl) rfl)) ?_
        refine vcS_opt rfl (wgF rfl rfl rfl) (fun hb => ox_and (gd hb rfl) (fun hc => gd (by rw [hb, hc]; rfl) rfl) (pl rfl)) ?_
        refine vcS_val rfl rfl (ox_or (pl rfl) (pl rfl) (fun hc => gd (by rw [hc]; rfl) rfl)) ?_
        refine vcS_val rfl rfl (ox_assign (pl rfl)) ?_
        refine vcS_nil ?_
        refine IW.ret ?_
        exact RetP.ret (.inr rfl) rfl rfl trivial (congrArg Value.bool (roots2 hs1 hs2 hout _ rfl _ rfl _ rfl))
end Go.Proofs.Ytdnnojblneccdaa
