import Derived.Test.YtdnnojblneccdaaJH
import Derived.Test.YtdnnojblneccdaaJF
/-
  Guards that are known, where the order is drawn; slices of slices that came from outside.
-/
namespace Go.Proofs.Ytdnnojblneccdaa
set_option linter.unusedSimpArgs false
set_option linter.unusedVariables false
open Go
open Enc (enc)

section
variable {P : Program} {Γ : Fns} {D : Ty} {K : Kinds} {W : Nat → Prop} {R : Option Nat} {ops : Array Oper} {Q : Post3} {o : Oper} {os : List Oper} {pres : List (List Nat)} {N : Nat} {L : List (Nat × Value)} {H : IHeap} {M : Ups} {n n0 k : Nat}
  {Wr : List (Nat × Ups)} {Vs : List (Nat × Vis)}
/-- a guard that is known to hold is none -/
theorem vcE_known {b : Bool} (hg : wantedI ops (dense N L) o = some b) (hb : b = true) (h : vcE Γ D K W ops (hp H M) n0 Q ({ o with guard := none } :: os) pres k Wr Vs (dense N L) n) : vcE Γ D K W ops (hp H M) n0 Q (o :: os) pres k Wr Vs (dense N L) n := by
  subst hb
  intro acc R
  have h1 := h acc R
  cases pres with
  | nil => exact h1
  | cons pre pres =>
    simp only [vcD, hg] at h1 ⊢
    exact h1
theorem vcS_known {b : Bool} (hg : wantedI ops (dense N L) o = some b) (hb : b = true) (h : vcS Γ D K W ops Q ({ o with guard := none } :: os) (dense N L) (hp H M) n) : vcS Γ D K W ops Q (o :: os) (dense N L) (hp H M) n := by
  subst hb
  simp only [vcS, hg] at h ⊢
  exact h
end
/-- a slice as it comes from outside -/
def SlP (s : Sl) : Prop := (s.a = none ∧ s.len = 0 ∧ s.cap = 0) ∨ ∃ id off, s.a = some ⟨id, off, none⟩ ∧ s.len ≤ s.cap
def slS (s : Sl) (sz l h : Nat) : Sl := match s.a with
  | some a => ⟨some (slA a s.cap sz l), h - l, s.cap - l⟩
  | none => s
section
variable {Γ : Fns} {D : Ty} {K : Kinds} {e : Operand → Value} {H : IHeap} {n : Nat}
theorem ox_slP {t : TypeId} {x : Operand} {lo hi : Option Operand} {s : Sl} {el l h sz : Nat} {d de : TD} (hp : SlP s) (hx : e x = enc s) (hd : D t = some d) (hk : d.k = .slice el) (hde : D el = some de) (hsz : de.size = sz) (hlo : bnd (lo.map e) 0 = some l) (hhi : bnd (hi.map e) s.len = some h) (h1 : l ≤ h) (h2 : h ≤ s.len) :
    iopC Γ D K e H n (.slice t x lo hi none) = some ⟨enc (slS s sz l h), [], n⟩ := by
  subst hsz
  obtain ⟨a, len, cap⟩ := s
  rcases hp with ⟨e1, e2, e3⟩ | ⟨id, off, e1, e2⟩
  · simp only at e1 e2 e3 h2 hhi
    subst e1; subst e2; subst e3
    obtain rfl : h = 0 := by omega
    obtain rfl : l = 0 := by omega
    refine (ox_slN hx hd hk hde (v := .slice (some ⟨0, 0, none⟩) 0 0) ?_).trans ?_
    · have hm : bnd (Option.map e none) 0 = some 0 := rfl
      simp only [sliceIt, hlo, hhi, hm]
      rw [if_pos ⟨Nat.le_refl _, Nat.le_refl _, Nat.le_refl _, by simp⟩]
      simp
    · rfl
  · simp only at e1 e2 h2 hhi
    subst e1
    refine (ox_sl hx hd hk hde hlo hhi h1 (Nat.le_trans h2 e2) (.inl rfl)).trans ?_
    rfl
variable {α : Type} [Row α]
theorem rdC_slS {s : Sl} {l h : Nat} {xs : List α} (hp : SlP s) (hr : rdC H (enc s) = some xs) (h1 : l ≤ h) (h2 : h ≤ s.len) : rdC H (enc (slS s (Row.sz α) l h)) = some ((xs.take h).drop l) := by
  obtain ⟨a, len, cap⟩ := s
  rcases hp with ⟨e1, e2, e3⟩ | ⟨id, off, e1, e2⟩
  · simp only at e1 e2 e3 h2
    subst e1; subst e2; subst e3
    obtain rfl : h = 0 := by omega
    obtain rfl : l = 0 := by omega
    obtain ⟨aa, cc, e⟩ := rdC_len hr
    have e : Value.slice none 0 0 = .slice aa xs.length cc := e
    simp only [Value.slice.injEq] at e
    have := List.length_eq_zero_iff.1 e.2.1.symm
    subst this
    exact hr
  · simp only at e1 e2 h2
    subst e1
    exact rdC_sl hr h1 h2 e2
end
theorem slA_at {id off cap sz l : Nat} (h : l < cap) : slA ⟨id, off, none⟩ cap sz l = ⟨id, off + l * sz, none⟩ := by
  unfold slA
  rw [if_neg (by omega)]
  unfold goOn
  split
  · rename_i e; simp [e]
  · rfl
theorem bo_i64_remI {D : Ty} {K : Kinds} {t : TypeId} {a b : Int} (hb : b ≠ 0) : binOp' D K .rem t (.int .i64 a) (.int .i64 b) = some (.int .i64 (a.tmod b)) := by
  simp [binOp', intOp, hb]
theorem vi_cvI {e : Operand → Value} {s t : TypeId} {x : Operand} {k : IntKind} {a : Int} {news : List Nat} (ha : e x = .int k a) : visOf e (.convert s t x) news = .ids [] := by
  rw [vi_convV ha]; rfl
end Go.Proofs.Ytdnnojblneccdaa
/-
  Plain law: a sum is that of its pieces; its bytes are those of the words.
-/
namespace Go.Proofs.Ytdnnojblneccdaa
set_option linter.unusedSimpArgs false
set_option linter.unusedVariables false
open Go
open Enc (enc)
set_option maxRecDepth 100000

/-- the first j pieces gone through -/
def foldN (kl : List UInt64) (p : List UInt8) (s : Vector UInt64 8) : Nat → Vector UInt64 8
  | 0 => s
  | j + 1 => thr kl (foldN kl p s j) (pcs p j)
theorem fold_range (kl : List UInt64) (p : List UInt8) (s : Vector UInt64 8) : ∀ k, (List.range k).foldl (fun s i => thr kl s (pcs p i)) s = foldN kl p s k
  | 0 => rfl
  | k + 1 => by rw [List.range_succ, List.foldl_append, fold_range kl p s k]; rfl
theorem allV_fold (kl : List UInt64) (p : List UInt8) (s : Vector UInt64 8) : allV kl p s = foldN kl p s (p.length / 128) := by
  unfold allV foldP
  rw [← fold_range]
  have : (List.finRange (p.length / 128)).map (fun i => i.val) = List.range (p.length / 128) := List.ext_getElem (by simp) (by intros; simp)
  rw [← this, List.foldl_map]
theorem be8_get (w : UInt64) {i : Nat} (h : i < 8) : (be8 w).getD i 0 = (shr64 w (56 - 8 * i)).toUInt8 := by
  unfold be8
  rw [List.getD_eq_getElem?_getD, List.getElem?_map, List.getElem?_range h]; rfl
theorem flat_get : ∀ (ws : List UInt64) (i : Nat), i < 8 * ws.length → (ws.flatMap be8).getD i 0 = (be8 (ws.getD (i / 8) 0)).getD (i % 8) 0
  | [], i, h => by simp at h
  | w :: ws, i, h => by
    rw [List.flatMap_cons]
    by_cases h8 : i < 8
    · rw [show i / 8 = 0 by omega, show i % 8 = i by omega, List.getD_cons_zero]
      rw [List.getD_eq_getElem?_getD, List.getElem?_append_left (by rw [be8_length]; exact h8), ← List.getD_eq_getElem?_getD]
    · rw [getD_app (k := i - 8) (by rw [be8_length]; omega), flat_get ws (i - 8) (by simp at h; omega), show i / 8 = (i - 8) / 8 + 1 by omega, List.getD_cons_succ, show (i - 8) % 8 = i % 8 by omega]
theorem bytesV_get (w : Vector UInt64 8) {i : Nat} (h : i < 64) : (bytesV w).toList.getD i 0 = (shr64 (w.toList.getD (i / 8) 0) (56 - 8 * (i % 8))).toUInt8 := by
  rw [bytesV_toList]
  have : sb w.toList 8 = w.toList.flatMap be8 := by
    unfold sb; rw [List.take_of_length_le (by simp)]
  rw [this, flat_get _ _ (by simp; omega), be8_get _ (by omega)]
theorem sum_get (s : Vector UInt64 8) (b : List UInt8) {i : Nat} (h : i < 64) : (sumV s b).toList.getD i 0 = (shr64 ((foldN kL (padL b) s ((padL b).length / 128)).toList.getD (i / 8) 0) (56 - 8 * (i % 8))).toUInt8 := by
  unfold sumV
  rw [bytesV_get _ h, allV_fold]
theorem dig_get (b : List UInt8) {i : Nat} (h : i < 32) : (digV b).toList.getD i 0 = (shr64 ((foldN kL (padL b) shortV ((padL b).length / 128)).toList.getD (i / 8) 0) (56 - 8 * (i % 8))).toUInt8 := by
  rw [← sum_get shortV b (by omega)]
  unfold digV digOf
  simp only [Vector.toList_mk, List.getD_eq_getElem?_getD]
  rw [List.getElem?_take_of_lt h]
/-! a number, brought into bounds -/
def pickV (n m : Int) : Int := if m < 1 then 0 else if n.tmod m < 0 then n.tmod m + m else n.tmod m
theorem pickV_rng {n m : Int} (h : 1 ≤ m) : 0 ≤ pickV n m ∧ pickV n m < m := by
  have h1 := Int.tmod_lt_of_pos n (show 0 < m by omega)
  have h2 : -m < n.tmod m := by
    have := Int.tmod_lt_of_pos (-n) (show 0 < m by omega)
    rw [Int.neg_tmod] at this; omega
  unfold pickV
  rw [if_neg (by omega)]
  split <;> omega
theorem cut3 {b : List UInt8} {i k : Nat} (h1 : i ≤ k) (h2 : k ≤ b.length) : [(b.take i).drop 0, (b.take k).drop i, (b.take b.length).drop k].flatten = b := by
  simp only [List.drop_zero, List.take_length, List.flatten_cons, List.flatten_nil, List.append_nil]
  have : b.take i ++ (b.take k).drop i = b.take k := by
    have h := List.take_append_drop i (b.take k)
    rw [List.take_take, Nat.min_eq_left h1] at h
    exact h
  rw [← List.append_assoc, this, List.take_append_drop]
theorem cut2 {b : List UInt8} {i : Nat} (h1 : i ≤ b.length) : [(b.take i).drop 0, (b.take b.length).drop i].flatten = b := by
  simp only [List.drop_zero, List.take_length, List.flatten_cons, List.flatten_nil, List.append_nil]
  exact List.take_append_drop i b
theorem parts1 (b : List UInt8) : ((((((padN b.length % 128 : Nat) : Int) != 0) || !((padL b).take b.length == b)) || decide ((padN b.length : Int) < (b.length : Int) + 17)) || decide ((b.length : Int) + 144 < (padN b.length : Int))) = false := by
  have hp := padN_ge b.length
  have h1 : padN b.length % 128 = 0 := by unfold padN; omega
  rw [h1, pad_take, decide_eq_false (by omega : ¬ (padN b.length : Int) < (b.length : Int) + 17), decide_eq_false (by omega : ¬ (b.length : Int) + 144 < (padN b.length : Int))]
  simp
end Go.Proofs.Ytdnnojblneccdaa
/-
  kit.Pick.
-/
namespace Go.Proofs.Ytdnnojblneccdaa
set_option linter.unusedSimpArgs false
set_option linter.unusedVariables false
open Go
open Enc (enc)
set_option maxRecDepth 100000

theorem tmod_rng (n : Int) {m : Int} (h : 1 ≤ m) : -m < n.tmod m ∧ n.tmod m < m := by
  have h1 := Int.tmod_lt_of_pos n (show 0 < m by omega)
  have := Int.tmod_lt_of_pos (-n) (show 0 < m by omega)
  rw [Int.neg_tmod] at this
  exact ⟨by omega, h1⟩
noncomputable def F31 : FnI := fun args H n => match args with
  | [.int .i64 x, .int .i64 m] => if m ≤ 2 ^ 62 then some ⟨.int .i64 (pickV x m), [], n⟩ else none
  | _ => none
theorem F31_inv {args : List Value} {H : IHeap} {n : Nat} {e : Eff} (h : F31 args H n = some e) : ∃ x m : Int, args = [.int .i64 x, .int .i64 m] ∧ m ≤ 2 ^ 62 ∧ e = ⟨.int .i64 (pickV x m), [], n⟩ := by
  unfold F31 at h; split at h
  · split at h
    · rename_i hm; cases h; exact ⟨_, _, rfl, hm, rfl⟩
    · cases h
  · cases h
theorem F31_ev {H : IHeap} {n : Nat} (x : Int) {m : Int} (hm : m ≤ 2 ^ 62) : F31 [.int .i64 x, .int .i64 m] H n = some ⟨.int .i64 (pickV x m), [], n⟩ := by
  simp only [F31, if_pos hm]
-- headwater/headwaterkit.Pick ['Int', 'Int'] -> ['Int'], results [4]
theorem R31 : Ref Try.prog 31 F31 := by
  refine Ref.of_iw dok Try.func31 rfl (by kernel_rfl) fun args H n e hF => ?_
  obtain ⟨x, m, rfl, hm, rfl⟩ := F31_inv hF
  refine ⟨Nat.le_of_ble_eq_true rfl, ?_⟩
  simp only [idxL]
  have hE : Env Try.prog [] D K := env fnsOk_nil
  refine IW.seq ?_
  refine IW.reg hE ?_
  refine vcS_val rfl rfl (ox_assign (pl rfl)) ?_
  refine vcS_nil ?_
  refine IW.seq ?_
  refine IW.seq ?_
  refine IW.reg hE ?_
  refine vcS_val rfl rfl (ox_move (pl rfl)) ?_
  refine vcS_val rfl rfl (ox_bin (pl rfl) (pl rfl) (bo_i64_lss _ _)) ?_
  refine vcS_nil ?_
  refine IW.cond rfl (fun hc1 => ?_) (fun hc1 => ?_)
  · replace hc1 := of_decide_eq_true hc1
    refine IW.seq ?_
    refine IW.reg hE ?_
    refine vcS_val rfl rfl (ox_assign (pl rfl)) ?_
    refine vcS_nil ?_
    refine IW.ret ?_
    exact RetP.ret (.inr rfl) rfl rfl trivial (by unfold pickV; rw [if_pos hc1])
  · replace hc1 := of_decide_eq_false hc1
    have hr := tmod_rng x (show 1 ≤ m by omega)
    refine IW.skip ?_
    refine IW.seq ?_
    refine IW.reg hE ?_
    refine vcS_val rfl rfl (ox_move (pl rfl)) ?_
    refine vcS_val rfl rfl (ox_move (pl rfl)) ?_
    refine vcS_val rfl rfl (ox_bin (pl rfl) (pl rfl) (bo_i64_remI (by omega))) ?_
    refine vcS_val rfl rfl (ox_assign (pl rfl)) ?_
    refine vcS_nil ?_
    refine IW.seq ?_
    refine IW.seq ?_
    refine IW.reg hE ?_
    refine vcS_val rfl rfl (ox_move (pl rfl)) ?_
    refine vcS_val rfl rfl (ox_bin (pl rfl) (pl rfl) (bo_i64_lss _ _)) ?_
    refine vcS_nil ?_
    refine IW.cond rfl (fun hc2 => ?_) (fun hc2 => ?_)
    · replace hc2 := of_decide_eq_true hc2
      refine IW.reg hE ?_
      refine vcS_val rfl rfl (ox_move (pl rfl)) ?_
      refine vcS_val rfl rfl (ox_move (pl rfl)) ?_
      refine vcS_val rfl rfl (ox_bin (pl rfl) (pl rfl) (bo_i64_add (by omega))) ?_
      refine vcS_val rfl rfl (ox_assign (pl rfl)) ?_
      refine vcS_nil ?_
      refine IW.seq ?_
      refine IW.reg hE ?_
      refine vcS_val rfl rfl (ox_move (pl rfl)) ?_
      refine vcS_val rfl rfl (ox_assign (pl rfl)) ?_
      refine vcS_nil ?_
      refine IW.ret ?_
      exact RetP.ret (.inr rfl) rfl rfl trivial (by unfold pickV; rw [if_neg hc1, if_pos hc2])
    · replace hc2 := of_decide_eq_false hc2
      refine IW.skip ?_
      refine IW.seq ?_
      refine IW.reg hE ?_
      refine vcS_val rfl rfl (ox_move (pl rfl)) ?_
      refine vcS_val rfl rfl (ox_assign (pl rfl)) ?_
      refine vcS_nil ?_
      refine IW.ret ?_
      exact RetP.ret (.inr rfl) rfl rfl trivial (by unfold pickV; rw [if_neg hc1, if_neg hc2])
end Go.Proofs.Ytdnnojblneccdaa
/-
  headwaterlaw02.ShaParts.
-/
namespace Go.Proofs.Ytdnnojblneccdaa
set_option linter.unusedSimpArgs false
set_option linter.unusedVariables false
open Go
open Enc (enc)
set_option maxRecDepth 100000

theorem pick_nat (i : Int) (m : Nat) : ∃ I : Nat, pickV i ((m : Int) + 1) = I ∧ I ≤ m := by
  have := pickV_rng (n := i) (m := (m : Int) + 1) (by omega)
  exact ⟨(pickV i ((m : Int) + 1)).toNat, by omega, by omega⟩
theorem pick_nat2 (k : Int) {I m : Nat} (h : I ≤ m) : ∃ J : Nat, (I : Int) + pickV k ((m : Int) - I + 1) = J ∧ I ≤ J ∧ J ≤ m := by
  have := pickV_rng (n := k) (m := (m : Int) - I + 1) (by omega)
  exact ⟨((I : Int) + pickV k ((m : Int) - I + 1)).toNat, by omega, by omega, by omega⟩
theorem ev24g {x : Value} {H : IHeap} {n : Nat} {s : Sl} {l : List UInt8} (hS : rdC H x = some [s]) (hl : rdC H (enc s) = some l) (h2 : l.length ≤ 2 ^ 40) : F24 [x] H n = some ⟨enc (sumV startV l), [], n⟩ := ev24 hS hl h2 rfl
theorem ev38g {x : Value} {H : IHeap} {n : Nat} {s : Sl} {l : List UInt8} (hS : rdC H x = some [s]) (hl : rdC H (enc s) = some l) (h2 : l.length ≤ 2 ^ 40) : F38 [x] H n = some ⟨enc (digV l), [], n⟩ := ev38 hS hl h2 rfl
theorem ev24_3 {x : Value} {H : IHeap} {n : Nat} {s1 s2 s3 : Sl} {l1 l2 l3 l : List UInt8} (hS : rdC H x = some [s1, s2, s3]) (h1 : rdC H (enc s1) = some l1) (h2 : rdC H (enc s2) = some l2) (h3 : rdC H (enc s3) = some l3) (hf : [l1, l2, l3].flatten = l) (hl : l.length ≤ 2 ^ 40) : F24 [x] H n = some ⟨enc (sumV startV l), [], n⟩ :=
  sumF_ev (ls := [l1, l2, l3]) hS (by simp only [rdL, h1, h2, h3]) (by simp) hf hl
theorem ev38_2 {x : Value} {H : IHeap} {n : Nat} {s1 s2 : Sl} {l1 l2 l : List UInt8} (hS : rdC H x = some [s1, s2]) (h1 : rdC H (enc s1) = some l1) (h2 : rdC H (enc s2) = some l2) (hf : [l1, l2].flatten = l) (hl : l.length ≤ 2 ^ 40) : F38 [x] H n = some ⟨enc (digV l), [], n⟩ :=
  sumF_ev (ls := [l1, l2]) hS (by simp only [rdL, h1, h2]) (by simp) hf hl
theorem ne_same {α : Type} [BEq α] [LawfulBEq α] (a : α) : some (Value.bool (!(a == a))) = some (.bool false) := by simp
theorem ne_eqf {a b : UInt8} (h : a = b) : (fun b => some (Value.bool b)) (a != b) = some (.bool false) := by subst h; simp
theorem shr_nat {D : Ty} {K : Kinds} {t : TypeId} {x : UInt64} (m : Nat) (h : m < 2 ^ 64) : binOp' D K .shr t (enc x) (enc (UInt64.ofNat m)) = some (enc (shr64 x m)) := by
  have := bo_u64_shr (D := D) (K := K) (t := t) (k := .u64) (b := ((UInt64.ofNat m).toNat : Int)) x (by omega)
  have e : ((UInt64.ofNat m).toNat : Int).toNat = m := by rw [Int.toNat_natCast, UInt64.toNat_ofNat', Nat.mod_eq_of_lt h]
  rw [e] at this
  exact this
theorem ox_slK {Γ : Fns} {D : Ty} {K : Kinds} {e : Operand → Value} {H : IHeap} {n : Nat} {t : TypeId} {x : Operand} {lo hi : Option Operand} {id off len cap el l h : Nat} {d de : TD} (hx : e x = .slice (some ⟨id, off, none⟩) len cap) (hd : D t = some d) (hk : d.k = .slice el) (hde : D el = some de) (hlo : bnd (lo.map e) 0 = some l) (hhi : bnd (hi.map e) len = some h) (h1 : l ≤ h) (h2 : h ≤ cap) (h3 : l < cap) :
    iopC Γ D K e H n (.slice t x lo hi none) = some ⟨.slice (some ⟨id, off + l * de.size, none⟩) (h - l) (cap - l), [], n⟩ := by
  rw [ox_sl hx hd hk hde hlo hhi h1 h2 (.inl rfl), slA_at h3]
noncomputable def F10 : FnI := fun args H n => open Classical in match args with
  | [x, .int .i64 _, .int .i64 _] => (dec x).bind fun (s : Sl) => (rdC H (enc s)).bind fun (_ : List UInt8) => if SlP s then some ⟨.bool true, [], n⟩ else none
  | _ => none
theorem F10_inv {args : List Value} {H : IHeap} {n : Nat} {e : Eff} (h : F10 args H n = some e) : ∃ (s : Sl) (i k : Int) (b : List UInt8), args = [enc s, .int .i64 i, .int .i64 k] ∧ rdC H (enc s) = some b ∧ SlP s ∧ s.len = b.length ∧ e = ⟨.bool true, [], n⟩ := by
  unfold F10 at h; split at h
  · simp only [Option.bind_eq_some_iff] at h
    obtain ⟨s, hs, b, hb, h⟩ := h
    split at h
    · rename_i hp
      cases h
      refine ⟨s, _, _, b, by rw [dec_some hs], hb, hp, ?_, rfl⟩
      obtain ⟨a, cap, e⟩ := rdC_len hb
      have e : Value.slice s.a s.len s.cap = Value.slice a b.length cap := e
      simp only [Value.slice.injEq] at e
      exact e.2.1
    · cases h
  · cases h
theorem F10_ev {H : IHeap} {n : Nat} {s : Sl} {i k : Int} {b : List UInt8} (hb : rdC H (enc s) = some b) (hp : SlP s) : F10 [enc s, .int .i64 i, .int .i64 k] H n = some ⟨.bool true, [], n⟩ := by
  simp only [F10, dec_enc, hb, Option.bind_some]
  rw [if_pos hp]
-- headwater/headwaterlaw02.ShaParts ['Sl', 'Int', 'Int'] -> ['Bool'], results [6]
theorem R10 : Ref Try.prog 10 F10 := by
  refine Ref.of_iw dok Try.func10 rfl (by kernel_rfl) fun args H n e hF => ?_
  obtain ⟨s, i, k, b, rfl, hB, hp, hlen, rfl⟩ := F10_inv hF
  have hpn := padN_ge b.length
  have hpl := padL_length b
  have hdv : padN b.length = 128 * ((padL b).length / 128) := by rw [hpl]; unfold padN; omega
  refine ⟨Nat.le_of_ble_eq_true rfl, ?_⟩
  simp only [idxL]
  have hE : Env Try.prog [(24, F24), (26, F26), (27, F27), (30, F30), (31, F31), (36, F36), (38, F38), (41, F41), (45, F45)] D K := env (fnsOk_cons R24 (fnsOk_cons R26 (fnsOk_cons R27 (fnsOk_cons R30 (fnsOk_cons R31 (fnsOk_cons R36 (fnsOk_cons R38 (fnsOk_cons R41 (fnsOk_cons R45 fnsOk_nil)))))))))
  refine IW.seq ?_
  refine IW.blk (by simp) hB (fun hlt => ?_)
  refine IW.free (by simp) (fun hfree => ?_)
  refine IW.reg hE ?_
  refine vcS_val rfl rfl (ox_assign (pl rfl)) ?_
  refine vcS_nil ?_
  refine IW.seq ?_
  refine IW.seq ?_
  refine IW.reg hE ?_
  refine vcS_val rfl rfl (ox_fn rfl rfl (fn0_ev _ _ _)) ?_
  refine vcS_val rfl rfl (ox_un (pl rfl) (uo_not _)) ?_
  refine vcS_nil ?_
  refine IW.cond rfl (fun hc1 => ?_) (fun hc1 => ?_)
  · cases hc1
  · refine IW.skip ?_
    refine IW.seq ?_
    refine IW.seq ?_
    refine IW.reg hE ?_
    refine vcS_val rfl rfl (ox_move (pl rfl)) ?_
    refine vcS_val rfl rfl (ox_len (pl rfl) D_35 rfl) ?_
    refine vcS_val rfl rfl (ox_bin (pl rfl) (pl rfl) (bo_i64_gtr _ _)) ?_
    refine vcS_nil ?_
    refine IW.cond rfl (fun hc2 => ?_) (fun hc2 => ?_)
    · replace hc2 := of_decide_eq_true hc2
      refine IW.seq ?_
      refine IW.reg hE ?_
      refine vcS_val rfl rfl (ox_assign (pl rfl)) ?_
      refine vcS_nil ?_
      refine IW.ret ?_
      exact RetP.ret (.inr rfl) rfl rfl trivial (rfl)
    · replace hc2 := of_decide_eq_false hc2
      refine IW.skip ?_
      refine IW.seq ?_
      refine IW.reg hE ?_
      refine vcS_val rfl rfl (ox_move (pl rfl)) ?_
      refine vcS_val rfl rfl (ox_move (pl rfl)) ?_
      refine vcS_val rfl rfl (ox_len (pl rfl) D_35 rfl) ?_
      refine vcS_val rfl rfl (ox_bin (pl rfl) (pl rfl) (bo_i64_add (by omega))) ?_
      refine vcS_val rfl rfl (ox_fn rfl rfl (F31_ev _ (by omega))) ?_
      refine vcS_val rfl rfl (ox_assign (pl rfl)) ?_
      refine vcS_nil ?_
      refine IW.seq ?_
      obtain ⟨I, hI, hI2⟩ := pick_nat i s.len
      rw [hI]
      have hJr := pickV_rng (n := k) (m := (s.len : Int) - I + 1) (by omega)
      refine IW.reg hE ?_
      refine vcS_val rfl rfl (ox_move (pl rfl)) ?_
      refine vcS_val rfl rfl (ox_move (pl rfl)) ?_
      refine vcS_val rfl rfl (ox_move (pl rfl)) ?_
      refine vcS_val rfl rfl (ox_len (pl rfl) D_35 rfl) ?_
      refine vcS_val rfl rfl (ox_move (pl rfl)) ?_
      refine vcS_val rfl rfl (ox_bin (pl rfl) (pl rfl) (bo_i64_sub (by omega))) ?_
      refine vcS_val rfl rfl (ox_bin (pl rfl) (pl rfl) (bo_i64_add (by omega))) ?_
      refine vcS_val rfl rfl (ox_fn rfl rfl (F31_ev _ (by omega))) ?_
      refine vcS_val rfl rfl (ox_bin (pl rfl) (pl rfl) (bo_i64_add (by omega))) ?_
      refine vcS_val rfl rfl (ox_assign (pl rfl)) ?_
      refine vcS_nil ?_
      refine IW.seq ?_
      refine IW.seq ?_
      obtain ⟨J, hJ, hIJ, hJ2⟩ := pick_nat2 k hI2
      rw [hJ]
      refine IW.drw hE mixed [[],[0],[0,1],[],[],[3,4],[],[],[],[6,7,8],[],[],[10,11],[3,4,5,6,7,8,9,10,11,12],[0,1,2,3,4,5,6,7,8,9,10,11,12,13],[0,1,2,3,4,5,6,7,8,9,10,11,12,13,14],[0,1,2,3,4,5,6,7,8,9,10,11,12,13,14,15],[0,1,2,3,4,5,6,7,8,9,10,11,12,13,14,15,16],[0,1,2,3,4,5,6,7,8,9,10,11,12,13,14,15,16,17],[0,1,2,3,4,5,6,7,8,9,10,11,12,13,14,15,16,17,18],[0,1,2,3,4,5,6,7,8,9,10,11,12,13,14,15,16],[0,1,2,3,4,5,6,7,8,9,10,11,12,13,14,15,16],[0,1,2,3,4,5,6,7,8,9,10,11,12,13,14,15,16,20,21],[0,1,2,3,4,5,6,7,8,9,10,11,12,13,14,15,16],[0,1,2,3,4,5,6,7,8,9,10,11,12,13,14,15,16],[0,1,2,3,4,5,6,7,8,9,10,11,12,13,14,15,16,23,24],[0,1,2,3,4,5,6,7,8,9,10,11,12,13,14,15,16,20,21,22,23,24,25],[0,1,2,3,4,5,6,7,8,9,10,11,12,13,14,15,16,17,18,19,20,21,22,23,24,25,26],[0,1,2,3,4,5,6,7,8,9,10,11,12,13,14,15,16,17,18,19,20,21,22,23,24,25,26,27],[0,1,2,3,4,5,6,7,8,9,10,11,12,13,14,15,16,17,18,19,20,21,22,23,24,25,26,27,28]] (by kernel_rfl) (vcE_start ?_)
      refine vcE_bl rfl rfl (fun _ => ox_move (pl rfl)) rfl rfl ?_
      refine vcE_new rfl rfl (fun _ => ox_bsl (cs := cels [s]) D_94 rfl D_35 (Nat.le_of_ble_eq_true rfl) rfl rfl) rfl rfl (.inl (by omega)) ?_
      refine vcE_call rfl rfl rfl rfl (ox_fn rfl rfl (ev24g (rdC_all (hp_eq _ _ _ _) rfl) (rdC_keep hfree hB (by exact ⟨by omega, trivial⟩)) (by omega))) rfl (ltuc (by omega) ltu0) (⟨trivial, trivial⟩) ?_
      refine vcE_bl rfl rfl (fun _ => ox_move (pl rfl)) rfl rfl ?_
      refine vcE_bl rfl rfl (fun _ => ox_move (pl rfl)) rfl rfl ?_
      refine vcE_bl rfl rfl (fun _ => ox_slP hp (pl rfl) D_35 rfl D_5 rfl bndN (bndI (pl rfl) rfl) (by omega) (by omega)) rfl rfl ?_
      refine vcE_bl rfl rfl (fun _ => ox_move (pl rfl)) rfl rfl ?_
      refine vcE_bl rfl rfl (fun _ => ox_move (pl rfl)) rfl rfl ?_
      refine vcE_bl rfl rfl (fun _ => ox_move (pl rfl)) rfl rfl ?_
      refine vcE_bl rfl rfl (fun _ => ox_slP hp (pl rfl) D_35 rfl D_5 rfl (bndI (pl rfl) rfl) (bndI (pl rfl) rfl) (by omega) (by omega)) rfl rfl ?_
      refine vcE_bl rfl rfl (fun _ => ox_move (pl rfl)) rfl rfl ?_
      refine vcE_bl rfl rfl (fun _ => ox_move (pl rfl)) rfl rfl ?_
      refine vcE_bl rfl rfl (fun _ => ox_slP hp (pl rfl) D_35 rfl D_5 rfl (bndI (pl rfl) rfl) bndN (by omega) (by omega)) rfl rfl ?_
      refine vcE_new rfl rfl (fun _ => ox_bsl (cs := cels [slS s 1 0 I, slS s 1 I J, slS s 1 J s.len]) D_94 rfl D_35 (Nat.le_of_ble_eq_true rfl) rfl rfl) rfl rfl (.inl (by omega)) ?_
      refine vcE_call rfl rfl rfl rfl (ox_fn rfl rfl (ev24_3 (l := b) (rdC_all (hp_eq _ _ _ _) rfl) (rdC_slS hp (rdC_keep hfree hB (by exact ⟨by omega, ⟨by omega, trivial⟩⟩)) (by omega) (by omega)) (rdC_slS hp (rdC_keep hfree hB (by exact ⟨by omega, ⟨by omega, trivial⟩⟩)) (by omega) (by omega)) (rdC_slS hp (rdC_keep hfree hB (by exact ⟨by omega, ⟨by omega, trivial⟩⟩)) (by omega) (by omega)) (by rw [hlen]; exact cut3 hIJ (by omega)) (by omega))) rfl (ltuc (by omega) (ltuc (by omega) ltu0)) (⟨trivial, ⟨trivial, trivial⟩⟩) ?_
      refine vcE_bl rfl rfl (fun _ => ox_bin (pl rfl) (pl rfl) ((ne_vec K_26 cellEq_u8 _ _).trans (ne_same _))) rfl rfl ?_
      refine vcE_bl rfl rfl (fun _ => ox_move (pl rfl)) rfl rfl ?_
      refine vcE_known (wgF rfl rfl rfl) rfl ?_
      refine vcE_bl rfl rfl (fun _ => ox_move (pl rfl)) rfl rfl ?_
      refine vcE_known (wgF rfl rfl rfl) rfl ?_
      refine vcE_new rfl rfl (fun _ => ox_bsl (cs := cels [s]) D_94 rfl D_35 (Nat.le_of_ble_eq_true rfl) rfl rfl) rfl rfl (.inl (by omega)) ?_
      refine vcE_known (wgF rfl rfl rfl) rfl ?_
      refine vcE_call rfl rfl rfl rfl (ox_fn rfl rfl (ev38g (rdC_all (hp_eq _ _ _ _) rfl) (rdC_keep hfree hB (by exact ⟨by omega, ⟨by omega, ⟨by omega, trivial⟩⟩⟩)) (by omega))) rfl (ltuc (by omega) (ltuc (by omega) (ltuc (by omega) ltu0))) (⟨trivial, ⟨trivial, ⟨trivial, trivial⟩⟩⟩) ?_
      refine vcE_known (wgF rfl rfl rfl) rfl ?_
      refine vcE_bl rfl rfl (fun _ => ox_move (pl rfl)) rfl rfl ?_
      refine vcE_known (wgF rfl rfl rfl) rfl ?_
      refine vcE_bl rfl rfl (fun _ => ox_move (pl rfl)) rfl rfl ?_
      refine vcE_known (wgF rfl rfl rfl) rfl ?_
      refine vcE_bl rfl rfl (fun _ => ox_slP hp (pl rfl) D_35 rfl D_5 rfl bndN (bndI (pl rfl) rfl) (by omega) (by omega)) rfl rfl ?_
      refine vcE_known (wgF rfl rfl rfl) rfl ?_
      refine vcE_bl rfl rfl (fun _ => ox_move (pl rfl)) rfl rfl ?_
      refine vcE_known (wgF rfl rfl rfl) rfl ?_
      refine vcE_bl rfl rfl (fun _ => ox_move (pl rfl)) rfl rfl ?_
      refine vcE_known (wgF rfl rfl rfl) rfl ?_
      refine vcE_bl rfl rfl (fun _ => ox_slP hp (pl rfl) D_35 rfl D_5 rfl (bndI (pl rfl) rfl) bndN (by omega) (by omega)) rfl rfl ?_
      refine vcE_known (wgF rfl rfl rfl) rfl ?_
      refine vcE_new rfl rfl (fun _ => ox_bsl (cs := cels [slS s 1 0 I, slS s 1 I s.len]) D_94 rfl D_35 (Nat.le_of_ble_eq_true rfl) rfl rfl) rfl rfl (.inl (by omega)) ?_
      refine vcE_known (wgF rfl rfl rfl) rfl ?_
      refine vcE_call rfl rfl rfl rfl (ox_fn rfl rfl (ev38_2 (l := b) (rdC_all (hp_eq _ _ _ _) rfl) (rdC_slS hp (rdC_keep hfree hB (by exact ⟨by omega, ⟨by omega, ⟨by omega, ⟨by omega, trivial⟩⟩⟩⟩)) (by omega) (by omega)) (rdC_slS hp (rdC_keep hfree hB (by exact ⟨by omega, ⟨by omega, ⟨by omega, ⟨by omega, trivial⟩⟩⟩⟩)) (by omega) (by omega)) (by rw [hlen]; exact cut2 (by omega)) (by omega))) rfl (ltuc (by omega) (ltuc (by omega) (ltuc (by omega) (ltuc (by omega) ltu0)))) (⟨trivial, ⟨trivial, ⟨trivial, ⟨trivial, trivial⟩⟩⟩⟩) ?_
      refine vcE_known (wgF rfl rfl rfl) rfl ?_
      refine vcE_bl rfl rfl (fun _ => ox_bin (pl rfl) (pl rfl) ((ne_vec K_24 cellEq_u8 _ _).trans (ne_same _))) rfl rfl ?_
      refine vcE_bl rfl rfl (fun _ => ox_or (pl rfl) (pl rfl) (fun hc => pl rfl)) rfl rfl ?_
      refine vcE_nil ?_
      refine IW.cond rfl (fun hc3 => ?_) (fun hc3 => ?_)
      · cases hc3
      · refine IW.skip ?_
        refine IW.seq ?_
        refine IW.reg hE ?_
        refine vcS_val rfl rfl (ox_fn rfl rfl (fn0_ev _ _ _)) ?_
        refine vcS_val rfl rfl (ox_fn rfl rfl (fn0_ev _ _ _)) ?_
        refine vcS_new rfl rfl (ox_allocZ (cs := encs (Vector.replicate 8 (0 : UInt64)).toList) D_50 rfl) (.inl (by omega)) ?_
        refine vcS_new rfl rfl (ox_allocZ (cs := encs (Vector.replicate 8 (0 : UInt64)).toList) D_50 rfl) (.inl (by omega)) ?_
        refine vcS_sto rfl rfl (ox_store (pl rfl) (pl rfl) D_50 (hp_sk (by omega) (hp_eq _ _ _ _)) rfl (encs_vec_length _) (le_vec _ rfl) (encs_known _) (wr_all (by simp only [encs_vec_length]))) (.inl (by omega)) ?_
        refine vcS_sto rfl rfl (ox_store (pl rfl) (pl rfl) D_50 (hp_sk (by omega) (hp_eq _ _ _ _)) rfl (encs_vec_length _) (le_vec _ rfl) (encs_known _) (wr_all (by simp only [encs_vec_length]))) (.inl (by omega)) ?_
        refine vcS_nil ?_
        refine IW.seq ?_
        refine IW.reg hE ?_
        refine vcS_val rfl rfl (ox_move (pl rfl)) ?_
        refine vcS_ups rfl rfl (ox_fn rfl rfl (own_ev (rdC_keep hfree hB (by exact ⟨by omega, ⟨by omega, ⟨by omega, ⟨by omega, ⟨by omega, ⟨by omega, ⟨by omega, ⟨by omega, trivial⟩⟩⟩⟩⟩⟩⟩⟩)) (by omega))) rfl ⟨.inl (by omega), trivial⟩ ?_
        refine vcS_ups rfl rfl (ox_fn rfl rfl (F30_ev (fresh_rd (hp_eq _ _ _ _)) (by omega))) rfl ⟨.inl (by omega), trivial⟩ ?_
        refine vcS_val rfl rfl (ox_assign (pl rfl)) ?_
        refine vcS_nil ?_
        refine IW.seq ?_
        refine IW.seq ?_
        refine IW.drw hE mixed [[],[0],[0,1],[0,1,2],[0,1,2,3],[0,1,2,3,4],[0,1,2,3,4],[0,1,2,3,4,6],[0,1,2,3,4,5,6,7],[0,1,2,3,4,5,6,7,8],[0,1,2,3,4],[0,1,2,3,4,10],[0,1,2,3,4,5,6,7,8,9,10,11],[0,1,2,3,4,5,6,7,8,9,10,11,12],[0,1,2,3,4,5,6,7,8,9,10,11,12,13],[0,1,2,3,4,5,6,7,8,9,10,11,12,13,14],[0,1,2,3,4,5,6,7,8,9,10,11,12,13,14,15],[0,1,2,3,4,5,6,7,8,9,10,11,12,13,14],[0,1,2,3,4,5,6,7,8,9,10,11,12,13,14,17],[0,1,2,3,4,5,6,7,8,9,10,11,12,13,14,17,18],[0,1,2,3,4,5,6,7,8,9,10,11,12,13,14,15,16,17,18,19],[0,1,2,3,4,5,6,7,8,9,10,11,12,13,14,15,16,17,18,19,20],[0,1,2,3,4,5,6,7,8,9,10,11,12,13,14,15,16,17,18,19,20,21],[0,1,2,3,4,5,6,7,8,9,10,11,12,13,14,15,16,17,18,19,20,21,22],[0,1,2,3,4,5,6,7,8,9,10,11,12,13,14,15,16,17,18,19,20,21,22,23],[0,1,2,3,4,5,6,7,8,9,10,11,12,13,14,15,16,17,18,19,20,21,22],[0,1,2,3,4,5,6,7,8,9,10,11,12,13,14,15,16,17,18,19,20,21,22,25],[0,1,2,3,4,5,6,7,8,9,10,11,12,13,14,15,16,17,18,19,20,21,22,25,26],[0,1,2,3,4,5,6,7,8,9,10,11,12,13,14,15,16,17,18,19,20,21,22,23,24,25,26,27],[0,1,2,3,4,5,6,7,8,9,10,11,12,13,14,15,16,17,18,19,20,21,22,23,24,25,26,27,28]] (by kernel_rfl) (vcE_start ?_)
        refine vcE_bl rfl rfl (fun _ => ox_move (pl rfl)) rfl rfl ?_
        refine vcE_bl rfl rfl (fun _ => ox_len (pl rfl) D_35 rfl) rfl rfl ?_
        refine vcE_bl rfl rfl (fun _ => ox_bin (pl rfl) (pl rfl) (bo_i64_rem (padN b.length) 128 rfl rfl (by decide))) rfl rfl ?_
        refine vcE_bl rfl rfl (fun _ => ox_bin (pl rfl) (pl rfl) (bo_i64_neq _ _)) rfl rfl ?_
        refine vcE_bl rfl rfl (fun _ => ox_move (pl rfl)) rfl rfl ?_
        refine vcE_opt rfl (wgF rfl rfl rfl) rfl rfl (fun hb => ox_move (pl rfl)) (fun hb => vi_bl rfl rfl) hf0 (trivial) ?_
        refine vcE_opt rfl (wgF rfl rfl rfl) rfl rfl (fun hb => ox_move (pl rfl)) (fun hb => vi_bl rfl rfl) hf0 (trivial) ?_
        refine vcE_opt rfl (wgF rfl rfl rfl) rfl rfl (fun hb => ox_len (gd hb rfl) D_35 rfl) (fun hb => vi_len (gd hb rfl)) hf0 (trivial) ?_
        refine vcE_opt rfl (wgF rfl rfl rfl) rfl rfl (fun hb => ox_slH (gd hb rfl) D_35 rfl D_5 (bndI (gd hb rfl) rfl) (by omega) (.inl rfl)) (fun hb => vi_bl rfl rfl) hf0 (trivial) ?_
        refine vcE_opt rfl (wgF rfl rfl rfl) rfl rfl (fun hb => ox_cvS (gd hb rfl) D_35 rfl D_5 rfl D_9 rfl (rdC_sl0 (rdC_1all (hp_eq _ _ _ _) (padL_length _)) (by omega))) (fun hb => vi_conv1 (gd hb rfl)) (hf1 (by omega)) (trivial) ?_
        refine vcE_opt rfl (wgF rfl rfl rfl) rfl rfl (fun hb => ox_move (pl rfl)) (fun hb => vi_bl rfl rfl) hf0 (trivial) ?_
        refine vcE_opt rfl (wgF rfl rfl rfl) rfl rfl (fun hb => ox_cvS (gd hb rfl) D_35 rfl D_5 rfl D_9 rfl (rdC_keep hfree hB (by exact ⟨by omega, ⟨by omega, ⟨by omega, ⟨by omega, ⟨by omega, ⟨by omega, ⟨by omega, ⟨by omega, ⟨by omega, ⟨by omega, trivial⟩⟩⟩⟩⟩⟩⟩⟩⟩⟩))) (fun hb => vi_convV (gd hb rfl)) (hfL (blk_lt hlt (by omega))) (trivial) ?_
        refine vcE_opt rfl (wgF rfl rfl rfl) rfl rfl (fun hb => ox_bin (gd hb rfl) (gd hb rfl) (bo_str_neq _ _)) (fun hb => vi_bl rfl rfl) hf0 (trivial) ?_
        refine vcE_bl rfl rfl (fun _ => ox_or (pl rfl) (pl rfl) (fun hc => gd (by rw [hc]; rfl) rfl)) rfl rfl ?_
        refine vcE_bl rfl rfl (fun _ => ox_move (pl rfl)) rfl rfl ?_
        refine vcE_opt rfl (wgF rfl rfl rfl) rfl rfl (fun hb => ox_move (pl rfl)) (fun hb => vi_bl rfl rfl) hf0 (trivial) ?_
        refine vcE_opt rfl (wgF rfl rfl rfl) rfl rfl (fun hb => ox_len (gd hb rfl) D_35 rfl) (fun hb => vi_len (gd hb rfl)) hf0 (trivial) ?_
        refine vcE_opt rfl (wgF rfl rfl rfl) rfl rfl (fun hb => ox_move (pl rfl)) (fun hb => vi_bl rfl rfl) hf0 (trivial) ?_
        refine vcE_opt rfl (wgF rfl rfl rfl) rfl rfl (fun hb => ox_len (gd hb rfl) D_35 rfl) (fun hb => vi_len (gd hb rfl)) hf0 (trivial) ?_
        refine vcE_opt rfl (wgF rfl rfl rfl) rfl rfl (fun hb => ox_bin (gd hb rfl) (pl rfl) (bo_i64_add (by omega))) (fun hb => vi_bl rfl rfl) hf0 (trivial) ?_
        refine vcE_opt rfl (wgF rfl rfl rfl) rfl rfl (fun hb => ox_bin (gd hb rfl) (gd hb rfl) (bo_i64_lss _ _)) (fun hb => vi_bl rfl rfl) hf0 (trivial) ?_
        refine vcE_bl rfl rfl (fun _ => ox_or (pl rfl) (pl rfl) (fun hc => gd (by rw [hc]; rfl) rfl)) rfl rfl ?_
        refine vcE_bl rfl rfl (fun _ => ox_move (pl rfl)) rfl rfl ?_
        refine vcE_opt rfl (wgF rfl rfl rfl) rfl rfl (fun hb => ox_move (pl rfl)) (fun hb => vi_bl rfl rfl) hf0 (trivial) ?_
        refine vcE_opt rfl (wgF rfl rfl rfl) rfl rfl (fun hb => ox_len (gd hb rfl) D_35 rfl) (fun hb => vi_len (gd hb rfl)) hf0 (trivial) ?_
        refine vcE_opt rfl (wgF rfl rfl rfl) rfl rfl (fun hb => ox_move (pl rfl)) (fun hb => vi_bl rfl rfl) hf0 (trivial) ?_
        refine vcE_opt rfl (wgF rfl rfl rfl) rfl rfl (fun hb => ox_len (gd hb rfl) D_35 rfl) (fun hb => vi_len (gd hb rfl)) hf0 (trivial) ?_
        refine vcE_opt rfl (wgF rfl rfl rfl) rfl rfl (fun hb => ox_bin (gd hb rfl) (pl rfl) (bo_i64_add (by omega))) (fun hb => vi_bl rfl rfl) hf0 (trivial) ?_
        refine vcE_opt rfl (wgF rfl rfl rfl) rfl rfl (fun hb => ox_bin (gd hb rfl) (gd hb rfl) (bo_i64_gtr _ _)) (fun hb => vi_bl rfl rfl) hf0 (trivial) ?_
        refine vcE_bl rfl rfl (fun _ => ox_or (pl rfl) (pl rfl) (fun hc => gd (by rw [hc]; rfl) rfl)) rfl rfl ?_
        refine vcE_nil ?_
        refine IW.cond rfl (fun hc4 => ?_) (fun hc4 => ?_)
        · rw [hlen] at hc4; exact nomatch (parts1 b).symm.trans hc4
        · refine IW.skip ?_
          refine IW.seq ?_
          refine IW.seq ?_
          refine IW.reg hE ?_
          refine vcS_val rfl rfl (ox_assign (pl rfl)) ?_
          refine vcS_nil ?_
          refine IW.block ?_
          refine IW.loop (S := Nat) (fun j => [(0, enc s), (7, .pointer (some ⟨n + 1 + 1 + 1 + 1, 0, none⟩)), (8, .pointer (some ⟨n + 1 + 1 + 1 + 1 + 1, 0, none⟩)), (9, .slice (some ⟨n + 1 + 1 + 1 + 1 + 1 + 1 + 1, 0, none⟩) (padN b.length) (padN b.length)), (10, .int .i64 ((128 * j : Nat) : Int))]) (fun j => [(n + 1 + 1 + 1 + 1, some (.cells (encs (foldN kL (padL b) startV j).toList) false)), (n + 1 + 1 + 1 + 1 + 1, some (.cells (encs (foldN kL (padL b) shortV j).toList) false)), (n + 1 + 1 + 1 + 1 + 1 + 1 + 1, some (.cells (encs (padL b)) false))]) (fun j => n + 8 + j) (fun j => j ≤ (padL b).length / 128) (fun j => (padL b).length - j) (0) (Nat.zero_le _) (⟨rfl, ⟨rfl, ⟨rfl, ⟨rfl, ⟨rfl, trivial⟩⟩⟩⟩⟩) (leX_le (leX_same (hp_sk (by omega) (hp_sk (by omega) (hp_sk (by omega) (hp_eq _ _ _ _)))) rfl (leX_same (hp_sk (by omega) (hp_sk (by omega) (hp_eq _ _ _ _))) rfl (leX_same (hp_eq _ _ _ _) rfl (leX_none hfree (by exact ⟨by omega, ⟨by omega, ⟨by omega, ⟨by omega, ⟨by omega, ⟨by omega, ⟨by omega, ⟨by omega, ⟨by omega, ⟨by omega, trivial⟩⟩⟩⟩⟩⟩⟩⟩⟩⟩)))))) (by omega) (fun j hj => ?_)
          refine IW.seq ?_
          refine IW.seq ?_
          refine IW.reg hE ?_
          refine vcS_val rfl rfl (ox_move (pl rfl)) ?_
          refine vcS_val rfl rfl (ox_move (pl rfl)) ?_
          refine vcS_val rfl rfl (ox_len (pl rfl) D_35 rfl) ?_
          refine vcS_val rfl rfl (ox_bin (pl rfl) (pl rfl) (bo_i64_lss _ _)) ?_
          refine vcS_nil ?_
          refine IW.cond rfl (fun hc5 => ?_) (fun hc5 => ?_)
          · replace hc5 := of_decide_eq_true hc5
            have hxp : j * 128 + 128 ≤ (padL b).length := by omega
            refine IW.skip ?_
            refine IW.seq ?_
            refine IW.block ?_
            refine IW.seq ?_
            refine IW.reg hE ?_
            refine vcS_val rfl rfl (ox_move (pl rfl)) ?_
            refine vcS_val rfl rfl (ox_move (pl rfl)) ?_
            refine vcS_val rfl rfl (ox_move (pl rfl)) ?_
            refine vcS_val rfl rfl (ox_bin (pl rfl) (pl rfl) (bo_i64_add (by omega))) ?_
            refine vcS_val rfl rfl (ox_slK (l := 128 * j) (h := 128 * j + 128) (pl rfl) D_35 rfl D_5 (bndI (pl rfl) rfl) (bndI (pl rfl) rfl) (by omega) (by omega) (by omega)) ?_
            refine vcS_val rfl rfl (ox_s2ap (pl rfl) D_63 rfl (by omega)) ?_
            refine vcS_val rfl rfl (ox_load (pl rfl) D_63 (hp_sk (by omega) (hp_sk (by omega) (hp_eq _ _ _ _))) (rd_pvec (i := j) hxp rfl rfl (by show 0 + _ * 1 = _; omega))) ?_
            refine vcS_new rfl rfl (ox_allocZ (cs := encs (Vector.replicate 128 (0 : UInt8)).toList) D_63 rfl) (.inl (by omega)) ?_
            refine vcS_sto rfl rfl (ox_store (pl rfl) (pl rfl) D_63 (hp_eq _ _ _ _) rfl (encs_vec_length _) (le_vec _ rfl) (encs_known _) (wr_all (by simp only [encs_vec_length]))) (.inl (by omega)) ?_
            refine vcS_nil ?_
            refine IW.drw hE mixed [[],[],[0,1],[],[],[0,1,2,3,4],[0,1,2,3,4,5],[0,1,2,3,4,5,6]] (by kernel_rfl) (vcE_start ?_)
            refine vcE_val rfl rfl rfl rfl (ox_load (pl rfl) D_50 (hp_sk (by omega) (hp_sk (by omega) (hp_eq _ _ _ _))) (rd_all rfl (encs_vec_length _))) rfl (si_load (pl rfl)) (lt1 (by omega)) (trivial) ?_
            refine vcE_val rfl rfl rfl rfl (ox_load (pl rfl) D_63 (hp_eq _ _ _ _) (rd_all rfl (encs_vec_length _))) rfl (si_load (pl rfl)) (lt1 (by omega)) (trivial) ?_
            refine vcE_call rfl rfl rfl rfl (ox_fn rfl rfl (fn2_ev _ _ _ _ _)) rfl ltu0 (trivial) ?_
            refine vcE_val rfl rfl rfl rfl (ox_load (pl rfl) D_50 (hp_sk (by omega) (hp_sk (by omega) (hp_sk (by omega) (hp_eq _ _ _ _)))) (rd_all rfl (encs_vec_length _))) rfl (si_load (pl rfl)) (lt1 (by omega)) (trivial) ?_
            refine vcE_val rfl rfl rfl rfl (ox_load (pl rfl) D_63 (hp_eq _ _ _ _) (rd_all rfl (encs_vec_length _))) rfl (si_load (pl rfl)) (lt1 (by omega)) (trivial) ?_
            refine vcE_call rfl rfl rfl rfl (ox_fn rfl rfl (fn2_ev _ _ _ _ _)) rfl ltu0 (trivial) ?_
            refine vcE_sto rfl rfl rfl rfl (ox_store (pl rfl) (pl rfl) D_50 (hp_sk (by omega) (hp_sk (by omega) (hp_eq _ _ _ _))) rfl (encs_vec_length _) (le_vec _ rfl) (encs_known _) (wr_all (by simp only [encs_vec_length]))) rfl (si_store (pl rfl)) (is_some (hp_sk (by omega) (hp_sk (by omega) (hp_eq _ _ _ _)))) (by omega) (.inl (by omega)) (trivial) (⟨trivial, ⟨trivial, ⟨trivial, ⟨trivial, ⟨trivial, ⟨trivial, trivial⟩⟩⟩⟩⟩⟩) ?_
            refine vcE_sto rfl rfl rfl rfl (ox_store (pl rfl) (pl rfl) D_50 (hp_sk (by omega) (hp_sk (by omega) (hp_sk (by omega) (hp_sk (by omega) (hp_eq _ _ _ _))))) rfl (encs_vec_length _) (le_vec _ rfl) (encs_known _) (wr_all (by simp only [encs_vec_length]))) rfl (si_store (pl rfl)) (is_some (hp_sk (by omega) (hp_sk (by omega) (hp_sk (by omega) (hp_sk (by omega) (hp_eq _ _ _ _)))))) (by omega) (.inl (by omega)) (⟨trivial, trivial⟩) (⟨trivial, ⟨trivial, ⟨trivial, ⟨trivial, ⟨trivial, ⟨trivial, ⟨trivial, trivial⟩⟩⟩⟩⟩⟩⟩) ?_
            refine vcE_nil ?_
            refine IW.nilB ?_
            refine IW.reg hE ?_
            refine vcS_val rfl rfl (ox_move (pl rfl)) ?_
            refine vcS_val rfl rfl (ox_bin (pl rfl) (pl rfl) (bo_i64_add (by omega))) ?_
            refine vcS_val rfl rfl (ox_assign (pl rfl)) ?_
            refine vcS_nil ?_
            refine IW.nilS ?_
            exact ⟨j + 1, _, _, by omega, by omega, rfl, ⟨rfl, ⟨rfl, ⟨rfl, ⟨rfl, ⟨(congrArg (fun z => some (Value.int .i64 z)) (by omega)), trivial⟩⟩⟩⟩⟩, rfl, leX_le (leX_same (hp_sk (by omega) (hp_eq _ _ _ _)) (by rw [pvec_toList]; rfl) (leX_same (hp_eq _ _ _ _) (by rw [pvec_toList]; rfl) (leX_same (hp_sk (by omega) (hp_sk (by omega) (hp_sk (by omega) (hp_sk (by omega) (hp_sk (by omega) (hp_sk (by omega) (hp_eq _ _ _ _))))))) rfl (leX_none hfree (by exact ⟨by omega, ⟨by omega, ⟨by omega, ⟨by omega, ⟨by omega, ⟨by omega, ⟨by omega, trivial⟩⟩⟩⟩⟩⟩⟩))))), by omega⟩
          · replace hc5 := of_decide_eq_false hc5
            have hjk : j = (padL b).length / 128 := by omega
            subst hjk
            refine IW.exit ?_
            refine exS (exS ?_)
            refine blkQ_exit ?_
            refine IW.seq ?_
            refine IW.reg hE ?_
            refine vcS_val rfl rfl (ox_move (pl rfl)) ?_
            refine vcS_new rfl rfl (ox_bsl (cs := cels [s]) D_94 rfl D_35 (Nat.le_of_ble_eq_true rfl) rfl rfl) (.inl (by omega)) ?_
            refine vcS_val rfl rfl (ox_fn rfl rfl (ev24g (rdC_all (hp_eq _ _ _ _) rfl) (rdC_keep hfree hB (by exact ⟨by omega, ⟨by omega, ⟨by omega, ⟨by omega, trivial⟩⟩⟩⟩)) (by omega))) ?_
            refine vcS_val rfl rfl (ox_move (pl rfl)) ?_
            refine vcS_new rfl rfl (ox_bsl (cs := cels [s]) D_94 rfl D_35 (Nat.le_of_ble_eq_true rfl) rfl rfl) (.inl (by omega)) ?_
            refine vcS_val rfl rfl (ox_fn rfl rfl (ev38g (rdC_all (hp_eq _ _ _ _) rfl) (rdC_keep hfree hB (by exact ⟨by omega, ⟨by omega, ⟨by omega, ⟨by omega, ⟨by omega, trivial⟩⟩⟩⟩⟩)) (by omega))) ?_
            refine vcS_new rfl rfl (ox_allocZ (cs := encs (Vector.replicate 64 (0 : UInt8)).toList) D_26 rfl) (.inl (by omega)) ?_
            refine vcS_new rfl rfl (ox_allocZ (cs := encs (Vector.replicate 32 (0 : UInt8)).toList) D_24 rfl) (.inl (by omega)) ?_
            refine vcS_sto rfl rfl (ox_store (pl rfl) (pl rfl) D_26 (hp_sk (by omega) (hp_eq _ _ _ _)) rfl (encs_vec_length _) (le_vec _ rfl) (encs_known _) (wr_all (by simp only [encs_vec_length]))) (.inl (by omega)) ?_
            refine vcS_sto rfl rfl (ox_store (pl rfl) (pl rfl) D_24 (hp_sk (by omega) (hp_eq _ _ _ _)) rfl (encs_vec_length _) (le_vec _ rfl) (encs_known _) (wr_all (by simp only [encs_vec_length]))) (.inl (by omega)) ?_
            refine vcS_nil ?_
            refine IW.seq ?_
            refine IW.seq ?_
            refine IW.reg hE ?_
            refine vcS_val rfl rfl (ox_assign (pl rfl)) ?_
            refine vcS_nil ?_
            refine IW.block ?_
            refine IW.loop (S := Nat) (fun q => [(7, .pointer (some ⟨n + 1 + 1 + 1 + 1, 0, none⟩)), (8, .pointer (some ⟨n + 1 + 1 + 1 + 1 + 1, 0, none⟩)), (12, .pointer (some ⟨n + 8 + ((padL b).length / 128) + 1 + 1, 0, none⟩)), (13, .pointer (some ⟨n + 8 + ((padL b).length / 128) + 1 + 1 + 1, 0, none⟩)), (14, .int .i64 q)]) (fun q => [(n + 8 + ((padL b).length / 128) + 1 + 1 + 1, some (.cells (encs (digV b).toList) false)), (n + 8 + ((padL b).length / 128) + 1 + 1, some (.cells (encs (sumV startV b).toList) false)), (n + 1 + 1 + 1 + 1, some (.cells (encs (foldN kL (padL b) startV ((padL b).length / 128)).toList) false)), (n + 1 + 1 + 1 + 1 + 1, some (.cells (encs (foldN kL (padL b) shortV ((padL b).length / 128)).toList) false))]) (fun q => n + 8 + ((padL b).length / 128) + 1 + 1 + 1 + 1) (fun q => q ≤ 64) (fun q => 64 - q) (0) (by simp) (⟨rfl, ⟨rfl, ⟨rfl, ⟨rfl, ⟨rfl, trivial⟩⟩⟩⟩⟩) (leX_le (leX_same (hp_eq _ _ _ _) rfl (leX_same (hp_sk (by omega) (hp_eq _ _ _ _)) rfl (leX_same (hp_sk (by omega) (hp_sk (by omega) (hp_sk (by omega) (hp_sk (by omega) (hp_sk (by omega) (hp_sk (by omega) (hp_eq _ _ _ _))))))) rfl (leX_same (hp_sk (by omega) (hp_sk (by omega) (hp_sk (by omega) (hp_sk (by omega) (hp_sk (by omega) (hp_sk (by omega) (hp_sk (by omega) (hp_eq _ _ _ _)))))))) rfl (leX_none hfree (by exact ⟨by omega, ⟨by omega, ⟨by omega, ⟨by omega, ⟨by omega, ⟨by omega, ⟨by omega, ⟨by omega, ⟨by omega, trivial⟩⟩⟩⟩⟩⟩⟩⟩⟩))))))) (Nat.le_refl _) (fun q hq => ?_)
            refine IW.seq ?_
            refine IW.seq ?_
            refine IW.reg hE ?_
            refine vcS_val rfl rfl (ox_move (pl rfl)) ?_
            refine vcS_val rfl rfl (ox_bin (pl rfl) (pl rfl) (bo_i64_lss _ _)) ?_
            refine vcS_nil ?_
            refine IW.cond rfl (fun hc6 => ?_) (fun hc6 => ?_)
            · replace hc6 := of_decide_eq_true hc6
              refine IW.skip ?_
              refine IW.seq ?_
              refine IW.block ?_
              refine IW.seq ?_
              refine IW.drw hE mixed [[],[0],[0,1],[],[3],[3,4],[3,4,5],[],[7],[7,8],[7,8,9],[7,8,9,10],[3,4,5,6,7,8,9,10,11],[3,4,5,6,7,8,9,10,11,12],[0,1,2,3,4,5,6,7,8,9,10,11,12,13],[0,1,2,3,4,5,6,7,8,9,10,11,12,13,14],[0,1,2,3,4,5,6,7,8,9,10,11,12,13,14,15],[0,1,2,3,4,5,6,7,8,9,10,11,12,13,14,15,16],[0,1,2,3,4,5,6,7,8,9,10,11,12,13,14,15,16,17],[0,1,2,3,4,5,6,7,8,9,10,11,12,13,14,15,16,17,18],[0,1,2,3,4,5,6,7,8,9,10,11,12,13,14,15,16,17,18,19],[0,1,2,3,4,5,6,7,8,9,10,11,12,13,14,15,16,17,18,19,20],[0,1,2,3,4,5,6,7,8,9,10,11,12,13,14,15,16,17,18],[0,1,2,3,4,5,6,7,8,9,10,11,12,13,14,15,16,17,18,22],[0,1,2,3,4,5,6,7,8,9,10,11,12,13,14,15,16,17,18,22,23],[0,1,2,3,4,5,6,7,8,9,10,11,12,13,14,15,16,17,18,22,23,24],[0,1,2,3,4,5,6,7,8,9,10,11,12,13,14,15,16,17,18],[0,1,2,3,4,5,6,7,8,9,10,11,12,13,14,15,16,17,18,26],[0,1,2,3,4,5,6,7,8,9,10,11,12,13,14,15,16,17,18,26,27],[0,1,2,3,4,5,6,7,8,9,10,11,12,13,14,15,16,17,18,26,27,28],[0,1,2,3,4,5,6,7,8,9,10,11,12,13,14,15,16,17,18,26,27,28,29],[0,1,2,3,4,5,6,7,8,9,10,11,12,13,14,15,16,17,18,22,23,24,25,26,27,28,29,30],[0,1,2,3,4,5,6,7,8,9,10,11,12,13,14,15,16,17,18,22,23,24,25,26,27,28,29,30,31],[0,1,2,3,4,5,6,7,8,9,10,11,12,13,14,15,16,17,18,19,20,21,22,23,24,25,26,27,28,29,30,31,32],[0,1,2,3,4,5,6,7,8,9,10,11,12,13,14,15,16,17,18,19,20,21,22,23,24,25,26,27,28,29,30,31,32,33],[0,1,2,3,4,5,6,7,8,9,10,11,12,13,14,15,16,17,18,19,20,21,22,23,24,25,26,27,28,29,30,31,32,33,34]] (by kernel_rfl) (vcE_start ?_)
              refine vcE_bl rfl rfl (fun _ => ox_move (pl rfl)) rfl rfl ?_
              refine vcE_bl rfl rfl (fun _ => ox_iaA (pl rfl) (pl rfl) D_26 rfl D_5 (by omega) (by omega)) rfl rfl ?_
              refine vcE_val rfl rfl rfl rfl (ox_load (pl rfl) D_5 (hp_sk (by omega) (hp_eq _ _ _ _)) (rd_ix (q) (0 : UInt8) rfl (by simp) (by simp; omega))) rfl (si_load (pl rfl)) (lt1 (by omega)) (trivial) ?_
              refine vcE_bl rfl rfl (fun _ => ox_move (pl rfl)) rfl rfl ?_
              refine vcE_bl rfl rfl (fun _ => ox_bin (pl rfl) (pl rfl) (bo_i64_quo q 8 rfl rfl (by decide) (by omega))) rfl rfl ?_
              refine vcE_bl rfl rfl (fun _ => ox_iaA (pl rfl) (pl rfl) D_50 rfl D_22 (by omega) (by omega)) rfl rfl ?_
              refine vcE_val rfl rfl rfl rfl (ox_load (pl rfl) D_22 (hp_sk (by omega) (hp_sk (by omega) (hp_eq _ _ _ _))) (rd_ix (q / 8) (0 : UInt64) rfl (by rw [Int.toNat_natCast]; show 0 + _ * 1 = _; omega) (by simp; omega))) rfl (si_load (pl rfl)) (lt1 (by omega)) (trivial) ?_
              refine vcE_bl rfl rfl (fun _ => ox_move (pl rfl)) rfl rfl ?_
              refine vcE_bl rfl rfl (fun _ => ox_bin (pl rfl) (pl rfl) (bo_i64_rem q 8 rfl rfl (by decide))) rfl rfl ?_
              refine vcE_bl rfl rfl (fun _ => ox_bin (pl rfl) (pl rfl) (bo_i64_mul (by omega))) rfl rfl ?_
              refine vcE_bl rfl rfl (fun _ => ox_bin (pl rfl) (pl rfl) (bo_i64_sub (by omega))) rfl rfl ?_
              refine vcE_bl rfl rfl (fun _ => cv_i_6 (56 - 8 * (q % 8)) (pl rfl) D_3 D_60 rfl (by omega)) rfl rfl ?_
              refine vcE_bl rfl rfl (fun _ => ox_bin (pl rfl) (pl rfl) (shr_nat (56 - 8 * (q % 8)) (by omega))) rfl rfl ?_
              refine vcE_bl rfl rfl (fun _ => cv_6_8 (pl rfl) D_22 D_5 rfl) rfl rfl ?_
              refine vcE_bl rfl rfl (fun _ => ox_bin (pl rfl) (pl rfl) ((bo_u8_neq _ _).trans (ne_eqf (sum_get startV b (by omega))))) rfl rfl ?_
              refine vcE_bl rfl rfl (fun _ => ox_move (pl rfl)) rfl rfl ?_
              refine vcE_known (wgF rfl rfl rfl) rfl ?_
              refine vcE_bl rfl rfl (fun _ => ox_move (pl rfl)) rfl rfl ?_
              refine vcE_known (wgF rfl rfl rfl) rfl ?_
              refine vcE_bl rfl rfl (fun _ => ox_bin (pl rfl) (pl rfl) (bo_i64_lss _ _)) rfl rfl ?_
              refine vcE_known (wgF rfl rfl rfl) rfl ?_
              refine vcE_bl rfl rfl (fun _ => ox_move (pl rfl)) rfl rfl ?_
              refine vcE_opt rfl (wgT rfl rfl rfl) rfl rfl (fun hb => ox_move (pl rfl)) (fun hb => vi_bl rfl rfl) hf0 (trivial) ?_
              refine vcE_opt rfl (wgT rfl rfl rfl) rfl rfl (fun hb => ox_iaA (pl rfl) (gd hb rfl) D_24 rfl D_5 (by omega) (by have := of_decide_eq_true hb; omega)) (fun hb => vi_bl rfl rfl) hf0 (trivial) ?_
              refine vcE_opt rfl (wgT rfl rfl rfl) rfl rfl (fun hb => ox_load (gd hb rfl) D_5 (hp_eq _ _ _ _) (rd_ix (q) (0 : UInt8) rfl (by simp) (by have := of_decide_eq_true hb; simp; omega))) (fun hb => vi_load (gd hb rfl)) (hf1 (by omega)) (trivial) ?_
              refine vcE_opt rfl (wgT rfl rfl rfl) rfl rfl (fun hb => ox_move (pl rfl)) (fun hb => vi_bl rfl rfl) hf0 (trivial) ?_
              refine vcE_opt rfl (wgT rfl rfl rfl) rfl rfl (fun hb => ox_bin (gd hb rfl) (pl rfl) (bo_i64_quo q 8 rfl rfl (by decide) (by omega))) (fun hb => vi_bl rfl rfl) hf0 (trivial) ?_
              refine vcE_opt rfl (wgT rfl rfl rfl) rfl rfl (fun hb => ox_iaA (pl rfl) (gd hb rfl) D_50 rfl D_22 (by omega) (by omega)) (fun hb => vi_bl rfl rfl) hf0 (trivial) ?_
              refine vcE_opt rfl (wgT rfl rfl rfl) rfl rfl (fun hb => ox_load (gd hb rfl) D_22 (hp_sk (by omega) (hp_sk (by omega) (hp_sk (by omega) (hp_eq _ _ _ _)))) (rd_ix (q / 8) (0 : UInt64) rfl (by rw [Int.toNat_natCast]; show 0 + _ * 1 = _; omega) (by simp; omega))) (fun hb => vi_load (gd hb rfl)) (hf1 (by omega)) (trivial) ?_
              refine vcE_opt rfl (wgT rfl rfl rfl) rfl rfl (fun hb => ox_move (pl rfl)) (fun hb => vi_bl rfl rfl) hf0 (trivial) ?_
              refine vcE_opt rfl (wgT rfl rfl rfl) rfl rfl (fun hb => ox_bin (gd hb rfl) (pl rfl) (bo_i64_rem q 8 rfl rfl (by decide))) (fun hb => vi_bl rfl rfl) hf0 (trivial) ?_
              refine vcE_opt rfl (wgT rfl rfl rfl) rfl rfl (fun hb => ox_bin (pl rfl) (gd hb rfl) (bo_i64_mul (by omega))) (fun hb => vi_bl rfl rfl) hf0 (trivial) ?_
              refine vcE_opt rfl (wgT rfl rfl rfl) rfl rfl (fun hb => ox_bin (pl rfl) (gd hb rfl) (bo_i64_sub (by omega))) (fun hb => vi_bl rfl rfl) hf0 (trivial) ?_
              refine vcE_opt rfl (wgT rfl rfl rfl) rfl rfl (fun hb => cv_i_6 (56 - 8 * (q % 8)) (gd hb rfl) D_3 D_60 rfl (by omega)) (fun hb => vi_cvI (gd hb rfl)) hf0 (trivial) ?_
              refine vcE_opt rfl (wgT rfl rfl rfl) rfl rfl (fun hb => ox_bin (gd hb rfl) (gd hb rfl) (shr_nat (56 - 8 * (q % 8)) (by omega))) (fun hb => vi_bl rfl rfl) hf0 (trivial) ?_
              refine vcE_opt rfl (wgT rfl rfl rfl) rfl rfl (fun hb => cv_6_8 (gd hb rfl) D_22 D_5 rfl) (fun hb => vi_cvI (gd hb rfl)) hf0 (trivial) ?_
              refine vcE_opt rfl (wgT rfl rfl rfl) rfl rfl (fun hb => ox_bin (gd hb rfl) (gd hb rfl) (bo_u8_neq _ _)) (fun hb => vi_bl rfl rfl) hf0 (trivial) ?_
              refine vcE_known (wgF rfl rfl rfl) rfl ?_
              refine vcE_bl rfl rfl (fun _ => ox_and (pl rfl) (fun hc => gd hc rfl) (pl rfl)) rfl rfl ?_
              refine vcE_bl rfl rfl (fun _ => ox_or (pl rfl) (pl rfl) (fun hc => pl rfl)) rfl rfl ?_
              refine vcE_nil ?_
              refine IW.cond rfl (fun hc7 => ?_) (fun hc7 => ?_)
              · simp only [Bool.false_or, Bool.and_eq_true, bne_iff_ne, decide_eq_true_eq] at hc7; exact absurd (dig_get b (by omega)) hc7.2
              · refine IW.skip ?_
                refine IW.nilB ?_
                refine IW.reg hE ?_
                refine vcS_val rfl rfl (ox_move (pl rfl)) ?_
                refine vcS_val rfl rfl (ox_bin (pl rfl) (pl rfl) (bo_i64_add (by omega))) ?_
                refine vcS_val rfl rfl (ox_assign (pl rfl)) ?_
                refine vcS_nil ?_
                refine IW.nilS ?_
                exact ⟨q + 1, _, _, by omega, by omega, rfl, ⟨rfl, ⟨rfl, ⟨rfl, ⟨rfl, ⟨rfl, trivial⟩⟩⟩⟩⟩, rfl, fun _ _ h => h, Nat.le_refl _⟩
            · replace hc6 := of_decide_eq_false hc6
              refine IW.exit ?_
              refine exS (exS ?_)
              refine blkQ_exit ?_
              refine IW.seq ?_
              refine IW.reg hE ?_
              refine vcS_val rfl rfl (ox_assign (pl rfl)) ?_
              refine vcS_nil ?_
              refine IW.ret ?_
              exact RetP.ret (.inr rfl) rfl rfl trivial (rfl)
end Go.Proofs.Ytdnnojblneccdaa
/-
  Slices as they come from outside.
-/
namespace Go.Proofs.Ytdnnojblneccdaa
set_option linter.unusedSimpArgs false
set_option linter.unusedVariables false
open Go Go.ChangeShapes Go.WideShapes Go.ChangeAt Go.RowKit
open Enc (enc)
set_option maxRecDepth 100000

theorem bytes_pl {W : World} {base : Nat} {s : Sl} (h : Value.okWide Try.prog W .any base 35 (enc s)) : SlP s := by
  have h2 : Cell.okWide Try.prog W .any base 35 (enc s) := by
    unfold Value.okWide at h
    rw [Try.underlying35] at h
    exact h
  obtain ⟨a, len, cap⟩ := s
  have h2 : Cell.okWide Try.prog W .any base 35 (.slice a len cap) := h2
  simp only [Cell.okWide, Try.underlying35, Cell.ok] at h2
  cases a with
  | none =>
    cases len with
    | zero => cases cap with
      | zero => exact .inl ⟨rfl, rfl, rfl⟩
      | succ c => exact False.elim h2
    | succ l => exact False.elim h2
  | some a =>
    simp only at h2
    obtain ⟨h0, _, _, h1, _⟩ := h2
    obtain ⟨r, off, sp⟩ := a
    simp only at h1; subst h1
    exact .inr ⟨r, off, rfl, h0⟩
end Go.Proofs.Ytdnnojblneccdaa
