import Derived.Test.YtdnnojblneccdaaJI
/-
  Elements of lists, where the order is drawn.
-/
namespace Go.Proofs.Ytdnnojblneccdaa
set_option linter.unusedSimpArgs false
set_option linter.unusedVariables false
open Go
open Enc (enc)

theorem ox_iaC2 {α : Type} [Row α] {Γ : Fns} {D : Ty} {K : Kinds} {e : Operand → Value} {H H0 : IHeap} {n : Nat} {t : TypeId} {x y : Operand} {v : Value} {el : Nat} {k : IntKind} {j : Int} {d de : TD} {l : List α} (i : Nat) (hx : e x = v) (hy : e y = .int k j) (hd : D t = some d) (hk : d.k = .slice el) (hde : D el = some de) (hs : de.size = Row.sz α) (hl : rdC H0 v = some l) (hj : j = i) (hi : i < l.length) :
    iopC Γ D K e H n (.indexAddr t x y) = some ⟨.pointer (some ⟨adrId v, adrOff v + i * Row.sz α, none⟩), [], n⟩ := by
  obtain ⟨a, cap, rfl⟩ := rdC_len hl
  obtain ⟨id, off, sp, c, ro, rfl, h1, h2⟩ := rdC_at hl hi
  subst hj
  rw [ox_iaS hx hy hd hk hde (by omega) (by omega), hs]
  rfl
theorem adr_lt {α : Type} [Row α] {H : IHeap} {v : Value} {l : List α} {i n : Nat} (h : rdC H v = some l) (hi : i < l.length) (hlt : ∀ id ∈ blk v, id < n) : adrId v < n := by
  obtain ⟨a, cap, rfl⟩ := rdC_len h
  obtain ⟨id, off, sp, c, ro, rfl, _, _⟩ := rdC_at h hi
  exact hlt id (by simp [blk])
theorem ox_max {Γ : Fns} {D : Ty} {K : Kinds} {e : Operand → Value} {H : IHeap} {n : Nat} {x y : Operand} {ts : Array TypeId} {k : IntKind} {i j : Int} (hx : e x = .int k i) (hy : e y = .int k j) : iopC Γ D K e H n (.call ⟨.builtin .max, #[x, y], ts⟩) = some ⟨.int k (if j > i then j else i), [], n⟩ := by
  simp [iopC, iop, doBuiltin, hx, hy, Ytdnnojblneccdaa.val]
end Go.Proofs.Ytdnnojblneccdaa
/-
  The document's numbers of many words of 32 bits: product, comparison.
-/
namespace Go.Proofs.Ytdnnojblneccdaa
set_option linter.unusedSimpArgs false
set_option linter.unusedVariables false
open Go
open Enc (enc)
set_option maxRecDepth 100000

def mstep (x : UInt32) (b out : List UInt32) (i k : Nat) (v : UInt64) : UInt64 := v + x.toUInt64 * (b.getD k 0).toUInt64 + (out.getD (i + k) 0).toUInt64
def minn (x : UInt32) (b out : List UInt32) (i : Nat) : Nat → List UInt32 × UInt64
  | 0 => (out, 0)
  | k + 1 =>
    let p := minn x b out i k
    (p.1.set (i + k) (mstep x b p.1 i k p.2 % 4294967296).toUInt32, shr64 (mstep x b p.1 i k p.2) 32)
def mout (a b : List UInt32) : Nat → List UInt32
  | 0 => List.replicate (a.length + b.length) 0
  | i + 1 => let p := minn (a.getD i 0) b (mout a b i) i b.length; p.1.set (i + b.length) p.2.toUInt32
def mulL (a b : List UInt32) : List UInt32 := mout a b a.length
theorem minn_length (x : UInt32) (b out : List UInt32) (i : Nat) : ∀ k, (minn x b out i k).1.length = out.length
  | 0 => rfl
  | k + 1 => by simp only [minn, List.length_set]; exact minn_length x b out i k
theorem mout_length (a b : List UInt32) : ∀ i, (mout a b i).length = a.length + b.length
  | 0 => by simp [mout]
  | i + 1 => by simp only [mout, List.length_set, minn_length]; exact mout_length a b i
theorem mulL_length (a b : List UInt32) : (mulL a b).length = a.length + b.length := mout_length a b _
noncomputable def F88 : FnI := fun args H n => match args with
  | [x, y] => (rdC H x).bind fun (a : List UInt32) => (rdC H y).bind fun (b : List UInt32) => if a.length + b.length ≤ 1000 then some ⟨.slice (some ⟨n, 0, none⟩) (a.length + b.length) (a.length + b.length), [(n, some (.cells (encs (mulL a b)) false))], n + 1⟩ else none
  | _ => none
theorem F88_inv {args : List Value} {H : IHeap} {n : Nat} {e : Eff} (h : F88 args H n = some e) : ∃ xa xc ya yc, ∃ a b : List UInt32, args = [.slice xa a.length xc, .slice ya b.length yc] ∧ rdC H (.slice xa a.length xc) = some a ∧ rdC H (.slice ya b.length yc) = some b ∧ a.length + b.length ≤ 1000 ∧ e = ⟨.slice (some ⟨n, 0, none⟩) (a.length + b.length) (a.length + b.length), [(n, some (.cells (encs (mulL a b)) false))], n + 1⟩ := by
  unfold F88 at h; split at h
  · simp only [Option.bind_eq_some_iff] at h
    obtain ⟨a, ha, b, hb, h⟩ := h
    split at h
    · rename_i hle
      cases h
      obtain ⟨xa, xc, rfl⟩ := rdC_len ha
      obtain ⟨ya, yc, rfl⟩ := rdC_len hb
      exact ⟨xa, xc, ya, yc, a, b, rfl, ha, hb, hle, rfl⟩
    · cases h
  · cases h
theorem F88_ev {x y : Value} {H : IHeap} {n k : Nat} {a b : List UInt32} (ha : rdC H x = some a) (hb : rdC H y = some b) (hk : a.length + b.length = k) (hle : k ≤ 1000) : F88 [x, y] H n = some ⟨.slice (some ⟨n, 0, none⟩) k k, [(n, some (.cells (encs (mulL a b)) false))], n + 1⟩ := by
  subst hk
  simp only [F88, ha, hb, Option.bind_some, if_pos hle]
-- headwater/headwaterref02.mul ['Sl', 'Sl'] -> ['Sl'], results [4]
theorem R88 : Ref Try.prog 88 F88 := by
  refine Ref.of_iw dok Try.func88 rfl (by kernel_rfl) fun args H n e hF => ?_
  obtain ⟨xa, xc, ya, yc, a, b, rfl, ha, hB, hle, rfl⟩ := F88_inv hF
  refine ⟨Nat.le_of_ble_eq_true rfl, ?_⟩
  simp only [idxL]
  have hE : Env Try.prog [] D K := env fnsOk_nil
  refine IW.seq ?_
  refine IW.blk (by simp) ha (fun hlta => ?_)
  refine IW.blk (by simp) hB (fun hltb => ?_)
  refine IW.free (by simp) (fun hfree => ?_)
  refine IW.reg hE ?_
  refine vcS_val rfl rfl (ox_assign (pl rfl)) ?_
  refine vcS_nil ?_
  refine IW.seq ?_
  refine IW.reg hE ?_
  refine vcS_val rfl rfl (ox_move (pl rfl)) ?_
  refine vcS_val rfl rfl (ox_len (pl rfl) D_122 rfl) ?_
  refine vcS_val rfl rfl (ox_move (pl rfl)) ?_
  refine vcS_val rfl rfl (ox_len (pl rfl) D_122 rfl) ?_
  refine vcS_val rfl rfl (ox_bin (pl rfl) (pl rfl) (bo_i64_add (by omega))) ?_
  refine vcS_new rfl rfl (ox_makeN (a.length + b.length) (a.length + b.length) (0 : UInt32) (pl rfl) (by omega) (pl rfl) (by omega) D_122 rfl D_54 rfl (Nat.le_refl _) (by simp only [most]; omega) (by show 4 * _ ≤ _; omega)) (.inl (by omega)) ?_
  refine vcS_val rfl rfl (ox_assign (pl rfl)) ?_
  refine vcS_nil ?_
  refine IW.seq ?_
  refine IW.seq ?_
  refine IW.reg hE ?_
  refine vcS_val rfl rfl (ox_assign (pl rfl)) ?_
  refine vcS_nil ?_
  refine IW.block ?_
  refine IW.loop (S := Nat) (fun i => [(0, .slice xa a.length xc), (1, .slice ya b.length yc), (5, .slice (some ⟨n, 0, none⟩) (a.length + b.length) (a.length + b.length)), (6, .int .i64 i)]) (fun i => [(n, some (.cells (encs (mout a b i)) false))]) (fun i => n + 1) (fun i => i ≤ a.length) (fun i => a.length - i) (0) (by simp) (⟨rfl, ⟨rfl, ⟨rfl, ⟨rfl, trivial⟩⟩⟩⟩) (fun _ _ h => h) (Nat.le_refl _) (fun i hi => ?_)
  refine IW.seq ?_
  refine IW.seq ?_
  refine IW.reg hE ?_
  refine vcS_val rfl rfl (ox_move (pl rfl)) ?_
  refine vcS_val rfl rfl (ox_move (pl rfl)) ?_
  refine vcS_val rfl rfl (ox_len (pl rfl) D_122 rfl) ?_
  refine vcS_val rfl rfl (ox_bin (pl rfl) (pl rfl) (bo_i64_lss _ _)) ?_
  refine vcS_nil ?_
  refine IW.cond rfl (fun hc1 => ?_) (fun hc1 => ?_)
  · replace hc1 := of_decide_eq_true hc1
    have hl := mout_length a b i
    have hAd := adr_lt ha (show i < a.length by omega) hlta
    refine IW.skip ?_
    refine IW.seq ?_
    refine IW.block ?_
    refine IW.seq ?_
    refine IW.reg hE ?_
    refine vcS_val rfl rfl (ox_assign (pl (v := enc (0 : UInt64)) rfl)) ?_
    refine vcS_nil ?_
    refine IW.seq ?_
    refine IW.seq ?_
    refine IW.reg hE ?_
    refine vcS_val rfl rfl (ox_assign (pl rfl)) ?_
    refine vcS_nil ?_
    refine IW.block ?_
    refine IW.loop (S := Nat) (fun k => [(0, .slice xa a.length xc), (1, .slice ya b.length yc), (5, .slice (some ⟨n, 0, none⟩) (a.length + b.length) (a.length + b.length)), (6, .int .i64 i), (7, enc (minn (a.getD i 0) b (mout a b i) i k).2), (8, .int .i64 k)]) (fun k => [(n, some (.cells (encs (minn (a.getD i 0) b (mout a b i) i k).1) false))]) (fun k => n + 1) (fun k => k ≤ b.length) (fun k => b.length - k) (0) (by simp) (⟨rfl, ⟨rfl, ⟨rfl, ⟨rfl, ⟨rfl, ⟨rfl, trivial⟩⟩⟩⟩⟩⟩) (fun _ _ h => h) (Nat.le_refl _) (fun k hk => ?_)
    refine IW.seq ?_
    refine IW.seq ?_
    refine IW.reg hE ?_
    refine vcS_val rfl rfl (ox_move (pl rfl)) ?_
    refine vcS_val rfl rfl (ox_move (pl rfl)) ?_
    refine vcS_val rfl rfl (ox_len (pl rfl) D_122 rfl) ?_
    refine vcS_val rfl rfl (ox_bin (pl rfl) (pl rfl) (bo_i64_lss _ _)) ?_
    refine vcS_nil ?_
    refine IW.cond rfl (fun hc2 => ?_) (fun hc2 => ?_)
    · replace hc2 := of_decide_eq_true hc2
      have hl2 := minn_length (a.getD i 0) b (mout a b i) i k
      have hBd := adr_lt hB (show k < b.length by omega) hltb
      refine IW.skip ?_
      refine IW.seq ?_
      refine IW.block ?_
      refine IW.seq ?_
      refine IW.drw hE mixed [[],[],[],[1,2],[1,2,3],[1,2,3,4],[],[],[6,7],[6,7,8],[6,7,8,9],[1,2,3,4,5,6,7,8,9,10],[0,1,2,3,4,5,6,7,8,9,10,11],[],[],[],[14,15],[13,14,15,16],[13,14,15,16,17],[13,14,15,16,17,18],[0,1,2,3,4,5,6,7,8,9,10,11,12,13,14,15,16,17,18,19],[0,1,2,3,4,5,6,7,8,9,10,11,12,13,14,15,16,17,18,19,20]] (by kernel_rfl) (vcE_start ?_)
      refine vcE_bl rfl rfl (fun _ => ox_move (pl rfl)) rfl rfl ?_
      refine vcE_bl rfl rfl (fun _ => ox_move (pl rfl)) rfl rfl ?_
      refine vcE_bl rfl rfl (fun _ => ox_move (pl rfl)) rfl rfl ?_
      refine vcE_bl rfl rfl (fun _ => ox_iaC2 (α := UInt32) (v := (.slice xa a.length xc)) (i) (pl rfl) (pl rfl) D_122 rfl D_54 rfl ha rfl (by omega)) rfl rfl ?_
      refine vcE_val rfl rfl rfl rfl (ox_ldC (v := (.slice xa a.length xc)) (i) (0 : UInt32) (pl rfl) D_54 rfl (rdC_keep hfree ha (by exact ⟨by omega, trivial⟩)) (by omega)) rfl (si_load (pl rfl)) (lt1 (by omega)) (trivial) ?_
      refine vcE_bl rfl rfl (fun _ => cv_32_6 (pl rfl) D_54 D_22 rfl) rfl rfl ?_
      refine vcE_bl rfl rfl (fun _ => ox_move (pl rfl)) rfl rfl ?_
      refine vcE_bl rfl rfl (fun _ => ox_move (pl rfl)) rfl rfl ?_
      refine vcE_bl rfl rfl (fun _ => ox_iaC2 (α := UInt32) (v := (.slice ya b.length yc)) (k) (pl rfl) (pl rfl) D_122 rfl D_54 rfl hB rfl (by omega)) rfl rfl ?_
      refine vcE_val rfl rfl rfl rfl (ox_ldC (v := (.slice ya b.length yc)) (k) (0 : UInt32) (pl rfl) D_54 rfl (rdC_keep hfree hB (by exact ⟨by omega, trivial⟩)) (by omega)) rfl (si_load (pl rfl)) (lt1 (by omega)) (trivial) ?_
      refine vcE_bl rfl rfl (fun _ => cv_32_6 (pl rfl) D_54 D_22 rfl) rfl rfl ?_
      refine vcE_bl rfl rfl (fun _ => ox_bin (pl rfl) (pl rfl) (bo_u64_mul _ _)) rfl rfl ?_
      refine vcE_bl rfl rfl (fun _ => ox_bin (pl rfl) (pl rfl) (bo_u64_add _ _)) rfl rfl ?_
      refine vcE_bl rfl rfl (fun _ => ox_move (pl rfl)) rfl rfl ?_
      refine vcE_bl rfl rfl (fun _ => ox_move (pl rfl)) rfl rfl ?_
      refine vcE_bl rfl rfl (fun _ => ox_move (pl rfl)) rfl rfl ?_
      refine vcE_bl rfl rfl (fun _ => ox_bin (pl rfl) (pl rfl) (bo_i64_add (by omega))) rfl rfl ?_
      refine vcE_bl rfl rfl (fun _ => ox_iaS (pl rfl) (pl rfl) D_122 rfl D_54 (by omega) (by omega)) rfl rfl ?_
      refine vcE_val rfl rfl rfl rfl (ox_load (pl rfl) D_54 (hp_eq _ _ _ _) (rd_ix (i + k) (0 : UInt32) rfl (by simp; omega) ((show i + k < (minn (a.getD i 0) b (mout a b i) i k).1.length by omega)))) rfl (si_load (pl rfl)) (lt1 (by omega)) (trivial) ?_
      refine vcE_bl rfl rfl (fun _ => cv_32_6 (pl rfl) D_54 D_22 rfl) rfl rfl ?_
      refine vcE_bl rfl rfl (fun _ => ox_bin (pl rfl) (pl rfl) (bo_u64_add _ _)) rfl rfl ?_
      refine vcE_bl rfl rfl (fun _ => ox_assign (pl rfl)) rfl rfl ?_
      refine vcE_nil ?_
      refine IW.seq ?_
      refine IW.reg hE ?_
      refine vcS_val rfl rfl (ox_move (pl rfl)) ?_
      refine vcS_val rfl rfl (ox_move (pl rfl)) ?_
      refine vcS_val rfl rfl (ox_move (pl rfl)) ?_
      refine vcS_val rfl rfl (ox_bin (pl rfl) (pl rfl) (bo_i64_add (by omega))) ?_
      refine vcS_val rfl rfl (ox_move (pl rfl)) ?_
      refine vcS_val rfl rfl (ox_bin (pl rfl) (pl (v := enc (4294967296 : UInt64)) rfl) (bo_u64_rem _ _ (by decide))) ?_
      refine vcS_val rfl rfl (cv_6_32 (pl rfl) D_22 D_54 rfl) ?_
      refine vcS_val rfl rfl (ox_iaS (pl rfl) (pl rfl) D_122 rfl D_54 (by omega) (by omega)) ?_
      refine vcS_sto rfl rfl (ox_store (pl rfl) (pl rfl) D_54 (hp_eq _ _ _ _) rfl rfl (by rw [encs_length]; have := (show i + k < (minn (a.getD i 0) b (mout a b i) i k).1.length by omega); first | (simp; omega) | (simp at this ⊢; omega)) rfl (wr_ix (i + k) (by simp; omega) _)) (.inl (by omega)) ?_
      refine vcS_nil ?_
      refine IW.reg hE ?_
      refine vcS_val rfl rfl (ox_move (pl rfl)) ?_
      refine vcS_val rfl rfl (ox_bin (pl rfl) (pl (v := enc (32 : UInt64)) rfl) (bo_u64_shr _ (by omega))) ?_
      refine vcS_val rfl rfl (ox_assign (pl rfl)) ?_
      refine vcS_nil ?_
      refine IW.nilB ?_
      refine IW.reg hE ?_
      refine vcS_val rfl rfl (ox_move (pl rfl)) ?_
      refine vcS_val rfl rfl (ox_bin (pl rfl) (pl rfl) (bo_i64_add (by omega))) ?_
      refine vcS_val rfl rfl (ox_assign (pl rfl)) ?_
      refine vcS_nil ?_
      refine IW.nilS ?_
      exact ⟨k + 1, _, _, by omega, by omega, rfl, ⟨rfl, ⟨rfl, ⟨rfl, ⟨rfl, ⟨rfl, ⟨rfl, trivial⟩⟩⟩⟩⟩⟩, rfl, leX_le (leX_cons rfl (leX_old (by simp) leX_refl)), Nat.le_refl _⟩
    · replace hc2 := of_decide_eq_false hc2
      have hkb : k = b.length := by omega
      subst hkb
      have hl2 := minn_length (a.getD i 0) b (mout a b i) i b.length
      refine IW.exit ?_
      refine exS (exS ?_)
      refine blkQ_exit ?_
      refine IW.reg hE ?_
      refine vcS_val rfl rfl (ox_move (pl rfl)) ?_
      refine vcS_val rfl rfl (ox_move (pl rfl)) ?_
      refine vcS_val rfl rfl (ox_move (pl rfl)) ?_
      refine vcS_val rfl rfl (ox_len (pl rfl) D_122 rfl) ?_
      refine vcS_val rfl rfl (ox_bin (pl rfl) (pl rfl) (bo_i64_add (by omega))) ?_
      refine vcS_val rfl rfl (ox_move (pl rfl)) ?_
      refine vcS_val rfl rfl (cv_6_32 (pl rfl) D_22 D_54 rfl) ?_
      refine vcS_val rfl rfl (ox_iaS (pl rfl) (pl rfl) D_122 rfl D_54 (by omega) (by omega)) ?_
      refine vcS_sto rfl rfl (ox_store (pl rfl) (pl rfl) D_54 (hp_eq _ _ _ _) rfl rfl (by rw [encs_length]; have := (show i + b.length < (minn (a.getD i 0) b (mout a b i) i b.length).1.length by omega); first | (simp; omega) | (simp at this ⊢; omega)) rfl (wr_ix (i + b.length) (by simp; omega) _)) (.inl (by omega)) ?_
      refine vcS_nil ?_
      refine IW.nilB ?_
      refine IW.reg hE ?_
      refine vcS_val rfl rfl (ox_move (pl rfl)) ?_
      refine vcS_val rfl rfl (ox_bin (pl rfl) (pl rfl) (bo_i64_add (by omega))) ?_
      refine vcS_val rfl rfl (ox_assign (pl rfl)) ?_
      refine vcS_nil ?_
      refine IW.nilS ?_
      exact ⟨i + 1, _, _, by omega, by omega, rfl, ⟨rfl, ⟨rfl, ⟨rfl, ⟨rfl, trivial⟩⟩⟩⟩, rfl, leX_le (leX_cons rfl (leX_old (by simp) leX_refl)), Nat.le_refl _⟩
  · replace hc1 := of_decide_eq_false hc1
    have hia : i = a.length := by omega
    subst hia
    refine IW.exit ?_
    refine exS (exS ?_)
    refine blkQ_exit ?_
    refine IW.seq ?_
    refine IW.reg hE ?_
    refine vcS_val rfl rfl (ox_move (pl rfl)) ?_
    refine vcS_val rfl rfl (ox_assign (pl rfl)) ?_
    refine vcS_nil ?_
    refine IW.ret ?_
    exact RetP.new1 (.inr rfl) (ires_tmp rfl) (Nat.le_refl _) (hp_eq _ _ _ _) (by rw [← cels_one]; exact n32_plain _)
noncomputable def F107 : FnI := fun args H n => match args with
  | [x, .int .i64 i] => (rdC H x).bind fun (l : List UInt32) => if 0 ≤ i ∧ l.length ≤ 1000 then some ⟨enc (l.getD i.toNat 0), [], n⟩ else none
  | _ => none
theorem F107_inv {args : List Value} {H : IHeap} {n : Nat} {e : Eff} (h : F107 args H n = some e) : ∃ xa xc, ∃ (l : List UInt32) (i : Nat), args = [.slice xa l.length xc, .int .i64 i] ∧ rdC H (.slice xa l.length xc) = some l ∧ e = ⟨enc (l.getD i 0), [], n⟩ := by
  unfold F107 at h; split at h
  · rename_i i
    simp only [Option.bind_eq_some_iff] at h
    obtain ⟨l, hl, h⟩ := h
    split at h
    · rename_i hi
      cases h
      obtain ⟨xa, xc, rfl⟩ := rdC_len hl
      exact ⟨xa, xc, l, i.toNat, by rw [Int.toNat_of_nonneg hi.1], hl, rfl⟩
    · cases h
  · cases h
theorem F107_ev {x : Value} {H : IHeap} {n : Nat} {l : List UInt32} {j : Int} (i : Nat) (hl : rdC H x = some l) (hj : j = i) (hle : l.length ≤ 1000) : F107 [x, .int .i64 j] H n = some ⟨enc (l.getD i 0), [], n⟩ := by
  subst hj
  simp only [F107, hl, Option.bind_some]
  rw [if_pos ⟨by omega, hle⟩]; rfl
theorem getD_above (l : List UInt32) {i : Nat} (h : l.length ≤ i) : l.getD i 0 = 0 := by
  rw [List.getD_eq_getElem?_getD, List.getElem?_eq_none h]; rfl
-- headwater/headwaterref02.word ['Sl', 'Int'] -> ['UInt32'], results [4]
theorem R107 : Ref Try.prog 107 F107 := by
  refine Ref.of_iw dok Try.func107 rfl (by kernel_rfl) fun args H n e hF => ?_
  obtain ⟨xa, xc, l, i, rfl, hl, rfl⟩ := F107_inv hF
  refine ⟨Nat.le_of_ble_eq_true rfl, ?_⟩
  simp only [idxL]
  have hE : Env Try.prog [] D K := env fnsOk_nil
  refine IW.seq ?_
  refine IW.free (by simp) (fun hfree => ?_)
  refine IW.reg hE ?_
  refine vcS_val rfl rfl (ox_assign (pl (v := enc (0 : UInt32)) rfl)) ?_
  refine vcS_nil ?_
  refine IW.seq ?_
  refine IW.seq ?_
  refine IW.reg hE ?_
  refine vcS_val rfl rfl (ox_move (pl rfl)) ?_
  refine vcS_val rfl rfl (ox_move (pl rfl)) ?_
  refine vcS_val rfl rfl (ox_len (pl rfl) D_122 rfl) ?_
  refine vcS_val rfl rfl (ox_bin (pl rfl) (pl rfl) (bo_i64_lss _ _)) ?_
  refine vcS_nil ?_
  refine IW.cond rfl (fun hc1 => ?_) (fun hc1 => ?_)
  · replace hc1 := of_decide_eq_true hc1
    refine IW.seq ?_
    refine IW.reg hE ?_
    refine vcS_val rfl rfl (ox_move (pl rfl)) ?_
    refine vcS_val rfl rfl (ox_move (pl rfl)) ?_
    refine vcS_val rfl rfl (ox_iaC (α := UInt32) (v := (.slice xa l.length xc)) (i) (pl rfl) (pl rfl) D_122 rfl D_54 rfl (rdC_keep hfree hl (by exact trivial)) rfl (by omega)) ?_
    refine vcS_val rfl rfl (ox_ldC (v := (.slice xa l.length xc)) (i) (0 : UInt32) (pl rfl) D_54 rfl (rdC_keep hfree hl (by exact trivial)) (by omega)) ?_
    refine vcS_val rfl rfl (ox_assign (pl rfl)) ?_
    refine vcS_nil ?_
    refine IW.ret ?_
    exact RetP.ret (.inr rfl) rfl rfl trivial (rfl)
  · replace hc1 := of_decide_eq_false hc1
    refine IW.skip ?_
    refine IW.seq ?_
    refine IW.reg hE ?_
    refine vcS_val rfl rfl (ox_assign (pl (v := enc (0 : UInt32)) rfl)) ?_
    refine vcS_nil ?_
    refine IW.ret ?_
    exact RetP.ret (.inr rfl) rfl rfl trivial (by rw [getD_above l (by omega)])
end Go.Proofs.Ytdnnojblneccdaa
/-
  Plain laws: numbers of many words of 32 bits.
-/
namespace Go.Proofs.Ytdnnojblneccdaa
set_option linter.unusedSimpArgs false
set_option linter.unusedVariables false
set_option maxRecDepth 100000

def valG (f : Nat → Nat) : Nat → Nat
  | 0 => 0
  | m + 1 => valG f m + f m * 2 ^ (32 * m)
def wd (a : List UInt32) (j : Nat) : Nat := (a.getD j 0).toNat
def valM (a : List UInt32) : Nat := valG (wd a) a.length
theorem wd_lt (a : List UInt32) (j : Nat) : wd a j < 2 ^ 32 := (a.getD j 0).toNat_lt
theorem valG_lt {f : Nat → Nat} (hf : ∀ j, f j < 2 ^ 32) : ∀ m, valG f m < 2 ^ (32 * m)
  | 0 => by simp [valG]
  | m + 1 => by
    have ih := valG_lt hf m
    have h := Nat.mul_le_mul_right (2 ^ (32 * m)) (show f m + 1 ≤ 2 ^ 32 from hf m)
    rw [valG, show 32 * (m + 1) = 32 + 32 * m by omega, Nat.pow_add]
    rw [Nat.add_mul] at h; omega
theorem valG_ext {f g : Nat → Nat} : ∀ {m}, (∀ j, j < m → f j = g j) → valG f m = valG g m
  | 0, _ => rfl
  | m + 1, h => by rw [valG, valG, valG_ext (fun j hj => h j (by omega)), h m (by omega)]
theorem valG_more {f : Nat → Nat} {m : Nat} : ∀ k, (∀ j, m ≤ j → f j = 0) → valG f (m + k) = valG f m
  | 0, _ => rfl
  | k + 1, h => by rw [← Nat.add_assoc, valG, valG_more k h, h (m + k) (by omega)]; simp
theorem valG_upd {f g : Nat → Nat} {j : Nat} : ∀ {m}, j < m → (∀ k, k ≠ j → f k = g k) → valG f m + g j * 2 ^ (32 * j) = valG g m + f j * 2 ^ (32 * j)
  | 0, h, _ => by omega
  | m + 1, h, he => by
    rw [valG, valG]
    by_cases hj : j = m
    · subst hj
      rw [valG_ext (f := f) (g := g) (fun k hk => he k (by omega))]; omega
    · have := valG_upd (f := f) (g := g) (m := m) (by omega) he
      rw [he m (fun e => hj e.symm)]; omega
theorem valG_split {f g : Nat → Nat} {i : Nat} : ∀ k, (∀ j, i < j → f j = g j) → valG f (i + 1 + k) + valG g (i + 1) = valG g (i + 1 + k) + valG f (i + 1)
  | 0, _ => by simp; omega
  | k + 1, h => by
    have := valG_split (f := f) (g := g) (i := i) k h
    show valG f (i + 1 + k) + f (i + 1 + k) * 2 ^ (32 * (i + 1 + k)) + valG g (i + 1) = valG g (i + 1 + k) + g (i + 1 + k) * 2 ^ (32 * (i + 1 + k)) + valG f (i + 1)
    rw [h (i + 1 + k) (by omega)]; omega
theorem wd_above {a : List UInt32} {j : Nat} (h : a.length ≤ j) : wd a j = 0 := by
  unfold wd; rw [getD_above a h]; rfl
theorem valM_at {a : List UInt32} {m : Nat} (h : a.length ≤ m) : valM a = valG (wd a) m := by
  obtain ⟨k, rfl⟩ : ∃ k, m = a.length + k := ⟨m - a.length, by omega⟩
  rw [valG_more k fun j hj => wd_above hj]; rfl
theorem above1 {a b : List UInt32} {i : Nat} (h : ∀ j, i < j → a.getD j 0 = b.getD j 0) (hne : a.getD i 0 ≠ b.getD i 0) : decide (valM b < valM a) = decide (b.getD i 0 < a.getD i 0) := by
  have hs := valG_split (f := wd a) (g := wd b) (i := i) (a.length + b.length) (fun j hj => by unfold wd; rw [h j hj])
  rw [← valM_at (a := a) (m := i + 1 + (a.length + b.length)) (by omega), ← valM_at (a := b) (m := i + 1 + (a.length + b.length)) (by omega)] at hs
  have ea : valG (wd a) (i + 1) = valG (wd a) i + wd a i * 2 ^ (32 * i) := rfl
  have eb : valG (wd b) (i + 1) = valG (wd b) i + wd b i * 2 ^ (32 * i) := rfl
  rw [ea, eb] at hs
  have la := valG_lt (wd_lt a) i
  have lb := valG_lt (wd_lt b) i
  have hne' : wd a i ≠ wd b i := fun e => hne (UInt32.toNat_inj.1 e)
  rw [decide_eq_decide, UInt32.lt_iff_toNat_lt]
  show _ ↔ wd b i < wd a i
  constructor
  · intro h1
    rcases Nat.lt_or_ge (wd b i) (wd a i) with h2 | h2
    · exact h2
    · have := Nat.mul_le_mul_right (2 ^ (32 * i)) (show wd a i + 1 ≤ wd b i by omega)
      rw [Nat.add_mul] at this; omega
  · intro h1
    have := Nat.mul_le_mul_right (2 ^ (32 * i)) (show wd b i + 1 ≤ wd a i from h1)
    rw [Nat.add_mul] at this; omega
theorem above2 {a b : List UInt32} (h : ∀ j, a.getD j 0 = b.getD j 0) : decide (valM b < valM a) = false := by
  have : valM a = valM b := by
    rw [valM_at (show a.length ≤ a.length + b.length by omega), valM_at (show b.length ≤ a.length + b.length by omega)]
    exact valG_ext fun j _ => by unfold wd; rw [h j]
  rw [this]; simp
theorem wd_set {l : List UInt32} {j : Nat} {v : UInt32} (h : j < l.length) : wd (l.set j v) j = v.toNat := by
  unfold wd
  rw [List.getD_eq_getElem?_getD, List.getElem?_set_self h]; rfl
theorem wd_set_ne {l : List UInt32} {i j : Nat} {v : UInt32} (h : j ≠ i) : wd (l.set i v) j = wd l j := by
  unfold wd
  rw [List.getD_eq_getElem?_getD, List.getElem?_set_ne (fun e => h e.symm), ← List.getD_eq_getElem?_getD]
theorem valM_set {l : List UInt32} {j : Nat} {v : UInt32} (h : j < l.length) : valM (l.set j v) + wd l j * 2 ^ (32 * j) = valM l + v.toNat * 2 ^ (32 * j) := by
  unfold valM
  rw [List.length_set]
  have := valG_upd (f := wd (l.set j v)) (g := wd l) (j := j) (m := l.length) h (fun k hk => wd_set_ne hk)
  rw [wd_set h] at this; exact this
theorem mstep_val {x : UInt32} {b out : List UInt32} {i k : Nat} {v : UInt64} (hv : v.toNat < 2 ^ 32) : (mstep x b out i k v).toNat = v.toNat + x.toNat * wd b k + wd out (i + k) := by
  have h1 := wd_lt b k; have h2 := wd_lt out (i + k); have h3 := x.toNat_lt
  have hm : x.toNat * wd b k ≤ (2 ^ 32 - 1) * (2 ^ 32 - 1) := Nat.mul_le_mul (by omega) (by omega)
  unfold mstep
  rw [UInt64.toNat_add, UInt64.toNat_add, UInt64.toNat_mul]
  simp only [UInt32.toNat_toUInt64]
  show ((v.toNat + x.toNat * wd b k % 2 ^ 64) % 2 ^ 64 + wd out (i + k)) % 2 ^ 64 = _
  omega
theorem low_val (c : UInt64) : ((c % 4294967296).toUInt32).toNat = c.toNat % 2 ^ 32 := by
  rw [UInt64.toNat_toUInt32, UInt64.toNat_mod]
  show c.toNat % 4294967296 % 2 ^ 32 = _
  omega
theorem mul_out (A X V W B : Nat) : A * (X * (V + W * B)) = A * (X * V) + X * W * (A * B) := by
  rw [Nat.mul_add, Nat.mul_add]
  congr 1
  ac_rfl
theorem div_mul' (c E P : Nat) : c * P = c % E * P + c / E * (E * P) := by
  conv => lhs; rw [← Nat.div_add_mod c E]
  rw [Nat.add_mul, Nat.add_comm]
  congr 1
  ac_rfl
theorem minn_val (x : UInt32) (b out : List UInt32) (i : Nat) (hout : i + b.length < out.length) : ∀ k, k ≤ b.length → (minn x b out i k).2.toNat < 2 ^ 32 ∧ valM (minn x b out i k).1 + (minn x b out i k).2.toNat * 2 ^ (32 * (i + k)) = valM out + 2 ^ (32 * i) * (x.toNat * valG (wd b) k)
  | 0, _ => by simp [minn, valG]
  | k + 1, hk => by
    obtain ⟨hc, ih⟩ := minn_val x b out i hout k (by omega)
    have hl := minn_length x b out i k
    simp only [minn]
    generalize minn x b out i k = p at *
    have hm := mstep_val (x := x) (b := b) (out := p.1) (i := i) (k := k) hc
    have hs := valM_set (l := p.1) (j := i + k) (v := (mstep x b p.1 i k p.2 % 4294967296).toUInt32) (by omega)
    rw [low_val] at hs
    have hsh := shr64_val (mstep x b p.1 i k p.2) 32 (by decide)
    have hlt := (mstep x b p.1 i k p.2).toNat_lt
    generalize mstep x b p.1 i k p.2 = c at *
    refine ⟨by omega, ?_⟩
    rw [valG, hsh]
    have e1 : 2 ^ (32 * (i + (k + 1))) = 2 ^ 32 * 2 ^ (32 * (i + k)) := by rw [← Nat.pow_add]; congr 1; omega
    have e2 : 2 ^ (32 * i) * (x.toNat * (valG (wd b) k + wd b k * 2 ^ (32 * k))) = 2 ^ (32 * i) * (x.toNat * valG (wd b) k) + x.toNat * wd b k * 2 ^ (32 * (i + k)) := by
      rw [show 32 * (i + k) = 32 * i + 32 * k by omega, Nat.pow_add]
      exact mul_out _ _ _ _ _
    rw [e1, e2]
    generalize 2 ^ (32 * (i + k)) = P at *
    have e3 : c.toNat * P = p.2.toNat * P + x.toNat * wd b k * P + wd p.1 (i + k) * P := by rw [hm, Nat.add_mul, Nat.add_mul]
    have e4 := div_mul' c.toNat (2 ^ 32) P
    omega
theorem minn_above (x : UInt32) (b out : List UInt32) (i j : Nat) : ∀ k, i + k ≤ j → wd (minn x b out i k).1 j = wd out j
  | 0, _ => rfl
  | k + 1, h => by
    simp only [minn]
    rw [wd_set_ne (by omega)]
    exact minn_above x b out i j k (by omega)
theorem wd_rep (n j : Nat) : wd (List.replicate n 0) j = 0 := by
  unfold wd
  rw [List.getD_eq_getElem?_getD, List.getElem?_replicate]; split <;> rfl
theorem valM_rep (n : Nat) : valM (List.replicate n 0) = 0 := by
  unfold valM
  have : ∀ m, valG (wd (List.replicate n 0)) m = 0 := by
    intro m
    induction m with
    | zero => rfl
    | succ m ih => rw [valG, ih, wd_rep]; simp
  exact this _
theorem mout_above (a b : List UInt32) (j : Nat) : ∀ i, i + b.length ≤ j → wd (mout a b i) j = 0
  | 0, _ => wd_rep _ _
  | i + 1, h => by
    simp only [mout]
    rw [wd_set_ne (by omega), minn_above _ _ _ _ _ _ (by omega)]
    exact mout_above a b j i (by omega)
theorem u64_32 (c : UInt64) (h : c.toNat < 2 ^ 32) : c.toUInt32.toNat = c.toNat := by
  rw [UInt64.toNat_toUInt32, Nat.mod_eq_of_lt h]
theorem mul_in (G Y A B : Nat) : G * B + A * (Y * B) = (G + Y * A) * B := by
  rw [Nat.add_mul]
  congr 1
  ac_rfl
theorem mout_val (a b : List UInt32) : ∀ i, i ≤ a.length → valM (mout a b i) = valG (wd a) i * valM b
  | 0, _ => by simp [mout, valM_rep, valG]
  | i + 1, hi => by
    have ih := mout_val a b i (by omega)
    have hl := mout_length a b i
    obtain ⟨hc, ht⟩ := minn_val (a.getD i 0) b (mout a b i) i (by omega) b.length (Nat.le_refl _)
    have hz := minn_above (a.getD i 0) b (mout a b i) i (i + b.length) b.length (Nat.le_refl _)
    rw [mout_above a b (i + b.length) i (Nat.le_refl _)] at hz
    have hl2 := minn_length (a.getD i 0) b (mout a b i) i b.length
    simp only [mout]
    generalize minn (a.getD i 0) b (mout a b i) i b.length = p at *
    have hs := valM_set (l := p.1) (j := i + b.length) (v := p.2.toUInt32) (by omega)
    rw [hz, u64_32 _ hc, Nat.zero_mul, Nat.add_zero] at hs
    rw [hs, ht, ih]
    show _ + 2 ^ (32 * i) * (wd a i * valM b) = (valG (wd a) i + wd a i * 2 ^ (32 * i)) * valM b
    exact mul_in _ _ _ _
theorem mulL_val (a b : List UInt32) : valM (mulL a b) = valM a * valM b := mout_val a b a.length (Nat.le_refl _)
/-! three words -/
def xL (y : Nat) : List UInt32 := [UInt32.ofNat y, UInt32.ofNat (y / 2 ^ 32), UInt32.ofNat (y / 2 ^ 64)]
@[simp] theorem xL_length (y : Nat) : (xL y).length = 3 := rfl
theorem xL_val {y : Nat} (h : y < 2 ^ 96) : valM (xL y) = y := by
  show (0 + (UInt32.ofNat y).toNat * 2 ^ (32 * 0)) + (UInt32.ofNat (y / 2 ^ 32)).toNat * 2 ^ (32 * 1) + (UInt32.ofNat (y / 2 ^ 64)).toNat * 2 ^ (32 * 2) = y
  simp only [UInt32.toNat_ofNat']
  omega
theorem bit32 {z c : Nat} (hc : c < 32) (hz : 2 ^ (c + 1) ∣ z) : UInt32.ofNat z ||| shl32 1 c = UInt32.ofNat (z + 2 ^ c) := by
  obtain ⟨q, rfl⟩ := hz
  rw [← UInt32.toNat_inj, UInt32.toNat_or]
  have h1 : (shl32 1 c).toNat = 2 ^ c := by
    unfold shl32
    rw [UInt32.toNat_ofNat', Nat.min_eq_left (by omega)]
    show 1 * 2 ^ c % 2 ^ 32 = _
    rw [Nat.one_mul, Nat.mod_eq_of_lt (Nat.pow_lt_pow_right (by decide) hc)]
  rw [h1, UInt32.toNat_ofNat', UInt32.toNat_ofNat']
  have e64 : (2 : Nat) ^ 32 = 2 ^ (c + 1) * 2 ^ (31 - c) := by rw [← Nat.pow_add]; congr 1; omega
  have hm : 2 ^ (c + 1) * q % 2 ^ 32 = 2 ^ (c + 1) * (q % 2 ^ (31 - c)) := by rw [e64, Nat.mul_mod_mul_left]
  have hlt : 2 ^ c < 2 ^ (c + 1) := Nat.pow_lt_pow_right (by decide) (by omega)
  have hle : 2 ^ (c + 1) * (q % 2 ^ (31 - c)) + 2 ^ c < 2 ^ 32 := by
    have h2 : q % 2 ^ (31 - c) + 1 ≤ 2 ^ (31 - c) := Nat.mod_lt _ (Nat.two_pow_pos _)
    have h3 := Nat.mul_le_mul_left (2 ^ (c + 1)) h2
    rw [Nat.mul_add, ← e64] at h3
    omega
  rw [hm, ← Nat.two_pow_add_eq_or_of_lt hlt]
  rw [Nat.add_mod, hm, Nat.mod_eq_of_lt (a := 2 ^ c) (by omega), Nat.mod_eq_of_lt hle]
theorem mid32 {y b w : Nat} (hb : w ≤ b) (h : 2 ^ (b + 1) ∣ y) : (y + 2 ^ b) / 2 ^ w = y / 2 ^ w + 2 ^ (b - w) ∧ 2 ^ (b - w + 1) ∣ y / 2 ^ w := by
  obtain ⟨q, rfl⟩ := h
  have e1 : (2 : Nat) ^ (b + 1) = 2 ^ w * 2 ^ (b - w + 1) := by rw [← Nat.pow_add]; congr 1; omega
  have e2 : (2 : Nat) ^ b = 2 ^ w * 2 ^ (b - w) := by rw [← Nat.pow_add]; congr 1; omega
  rw [e1, Nat.mul_assoc, Nat.mul_div_cancel_left _ (Nat.two_pow_pos _), e2, ← Nat.mul_add, Nat.mul_div_cancel_left _ (Nat.two_pow_pos _)]
  exact ⟨rfl, ⟨q, rfl⟩⟩
theorem low32 {y b w : Nat} (hb : w + 32 ≤ b) (h : 2 ^ (b + 1) ∣ y) : UInt32.ofNat ((y + 2 ^ b) / 2 ^ w) = UInt32.ofNat (y / 2 ^ w) := by
  obtain ⟨h1, h2⟩ := mid32 (show w ≤ b by omega) h
  rw [h1]
  obtain ⟨q, hq⟩ := h2
  rw [hq]
  have e1 : (2 : Nat) ^ (b - w + 1) = 2 ^ 32 * 2 ^ (b - w - 31) := by rw [← Nat.pow_add]; congr 1; omega
  have e2 : (2 : Nat) ^ (b - w) = 2 ^ 32 * 2 ^ (b - w - 32) := by rw [← Nat.pow_add]; congr 1; omega
  rw [← UInt32.toNat_inj, UInt32.toNat_ofNat', UInt32.toNat_ofNat', e1, e2, Nat.mul_assoc, ← Nat.mul_add, Nat.mul_mod_right, Nat.mul_mod_right]
theorem high32 {y b w : Nat} (hb : b < w) (h : 2 ^ (b + 1) ∣ y) : (y + 2 ^ b) / 2 ^ w = y / 2 ^ w := by
  obtain ⟨q, rfl⟩ := h
  have e64 : (2 : Nat) ^ w = 2 ^ (b + 1) * 2 ^ (w - 1 - b) := by rw [← Nat.pow_add]; congr 1; omega
  have hlt : 2 ^ b < 2 ^ (b + 1) := Nat.pow_lt_pow_right (by decide) (by omega)
  rw [e64, ← Nat.div_div_eq_div_mul, ← Nat.div_div_eq_div_mul, Nat.mul_add_div (Nat.two_pow_pos _), Nat.div_eq_of_lt hlt, Nat.add_zero, Nat.mul_div_cancel_left _ (Nat.two_pow_pos _)]
theorem xL_on {y b k c : Nat} (hb : b < 96) (h : 2 ^ (b + 1) ∣ y) (hk : k = b / 32) (hc : c = b % 32) : (xL y).set k ((xL y).getD k 0 ||| shl32 1 c) = xL (y + 2 ^ b) := by
  subst hk; subst hc
  have hy0 : y / 2 ^ 0 = y := by simp
  have hy1 : (y + 2 ^ b) / 2 ^ 0 = y + 2 ^ b := by simp
  rcases (by omega : b < 32 ∨ (32 ≤ b ∧ b < 64) ∨ 64 ≤ b) with h1 | h1 | h1
  · rw [Nat.div_eq_of_lt h1, Nat.mod_eq_of_lt h1]
    simp only [xL, List.getD_cons_zero, List.set_cons_zero, bit32 h1 h, high32 (show b < 32 from h1) h, high32 (show b < 64 by omega) h]
  · obtain ⟨h2, h3⟩ := mid32 (show 32 ≤ b by omega) h
    have h4 := low32 (w := 0) (show 0 + 32 ≤ b by omega) h
    rw [hy0, hy1] at h4
    rw [show b / 32 = 1 by omega, show b % 32 = b - 32 by omega]
    simp only [xL, List.getD_cons_succ, List.getD_cons_zero, List.set_cons_succ, List.set_cons_zero, bit32 (show b - 32 < 32 by omega) h3, h2, h4, high32 (show b < 64 by omega) h]
  · obtain ⟨h2, h3⟩ := mid32 (show 64 ≤ b by omega) h
    have h4 := low32 (w := 0) (show 0 + 32 ≤ b by omega) h
    rw [hy0, hy1] at h4
    have h5 := low32 (w := 32) (show 32 + 32 ≤ b by omega) h
    rw [show b / 32 = 2 by omega, show b % 32 = b - 64 by omega]
    simp only [xL, List.getD_cons_succ, List.getD_cons_zero, List.set_cons_succ, List.set_cons_zero, bit32 (show b - 64 < 32 by omega) h3, h2, h4, h5]
theorem xL_zero {B p N : Nat} : xL (gr B p N 0) = List.replicate 3 0 := by simp [xL, gr]
theorem xL_low (y : Nat) : (UInt32.ofNat y).toUInt64 + shl64 (UInt32.ofNat (y / 2 ^ 32)).toUInt64 32 = UInt64.ofNat y := by
  rw [← UInt64.toNat_inj, UInt64.toNat_add, UInt64.toNat_ofNat']
  unfold shl64
  rw [UInt64.toNat_ofNat']
  simp only [UInt32.toNat_toUInt64, UInt32.toNat_ofNat']
  rw [show min 32 64 = 32 from rfl]
  omega
/-- the powers of y, as words -/
def pqL (y : List UInt32) : Nat → List UInt32
  | 0 => y
  | j + 1 => mulL (pqL y j) y
theorem pqL_length (y : List UInt32) : ∀ j, (pqL y j).length = y.length * (j + 1)
  | 0 => by simp [pqL]
  | j + 1 => by rw [pqL, mulL_length, pqL_length y j, Nat.mul_succ y.length (j + 1)]
theorem pqL_val (y : List UInt32) : ∀ j, valM (pqL y j) = valM y ^ (j + 1)
  | 0 => by simp [pqL]
  | j + 1 => by rw [pqL, mulL_val, pqL_val y j, Nat.pow_succ (n := valM y) (m := j + 1)]
theorem want_val (p : Nat) (v : UInt32) : valM ((List.replicate (2 * p + 2) 0).set (2 * p) v) = v.toNat * 2 ^ (64 * p) := by
  have := valM_set (l := List.replicate (2 * p + 2) 0) (j := 2 * p) (v := v) (by simp)
  rw [wd_rep, valM_rep, show 32 * (2 * p) = 64 * p by omega] at this
  omega
theorem gq_on {p N s : Nat} {L : List UInt32} (hs : s < 96) (hL : L = pqL (xL (gr 96 p N s + 2 ^ (95 - s))) (p - 1)) (hp : p ≠ 0) (h : decide (N < valM L) = false) : gr 96 p N (s + 1) = gr 96 p N s + 2 ^ (95 - s) := by
  have hle := gr_lt 96 p N s (by omega)
  have e : 2 ^ (96 - s) = 2 ^ (95 - s) + 2 ^ (95 - s) := by
    rw [show 96 - s = (95 - s) + 1 by omega, Nat.pow_succ]; omega
  have := Nat.two_pow_pos (95 - s)
  rw [hL, pqL_val, xL_val (by omega), show p - 1 + 1 = p by omega] at h
  rw [gr, show 96 - 1 - s = 95 - s by omega, if_pos (Nat.le_of_not_lt (of_decide_eq_false h))]
theorem gq_off {p N s : Nat} {L : List UInt32} (hs : s < 96) (hL : L = pqL (xL (gr 96 p N s + 2 ^ (95 - s))) (p - 1)) (hp : p ≠ 0) (h : decide (N < valM L) = true) : gr 96 p N (s + 1) = gr 96 p N s := by
  have hle := gr_lt 96 p N s (by omega)
  have e : 2 ^ (96 - s) = 2 ^ (95 - s) + 2 ^ (95 - s) := by
    rw [show 96 - s = (95 - s) + 1 by omega, Nat.pow_succ]; omega
  have := Nat.two_pow_pos (95 - s)
  rw [hL, pqL_val, xL_val (by omega), show p - 1 + 1 = p by omega] at h
  rw [gr, show 96 - 1 - s = 95 - s by omega, if_neg (Nat.not_le_of_lt (of_decide_eq_true h))]
theorem beh96 {p : Nat} (m : UInt64) (hp : 2 ≤ p ∧ p ≤ 3) : UInt64.ofNat (gr 96 p (behN p m) 96) = behV p m := by
  have hN : behN p m < 2 ^ 32 * 2 ^ (64 * p) := by
    unfold behN
    exact Nat.mul_lt_mul_of_pos_right (Nat.mod_lt _ (by decide)) (Nat.two_pow_pos _)
  have h2 : behN p m < (2 ^ 81) ^ p := by
    rcases (by omega : p = 2 ∨ p = 3) with rfl | rfl
    · exact Nat.lt_of_lt_of_le hN (by decide)
    · exact Nat.lt_of_lt_of_le hN (by decide)
  unfold behV
  rw [gr_same (B := 96) (C := 81) (by omega) (Nat.lt_of_lt_of_le h2 (Nat.pow_le_pow_left (Nat.pow_le_pow_right (by decide) (by decide)) p)) h2]
end Go.Proofs.Ytdnnojblneccdaa
/-
  The document's roots.
-/
namespace Go.Proofs.Ytdnnojblneccdaa
set_option linter.unusedSimpArgs false
set_option linter.unusedVariables false
open Go
open Enc (enc)
set_option maxRecDepth 100000

theorem ox_maxN {Γ : Fns} {D : Ty} {K : Kinds} {e : Operand → Value} {H : IHeap} {n : Nat} {x y : Operand} {ts : Array TypeId} {k : IntKind} {i j : Nat} (hx : e x = .int k i) (hy : e y = .int k j) : iopC Γ D K e H n (.call ⟨.builtin .max, #[x, y], ts⟩) = some ⟨.int k ((max i j : Nat) : Int), [], n⟩ := by
  rw [ox_max hx hy]
  congr 3
  split <;> omega
theorem ox_app1e {α : Type} [Row1 α] {Γ : Fns} {D : Ty} {K : Kinds} {e : Operand → Value} {H : IHeap} {n : Nat} {t t2 el el2 : TypeId} {s y : Operand} {a : Addr} {x : Value} {d d2 de : TD} {l : List α} {ro : Bool} (hs : e s = .slice (some a) 0 0) (hx : e y = x) (hd : D t = some d) (hk : d.k = .slice el) (hde : D el = some de) (hd2 : D t2 = some d2) (hk2 : d2.k = .slice el2) (hsz : de.size = Row.sz α)
    (h : rdC H x = some l) (hne : l ≠ []) (hcl : a.spot = none) (ha : H a.block = some (.cells [] ro)) (ho : a.off = 0) (hm : l.length * de.bytes ≤ most) (hb : 1 ≤ de.bytes) :
    iopC Γ D K e H n (.call ⟨.builtin .append, #[s, y], #[t, t2]⟩) = some ⟨.slice (some ⟨n, 0, some de.size⟩) l.length l.length, [(n, some (.cells (encs l) false))], n + 1⟩ := by
  rw [← cels_one]
  obtain ⟨id, off, sp⟩ := a
  simp only at hcl ho ha
  subst hcl; subst ho
  exact ox_app1 hs hx hd hk hde hd2 hk2 hsz h hne rfl (fun b e => by cases e; exact ⟨ro, ha, rfl⟩) hm hb
theorem shl_nat32 {D : Ty} {K : Kinds} {t : TypeId} {x : UInt32} (m : Nat) (h : m < 2 ^ 64) : binOp' D K .shl t (enc x) (enc (UInt64.ofNat m)) = some (enc (shl32 x m)) := by
  have := bo_u32_shl (D := D) (K := K) (t := t) (k := .u64) (b := ((UInt64.ofNat m).toNat : Int)) x (by omega)
  have e : ((UInt64.ofNat m).toNat : Int).toNat = m := by rw [Int.toNat_natCast, UInt64.toNat_ofNat', Nat.mod_eq_of_lt h]
  rw [e] at this
  exact this
noncomputable def F89 : FnI := fun args H n => match args with
  | [x, y] => (rdC H x).bind fun (a : List UInt32) => (rdC H y).bind fun (b : List UInt32) => if a.length ≤ 1000 ∧ b.length ≤ 1000 then some ⟨.bool (decide (valM b < valM a)), [], n⟩ else none
  | _ => none
theorem F89_inv {args : List Value} {H : IHeap} {n : Nat} {e : Eff} (h : F89 args H n = some e) : ∃ xa xc ya yc, ∃ a b : List UInt32, args = [.slice xa a.length xc, .slice ya b.length yc] ∧ rdC H (.slice xa a.length xc) = some a ∧ rdC H (.slice ya b.length yc) = some b ∧ a.length ≤ 1000 ∧ b.length ≤ 1000 ∧ e = ⟨.bool (decide (valM b < valM a)), [], n⟩ := by
  unfold F89 at h; split at h
  · simp only [Option.bind_eq_some_iff] at h
    obtain ⟨a, ha, b, hb, h⟩ := h
    split at h
    · rename_i hle
      cases h
      obtain ⟨xa, xc, rfl⟩ := rdC_len ha
      obtain ⟨ya, yc, rfl⟩ := rdC_len hb
      exact ⟨xa, xc, ya, yc, a, b, rfl, ha, hb, hle.1, hle.2, rfl⟩
    · cases h
  · cases h
theorem F89_ev {x y : Value} {H : IHeap} {n : Nat} {a b : List UInt32} (ha : rdC H x = some a) (hb : rdC H y = some b) (h1 : a.length ≤ 1000) (h2 : b.length ≤ 1000) : F89 [x, y] H n = some ⟨.bool (decide (valM b < valM a)), [], n⟩ := by
  simp only [F89, ha, hb, Option.bind_some]
  rw [if_pos ⟨h1, h2⟩]
theorem eq_above (a b : List UInt32) : ∀ j, max a.length b.length - 0 ≤ j → a.getD j 0 = b.getD j 0 := fun j hj => by
  rw [getD_above a (by omega), getD_above b (by omega)]
theorem eq_next {a b : List UInt32} {m s : Nat} (h : ∀ j, m - s ≤ j → a.getD j 0 = b.getD j 0) (h0 : a.getD (m - 1 - s) 0 = b.getD (m - 1 - s) 0) : ∀ j, m - (s + 1) ≤ j → a.getD j 0 = b.getD j 0 := fun j hj => by
  by_cases e : j = m - 1 - s
  · rw [e]; exact h0
  · exact h j (by omega)
-- headwater/headwaterref02.above ['Sl', 'Sl'] -> ['Bool'], results [4]
theorem R89 : Ref Try.prog 89 F89 := by
  refine Ref.of_iw dok Try.func89 rfl (by kernel_rfl) fun args H n e hF => ?_
  obtain ⟨xa, xc, ya, yc, a, b, rfl, ha, hB, hla, hlb, rfl⟩ := F89_inv hF
  refine ⟨Nat.le_of_ble_eq_true rfl, ?_⟩
  simp only [idxL]
  have hE : Env Try.prog [(107, F107)] D K := env (fnsOk_cons R107 fnsOk_nil)
  refine IW.seq ?_
  refine IW.free (by simp) (fun hfree => ?_)
  refine IW.reg hE ?_
  refine vcS_val rfl rfl (ox_assign (pl rfl)) ?_
  refine vcS_nil ?_
  refine IW.seq ?_
  refine IW.seq ?_
  refine IW.reg hE ?_
  refine vcS_val rfl rfl (ox_move (pl rfl)) ?_
  refine vcS_val rfl rfl (ox_len (pl rfl) D_122 rfl) ?_
  refine vcS_val rfl rfl (ox_move (pl rfl)) ?_
  refine vcS_val rfl rfl (ox_len (pl rfl) D_122 rfl) ?_
  refine vcS_val rfl rfl (ox_maxN (pl rfl) (pl rfl)) ?_
  refine vcS_val rfl rfl (ox_bin (pl rfl) (pl rfl) (bo_i64_sub (by omega))) ?_
  refine vcS_val rfl rfl (ox_assign (pl rfl)) ?_
  refine vcS_nil ?_
  refine IW.block ?_
  refine IW.loop (S := Nat) (fun s => [(0, .slice xa a.length xc), (1, .slice ya b.length yc), (5, .int .i64 ((((max a.length b.length) : Nat) : Int) - 1 - s))]) (fun s => []) (fun s => n) (fun s => s ≤ (max a.length b.length) ∧ ∀ j, (max a.length b.length) - s ≤ j → a.getD j 0 = b.getD j 0) (fun s => (max a.length b.length) + 1 - s) (0) (⟨Nat.zero_le _, eq_above a b⟩) (⟨rfl, ⟨rfl, ⟨(congrArg (fun z => some (Value.int .i64 z)) (by omega)), trivial⟩⟩⟩) (fun _ _ h => h) (Nat.le_refl _) (fun s hs => ?_)
  obtain ⟨hs1, hs2⟩ := hs
  refine IW.seq ?_
  refine IW.seq ?_
  refine IW.reg hE ?_
  refine vcS_val rfl rfl (ox_move (pl rfl)) ?_
  refine vcS_val rfl rfl (ox_bin (pl rfl) (pl rfl) (bo_i64_geq _ _)) ?_
  refine vcS_nil ?_
  refine IW.cond rfl (fun hc1 => ?_) (fun hc1 => ?_)
  · replace hc1 := of_decide_eq_true hc1
    refine IW.skip ?_
    refine IW.seq ?_
    refine IW.block ?_
    refine IW.seq ?_
    refine IW.reg hE ?_
    refine vcS_val rfl rfl (ox_move (pl rfl)) ?_
    refine vcS_val rfl rfl (ox_move (pl rfl)) ?_
    refine vcS_val rfl rfl (ox_fn rfl rfl (F107_ev ((max a.length b.length) - 1 - s) (rdC_keep hfree ha (by exact trivial)) (by omega) hla)) ?_
    refine vcS_val rfl rfl (ox_move (pl rfl)) ?_
    refine vcS_val rfl rfl (ox_move (pl rfl)) ?_
    refine vcS_val rfl rfl (ox_fn rfl rfl (F107_ev ((max a.length b.length) - 1 - s) (rdC_keep hfree hB (by exact trivial)) (by omega) hlb)) ?_
    refine vcS_val rfl rfl (ox_assign (pl rfl)) ?_
    refine vcS_val rfl rfl (ox_assign (pl rfl)) ?_
    refine vcS_nil ?_
    refine IW.seq ?_
    refine IW.reg hE ?_
    refine vcS_val rfl rfl (ox_move (pl rfl)) ?_
    refine vcS_val rfl rfl (ox_move (pl rfl)) ?_
    refine vcS_val rfl rfl (ox_bin (pl rfl) (pl rfl) (bo_u32_neq _ _)) ?_
    refine vcS_nil ?_
    refine IW.cond rfl (fun hc2 => ?_) (fun hc2 => ?_)
    · have hc2 : ¬ a.getD ((max a.length b.length) - 1 - s) 0 = b.getD ((max a.length b.length) - 1 - s) 0 := by simpa using hc2
      refine IW.seq ?_
      refine IW.reg hE ?_
      refine vcS_val rfl rfl (ox_move (pl rfl)) ?_
      refine vcS_val rfl rfl (ox_move (pl rfl)) ?_
      refine vcS_val rfl rfl (ox_bin (pl rfl) (pl rfl) (bo_u32_gtr _ _)) ?_
      refine vcS_val rfl rfl (ox_assign (pl rfl)) ?_
      refine vcS_nil ?_
      refine IW.ret ?_
      refine retB ?_
      refine retS (retS ?_)
      refine retB ?_
      exact RetP.ret (.inr rfl) rfl rfl trivial (congrArg Value.bool (above1 (fun j hj => hs2 j (by omega)) hc2).symm)
    · have hc2 : a.getD ((max a.length b.length) - 1 - s) 0 = b.getD ((max a.length b.length) - 1 - s) 0 := by simpa using hc2
      refine IW.skip ?_
      refine IW.nilB ?_
      refine IW.reg hE ?_
      refine vcS_val rfl rfl (ox_move (pl rfl)) ?_
      refine vcS_val rfl rfl (ox_bin (pl rfl) (pl rfl) (bo_i64_sub (by omega))) ?_
      refine vcS_val rfl rfl (ox_assign (pl rfl)) ?_
      refine vcS_nil ?_
      refine IW.nilS ?_
      exact ⟨s + 1, _, _, ⟨by omega, eq_next hs2 hc2⟩, by omega, rfl, ⟨rfl, ⟨rfl, ⟨(congrArg (fun z => some (Value.int .i64 z)) (by omega)), trivial⟩⟩⟩, rfl, fun _ _ h => h, Nat.le_refl _⟩
  · replace hc1 := of_decide_eq_false hc1
    refine IW.exit ?_
    refine exS (exS ?_)
    refine blkQ_exit ?_
    refine IW.seq ?_
    refine IW.reg hE ?_
    refine vcS_val rfl rfl (ox_assign (pl rfl)) ?_
    refine vcS_nil ?_
    refine IW.ret ?_
    exact RetP.ret (.inr rfl) rfl rfl trivial (congrArg Value.bool (above2 (fun j => (Nat.lt_or_ge j (max a.length b.length)).elim (fun h => hs2 j (by omega)) (fun h => eq_above a b j (by omega)))).symm)
def qSl (n s : Nat) : Nat → Value
  | 0 => .slice (some ⟨n + 2 + 10 * s + 3, 0, some 1⟩) 3 3
  | j + 1 => .slice (some ⟨n + 2 + 10 * s + 4 + j, 0, none⟩) (3 * (j + 2)) (3 * (j + 2))
def qM (y : List UInt32) (n s : Nat) (r : Ups) : Nat → Ups
  | 0 => (n + 2 + 10 * s + 3, some (.cells (encs y) false)) :: r
  | j + 1 => (n + 2 + 10 * s + 4 + j, some (.cells (encs (pqL y (j + 1))) false)) :: r
noncomputable def F70 : FnI := fun args H n => match args with
  | [x, .int .i64 p] => (dec x).bind fun (m : UInt64) => if p = 2 ∨ p = 3 then some ⟨enc (behV p.toNat m), [], n⟩ else none
  | _ => none
theorem F70_inv {args : List Value} {H : IHeap} {n : Nat} {e : Eff} (h : F70 args H n = some e) : ∃ (m : UInt64) (p : Nat), args = [enc m, .int .i64 p] ∧ (2 ≤ p ∧ p ≤ 3) ∧ e = ⟨enc (behV p m), [], n⟩ := by
  unfold F70 at h; split at h
  · simp only [Option.bind_eq_some_iff] at h
    obtain ⟨m, hm, h⟩ := h
    split at h
    · rename_i p hp; cases h
      exact ⟨m, p.toNat, by rw [dec_some hm, Int.toNat_of_nonneg (by omega)], by omega, rfl⟩
    · cases h
  · cases h
theorem F70_ev {H : IHeap} {n : Nat} (m : UInt64) (p : Nat) (hp : p = 2 ∨ p = 3) : F70 [enc m, .int .i64 p] H n = some ⟨enc (behV p m), [], n⟩ := by
  simp only [F70, dec_enc, Option.bind_some]
  rw [if_pos (by omega)]; rfl
def wantL (p : Nat) (m : UInt64) : List UInt32 := (List.replicate (2 * p + 2) 0).set (2 * p) (m % 4294967296).toUInt32
theorem wantL_val (p : Nat) (m : UInt64) : valM (wantL p m) = behN p m := by
  unfold wantL behN
  rw [want_val, low_val]
theorem wantL_length (p : Nat) (m : UInt64) : (wantL p m).length = 2 * p + 2 := by simp [wantL]
structure QS where
  s : Nat
  id : Nat
  sp : Option Nat
-- headwater/headwaterref02.power ['UInt64', 'Int'] -> ['UInt64'], results [4]
theorem R70 : Ref Try.prog 70 F70 := by
  refine Ref.of_iw dok Try.func70 rfl (by kernel_rfl) fun args H n e hF => ?_
  obtain ⟨m, p, rfl, hp, rfl⟩ := F70_inv hF
  refine ⟨Nat.le_of_ble_eq_true rfl, ?_⟩
  simp only [idxL]
  have hE : Env Try.prog [(88, F88), (89, F89)] D K := env (fnsOk_cons R88 (fnsOk_cons R89 fnsOk_nil))
  refine IW.seq ?_
  refine IW.free (by simp) (fun hfree => ?_)
  refine IW.reg hE ?_
  refine vcS_val rfl rfl (ox_assign (pl (v := enc (0 : UInt64)) rfl)) ?_
  refine vcS_nil ?_
  refine IW.seq ?_
  refine IW.reg hE ?_
  refine vcS_val rfl rfl (ox_move (pl rfl)) ?_
  refine vcS_val rfl rfl (ox_bin (pl rfl) (pl rfl) (bo_i64_mul (by omega))) ?_
  refine vcS_val rfl rfl (ox_bin (pl rfl) (pl rfl) (bo_i64_add (by omega))) ?_
  refine vcS_new rfl rfl (ox_makeN (2 * p + 2) (2 * p + 2) (0 : UInt32) (pl rfl) (by omega) (pl rfl) (by omega) D_122 rfl D_54 rfl (Nat.le_refl _) (by simp only [most]; omega) (by show 4 * _ ≤ _; omega)) (.inl (by omega)) ?_
  refine vcS_val rfl rfl (ox_assign (pl rfl)) ?_
  refine vcS_nil ?_
  refine IW.seq ?_
  refine IW.reg hE ?_
  refine vcS_val rfl rfl (ox_move (pl rfl)) ?_
  refine vcS_val rfl rfl (ox_move (pl rfl)) ?_
  refine vcS_val rfl rfl (ox_bin (pl rfl) (pl rfl) (bo_i64_mul (by omega))) ?_
  refine vcS_val rfl rfl (ox_move (pl rfl)) ?_
  refine vcS_val rfl rfl (ox_bin (pl rfl) (pl (v := enc (4294967296 : UInt64)) rfl) (bo_u64_rem _ _ (by decide))) ?_
  refine vcS_val rfl rfl (cv_6_32 (pl rfl) D_22 D_54 rfl) ?_
  refine vcS_val rfl rfl (ox_iaS (pl rfl) (pl rfl) D_122 rfl D_54 (by omega) (by omega)) ?_
  refine vcS_sto rfl rfl (ox_store (pl rfl) (pl rfl) D_54 (hp_eq _ _ _ _) rfl rfl (by rw [encs_length]; have := (show 2 * p < (List.replicate (2 * p + 2) (0 : UInt32)).length by simp); first | (simp; omega) | (simp at this ⊢; omega)) rfl (wr_ix (2 * p) (by show 0 + _ * 1 = _; omega) _)) (.inl (by omega)) ?_
  refine vcS_nil ?_
  refine IW.seq ?_
  refine IW.reg hE ?_
  refine vcS_new rfl rfl (ox_makeN 3 3 (0 : UInt32) (pl rfl) (rfl) (pl rfl) (rfl) D_122 rfl D_54 rfl (Nat.le_refl _) (by simp only [most]; omega) (by show 4 * _ ≤ _; omega)) (.inl (by omega)) ?_
  refine vcS_val rfl rfl (ox_assign (pl rfl)) ?_
  refine vcS_nil ?_
  refine IW.seq ?_
  refine IW.seq ?_
  refine IW.reg hE ?_
  refine vcS_val rfl rfl (ox_assign (pl rfl)) ?_
  refine vcS_nil ?_
  refine IW.block ?_
  refine IW.loop (S := QS) (fun z => [(0, enc m), (1, .int .i64 p), (5, .slice (some ⟨n, 0, none⟩) (2 * p + 2) (2 * p + 2)), (6, .slice (some ⟨z.id, 0, z.sp⟩) 3 3), (7, .int .i64 (95 - (z.s : Int)))]) (fun z => [(z.id, some (.cells (encs (xL (gr 96 p (behN p m) z.s))) false)), (n, some (.cells (encs (wantL p m)) false))]) (fun z => n + 2 + 10 * z.s) (fun z => z.s ≤ 96 ∧ n < z.id ∧ z.id < n + 2 + 10 * z.s) (fun z => 96 - z.s) (⟨0, n + 1, none⟩) (⟨by simp, by simp, by simp⟩) (⟨rfl, ⟨rfl, ⟨rfl, ⟨rfl, ⟨rfl, trivial⟩⟩⟩⟩⟩) (leX_le (leX_cons (show some (IObj.cells (encs (xL (gr 96 p _ 0))) false) = _ by rw [xL_zero]) (leX_cons rfl (leX_old (by simp) leX_refl)))) (by first | omega | (dsimp only; omega)) (fun z hz => ?_)
  obtain ⟨s, id, sp⟩ := z
  dsimp only at hz ⊢
  obtain ⟨hs1, hid1, hid2⟩ := hz
  refine IW.seq ?_
  refine IW.seq ?_
  refine IW.reg hE ?_
  refine vcS_val rfl rfl (ox_move (pl rfl)) ?_
  refine vcS_val rfl rfl (ox_bin (pl rfl) (pl rfl) (bo_i64_geq _ _)) ?_
  refine vcS_nil ?_
  refine IW.cond rfl (fun hc1 => ?_) (fun hc1 => ?_)
  · replace hc1 := of_decide_eq_true hc1
    have hs96 : s < 96 := by omega
    have hx3 : (xL (gr 96 p (behN p m) s)).length = 3 := rfl
    have hd : 2 ^ (95 - s + 1) ∣ (gr 96 p (behN p m) s) := by have := gr_dvd 96 p (behN p m) s (by omega); rwa [show 96 - s = 95 - s + 1 by omega] at this
    refine IW.skip ?_
    refine IW.seq ?_
    refine IW.block ?_
    refine IW.seq ?_
    refine IW.reg hE ?_
    refine vcS_new rfl rfl (ox_bs0 D_122 rfl D_54) (.inl (by omega)) ?_
    refine vcS_val rfl rfl (ox_move (pl rfl)) ?_
    refine vcS_new rfl rfl (ox_app1e (α := UInt32) (l := xL (gr 96 p (behN p m) s)) (pl rfl) (pl rfl) D_122 rfl D_54 D_122 rfl rfl (rdC_1all (hp_sk (by omega) (hp_eq _ _ _ _)) rfl) (by simp [xL]) rfl (hp_eq _ _ _ _) rfl (Nat.le_of_ble_eq_true rfl) (by decide)) (.inl (by omega)) ?_
    refine vcS_val rfl rfl (ox_assign (pl rfl)) ?_
    refine vcS_nil ?_
    refine IW.seq ?_
    refine IW.reg hE ?_
    refine vcS_val rfl rfl (ox_move (pl rfl)) ?_
    refine vcS_val rfl rfl (ox_move (pl rfl)) ?_
    refine vcS_val rfl rfl (ox_bin (pl rfl) (pl rfl) (bo_i64_quo (95 - s) 32 (by omega) rfl (by decide) (by omega))) ?_
    refine vcS_val rfl rfl (ox_move (pl rfl)) ?_
    refine vcS_val rfl rfl (ox_move (pl rfl)) ?_
    refine vcS_val rfl rfl (ox_bin (pl rfl) (pl rfl) (bo_i64_quo (95 - s) 32 (by omega) rfl (by decide) (by omega))) ?_
    refine vcS_val rfl rfl (ox_iaS (pl rfl) (pl rfl) D_122 rfl D_54 (by omega) (by omega)) ?_
    refine vcS_val rfl rfl (ox_load (pl rfl) D_54 (hp_eq _ _ _ _) (rd_ix ((95 - s) / 32) (0 : UInt32) rfl (by rw [Int.toNat_natCast]; show 0 + _ * 1 = _; omega) ((show (95 - s) / 32 < 3 by omega)))) ?_
    refine vcS_val rfl rfl (ox_move (pl rfl)) ?_
    refine vcS_val rfl rfl (ox_bin (pl rfl) (pl rfl) (bo_i64_rem (95 - s) 32 (by omega) rfl (by decide))) ?_
    refine vcS_val rfl rfl (cv_i_6 ((95 - s) % 32) (pl rfl) D_3 D_60 rfl rfl) ?_
    refine vcS_val rfl rfl (ox_bin (pl (v := enc (1 : UInt32)) rfl) (pl rfl) (shl_nat32 ((95 - s) % 32) (by omega))) ?_
    refine vcS_val rfl rfl (ox_bin (pl rfl) (pl rfl) (bo_u32_or _ _)) ?_
    refine vcS_val rfl rfl (ox_iaS (pl rfl) (pl rfl) D_122 rfl D_54 (by omega) (by omega)) ?_
    refine vcS_sto rfl rfl (ox_store (pl rfl) (pl rfl) D_54 (hp_eq _ _ _ _) rfl rfl (by rw [encs_length]; have := (show (95 - s) / 32 < 3 by omega); first | (simp; omega) | (simp at this ⊢; omega)) rfl (wr_ix ((95 - s) / 32) (by rw [Int.toNat_natCast]; show 0 + _ * 1 = _; omega) _)) (.inl (by omega)) ?_
    refine vcS_nil ?_
    refine IW.seq ?_
    rw [xL_on (b := 95 - s) (k := (95 - s) / 32) (c := (95 - s) % 32) (by omega) hd rfl rfl]
    refine IW.reg hE ?_
    refine vcS_new rfl rfl (ox_bs0 D_122 rfl D_54) (.inl (by omega)) ?_
    refine vcS_val rfl rfl (ox_move (pl rfl)) ?_
    refine vcS_new rfl rfl (ox_app1e (α := UInt32) (l := xL ((gr 96 p (behN p m) s) + 2 ^ (95 - s))) (pl rfl) (pl rfl) D_122 rfl D_54 D_122 rfl rfl (rdC_1all (hp_sk (by omega) (hp_eq _ _ _ _)) rfl) (by simp [xL]) rfl (hp_eq _ _ _ _) rfl (Nat.le_of_ble_eq_true rfl) (by decide)) (.inl (by omega)) ?_
    refine vcS_val rfl rfl (ox_assign (pl rfl)) ?_
    refine vcS_nil ?_
    refine IW.seq ?_
    refine IW.seq ?_
    refine IW.reg hE ?_
    refine vcS_val rfl rfl (ox_assign (pl rfl)) ?_
    refine vcS_nil ?_
    refine IW.block ?_
    refine IW.loop (S := Nat) (fun j => [(0, enc m), (1, .int .i64 p), (5, .slice (some ⟨n, 0, none⟩) (2 * p + 2) (2 * p + 2)), (6, .slice (some ⟨id, 0, sp⟩) 3 3), (7, .int .i64 (95 - (s : Int))), (8, .slice (some ⟨n + 2 + 10 * s + 1, 0, some 1⟩) 3 3), (9, qSl n s j), (10, .int .i64 ((j : Int) + 1))]) (fun j => qM (xL ((gr 96 p (behN p m) s) + 2 ^ (95 - s))) n s [(n + 2 + 10 * s + 1, some (.cells (encs (xL ((gr 96 p (behN p m) s) + 2 ^ (95 - s)))) false)), (id, some (.cells (encs (xL (gr 96 p (behN p m) s))) false)), (n, some (.cells (encs (wantL p m)) false))] j) (fun j => n + 2 + 10 * s + 4 + j) (fun j => j + 1 ≤ p) (fun j => p - j) (0) (by omega) (⟨rfl, ⟨rfl, ⟨rfl, ⟨rfl, ⟨rfl, ⟨rfl, ⟨rfl, ⟨(congrArg (fun z => some (Value.int .i64 z)) (by omega)), trivial⟩⟩⟩⟩⟩⟩⟩⟩) (leX_le (leX_same (hp_eq _ _ _ _) rfl (leX_same (hp_sk (by omega) (hp_sk (by omega) (hp_eq _ _ _ _))) rfl (leX_same (hp_sk (by omega) (hp_sk (by omega) (hp_sk (by omega) (hp_sk (by omega) (hp_sk (by omega) (hp_eq _ _ _ _)))))) rfl (leX_same (hp_sk (by omega) (hp_sk (by omega) (hp_sk (by omega) (hp_sk (by omega) (hp_sk (by omega) (hp_sk (by omega) (hp_eq _ _ _ _))))))) rfl (leX_none hfree (by exact ⟨by omega, ⟨by omega, ⟨by omega, ⟨by omega, ⟨by omega, ⟨by omega, ⟨by omega, trivial⟩⟩⟩⟩⟩⟩⟩))))))) (by omega) (fun j hj => ?_)
    refine IW.seq ?_
    refine IW.seq ?_
    rcases j with _ | _ | _ | j
    · simp only [qSl, qM]
      refine IW.reg hE ?_
      refine vcS_val rfl rfl (ox_move (pl rfl)) ?_
      refine vcS_val rfl rfl (ox_move (pl rfl)) ?_
      refine vcS_val rfl rfl (ox_bin (pl rfl) (pl rfl) (bo_i64_lss _ _)) ?_
      refine vcS_nil ?_
      refine IW.cond rfl (fun hc2 => ?_) (fun hc2 => ?_)
      · replace hc2 := of_decide_eq_true hc2
        refine IW.skip ?_
        refine IW.seq ?_
        refine IW.block ?_
        refine IW.reg hE ?_
        refine vcS_val rfl rfl (ox_move (pl rfl)) ?_
        refine vcS_val rfl rfl (ox_move (pl rfl)) ?_
        refine vcS_ups rfl rfl (ox_fn rfl rfl (F88_ev (k := 6) (rdC_1all (hp_eq _ _ _ _) rfl) (rdC_1all (hp_sk (by omega) (hp_eq _ _ _ _)) rfl) rfl (by decide))) rfl ⟨.inl (by omega), trivial⟩ ?_
        refine vcS_val rfl rfl (ox_assign (pl rfl)) ?_
        refine vcS_nil ?_
        refine IW.nilB ?_
        refine IW.reg hE ?_
        refine vcS_val rfl rfl (ox_move (pl rfl)) ?_
        refine vcS_val rfl rfl (ox_bin (pl rfl) (pl rfl) (bo_i64_add (by omega))) ?_
        refine vcS_val rfl rfl (ox_assign (pl rfl)) ?_
        refine vcS_nil ?_
        refine IW.nilS ?_
        exact ⟨0 + 1, _, _, by omega, by omega, rfl, ⟨rfl, ⟨rfl, ⟨rfl, ⟨rfl, ⟨(congrArg (fun z => some (Value.int .i64 z)) (by first | omega | (dsimp only; omega))), ⟨rfl, ⟨rfl, ⟨(congrArg (fun z => some (Value.int .i64 z)) (by first | omega | (dsimp only; omega))), trivial⟩⟩⟩⟩⟩⟩⟩⟩, rfl, leX_le (leX_cons rfl (leX_new (free_hp hfree (by first | omega | (dsimp only; omega)) ⟨by omega, by omega, by omega, trivial⟩) leX_refl)), by omega⟩
      · exact absurd hc2 (by simp; omega)
    · simp only [qSl, qM]
      refine IW.reg hE ?_
      refine vcS_val rfl rfl (ox_move (pl rfl)) ?_
      refine vcS_val rfl rfl (ox_move (pl rfl)) ?_
      refine vcS_val rfl rfl (ox_bin (pl rfl) (pl rfl) (bo_i64_lss _ _)) ?_
      refine vcS_nil ?_
      refine IW.cond rfl (fun hc3 => ?_) (fun hc3 => ?_)
      · replace hc3 := of_decide_eq_true hc3
        refine IW.skip ?_
        refine IW.seq ?_
        refine IW.block ?_
        refine IW.reg hE ?_
        refine vcS_val rfl rfl (ox_move (pl rfl)) ?_
        refine vcS_val rfl rfl (ox_move (pl rfl)) ?_
        refine vcS_ups rfl rfl (ox_fn rfl rfl (F88_ev (k := 9) (rdC_1all (hp_eq _ _ _ _) (by rw [pqL_length]; rfl)) (rdC_1all (hp_sk (by omega) (hp_eq _ _ _ _)) rfl) (by rw [pqL_length]; rfl) (by decide))) rfl ⟨.inl (by omega), trivial⟩ ?_
        refine vcS_val rfl rfl (ox_assign (pl rfl)) ?_
        refine vcS_nil ?_
        refine IW.nilB ?_
        refine IW.reg hE ?_
        refine vcS_val rfl rfl (ox_move (pl rfl)) ?_
        refine vcS_val rfl rfl (ox_bin (pl rfl) (pl rfl) (bo_i64_add (by omega))) ?_
        refine vcS_val rfl rfl (ox_assign (pl rfl)) ?_
        refine vcS_nil ?_
        refine IW.nilS ?_
        exact ⟨0 + 1 + 1, _, _, by omega, by omega, rfl, ⟨rfl, ⟨rfl, ⟨rfl, ⟨rfl, ⟨(congrArg (fun z => some (Value.int .i64 z)) (by first | omega | (dsimp only; omega))), ⟨rfl, ⟨rfl, ⟨(congrArg (fun z => some (Value.int .i64 z)) (by first | omega | (dsimp only; omega))), trivial⟩⟩⟩⟩⟩⟩⟩⟩, rfl, leX_le (leX_cons rfl (leX_new (free_hp hfree (by first | omega | (dsimp only; omega)) ⟨by omega, by omega, by omega, trivial⟩) leX_refl)), by omega⟩
      · replace hc3 := of_decide_eq_false hc3
        refine IW.exit ?_
        refine exS (exS ?_)
        refine blkQ_exit ?_
        refine IW.seq ?_
        refine IW.reg hE ?_
        refine vcS_val rfl rfl (ox_move (pl rfl)) ?_
        refine vcS_val rfl rfl (ox_move (pl rfl)) ?_
        refine vcS_val rfl rfl (ox_fn rfl rfl (F89_ev (rdC_1all (l := pqL (xL ((gr 96 p (behN p m) s) + 2 ^ (95 - s))) 1) (hp_eq _ _ _ _) (by rw [pqL_length]; rfl)) (rdC_1all (l := wantL p m) (hp_sk (by omega) (hp_sk (by omega) (hp_sk (by omega) (hp_eq _ _ _ _)))) (wantL_length _ _)) (by rw [pqL_length]; show 3 * _ ≤ _; omega) (by rw [wantL_length]; omega))) ?_
        refine vcS_val rfl rfl (ox_un (pl rfl) (uo_not _)) ?_
        refine vcS_nil ?_
        refine IW.cond rfl (fun hc4 => ?_) (fun hc4 => ?_)
        · have hon := gq_on (p := p) (N := (behN p m)) (L := pqL (xL ((gr 96 p (behN p m) s) + 2 ^ (95 - s))) 1) hs96 (by rw [show p - 1 = 1 by omega]) (by omega) (by have h := hc4; rw [wantL_val] at h; simpa using h)
          refine IW.reg hE ?_
          refine vcS_val rfl rfl (ox_move (pl rfl)) ?_
          refine vcS_val rfl rfl (ox_assign (pl rfl)) ?_
          refine vcS_nil ?_
          refine IW.nilB ?_
          refine IW.reg hE ?_
          refine vcS_val rfl rfl (ox_move (pl rfl)) ?_
          refine vcS_val rfl rfl (ox_bin (pl rfl) (pl rfl) (bo_i64_sub (by omega))) ?_
          refine vcS_val rfl rfl (ox_assign (pl rfl)) ?_
          refine vcS_nil ?_
          refine IW.nilS ?_
          exact ⟨(⟨s + 1, n + 2 + 10 * s + 1, some 1⟩ : QS), _, _, ⟨by first | omega | (dsimp only; omega), by first | omega | (dsimp only; omega), by first | omega | (dsimp only; omega)⟩, by first | omega | (dsimp only; omega), rfl, ⟨rfl, ⟨rfl, ⟨rfl, ⟨rfl, ⟨(congrArg (fun z => some (Value.int .i64 z)) (by first | omega | (dsimp only; omega))), trivial⟩⟩⟩⟩⟩, rfl, leX_le (leX_same (hp_sk (by first | omega | (dsimp only; omega)) (hp_eq _ _ _ _)) (show some (IObj.cells (encs (xL (gr 96 p _ (s + 1)))) false) = _ by rw [hon]) (leX_same (hp_sk (by first | omega | (dsimp only; omega)) (hp_sk (by first | omega | (dsimp only; omega)) (hp_sk (by first | omega | (dsimp only; omega)) (hp_eq _ _ _ _)))) rfl (leX_none hfree (by exact ⟨by omega, ⟨by omega, ⟨by omega, ⟨by omega, trivial⟩⟩⟩⟩)))), by first | omega | (dsimp only; omega)⟩
        · have hoff := gq_off (p := p) (N := (behN p m)) (L := pqL (xL ((gr 96 p (behN p m) s) + 2 ^ (95 - s))) 1) hs96 (by rw [show p - 1 = 1 by omega]) (by omega) (by have h := hc4; rw [wantL_val] at h; simpa using h)
          refine IW.skip ?_
          refine IW.nilB ?_
          refine IW.reg hE ?_
          refine vcS_val rfl rfl (ox_move (pl rfl)) ?_
          refine vcS_val rfl rfl (ox_bin (pl rfl) (pl rfl) (bo_i64_sub (by omega))) ?_
          refine vcS_val rfl rfl (ox_assign (pl rfl)) ?_
          refine vcS_nil ?_
          refine IW.nilS ?_
          exact ⟨(⟨s + 1, id, sp⟩ : QS), _, _, ⟨by first | omega | (dsimp only; omega), by first | omega | (dsimp only; omega), by first | omega | (dsimp only; omega)⟩, by first | omega | (dsimp only; omega), rfl, ⟨rfl, ⟨rfl, ⟨rfl, ⟨rfl, ⟨(congrArg (fun z => some (Value.int .i64 z)) (by first | omega | (dsimp only; omega))), trivial⟩⟩⟩⟩⟩, rfl, leX_le (leX_same (hp_sk (by first | omega | (dsimp only; omega)) (hp_sk (by first | omega | (dsimp only; omega)) (hp_eq _ _ _ _))) (show some (IObj.cells (encs (xL (gr 96 p _ (s + 1)))) false) = _ by rw [hoff]) (leX_same (hp_sk (by first | omega | (dsimp only; omega)) (hp_sk (by first | omega | (dsimp only; omega)) (hp_sk (by first | omega | (dsimp only; omega)) (hp_eq _ _ _ _)))) rfl (leX_none hfree (by exact ⟨by omega, ⟨by omega, ⟨by omega, ⟨by omega, trivial⟩⟩⟩⟩)))), by first | omega | (dsimp only; omega)⟩
    · simp only [qSl, qM]
      refine IW.reg hE ?_
      refine vcS_val rfl rfl (ox_move (pl rfl)) ?_
      refine vcS_val rfl rfl (ox_move (pl rfl)) ?_
      refine vcS_val rfl rfl (ox_bin (pl rfl) (pl rfl) (bo_i64_lss _ _)) ?_
      refine vcS_nil ?_
      refine IW.cond rfl (fun hc5 => ?_) (fun hc5 => ?_)
      · exact absurd hc5 (by simp; omega)
      · replace hc5 := of_decide_eq_false hc5
        refine IW.exit ?_
        refine exS (exS ?_)
        refine blkQ_exit ?_
        refine IW.seq ?_
        refine IW.reg hE ?_
        refine vcS_val rfl rfl (ox_move (pl rfl)) ?_
        refine vcS_val rfl rfl (ox_move (pl rfl)) ?_
        refine vcS_val rfl rfl (ox_fn rfl rfl (F89_ev (rdC_1all (l := pqL (xL ((gr 96 p (behN p m) s) + 2 ^ (95 - s))) 2) (hp_eq _ _ _ _) (by rw [pqL_length]; rfl)) (rdC_1all (l := wantL p m) (hp_sk (by omega) (hp_sk (by omega) (hp_sk (by omega) (hp_eq _ _ _ _)))) (wantL_length _ _)) (by rw [pqL_length]; show 3 * _ ≤ _; omega) (by rw [wantL_length]; omega))) ?_
        refine vcS_val rfl rfl (ox_un (pl rfl) (uo_not _)) ?_
        refine vcS_nil ?_
        refine IW.cond rfl (fun hc6 => ?_) (fun hc6 => ?_)
        · have hon := gq_on (p := p) (N := (behN p m)) (L := pqL (xL ((gr 96 p (behN p m) s) + 2 ^ (95 - s))) 2) hs96 (by rw [show p - 1 = 2 by omega]) (by omega) (by have h := hc6; rw [wantL_val] at h; simpa using h)
          refine IW.reg hE ?_
          refine vcS_val rfl rfl (ox_move (pl rfl)) ?_
          refine vcS_val rfl rfl (ox_assign (pl rfl)) ?_
          refine vcS_nil ?_
          refine IW.nilB ?_
          refine IW.reg hE ?_
          refine vcS_val rfl rfl (ox_move (pl rfl)) ?_
          refine vcS_val rfl rfl (ox_bin (pl rfl) (pl rfl) (bo_i64_sub (by omega))) ?_
          refine vcS_val rfl rfl (ox_assign (pl rfl)) ?_
          refine vcS_nil ?_
          refine IW.nilS ?_
          exact ⟨(⟨s + 1, n + 2 + 10 * s + 1, some 1⟩ : QS), _, _, ⟨by first | omega | (dsimp only; omega), by first | omega | (dsimp only; omega), by first | omega | (dsimp only; omega)⟩, by first | omega | (dsimp only; omega), rfl, ⟨rfl, ⟨rfl, ⟨rfl, ⟨rfl, ⟨(congrArg (fun z => some (Value.int .i64 z)) (by first | omega | (dsimp only; omega))), trivial⟩⟩⟩⟩⟩, rfl, leX_le (leX_same (hp_sk (by first | omega | (dsimp only; omega)) (hp_eq _ _ _ _)) (show some (IObj.cells (encs (xL (gr 96 p _ (s + 1)))) false) = _ by rw [hon]) (leX_same (hp_sk (by first | omega | (dsimp only; omega)) (hp_sk (by first | omega | (dsimp only; omega)) (hp_sk (by first | omega | (dsimp only; omega)) (hp_eq _ _ _ _)))) rfl (leX_none hfree (by exact ⟨by omega, ⟨by omega, ⟨by omega, ⟨by omega, trivial⟩⟩⟩⟩)))), by first | omega | (dsimp only; omega)⟩
        · have hoff := gq_off (p := p) (N := (behN p m)) (L := pqL (xL ((gr 96 p (behN p m) s) + 2 ^ (95 - s))) 2) hs96 (by rw [show p - 1 = 2 by omega]) (by omega) (by have h := hc6; rw [wantL_val] at h; simpa using h)
          refine IW.skip ?_
          refine IW.nilB ?_
          refine IW.reg hE ?_
          refine vcS_val rfl rfl (ox_move (pl rfl)) ?_
          refine vcS_val rfl rfl (ox_bin (pl rfl) (pl rfl) (bo_i64_sub (by omega))) ?_
          refine vcS_val rfl rfl (ox_assign (pl rfl)) ?_
          refine vcS_nil ?_
          refine IW.nilS ?_
          exact ⟨(⟨s + 1, id, sp⟩ : QS), _, _, ⟨by first | omega | (dsimp only; omega), by first | omega | (dsimp only; omega), by first | omega | (dsimp only; omega)⟩, by first | omega | (dsimp only; omega), rfl, ⟨rfl, ⟨rfl, ⟨rfl, ⟨rfl, ⟨(congrArg (fun z => some (Value.int .i64 z)) (by first | omega | (dsimp only; omega))), trivial⟩⟩⟩⟩⟩, rfl, leX_le (leX_same (hp_sk (by first | omega | (dsimp only; omega)) (hp_sk (by first | omega | (dsimp only; omega)) (hp_eq _ _ _ _))) (show some (IObj.cells (encs (xL (gr 96 p _ (s + 1)))) false) = _ by rw [hoff]) (leX_same (hp_sk (by first | omega | (dsimp only; omega)) (hp_sk (by first | omega | (dsimp only; omega)) (hp_sk (by first | omega | (dsimp only; omega)) (hp_eq _ _ _ _)))) rfl (leX_none hfree (by exact ⟨by omega, ⟨by omega, ⟨by omega, ⟨by omega, trivial⟩⟩⟩⟩)))), by first | omega | (dsimp only; omega)⟩
    · exact absurd hj (by omega)
  · replace hc1 := of_decide_eq_false hc1
    have h96 : s = 96 := by omega
    subst h96
    refine IW.exit ?_
    refine exS (exS ?_)
    refine blkQ_exit ?_
    refine IW.seq ?_
    refine IW.drw hE mixed [[],[0],[0,1],[0,1,2],[],[4],[4,5],[4,5,6],[4,5,6,7],[0,1,2,3,4,5,6,7,8],[0,1,2,3,4,5,6,7,8,9]] (by kernel_rfl) (vcE_start ?_)
    refine vcE_bl rfl rfl (fun _ => ox_move (pl rfl)) rfl rfl ?_
    refine vcE_bl rfl rfl (fun _ => ox_iaS (pl rfl) (pl rfl) D_122 rfl D_54 (by omega) (by omega)) rfl rfl ?_
    refine vcE_val rfl rfl rfl rfl (ox_load (pl rfl) D_54 (hp_eq _ _ _ _) (rd_ix (0) (0 : UInt32) rfl (by simp) ((show 0 < 3 by decide)))) rfl (si_load (pl rfl)) (lt1 (by omega)) (trivial) ?_
    refine vcE_bl rfl rfl (fun _ => cv_32_6 (pl rfl) D_54 D_22 rfl) rfl rfl ?_
    refine vcE_bl rfl rfl (fun _ => ox_move (pl rfl)) rfl rfl ?_
    refine vcE_bl rfl rfl (fun _ => ox_iaS (pl rfl) (pl rfl) D_122 rfl D_54 (by omega) (by omega)) rfl rfl ?_
    refine vcE_val rfl rfl rfl rfl (ox_load (pl rfl) D_54 (hp_eq _ _ _ _) (rd_ix (1) (0 : UInt32) rfl (by simp) ((show 1 < 3 by decide)))) rfl (si_load (pl rfl)) (lt1 (by omega)) (trivial) ?_
    refine vcE_bl rfl rfl (fun _ => cv_32_6 (pl rfl) D_54 D_22 rfl) rfl rfl ?_
    refine vcE_bl rfl rfl (fun _ => ox_bin (pl rfl) (pl (v := enc (32 : UInt64)) rfl) (bo_u64_shl _ (by omega))) rfl rfl ?_
    refine vcE_bl rfl rfl (fun _ => ox_bin (pl rfl) (pl rfl) (bo_u64_add _ _)) rfl rfl ?_
    refine vcE_bl rfl rfl (fun _ => ox_assign (pl rfl)) rfl rfl ?_
    refine vcE_nil ?_
    refine IW.ret ?_
    exact RetP.ret (.inr rfl) rfl rfl trivial (by rw [← beh96 m hp]; exact congrArg enc (xL_low _))
noncomputable def F33 : FnI := fn1 fun (m : UInt64) => enc (behV 2 m)
-- headwater/headwaterref02.Root ['UInt64'] -> ['UInt64'], results [2]
theorem R33 : Ref Try.prog 33 F33 := by
  refine Ref.of_iw dok Try.func33 rfl (by kernel_rfl) fun args H n e hF => ?_
  obtain ⟨a, rfl, rfl⟩ := fn1_inv hF
  refine ⟨Nat.le_of_ble_eq_true rfl, ?_⟩
  simp only [idxL]
  have hE : Env Try.prog [(70, F70)] D K := env (fnsOk_cons R70 fnsOk_nil)
  refine IW.seq ?_
  refine IW.reg hE ?_
  refine vcS_val rfl rfl (ox_assign (pl (v := enc (0 : UInt64)) rfl)) ?_
  refine vcS_nil ?_
  refine IW.seq ?_
  refine IW.reg hE ?_
  refine vcS_val rfl rfl (ox_move (pl rfl)) ?_
  refine vcS_val rfl rfl (ox_fn rfl rfl (F70_ev _ 2 (.inl rfl))) ?_
  refine vcS_val rfl rfl (ox_assign (pl rfl)) ?_
  refine vcS_nil ?_
  refine IW.ret ?_
  exact RetP.ret (.inr rfl) rfl rfl trivial (rfl)
noncomputable def F32 : FnI := fn1 fun (m : UInt64) => enc (behV 3 m)
-- headwater/headwaterref02.Cube ['UInt64'] -> ['UInt64'], results [2]
theorem R32 : Ref Try.prog 32 F32 := by
  refine Ref.of_iw dok Try.func32 rfl (by kernel_rfl) fun args H n e hF => ?_
  obtain ⟨a, rfl, rfl⟩ := fn1_inv hF
  refine ⟨Nat.le_of_ble_eq_true rfl, ?_⟩
  simp only [idxL]
  have hE : Env Try.prog [(70, F70)] D K := env (fnsOk_cons R70 fnsOk_nil)
  refine IW.seq ?_
  refine IW.reg hE ?_
  refine vcS_val rfl rfl (ox_assign (pl (v := enc (0 : UInt64)) rfl)) ?_
  refine vcS_nil ?_
  refine IW.seq ?_
  refine IW.reg hE ?_
  refine vcS_val rfl rfl (ox_move (pl rfl)) ?_
  refine vcS_val rfl rfl (ox_fn rfl rfl (F70_ev _ 3 (.inr rfl))) ?_
  refine vcS_val rfl rfl (ox_assign (pl rfl)) ?_
  refine vcS_nil ?_
  refine IW.ret ?_
  exact RetP.ret (.inr rfl) rfl rfl trivial (rfl)
end Go.Proofs.Ytdnnojblneccdaa
/-
  Plain law: the words of the sums are the roots of primes.
-/
namespace Go.Proofs.Ytdnnojblneccdaa
set_option linter.unusedSimpArgs false
set_option linter.unusedVariables false
set_option maxRecDepth 100000

/-- none of the c numbers from 2 on divides p -/
def pr (p : Nat) : Nat → Bool
  | 0 => true
  | c + 1 => pr p c && (((p % (2 + c) : Nat) : Int) != 0)
def lim (p : Nat) : Nat := (List.range 30).findIdx (fun c => decide (p < (2 + c) * (2 + c)))
def primeB (p : Nat) : Bool := pr p (lim p)
/-- how many primes from 3 on up to p -/
def cntP : Nat → Nat
  | 0 => 0
  | p + 1 => cntP p + (if 3 ≤ p + 1 ∧ primeB (p + 1) = true then 1 else 0)
theorem lim_at {p c : Nat} (h1 : ∀ j, j < c → (2 + j) * (2 + j) ≤ p) (h2 : p < (2 + c) * (2 + c)) (hp : p < 900) : lim p = c := by
  have hc : c < 30 := by
    rcases Nat.lt_or_ge c 30 with h | h
    · exact h
    · have := h1 29 (by omega); omega
  unfold lim
  rw [List.findIdx_eq (by simpa using hc)]
  refine ⟨by simpa using h2, fun j hj => ?_⟩
  have := h1 j hj
  simp; omega
theorem cntP_on {p : Nat} (hp : 2 ≤ p) (h : primeB (p + 1) = true) : cntP (p + 1) = cntP p + 1 := by
  simp only [cntP, h, and_true]
  rw [if_pos (by omega)]
theorem cntP_off {p : Nat} (h : primeB (p + 1) = false) : cntP (p + 1) = cntP p := by
  simp [cntP, h]
theorem cntP_le (p : Nat) : cntP (p + 1) ≤ cntP p + 1 := by
  simp only [cntP]; split <;> omega
theorem cntP_last : cntP 409 = 79 := by decide +kernel
def wordOk (p : Nat) : Bool := !(p == 2 || primeB p) || (kL.getD (cntP p) 0 == behV 3 (UInt64.ofNat p) && (decide (8 ≤ cntP p) || startL.getD (cntP p) 0 == behV 2 (UInt64.ofNat p)))
theorem words_ok : ∀ p, p < 410 → 2 ≤ p → wordOk p = true := by decide +kernel
theorem words {p k : Nat} (h2 : 2 ≤ p) (h409 : p ≤ 409) (hk : k ≤ cntP p) (hm : p = 2 ∨ cntP (p - 1) < k) : kL.getD k 0 = behV 3 (UInt64.ofNat p) ∧ (k < 8 → startL.getD k 0 = behV 2 (UInt64.ofNat p)) := by
  have h := words_ok p (by omega) h2
  have hkp : k = cntP p ∧ (p == 2 || primeB p) = true := by
    rcases hm with rfl | hm
    · have : cntP 2 = 0 := by decide +kernel
      exact ⟨by omega, rfl⟩
    · obtain ⟨q, rfl⟩ : ∃ q, p = q + 1 := ⟨p - 1, by omega⟩
      rw [Nat.add_sub_cancel] at hm
      have := cntP_le q
      refine ⟨by omega, ?_⟩
      cases hpb : primeB (q + 1) with
      | true => simp
      | false => have := cntP_off hpb; omega
  obtain ⟨rfl, hp⟩ := hkp
  unfold wordOk at h
  rw [hp] at h
  simp only [Bool.not_true, Bool.false_or, Bool.and_eq_true, Bool.or_eq_true, beq_iff_eq, decide_eq_true_eq] at h
  exact ⟨h.1, fun h8 => h.2.resolve_left (by omega)⟩
theorem sq_bound {c : Nat} (h : c ≤ 409) : -9223372036854775808 ≤ ((2 + c : Nat) : Int) * ((2 + c : Nat) : Int) ∧ ((2 + c : Nat) : Int) * ((2 + c : Nat) : Int) ≤ 9223372036854775807 := by
  have : (2 + c) * (2 + c) ≤ 411 * 411 := Nat.mul_le_mul (by omega) (by omega)
  have e : ((2 + c : Nat) : Int) * ((2 + c : Nat) : Int) = (((2 + c) * (2 + c) : Nat) : Int) := by push_cast; rfl
  rw [e]; omega
theorem sq_in {c p : Nat} (h : ((2 + c : Nat) : Int) * ((2 + c : Nat) : Int) ≤ (p : Int) + 1) : (2 + c) * (2 + c) ≤ p + 1 := by
  have e : ((2 + c : Nat) : Int) * ((2 + c : Nat) : Int) = (((2 + c) * (2 + c) : Nat) : Int) := by push_cast; rfl
  rw [e] at h; omega
theorem sq_out {c p : Nat} (h : ¬ ((2 + c : Nat) : Int) * ((2 + c : Nat) : Int) ≤ (p : Int) + 1) : p + 1 < (2 + c) * (2 + c) := by
  have e : ((2 + c : Nat) : Int) * ((2 + c : Nat) : Int) = (((2 + c) * (2 + c) : Nat) : Int) := by push_cast; rfl
  rw [e] at h; omega
theorem sq_c {c p : Nat} (h : (2 + c) * (2 + c) ≤ p) : c < p := by
  have : 1 * (2 + c) ≤ (2 + c) * (2 + c) := Nat.mul_le_mul_right _ (by omega)
  omega
theorem sq_c2 {c p : Nat} (h : (2 + c) * (2 + c) ≤ p) (hp : p ≤ 410) : c + 1 ≤ 409 := by
  rcases Nat.lt_or_ge c 20 with h1 | h1
  · omega
  · have : (2 + 20) * (2 + 20) ≤ (2 + c) * (2 + c) := Nat.mul_le_mul (by omega) (by omega)
    omega
theorem pick79 (i : Int) : ∃ I : Nat, pickV i 80 = I ∧ I ≤ 79 := pick_nat i 79
end Go.Proofs.Ytdnnojblneccdaa
/-
  headwaterlaw02.ShaWords.
-/
namespace Go.Proofs.Ytdnnojblneccdaa
set_option linter.unusedSimpArgs false
set_option linter.unusedVariables false
open Go
open Enc (enc)
set_option maxRecDepth 100000

theorem ne_eqf64 {a b : UInt64} (h : a = b) : (fun b => some (Value.bool b)) (a != b) = some (.bool false) := by subst h; simp
noncomputable def F6 : FnI := fun args H n => match args with
  | [.int .i64 _, y] => (dec y).bind fun (_ : UInt32) => some ⟨.bool true, [], n⟩
  | _ => none
theorem F6_inv {args : List Value} {H : IHeap} {n : Nat} {e : Eff} (h : F6 args H n = some e) : ∃ (i : Int) (a : UInt32), args = [.int .i64 i, enc a] ∧ e = ⟨.bool true, [], n⟩ := by
  unfold F6 at h; split at h
  · simp only [Option.bind_eq_some_iff] at h
    obtain ⟨a, ha, h⟩ := h
    cases h
    exact ⟨_, a, by rw [dec_some ha], rfl⟩
  · cases h
theorem F6_ev {H : IHeap} {n : Nat} (i : Int) (a : UInt32) : F6 [.int .i64 i, enc a] H n = some ⟨.bool true, [], n⟩ := by
  simp only [F6, dec_enc, Option.bind_some]
-- headwater/headwaterlaw02.ShaWords ['Int', 'UInt32'] -> ['Bool'], results [4]
theorem R6 : Ref Try.prog 6 F6 := by
  refine Ref.of_iw dok Try.func6 rfl (by kernel_rfl) fun args H n e hF => ?_
  obtain ⟨i, a, rfl, rfl⟩ := F6_inv hF
  refine ⟨Nat.le_of_ble_eq_true rfl, ?_⟩
  simp only [idxL]
  have hE : Env Try.prog [(25, F25), (26, F26), (27, F27), (28, F28), (29, F29), (31, F31), (32, F32), (33, F33)] D K := env (fnsOk_cons R25 (fnsOk_cons R26 (fnsOk_cons R27 (fnsOk_cons R28 (fnsOk_cons R29 (fnsOk_cons R31 (fnsOk_cons R32 (fnsOk_cons R33 fnsOk_nil))))))))
  refine IW.seq ?_
  refine IW.reg hE ?_
  refine vcS_val rfl rfl (ox_assign (pl rfl)) ?_
  refine vcS_nil ?_
  refine IW.seq ?_
  refine IW.seq ?_
  refine IW.reg hE ?_
  refine vcS_val rfl rfl (ox_fn rfl rfl (fn0_ev _ _ _)) ?_
  refine vcS_val rfl rfl (ox_un (pl rfl) (uo_not _)) ?_
  refine vcS_nil ?_
  refine IW.cond rfl (fun hc1 => ?_) (fun hc1 => ?_)
  · cases hc1
  · refine IW.skip ?_
    refine IW.seq ?_
    refine IW.reg hE ?_
    refine vcS_val rfl rfl (ox_move (pl rfl)) ?_
    refine vcS_val rfl rfl (ox_fn rfl rfl (F31_ev _ (by decide))) ?_
    refine vcS_val rfl rfl (ox_assign (pl rfl)) ?_
    refine vcS_nil ?_
    refine IW.seq ?_
    obtain ⟨K, hK, hK2⟩ := pick79 i
    rw [hK]
    refine IW.reg hE ?_
    refine vcS_val rfl rfl (ox_assign (pl rfl)) ?_
    refine vcS_val rfl rfl (ox_assign (pl rfl)) ?_
    refine vcS_nil ?_
    refine IW.seq ?_
    refine IW.block ?_
    refine IW.loop (S := Nat) (fun p => [(1, enc a), (5, .int .i64 K), (6, .int .i64 p), (7, .int .i64 (cntP p))]) (fun p => []) (fun p => n) (fun p => 2 ≤ p ∧ p ≤ 409 ∧ (p = 2 ∨ cntP (p - 1) < K)) (fun p => 409 - p) (2) (⟨by omega, by omega, .inl rfl⟩) (⟨rfl, ⟨rfl, ⟨rfl, ⟨rfl, trivial⟩⟩⟩⟩) (fun _ _ h => h) (Nat.le_refl _) (fun p hp => ?_)
    obtain ⟨hp1, hp2, hp3⟩ := hp
    refine IW.seq ?_
    refine IW.seq ?_
    refine IW.reg hE ?_
    refine vcS_val rfl rfl (ox_move (pl rfl)) ?_
    refine vcS_val rfl rfl (ox_move (pl rfl)) ?_
    refine vcS_val rfl rfl (ox_bin (pl rfl) (pl rfl) (bo_i64_lss _ _)) ?_
    refine vcS_nil ?_
    refine IW.cond rfl (fun hc2 => ?_) (fun hc2 => ?_)
    · replace hc2 := of_decide_eq_true hc2
      have hp409 : p < 409 := by have h79 := cntP_last; refine (Nat.lt_or_ge p 409).elim id (fun h => ?_); obtain rfl : p = 409 := (by omega); omega
      refine IW.skip ?_
      refine IW.block ?_
      refine IW.seq ?_
      refine IW.reg hE ?_
      refine vcS_val rfl rfl (ox_move (pl rfl)) ?_
      refine vcS_val rfl rfl (ox_bin (pl rfl) (pl rfl) (bo_i64_add (by omega))) ?_
      refine vcS_val rfl rfl (ox_assign (pl rfl)) ?_
      refine vcS_nil ?_
      refine IW.seq ?_
      refine IW.reg hE ?_
      refine vcS_val rfl rfl (ox_assign (pl rfl)) ?_
      refine vcS_nil ?_
      refine IW.seq ?_
      refine IW.seq ?_
      refine IW.reg hE ?_
      refine vcS_val rfl rfl (ox_assign (pl rfl)) ?_
      refine vcS_nil ?_
      refine IW.block ?_
      refine IW.loop (S := Nat) (fun c => [(1, enc a), (5, .int .i64 K), (6, .int .i64 ((p : Int) + 1)), (7, .int .i64 (cntP p)), (8, .bool (pr (p + 1) c)), (9, .int .i64 ((2 + c : Nat) : Int))]) (fun c => []) (fun c => n) (fun c => c ≤ 409 ∧ ∀ j, j < c → (2 + j) * (2 + j) ≤ p + 1) (fun c => p + 1 - c) (0) (⟨by omega, fun j hj => by omega⟩) (⟨rfl, ⟨rfl, ⟨rfl, ⟨rfl, ⟨rfl, ⟨rfl, trivial⟩⟩⟩⟩⟩⟩) (fun _ _ h => h) (Nat.le_refl _) (fun c hc => ?_)
      obtain ⟨hcc1, hcc2⟩ := hc
      refine IW.seq ?_
      refine IW.seq ?_
      refine IW.reg hE ?_
      refine vcS_val rfl rfl (ox_move (pl rfl)) ?_
      refine vcS_val rfl rfl (ox_move (pl rfl)) ?_
      refine vcS_val rfl rfl (ox_bin (pl rfl) (pl rfl) (bo_i64_mul (sq_bound hcc1))) ?_
      refine vcS_val rfl rfl (ox_move (pl rfl)) ?_
      refine vcS_val rfl rfl (ox_bin (pl rfl) (pl rfl) (bo_i64_leq _ _)) ?_
      refine vcS_nil ?_
      refine IW.cond rfl (fun hc3 => ?_) (fun hc3 => ?_)
      · replace hc3 := of_decide_eq_true hc3
        have hsq := sq_in hc3
        refine IW.skip ?_
        refine IW.seq ?_
        refine IW.block ?_
        refine IW.reg hE ?_
        refine vcS_val rfl rfl (ox_move (pl rfl)) ?_
        refine vcS_val rfl rfl (ox_move (pl rfl)) ?_
        refine vcS_opt rfl (wgT rfl rfl rfl) (fun hb => ox_move (pl rfl)) ?_
        refine vcS_opt rfl (wgT rfl rfl rfl) (fun hb => ox_move (pl rfl)) ?_
        refine vcS_opt rfl (wgT rfl rfl rfl) (fun hb => ox_bin (gd hb rfl) (gd hb rfl) (bo_i64_rem (p + 1) (2 + c) (by omega) rfl (by omega))) ?_
        refine vcS_opt rfl (wgT rfl rfl rfl) (fun hb => ox_bin (gd hb rfl) (pl rfl) (bo_i64_neq _ _)) ?_
        refine vcS_val rfl rfl (ox_and (pl rfl) (fun hc => gd hc rfl) (pl rfl)) ?_
        refine vcS_val rfl rfl (ox_assign (pl rfl)) ?_
        refine vcS_nil ?_
        refine IW.nilB ?_
        refine IW.reg hE ?_
        refine vcS_val rfl rfl (ox_move (pl rfl)) ?_
        refine vcS_val rfl rfl (ox_bin (pl rfl) (pl rfl) (bo_i64_add (by omega))) ?_
        refine vcS_val rfl rfl (ox_assign (pl rfl)) ?_
        refine vcS_nil ?_
        refine IW.nilS ?_
        exact ⟨c + 1, _, _, ⟨sq_c2 hsq (by omega), fun j hj => (Nat.lt_or_ge j c).elim (hcc2 j) (fun h => by rw [show j = c by omega]; exact hsq)⟩, by have := sq_c hsq; omega, rfl, ⟨rfl, ⟨rfl, ⟨rfl, ⟨rfl, ⟨rfl, ⟨(congrArg (fun z => some (Value.int .i64 z)) (by omega)), trivial⟩⟩⟩⟩⟩⟩, rfl, fun _ _ h => h, Nat.le_refl _⟩
      · replace hc3 := of_decide_eq_false hc3
        have hlim := lim_at hcc2 (sq_out hc3) (by omega)
        refine IW.exit ?_
        refine exS (exS ?_)
        refine blkQ_exit ?_
        refine IW.seq ?_
        refine IW.reg hE ?_
        refine vcS_val rfl rfl (ox_move (pl rfl)) ?_
        refine vcS_nil ?_
        refine IW.cond rfl (fun hc4 => ?_) (fun hc4 => ?_)
        · have hcn := cntP_on hp1 (show pr (p + 1) (lim (p + 1)) = true by rw [hlim]; exact hc4)
          refine IW.reg hE ?_
          refine vcS_val rfl rfl (ox_move (pl rfl)) ?_
          refine vcS_val rfl rfl (ox_bin (pl rfl) (pl rfl) (bo_i64_add (by omega))) ?_
          refine vcS_val rfl rfl (ox_assign (pl rfl)) ?_
          refine vcS_nil ?_
          refine IW.nilB ?_
          refine IW.nilS ?_
          exact ⟨p + 1, _, _, ⟨by omega, by omega, .inr (by rw [Nat.add_sub_cancel]; omega)⟩, by omega, rfl, ⟨rfl, ⟨rfl, ⟨(congrArg (fun z => some (Value.int .i64 z)) (by omega)), ⟨(congrArg (fun z => some (Value.int .i64 z)) (by omega)), trivial⟩⟩⟩⟩, rfl, fun _ _ h => h, Nat.le_refl _⟩
        · have hcn := cntP_off (show pr (p + 1) (lim (p + 1)) = false by rw [hlim]; exact hc4)
          refine IW.skip ?_
          refine IW.nilB ?_
          refine IW.nilS ?_
          exact ⟨p + 1, _, _, ⟨by omega, by omega, .inr (by rw [Nat.add_sub_cancel]; omega)⟩, by omega, rfl, ⟨rfl, ⟨rfl, ⟨(congrArg (fun z => some (Value.int .i64 z)) (by omega)), ⟨(congrArg (fun z => some (Value.int .i64 z)) (by omega)), trivial⟩⟩⟩⟩, rfl, fun _ _ h => h, Nat.le_refl _⟩
    · replace hc2 := of_decide_eq_false hc2
      obtain ⟨hw1, hw2⟩ := words hp1 hp2 (by omega) hp3
      refine IW.exit ?_
      refine exS (exS ?_)
      refine blkQ_exit ?_
      refine IW.seq ?_
      refine IW.reg hE ?_
      refine vcS_val rfl rfl (ox_fn rfl rfl (fn0_ev _ _ _)) ?_
      refine vcS_val rfl rfl (ox_fn rfl rfl (fn0_ev _ _ _)) ?_
      refine vcS_new rfl rfl (ox_allocZ (cs := encs (Vector.replicate 80 (0 : UInt64)).toList) D_48 rfl) (.inl (by omega)) ?_
      refine vcS_new rfl rfl (ox_allocZ (cs := encs (Vector.replicate 8 (0 : UInt64)).toList) D_50 rfl) (.inl (by omega)) ?_
      refine vcS_sto rfl rfl (ox_store (pl rfl) (pl rfl) D_48 (hp_sk (by omega) (hp_eq _ _ _ _)) rfl (encs_vec_length _) (le_vec _ rfl) (encs_known _) (wr_all (by simp only [encs_vec_length]))) (.inl (by omega)) ?_
      refine vcS_sto rfl rfl (ox_store (pl rfl) (pl rfl) D_50 (hp_sk (by omega) (hp_eq _ _ _ _)) rfl (encs_vec_length _) (le_vec _ rfl) (encs_known _) (wr_all (by simp only [encs_vec_length]))) (.inl (by omega)) ?_
      refine vcS_nil ?_
      refine IW.seq ?_
      refine IW.seq ?_
      refine IW.drw hE mixed [[],[0],[0,1],[],[3],[3,4],[0,1,2,3,4,5],[0,1,2,3,4,5,6],[0,1,2,3,4,5,6,7],[0,1,2,3,4,5,6,7,8],[0,1,2,3,4,5,6,7,8,9],[0,1,2,3,4,5,6,7,8,9,10],[0,1,2,3,4,5,6,7,8,9,10,11],[0,1,2,3,4,5,6,7,8,9,10,11,12],[0,1,2,3,4,5,6,7,8,9,10],[0,1,2,3,4,5,6,7,8,9,10,14],[0,1,2,3,4,5,6,7,8,9,10,14,15],[0,1,2,3,4,5,6,7,8,9,10,11,12,13,14,15,16],[0,1,2,3,4,5,6,7,8,9,10,11,12,13,14,15,16,17],[0,1,2,3,4,5,6,7,8,9,10,11,12,13,14,15,16,17,18]] (by kernel_rfl) (vcE_start ?_)
      refine vcE_bl rfl rfl (fun _ => ox_move (pl rfl)) rfl rfl ?_
      refine vcE_bl rfl rfl (fun _ => ox_iaA (pl rfl) (pl rfl) D_48 rfl D_22 (by omega) (by omega)) rfl rfl ?_
      refine vcE_val rfl rfl rfl rfl (ox_load (pl rfl) D_22 (hp_sk (by omega) (hp_eq _ _ _ _)) (rd_ix (K) (0 : UInt64) rfl (by simp) ((show K < 80 by omega)))) rfl (si_load (pl rfl)) (lt1 (by omega)) (trivial) ?_
      refine vcE_bl rfl rfl (fun _ => ox_move (pl rfl)) rfl rfl ?_
      refine vcE_bl rfl rfl (fun _ => cv_i_6 p (pl rfl) D_3 D_22 rfl rfl) rfl rfl ?_
      refine vcE_call rfl rfl rfl rfl (ox_fn rfl rfl (fn1_ev _ _ _ _)) rfl ltu0 (trivial) ?_
      refine vcE_bl rfl rfl (fun _ => ox_bin (pl rfl) (pl rfl) ((bo_u64_neq _ _).trans (ne_eqf64 hw1))) rfl rfl ?_
      refine vcE_bl rfl rfl (fun _ => ox_move (pl rfl)) rfl rfl ?_
      refine vcE_known (wgF rfl rfl rfl) rfl ?_
      refine vcE_bl rfl rfl (fun _ => ox_move (pl rfl)) rfl rfl ?_
      refine vcE_known (wgF rfl rfl rfl) rfl ?_
      refine vcE_bl rfl rfl (fun _ => ox_bin (pl rfl) (pl rfl) (bo_i64_lss _ _)) rfl rfl ?_
      refine vcE_known (wgF rfl rfl rfl) rfl ?_
      refine vcE_bl rfl rfl (fun _ => ox_move (pl rfl)) rfl rfl ?_
      refine vcE_opt rfl (wgT rfl rfl rfl) rfl rfl (fun hb => ox_move (pl rfl)) (fun hb => vi_bl rfl rfl) hf0 (trivial) ?_
      refine vcE_opt rfl (wgT rfl rfl rfl) rfl rfl (fun hb => ox_iaA (pl rfl) (gd hb rfl) D_50 rfl D_22 (by omega) (by have := of_decide_eq_true hb; omega)) (fun hb => vi_bl rfl rfl) hf0 (trivial) ?_
      refine vcE_opt rfl (wgT rfl rfl rfl) rfl rfl (fun hb => ox_load (gd hb rfl) D_22 (hp_eq _ _ _ _) (rd_ix (K) (0 : UInt64) rfl (by simp) ((show K < 8 by have := of_decide_eq_true hb; omega)))) (fun hb => vi_load (gd hb rfl)) (hf1 (by omega)) (trivial) ?_
      refine vcE_opt rfl (wgT rfl rfl rfl) rfl rfl (fun hb => ox_move (pl rfl)) (fun hb => vi_bl rfl rfl) hf0 (trivial) ?_
      refine vcE_opt rfl (wgT rfl rfl rfl) rfl rfl (fun hb => cv_i_6 p (gd hb rfl) D_3 D_22 rfl rfl) (fun hb => vi_cvI (gd hb rfl)) hf0 (trivial) ?_
      refine vcE_opt rfl (wgT rfl rfl rfl) rfl rfl (fun hb => ox_fnG rfl (mp_cons (gd hb rfl) mp_nil) (fn1_ev _ _ _ _)) (fun hb => vi_call rfl) hfa0 (trivial) ?_
      refine vcE_opt rfl (wgT rfl rfl rfl) rfl rfl (fun hb => ox_bin (gd hb rfl) (gd hb rfl) (bo_u64_neq _ _)) (fun hb => vi_bl rfl rfl) hf0 (trivial) ?_
      refine vcE_known (wgF rfl rfl rfl) rfl ?_
      refine vcE_bl rfl rfl (fun _ => ox_and (pl rfl) (fun hc => gd hc rfl) (pl rfl)) rfl rfl ?_
      refine vcE_bl rfl rfl (fun _ => ox_or (pl rfl) (pl rfl) (fun hc => pl rfl)) rfl rfl ?_
      refine vcE_nil ?_
      refine IW.cond rfl (fun hc5 => ?_) (fun hc5 => ?_)
      · simp only [Bool.false_or, Bool.and_eq_true, bne_iff_ne, decide_eq_true_eq] at hc5; exact absurd (hw2 (by omega)) hc5.2
      · refine IW.skip ?_
        refine IW.seq ?_
        refine IW.reg hE ?_
        refine vcS_val rfl rfl (ox_move (pl rfl)) ?_
        refine vcS_val rfl rfl (cv_32_6 (pl rfl) D_54 D_22 rfl) ?_
        refine vcS_val rfl rfl (ox_fn rfl rfl (fn1_ev _ _ _ _)) ?_
        refine vcS_val rfl rfl (ox_move (pl rfl)) ?_
        refine vcS_val rfl rfl (cv_32_6 (pl rfl) D_54 D_22 rfl) ?_
        refine vcS_val rfl rfl (ox_fn rfl rfl (fn1_ev _ _ _ _)) ?_
        refine vcS_val rfl rfl (ox_bin (pl rfl) (pl rfl) (bo_u64_eql _ _)) ?_
        refine vcS_val rfl rfl (ox_move (pl rfl)) ?_
        refine vcS_opt rfl (wgT rfl rfl rfl) (fun hb => ox_move (pl rfl)) ?_
        refine vcS_opt rfl (wgT rfl rfl rfl) (fun hb => cv_32_6 (gd hb rfl) D_54 D_22 rfl) ?_
        refine vcS_opt rfl (wgT rfl rfl rfl) (fun hb => ox_fnG rfl (mp_cons (gd hb rfl) mp_nil) (fn1_ev _ _ _ _)) ?_
        refine vcS_opt rfl (wgT rfl rfl rfl) (fun hb => ox_move (pl rfl)) ?_
        refine vcS_opt rfl (wgT rfl rfl rfl) (fun hb => cv_32_6 (gd hb rfl) D_54 D_22 rfl) ?_
        refine vcS_opt rfl (wgT rfl rfl rfl) (fun hb => ox_fnG rfl (mp_cons (gd hb rfl) mp_nil) (fn1_ev _ _ _ _)) ?_
        refine vcS_opt rfl (wgT rfl rfl rfl) (fun hb => ox_bin (gd hb rfl) (gd hb rfl) (bo_u64_eql _ _)) ?_
        refine vcS_val rfl rfl (ox_and (pl rfl) (fun hc => gd hc rfl) (pl rfl)) ?_
        refine vcS_val rfl rfl (ox_assign (pl rfl)) ?_
        refine vcS_nil ?_
        refine IW.ret ?_
        exact RetP.ret (.inr rfl) rfl rfl trivial (congrArg Value.bool (by simp))
end Go.Proofs.Ytdnnojblneccdaa
