/-
  Blocks: Compare; lists of digests.
-/
import Derived.Test.YtdnnojblneccdaaC2
import Derived.Test.YtdnnojblneccdaaE30
namespace Go.Proofs.Ytdnnojblneccdaa
set_option linter.unusedSimpArgs false
set_option linter.unusedVariables false
open Go
open Enc (enc)
set_option maxRecDepth 100000

abbrev Dig := Vector UInt8 32
instance : Row Block := ⟨Block.cells, 131, by decide, Block.cells_length, fun _ _ h => Block.cells_inj h, Block.cells_known, fun _ => rfl⟩
noncomputable def F19 : FnI := fn2 fun (a b : Dig) => .int .i64 (cmpL a.toList b.toList)
-- headwater/block.Compare ['Vector UInt8 32', 'Vector UInt8 32'] -> ['Int'], results [4]
theorem R19 : Ref Try.prog 19 F19 := by
  refine Ref.of_iw dok Try.func19 rfl (by kernel_rfl) fun args H n e hF => ?_
  obtain ⟨a, b, rfl, rfl⟩ := fn2_inv hF
  refine ⟨Nat.le_of_ble_eq_true rfl, ?_⟩
  simp only [idxL]
  have hE : Env Try.prog [(62, F62)] D K := env (fnsOk_cons R62 fnsOk_nil)
  refine IW.seq ?_
  refine IW.reg hE ?_
  refine vcS_new rfl rfl (ox_box (pl rfl) rfl) (.inl (by omega)) ?_
  refine vcS_new rfl rfl (ox_box (pl rfl) rfl) (.inl (by omega)) ?_
  refine vcS_val rfl rfl (ox_assign (pl rfl)) ?_
  refine vcS_nil ?_
  refine IW.seq ?_
  refine IW.drw hE mixed [[],[],[0,1],[0,1,2]] (by kernel_rfl) (vcE_start ?_)
  refine vcE_bl rfl rfl (fun _ => ox_slAll (pl rfl) D_24 rfl D_5) rfl rfl ?_
  refine vcE_bl rfl rfl (fun _ => ox_slAll (pl rfl) D_24 rfl D_5) rfl rfl ?_
  refine vcE_call rfl rfl rfl rfl (ox_fn rfl rfl (F82_ev (rs_all (hp_sk (by omega) (hp_eq _ _ _ _)) rfl (by simp)) (rs_all (hp_eq _ _ _ _) rfl (by simp)))) rfl ltu0 (trivial) ?_
  refine vcE_bl rfl rfl (fun _ => ox_assign (pl rfl)) rfl rfl ?_
  refine vcE_nil ?_
  refine IW.ret ?_
  exact RetP.ret (.inr rfl) rfl rfl trivial (rfl)
/-- two lists of digests -/
noncomputable def F23 : FnI := fun args H n => match args with
  | [x, y] => (rdC H x).bind fun (a : List Dig) => (rdC H y).bind fun (b : List Dig) => if a.length ≤ 2 ^ 47 then some ⟨.bool (a == b), [], n⟩ else none
  | _ => none
theorem F23_inv {args : List Value} {H : IHeap} {n : Nat} {e : Eff} (h : F23 args H n = some e) : ∃ xa xc ya yc, ∃ a b : List Dig, args = [.slice xa a.length xc, .slice ya b.length yc] ∧ rdC H (.slice xa a.length xc) = some a ∧ rdC H (.slice ya b.length yc) = some b ∧ a.length ≤ 2 ^ 47 ∧ e = ⟨.bool (a == b), [], n⟩ := by
  unfold F23 at h; split at h
  · simp only [Option.bind_eq_some_iff] at h
    obtain ⟨a, ha, b, hb, h⟩ := h
    split at h
    · rename_i hle
      cases h
      obtain ⟨xa, xc, rfl⟩ := rdC_len ha
      obtain ⟨ya, yc, rfl⟩ := rdC_len hb
      exact ⟨xa, xc, ya, yc, a, b, rfl, ha, hb, hle, rfl⟩
    · cases h
  · cases h
theorem F23_ev {x y : Value} {H : IHeap} {n : Nat} {a b : List Dig} (ha : rdC H x = some a) (hb : rdC H y = some b) (hle : a.length ≤ 2 ^ 47) : F23 [x, y] H n = some ⟨.bool (a == b), [], n⟩ := by
  simp only [F23, ha, hb, Option.bind_some, if_pos hle]
theorem beq_ne {a b : List Dig} (h : ¬ a = b) : (a == b) = false := by simpa using h
theorem beq_take {a b : List Dig} {s : Nat} (hab : a.length = b.length) (h : a.take s = b.take s) (hs : a.length ≤ s) : (a == b) = true := by
  rw [List.take_of_length_le hs, List.take_of_length_le (by omega)] at h
  simpa using h
theorem take_next {a b : List Dig} {s : Nat} (h : a.take s = b.take s) (h1 : s < a.length) (h2 : s < b.length) (h3 : a[s] = b[s]) : a.take (s + 1) = b.take (s + 1) := by
  rw [List.take_succ_eq_append_getElem h1, List.take_succ_eq_append_getElem h2, h, h3]
-- headwater/headwaterkit.Digests ['Sl', 'Sl'] -> ['Bool'], results [4]
theorem R23 : Ref Try.prog 23 F23 := by
  refine Ref.of_iw dok Try.func23 rfl (by kernel_rfl) fun args H n e hF => ?_
  obtain ⟨xa, xc, ya, yc, a, b, rfl, ha, hb, hle, rfl⟩ := F23_inv hF
  refine ⟨Nat.le_of_ble_eq_true rfl, ?_⟩
  simp only [idxL]
  have hE : Env Try.prog [] D K := env fnsOk_nil
  refine IW.seq ?_
  refine IW.reg hE ?_
  refine vcS_val rfl rfl (ox_assign (pl rfl)) ?_
  refine vcS_nil ?_
  refine IW.seq ?_
  refine IW.seq ?_
  refine IW.reg hE ?_
  refine vcS_val rfl rfl (ox_move (pl rfl)) ?_
  refine vcS_val rfl rfl (ox_len (pl rfl) D_34 rfl) ?_
  refine vcS_val rfl rfl (ox_move (pl rfl)) ?_
  refine vcS_val rfl rfl (ox_len (pl rfl) D_34 rfl) ?_
  refine vcS_val rfl rfl (ox_bin (pl rfl) (pl rfl) (bo_i64_neq _ _)) ?_
  refine vcS_nil ?_
  refine IW.cond rfl (fun hc1 => ?_) (fun hc1 => ?_)
  · refine IW.seq ?_
    refine IW.reg hE ?_
    refine vcS_val rfl rfl (ox_assign (pl rfl)) ?_
    refine vcS_nil ?_
    refine IW.ret ?_
    exact RetP.ret (.inr rfl) rfl rfl trivial (by rw [beq_ne (fun e => by subst e; simp at hc1)])
  · have hab : a.length = b.length := by have := bne_eq_false_iff_eq.1 hc1; omega
    refine IW.skip ?_
    refine IW.seq ?_
    refine IW.seq ?_
    refine IW.reg hE ?_
    refine vcS_val rfl rfl (ox_assign (pl rfl)) ?_
    refine vcS_nil ?_
    refine IW.block ?_
    refine IW.loop (S := Nat) (fun s => [(0, .slice xa a.length xc), (1, .slice ya b.length yc), (5, .int .i64 s)]) (fun s => []) (fun s => n) (fun s => s ≤ a.length ∧ a.take s = b.take s) (fun s => a.length - s) (0) (by simp) (⟨rfl, ⟨rfl, ⟨rfl, trivial⟩⟩⟩) (fun _ _ h => h) (Nat.le_refl _) (fun s hs => ?_)
    obtain ⟨hs1, hs2⟩ := hs
    refine IW.seq ?_
    refine IW.seq ?_
    refine IW.reg hE ?_
    refine vcS_val rfl rfl (ox_move (pl rfl)) ?_
    refine vcS_val rfl rfl (ox_move (pl rfl)) ?_
    refine vcS_val rfl rfl (ox_len (pl rfl) D_34 rfl) ?_
    refine vcS_val rfl rfl (ox_bin (pl rfl) (pl rfl) (bo_i64_lss _ _)) ?_
    refine vcS_nil ?_
    refine IW.cond rfl (fun hc2 => ?_) (fun hc2 => ?_)
    · replace hc2 := of_decide_eq_true hc2
      have hc2 : s < a.length := by omega
      have hc2b : s < b.length := by omega
      obtain ⟨i1, o1, p1, c1, r1, e1, m1, l1⟩ := rdC_at ha hc2
      obtain ⟨i2, o2, p2, c2, r2, e2, m2, l2⟩ := rdC_at hb hc2b
      subst e1
      subst e2
      refine IW.lt (by simp) (id := i1) m1 (fun hi1 => ?_)
      refine IW.lt (by simp) (id := i2) m2 (fun hi2 => ?_)
      refine IW.skip ?_
      refine IW.seq ?_
      refine IW.block ?_
      refine IW.seq ?_
      refine IW.drw hE mixed [[],[],[0,1],[0,1,2],[],[],[4,5],[4,5,6],[0,1,2,3,4,5,6,7]] (by kernel_rfl) (vcE_start ?_)
      refine vcE_bl rfl rfl (fun _ => ox_move (pl rfl)) rfl rfl ?_
      refine vcE_bl rfl rfl (fun _ => ox_move (pl rfl)) rfl rfl ?_
      refine vcE_bl rfl rfl (fun _ => ox_iaS (pl rfl) (pl rfl) D_34 rfl D_24 (by omega) (by omega)) rfl rfl ?_
      refine vcE_val rfl rfl rfl rfl (ox_load (pl rfl) D_24 m1 (rd_cel l1 hc2 rfl rfl rfl)) rfl (si_load (pl rfl)) (lt1 (by omega)) (trivial) ?_
      refine vcE_bl rfl rfl (fun _ => ox_move (pl rfl)) rfl rfl ?_
      refine vcE_bl rfl rfl (fun _ => ox_move (pl rfl)) rfl rfl ?_
      refine vcE_bl rfl rfl (fun _ => ox_iaS (pl rfl) (pl rfl) D_34 rfl D_24 (by omega) (by omega)) rfl rfl ?_
      refine vcE_val rfl rfl rfl rfl (ox_load (pl rfl) D_24 m2 (rd_cel l2 hc2b rfl rfl rfl)) rfl (si_load (pl rfl)) (lt1 (by omega)) (trivial) ?_
      refine vcE_bl rfl rfl (fun _ => ox_bin (pl rfl) (pl rfl) (ne_vec K_24 cellEq_u8 _ _)) rfl rfl ?_
      refine vcE_nil ?_
      refine IW.cond rfl (fun hc3 => ?_) (fun hc3 => ?_)
      · have hc3 : ¬ a[s] = b[s] := by simpa using hc3
        refine IW.seq ?_
        refine IW.reg hE ?_
        refine vcS_val rfl rfl (ox_assign (pl rfl)) ?_
        refine vcS_nil ?_
        refine IW.ret ?_
        refine retB ?_
        refine retS (retS ?_)
        refine retB ?_
        exact RetP.ret (.inr rfl) rfl rfl trivial (by rw [beq_ne (fun e => by subst e; exact hc3 rfl)])
      · have hc3 : a[s] = b[s] := by simpa using hc3
        refine IW.skip ?_
        refine IW.nilB ?_
        refine IW.reg hE ?_
        refine vcS_val rfl rfl (ox_move (pl rfl)) ?_
        refine vcS_val rfl rfl (ox_bin (pl rfl) (pl rfl) (bo_i64_add (by omega))) ?_
        refine vcS_val rfl rfl (ox_assign (pl rfl)) ?_
        refine vcS_nil ?_
        refine IW.nilS ?_
        exact ⟨s + 1, _, _, ⟨by omega, take_next hs2 hc2 hc2b hc3⟩, by omega, rfl, ⟨rfl, ⟨rfl, ⟨rfl, trivial⟩⟩⟩, rfl, fun _ _ h => h, Nat.le_refl _⟩
    · replace hc2 := of_decide_eq_false hc2
      refine IW.exit ?_
      refine exS (exS ?_)
      refine blkQ_exit ?_
      refine IW.seq ?_
      refine IW.reg hE ?_
      refine vcS_val rfl rfl (ox_assign (pl rfl)) ?_
      refine vcS_nil ?_
      refine IW.ret ?_
      exact RetP.ret (.inr rfl) rfl rfl trivial (by rw [beq_take hab hs2 (by omega)])
end Go.Proofs.Ytdnnojblneccdaa
