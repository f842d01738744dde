/-
  Parents, OwnBlock.
-/
import Derived.Test.YtdnnojblneccdaaB7
namespace Go.Proofs.Ytdnnojblneccdaa
set_option linter.unusedSimpArgs false
set_option linter.unusedVariables false
open Go
open Enc (enc)
open Row (cel)
set_option maxRecDepth 100000

/-! fresh slices -/
theorem freshE_eq {α : Type} [Row α] (n : Nat) (l : List α) : freshE n l = ⟨enc (slF n (Row.sz α) l.length), [(n, some (.cells (cels l) false))], n + 1⟩ := by
  unfold freshE freshV slF spV
  by_cases h : l.length = 0
  · rw [if_pos h, h]; rfl
  · rw [if_neg h, if_neg h]; rfl
theorem copyF_ev' {α : Type} [Row α] {bytes : Nat} {x : Value} {H : IHeap} {n : Nat} {l : List α} (hl : rdC H x = some l) (hle : l.length * bytes ≤ most) : copyF α bytes [x] H n = some ⟨enc (slF n (Row.sz α) l.length), [(n, some (.cells (cels l) false))], n + 1⟩ := by
  rw [copyF_ev hl hle, freshE_eq]
theorem concE_eq {α : Type} [Row α] {n : Nat} {l : List α} (h : l.length ≠ 0) : concE n l = ⟨enc (slF n (Row.sz α) l.length), [(n, some (.cells (cels l) false))], n + 1⟩ := by
  rw [concE_pos h]; unfold slF spV; rw [if_neg h]; rfl

/-- what a block leads to -/
def parL (b : Block) (l : List Dig) : List Dig := if (b.seq == 0) = true then l else b.prev :: l
def parE (b : Block) (l : List Dig) (n : Nat) : Eff := if ((b.seq == 0) && b.links.a.isNone) = true then ⟨.slice none 0 0, [], n⟩ else ⟨enc (slF n 32 (parL b l).length), [(n, some (.cells (cels (parL b l)) false))], n + 1⟩
noncomputable def F21 : FnI := fun args H n => match args with
  | [x] => (dec x).bind fun (b : Block) => (rdC H (enc b.links)).bind fun (l : List Dig) => if l.length ≤ 2 ^ 40 then some (parE b l n) else none
  | _ => none
theorem F21_inv {args : List Value} {H : IHeap} {n : Nat} {e : Eff} (h : F21 args H n = some e) : ∃ b : Block, ∃ l : List Dig, args = [enc b] ∧ rdC H (enc b.links) = some l ∧ l.length ≤ 2 ^ 40 ∧ e = parE b l n := by
  unfold F21 at h; split at h
  · simp only [Option.bind_eq_some_iff] at h
    obtain ⟨b, hb, l, hl, h⟩ := h
    split at h
    · rename_i hle; cases h
      exact ⟨b, l, by rw [dec_some hb], hl, hle, rfl⟩
    · cases h
  · cases h
theorem F21_ev {H : IHeap} {n : Nat} {b : Block} {l : List Dig} (hl : rdC H (enc b.links) = some l) (hle : l.length ≤ 2 ^ 40) : F21 [enc b] H n = some (parE b l n) := by
  simp only [F21, dec_enc, Option.bind_some, hl]
  rw [if_pos hle]
theorem F64_nil {H : IHeap} {n : Nat} {b : Block} {l : List Dig} (hl : rdC H (enc b.links) = some l) (ha : b.links.a = none) : F64 [enc b.links] H n = some ⟨.slice none 0 0, [], n⟩ := by
  have e : enc b.links = Value.slice none b.links.len b.links.cap := by
    show Value.slice b.links.a _ _ = _
    rw [ha]
  rw [e] at hl ⊢
  rcases rdC_inv hl with ⟨_, h2, h3, _⟩ | ⟨_, _, _, _, _, h, _⟩
  · rw [h2, h3]; rfl
  · cases h
theorem F64_some {H : IHeap} {n : Nat} {b : Block} {l : List Dig} {a : Addr} (hl : rdC H (enc b.links) = some l) (hle : l.length * 32 ≤ most) (ha : b.links.a = some a) : F64 [enc b.links] H n = some ⟨enc (slF n 32 l.length), [(n, some (.cells (cels l) false))], n + 1⟩ := by
  have e : enc b.links = Value.slice (some a) b.links.len b.links.cap := by
    show Value.slice b.links.a _ _ = _
    rw [ha]
  have := copyF_ev' (bytes := 32) (n := n) hl hle
  rw [e] at this ⊢
  exact this
theorem parE_nil {b : Block} {l : List Dig} {n : Nat} (h1 : (b.seq == 0) = true) (h2 : b.links.a = none) : parE b l n = ⟨.slice none 0 0, [], n⟩ := by
  unfold parE; rw [h1, h2]; rfl
theorem parE_some {b : Block} {l : List Dig} {a : Addr} {n : Nat} (h1 : (b.seq == 0) = true) (h2 : b.links.a = some a) : parE b l n = ⟨enc (slF n 32 l.length), [(n, some (.cells (cels l) false))], n + 1⟩ := by
  unfold parE parL; rw [h1, h2]; rfl
theorem parE_prev {b : Block} {l : List Dig} {n : Nat} (h1 : (b.seq == 0) = false) : parE b l n = ⟨enc (slF n 32 (b.prev :: l).length), [(n, some (.cells (cels (b.prev :: l)) false))], n + 1⟩ := by
  unfold parE parL; rw [h1]; rfl
theorem rdC_1 {H : IHeap} {id cap : Nat} {sp : Option Nat} {ro : Bool} {x : Dig} (hH : H id = some (.cells (encs x.toList) ro)) : rdC H (.slice (some ⟨id, 0, sp⟩) 1 cap) = some [x] := by
  refine rdC_all (ro := ro) ?_ rfl
  rw [hH, cels_cons, cels_nil, List.append_nil]; rfl
theorem rdL_2 {H : IHeap} {s1 s2 : Sl} {a b : List Dig} (h1 : rdC H (enc s1) = some a) (h2 : rdC H (enc s2) = some b) : rdL Dig H [s1, s2] = some [a, b] := by
  simp only [rdL, h1, h2]
-- headwater/block.Parents ['Block'] -> ['Sl'], results [2]
theorem R21 : Ref Try.prog 21 F21 := by
  refine Ref.of_iw dok Try.func21 rfl (by kernel_rfl) fun args H n e hF => ?_
  obtain ⟨b, l, rfl, hl, hle, rfl⟩ := F21_inv hF
  have hmo : (l.length + 1) * 32 ≤ most := by simp only [most]; omega
  refine ⟨Nat.le_of_ble_eq_true rfl, ?_⟩
  simp only [idxL]
  have hE : Env Try.prog [(64, F64), (65, F65)] D K := env (fnsOk_cons R64 (fnsOk_cons R65 fnsOk_nil))
  refine IW.seq ?_
  refine IW.free (by simp) (fun hfree => ?_)
  refine IW.reg hE ?_
  refine vcS_new rfl rfl (ox_box (pl rfl) (cellsOf_Block _)) (.inl (by omega)) ?_
  refine vcS_val rfl rfl (ox_assign (pl rfl)) ?_
  refine vcS_nil ?_
  refine IW.seq ?_
  refine IW.seq ?_
  refine IW.reg hE ?_
  refine vcS_val rfl rfl (ox_fieldAddr (pl rfl) D_37 rfl rfl D_22 (by decide)) ?_
  refine vcS_val rfl rfl (ox_load (pl rfl) D_22 (hp_eq _ _ _ _) (rd_37_1 _ rfl)) ?_
  refine vcS_val rfl rfl (ox_bin (pl rfl) (pl (v := enc (0 : UInt64)) rfl) (bo_u64_eql _ _)) ?_
  refine vcS_nil ?_
  refine IW.cond rfl (fun hc1 => ?_) (fun hc1 => ?_)
  · refine IW.seq ?_
    cases ha : b.links.a
    · refine IW.reg hE ?_
      refine vcS_val rfl rfl (ox_fieldAddr (pl rfl) D_37 rfl rfl D_34 (by decide)) ?_
      refine vcS_val rfl rfl (ox_load (pl rfl) D_34 (hp_eq _ _ _ _) (rd_37_3 _ rfl)) ?_
      refine vcS_ups rfl rfl (ox_fn rfl rfl (F64_nil (rdC_keep hfree hl (by exact ⟨by omega, trivial⟩)) ha)) rfl trivial ?_
      refine vcS_val rfl rfl (ox_assign (pl rfl)) ?_
      refine vcS_nil ?_
      refine IW.ret ?_
      rw [parE_nil hc1 ha]; exact RetP.ret (.inr rfl) rfl rfl trivial rfl
    · rename_i a0
      refine IW.reg hE ?_
      refine vcS_val rfl rfl (ox_fieldAddr (pl rfl) D_37 rfl rfl D_34 (by decide)) ?_
      refine vcS_val rfl rfl (ox_load (pl rfl) D_34 (hp_eq _ _ _ _) (rd_37_3 _ rfl)) ?_
      refine vcS_ups rfl rfl (ox_fn rfl rfl (F64_some (rdC_keep hfree hl (by exact ⟨by omega, trivial⟩)) (by omega) ha)) rfl ⟨.inl (by omega), trivial⟩ ?_
      refine vcS_val rfl rfl (ox_assign (pl rfl)) ?_
      refine vcS_nil ?_
      refine IW.ret ?_
      rw [parE_some hc1 ha]; exact RetP.new1 (.inr rfl) (ires_tmp rfl) (by omega) (hp_eq _ _ _ _) (dig_plain _)
  · refine IW.skip ?_
    refine IW.seq ?_
    refine IW.reg hE ?_
    refine vcS_val rfl rfl (ox_fieldAddr (pl rfl) D_37 rfl rfl D_24 (by decide)) ?_
    refine vcS_val rfl rfl (ox_load (pl rfl) D_24 (hp_eq _ _ _ _) (rd_37_2 _ rfl rfl)) ?_
    refine vcS_new rfl rfl (ox_bsl (cs := encs b.prev.toList) D_34 rfl D_24 (Nat.le_of_ble_eq_true rfl) rfl (fill_cons rfl rfl (encs_vec_length _) (Nat.le_of_ble_eq_true rfl) (wr_all (by rw [encs_vec_length]; rfl)) fill_nil)) (.inl (by omega)) ?_
    refine vcS_val rfl rfl (ox_fieldAddr (pl rfl) D_37 rfl rfl D_34 (by decide)) ?_
    refine vcS_val rfl rfl (ox_load (pl rfl) D_34 (hp_sk (by omega) (hp_eq _ _ _ _)) (rd_37_3 _ rfl)) ?_
    refine vcS_new rfl rfl (ox_bsl (cs := cels [⟨some ⟨n + 1, 0, none⟩, 1, 1⟩, b.links]) D_113 rfl D_34 (Nat.le_of_ble_eq_true rfl) rfl rfl) (.inl (by omega)) ?_
    refine vcS_ups rfl rfl (ox_fn rfl rfl ((concF_ev (l := b.prev :: l) (S := [⟨some ⟨n + 1, 0, none⟩, 1, 1⟩, b.links]) (rdC_all (hp_eq _ _ _ _) rfl) (rdL_2 (rdC_1 (hp_sk (by omega) (hp_eq _ _ _ _))) (rdC_keep hfree hl (by exact ⟨by omega, ⟨by omega, ⟨by omega, trivial⟩⟩⟩))) (Nat.le_of_ble_eq_true rfl) (by simp) hmo).trans (congrArg some (concE_eq (by simp))))) rfl ⟨.inl (by omega), trivial⟩ ?_
    refine vcS_val rfl rfl (ox_assign (pl rfl)) ?_
    refine vcS_nil ?_
    refine IW.ret ?_
    rw [parE_prev hc1]; exact RetP.new1 (.inr rfl) (ires_tmp rfl) (by omega) (hp_eq _ _ _ _) (dig_plain _)
/-! a block with other numbers -/
theorem u8_ren (g : Nat → Nat) (l : List UInt8) : (encs l).map (ren1 g) = encs l := by
  simp only [encs, List.map_map]
  exact List.map_congr_left fun _ _ => rfl
theorem u8_ok {p : Nat → Prop} {l : List UInt8} : ∀ x ∈ encs l, okN1 p x := fun x hx => by
  simp only [encs, List.mem_map] at hx
  obtain ⟨_, _, rfl⟩ := hx; trivial
theorem Block.ren (g : Nat → Nat) (b : Block) : Ytdnnojblneccdaa.ren g (enc b) = enc { b with links := renSl g b.links, data := renSl g b.data } := by
  show Value.agg (b.cells.toArray.map (ren1 g)) = Value.agg (Block.cells _).toArray
  simp only [Block.cells, List.map_toArray, List.map_append, u8_ren, List.map_cons, List.map_nil, ren_sl]
  rfl
theorem Block.ok {p : Nat → Prop} {b : Block} (h1 : okSl p b.links) (h2 : okSl p b.data) : okN p (enc b) := by
  show ∀ x ∈ b.cells.toArray.toList, okN1 p x
  simp only [Block.cells, List.mem_append, List.mem_singleton]
  rintro x (h | rfl | h | rfl | rfl | h)
  · exact u8_ok x h
  · trivial
  · exact u8_ok x h
  · exact ok_sl h1
  · exact ok_sl h2
  · exact u8_ok x h
noncomputable def F22 : FnI := fun args H n => match args with
  | [x] => (dec x).bind fun (b : Block) => (rdC H (enc b.links)).bind fun (l : List Dig) => (rdC H (enc b.data)).bind fun (d : List UInt8) => if l.length ≤ 2 ^ 40 ∧ d.length ≤ 2 ^ 40 then
      some ⟨enc { b with links := slF n 32 l.length, data := slF (n + 1) 1 d.length }, [(n, some (.cells (cels l) false)), (n + 1, some (.cells (cels d) false))], n + 2⟩ else none
  | _ => none
theorem F22_inv {args : List Value} {H : IHeap} {n : Nat} {e : Eff} (h : F22 args H n = some e) : ∃ b : Block, ∃ l : List Dig, ∃ d : List UInt8, args = [enc b] ∧ rdC H (enc b.links) = some l ∧ rdC H (enc b.data) = some d ∧ l.length ≤ 2 ^ 40 ∧ d.length ≤ 2 ^ 40 ∧
    e = ⟨enc { b with links := slF n 32 l.length, data := slF (n + 1) 1 d.length }, [(n, some (.cells (cels l) false)), (n + 1, some (.cells (cels d) false))], n + 2⟩ := by
  unfold F22 at h; split at h
  · simp only [Option.bind_eq_some_iff] at h
    obtain ⟨b, hb, l, hl, d, hd, h⟩ := h
    split at h
    · rename_i hle; cases h
      exact ⟨b, l, d, by rw [dec_some hb], hl, hd, hle.1, hle.2, rfl⟩
    · cases h
  · cases h
theorem F22_ev {H : IHeap} {n : Nat} {b : Block} {l : List Dig} {d : List UInt8} (hl : rdC H (enc b.links) = some l) (hd : rdC H (enc b.data) = some d) (h1 : l.length ≤ 2 ^ 40) (h2 : d.length ≤ 2 ^ 40) :
    F22 [enc b] H n = some ⟨enc { b with links := slF n 32 l.length, data := slF (n + 1) 1 d.length }, [(n, some (.cells (cels l) false)), (n + 1, some (.cells (cels d) false))], n + 2⟩ := by
  simp only [F22, dec_enc, Option.bind_some, hl, hd]
  rw [if_pos ⟨h1, h2⟩]
theorem renSl_slF {n m sz k : Nat} {g : Nat → Nat} (h : g n = m) : renSl g (slF n sz k) = slF m sz k := by
  subst h; rfl
theorem okSl_slF {n sz k : Nat} {p : Nat → Prop} (h : p n) : okSl p (slF n sz k) := fun a e => by cases e; exact h
-- headwater/headwaterkit.OwnBlock ['Block'] -> ['Block'], results [[2, 37]]
theorem R22 : Ref Try.prog 22 F22 := by
  refine Ref.of_iw dok Try.func22 rfl (by kernel_rfl) fun args H n e hF => ?_
  obtain ⟨b, l, d, rfl, hl, hd, h1, h2, rfl⟩ := F22_inv hF
  refine ⟨Nat.le_of_ble_eq_true rfl, ?_⟩
  simp only [idxL]
  have hE : Env Try.prog [(36, F36), (66, F66)] D K := env (fnsOk_cons R36 (fnsOk_cons R66 fnsOk_nil))
  refine IW.seq ?_
  refine IW.free (by simp) (fun hfree => ?_)
  refine IW.reg hE ?_
  refine vcS_new rfl rfl (ox_box (pl rfl) (cellsOf_Block _)) (.inl (by omega)) ?_
  refine vcS_new rfl rfl (ox_allocZ D_37 (zero_37 D_37)) (.inl (by omega)) ?_
  refine vcS_nil ?_
  refine IW.seq ?_
  refine IW.drw hE mixed [[],[0],[0,1],[],[3],[0,1,2,3,4],[0,1,2,3,4],[0,1,2,3,4,5,6],[0,1,2,3,4,5,6,7],[0,1,2,3,4,5,6,7,8]] (by kernel_rfl) (vcE_start ?_)
  refine vcE_bl rfl rfl (fun _ => ox_fieldAddr (pl rfl) D_37 rfl rfl D_34 (by decide)) rfl rfl ?_
  refine vcE_val rfl rfl rfl rfl (ox_load (pl rfl) D_34 (hp_sk (by omega) (hp_eq _ _ _ _)) (rd_37_3 _ rfl)) rfl (si_load (pl rfl)) (lt1 (by omega)) (trivial) ?_
  refine vcE_callN rfl rfl rfl rfl (ox_fn rfl rfl (copyF_ev' (rdC_keep hfree hl (by exact ⟨by omega, ⟨by omega, trivial⟩⟩)) (by simp only [most]; omega))) rfl ltu0 ⟨⟨.inl (by omega), by omega, by omega⟩, trivial⟩ (by omega) (trivial) ?_
  refine vcE_bl rfl rfl (fun _ => ox_fieldAddr (pl rfl) D_37 rfl rfl D_35 (by decide)) rfl rfl ?_
  refine vcE_val rfl rfl rfl rfl (ox_load (pl rfl) D_35 (hp_sk (by omega) (hp_eq _ _ _ _)) (rd_37_4 _ rfl)) rfl (si_load (pl rfl)) (lt1 (by omega)) (⟨qn1 (n0 := 0) (by omega), trivial⟩) ?_
  refine vcE_callN rfl rfl rfl rfl (ox_fn rfl rfl (copyF_ev' (rdC_keep hfree hd (by exact ⟨by omega, ⟨by omega, ⟨by omega, trivial⟩⟩⟩)) (by simp only [most]; omega))) rfl (ltuc (by omega) ltu0) ⟨⟨.inl (by omega), by omega, by omega⟩, trivial⟩ (by omega) (⟨trivial, trivial⟩) ?_
  refine vcE_bl rfl rfl (fun _ => ox_fieldAddr (pl rfl) D_37 rfl rfl D_34 (by decide)) rfl rfl ?_
  refine vcE_sto rfl rfl rfl rfl (ox_store (pl rfl) (pl rfl) D_34 (hp_sk (by omega) (hp_sk (by omega) (hp_sk (by omega) (hp_eq _ _ _ _)))) rfl rfl (Block.le _ rfl) rfl (wr_37_3 _ _)) rfl (si_store (pl rfl)) (is_some (hp_sk (by omega) (hp_sk (by omega) (hp_sk (by omega) (hp_eq _ _ _ _))))) (by omega) (.inl (by omega)) (⟨trivial, ⟨trivial, trivial⟩⟩) (⟨trivial, ⟨trivial, ⟨trivial, ⟨trivial, trivial⟩⟩⟩⟩) ?_
  refine vcE_bl rfl rfl (fun _ => ox_fieldAddr (pl rfl) D_37 rfl rfl D_35 (by decide)) rfl rfl ?_
  refine vcE_sto rfl rfl rfl rfl (ox_store (pl rfl) (pl rfl) D_35 (hp_eq _ _ _ _) rfl rfl (Block.le _ rfl) rfl (wr_37_4 _ _)) rfl (si_store (pl rfl)) (is_some (hp_eq _ _ _ _)) (by omega) (.inl (by omega)) (⟨trivial, ⟨trivial, ⟨trivial, trivial⟩⟩⟩) (⟨trivial, ⟨trivial, ⟨trivial, ⟨trivial, ⟨trivial, trivial⟩⟩⟩⟩⟩) ?_
  refine vcE_nil ?_
  refine IW.seq ?_
  refine IW.reg hE ?_
  refine vcS_val rfl rfl (ox_load (pl rfl) D_37 (hp_eq _ _ _ _) (rd_37 _ rfl rfl)) ?_
  refine vcS_sto rfl rfl (ox_store (pl rfl) (pl rfl) D_37 (hp_sk (by omega) (hp_sk (by omega) (hp_sk (by omega) (hp_sk (by omega) (hp_eq _ _ _ _))))) (cellsOf_Block _) (Block.cells_length _) (Block.le _ rfl) (Block.cells_known _) (wr_all (by rw [Block.cells_length, Block.cells_length]))) (.inl (by omega)) ?_
  refine vcS_nil ?_
  refine IW.ret ?_
  refine RetP.news [n + 1 + 1, n + 1 + 1 + 1] (cs := [cels l, cels d]) (.inr rfl) (ires_cell rfl D_37 (hp_eq _ _ _ _) (rd_37 _ rfl rfl)) ?_ rfl rfl ⟨by omega, by omega, trivial⟩ (by simp) ⟨(hp_sk (by omega) (hp_sk (by omega) (hp_sk (by omega) (hp_sk (by omega) (hp_eq _ _ _ _))))).trans (by rw [plains_ren (dig_plain l)]), (hp_sk (by omega) (hp_sk (by omega) (hp_sk (by omega) (hp_eq _ _ _ _)))).trans (by rw [plains_ren (u8_plain d)]), trivial⟩ ?_ ?_
  · rw [Block.ren]; simp only; rw [renSl_slF (gL_at (m := n + 1 + 1) (by omega) (by simp)), renSl_slF (gL_at (m := n + 1 + 1 + 1) (by omega) (by simp))]; rfl
  · intro c hc
    simp only [List.mem_cons, List.not_mem_nil, or_false] at hc
    rcases hc with rfl | rfl
    · exact plain_okN1 (dig_plain l)
    · exact plain_okN1 (u8_plain d)
  · exact Block.ok (okSl_slF (by simp)) (okSl_slF (by simp))
end Go.Proofs.Ytdnnojblneccdaa
