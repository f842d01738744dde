import Derived.Test.YtdnnojblneccdaaV10C
/-
  slices.Chunk: the iterator.
-/
namespace Go.Proofs.Ytdnnojblneccdaa
set_option linter.unusedSimpArgs false
set_option linter.unusedVariables false
open Go
open Enc (enc)
set_option maxRecDepth 100000
def pieceV (row off s : Nat) : Value := .slice (some ⟨row, off + s * 128, none⟩) 128 128
def yv (l : Nat) : Value := .func (.yield l) #[] #[]
def pv (b : Nat) : Value := .pointer (some ⟨b, 0, none⟩)
set_option maxHeartbeats 1000000
theorem chunk_gives {H : IHeap} {n b1 b2 row off cap k : Nat} {ro1 ro2 : Bool} {len : Nat} (h1 : H b1 = some (.cells [.slice (some ⟨row, off, none⟩) len cap] ro1)) (h2 : H b2 = some (.cells [.int .i64 128] ro2)) (hlen : len = 128 * k) (hcap : len ≤ cap) (hk : k ≤ 2 ^ 40) :
    Gives Try.prog 114 #[pv b1, pv b2] k (fun i => pieceV row off i) [b1, b2] H n := by
  subst hlen
  intro w ρ lb hbel hh hsz hcaps
  have hlb : ∃ y1 y2, lb = #[y1, y2] := by
    have hsz : lb.size = 2 := hsz
    exact ⟨lb[0], lb[1], by apply Array.ext (by simp [hsz]); intro i h1 h2; match i, (show i < 2 by omega) with | 0, _ => rfl | 1, _ => rfl⟩
  obtain ⟨y1, y2, rfl⟩ := hlb
  have v1 := hcaps 0 _ _ rfl rfl
  have v2 := hcaps 1 _ _ rfl rfl
  obtain ⟨r1, κ1, e1, e2⟩ := hh.obj b1 _ h1
  obtain ⟨c', T, fz, e3, e4, e5, e6, e7⟩ := e2
  obtain ⟨v', e8, e9⟩ := e7 0 _ rfl
  have hex : ∃ r κ, ρ row = some (r, κ) := by cases e9 with | slice _ _ _ h => exact ⟨_, _, h⟩
  obtain ⟨r, κ, hrow⟩ := hex
  refine ⟨fun i => pieceV r off i, fun i => .slice _ _ _ hrow, ?_⟩
  intro l J Jx W hW hJ hJx hY h0
  refine callsIn_of_wp (F := FW none) (n := 1) Try.func114 rfl trivial (wpIn_any (n := 0) ?_)
  have hE : Env Try.prog [] D K := env fnsOk_nil
  have q1 : restr [b1, b2] H b1 = some (.cells [.slice (some ⟨row, off, none⟩) (128 * k) cap] ro1) := by simp [restr, h1]
  have q2 : restr [b1, b2] H b2 = some (.cells [.int .i64 128] ro2) := by simp [restr, h2]
  have hlt1 : b1 < n := hbel.lt e1
  have hlt2 : b2 < n := by
    obtain ⟨_, _, e, _⟩ := hh.obj b2 _ h2
    exact hbel.lt e
  have hhW : HR ρ (restr [b1, b2] H) W := by
    refine ⟨fun id o ho => ?_, fun i j o p r κ κ' a b => hh.inj i j o p r κ κ' (restr_le _ _ _ _ a) (restr_le _ _ _ _ b)⟩
    obtain ⟨r, κ, g1, g2⟩ := hh.obj id o (restr_le _ _ _ _ ho)
    exact ⟨r, κ, g1, by rw [hW.block r g2.lt]; exact g2⟩
  generalize hHr : restr [b1, b2] H = Hr at q1 q2 hhW
  have hdom : ∀ id o, Hr id = some o → id = b1 ∨ id = b2 := by
    intro id o ho
    rw [← hHr] at ho
    unfold restr at ho
    split at ho
    · rename_i hm; simpa using hm
    · cases ho
  clear hHr
  have st0 : Ist ρ (dense 31 (idxL 0 [yv l, pv b1, pv b2])) (hp Hr []) n { tmps := #[yv l, y1, y2] ++ Array.replicate (31 - (#[yv l, y1, y2] : Array Value).size) undef, defers := [] } W := by
    refine ⟨tr_enter (args := [yv l, pv b1, pv b2]) ⟨rfl, fun i x hx => ?_⟩ (Nat.le_of_ble_eq_true rfl), hbel, hhW, rfl⟩
    have hi : i < 3 := (List.getElem?_eq_some_iff.1 hx).1
    match i, hi, hx with
    | 0, _, hx => cases hx; exact ⟨_, rfl, .func _ rfl (by simp) rfl (by simp)⟩
    | 1, _, hx => cases hx; exact ⟨_, rfl, v1⟩
    | 2, _, hx => cases hx; exact ⟨_, rfl, v2⟩
  refine wpIn_seq (reg_run hE (Q := fun t' H' n' => t' = dense 31 [(4, .int .i64 ((128 * 0 : Nat) : Int)), (0, yv l), (1, pv b1), (2, pv b2)] ∧ hp Hr [] = H' ∧ n = n') ?_ st0 ?_)
  · refine vcS_val rfl rfl (ox_assign (pl rfl)) ?_
    exact vcS_nil ⟨rfl, rfl, rfl⟩
  rintro ρ1 t1 H1 n1 a1 w1 hle1 st1 g1 ⟨rfl, rfl, rfl⟩
  have hj1 := hJ _ _ _ none h0 g1 (fun r e => by cases e)
  refine wpIn_block ?_
  refine wpR_loop (fun j a w => ∃ (s : Nat) (ρs : Ren), s ≤ k ∧ j = k - s ∧ ρ.le ρs ∧ Ist ρs (dense 31 [(4, .int .i64 ((128 * s : Nat) : Int)), (0, yv l), (1, pv b1), (2, pv b2)]) (hp Hr []) n a w ∧ J ((List.finRange k).take s) w) k ⟨0, ρ1, Nat.zero_le _, rfl, hle1, st1, hj1⟩ ?_
  rintro j a2 w2 ⟨s, ρs, hs, rfl, hle, st, hj⟩
  refine wpIn_seq ?_
  refine wpIn_seq (reg_run hE (Q := fun t' H' n' => ∃ L', t' = dense 31 L' ∧ subL [(9, .bool (decide (((128 * s : Nat) : Int) < ((128 * k : Nat) : Int)))), (4, .int .i64 ((128 * s : Nat) : Int)), (0, yv l), (1, pv b1), (2, pv b2)] L' ∧ hp Hr [] = H' ∧ n = n') ?_ st ?_)
  · refine vcS_val rfl rfl (ox_move (pl rfl)) ?_
    refine vcS_val rfl rfl (ox_load (pl rfl) D_35 q1 rfl) ?_
    refine vcS_val rfl rfl (ox_len (pl rfl) D_35 rfl) ?_
    refine vcS_val rfl rfl (ox_bin (pl rfl) (pl rfl) (bo_i64_lss _ _)) ?_
    exact vcS_nil ⟨_, rfl, ⟨rfl, rfl, rfl, rfl, rfl, trivial⟩, rfl, rfl⟩
  rintro ρ2 t2 H2 n2 a3 w3 hle2 st2 g2 ⟨L2, rfl, hsub, rfl, rfl⟩
  have st2 := st2.keep hsub
  have hj2 := hJ _ _ _ none hj g2 (fun r e => by cases e)
  by_cases hlt : s < k
  · refine wpIn_cond_true ((st2.bool (x := .tmp 9) rfl).trans (by rw [decide_eq_true (by omega)])) (wpIn_skip ?_)
    show Code.wpIn _ _ _ _ _ _ _
    refine wpIn_seq ?_
    refine wpIn_block ?_
    refine wpIn_seq (reg_drawn hE mixed (Q := fun t' H' n' => ∃ L', t' = dense 31 L' ∧ subL [(5, .int .i64 128), (4, .int .i64 ((128 * s : Nat) : Int)), (0, yv l), (1, pv b1), (2, pv b2)] L' ∧ hp Hr [] = H' ∧ n = n') [[],[],[],[1,2],[1,2,3],[0,1,2,3,4],[0,1,2,3,4,5]] (by kernel_rfl) (vcE_start ?_) st2 ?_)
    · refine vcE_val rfl rfl rfl rfl (ox_load (pl rfl) D_3 q2 rfl) rfl (si_load (pl rfl)) (lt1 (by omega)) trivial ?_
      refine vcE_val rfl rfl rfl rfl (ox_load (pl rfl) D_35 q1 rfl) rfl (si_load (pl rfl)) (lt1 (by omega)) trivial ?_
      refine vcE_bl rfl rfl (fun _ => ox_move (pl rfl)) rfl rfl ?_
      refine vcE_bl rfl rfl (fun _ => ox_sl (pl rfl) D_35 rfl D_5 (bndI (pl rfl) rfl) bndN (by omega) (by omega) (.inl rfl)) rfl rfl ?_
      refine vcE_bl rfl rfl (fun _ => ox_len (pl rfl) D_35 rfl) rfl rfl ?_
      refine vcE_bl rfl rfl (fun _ => ox_min (pl rfl) (pl rfl)) rfl rfl ?_
      refine vcE_bl rfl rfl (fun _ => ox_assign (pl rfl)) rfl rfl ?_
      exact vcE_nil ⟨_, rfl, ⟨by rw [if_neg (by omega)]; rfl, rfl, rfl, rfl, rfl, trivial⟩, rfl, rfl⟩
    rintro ρ3 t3 H3 n3 a4 w4 hle3 st3 g3 ⟨L3, rfl, hsub3, rfl, rfl⟩
    have st3 := st3.keep hsub3
    have hj3 := hJ _ _ _ none hj2 g3 (fun r e => by cases e)
    show Code.wpIn _ _ _ _ _ _ _
    refine wpIn_seq ?_
    refine reg_head hE 10 [10, 11] (by decide) rfl (Q := fun t' H' n' => ∃ L', t' = dense 31 L' ∧ subL [(28, pieceV row off s), (19, yv l), (4, .int .i64 ((128 * s : Nat) : Int)), (0, yv l), (1, pv b1), (2, pv b2)] L' ∧ hp Hr [] = H' ∧ n = n') ?_ st3 ?_
    · refine vcS_val rfl rfl (ox_move (pl rfl)) ?_
      refine vcS_val rfl rfl (ox_load (pl rfl) D_35 q1 rfl) ?_
      refine vcS_val rfl rfl (ox_move (pl rfl)) ?_
      refine vcS_val rfl rfl (ox_move (pl rfl)) ?_
      refine vcS_val rfl rfl (ox_move (pl rfl)) ?_
      refine vcS_val rfl rfl (ox_bin (pl rfl) (pl rfl) (bo_i64_add (by omega))) ?_
      refine vcS_val rfl rfl (ox_move (pl rfl)) ?_
      refine vcS_val rfl rfl (ox_move (pl rfl)) ?_
      refine vcS_val rfl rfl (ox_bin (pl rfl) (pl rfl) (bo_i64_add (by omega))) ?_
      refine vcS_val rfl rfl (ox_sl3 (l := 128 * s) (h := 128 * s + 128) (m := 128 * s + 128) (pl rfl) D_35 rfl D_5 (bndI (pl rfl) rfl) (bndI (pl rfl) (by omega)) (bndI (pl rfl) (by omega)) (by omega) (by omega) (by omega) (by omega)) ?_
      refine vcS_nil ⟨_, rfl, ⟨?_, rfl, rfl, rfl, rfl, rfl, trivial⟩, rfl, rfl⟩
      show some (Value.slice (some ⟨row, off + 128 * s * 1, none⟩) (128 * s + 128 - 128 * s) (128 * s + 128 - 128 * s)) = some (pieceV row off s)
      rw [Nat.add_sub_cancel_left, Nat.mul_one, Nat.mul_comm]; rfl
    rintro ρ4 t4 H4 n4 a5 w5 hle4 st4 g4 ⟨L4, rfl, hsub4, rfl, rfl⟩
    have st4 := st4.keep hsub4
    have hj4 := hJ _ _ _ none hj3 g4 (fun r e => by cases e)
    have hall : ρ.le ρ4 := Ren.le_trans hle (Ren.le_trans hle2 (Ren.le_trans hle3 hle4))
    have hy := hY _ ⟨s, hlt⟩ w5 hj4 (by simp; omega)
    have hev : a5.eval (.tmp 28) = pieceV r off s := st4.slice (x := .tmp 28) rfl (hall _ _ hrow)
    refine op_yield rfl rfl rfl rfl (st4.fn (x := .tmp 19) rfl) (by rw [hev]; exact hy) ?_
    rintro e w6 (⟨rfl, hj5, hkp⟩ | ⟨rfl, hjx⟩)
    · refine ⟨_, rfl, ?_⟩
      have st5 := (st4.world (w' := w6) fun id o ho r' κ' hr' => by
        have hid := hdom id o ho
        have hρ : ρ id = some (r', κ') := by
          obtain ⟨r2, κ2, f1, f2⟩ := hhW.obj id o ho
          have := hall _ _ f1
          rw [hr'] at this; cases this; exact f1
        exact hkp id (by rcases hid with rfl | rfl <;> simp) r' κ' hρ).put (d := 29) (VR.bool (ρ := ρ4) true)
      refine ops_run hE [11] _ rfl (Q := fun t' H' n' => ∃ L', t' = dense 31 L' ∧ subL [(30, .bool false), (4, .int .i64 ((128 * s : Nat) : Int)), (0, yv l), (1, pv b1), (2, pv b2)] L' ∧ hp Hr [] = H' ∧ n = n') (vcS_val rfl rfl (ox_un (pl rfl) (uo_not _)) (vcS_nil ⟨_, rfl, ⟨rfl, rfl, rfl, rfl, rfl, trivial⟩, rfl, rfl⟩)) st5 ?_
      rintro ρ5 t5 H5 n5 a6 w7 hle5 st6 g5 ⟨L5, rfl, hsub5, rfl, rfl⟩
      have st6 := st6.keep hsub5
      have hj6 := hJ _ _ _ none hj5 g5 (fun r e => by cases e)
      show Code.wpIn _ _ _ _ _ _ _
      refine wpIn_cond_false (st6.bool (x := .tmp 30) rfl) (wpIn_skip ?_)
      show Code.wpIn _ _ _ _ _ _ _
      refine reg_run hE (Q := fun t' H' n' => ∃ L', t' = dense 31 L' ∧ subL [(4, .int .i64 ((128 * (s + 1) : Nat) : Int)), (0, yv l), (1, pv b1), (2, pv b2)] L' ∧ hp Hr [] = H' ∧ n = n') ?_ st6 ?_
      · refine vcS_val rfl rfl (ox_move (pl rfl)) ?_
        refine vcS_val rfl rfl (ox_load (pl rfl) D_3 q2 rfl) ?_
        refine vcS_val rfl rfl (ox_bin (pl rfl) (pl rfl) (bo_i64_add (by omega))) ?_
        refine vcS_val rfl rfl (ox_assign (pl rfl)) ?_
        refine vcS_nil ⟨_, rfl, ⟨?_, rfl, rfl, rfl, trivial⟩, rfl, rfl⟩
        exact congrArg (fun z => some (Value.int .i64 z)) (by omega)
      rintro ρ6 t6 H6 n6 a7 w8 hle6 st7 g6 ⟨L6, rfl, hsub6, rfl, rfl⟩
      have hj7 := hJ _ _ _ none hj6 g6 (fun r e => by cases e)
      refine ⟨k - (s + 1), by omega, s + 1, ρ6, by omega, rfl, Ren.le_trans hall (Ren.le_trans hle5 hle6), st7.keep hsub6, ?_⟩
      have : (List.finRange k).take (s + 1) = (List.finRange k).take s ++ [⟨s, hlt⟩] := by
        rw [List.take_succ_eq_append_getElem (by simpa using hlt)]; simp
      rw [this]; exact hj7
    · refine ⟨_, rfl, ?_⟩
      have st5 := (st4.blank (w' := w6)).put (d := 29) (VR.bool (ρ := ρ4) false)
      refine ops_run hE [11] _ rfl (Q := fun t' H' n' => ∃ L', t' = dense 31 L' ∧ subL [(30, .bool true)] L') (vcS_val rfl rfl (ox_un (pl rfl) (uo_not _)) (vcS_nil ⟨_, rfl, ⟨rfl, trivial⟩⟩)) st5 ?_
      rintro ρ5 t5 H5 n5 a6 w7 hle5 st6 g5 ⟨L5, rfl, hsub5⟩
      have st6 := st6.keep hsub5
      show Code.wpIn _ _ _ _ _ _ _
      refine wpIn_cond_true (st6.bool (x := .tmp 30) rfl) (wpIn_ret ?_)
      exact ⟨st6.dfr, .tuple #[], results_none rfl _ _ _, ⟨_, rfl⟩, .inr ⟨_, trivial, hJx _ _ _ none hjx g5 (fun r e => by cases e)⟩⟩
  · refine wpIn_cond_false ((st2.bool (x := .tmp 9) rfl).trans (by rw [decide_eq_false (by omega)])) (wpIn_exit ?_)
    refine ⟨st2.dfr, .tuple #[], ?_, ⟨_, rfl⟩, .inl ⟨List.finRange k, rfl, ?_⟩⟩
    · exact results_none rfl _ _ _
    · have : (List.finRange k).take s = List.finRange k := List.take_of_length_le (by simp; omega)
      rw [← this]; exact hj2
end Go.Proofs.Ytdnnojblneccdaa
/-
  Blocks: Compare; lists of digests.
-/
namespace Go.Proofs.Ytdnnojblneccdaa
set_option linter.unusedSimpArgs false
set_option linter.unusedVariables false
open Go
open Enc (enc)
set_option maxRecDepth 100000
abbrev Dig := Vector UInt8 32
instance : Row Block := ⟨Block.cells, 131, by decide, Block.cells_length, fun _ _ h => Block.cells_inj h, Block.cells_known, fun _ => rfl⟩
end Go.Proofs.Ytdnnojblneccdaa
/-
  Copies: Own, Names, slices.Clone.
-/
namespace Go.Proofs.Ytdnnojblneccdaa
set_option linter.unusedSimpArgs false
set_option linter.unusedVariables false
open Go
open Enc (enc)
set_option maxRecDepth 100000
/-- a new slice with these members: what append makes of an empty literal -/
def freshV (sz n k : Nat) : Value := if k = 0 then .slice (some ⟨n, 0, none⟩) 0 0 else .slice (some ⟨n, 0, some sz⟩) k k
def freshE {α : Type} [Row α] (n : Nat) (l : List α) : Eff := ⟨freshV (Row.sz α) n l.length, [(n, some (.cells (cels l) false))], n + 1⟩
noncomputable def copyF (α : Type) [Row α] (bytes : Nat) : FnI := fun args H n => match args with
  | [x] => (rdC H x).bind fun (l : List α) => if l.length * bytes ≤ most then some (freshE n l) else none
  | _ => none
theorem copyF_inv {α : Type} [Row α] {bytes : Nat} {args : List Value} {H : IHeap} {n : Nat} {e : Eff} (h : copyF α bytes args H n = some e) : ∃ x, ∃ l : List α, args = [x] ∧ rdC H x = some l ∧ l.length * bytes ≤ most ∧ e = freshE n l := by
  unfold copyF at h; split at h
  · simp only [Option.bind_eq_some_iff] at h
    obtain ⟨l, hl, h⟩ := h
    split at h
    · rename_i hle; cases h; exact ⟨_, l, rfl, hl, hle, rfl⟩
    · cases h
  · cases h
theorem copyF_ev {α : Type} [Row α] {bytes : Nat} {x : Value} {H : IHeap} {n : Nat} {l : List α} (hl : rdC H x = some l) (hle : l.length * bytes ≤ most) : copyF α bytes [x] H n = some (freshE n l) := by
  simp only [copyF, hl, Option.bind_some, if_pos hle]
theorem u8_plain (l : List UInt8) : (cels l).all plain = true := by
  simp only [cels, List.all_flatMap, List.all_eq_true]
  intro a _ x hx
  simp only [Row.cel, List.mem_singleton] at hx
  subst hx; rfl
noncomputable def F36 : FnI := copyF UInt8 1
theorem R36 : Ref Try.prog 36 F36 := by
  refine Ref.of_iw dok Try.func36 rfl (by kernel_rfl) fun args H n e hF => ?_
  obtain ⟨x, l, rfl, hl, hle, rfl⟩ := copyF_inv hF
  refine ⟨Nat.le_of_ble_eq_true rfl, ?_⟩
  simp only [idxL]
  have hE : Env Try.prog [] D K := env fnsOk_nil
  refine IW.seq ?_
  refine IW.reg hE ?_
  refine vcS_val rfl rfl (ox_assign (pl rfl)) ?_
  refine vcS_nil ?_
  refine IW.ltC (by simp) hl (fun hlt => ?_)
  refine IW.seq ?_
  refine IW.reg hE ?_
  refine vcS_new rfl rfl (ox_bs0 D_35 rfl D_5) (.inl (by omega)) ?_
  refine vcS_val rfl rfl (ox_move (pl rfl)) ?_
  have hl1 := rdC_hp (H := H) (M := []) (o := some (.cells [] false)) (m := n) hl hlt (Nat.le_refl _)
  by_cases h0 : l = []
  · subst h0
    refine vcS_val rfl rfl (ox_app0 (α := UInt8) (pl rfl) (pl rfl) D_35 rfl D_5 D_35 rfl rfl hl1 rfl (Nat.le_refl _)) ?_
    refine vcS_val rfl rfl (ox_assign (pl rfl)) ?_
    refine vcS_nil ?_
    refine IW.ret ?_
    exact RetP.new1 (.inr rfl) (ires_tmp rfl) (Nat.le_refl _) (hp_eq _ _ _ _) rfl
  · refine vcS_new rfl rfl (ox_app1 (pl rfl) (pl rfl) D_35 rfl D_5 D_35 rfl rfl hl1 h0 rfl (fun b hb => by cases hb; exact ⟨false, hp_eq _ _ _ _, rfl⟩) hle (by decide)) (.inl (by omega)) ?_
    refine vcS_val rfl rfl (ox_assign (pl rfl)) ?_
    refine vcS_nil ?_
    refine IW.ret ?_
    have e0 : l.length ≠ 0 := by simpa using h0
    simp only [freshE, freshV, if_neg e0]
    exact RetP.new1 (.inr rfl) (ires_tmp rfl) (Nat.le_succ _) (hp_eq _ _ _ _) (u8_plain l)
end Go.Proofs.Ytdnnojblneccdaa
/-
  slices.Grow of nil.
-/
namespace Go.Proofs.Ytdnnojblneccdaa
set_option linter.unusedSimpArgs false
set_option linter.unusedVariables false
open Go
open Enc (enc)
set_option maxRecDepth 100000
/-- nothing, with room for k -/
def growE (sz : Nat) (z : List Value) (n k : Nat) : Eff := if k = 0 then ⟨.slice none 0 0, [], n⟩ else ⟨.slice (some ⟨n, 0, some sz⟩) 0 k, [(n, some (.cells ((List.replicate k z).flatten) false))], n + 1⟩
theorem growE_zero {sz : Nat} {z : List Value} {n : Nat} : growE sz z n 0 = ⟨.slice none 0 0, [], n⟩ := rfl
theorem growE_pos {sz : Nat} {z : List Value} {n k : Nat} (h : 0 < k) : growE sz z n k = ⟨.slice (some ⟨n, 0, some sz⟩) 0 k, [(n, some (.cells ((List.replicate k z).flatten) false))], n + 1⟩ := if_neg (by omega)
def growF (sz bytes : Nat) (z : List Value) : FnI := fun args _ n => match args with
  | [.slice none 0 0, .int .i64 k] => if 0 ≤ k ∧ k.toNat * bytes ≤ most then some (growE sz z n k.toNat) else none
  | _ => none
theorem growF_inv {sz bytes : Nat} {z : List Value} {args : List Value} {H : IHeap} {n : Nat} {e : Eff} (h : growF sz bytes z args H n = some e) : ∃ k : Nat, args = [.slice none 0 0, .int .i64 k] ∧ k * bytes ≤ most ∧ e = growE sz z n k := by
  unfold growF at h; split at h
  · rename_i k
    split at h
    · rename_i hk; cases h
      exact ⟨k.toNat, by rw [Int.toNat_of_nonneg hk.1], hk.2, rfl⟩
    · cases h
  · cases h
theorem growF_ev {sz bytes : Nat} {z : List Value} {H : IHeap} {n : Nat} {k : Nat} (hk : k * bytes ≤ most) : growF sz bytes z [.slice none 0 0, .int .i64 k] H n = some (growE sz z n k) := by
  simp only [growF]
  rw [if_pos ⟨by omega, by simpa using hk⟩]; simp
theorem rep_plain {z : List Value} (hz : z.all plain = true) (k : Nat) : ((List.replicate k z).flatten).all plain = true := by
  rw [List.all_eq_true]
  intro x hx
  obtain ⟨l, hl, hx⟩ := List.mem_flatten.1 hx
  rw [(List.mem_replicate.1 hl).2] at hx
  exact List.all_eq_true.1 hz x hx
end Go.Proofs.Ytdnnojblneccdaa
/-
  slices.Concat.
-/
namespace Go.Proofs.Ytdnnojblneccdaa
set_option linter.unusedSimpArgs false
set_option linter.unusedVariables false
open Go
open Enc (enc)
open Row (cel)
set_option maxRecDepth 100000
section
variable {α : Type}
/-- the first s of them, one behind the other -/
def firsts (ls : List (List α)) (s : Nat) : List α := (ls.take s).flatten
theorem firsts_succ {ls : List (List α)} {s : Nat} (h : s < ls.length) : firsts ls (s + 1) = firsts ls s ++ ls[s] := by
  unfold firsts
  rw [List.take_succ_eq_append_getElem h, List.flatten_append]; simp
theorem firsts_le {ls : List (List α)} {s : Nat} (h : s < ls.length) : (firsts ls s).length + ls[s].length ≤ ls.flatten.length := by
  have : ls.flatten = firsts ls (s + 1) ++ (ls.drop (s + 1)).flatten := by rw [firsts, ← List.flatten_append, List.take_append_drop]
  rw [this, firsts_succ h, List.length_append, List.length_append]; omega
theorem firsts_all {ls : List (List α)} {s : Nat} (h : ls.length ≤ s) : firsts ls s = ls.flatten := by rw [firsts, List.take_of_length_le h]
theorem nil_of_total {ls : List (List α)} {s : Nat} (h : s < ls.length) (h0 : ls.flatten.length = 0) : ls[s] = [] := by
  have := firsts_le h
  exact List.length_eq_zero_iff.1 (by omega)
def capC (ls : List (List α)) (s : Nat) : Nat := if s = 0 then ls.flatten.length else (firsts ls s).length
theorem capC_succ {ls : List (List α)} {s : Nat} (h : s < ls.length) : capC ls (s + 1) = (firsts ls s).length + ls[s].length := by
  unfold capC
  rw [if_neg (by omega), firsts_succ h, List.length_append]
end
section
variable {α : Type} [Row α]
noncomputable def rdL (α : Type) [Row α] (H : IHeap) : List Sl → Option (List (List α))
  | [] => some []
  | s :: S => match rdC (α := α) H (enc s), rdL α H S with
    | some l, some ls => some (l :: ls)
    | _, _ => none
theorem rdL_get {H : IHeap} : ∀ {S : List Sl} {ls : List (List α)}, rdL α H S = some ls → ls.length = S.length ∧ ∀ (i : Nat) (h : i < S.length) (h' : i < ls.length), rdC H (enc S[i]) = some ls[i]
  | [], ls, h => by cases h; exact ⟨rfl, fun i h => (by simp at h)⟩
  | s :: S, ls, h => by
    simp only [rdL] at h
    split at h
    · rename_i l ls' h1 h2
      cases h
      obtain ⟨g1, g2⟩ := rdL_get h2
      refine ⟨by simp [g1], fun i hi hi' => ?_⟩
      cases i with
      | zero => exact h1
      | succ i => exact g2 i (by simpa using hi) (by simpa using hi')
    · cases h
theorem rdL_at {H : IHeap} {S : List Sl} {ls : List (List α)} (h : rdL α H S = some ls) {i : Nat} (hi : i < S.length) : ∃ sa sc, ∃ h' : i < ls.length, enc S[i] = .slice sa ls[i].length sc ∧ rdC H (.slice sa ls[i].length sc) = some ls[i] := by
  obtain ⟨g1, g2⟩ := rdL_get h
  have hi' : i < ls.length := by omega
  have h2 := g2 i hi hi'
  obtain ⟨a, cap, e⟩ := rdC_len h2
  exact ⟨a, cap, hi', e, by rw [← e]; exact h2⟩
theorem rd_hdr {d : TD} {c : List Value} {off i j : Nat} {S : List Sl} {v : Value} (hl : (c.drop off).take (S.length * Row.sz Sl) = cels S) (h : i < S.length) (hv : enc S[i] = v) (hk : d.k.isAgg = false) (hj : j = off + i * Row.sz Sl) : rdVar d c j = some v := by
  subst hv
  refine rd_celIn hl h (v := enc S[i]) (o := 0) ?_ (by omega)
  unfold rdVar
  rw [if_neg (by rw [hk]; simp)]
  rfl
theorem rdC_free {H : IHeap} {n : Nat} {x : Value} {l : List α} (hf : ∀ id, n ≤ id → H id = none) (h : rdC H x = some l) : ∀ id off s len cap, x = .slice (some ⟨id, off, s⟩) len cap → id < n := by
  intro id off s len cap e
  subst e
  rcases rdC_inv h with ⟨e, _⟩ | ⟨id', off', sp', c, ro, e, hc, _⟩
  · cases e
  · cases e
    refine Nat.lt_of_not_le fun hle => ?_
    rw [hf _ hle] at hc; cases hc
def celC (z : List Value) (ls : List (List α)) (s : Nat) : List Value := if s = 0 then (List.replicate ls.flatten.length z).flatten else cels (firsts ls s)
theorem celC_ok (z : List Value) (ls : List (List α)) (s k : Nat) (hk : k = Row.sz α) : (firsts ls s).length * k ≤ (celC z ls s).length ∧ (celC z ls s).take ((firsts ls s).length * k) = cels (firsts ls s) := by
  subst hk
  unfold celC
  by_cases h0 : s = 0
  · subst h0; simp [firsts, cels]
  · rw [if_neg h0, cels_length]
    exact ⟨Nat.le_refl _, by rw [← cels_length, List.take_length]⟩
theorem celC_succ {z : List Value} {ls : List (List α)} {s : Nat} (h : s < ls.length) : celC z ls (s + 1) = cels (firsts ls s ++ ls[s]) := by
  unfold celC
  rw [if_neg (by omega), firsts_succ h]
theorem hp_step {H : IHeap} {n a b : Nat} {x y z : Option IObj} (hf : ∀ id, n ≤ id → H id = none) (ha : n ≤ a) (hxy : x = y) : (hp H [(b, x)]).le (hp H [(b, y), (a, none), (a, z)]) := by
  subst hxy
  intro id o h
  by_cases hb : id = b
  · subst hb; rw [hp_eq] at h ⊢; exact h
  · rw [hp_ne _ _ _ hb, hp_nil] at h
    rw [hp_ne _ _ _ hb]
    have : id ≠ a := by
      intro e; rw [e, hf a ha] at h; cases h
    rw [hp_ne _ _ _ this, hp_ne _ _ _ this]; exact h
def concE (n : Nat) (l : List α) : Eff := if l.length = 0 then ⟨.slice none 0 0, [], n⟩ else ⟨.slice (some ⟨n, 0, some (Row.sz α)⟩) l.length l.length, [(n, some (.cells (cels l) false))], n + 1⟩
theorem concE_zero {n : Nat} {l : List α} (h : l.length = 0) : concE n l = ⟨.slice none 0 0, [], n⟩ := if_pos h
theorem concE_pos {n : Nat} {l : List α} (h : l.length ≠ 0) : concE n l = ⟨.slice (some ⟨n, 0, some (Row.sz α)⟩) l.length l.length, [(n, some (.cells (cels l) false))], n + 1⟩ := if_neg h
noncomputable def concF (α : Type) [Row α] (bytes : Nat) : FnI := fun args H n => match args with
  | [x] => (rdC H x).bind fun (S : List Sl) => (rdL α H S).bind fun ls => if S.length ≤ 2 ^ 47 ∧ ls.flatten.length * bytes ≤ most then some (concE n ls.flatten) else none
  | _ => none
theorem concF_inv {bytes : Nat} {args : List Value} {H : IHeap} {n : Nat} {e : Eff} (h : concF α bytes args H n = some e) : ∃ xa xc, ∃ S : List Sl, ∃ ls : List (List α), args = [.slice xa S.length xc] ∧ rdC H (.slice xa S.length xc) = some S ∧ rdL α H S = some ls ∧ S.length ≤ 2 ^ 47 ∧ ls.flatten.length * bytes ≤ most ∧ e = concE n ls.flatten := by
  unfold concF at h; split at h
  · simp only [Option.bind_eq_some_iff] at h
    obtain ⟨S, hS, ls, hls, h⟩ := h
    split at h
    · rename_i hle; cases h
      obtain ⟨xa, xc, rfl⟩ := rdC_len hS
      exact ⟨xa, xc, S, ls, rfl, hS, hls, hle.1, hle.2, rfl⟩
    · cases h
  · cases h
theorem concF_ev {bytes : Nat} {x : Value} {H : IHeap} {n : Nat} {S : List Sl} {ls : List (List α)} {l : List α} (hS : rdC H x = some S) (hls : rdL α H S = some ls) (h1 : S.length ≤ 2 ^ 47) (hl : ls.flatten = l) (h2 : l.length * bytes ≤ most) : concF α bytes [x] H n = some (concE n l) := by
  subst hl
  simp only [concF, hS, hls, Option.bind_some]
  rw [if_pos ⟨h1, h2⟩]
theorem growF_ev0 {sz bytes : Nat} {z : List Value} {H : IHeap} {n : Nat} {k : Nat} (hk : k = 0) : growF sz bytes z [.slice none 0 0, .int .i64 k] H n = some ⟨.slice none 0 0, [], n⟩ := by
  subst hk
  rw [growF_ev (by omega), growE_zero]
theorem growF_evp {sz bytes : Nat} {z : List Value} {H : IHeap} {n : Nat} {k : Nat} (h0 : 0 < k) (hk : k * bytes ≤ most) : growF sz bytes z [.slice none 0 0, .int .i64 k] H n = some ⟨.slice (some ⟨n, 0, some sz⟩) 0 k, [(n, some (.cells ((List.replicate k z).flatten) false))], n + 1⟩ := by
  rw [growF_ev hk, growE_pos h0]
end
end Go.Proofs.Ytdnnojblneccdaa
/-
  The sums' words; turns, products and sums of words.
-/
namespace Go.Proofs.Ytdnnojblneccdaa
set_option linter.unusedSimpArgs false
set_option linter.unusedVariables false
open Go
open Enc (enc)
set_option maxRecDepth 100000
def kL : List UInt64 := [0x428a2f98d728ae22, 0x7137449123ef65cd, 0xb5c0fbcfec4d3b2f, 0xe9b5dba58189dbbc, 0x3956c25bf348b538, 0x59f111f1b605d019, 0x923f82a4af194f9b, 0xab1c5ed5da6d8118, 0xd807aa98a3030242, 0x12835b0145706fbe, 0x243185be4ee4b28c, 0x550c7dc3d5ffb4e2, 0x72be5d74f27b896f, 0x80deb1fe3b1696b1, 0x9bdc06a725c71235, 0xc19bf174cf692694, 0xe49b69c19ef14ad2, 0xefbe4786384f25e3, 0x0fc19dc68b8cd5b5, 0x240ca1cc77ac9c65, 0x2de92c6f592b0275, 0x4a7484aa6ea6e483, 0x5cb0a9dcbd41fbd4, 0x76f988da831153b5, 0x983e5152ee66dfab, 0xa831c66d2db43210, 0xb00327c898fb213f, 0xbf597fc7beef0ee4, 0xc6e00bf33da88fc2, 0xd5a79147930aa725, 0x06ca6351e003826f, 0x142929670a0e6e70, 0x27b70a8546d22ffc, 0x2e1b21385c26c926, 0x4d2c6dfc5ac42aed, 0x53380d139d95b3df, 0x650a73548baf63de, 0x766a0abb3c77b2a8, 0x81c2c92e47edaee6, 0x92722c851482353b, 0xa2bfe8a14cf10364, 0xa81a664bbc423001, 0xc24b8b70d0f89791, 0xc76c51a30654be30, 0xd192e819d6ef5218, 0xd69906245565a910, 0xf40e35855771202a, 0x106aa07032bbd1b8, 0x19a4c116b8d2d0c8, 0x1e376c085141ab53, 0x2748774cdf8eeb99, 0x34b0bcb5e19b48a8, 0x391c0cb3c5c95a63, 0x4ed8aa4ae3418acb, 0x5b9cca4f7763e373, 0x682e6ff3d6b2b8a3, 0x748f82ee5defb2fc, 0x78a5636f43172f60, 0x84c87814a1f0ab72, 0x8cc702081a6439ec, 0x90befffa23631e28, 0xa4506cebde82bde9, 0xbef9a3f7b2c67915, 0xc67178f2e372532b, 0xca273eceea26619c, 0xd186b8c721c0c207, 0xeada7dd6cde0eb1e, 0xf57d4f7fee6ed178, 0x06f067aa72176fba, 0x0a637dc5a2c898a6, 0x113f9804bef90dae, 0x1b710b35131c471b, 0x28db77f523047d84, 0x32caab7b40c72493, 0x3c9ebe0a15c9bebc, 0x431d67c49c100d4c, 0x4cc5d4becb3e42b6, 0x597f299cfc657e2a, 0x5fcb6fab3ad6faec, 0x6c44198c4a475817]
abbrev kV : Vector UInt64 80 := ⟨kL.toArray, by decide⟩
def shortL : List UInt64 := [0x22312194fc2bf72c, 0x9f555fa3c84c64c2, 0x2393b86b6f53b151, 0x963877195940eabd, 0x96283ee2a88effe3, 0xbe5e1e2553863992, 0x2b0199fc2c85b8aa, 0x0eb72ddc81c52ca2]
abbrev shortV : Vector UInt64 8 := ⟨shortL.toArray, by decide⟩
noncomputable def F25 : FnI := fn0 (enc kV)
-- headwater/sha.K [] -> ['Vector UInt64 80'], results [[0, 48]]
theorem R25 : Ref Try.prog 25 F25 := by
  refine Ref.of_iw dok Try.func25 rfl (by kernel_rfl) fun args H n e hF => ?_
  obtain ⟨rfl, rfl⟩ := fn0_inv hF
  refine ⟨Nat.le_of_ble_eq_true rfl, ?_⟩
  simp only [idxL]
  have hE : Env Try.prog [] D K := env fnsOk_nil
  refine IW.seq ?_
  refine IW.reg hE ?_
  refine vcS_new rfl rfl (ox_allocZ (cs := encs (Vector.replicate 80 (0 : UInt64)).toList) D_48 rfl) (.inl (by omega)) ?_
  refine vcS_nil ?_
  refine IW.seq ?_
  refine IW.reg hE ?_
  refine vcS_val rfl rfl (ox_buildA (cs := encs kV.toList) D_48 rfl D_22 rfl (by kernel_rfl)) ?_
  refine vcS_sto rfl rfl (ox_store (pl rfl) (pl rfl) D_48 (hp_eq _ _ _ _) rfl (encs_vec_length _) (le_vec _ rfl) (encs_known _) (wr_all (by simp only [encs_vec_length]))) (.inl (by omega)) ?_
  refine vcS_nil ?_
  refine IW.ret ?_
  exact RetP.pure (.inr rfl) (ires_cell rfl D_48 (hp_eq _ _ _ _) (rd_all rfl (encs_vec_length _))) (okV64 _) (Nat.le_refl _)
noncomputable def F45 : FnI := fn0 (enc shortV)
-- headwater/sha.StartShort [] -> ['Vector UInt64 8'], results [[0, 50]]
theorem R45 : Ref Try.prog 45 F45 := by
  refine Ref.of_iw dok Try.func45 rfl (by kernel_rfl) fun args H n e hF => ?_
  obtain ⟨rfl, rfl⟩ := fn0_inv hF
  refine ⟨Nat.le_of_ble_eq_true rfl, ?_⟩
  simp only [idxL]
  have hE : Env Try.prog [] D K := env fnsOk_nil
  refine IW.seq ?_
  refine IW.reg hE ?_
  refine vcS_new rfl rfl (ox_allocZ (cs := encs (Vector.replicate 8 (0 : UInt64)).toList) D_50 rfl) (.inl (by omega)) ?_
  refine vcS_nil ?_
  refine IW.seq ?_
  refine IW.reg hE ?_
  refine vcS_val rfl rfl (ox_buildA (cs := encs shortV.toList) D_50 rfl D_22 rfl (by kernel_rfl)) ?_
  refine vcS_sto rfl rfl (ox_store (pl rfl) (pl rfl) D_50 (hp_eq _ _ _ _) rfl (encs_vec_length _) (le_vec _ rfl) (encs_known _) (wr_all (by simp only [encs_vec_length]))) (.inl (by omega)) ?_
  refine vcS_nil ?_
  refine IW.ret ?_
  exact RetP.pure (.inr rfl) (ires_cell rfl D_50 (hp_eq _ _ _ _) (rd_all rfl (encs_vec_length _))) (okV64 _) (Nat.le_refl _)
/-! products -/
def mulHi (x y : UInt64) : UInt64 :=
  let x0 := x &&& 4294967295
  let x1 := shr64 x 32
  let y0 := y &&& 4294967295
  let y1 := shr64 y 32
  let w0 := x0 * y0
  let t := x1 * y0 + shr64 w0 32
  let w1 := (t &&& 4294967295) + x0 * y1
  x1 * y1 + shr64 t 32 + shr64 w1 32
noncomputable def F34 : FnI := fn2 fun (x y : UInt64) => .tuple #[enc (mulHi x y), enc (x * y)]
-- math/bits.Mul64 ['UInt64', 'UInt64'] -> ['UInt64', 'UInt64'], results [4, 5]
theorem R34 : Ref Try.prog 34 F34 := by
  refine Ref.of_iw dok Try.func34 rfl (by kernel_rfl) fun args H n e hF => ?_
  obtain ⟨a, b, rfl, rfl⟩ := fn2_inv hF
  refine ⟨Nat.le_of_ble_eq_true rfl, ?_⟩
  simp only [idxL]
  have hE : Env Try.prog [] D K := env fnsOk_nil
  refine IW.seq ?_
  refine IW.reg hE ?_
  refine vcS_val rfl rfl (ox_assign (pl (v := enc (0 : UInt64)) rfl)) ?_
  refine vcS_val rfl rfl (ox_assign (pl (v := enc (0 : UInt64)) rfl)) ?_
  refine vcS_nil ?_
  refine IW.seq ?_
  refine IW.reg hE ?_
  refine vcS_val rfl rfl (ox_move (pl rfl)) ?_
  refine vcS_val rfl rfl (ox_bin (pl rfl) (pl (v := enc (4294967295 : UInt64)) rfl) (bo_u64_and _ _)) ?_
  refine vcS_val rfl rfl (ox_assign (pl rfl)) ?_
  refine vcS_nil ?_
  refine IW.seq ?_
  refine IW.reg hE ?_
  refine vcS_val rfl rfl (ox_move (pl rfl)) ?_
  refine vcS_val rfl rfl (ox_bin (pl rfl) (pl (v := enc (32 : UInt64)) rfl) (bo_u64_shr _ (by omega))) ?_
  refine vcS_val rfl rfl (ox_assign (pl rfl)) ?_
  refine vcS_nil ?_
  refine IW.seq ?_
  refine IW.reg hE ?_
  refine vcS_val rfl rfl (ox_move (pl rfl)) ?_
  refine vcS_val rfl rfl (ox_bin (pl rfl) (pl (v := enc (4294967295 : UInt64)) rfl) (bo_u64_and _ _)) ?_
  refine vcS_val rfl rfl (ox_assign (pl rfl)) ?_
  refine vcS_nil ?_
  refine IW.seq ?_
  refine IW.reg hE ?_
  refine vcS_val rfl rfl (ox_move (pl rfl)) ?_
  refine vcS_val rfl rfl (ox_bin (pl rfl) (pl (v := enc (32 : UInt64)) rfl) (bo_u64_shr _ (by omega))) ?_
  refine vcS_val rfl rfl (ox_assign (pl rfl)) ?_
  refine vcS_nil ?_
  refine IW.seq ?_
  refine IW.reg hE ?_
  refine vcS_val rfl rfl (ox_move (pl rfl)) ?_
  refine vcS_val rfl rfl (ox_move (pl rfl)) ?_
  refine vcS_val rfl rfl (ox_bin (pl rfl) (pl rfl) (bo_u64_mul _ _)) ?_
  refine vcS_val rfl rfl (ox_assign (pl rfl)) ?_
  refine vcS_nil ?_
  refine IW.seq ?_
  refine IW.reg hE ?_
  refine vcS_val rfl rfl (ox_move (pl rfl)) ?_
  refine vcS_val rfl rfl (ox_move (pl rfl)) ?_
  refine vcS_val rfl rfl (ox_bin (pl rfl) (pl rfl) (bo_u64_mul _ _)) ?_
  refine vcS_val rfl rfl (ox_move (pl rfl)) ?_
  refine vcS_val rfl rfl (ox_bin (pl rfl) (pl (v := enc (32 : UInt64)) rfl) (bo_u64_shr _ (by omega))) ?_
  refine vcS_val rfl rfl (ox_bin (pl rfl) (pl rfl) (bo_u64_add _ _)) ?_
  refine vcS_val rfl rfl (ox_assign (pl rfl)) ?_
  refine vcS_nil ?_
  refine IW.seq ?_
  refine IW.reg hE ?_
  refine vcS_val rfl rfl (ox_move (pl rfl)) ?_
  refine vcS_val rfl rfl (ox_bin (pl rfl) (pl (v := enc (4294967295 : UInt64)) rfl) (bo_u64_and _ _)) ?_
  refine vcS_val rfl rfl (ox_assign (pl rfl)) ?_
  refine vcS_nil ?_
  refine IW.seq ?_
  refine IW.reg hE ?_
  refine vcS_val rfl rfl (ox_move (pl rfl)) ?_
  refine vcS_val rfl rfl (ox_bin (pl rfl) (pl (v := enc (32 : UInt64)) rfl) (bo_u64_shr _ (by omega))) ?_
  refine vcS_val rfl rfl (ox_assign (pl rfl)) ?_
  refine vcS_nil ?_
  refine IW.seq ?_
  refine IW.reg hE ?_
  refine vcS_val rfl rfl (ox_move (pl rfl)) ?_
  refine vcS_val rfl rfl (ox_move (pl rfl)) ?_
  refine vcS_val rfl rfl (ox_move (pl rfl)) ?_
  refine vcS_val rfl rfl (ox_bin (pl rfl) (pl rfl) (bo_u64_mul _ _)) ?_
  refine vcS_val rfl rfl (ox_bin (pl rfl) (pl rfl) (bo_u64_add _ _)) ?_
  refine vcS_val rfl rfl (ox_assign (pl rfl)) ?_
  refine vcS_nil ?_
  refine IW.seq ?_
  refine IW.reg hE ?_
  refine vcS_val rfl rfl (ox_move (pl rfl)) ?_
  refine vcS_val rfl rfl (ox_move (pl rfl)) ?_
  refine vcS_val rfl rfl (ox_bin (pl rfl) (pl rfl) (bo_u64_mul _ _)) ?_
  refine vcS_val rfl rfl (ox_move (pl rfl)) ?_
  refine vcS_val rfl rfl (ox_bin (pl rfl) (pl rfl) (bo_u64_add _ _)) ?_
  refine vcS_val rfl rfl (ox_move (pl rfl)) ?_
  refine vcS_val rfl rfl (ox_bin (pl rfl) (pl (v := enc (32 : UInt64)) rfl) (bo_u64_shr _ (by omega))) ?_
  refine vcS_val rfl rfl (ox_bin (pl rfl) (pl rfl) (bo_u64_add _ _)) ?_
  refine vcS_val rfl rfl (ox_assign (pl rfl)) ?_
  refine vcS_nil ?_
  refine IW.seq ?_
  refine IW.reg hE ?_
  refine vcS_val rfl rfl (ox_move (pl rfl)) ?_
  refine vcS_val rfl rfl (ox_move (pl rfl)) ?_
  refine vcS_val rfl rfl (ox_bin (pl rfl) (pl rfl) (bo_u64_mul _ _)) ?_
  refine vcS_val rfl rfl (ox_assign (pl rfl)) ?_
  refine vcS_nil ?_
  refine IW.ret ?_
  exact RetP.pure (.inr rfl) (v := .tuple #[enc (mulHi a b), enc (a * b)]) rfl (fun x hx => by simp at hx; rcases hx with rfl | rfl <;> trivial) (Nat.le_refl _)
/-! turns -/
def uof (k : Int) : UInt64 := UInt64.ofNat (k % 18446744073709551616).toNat
theorem cv_iu {Γ : Fns} {D : Ty} {K : Kinds} {e : Operand → Value} {H : IHeap} {n : Nat} {s t : TypeId} {x : Operand} {ds dd : TD} {a : Int} (hx : e x = .int .i64 a) (hs : D s = some ds) (hd : D t = some dd) (hk : dd.k = .int .u64) : iopC Γ D K e H n (.convert s t x) = some ⟨enc (uof a), [], n⟩ := by
  rw [ox_conv hx hs hd hk, wrap_u64i, enc_u64, uof, UInt64.toNat_ofNat', Nat.mod_eq_of_lt (by omega)]
  congr 3; omega
def rotL (x : UInt64) (k : Int) : UInt64 := shl64 x (uof k &&& 63).toNat ||| shr64 x (64 - (uof k &&& 63)).toNat
noncomputable def F108 : FnI := fn2 fun (x : UInt64) (k : Int) => enc (rotL x k)
-- math/bits.RotateLeft64 ['UInt64', 'Int'] -> ['UInt64'], results [4]
theorem R108 : Ref Try.prog 108 F108 := by
  refine Ref.of_iw dok Try.func108 rfl (by kernel_rfl) fun args H n e hF => ?_
  obtain ⟨a, b, rfl, rfl⟩ := fn2_inv hF
  refine ⟨Nat.le_of_ble_eq_true rfl, ?_⟩
  simp only [idxL]
  have hE : Env Try.prog [] D K := env fnsOk_nil
  refine IW.seq ?_
  refine IW.reg hE ?_
  refine vcS_val rfl rfl (ox_assign (pl (v := enc (0 : UInt64)) rfl)) ?_
  refine vcS_nil ?_
  refine IW.seq ?_
  refine IW.reg hE ?_
  refine vcS_val rfl rfl (ox_move (pl rfl)) ?_
  refine vcS_val rfl rfl (cv_iu (pl rfl) D_3 D_60 rfl) ?_
  refine vcS_val rfl rfl (ox_bin (pl rfl) (pl (v := enc (63 : UInt64)) rfl) (bo_u64_and _ _)) ?_
  refine vcS_val rfl rfl (ox_assign (pl rfl)) ?_
  refine vcS_nil ?_
  refine IW.seq ?_
  refine IW.reg hE ?_
  refine vcS_val rfl rfl (ox_move (pl rfl)) ?_
  refine vcS_val rfl rfl (ox_move (pl rfl)) ?_
  refine vcS_val rfl rfl (ox_bin (pl rfl) (pl rfl) (bo_u64_shl _ (by omega))) ?_
  refine vcS_val rfl rfl (ox_move (pl rfl)) ?_
  refine vcS_val rfl rfl (ox_move (pl rfl)) ?_
  refine vcS_val rfl rfl (ox_bin (pl (v := enc (64 : UInt64)) rfl) (pl rfl) (bo_u64_sub _ _)) ?_
  refine vcS_val rfl rfl (ox_bin (pl rfl) (pl rfl) (bo_u64_shr _ (by omega))) ?_
  refine vcS_val rfl rfl (ox_bin (pl rfl) (pl rfl) (bo_u64_or _ _)) ?_
  refine vcS_val rfl rfl (ox_assign (pl rfl)) ?_
  refine vcS_nil ?_
  refine IW.ret ?_
  exact RetP.ret (.inr rfl) rfl rfl trivial (rfl)
def rangeI (k : Int) : Bool := decide (-1000 ≤ k) && decide (k ≤ 1000)
noncomputable def rotF (f : UInt64 → Int → UInt64) : FnI := fun args H n => match args with
  | [x, .int .i64 k] => (dec x).bind fun (a : UInt64) => if rangeI k = true then some ⟨enc (f a k), [], n⟩ else none
  | _ => none
theorem rotF_inv {f : UInt64 → Int → UInt64} {args : List Value} {H : IHeap} {n : Nat} {e : Eff} (h : rotF f args H n = some e) : ∃ (a : UInt64) (k : Int), args = [enc a, .int .i64 k] ∧ (-1000 ≤ k ∧ k ≤ 1000) ∧ e = ⟨enc (f a k), [], n⟩ := by
  unfold rotF at h; split at h
  · simp only [Option.bind_eq_some_iff] at h
    obtain ⟨a, ha, h⟩ := h
    split at h
    · rename_i hle; cases h
      simp only [rangeI, Bool.and_eq_true, decide_eq_true_iff] at hle
      exact ⟨a, _, by rw [dec_some ha], hle, rfl⟩
    · cases h
  · cases h
theorem rotF_ev {f : UInt64 → Int → UInt64} {H : IHeap} {n : Nat} (a : UInt64) (k : Int) (hk : rangeI k = true) : rotF f [enc a, .int .i64 k] H n = some ⟨enc (f a k), [], n⟩ := by
  simp only [rotF, dec_enc, Option.bind_some]
  rw [if_pos hk]
def down (x : UInt64) (k : Int) : UInt64 := rotL x (-k)
noncomputable def F90 : FnI := rotF down
-- headwater/sha.down ['UInt64', 'Int'] -> ['UInt64'], results [4]
theorem R90 : Ref Try.prog 90 F90 := by
  refine Ref.of_iw dok Try.func90 rfl (by kernel_rfl) fun args H n e hF => ?_
  obtain ⟨a, b, rfl, hk, rfl⟩ := rotF_inv hF
  refine ⟨Nat.le_of_ble_eq_true rfl, ?_⟩
  simp only [idxL]
  have hE : Env Try.prog [(108, F108)] D K := env (fnsOk_cons R108 fnsOk_nil)
  refine IW.seq ?_
  refine IW.reg hE ?_
  refine vcS_val rfl rfl (ox_assign (pl (v := enc (0 : UInt64)) rfl)) ?_
  refine vcS_nil ?_
  refine IW.seq ?_
  refine IW.reg hE ?_
  refine vcS_val rfl rfl (ox_move (pl rfl)) ?_
  refine vcS_val rfl rfl (ox_move (pl rfl)) ?_
  refine vcS_val rfl rfl (ox_un (pl rfl) (uo_neg_i64 (by omega))) ?_
  refine vcS_val rfl rfl (ox_fn rfl rfl (fn2_ev _ _ _ _ _)) ?_
  refine vcS_val rfl rfl (ox_assign (pl rfl)) ?_
  refine vcS_nil ?_
  refine IW.ret ?_
  exact RetP.ret (.inr rfl) rfl rfl trivial (rfl)
end Go.Proofs.Ytdnnojblneccdaa
/-
  put, Pad.
-/
namespace Go.Proofs.Ytdnnojblneccdaa
set_option linter.unusedSimpArgs false
set_option linter.unusedVariables false
open Go
open Enc (enc)
set_option maxRecDepth 100000
/-- a word's bytes, the high one first -/
def be8 (w : UInt64) : List UInt8 := (List.range 8).map fun i => (shr64 w (56 - 8 * i)).toUInt8
theorem be8_length (w : UInt64) : (be8 w).length = 8 := by simp [be8]
theorem be8_succ {w : UInt64} {s : Nat} (h : s < 8) : (be8 w).take (s + 1) = (be8 w).take s ++ [(shr64 w (56 - 8 * s)).toUInt8] := by
  rw [List.take_succ_eq_append_getElem (by rw [be8_length]; exact h)]
  simp [be8]
noncomputable def F69 : FnI := fun args H n => match args with
  | [.slice (some ⟨id, 0, none⟩) len cap, x] => (dec x).bind fun (w : UInt64) => match H id with
    | some (.cells c false) => (decs c).bind fun (l : List UInt8) => if len + 8 ≤ cap ∧ cap ≤ l.length ∧ cap ≤ 2 ^ 47 then some ⟨.slice (some ⟨id, 0, none⟩) (len + 8) cap, [(id, some (.cells (encs (ovw l len (be8 w))) false))], n⟩ else none
    | _ => none
  | _ => none
theorem F69_inv {args : List Value} {H : IHeap} {n : Nat} {e : Eff} (h : F69 args H n = some e) : ∃ (id len cap : Nat) (w : UInt64) (l : List UInt8), args = [.slice (some ⟨id, 0, none⟩) len cap, enc w] ∧ H id = some (.cells (encs l) false) ∧ len + 8 ≤ cap ∧ cap ≤ l.length ∧ cap ≤ 2 ^ 47 ∧
    e = ⟨.slice (some ⟨id, 0, none⟩) (len + 8) cap, [(id, some (.cells (encs (ovw l len (be8 w))) false))], n⟩ := by
  unfold F69 at h; split at h
  · simp only [Option.bind_eq_some_iff] at h
    obtain ⟨w, hw, h⟩ := h
    split at h
    · rename_i c hc
      simp only [Option.bind_eq_some_iff] at h
      obtain ⟨l, hl, h⟩ := h
      split at h
      · rename_i hle; cases h
        exact ⟨_, _, _, w, l, by rw [dec_some hw], by rw [hc, decs_some hl], hle.1, hle.2.1, hle.2.2, rfl⟩
      · cases h
    · cases h
  · cases h
theorem F69_ev {H : IHeap} {n id len cap : Nat} {w : UInt64} {l : List UInt8} (hH : H id = some (.cells (encs l) false)) (h1 : len + 8 ≤ cap) (h2 : cap ≤ l.length) (h3 : cap ≤ 2 ^ 47) :
    F69 [.slice (some ⟨id, 0, none⟩) len cap, enc w] H n = some ⟨.slice (some ⟨id, 0, none⟩) (len + 8) cap, [(id, some (.cells (encs (ovw l len (be8 w))) false))], n⟩ := by
  simp only [F69, dec_enc, Option.bind_some, hH, decs_encs]
  rw [if_pos ⟨h1, h2, h3⟩]
theorem rdC_b1 {H : IHeap} {id cap : Nat} {sp : Option Nat} {ro : Bool} {b : UInt8} (hH : H id = some (.cells [enc b] ro)) : rdC H (.slice (some ⟨id, 0, sp⟩) 1 cap) = some [b] := rdC_one (α := UInt8) hH
-- headwater/sha.put ['Sl', 'UInt64'] -> ['Sl'], results [4]
theorem R69 : Ref Try.prog 69 F69 := by
  refine Ref.of_iw dok Try.func69 rfl (by kernel_rfl) fun args H n e hF => ?_
  obtain ⟨id, len, cap, w, l, rfl, hH, h1, h2, h3, rfl⟩ := F69_inv hF
  refine ⟨Nat.le_of_ble_eq_true rfl, ?_⟩
  simp only [idxL]
  have hE : Env Try.prog [] D K := env fnsOk_nil
  refine IW.seq ?_
  refine IW.lt (by simp) hH (fun hid => ?_)
  refine IW.free (by simp) (fun hfree => ?_)
  refine IW.reg hE ?_
  refine vcS_val rfl rfl (ox_assign (pl rfl)) ?_
  refine vcS_nil ?_
  refine IW.seq ?_
  refine IW.seq ?_
  refine IW.reg hE ?_
  refine vcS_val rfl rfl (ox_assign (pl rfl)) ?_
  refine vcS_nil ?_
  refine IW.block ?_
  refine IW.loop (S := Nat) (fun s => [(0, .slice (some ⟨id, 0, none⟩) (len + s) cap), (1, enc w), (5, .int .i64 (56 - 8 * s))]) (fun s => [(id, some (.cells (encs (ovw l len ((be8 w).take s))) false))]) (fun s => n + s) (fun s => s ≤ 8) (fun s => 8 - s) (0) (by simp) (⟨rfl, ⟨rfl, ⟨rfl, trivial⟩⟩⟩) (leX_le (leX_same hH (by rw [List.take_zero, ovw_nil]) leX_refl)) (Nat.le_refl _) (fun s hs => ?_)
  refine IW.seq ?_
  refine IW.seq ?_
  refine IW.reg hE ?_
  refine vcS_val rfl rfl (ox_move (pl rfl)) ?_
  refine vcS_val rfl rfl (ox_bin (pl rfl) (pl rfl) (bo_i64_geq _ _)) ?_
  refine vcS_nil ?_
  refine IW.cond rfl (fun hc1 => ?_) (fun hc1 => ?_)
  · replace hc1 := of_decide_eq_true hc1
    have hs8 : s < 8 := by omega
    have hlen8 := be8_length w
    have hT : ((be8 w).take s).length = s := by rw [List.length_take, hlen8]; omega
    have hL : (encs (ovw l len ((be8 w).take s))).length = l.length := by rw [encs_length, ovw_length (by rw [hT]; omega)]
    have hsh : (56 - 8 * (s : Int)).toNat = 56 - 8 * s := by omega
    have hov : ovw (ovw l len ((be8 w).take s)) (len + s) [(shr64 w (56 - 8 * s)).toUInt8] = ovw l len ((be8 w).take s ++ [(shr64 w (56 - 8 * s)).toUInt8]) := ovw_ovw (by rw [hT]) (by rw [hT]; simp; omega)
    refine IW.skip ?_
    refine IW.seq ?_
    refine IW.block ?_
    refine IW.reg hE ?_
    refine vcS_val rfl rfl (ox_move (pl rfl)) ?_
    refine vcS_val rfl rfl (ox_move (pl rfl)) ?_
    refine vcS_val rfl rfl (ox_move (pl rfl)) ?_
    refine vcS_val rfl rfl (ox_bin (pl rfl) (pl rfl) ((bo_u64_shr (b := 56 - 8 * s) w (by omega)).trans (by rw [hsh]))) ?_
    refine vcS_val rfl rfl (cv_6_8 (pl rfl) D_22 D_5 rfl) ?_
    refine vcS_new rfl rfl (ox_bsl (cs := [enc (shr64 w (56 - 8 * s)).toUInt8]) D_35 rfl D_5 (Nat.le_of_ble_eq_true rfl) rfl rfl) (.inl (by omega)) ?_
    refine vcS_appC (p := len + s) (k := 1) rfl rfl rfl rfl rfl D_35 rfl D_5 (srcArg_u8 D_35 rfl rfl (rdC_b1 (hp_eq _ _ _ _))) (by omega) (hp_sk (by omega) (hp_eq _ _ _ _)) (by show 0 + (len + s) * 1 = _; omega) (by rw [hL]; show len + s + 1 ≤ _; omega) (encs_known _) (.inr (by simp [Eff.ids])) splice_encs ?_
    refine vcS_val rfl rfl (ox_assign (pl rfl)) ?_
    refine vcS_nil ?_
    refine IW.nilB ?_
    refine IW.reg hE ?_
    refine vcS_val rfl rfl (ox_move (pl rfl)) ?_
    refine vcS_val rfl rfl (ox_bin (pl rfl) (pl rfl) (bo_i64_sub (by omega))) ?_
    refine vcS_val rfl rfl (ox_assign (pl rfl)) ?_
    refine vcS_nil ?_
    refine IW.nilS ?_
    exact ⟨s + 1, _, _, by omega, by omega, rfl, ⟨rfl, ⟨rfl, ⟨(congrArg (fun z => some (Value.int .i64 z)) (by omega)), trivial⟩⟩⟩, rfl, leX_le (leX_cons (by rw [be8_succ hs8, hov]) (leX_new (hfree _ (by omega)) (leX_old (by simp) leX_refl))), by omega⟩
  · replace hc1 := of_decide_eq_false hc1
    have hs9 : s = 8 := by omega
    subst hs9
    refine IW.exit ?_
    refine exS (exS ?_)
    refine blkQ_exit ?_
    refine IW.seq ?_
    refine IW.reg hE ?_
    refine vcS_val rfl rfl (ox_move (pl rfl)) ?_
    refine vcS_val rfl rfl (ox_assign (pl rfl)) ?_
    refine vcS_nil ?_
    refine IW.ret ?_
    have e8 : (be8 w).take 8 = be8 w := List.take_of_length_le (by rw [be8_length]; omega)
    exact RetP.upd1 (.inr rfl) (ires_tmp rfl) hid (is_some hH) ((hp_eq _ _ _ _).trans (by rw [e8])) (u8_okN1 _) hid
/-! padding -/
def padN (n : Nat) : Nat := (n + 144) / 128 * 128
def padL (b : List UInt8) : List UInt8 := b ++ ([128] ++ (List.replicate (padN b.length - 17 - b.length) 0 ++ (be8 (mulHi (UInt64.ofNat b.length) 8) ++ be8 (UInt64.ofNat b.length * 8))))
theorem padN_ge (n : Nat) : n + 17 ≤ padN n ∧ padN n ≤ n + 144 := by unfold padN; omega
theorem padL_length (b : List UInt8) : (padL b).length = padN b.length := by
  have := padN_ge b.length
  simp [padL, be8_length]; omega
noncomputable def F30 : FnI := fun args H n => match args with
  | [x] => (rdC H x).bind fun (b : List UInt8) => if b.length ≤ 2 ^ 40 then some ⟨.slice (some ⟨n, 0, none⟩) (padN b.length) (padN b.length), [(n, some (.cells (encs (padL b)) false))], n + 1⟩ else none
  | _ => none
theorem F30_inv {args : List Value} {H : IHeap} {n : Nat} {e : Eff} (h : F30 args H n = some e) : ∃ (x : Value) (b : List UInt8), args = [x] ∧ rdC H x = some b ∧ b.length ≤ 2 ^ 40 ∧ e = ⟨.slice (some ⟨n, 0, none⟩) (padN b.length) (padN b.length), [(n, some (.cells (encs (padL b)) false))], n + 1⟩ := by
  unfold F30 at h; split at h
  · simp only [Option.bind_eq_some_iff] at h
    obtain ⟨b, hb, h⟩ := h
    split at h
    · rename_i hle; cases h; exact ⟨_, b, rfl, hb, hle, rfl⟩
    · cases h
  · cases h
theorem F30_ev {x : Value} {H : IHeap} {n : Nat} {b : List UInt8} (hb : rdC H x = some b) (hle : b.length ≤ 2 ^ 40) : F30 [x] H n = some ⟨.slice (some ⟨n, 0, none⟩) (padN b.length) (padN b.length), [(n, some (.cells (encs (padL b)) false))], n + 1⟩ := by
  simp only [F30, hb, Option.bind_some]
  rw [if_pos hle]
/-- the pieces put into zeros, one behind the other -/
theorem padL_steps (b : List UInt8) : ovw (ovw (ovw (ovw (ovw (List.replicate (padN b.length) (0 : UInt8)) 0 b) b.length [128]) (b.length + 1) (List.replicate (padN b.length - 17 - b.length) 0)) (padN b.length - 16) (be8 (mulHi (UInt64.ofNat b.length) 8))) (padN b.length - 8) (be8 (UInt64.ofNat b.length * 8)) = padL b := by
  have hp := padN_ge b.length
  have hz : (List.replicate (padN b.length) (0 : UInt8)).length = padN b.length := by simp
  generalize hB : be8 (mulHi (UInt64.ofNat b.length) 8) = B
  generalize hC : be8 (UInt64.ofNat b.length * 8) = C
  have lB : B.length = 8 := by rw [← hB, be8_length]
  have lC : C.length = 8 := by rw [← hC, be8_length]
  rw [ovw_ovw (x := b) (y := [128]) (by simp) (by rw [hz]; simp; omega)]
  rw [ovw_ovw (y := List.replicate (padN b.length - 17 - b.length) 0) (by simp) (by rw [hz]; simp; omega)]
  rw [ovw_ovw (y := B) (by simp; omega) (by rw [hz]; simp; omega)]
  rw [ovw_ovw (y := C) (by simp; omega) (by rw [hz]; simp; omega)]
  unfold padL ovw
  rw [hB, hC, List.take_zero, List.nil_append, List.drop_of_length_le (by rw [hz]; simp; omega), List.append_nil]
  simp
theorem padL_at (b : List UInt8) (p1 p2 p3 p4 p5 k : Nat) (h1 : p1 = 0) (h2 : p2 = b.length) (h3 : p3 = b.length + 1) (hk : k = padN b.length - 17 - b.length) (h4 : p4 = padN b.length - 16) (h5 : p5 = padN b.length - 8) :
    ovw (ovw (ovw (ovw (ovw (List.replicate (padN b.length) (0 : UInt8)) p1 b) p2 [128]) p3 (List.replicate k 0)) p4 (be8 (mulHi (UInt64.ofNat b.length) 8))) p5 (be8 (UInt64.ofNat b.length * 8)) = padL b := by
  subst h1; subst h2; subst h3; subst hk; subst h4; subst h5
  exact padL_steps b
-- headwater/sha.Pad ['Sl'] -> ['Sl'], results [2]
theorem R30 : Ref Try.prog 30 F30 := by
  refine Ref.of_iw dok Try.func30 rfl (by kernel_rfl) fun args H n e hF => ?_
  obtain ⟨x, b, rfl, hb, hle, rfl⟩ := F30_inv hF
  obtain ⟨xa, xc, rfl⟩ := rdC_len hb
  have hpn := padN_ge b.length
  have hz : (List.replicate (padN b.length) (0 : UInt8)).length = padN b.length := by simp
  have l1 : (ovw (List.replicate (padN b.length) (0 : UInt8)) 0 b).length = padN b.length := by rw [ovw_length (by rw [hz]; omega), hz]
  have l2 : (ovw (ovw (List.replicate (padN b.length) (0 : UInt8)) 0 b) b.length [128]).length = padN b.length := by rw [ovw_length (by rw [l1]; simp; omega), l1]
  have l3 : (ovw (ovw (ovw (List.replicate (padN b.length) (0 : UInt8)) 0 b) b.length [128]) (b.length + 1) (List.replicate (padN b.length - 17 - b.length) 0)).length = padN b.length := by rw [ovw_length (by rw [l2]; simp; omega), l2]
  have l4 : (ovw (ovw (ovw (ovw (List.replicate (padN b.length) (0 : UInt8)) 0 b) b.length [128]) (b.length + 1) (List.replicate (padN b.length - 17 - b.length) 0)) (0 + b.length + 1 + (padN b.length - 17 - b.length)) (be8 (mulHi (UInt64.ofNat b.length) 8))).length = padN b.length := by rw [ovw_length (by rw [l3, be8_length]; omega), l3]
  refine ⟨Nat.le_of_ble_eq_true rfl, ?_⟩
  simp only [idxL]
  have hE : Env Try.prog [(34, F34), (69, F69)] D K := env (fnsOk_cons R34 (fnsOk_cons R69 fnsOk_nil))
  refine IW.seq ?_
  refine IW.free (by simp) (fun hfree => ?_)
  refine IW.reg hE ?_
  refine vcS_val rfl rfl (ox_assign (pl rfl)) ?_
  refine vcS_nil ?_
  refine IW.seq ?_
  refine IW.reg hE ?_
  refine vcS_val rfl rfl (ox_move (pl rfl)) ?_
  refine vcS_val rfl rfl (ox_len (pl rfl) D_35 rfl) ?_
  refine vcS_val rfl rfl (ox_bin (pl rfl) (pl rfl) (bo_i64_add (by omega))) ?_
  refine vcS_val rfl rfl (ox_bin (pl rfl) (pl rfl) (bo_i64_add (by omega))) ?_
  refine vcS_val rfl rfl (ox_bin (pl rfl) (pl rfl) (bo_i64_add (by omega))) ?_
  refine vcS_val rfl rfl (ox_bin (pl rfl) (pl rfl) (bo_i64_sub (by omega))) ?_
  refine vcS_val rfl rfl (ox_bin (pl rfl) (pl rfl) (bo_i64_quo (b.length + 144) 128 (by omega) rfl (by decide) (by omega))) ?_
  refine vcS_val rfl rfl (ox_bin (pl rfl) (pl rfl) ((bo_i64_mul (by omega)).trans (congrArg (fun z => some (Value.int .i64 z)) (show _ = ((padN b.length : Nat) : Int) by unfold padN; omega)))) ?_
  refine vcS_val rfl rfl (ox_assign (pl rfl)) ?_
  refine vcS_nil ?_
  refine IW.seq ?_
  refine IW.reg hE ?_
  refine vcS_val rfl rfl (ox_move (pl rfl)) ?_
  refine vcS_new rfl rfl (ox_makeN 0 (padN b.length) (0 : UInt8) (pl rfl) rfl (pl rfl) rfl D_35 rfl D_5 rfl (Nat.zero_le _) (by simp only [most]; omega) (by show 1 * _ ≤ _; omega)) (.inl (by omega)) ?_
  refine vcS_val rfl rfl (ox_move (pl rfl)) ?_
  refine vcS_appC (p := 0) (k := b.length) rfl rfl rfl rfl rfl D_35 rfl D_5 (srcArg_u8 D_35 rfl rfl (rdC_keep hfree hb (by exact ⟨by omega, trivial⟩))) (by omega) (hp_eq _ _ _ _) (by show _ + _ * 1 = _; omega) (by rw [encs_length, encs_length, hz]; omega) (encs_known _) (.inl (by omega)) splice_encs ?_
  refine vcS_val rfl rfl (ox_assign (pl rfl)) ?_
  refine vcS_nil ?_
  refine IW.seq ?_
  refine IW.reg hE ?_
  refine vcS_val rfl rfl (ox_move (pl rfl)) ?_
  refine vcS_new rfl rfl (ox_bsl (cs := [enc (128 : UInt8)]) D_35 rfl D_5 (Nat.le_of_ble_eq_true rfl) rfl rfl) (.inl (by omega)) ?_
  refine vcS_appC (p := b.length) (k := 1) rfl rfl rfl rfl rfl D_35 rfl D_5 (srcArg_u8 D_35 rfl rfl (rdC_b1 (hp_eq _ _ _ _))) (by omega) (hp_sk (by omega) (hp_eq _ _ _ _)) (by show _ + _ * 1 = _; omega) (by rw [encs_length (α := UInt8), encs_length, l1]; show b.length + 1 ≤ _; omega) (encs_known _) (.inl (by omega)) splice_encs ?_
  refine vcS_val rfl rfl (ox_assign (pl rfl)) ?_
  refine vcS_nil ?_
  refine IW.seq ?_
  refine IW.reg hE ?_
  refine vcS_val rfl rfl (ox_move (pl rfl)) ?_
  refine vcS_val rfl rfl (ox_move (pl rfl)) ?_
  refine vcS_val rfl rfl (ox_bin (pl rfl) (pl rfl) (bo_i64_sub (by omega))) ?_
  refine vcS_val rfl rfl (ox_move (pl rfl)) ?_
  refine vcS_val rfl rfl (ox_len (pl rfl) D_35 rfl) ?_
  refine vcS_val rfl rfl (ox_bin (pl rfl) (pl rfl) (bo_i64_sub (by omega))) ?_
  refine vcS_appC (p := b.length + 1) (k := (padN b.length - 17 - b.length)) rfl rfl rfl rfl rfl D_35 rfl D_5 (srcArg_intE (padN b.length - 17 - b.length) (0 : UInt8) D_3 rfl (by simp; omega) (by simp only [most]; omega) (by show _ * 1 ≤ _; omega) rfl) (by omega) (hp_eq _ _ _ _) (by show _ + _ * 1 = _; omega) (by rw [encs_length, encs_length, l2, List.length_replicate]; omega) (encs_known _) (.inl (by omega)) splice_encs ?_
  refine vcS_val rfl rfl (ox_assign (pl rfl)) ?_
  refine vcS_nil ?_
  refine IW.seq ?_
  refine IW.reg hE ?_
  refine vcS_val rfl rfl (ox_move (pl rfl)) ?_
  refine vcS_val rfl rfl (ox_len (pl rfl) D_35 rfl) ?_
  refine vcS_val rfl rfl (cv_i_6 b.length (pl rfl) D_3 D_22 rfl rfl) ?_
  refine vcS_val rfl rfl (ox_fn rfl rfl (fn2_ev _ (UInt64.ofNat b.length) (8 : UInt64) _ _)) ?_
  refine vcS_val rfl rfl (ox_move (pl rfl)) ?_
  refine vcS_val rfl rfl (ox_extract (pl rfl) rfl) ?_
  refine vcS_val rfl rfl (ox_extract (pl rfl) rfl) ?_
  refine vcS_val rfl rfl (ox_assign (pl rfl)) ?_
  refine vcS_val rfl rfl (ox_assign (pl rfl)) ?_
  refine vcS_nil ?_
  refine IW.seq ?_
  refine IW.reg hE ?_
  refine vcS_val rfl rfl (ox_move (pl rfl)) ?_
  refine vcS_val rfl rfl (ox_move (pl rfl)) ?_
  refine vcS_ups rfl rfl (ox_fn rfl rfl (F69_ev (len := 0 + b.length + 1 + (padN b.length - 17 - b.length)) (hp_eq _ _ _ _) (by omega) (by rw [l3]; omega) (by omega))) rfl ⟨.inl (by omega), trivial⟩ ?_
  refine vcS_val rfl rfl (ox_move (pl rfl)) ?_
  refine vcS_ups rfl rfl (ox_fn rfl rfl (F69_ev (len := 0 + b.length + 1 + (padN b.length - 17 - b.length) + 8) (hp_eq _ _ _ _) (by omega) (by rw [l4]; omega) (by omega))) rfl ⟨.inl (by omega), trivial⟩ ?_
  refine vcS_val rfl rfl (ox_assign (pl rfl)) ?_
  refine vcS_nil ?_
  refine IW.ret ?_
  exact RetP.new1 (.inr rfl) ((ires_tmp rfl).trans (congrArg (fun z => some (Value.slice (some ⟨n, 0, none⟩) z (padN b.length))) (show _ = padN b.length by omega))) (Nat.le_refl _) ((hp_eq _ _ _ _).trans (by rw [padL_at b _ _ _ _ _ _ (by omega) (by omega) (by omega) rfl (by omega) (by omega)])) (by rw [← cels_u8]; exact u8_plain _)
end Go.Proofs.Ytdnnojblneccdaa
/-
  through, Piece: one piece of a sum.
-/
namespace Go.Proofs.Ytdnnojblneccdaa
set_option linter.unusedSimpArgs false
set_option linter.unusedVariables false
open Go
open Enc (enc)
set_option maxRecDepth 100000
/-- the words of a piece: sixteen out of its bytes -/
def w1 (pl : List UInt8) : Nat → List UInt64
  | 0 => (Vector.replicate 80 (0 : UInt64)).toList
  | i + 1 => (w1 pl i).set (i / 8) (shl64 ((w1 pl i).getD (i / 8) 0) 8 ||| (pl.getD i 0).toUInt64)
def wf (l : List UInt64) (t : Nat) : UInt64 :=
  let x := l.getD (t - 15) 0
  let y := l.getD (t - 2) 0
  l.getD (t - 16) 0 + l.getD (t - 7) 0 + (down x 1 ^^^ down x 8 ^^^ shr64 x 7) + (down y 19 ^^^ down y 61 ^^^ shr64 y 6)
/-- .. and the others out of these -/
def w2 (pl : List UInt8) : Nat → List UInt64
  | 0 => w1 pl 128
  | t + 1 => (w2 pl t).set (16 + t) (wf (w2 pl t) (16 + t))
structure W8 where
  a : UInt64
  b : UInt64
  c : UInt64
  d : UInt64
  e : UInt64
  f : UInt64
  g : UInt64
  h : UInt64
def W8.of (l : List UInt64) : W8 := ⟨l.getD 0 0, l.getD 1 0, l.getD 2 0, l.getD 3 0, l.getD 4 0, l.getD 5 0, l.getD 6 0, l.getD 7 0⟩
def W8.list (s : W8) : List UInt64 := [s.a, s.b, s.c, s.d, s.e, s.f, s.g, s.h]
def sm1 (s : W8) (k w : UInt64) : UInt64 := s.h + (down s.e 14 ^^^ down s.e 18 ^^^ down s.e 41) + (s.g ^^^ (s.e &&& (s.f ^^^ s.g))) + k + w
def sm2 (s : W8) : UInt64 := (down s.a 28 ^^^ down s.a 34 ^^^ down s.a 39) + ((s.a &&& s.b) ||| (s.c &&& (s.a ||| s.b)))
def r3 (kl wl : List UInt64) (s : W8) : Nat → W8
  | 0 => s
  | t + 1 => let r := r3 kl wl s t; let t1 := sm1 r (kl.getD t 0) (wl.getD t 0); ⟨t1 + sm2 r, r.a, r.b, r.c, r.d + t1, r.e, r.f, r.g⟩
def s4 (sl x : List UInt64) : Nat → List UInt64
  | 0 => sl
  | i + 1 => (s4 sl x i).set i ((s4 sl x i).getD i 0 + x.getD i 0)
def thrL (kl sl : List UInt64) (pl : List UInt8) : List UInt64 := s4 sl (r3 kl (w2 pl 64) (W8.of sl) 80).list 8
theorem w1_length (pl : List UInt8) : ∀ i, (w1 pl i).length = 80
  | 0 => rfl
  | i + 1 => by simp [w1, w1_length pl i]
theorem w2_length (pl : List UInt8) : ∀ i, (w2 pl i).length = 80
  | 0 => w1_length pl 128
  | i + 1 => by simp [w2, w2_length pl i]
theorem s4_length (sl x : List UInt64) : ∀ i, (s4 sl x i).length = sl.length
  | 0 => rfl
  | i + 1 => by simp [s4, s4_length sl x i]
def thr (kl : List UInt64) (s : Vector UInt64 8) (pl : List UInt8) : Vector UInt64 8 := ⟨(thrL kl s.toList pl).toArray, by simp [thrL, s4_length]⟩
theorem thr_toList (kl : List UInt64) (s : Vector UInt64 8) (pl : List UInt8) : (thr kl s pl).toList = thrL kl s.toList pl := by simp [thr]
noncomputable def F74 : FnI := fun args H n => match args with
  | [.pointer (some ⟨ik, 0, none⟩), x, .pointer (some ⟨ip, 0, none⟩)] => (dec x).bind fun (s : Vector UInt64 8) => match H ik, H ip with
    | some (.cells ck _), some (.cells cp _) => (decs ck).bind fun (kl : List UInt64) => (decs cp).bind fun (pl : List UInt8) => if kl.length = 80 ∧ pl.length = 128 then some ⟨enc (thr kl s pl), [], n⟩ else none
    | _, _ => none
  | _ => none
theorem F74_inv {args : List Value} {H : IHeap} {n : Nat} {e : Eff} (h : F74 args H n = some e) : ∃ (ik ip : Nat) (rk rp : Bool) (s : Vector UInt64 8) (kl : List UInt64) (pl : List UInt8), args = [.pointer (some ⟨ik, 0, none⟩), enc s, .pointer (some ⟨ip, 0, none⟩)] ∧ H ik = some (.cells (encs kl) rk) ∧ H ip = some (.cells (encs pl) rp) ∧ kl.length = 80 ∧ pl.length = 128 ∧ e = ⟨enc (thr kl s pl), [], n⟩ := by
  unfold F74 at h; split at h
  · simp only [Option.bind_eq_some_iff] at h
    obtain ⟨s, hs, h⟩ := h
    split at h
    · rename_i ck rk cp rp h1 h2
      simp only [Option.bind_eq_some_iff] at h
      obtain ⟨kl, hk, pl, hp, h⟩ := h
      split at h
      · rename_i hl; cases h
        exact ⟨_, _, rk, rp, s, kl, pl, by rw [dec_some hs], by rw [h1, decs_some hk], by rw [h2, decs_some hp], hl.1, hl.2, rfl⟩
      · cases h
    · cases h
  · cases h
theorem F74_ev {H : IHeap} {n ik ip : Nat} {rk rp : Bool} {s : Vector UInt64 8} {kl : List UInt64} {pl : List UInt8} (h1 : H ik = some (.cells (encs kl) rk)) (h2 : H ip = some (.cells (encs pl) rp)) (h3 : kl.length = 80) (h4 : pl.length = 128) :
    F74 [.pointer (some ⟨ik, 0, none⟩), enc s, .pointer (some ⟨ip, 0, none⟩)] H n = some ⟨enc (thr kl s pl), [], n⟩ := by
  simp only [F74, dec_enc, Option.bind_some, h1, h2, decs_encs]
  rw [if_pos ⟨h3, h4⟩]
set_option maxHeartbeats 2000000
-- headwater/sha.through ['?', 'Vector UInt64 8', '?'] -> ['Vector UInt64 8'], results [[6, 50]]
theorem R74 : Ref Try.prog 74 F74 := by
  refine Ref.of_iw dok Try.func74 rfl (by kernel_rfl) fun args H n e hF => ?_
  obtain ⟨ik, ip, rk, rp, s, kl, ps, rfl, hk, hpp, hkl, hpl, rfl⟩ := F74_inv hF
  refine ⟨Nat.le_of_ble_eq_true rfl, ?_⟩
  simp only [idxL]
  have hE : Env Try.prog [(90, F90)] D K := env (fnsOk_cons R90 fnsOk_nil)
  refine IW.seq ?_
  refine IW.lt (by simp) hk (fun hik => ?_)
  refine IW.lt (by simp) hpp (fun hip => ?_)
  refine IW.free (by simp) (fun hfree => ?_)
  refine IW.reg hE ?_
  refine vcS_new rfl rfl (ox_box (pl rfl) rfl) (.inl (by omega)) ?_
  refine vcS_new rfl rfl (ox_allocZ (cs := encs (Vector.replicate 8 (0 : UInt64)).toList) D_50 rfl) (.inl (by omega)) ?_
  refine vcS_nil ?_
  refine IW.seq ?_
  refine IW.reg hE ?_
  refine vcS_new rfl rfl (ox_allocZ (cs := encs (Vector.replicate 80 (0 : UInt64)).toList) D_48 rfl) (.inl (by omega)) ?_
  refine vcS_nil ?_
  refine IW.seq ?_
  refine IW.seq ?_
  refine IW.reg hE ?_
  refine vcS_val rfl rfl (ox_move (pl rfl)) ?_
  refine vcS_val rfl rfl (ox_move (pl rfl)) ?_
  refine vcS_nil ?_
  refine IW.block ?_
  refine IW.loop (S := Nat) (fun i => [(0, .pointer (some ⟨ik, 0, none⟩)), (4, .pointer (some ⟨n, 0, none⟩)), (6, .pointer (some ⟨n + 1, 0, none⟩)), (7, .pointer (some ⟨n + 1 + 1, 0, none⟩)), (26, .pointer (some ⟨ip, 0, none⟩)), (27, .int .i64 i)]) (fun i => [(n + 1 + 1, some (.cells (encs (w1 ps i)) false)), (n + 1, some (.cells (encs (Vector.replicate 8 (0 : UInt64)).toList) false)), (n, some (.cells (encs s.toList) false))]) (fun i => n + 1 + 1 + 1) (fun i => i ≤ 128) (fun i => 128 - i) (0) (by simp) (⟨rfl, ⟨rfl, ⟨rfl, ⟨rfl, ⟨rfl, ⟨rfl, trivial⟩⟩⟩⟩⟩⟩) (fun _ _ h => h) (Nat.le_refl _) (fun i hi => ?_)
  refine IW.seq ?_
  refine IW.reg hE ?_
  refine vcS_val rfl rfl (ox_bin (pl rfl) (pl rfl) (bo_i64_lss _ _)) ?_
  refine vcS_nil ?_
  refine IW.seq ?_
  refine IW.cond rfl (fun hc1 => ?_) (fun hc1 => ?_)
  · replace hc1 := of_decide_eq_true hc1
    refine IW.skip ?_
    refine IW.seq ?_
    refine IW.block ?_
    refine IW.seq ?_
    refine IW.drw hE mixed [[],[],[1],[1,2],[0],[0,1,2,3,4]] (by kernel_rfl) (vcE_start ?_)
    refine vcE_bl rfl rfl (fun _ => ox_move (pl rfl)) rfl rfl ?_
    refine vcE_bl rfl rfl (fun _ => ox_nilCheck (pl rfl)) rfl rfl ?_
    refine vcE_bl rfl rfl (fun _ => ox_iaA (pl rfl) (pl rfl) D_63 rfl D_5 (by omega) (by omega)) rfl rfl ?_
    refine vcE_val rfl rfl rfl rfl (ox_load (pl rfl) D_5 (hp_keep hfree hpp (by exact ⟨by omega, ⟨by omega, ⟨by omega, trivial⟩⟩⟩)) (rd_ix (i) (0 : UInt8) rfl (by simp) (by omega))) rfl (si_load (pl rfl)) (lt1 (by omega)) (trivial) ?_
    refine vcE_bl rfl rfl (fun _ => ox_assign (pl rfl)) rfl rfl ?_
    refine vcE_bl rfl rfl (fun _ => ox_assign (pl rfl)) rfl rfl ?_
    refine vcE_nil ?_
    refine IW.reg hE ?_
    refine vcS_val rfl rfl (ox_move (pl rfl)) ?_
    refine vcS_val rfl rfl (ox_bin (pl rfl) (pl rfl) (bo_i64_quo i 8 rfl rfl (by decide) (by omega))) ?_
    refine vcS_val rfl rfl (ox_move (pl rfl)) ?_
    refine vcS_val rfl rfl (ox_bin (pl rfl) (pl rfl) (bo_i64_quo i 8 rfl rfl (by decide) (by omega))) ?_
    refine vcS_val rfl rfl (ox_iaA (pl rfl) (pl rfl) D_48 rfl D_22 (by omega) (by omega)) ?_
    refine vcS_val rfl rfl (ox_load (pl rfl) D_22 (hp_eq _ _ _ _) (rd_ix (i / 8) (0 : UInt64) rfl (by simp; omega) (by rw [w1_length]; omega))) ?_
    refine vcS_val rfl rfl (ox_bin (pl rfl) (pl (v := enc (8 : UInt64)) rfl) (bo_u64_shl _ (by omega))) ?_
    refine vcS_val rfl rfl (ox_move (pl rfl)) ?_
    refine vcS_val rfl rfl (cv_8_6 (pl rfl) D_5 D_22 rfl) ?_
    refine vcS_val rfl rfl (ox_bin (pl rfl) (pl rfl) (bo_u64_or _ _)) ?_
    refine vcS_val rfl rfl (ox_iaA (pl rfl) (pl rfl) D_48 rfl D_22 (by omega) (by omega)) ?_
    refine vcS_sto rfl rfl (ox_store (pl rfl) (pl rfl) D_22 (hp_eq _ _ _ _) rfl rfl (by rw [encs_length]; have := (show i / 8 < (w1 ps i).length by rw [w1_length]; omega); simp; omega) rfl (wr_ix (i / 8) (by simp; omega) _)) (.inl (by omega)) ?_
    refine vcS_nil ?_
    refine IW.nilB ?_
    refine IW.reg hE ?_
    refine vcS_val rfl rfl (ox_bin (pl rfl) (pl rfl) (bo_i64_add (by omega))) ?_
    refine vcS_val rfl rfl (ox_move (pl rfl)) ?_
    refine vcS_nil ?_
    refine IW.nilS ?_
    exact ⟨i + 1, _, _, by omega, by omega, rfl, ⟨rfl, ⟨rfl, ⟨rfl, ⟨rfl, ⟨rfl, ⟨rfl, trivial⟩⟩⟩⟩⟩⟩, rfl, leX_le (leX_cons rfl (leX_old (by simp) leX_refl)), Nat.le_refl _⟩
  · replace hc1 := of_decide_eq_false hc1
    have h128 : i = 128 := by omega
    subst h128
    refine IW.exit ?_
    refine exS (exS ?_)
    refine blkQ_exit ?_
    refine IW.seq ?_
    refine IW.seq ?_
    refine IW.reg hE ?_
    refine vcS_val rfl rfl (ox_assign (pl rfl)) ?_
    refine vcS_nil ?_
    refine IW.block ?_
    refine IW.loop (S := Nat) (fun i => [(0, .pointer (some ⟨ik, 0, none⟩)), (4, .pointer (some ⟨n, 0, none⟩)), (6, .pointer (some ⟨n + 1, 0, none⟩)), (7, .pointer (some ⟨n + 1 + 1, 0, none⟩)), (10, .int .i64 ((16 + i : Nat) : Int))]) (fun i => [(n + 1 + 1, some (.cells (encs (w2 ps i)) false)), (n + 1, some (.cells (encs (Vector.replicate 8 (0 : UInt64)).toList) false)), (n, some (.cells (encs s.toList) false))]) (fun i => n + 1 + 1 + 1) (fun i => i ≤ 64) (fun i => 64 - i) (0) (by simp) (⟨rfl, ⟨rfl, ⟨rfl, ⟨rfl, ⟨rfl, trivial⟩⟩⟩⟩⟩) (fun _ _ h => h) (Nat.le_refl _) (fun i hi => ?_)
    refine IW.seq ?_
    refine IW.seq ?_
    refine IW.reg hE ?_
    refine vcS_val rfl rfl (ox_move (pl rfl)) ?_
    refine vcS_val rfl rfl (ox_bin (pl rfl) (pl rfl) (bo_i64_lss _ _)) ?_
    refine vcS_nil ?_
    refine IW.cond rfl (fun hc2 => ?_) (fun hc2 => ?_)
    · replace hc2 := of_decide_eq_true hc2
      refine IW.skip ?_
      refine IW.seq ?_
      refine IW.block ?_
      refine IW.seq ?_
      refine IW.drw hE mixed [[],[0],[0,1],[0,1,2],[],[4],[4,5],[4,5,6],[0,1,2,3],[0,1,2,3,4,5,6,7,8]] (by kernel_rfl) (vcE_start ?_)
      refine vcE_bl rfl rfl (fun _ => ox_move (pl rfl)) rfl rfl ?_
      refine vcE_bl rfl rfl (fun _ => ox_bin (pl rfl) (pl rfl) (bo_i64_sub (by omega))) rfl rfl ?_
      refine vcE_bl rfl rfl (fun _ => ox_iaA (pl rfl) (pl rfl) D_48 rfl D_22 (by omega) (by omega)) rfl rfl ?_
      refine vcE_val rfl rfl rfl rfl (ox_load (pl rfl) D_22 (hp_eq _ _ _ _) (rd_ix (16 + i - 15) (0 : UInt64) rfl (by simp; omega) (by rw [w2_length]; omega))) rfl (si_load (pl rfl)) (lt1 (by omega)) (trivial) ?_
      refine vcE_bl rfl rfl (fun _ => ox_move (pl rfl)) rfl rfl ?_
      refine vcE_bl rfl rfl (fun _ => ox_bin (pl rfl) (pl rfl) (bo_i64_sub (by omega))) rfl rfl ?_
      refine vcE_bl rfl rfl (fun _ => ox_iaA (pl rfl) (pl rfl) D_48 rfl D_22 (by omega) (by omega)) rfl rfl ?_
      refine vcE_val rfl rfl rfl rfl (ox_load (pl rfl) D_22 (hp_eq _ _ _ _) (rd_ix (16 + i - 2) (0 : UInt64) rfl (by simp; omega) (by rw [w2_length]; omega))) rfl (si_load (pl rfl)) (lt1 (by omega)) (trivial) ?_
      refine vcE_bl rfl rfl (fun _ => ox_assign (pl rfl)) rfl rfl ?_
      refine vcE_bl rfl rfl (fun _ => ox_assign (pl rfl)) rfl rfl ?_
      refine vcE_nil ?_
      refine IW.drw hE mixed [[],[],[1],[1,2],[1,2,3],[],[5],[5,6],[5,6,7],[1,2,3,4,5,6,7,8],[],[10],[],[10,11,12],[10,11,12,13],[],[15],[10,11,12,13,14,15,16],[1,2,3,4,5,6,7,8,9,10,11,12,13,14,15,16,17],[],[10,11,12,13,19],[],[10,11,12,13,19,20,21],[10,11,12,13,19,20,21,22],[],[24],[10,11,12,13,19,20,21,22,23,24,25],[1,2,3,4,5,6,7,8,9,10,11,12,13,14,15,16,17,18,19,20,21,22,23,24,25,26],[0,1,2,3,4,5,6,7,8,9,10,11,12,13,14,15,16,17,18,19,20,21,22,23,24,25,26,27],[0,1,2,3,4,5,6,7,8,9,10,11,12,13,14,15,16,17,18,19,20,21,22,23,24,25,26,27,28]] (by kernel_rfl) (vcE_start ?_)
      refine vcE_bl rfl rfl (fun _ => ox_move (pl rfl)) rfl rfl ?_
      refine vcE_bl rfl rfl (fun _ => ox_move (pl rfl)) rfl rfl ?_
      refine vcE_bl rfl rfl (fun _ => ox_bin (pl rfl) (pl rfl) (bo_i64_sub (by omega))) rfl rfl ?_
      refine vcE_bl rfl rfl (fun _ => ox_iaA (pl rfl) (pl rfl) D_48 rfl D_22 (by omega) (by omega)) rfl rfl ?_
      refine vcE_val rfl rfl rfl rfl (ox_load (pl rfl) D_22 (hp_eq _ _ _ _) (rd_ix (16 + i - 16) (0 : UInt64) rfl (by simp; omega) (by rw [w2_length]; omega))) rfl (si_load (pl rfl)) (lt1 (by omega)) (trivial) ?_
      refine vcE_bl rfl rfl (fun _ => ox_move (pl rfl)) rfl rfl ?_
      refine vcE_bl rfl rfl (fun _ => ox_bin (pl rfl) (pl rfl) (bo_i64_sub (by omega))) rfl rfl ?_
      refine vcE_bl rfl rfl (fun _ => ox_iaA (pl rfl) (pl rfl) D_48 rfl D_22 (by omega) (by omega)) rfl rfl ?_
      refine vcE_val rfl rfl rfl rfl (ox_load (pl rfl) D_22 (hp_eq _ _ _ _) (rd_ix (16 + i - 7) (0 : UInt64) rfl (by simp; omega) (by rw [w2_length]; omega))) rfl (si_load (pl rfl)) (lt1 (by omega)) (trivial) ?_
      refine vcE_bl rfl rfl (fun _ => ox_bin (pl rfl) (pl rfl) (bo_u64_add _ _)) rfl rfl ?_
      refine vcE_bl rfl rfl (fun _ => ox_move (pl rfl)) rfl rfl ?_
      refine vcE_call rfl rfl rfl rfl (ox_fn rfl rfl (rotF_ev _ _ rfl)) rfl ltu0 (trivial) ?_
      refine vcE_bl rfl rfl (fun _ => ox_move (pl rfl)) rfl rfl ?_
      refine vcE_call rfl rfl rfl rfl (ox_fn rfl rfl (rotF_ev _ _ rfl)) rfl ltu0 (trivial) ?_
      refine vcE_bl rfl rfl (fun _ => ox_bin (pl rfl) (pl rfl) (bo_u64_xor _ _)) rfl rfl ?_
      refine vcE_bl rfl rfl (fun _ => ox_move (pl rfl)) rfl rfl ?_
      refine vcE_bl rfl rfl (fun _ => ox_bin (pl rfl) (pl (v := enc (7 : UInt64)) rfl) (bo_u64_shr _ (by omega))) rfl rfl ?_
      refine vcE_bl rfl rfl (fun _ => ox_bin (pl rfl) (pl rfl) (bo_u64_xor _ _)) rfl rfl ?_
      refine vcE_bl rfl rfl (fun _ => ox_bin (pl rfl) (pl rfl) (bo_u64_add _ _)) rfl rfl ?_
      refine vcE_bl rfl rfl (fun _ => ox_move (pl rfl)) rfl rfl ?_
      refine vcE_call rfl rfl rfl rfl (ox_fn rfl rfl (rotF_ev _ _ rfl)) rfl ltu0 (trivial) ?_
      refine vcE_bl rfl rfl (fun _ => ox_move (pl rfl)) rfl rfl ?_
      refine vcE_call rfl rfl rfl rfl (ox_fn rfl rfl (rotF_ev _ _ rfl)) rfl ltu0 (trivial) ?_
      refine vcE_bl rfl rfl (fun _ => ox_bin (pl rfl) (pl rfl) (bo_u64_xor _ _)) rfl rfl ?_
      refine vcE_bl rfl rfl (fun _ => ox_move (pl rfl)) rfl rfl ?_
      refine vcE_bl rfl rfl (fun _ => ox_bin (pl rfl) (pl (v := enc (6 : UInt64)) rfl) (bo_u64_shr _ (by omega))) rfl rfl ?_
      refine vcE_bl rfl rfl (fun _ => ox_bin (pl rfl) (pl rfl) (bo_u64_xor _ _)) rfl rfl ?_
      refine vcE_bl rfl rfl (fun _ => ox_bin (pl rfl) (pl rfl) (bo_u64_add _ _)) rfl rfl ?_
      refine vcE_bl rfl rfl (fun _ => ox_iaA (pl rfl) (pl rfl) D_48 rfl D_22 (by omega) (by omega)) rfl rfl ?_
      refine vcE_sto rfl rfl rfl rfl (ox_store (pl rfl) (pl rfl) D_22 (hp_eq _ _ _ _) rfl rfl (by rw [encs_length]; have := (show 16 + i < (w2 ps i).length by rw [w2_length]; omega); simp; omega) rfl (wr_ix (16 + i) (by simp; omega) _)) rfl (si_store (pl rfl)) (is_some (hp_eq _ _ _ _)) (by omega) (.inl (by omega)) (trivial) (⟨trivial, ⟨trivial, ⟨trivial, ⟨trivial, ⟨trivial, ⟨trivial, trivial⟩⟩⟩⟩⟩⟩) ?_
      refine vcE_nil ?_
      refine IW.nilB ?_
      refine IW.reg hE ?_
      refine vcS_val rfl rfl (ox_move (pl rfl)) ?_
      refine vcS_val rfl rfl (ox_bin (pl rfl) (pl rfl) (bo_i64_add (by omega))) ?_
      refine vcS_val rfl rfl (ox_assign (pl rfl)) ?_
      refine vcS_nil ?_
      refine IW.nilS ?_
      exact ⟨i + 1, _, _, by omega, by omega, rfl, ⟨rfl, ⟨rfl, ⟨rfl, ⟨rfl, ⟨(congrArg (fun z => some (Value.int .i64 z)) (by omega)), trivial⟩⟩⟩⟩⟩, rfl, leX_le (leX_cons rfl (leX_old (by simp) leX_refl)), Nat.le_refl _⟩
    · replace hc2 := of_decide_eq_false hc2
      have h64 : i = 64 := by omega
      subst h64
      refine IW.exit ?_
      refine exS (exS ?_)
      refine blkQ_exit ?_
      refine IW.seq ?_
      refine IW.drw hE mixed [[],[0],[],[2],[],[4],[],[6],[],[8],[],[10],[],[12],[],[14],[0,1],[0,1,2,3,16],[0,1,2,3,4,5,16,17],[0,1,2,3,4,5,6,7,16,17,18],[0,1,2,3,4,5,6,7,8,9,16,17,18,19],[0,1,2,3,4,5,6,7,8,9,10,11,16,17,18,19,20],[0,1,2,3,4,5,6,7,8,9,10,11,12,13,16,17,18,19,20,21],[0,1,2,3,4,5,6,7,8,9,10,11,12,13,14,15,16,17,18,19,20,21,22]] (by kernel_rfl) (vcE_start ?_)
      refine vcE_bl rfl rfl (fun _ => ox_iaA (pl rfl) (pl rfl) D_50 rfl D_22 (by omega) (by omega)) rfl rfl ?_
      refine vcE_val rfl rfl rfl rfl (ox_load (pl rfl) D_22 (hp_sk (by omega) (hp_sk (by omega) (hp_eq _ _ _ _))) (rd_ix (0) (0 : UInt64) rfl (by simp) (by simp))) rfl (si_load (pl rfl)) (lt1 (by omega)) (trivial) ?_
      refine vcE_bl rfl rfl (fun _ => ox_iaA (pl rfl) (pl rfl) D_50 rfl D_22 (by omega) (by omega)) rfl rfl ?_
      refine vcE_val rfl rfl rfl rfl (ox_load (pl rfl) D_22 (hp_sk (by omega) (hp_sk (by omega) (hp_eq _ _ _ _))) (rd_ix (1) (0 : UInt64) rfl (by simp) (by simp))) rfl (si_load (pl rfl)) (lt1 (by omega)) (trivial) ?_
      refine vcE_bl rfl rfl (fun _ => ox_iaA (pl rfl) (pl rfl) D_50 rfl D_22 (by omega) (by omega)) rfl rfl ?_
      refine vcE_val rfl rfl rfl rfl (ox_load (pl rfl) D_22 (hp_sk (by omega) (hp_sk (by omega) (hp_eq _ _ _ _))) (rd_ix (2) (0 : UInt64) rfl (by simp) (by simp))) rfl (si_load (pl rfl)) (lt1 (by omega)) (trivial) ?_
      refine vcE_bl rfl rfl (fun _ => ox_iaA (pl rfl) (pl rfl) D_50 rfl D_22 (by omega) (by omega)) rfl rfl ?_
      refine vcE_val rfl rfl rfl rfl (ox_load (pl rfl) D_22 (hp_sk (by omega) (hp_sk (by omega) (hp_eq _ _ _ _))) (rd_ix (3) (0 : UInt64) rfl (by simp) (by simp))) rfl (si_load (pl rfl)) (lt1 (by omega)) (trivial) ?_
      refine vcE_bl rfl rfl (fun _ => ox_iaA (pl rfl) (pl rfl) D_50 rfl D_22 (by omega) (by omega)) rfl rfl ?_
      refine vcE_val rfl rfl rfl rfl (ox_load (pl rfl) D_22 (hp_sk (by omega) (hp_sk (by omega) (hp_eq _ _ _ _))) (rd_ix (4) (0 : UInt64) rfl (by simp) (by simp))) rfl (si_load (pl rfl)) (lt1 (by omega)) (trivial) ?_
      refine vcE_bl rfl rfl (fun _ => ox_iaA (pl rfl) (pl rfl) D_50 rfl D_22 (by omega) (by omega)) rfl rfl ?_
      refine vcE_val rfl rfl rfl rfl (ox_load (pl rfl) D_22 (hp_sk (by omega) (hp_sk (by omega) (hp_eq _ _ _ _))) (rd_ix (5) (0 : UInt64) rfl (by simp) (by simp))) rfl (si_load (pl rfl)) (lt1 (by omega)) (trivial) ?_
      refine vcE_bl rfl rfl (fun _ => ox_iaA (pl rfl) (pl rfl) D_50 rfl D_22 (by omega) (by omega)) rfl rfl ?_
      refine vcE_val rfl rfl rfl rfl (ox_load (pl rfl) D_22 (hp_sk (by omega) (hp_sk (by omega) (hp_eq _ _ _ _))) (rd_ix (6) (0 : UInt64) rfl (by simp) (by simp))) rfl (si_load (pl rfl)) (lt1 (by omega)) (trivial) ?_
      refine vcE_bl rfl rfl (fun _ => ox_iaA (pl rfl) (pl rfl) D_50 rfl D_22 (by omega) (by omega)) rfl rfl ?_
      refine vcE_val rfl rfl rfl rfl (ox_load (pl rfl) D_22 (hp_sk (by omega) (hp_sk (by omega) (hp_eq _ _ _ _))) (rd_ix (7) (0 : UInt64) rfl (by simp) (by simp))) rfl (si_load (pl rfl)) (lt1 (by omega)) (trivial) ?_
      refine vcE_bl rfl rfl (fun _ => ox_assign (pl rfl)) rfl rfl ?_
      refine vcE_bl rfl rfl (fun _ => ox_assign (pl rfl)) rfl rfl ?_
      refine vcE_bl rfl rfl (fun _ => ox_assign (pl rfl)) rfl rfl ?_
      refine vcE_bl rfl rfl (fun _ => ox_assign (pl rfl)) rfl rfl ?_
      refine vcE_bl rfl rfl (fun _ => ox_assign (pl rfl)) rfl rfl ?_
      refine vcE_bl rfl rfl (fun _ => ox_assign (pl rfl)) rfl rfl ?_
      refine vcE_bl rfl rfl (fun _ => ox_assign (pl rfl)) rfl rfl ?_
      refine vcE_bl rfl rfl (fun _ => ox_assign (pl rfl)) rfl rfl ?_
      refine vcE_nil ?_
      refine IW.seq ?_
      refine IW.seq ?_
      refine IW.reg hE ?_
      refine vcS_val rfl rfl (ox_move (pl rfl)) ?_
      refine vcS_nil ?_
      refine IW.block ?_
      refine IW.loop (S := Nat) (fun i => [(0, .pointer (some ⟨ik, 0, none⟩)), (4, .pointer (some ⟨n, 0, none⟩)), (6, .pointer (some ⟨n + 1, 0, none⟩)), (7, .pointer (some ⟨n + 1 + 1, 0, none⟩)), (13, enc (r3 kl (w2 ps 64) (W8.of s.toList) i).a), (14, enc (r3 kl (w2 ps 64) (W8.of s.toList) i).b), (15, enc (r3 kl (w2 ps 64) (W8.of s.toList) i).c), (16, enc (r3 kl (w2 ps 64) (W8.of s.toList) i).d), (17, enc (r3 kl (w2 ps 64) (W8.of s.toList) i).e), (18, enc (r3 kl (w2 ps 64) (W8.of s.toList) i).f), (19, enc (r3 kl (w2 ps 64) (W8.of s.toList) i).g), (20, enc (r3 kl (w2 ps 64) (W8.of s.toList) i).h), (102, .int .i64 i)]) (fun i => [(n + 1 + 1, some (.cells (encs (w2 ps 64)) false)), (n + 1, some (.cells (encs (Vector.replicate 8 (0 : UInt64)).toList) false)), (n, some (.cells (encs s.toList) false))]) (fun i => n + 1 + 1 + 1) (fun i => i ≤ 80) (fun i => 80 - i) (0) (by simp) (⟨rfl, ⟨rfl, ⟨rfl, ⟨rfl, ⟨rfl, ⟨rfl, ⟨rfl, ⟨rfl, ⟨rfl, ⟨rfl, ⟨rfl, ⟨rfl, ⟨rfl, trivial⟩⟩⟩⟩⟩⟩⟩⟩⟩⟩⟩⟩⟩) (fun _ _ h => h) (Nat.le_refl _) (fun i hi => ?_)
      refine IW.seq ?_
      refine IW.reg hE ?_
      refine vcS_val rfl rfl (ox_bin (pl rfl) (pl rfl) (bo_i64_lss _ _)) ?_
      refine vcS_nil ?_
      refine IW.seq ?_
      refine IW.cond rfl (fun hc3 => ?_) (fun hc3 => ?_)
      · replace hc3 := of_decide_eq_true hc3
        refine IW.skip ?_
        refine IW.seq ?_
        refine IW.block ?_
        refine IW.seq ?_
        refine IW.reg hE ?_
        refine vcS_val rfl rfl (ox_move (pl rfl)) ?_
        refine vcS_val rfl rfl (ox_assign (pl rfl)) ?_
        refine vcS_nil ?_
        refine IW.seq ?_
        refine IW.drw hE mixed [[],[],[1],[],[1,2,3],[1,2,3,4],[],[1,2,3,4,6],[1,2,3,4,5,6,7],[0,1,2,3,4,5,6,7,8],[],[],[],[],[12,13],[11,12,13,14],[10,11,12,13,14,15],[0,1,2,3,4,5,6,7,8,9,10,11,12,13,14,15,16],[],[],[18],[18,19,20],[18,19,20,21],[0,1,2,3,4,5,6,7,8,9,10,11,12,13,14,15,16,17,18,19,20,21,22],[],[24],[24,25],[0,1,2,3,4,5,6,7,8,9,10,11,12,13,14,15,16,17,18,19,20,21,22,23,24,25,26],[0,1,2,3,4,5,6,7,8,9,10,11,12,13,14,15,16,17,18,19,20,21,22,23,24,25,26,27]] (by kernel_rfl) (vcE_start ?_)
        refine vcE_bl rfl rfl (fun _ => ox_move (pl rfl)) rfl rfl ?_
        refine vcE_bl rfl rfl (fun _ => ox_move (pl rfl)) rfl rfl ?_
        refine vcE_call rfl rfl rfl rfl (ox_fn rfl rfl (rotF_ev _ _ rfl)) rfl ltu0 (trivial) ?_
        refine vcE_bl rfl rfl (fun _ => ox_move (pl rfl)) rfl rfl ?_
        refine vcE_call rfl rfl rfl rfl (ox_fn rfl rfl (rotF_ev _ _ rfl)) rfl ltu0 (trivial) ?_
        refine vcE_bl rfl rfl (fun _ => ox_bin (pl rfl) (pl rfl) (bo_u64_xor _ _)) rfl rfl ?_
        refine vcE_bl rfl rfl (fun _ => ox_move (pl rfl)) rfl rfl ?_
        refine vcE_call rfl rfl rfl rfl (ox_fn rfl rfl (rotF_ev _ _ rfl)) rfl ltu0 (trivial) ?_
        refine vcE_bl rfl rfl (fun _ => ox_bin (pl rfl) (pl rfl) (bo_u64_xor _ _)) rfl rfl ?_
        refine vcE_bl rfl rfl (fun _ => ox_bin (pl rfl) (pl rfl) (bo_u64_add _ _)) rfl rfl ?_
        refine vcE_bl rfl rfl (fun _ => ox_move (pl rfl)) rfl rfl ?_
        refine vcE_bl rfl rfl (fun _ => ox_move (pl rfl)) rfl rfl ?_
        refine vcE_bl rfl rfl (fun _ => ox_move (pl rfl)) rfl rfl ?_
        refine vcE_bl rfl rfl (fun _ => ox_move (pl rfl)) rfl rfl ?_
        refine vcE_bl rfl rfl (fun _ => ox_bin (pl rfl) (pl rfl) (bo_u64_xor _ _)) rfl rfl ?_
        refine vcE_bl rfl rfl (fun _ => ox_bin (pl rfl) (pl rfl) (bo_u64_and _ _)) rfl rfl ?_
        refine vcE_bl rfl rfl (fun _ => ox_bin (pl rfl) (pl rfl) (bo_u64_xor _ _)) rfl rfl ?_
        refine vcE_bl rfl rfl (fun _ => ox_bin (pl rfl) (pl rfl) (bo_u64_add _ _)) rfl rfl ?_
        refine vcE_bl rfl rfl (fun _ => ox_move (pl rfl)) rfl rfl ?_
        refine vcE_bl rfl rfl (fun _ => ox_move (pl rfl)) rfl rfl ?_
        refine vcE_bl rfl rfl (fun _ => ox_nilCheck (pl rfl)) rfl rfl ?_
        refine vcE_bl rfl rfl (fun _ => ox_iaA (pl rfl) (pl rfl) D_48 rfl D_22 (by omega) (by omega)) rfl rfl ?_
        refine vcE_val rfl rfl rfl rfl (ox_load (pl rfl) D_22 (hp_keep hfree hk (by exact ⟨by omega, ⟨by omega, ⟨by omega, trivial⟩⟩⟩)) (rd_ix (i) (0 : UInt64) rfl (by simp) (by omega))) rfl (si_load (pl rfl)) (lt1 (by omega)) (trivial) ?_
        refine vcE_bl rfl rfl (fun _ => ox_bin (pl rfl) (pl rfl) (bo_u64_add _ _)) rfl rfl ?_
        refine vcE_bl rfl rfl (fun _ => ox_move (pl rfl)) rfl rfl ?_
        refine vcE_bl rfl rfl (fun _ => ox_iaA (pl rfl) (pl rfl) D_48 rfl D_22 (by omega) (by omega)) rfl rfl ?_
        refine vcE_val rfl rfl rfl rfl (ox_load (pl rfl) D_22 (hp_eq _ _ _ _) (rd_ix (i) (0 : UInt64) rfl (by simp) (by rw [w2_length]; omega))) rfl (si_load (pl rfl)) (lt1 (by omega)) (trivial) ?_
        refine vcE_bl rfl rfl (fun _ => ox_bin (pl rfl) (pl rfl) (bo_u64_add _ _)) rfl rfl ?_
        refine vcE_bl rfl rfl (fun _ => ox_assign (pl rfl)) rfl rfl ?_
        refine vcE_nil ?_
        refine IW.seq ?_
        refine IW.reg hE ?_
        refine vcS_val rfl rfl (ox_move (pl rfl)) ?_
        refine vcS_val rfl rfl (ox_fn rfl rfl (rotF_ev _ _ rfl)) ?_
        refine vcS_val rfl rfl (ox_move (pl rfl)) ?_
        refine vcS_val rfl rfl (ox_fn rfl rfl (rotF_ev _ _ rfl)) ?_
        refine vcS_val rfl rfl (ox_bin (pl rfl) (pl rfl) (bo_u64_xor _ _)) ?_
        refine vcS_val rfl rfl (ox_move (pl rfl)) ?_
        refine vcS_val rfl rfl (ox_fn rfl rfl (rotF_ev _ _ rfl)) ?_
        refine vcS_val rfl rfl (ox_bin (pl rfl) (pl rfl) (bo_u64_xor _ _)) ?_
        refine vcS_val rfl rfl (ox_move (pl rfl)) ?_
        refine vcS_val rfl rfl (ox_move (pl rfl)) ?_
        refine vcS_val rfl rfl (ox_bin (pl rfl) (pl rfl) (bo_u64_and _ _)) ?_
        refine vcS_val rfl rfl (ox_move (pl rfl)) ?_
        refine vcS_val rfl rfl (ox_move (pl rfl)) ?_
        refine vcS_val rfl rfl (ox_move (pl rfl)) ?_
        refine vcS_val rfl rfl (ox_bin (pl rfl) (pl rfl) (bo_u64_or _ _)) ?_
        refine vcS_val rfl rfl (ox_bin (pl rfl) (pl rfl) (bo_u64_and _ _)) ?_
        refine vcS_val rfl rfl (ox_bin (pl rfl) (pl rfl) (bo_u64_or _ _)) ?_
        refine vcS_val rfl rfl (ox_bin (pl rfl) (pl rfl) (bo_u64_add _ _)) ?_
        refine vcS_val rfl rfl (ox_assign (pl rfl)) ?_
        refine vcS_nil ?_
        refine IW.reg hE ?_
        refine vcS_val rfl rfl (ox_move (pl rfl)) ?_
        refine vcS_val rfl rfl (ox_move (pl rfl)) ?_
        refine vcS_val rfl rfl (ox_bin (pl rfl) (pl rfl) (bo_u64_add _ _)) ?_
        refine vcS_val rfl rfl (ox_move (pl rfl)) ?_
        refine vcS_val rfl rfl (ox_move (pl rfl)) ?_
        refine vcS_val rfl rfl (ox_move (pl rfl)) ?_
        refine vcS_val rfl rfl (ox_move (pl rfl)) ?_
        refine vcS_val rfl rfl (ox_move (pl rfl)) ?_
        refine vcS_val rfl rfl (ox_bin (pl rfl) (pl rfl) (bo_u64_add _ _)) ?_
        refine vcS_val rfl rfl (ox_move (pl rfl)) ?_
        refine vcS_val rfl rfl (ox_move (pl rfl)) ?_
        refine vcS_val rfl rfl (ox_move (pl rfl)) ?_
        refine vcS_val rfl rfl (ox_assign (pl rfl)) ?_
        refine vcS_val rfl rfl (ox_assign (pl rfl)) ?_
        refine vcS_val rfl rfl (ox_assign (pl rfl)) ?_
        refine vcS_val rfl rfl (ox_assign (pl rfl)) ?_
        refine vcS_val rfl rfl (ox_assign (pl rfl)) ?_
        refine vcS_val rfl rfl (ox_assign (pl rfl)) ?_
        refine vcS_val rfl rfl (ox_assign (pl rfl)) ?_
        refine vcS_val rfl rfl (ox_assign (pl rfl)) ?_
        refine vcS_nil ?_
        refine IW.nilB ?_
        refine IW.reg hE ?_
        refine vcS_val rfl rfl (ox_bin (pl rfl) (pl rfl) (bo_i64_add (by omega))) ?_
        refine vcS_val rfl rfl (ox_move (pl rfl)) ?_
        refine vcS_nil ?_
        refine IW.nilS ?_
        exact ⟨i + 1, _, _, by omega, by omega, rfl, ⟨rfl, ⟨rfl, ⟨rfl, ⟨rfl, ⟨rfl, ⟨rfl, ⟨rfl, ⟨rfl, ⟨rfl, ⟨rfl, ⟨rfl, ⟨rfl, ⟨rfl, trivial⟩⟩⟩⟩⟩⟩⟩⟩⟩⟩⟩⟩⟩, rfl, fun _ _ h => h, Nat.le_refl _⟩
      · replace hc3 := of_decide_eq_false hc3
        have h80 : i = 80 := by omega
        subst h80
        refine IW.exit ?_
        refine exS (exS ?_)
        refine blkQ_exit ?_
        refine IW.seq ?_
        refine IW.seq ?_
        refine IW.reg hE ?_
        refine vcS_val rfl rfl (ox_move (pl rfl)) ?_
        refine vcS_val rfl rfl (ox_move (pl rfl)) ?_
        refine vcS_val rfl rfl (ox_move (pl rfl)) ?_
        refine vcS_val rfl rfl (ox_move (pl rfl)) ?_
        refine vcS_val rfl rfl (ox_move (pl rfl)) ?_
        refine vcS_val rfl rfl (ox_move (pl rfl)) ?_
        refine vcS_val rfl rfl (ox_move (pl rfl)) ?_
        refine vcS_val rfl rfl (ox_move (pl rfl)) ?_
        refine vcS_val rfl rfl (ox_buildA (cs := encs (r3 kl (w2 ps 64) (W8.of s.toList) 80).list) D_50 rfl D_22 rfl rfl) ?_
        refine vcS_val rfl rfl (ox_move (pl rfl)) ?_
        refine vcS_nil ?_
        refine IW.block ?_
        refine IW.loop (S := Nat) (fun i => [(4, .pointer (some ⟨n, 0, none⟩)), (6, .pointer (some ⟨n + 1, 0, none⟩)), (172, .agg (encs (r3 kl (w2 ps 64) (W8.of s.toList) 80).list).toArray), (173, .int .i64 i)]) (fun i => [(n, some (.cells (encs (s4 s.toList (r3 kl (w2 ps 64) (W8.of s.toList) 80).list i)) false)), (n + 1, some (.cells (encs (Vector.replicate 8 (0 : UInt64)).toList) false))]) (fun i => n + 1 + 1 + 1) (fun i => i ≤ 8) (fun i => 8 - i) (0) (by simp) (⟨rfl, ⟨rfl, ⟨rfl, ⟨rfl, trivial⟩⟩⟩⟩) (leX_le (leX_same (hp_sk (by omega) (hp_sk (by omega) (hp_eq _ _ _ _))) rfl (leX_new (free_hp hfree (by omega) ⟨by omega, trivial⟩) (leX_cons rfl (leX_old (by simp) leX_refl))))) (Nat.le_refl _) (fun i hi => ?_)
        refine IW.seq ?_
        refine IW.reg hE ?_
        refine vcS_val rfl rfl (ox_bin (pl rfl) (pl rfl) (bo_i64_lss _ _)) ?_
        refine vcS_nil ?_
        refine IW.seq ?_
        refine IW.cond rfl (fun hc4 => ?_) (fun hc4 => ?_)
        · replace hc4 := of_decide_eq_true hc4
          refine IW.skip ?_
          refine IW.seq ?_
          refine IW.block ?_
          refine IW.seq ?_
          refine IW.reg hE ?_
          refine vcS_val rfl rfl (ox_move (pl rfl)) ?_
          refine vcS_val rfl rfl (ox_ixA (pl rfl) (pl rfl) D_50 rfl D_22 (by omega) (by omega) (rd_ix (i) (0 : UInt64) rfl (by simp) (by simp [W8.list]; omega))) ?_
          refine vcS_val rfl rfl (ox_assign (pl rfl)) ?_
          refine vcS_val rfl rfl (ox_assign (pl rfl)) ?_
          refine vcS_nil ?_
          refine IW.reg hE ?_
          refine vcS_val rfl rfl (ox_move (pl rfl)) ?_
          refine vcS_val rfl rfl (ox_iaA (pl rfl) (pl rfl) D_50 rfl D_22 (by omega) (by omega)) ?_
          refine vcS_val rfl rfl (ox_load (pl rfl) D_22 (hp_eq _ _ _ _) (rd_ix (i) (0 : UInt64) rfl (by simp) (by rw [s4_length]; simp; omega))) ?_
          refine vcS_val rfl rfl (ox_move (pl rfl)) ?_
          refine vcS_val rfl rfl (ox_bin (pl rfl) (pl rfl) (bo_u64_add _ _)) ?_
          refine vcS_val rfl rfl (ox_iaA (pl rfl) (pl rfl) D_50 rfl D_22 (by omega) (by omega)) ?_
          refine vcS_sto rfl rfl (ox_store (pl rfl) (pl rfl) D_22 (hp_eq _ _ _ _) rfl rfl (by rw [encs_length]; have := (show i < (s4 s.toList (r3 kl (w2 ps 64) (W8.of s.toList) 80).list i).length by rw [s4_length]; simp; omega); simp; omega) rfl (wr_ix (i) (by simp) _)) (.inl (by omega)) ?_
          refine vcS_nil ?_
          refine IW.nilB ?_
          refine IW.reg hE ?_
          refine vcS_val rfl rfl (ox_bin (pl rfl) (pl rfl) (bo_i64_add (by omega))) ?_
          refine vcS_val rfl rfl (ox_move (pl rfl)) ?_
          refine vcS_nil ?_
          refine IW.nilS ?_
          exact ⟨i + 1, _, _, by omega, by omega, rfl, ⟨rfl, ⟨rfl, ⟨rfl, ⟨rfl, trivial⟩⟩⟩⟩, rfl, leX_le (leX_cons rfl (leX_old (by simp) leX_refl)), Nat.le_refl _⟩
        · replace hc4 := of_decide_eq_false hc4
          have h8 : i = 8 := by omega
          subst h8
          have hthr : s4 s.toList (r3 kl (w2 ps 64) (W8.of s.toList) 80).list 8 = (thr kl s ps).toList := (thr_toList _ _ _).symm
          rw [hthr]
          refine IW.exit ?_
          refine exS (exS ?_)
          refine blkQ_exit ?_
          refine IW.seq ?_
          refine IW.reg hE ?_
          refine vcS_val rfl rfl (ox_load (pl rfl) D_50 (hp_eq _ _ _ _) (rd_all rfl (encs_vec_length _))) ?_
          refine vcS_sto rfl rfl (ox_store (pl rfl) (pl rfl) D_50 (hp_sk (by omega) (hp_eq _ _ _ _)) rfl (encs_vec_length _) (le_vec _ rfl) (encs_known _) (wr_all (by simp only [encs_vec_length]))) (.inl (by omega)) ?_
          refine vcS_nil ?_
          refine IW.ret ?_
          exact RetP.pure (.inr rfl) (ires_cell rfl D_50 (hp_eq _ _ _ _) (rd_all rfl (encs_vec_length (thr kl s ps)))) (okV64 _) (by omega)
end Go.Proofs.Ytdnnojblneccdaa
/-
  Piece; slices.Grow, slices.Concat of bytes; slices.Chunk; all pieces.
-/
namespace Go.Proofs.Ytdnnojblneccdaa
set_option linter.unusedSimpArgs false
set_option linter.unusedVariables false
open Go
open Enc (enc)
set_option maxRecDepth 100000
def zU8 : List Value := [.int .u8 0]
def F104 : FnI := growF 1 1 zU8
-- slices.Grow[[]byte,byte] ['Sl', 'Int'] -> ['Sl'], results [4]
theorem R104 : Ref Try.prog 104 F104 := by
  refine Ref.of_iw dok Try.func104 rfl (by kernel_rfl) fun args H n e hF => ?_
  obtain ⟨k, rfl, hk, rfl⟩ := growF_inv hF
  have hk1 : k ≤ 2 ^ 47 := by simp only [most] at hk; omega
  refine ⟨Nat.le_of_ble_eq_true rfl, ?_⟩
  simp only [idxL]
  have hE : Env Try.prog [] D K := env fnsOk_nil
  refine IW.seq ?_
  refine IW.reg hE ?_
  refine vcS_val rfl rfl (ox_assign (pl rfl)) ?_
  refine vcS_nil ?_
  refine IW.seq ?_
  refine IW.seq ?_
  refine IW.reg hE ?_
  refine vcS_val rfl rfl (ox_move (pl rfl)) ?_
  refine vcS_val rfl rfl (ox_bin (pl rfl) (pl rfl) (bo_i64_lss _ _)) ?_
  refine vcS_nil ?_
  refine IW.cond rfl (fun hc1 => ?_) (fun hc1 => ?_)
  · exact absurd (of_decide_eq_true hc1) (by omega)
  · replace hc1 := of_decide_eq_false hc1
    refine IW.skip ?_
    refine IW.seq ?_
    refine IW.seq ?_
    refine IW.reg hE ?_
    refine vcS_val rfl rfl (ox_move (pl rfl)) ?_
    refine vcS_val rfl rfl (ox_move (pl rfl)) ?_
    refine vcS_val rfl rfl (ox_capN (pl rfl) D_35 rfl) ?_
    refine vcS_val rfl rfl (ox_move (pl rfl)) ?_
    refine vcS_val rfl rfl (ox_len (pl rfl) D_35 rfl) ?_
    refine vcS_val rfl rfl (ox_bin (pl rfl) (pl rfl) (bo_i64_sub (by omega))) ?_
    refine vcS_val rfl rfl (ox_bin (pl rfl) (pl rfl) (bo_i64_sub (by omega))) ?_
    refine vcS_val rfl rfl (ox_assign (pl rfl)) ?_
    refine vcS_nil ?_
    refine IW.seq ?_
    refine IW.reg hE ?_
    refine vcS_val rfl rfl (ox_move (pl rfl)) ?_
    refine vcS_val rfl rfl (ox_bin (pl rfl) (pl rfl) (bo_i64_gtr _ _)) ?_
    refine vcS_nil ?_
    refine IW.cond rfl (fun hc2 => ?_) (fun hc2 => ?_)
    · replace hc2 := of_decide_eq_true hc2
      refine IW.reg hE ?_
      refine vcS_val rfl rfl (ox_move (pl rfl)) ?_
      refine vcS_val rfl rfl (ox_move (pl rfl)) ?_
      refine vcS_val rfl rfl (ox_capN (pl rfl) D_35 rfl) ?_
      refine vcS_val rfl rfl (ox_slN (pl rfl) D_35 rfl D_5 rfl) ?_
      refine vcS_val rfl rfl (ox_move (pl rfl)) ?_
      refine vcS_new rfl rfl (ox_appZ (pl rfl) ((pl rfl).trans (congrArg (Value.int .i64) (show _ = ((k : Nat) : Int) by omega))) D_35 rfl D_5 D_3 rfl (by omega) hk (by decide)) (.inl (by omega)) ?_
      refine vcS_val rfl rfl (ox_move (pl rfl)) ?_
      refine vcS_val rfl rfl (ox_len (pl rfl) D_35 rfl) ?_
      refine vcS_val rfl rfl (ox_slH (pl rfl) D_35 rfl D_5 (bndI (pl rfl) rfl) (Nat.zero_le _) (.inr rfl)) ?_
      refine vcS_val rfl rfl (ox_assign (pl rfl)) ?_
      refine vcS_nil ?_
      refine IW.seq ?_
      refine IW.reg hE ?_
      refine vcS_val rfl rfl (ox_move (pl rfl)) ?_
      refine vcS_val rfl rfl (ox_assign (pl rfl)) ?_
      refine vcS_nil ?_
      refine IW.ret ?_
      rw [growE_pos (by omega)]; exact RetP.new1 (.inr rfl) (ires_tmp rfl) (Nat.le_refl _) (hp_eq _ _ _ _) (rep_plain (by decide) _)
    · replace hc2 := of_decide_eq_false hc2
      refine IW.skip ?_
      refine IW.seq ?_
      refine IW.reg hE ?_
      refine vcS_val rfl rfl (ox_move (pl rfl)) ?_
      refine vcS_val rfl rfl (ox_assign (pl rfl)) ?_
      refine vcS_nil ?_
      refine IW.ret ?_
      have e0 : k = 0 := by omega
      subst e0; rw [growE_zero]; exact RetP.ret (.inr rfl) rfl rfl trivial rfl
noncomputable def F85 : FnI := concF UInt8 1
-- slices.Concat[[]byte,byte] ['Sl'] -> ['Sl'], results [2]
theorem R85 : Ref Try.prog 85 F85 := by
  refine Ref.of_iw dok Try.func85 rfl (by kernel_rfl) fun args H n e hF => ?_
  obtain ⟨xa, xc, S, ls, rfl, hS, hls, hle, hto, rfl⟩ := concF_inv hF
  have hlen := (rdL_get hls).1
  have htt : ls.flatten.length ≤ 2 ^ 47 := by simp only [most] at hto; omega
  refine ⟨Nat.le_of_ble_eq_true rfl, ?_⟩
  simp only [idxL]
  have hE : Env Try.prog [(104, F104)] D K := env (fnsOk_cons R104 fnsOk_nil)
  refine IW.seq ?_
  refine IW.reg hE ?_
  refine vcS_val rfl rfl (ox_assign (pl rfl)) ?_
  refine vcS_nil ?_
  refine IW.seq ?_
  refine IW.free (by simp) (fun hfree => ?_)
  refine IW.reg hE ?_
  refine vcS_val rfl rfl (ox_assign (pl rfl)) ?_
  refine vcS_nil ?_
  refine IW.seq ?_
  refine IW.seq ?_
  refine IW.reg hE ?_
  refine vcS_val rfl rfl (ox_move (pl rfl)) ?_
  refine vcS_val rfl rfl (ox_len (pl rfl) D_94 rfl) ?_
  refine vcS_val rfl rfl (ox_move (pl rfl)) ?_
  refine vcS_nil ?_
  refine IW.block ?_
  refine IW.loop (S := Nat) (fun s => [(0, .slice xa S.length xc), (2, .slice none 0 0), (9, .slice xa S.length xc), (10, .int .i64 S.length), (11, .int .i64 s), (3, .int .i64 (firsts ls s).length)]) (fun s => []) (fun s => n) (fun s => s ≤ S.length) (fun s => S.length - s) (0) (by simp) (⟨rfl, ⟨rfl, ⟨rfl, ⟨rfl, ⟨rfl, ⟨rfl, trivial⟩⟩⟩⟩⟩⟩) (fun _ _ h => h) (Nat.le_refl _) (fun s hs => ?_)
  refine IW.seq ?_
  refine IW.reg hE ?_
  refine vcS_val rfl rfl (ox_bin (pl rfl) (pl rfl) (bo_i64_lss _ _)) ?_
  refine vcS_nil ?_
  refine IW.seq ?_
  refine IW.cond rfl (fun hc1 => ?_) (fun hc1 => ?_)
  · replace hc1 := of_decide_eq_true hc1
    have hc1 : s < S.length := by omega
    obtain ⟨i1, o1, p1, c1, r1, e1, m1, l1⟩ := rdC_at hS hc1
    subst e1
    obtain ⟨sa, sc, hi, es, hr⟩ := rdL_at hls hc1
    have hb := firsts_le hi
    refine IW.skip ?_
    refine IW.seq ?_
    refine IW.block ?_
    refine IW.seq ?_
    refine IW.reg hE ?_
    refine vcS_val rfl rfl (ox_iaS (pl rfl) (pl rfl) D_94 rfl D_35 (by omega) (by omega)) ?_
    refine vcS_val rfl rfl (ox_load (pl rfl) D_35 m1 (rd_hdr l1 hc1 es rfl rfl)) ?_
    refine vcS_val rfl rfl (ox_assign (pl rfl)) ?_
    refine vcS_nil ?_
    refine IW.seq ?_
    refine IW.reg hE ?_
    refine vcS_val rfl rfl (ox_move (pl rfl)) ?_
    refine vcS_val rfl rfl (ox_move (pl rfl)) ?_
    refine vcS_val rfl rfl (ox_len (pl rfl) D_35 rfl) ?_
    refine vcS_val rfl rfl (ox_bin (pl rfl) (pl rfl) (bo_i64_add (by omega))) ?_
    refine vcS_val rfl rfl (ox_assign (pl rfl)) ?_
    refine vcS_nil ?_
    refine IW.seq ?_
    refine IW.reg hE ?_
    refine vcS_val rfl rfl (ox_move (pl rfl)) ?_
    refine vcS_val rfl rfl (ox_bin (pl rfl) (pl rfl) (bo_i64_lss _ _)) ?_
    refine vcS_nil ?_
    refine IW.cond rfl (fun hc2 => ?_) (fun hc2 => ?_)
    · exact absurd (of_decide_eq_true hc2) (by omega)
    · replace hc2 := of_decide_eq_false hc2
      refine IW.skip ?_
      refine IW.nilB ?_
      refine IW.reg hE ?_
      refine vcS_val rfl rfl (ox_bin (pl rfl) (pl rfl) (bo_i64_add (by omega))) ?_
      refine vcS_val rfl rfl (ox_move (pl rfl)) ?_
      refine vcS_nil ?_
      refine IW.nilS ?_
      exact ⟨s + 1, _, _, by omega, by omega, rfl, ⟨rfl, ⟨rfl, ⟨rfl, ⟨rfl, ⟨rfl, ⟨(by rw [firsts_succ hi, List.length_append]; rfl), trivial⟩⟩⟩⟩⟩⟩, rfl, fun _ _ h => h, Nat.le_refl _⟩
  · replace hc1 := of_decide_eq_false hc1
    have hs2 : firsts ls s = ls.flatten := firsts_all (by omega)
    rw [hs2]
    refine IW.exit ?_
    refine exS (exS ?_)
    refine blkQ_exit ?_
    refine IW.seq ?_
    by_cases h0 : ls.flatten.length = 0
    · refine IW.reg hE ?_
      refine vcS_val rfl rfl (ox_move (pl rfl)) ?_
      refine vcS_ups rfl rfl (ox_fn rfl rfl (growF_ev0 h0)) rfl trivial ?_
      refine vcS_val rfl rfl (ox_assign (pl rfl)) ?_
      refine vcS_nil ?_
      refine IW.seq ?_
      refine IW.seq ?_
      refine IW.reg hE ?_
      refine vcS_val rfl rfl (ox_move (pl rfl)) ?_
      refine vcS_val rfl rfl (ox_len (pl rfl) D_94 rfl) ?_
      refine vcS_val rfl rfl (ox_move (pl rfl)) ?_
      refine vcS_nil ?_
      refine IW.block ?_
      refine IW.loop (S := Nat) (fun s => [(0, .slice xa S.length xc), (2, .slice none 0 0), (25, .slice xa S.length xc), (26, .int .i64 S.length), (27, .int .i64 s), (6, .slice none 0 0)]) (fun s => []) (fun s => n) (fun s => s ≤ S.length) (fun s => S.length - s) (0) (by simp) (⟨rfl, ⟨rfl, ⟨rfl, ⟨rfl, ⟨rfl, ⟨rfl, trivial⟩⟩⟩⟩⟩⟩) (fun _ _ h => h) (Nat.le_refl _) (fun s hs => ?_)
      refine IW.seq ?_
      refine IW.reg hE ?_
      refine vcS_val rfl rfl (ox_bin (pl rfl) (pl rfl) (bo_i64_lss _ _)) ?_
      refine vcS_nil ?_
      refine IW.seq ?_
      refine IW.cond rfl (fun hc3 => ?_) (fun hc3 => ?_)
      · replace hc3 := of_decide_eq_true hc3
        have hc3 : s < S.length := by omega
        obtain ⟨i1, o1, p1, c1, r1, e1, m1, l1⟩ := rdC_at hS hc3
        subst e1
        obtain ⟨sa, sc, hi, es, hr⟩ := rdL_at hls hc3
        have hb := firsts_le hi
        have e0 := nil_of_total hi h0
        rw [e0] at es hr
        refine IW.skip ?_
        refine IW.seq ?_
        refine IW.block ?_
        refine IW.seq ?_
        refine IW.reg hE ?_
        refine vcS_val rfl rfl (ox_iaS (pl rfl) (pl rfl) D_94 rfl D_35 (by omega) (by omega)) ?_
        refine vcS_val rfl rfl (ox_load (pl rfl) D_35 m1 (rd_hdr l1 hc3 es rfl rfl)) ?_
        refine vcS_val rfl rfl (ox_assign (pl rfl)) ?_
        refine vcS_nil ?_
        refine IW.reg hE ?_
        refine vcS_val rfl rfl (ox_move (pl rfl)) ?_
        refine vcS_val rfl rfl (ox_move (pl rfl)) ?_
        refine vcS_val rfl rfl (ox_app0 (α := UInt8) (pl rfl) (pl rfl) D_35 rfl D_5 D_35 rfl rfl hr rfl (Nat.le_refl _)) ?_
        refine vcS_val rfl rfl (ox_assign (pl rfl)) ?_
        refine vcS_nil ?_
        refine IW.nilB ?_
        refine IW.reg hE ?_
        refine vcS_val rfl rfl (ox_bin (pl rfl) (pl rfl) (bo_i64_add (by omega))) ?_
        refine vcS_val rfl rfl (ox_move (pl rfl)) ?_
        refine vcS_nil ?_
        refine IW.nilS ?_
        exact ⟨s + 1, _, _, by omega, by omega, rfl, ⟨rfl, ⟨rfl, ⟨rfl, ⟨rfl, ⟨rfl, ⟨rfl, trivial⟩⟩⟩⟩⟩⟩, rfl, fun _ _ h => h, Nat.le_refl _⟩
      · replace hc3 := of_decide_eq_false hc3
        refine IW.exit ?_
        refine exS (exS ?_)
        refine blkQ_exit ?_
        refine IW.seq ?_
        refine IW.reg hE ?_
        refine vcS_val rfl rfl (ox_move (pl rfl)) ?_
        refine vcS_val rfl rfl (ox_assign (pl rfl)) ?_
        refine vcS_nil ?_
        refine IW.ret ?_
        rw [concE_zero h0]; exact RetP.ret (.inr rfl) rfl rfl trivial rfl
    · refine IW.reg hE ?_
      refine vcS_val rfl rfl (ox_move (pl rfl)) ?_
      refine vcS_ups rfl rfl (ox_fn rfl rfl (growF_evp (by omega) hto)) rfl ⟨.inl (by omega), trivial⟩ ?_
      refine vcS_val rfl rfl (ox_assign (pl rfl)) ?_
      refine vcS_nil ?_
      refine IW.seq ?_
      refine IW.seq ?_
      refine IW.reg hE ?_
      refine vcS_val rfl rfl (ox_move (pl rfl)) ?_
      refine vcS_val rfl rfl (ox_len (pl rfl) D_94 rfl) ?_
      refine vcS_val rfl rfl (ox_move (pl rfl)) ?_
      refine vcS_nil ?_
      refine IW.block ?_
      refine IW.loop (S := Nat) (fun s => [(0, .slice xa S.length xc), (2, .slice none 0 0), (25, .slice xa S.length xc), (26, .int .i64 S.length), (27, .int .i64 s), (6, .slice (some ⟨n + s, 0, some 1⟩) (firsts ls s).length (capC ls s))]) (fun s => [(n + s, some (.cells (celC zU8 ls s) false))]) (fun s => n + s + 1) (fun s => s ≤ S.length) (fun s => S.length - s) (0) (by simp) (⟨rfl, ⟨rfl, ⟨rfl, ⟨rfl, ⟨rfl, ⟨rfl, trivial⟩⟩⟩⟩⟩⟩) (fun _ _ h => h) (Nat.le_refl _) (fun s hs => ?_)
      refine IW.seq ?_
      refine IW.reg hE ?_
      refine vcS_val rfl rfl (ox_bin (pl rfl) (pl rfl) (bo_i64_lss _ _)) ?_
      refine vcS_nil ?_
      refine IW.seq ?_
      refine IW.cond rfl (fun hc4 => ?_) (fun hc4 => ?_)
      · replace hc4 := of_decide_eq_true hc4
        have hc4 : s < S.length := by omega
        obtain ⟨i1, o1, p1, c1, r1, e1, m1, l1⟩ := rdC_at hS hc4
        subst e1
        obtain ⟨sa, sc, hi, es, hr⟩ := rdL_at hls hc4
        have hb := firsts_le hi
        have hi1 : i1 < n := rdC_free hfree hS i1 o1 p1 _ _ rfl
        have hk := celC_ok zU8 ls s 1 rfl
        refine IW.skip ?_
        refine IW.seq ?_
        refine IW.block ?_
        refine IW.seq ?_
        refine IW.reg hE ?_
        refine vcS_val rfl rfl (ox_iaS (pl rfl) (pl rfl) D_94 rfl D_35 (by omega) (by omega)) ?_
        refine vcS_val rfl rfl (ox_load (pl rfl) D_35 (hp_sk (by omega) m1) (rd_hdr l1 hc4 es rfl rfl)) ?_
        refine vcS_val rfl rfl (ox_assign (pl rfl)) ?_
        refine vcS_nil ?_
        refine IW.reg hE ?_
        refine vcS_val rfl rfl (ox_move (pl rfl)) ?_
        refine vcS_val rfl rfl (ox_move (pl rfl)) ?_
        refine vcS_ups rfl rfl (ox_appO (α := UInt8) (l1 := firsts ls s) (pl rfl) (pl rfl) D_35 rfl D_5 D_35 rfl rfl rfl (hp_eq _ _ _ _) rfl hk.1 hk.2 (rdC_hp hr (rdC_free hfree hr) (by omega)) (Nat.le_trans (Nat.mul_le_mul_right _ hb) hto) (by decide)) rfl ⟨.inl (by omega), .inl (by omega), trivial⟩ ?_
        refine vcS_val rfl rfl (ox_assign (pl rfl)) ?_
        refine vcS_nil ?_
        refine IW.nilB ?_
        refine IW.reg hE ?_
        refine vcS_val rfl rfl (ox_bin (pl rfl) (pl rfl) (bo_i64_add (by omega))) ?_
        refine vcS_val rfl rfl (ox_move (pl rfl)) ?_
        refine vcS_nil ?_
        refine IW.nilS ?_
        exact ⟨s + 1, _, _, by omega, by omega, rfl, ⟨rfl, ⟨rfl, ⟨rfl, ⟨rfl, ⟨rfl, ⟨(by rw [firsts_succ hi, capC_succ hi, List.length_append]; rfl), trivial⟩⟩⟩⟩⟩⟩, rfl, hp_step hfree (by omega) (by rw [celC_succ hi]), by omega⟩
      · replace hc4 := of_decide_eq_false hc4
        have hs3 : firsts ls s = ls.flatten := firsts_all (by omega)
        refine IW.exit ?_
        refine exS (exS ?_)
        refine blkQ_exit ?_
        refine IW.seq ?_
        refine IW.reg hE ?_
        refine vcS_val rfl rfl (ox_move (pl rfl)) ?_
        refine vcS_val rfl rfl (ox_assign (pl rfl)) ?_
        refine vcS_nil ?_
        refine IW.ret ?_
        have hs0 : s ≠ 0 := by intro e; rw [e] at hs3; rw [← hs3] at h0; exact h0 rfl
        rw [concE_pos h0]; exact RetP.new1 (.inr rfl) ((ires_tmp rfl).trans (by rw [show capC ls s = ls.flatten.length by unfold capC; rw [if_neg hs0, hs3], hs3]; rfl)) (by omega) ((hp_eq _ _ _ _).trans (by rw [show celC zU8 ls s = cels ls.flatten by unfold celC; rw [if_neg hs0, hs3]])) (u8_plain _)
def F103 : FnI := fun args H n => match args with
  | [.slice (some ⟨id, off, none⟩) len cap, .int .i64 128] => if (H id).isSome = true then some ⟨.func (.func 114) #[] #[pv n, pv (n + 1)], [(n, some (.cells [.slice (some ⟨id, off, none⟩) len cap] false)), (n + 1, some (.cells [.int .i64 128] false))], n + 2⟩ else none
  | _ => none
theorem F103_inv {args : List Value} {H : IHeap} {n : Nat} {e : Eff} (h : F103 args H n = some e) : ∃ id off len cap, args = [.slice (some ⟨id, off, none⟩) len cap, .int .i64 128] ∧ (H id).isSome = true ∧ e = ⟨.func (.func 114) #[] #[pv n, pv (n + 1)], [(n, some (.cells [.slice (some ⟨id, off, none⟩) len cap] false)), (n + 1, some (.cells [.int .i64 128] false))], n + 2⟩ := by
  unfold F103 at h; split at h
  · split at h
    · rename_i hs; cases h; exact ⟨_, _, _, _, rfl, hs, rfl⟩
    · cases h
  · cases h
theorem F103_ev {H : IHeap} {n id off len cap : Nat} (hs : (H id).isSome = true) : F103 [.slice (some ⟨id, off, none⟩) len cap, .int .i64 128] H n = some ⟨.func (.func 114) #[] #[pv n, pv (n + 1)], [(n, some (.cells [.slice (some ⟨id, off, none⟩) len cap] false)), (n + 1, some (.cells [.int .i64 128] false))], n + 2⟩ := by
  simp only [F103]; rw [if_pos hs]
-- slices.Chunk[[]byte,byte] ['Sl', 'Int'] -> ['?'], results [4]
theorem R103 : Ref Try.prog 103 F103 := by
  refine Ref.of_iw dok Try.func103 rfl (by kernel_rfl) fun args H n e hF => ?_
  obtain ⟨id, off, len, cap, rfl, hs, rfl⟩ := F103_inv hF
  refine ⟨Nat.le_of_ble_eq_true rfl, ?_⟩
  simp only [idxL]
  have hE : Env Try.prog [] D K := env fnsOk_nil
  refine IW.seq ?_
  obtain ⟨o, ho⟩ := Option.isSome_iff_exists.1 hs
  refine IW.lt (by simp) ho (fun hid => ?_)
  refine IW.reg hE ?_
  refine vcS_new rfl rfl (ox_box (pl rfl) rfl) (.inl (by omega)) ?_
  refine vcS_new rfl rfl (ox_box (pl rfl) rfl) (.inl (by omega)) ?_
  refine vcS_val rfl rfl (ox_assign (pl rfl)) ?_
  refine vcS_nil ?_
  refine IW.seq ?_
  refine IW.seq ?_
  refine IW.reg hE ?_
  refine vcS_val rfl rfl (ox_load (pl rfl) D_3 (hp_eq _ _ _ _) rfl) ?_
  refine vcS_val rfl rfl (ox_bin (pl rfl) (pl rfl) (bo_i64_lss _ _)) ?_
  refine vcS_nil ?_
  refine IW.cond rfl (fun hc1 => ?_) (fun hc1 => ?_)
  · cases hc1
  · replace hc1 := of_decide_eq_false hc1
    refine IW.skip ?_
    refine IW.seq ?_
    refine IW.reg hE ?_
    refine vcS_val rfl rfl (ox_makeFunc2 (pl rfl) (pl rfl)) ?_
    refine vcS_val rfl rfl (ox_assign (pl rfl)) ?_
    refine vcS_nil ?_
    refine IW.ret ?_
    refine RetP.news [n, n + 1] (cs := [[.slice (some ⟨id, off, none⟩) len cap], [.int .i64 128]]) (.inr rfl) (ires_tmp rfl) ?_ rfl rfl ⟨by omega, by omega, trivial⟩ (by simp) ⟨(hp_sk (by omega) (hp_eq _ _ _ _)).trans ?_, (hp_eq _ _ _ _), trivial⟩ ?_ ?_
    · simp [Ytdnnojblneccdaa.ren, ren2, pv, ren1, gL_at (m := n) (n := n) (ms := [n, n + 1]) (Nat.le_refl _) (by simp), gL_at (m := n + 1) (n := n) (ms := [n, n + 1]) (Nat.le_succ _) (by simp)]
    · simp [ren1, gL_lt hid]
    · intro c hc x hx
      simp only [List.mem_cons, List.not_mem_nil, or_false] at hc
      rcases hc with rfl | rfl <;> (simp only [List.mem_singleton] at hx; subst hx)
      · show id < _; simp; omega
      · trivial
    · exact ⟨fun x hx => by simp at hx, fun x hx => by simp at hx; rcases hx with rfl | rfl <;> (show _ < _; simp)⟩
/-! all pieces -/
def pcs (p : List UInt8) (i : Nat) : List UInt8 := (p.drop (i * 128)).take 128
/-- the pieces of these numbers, one behind the other -/
def foldP {k : Nat} (kl : List UInt64) (p : List UInt8) (s : Vector UInt64 8) (is : List (Fin k)) : Vector UInt64 8 := is.foldl (fun (s : Vector UInt64 8) (i : Fin k) => thr kl s (pcs p i)) s
theorem foldP_snoc {k : Nat} (kl : List UInt64) (p : List UInt8) (s : Vector UInt64 8) (is : List (Fin k)) (x : Fin k) : foldP kl p s (is ++ [x]) = thr kl (foldP kl p s is) (pcs p x) := by simp [foldP]
def allV (kl : List UInt64) (p : List UInt8) (s : Vector UInt64 8) : Vector UInt64 8 := foldP kl p s (List.finRange (p.length / 128))
noncomputable def F84 : FnI := fun args H n => match args with
  | [.pointer (some ⟨ik, 0, none⟩), x, y] => (dec x).bind fun (s : Vector UInt64 8) => (rdC H y).bind fun (b : List UInt8) => match H ik with
    | some (.cells ck _) => (decs ck).bind fun (kl : List UInt64) => if kl.length = 80 ∧ b.length ≤ 2 ^ 40 then some ⟨enc (allV kl (padL b) s), [], n⟩ else none
    | _ => none
  | _ => none
theorem F84_inv {args : List Value} {H : IHeap} {n : Nat} {e : Eff} (h : F84 args H n = some e) : ∃ (ik : Nat) (rk : Bool) (s : Vector UInt64 8) (y : Value) (b : List UInt8) (kl : List UInt64), args = [.pointer (some ⟨ik, 0, none⟩), enc s, y] ∧ rdC H y = some b ∧ H ik = some (.cells (encs kl) rk) ∧ kl.length = 80 ∧ b.length ≤ 2 ^ 40 ∧ e = ⟨enc (allV kl (padL b) s), [], n⟩ := by
  unfold F84 at h; split at h
  · simp only [Option.bind_eq_some_iff] at h
    obtain ⟨s, hs, b, hb, h⟩ := h
    split at h
    · rename_i ck rk h1
      simp only [Option.bind_eq_some_iff] at h
      obtain ⟨kl, hk, h⟩ := h
      split at h
      · rename_i hl; cases h
        exact ⟨_, rk, s, _, b, kl, by rw [dec_some hs], hb, by rw [h1, decs_some hk], hl.1, hl.2, rfl⟩
      · cases h
    · cases h
  · cases h
theorem F84_ev {H : IHeap} {n ik : Nat} {rk : Bool} {s : Vector UInt64 8} {y : Value} {b : List UInt8} {kl : List UInt64} (hb : rdC H y = some b) (h1 : H ik = some (.cells (encs kl) rk)) (h2 : kl.length = 80) (h3 : b.length ≤ 2 ^ 40) :
    F84 [.pointer (some ⟨ik, 0, none⟩), enc s, y] H n = some ⟨enc (allV kl (padL b) s), [], n⟩ := by
  simp only [F84, dec_enc, Option.bind_some, hb, h1, decs_encs]
  rw [if_pos ⟨h2, h3⟩]
def pvec (p : List UInt8) (i : Nat) (h : i * 128 + 128 ≤ p.length) : Vector UInt8 128 := ⟨(pcs p i).toArray, by simp [pcs]; omega⟩
theorem pvec_toList {p : List UInt8} {i : Nat} (h : i * 128 + 128 ≤ p.length) : (pvec p i h).toList = pcs p i := by simp [pvec]
theorem rd_pvec {p : List UInt8} {i j : Nat} {d : TD} (h : i * 128 + 128 ≤ p.length) (hk : d.k.isAgg = true) (hs : d.size = 128) (hj : j = i * 128) : rdVar d (encs p) j = some (enc (pvec p i h)) := by
  subst hj
  have hsp : p = p.take (i * 128) ++ (pcs p i ++ p.drop (i * 128 + 128)) := by
    unfold pcs
    rw [← List.drop_drop, List.take_append_drop, List.take_append_drop]
  have hc : encs p = encs (p.take (i * 128)) ++ (encs (pvec p i h).toList ++ encs (p.drop (i * 128 + 128))) := by
    rw [pvec_toList, ← encs_append, ← encs_append, ← hsp]
  exact rd_part hk hc (by rw [encs_length]; simp; omega) (by rw [encs_vec_length, hs])
-- headwater/sha.all ['?', 'Vector UInt64 8', 'Sl'] -> ['Vector UInt64 8'], results [[6, 50]]
theorem R84 : Ref Try.prog 84 F84 := by
  refine Ref.of_iw dok Try.func84 rfl (by kernel_rfl) fun args H n e hF => ?_
  obtain ⟨ik, rk, s, y, b, kl, rfl, hb, hk, hkl, hle, rfl⟩ := F84_inv hF
  have hpn := padN_ge b.length
  have hpl := padL_length b
  have hdv : padN b.length = 128 * ((padL b).length / 128) := by rw [hpl]; unfold padN; omega
  refine ⟨Nat.le_of_ble_eq_true rfl, ?_⟩
  simp only [idxL]
  have hE : Env Try.prog [(30, F30), (74, F74), (103, F103)] D K := env (fnsOk_cons R30 (fnsOk_cons R74 (fnsOk_cons R103 fnsOk_nil)))
  refine IW.seq ?_
  refine IW.cells (by simp) ?_
  replace hb := rdC_cellsH hb
  replace hk := cellsH_cells hk
  refine IW.lt (by simp) hk (fun hik => ?_)
  refine IW.free (by simp) (fun hfree => ?_)
  refine IW.reg hE ?_
  refine vcS_new rfl rfl (ox_box (pl rfl) rfl) (.inl (by omega)) ?_
  refine vcS_new rfl rfl (ox_box (pl rfl) rfl) (.inl (by omega)) ?_
  refine vcS_new rfl rfl (ox_allocZ (cs := encs (Vector.replicate 8 (0 : UInt64)).toList) D_50 rfl) (.inl (by omega)) ?_
  refine vcS_nil ?_
  refine IW.seq ?_
  refine IW.seq ?_
  refine IW.reg hE ?_
  refine vcS_val rfl rfl (ox_move (pl rfl)) ?_
  refine vcS_ups rfl rfl (ox_fn rfl rfl (F30_ev (rdC_keep hfree hb (by exact ⟨by omega, ⟨by omega, ⟨by omega, trivial⟩⟩⟩)) hle)) rfl ⟨.inl (by omega), trivial⟩ ?_
  refine vcS_ups rfl rfl (ox_fn rfl rfl (F103_ev (is_some (hp_eq _ _ _ _)))) rfl ⟨.inl (by omega), ⟨.inl (by omega), trivial⟩⟩ ?_
  refine vcS_nil ?_
  refine IW.block ?_
  refine IW.rangeFunc (k := ((padL b).length / 128)) (ks := [n + 1 + 1 + 1 + 1, n + 1 + 1 + 1 + 2]) (ws := [n + 1]) (fun i => pieceV (n + 1 + 1 + 1) 0 i) (fun pre => [(n + 1, some (.cells (encs (foldP kl (padL b) s pre).toList) false)), (n + 1 + 1 + 1 + 2, some (.cells [.int .i64 128] false)), (n + 1 + 1 + 1 + 1, some (.cells [.slice (some ⟨n + 1 + 1 + 1, 0, none⟩) (padN b.length) (padN b.length)] false)), (n + 1 + 1 + 1, some (.cells (encs (padL b)) false)), (n + 1 + 1, some (.cells (encs (Vector.replicate 8 (0 : UInt64)).toList) false)), (n, some (.cells [.pointer (some ⟨ik, 0, none⟩)] false))]) (fun pre => n + 1 + 1 + 1 + 3 + pre.length) rfl rfl Try.func114 rfl (by kernel_rfl) (chunk_gives (hp_sk (by omega) (hp_eq _ _ _ _)) (hp_eq _ _ _ _) hdv (Nat.le_refl _) (by rw [hpl]; omega)) ?_ (by simp) (fun id hid => .inl (by omega)) ?_ ?_ (fun pre => allC_is (by rfl)) (fun pre x => by simp) (fun pre => by omega) ?_ ?_
  · exact leX_le (leX_same (hp_sk (by omega) (hp_sk (by omega) (hp_sk (by omega) (hp_sk (by omega) (hp_eq _ _ _ _))))) rfl (leX_cons rfl (leX_cons rfl (leX_cons rfl (leX_cons rfl (leX_old (by simp) leX_refl))))))
  · intro pre id hid
    simp only [List.mem_cons, List.not_mem_nil, or_false] at hid
    rcases hid with rfl | rfl
    · exact is_some (hp_sk (by omega) (hp_sk (by omega) (hp_eq _ _ _ _)))
    · exact is_some (hp_sk (by omega) (hp_eq _ _ _ _))
  · intro id hid
    simp only [List.mem_singleton] at hid
    subst hid
    exact ⟨.inl (by omega), by simp, fun pre => is_some (hp_eq _ _ _ _)⟩
  · intro l pre x Wb hWn hWo
    have hx := x.isLt
    have hxp : (x : Nat) * 128 + 128 ≤ (padL b).length := by omega
    refine IW.block ?_
    refine IW.seq ?_
    refine IW.reg hE ?_
    refine vcS_val rfl rfl (ox_move (pl rfl)) ?_
    refine vcS_val rfl rfl (ox_s2ap (pl rfl) D_63 rfl (Nat.le_refl _)) ?_
    refine vcS_val rfl rfl (ox_load (pl rfl) D_63 (hp_sk (by omega) (hp_sk (by omega) (hp_sk (by omega) (hp_eq _ _ _ _)))) (rd_pvec hxp rfl rfl (by simp))) ?_
    refine vcS_new rfl rfl (ox_allocZ (cs := encs (Vector.replicate 128 (0 : UInt8)).toList) D_63 rfl) (hWn _ (by omega)) ?_
    refine vcS_sto rfl rfl (ox_store (pl rfl) (pl rfl) D_63 (hp_eq _ _ _ _) rfl (encs_vec_length _) (le_vec _ rfl) (encs_known _) (wr_all (by simp only [encs_vec_length]))) (hWn _ (by omega)) ?_
    refine vcS_nil ?_
    refine IW.reg hE ?_
    refine vcS_val rfl rfl (ox_load (pl rfl) D_102 (hp_sk (by omega) (hp_sk (by omega) (hp_sk (by omega) (hp_sk (by omega) (hp_sk (by omega) (hp_sk (by omega) (hp_sk (by omega) (hp_eq _ _ _ _)))))))) rfl) ?_
    refine vcS_val rfl rfl (ox_load (pl rfl) D_50 (hp_sk (by omega) (hp_sk (by omega) (hp_eq _ _ _ _))) (rd_all rfl (encs_vec_length _))) ?_
    refine vcS_val rfl rfl (ox_fn rfl rfl (F74_ev (pl := (pvec (padL b) x hxp).toList) (hp_keep hfree hk (by exact ⟨by omega, ⟨by omega, ⟨by omega, ⟨by omega, ⟨by omega, ⟨by omega, ⟨by omega, ⟨by omega, trivial⟩⟩⟩⟩⟩⟩⟩⟩)) (hp_eq _ _ _ _) hkl (by simp))) ?_
    refine vcS_sto rfl rfl (ox_store (pl rfl) (pl rfl) D_50 (hp_sk (by omega) (hp_sk (by omega) (hp_eq _ _ _ _))) rfl (encs_vec_length _) (le_vec _ rfl) (encs_known _) (wr_all (by simp only [encs_vec_length]))) (hWo _ (by simp)) ?_
    refine vcS_nil ?_
    refine IW.nilB ?_
    refine IW.nilS ?_
    exact ⟨_, rfl, leX_le (leX_cons (by rw [foldP_snoc, pvec_toList]) (leX_new (free_hp hfree (by omega) ⟨by omega, by omega, by omega, by omega, by omega, trivial⟩) (leX_new (free_hp hfree (by omega) ⟨by omega, by omega, by omega, by omega, by omega, trivial⟩) (leX_old (by simp) leX_refl)))), by simp; omega⟩
  · refine IW.nilB ?_
    refine IW.seq ?_
    refine IW.reg hE ?_
    refine vcS_val rfl rfl (ox_load (pl rfl) D_50 (hp_eq _ _ _ _) (rd_all rfl (encs_vec_length _))) ?_
    refine vcS_sto rfl rfl (ox_store (pl rfl) (pl rfl) D_50 (hp_sk (by omega) (hp_sk (by omega) (hp_sk (by omega) (hp_sk (by omega) (hp_eq _ _ _ _))))) rfl (encs_vec_length _) (le_vec _ rfl) (encs_known _) (wr_all (by simp only [encs_vec_length]))) (.inl (by omega)) ?_
    refine vcS_nil ?_
    refine IW.ret ?_
    exact RetP.pure (.inr rfl) (ires_cell rfl D_50 (hp_eq _ _ _ _) (rd_all rfl (encs_vec_length _))) (okV64 _) (by omega)
end Go.Proofs.Ytdnnojblneccdaa
/-
  Sums: sum, Sum512, Sum.
-/
namespace Go.Proofs.Ytdnnojblneccdaa
set_option linter.unusedSimpArgs false
set_option linter.unusedVariables false
open Go
open Enc (enc)
set_option maxRecDepth 100000
/-- the bytes of the first i words -/
def sb (ws : List UInt64) (i : Nat) : List UInt8 := (ws.take i).flatMap be8
theorem sb_length {ws : List UInt64} {i : Nat} (h : i ≤ ws.length) : (sb ws i).length = 8 * i := by
  have : ∀ l : List UInt64, (l.flatMap be8).length = 8 * l.length := by
    intro l
    induction l with
    | nil => rfl
    | cons a l ih => rw [List.flatMap_cons, List.length_append, be8_length, ih, List.length_cons]; omega
  rw [sb, this, List.length_take]; omega
theorem sb_succ {ws : List UInt64} {i : Nat} (h : i < ws.length) : sb ws (i + 1) = sb ws i ++ be8 (ws.getD i 0) := by
  unfold sb
  rw [List.take_succ_eq_append_getElem h, List.flatMap_append]
  simp [h]
def bytesV (w : Vector UInt64 8) : Vector UInt8 64 := ⟨(sb w.toList 8).toArray, by simp [sb_length]⟩
theorem bytesV_toList (w : Vector UInt64 8) : (bytesV w).toList = sb w.toList 8 := by simp [bytesV]
def sumV (start : Vector UInt64 8) (b : List UInt8) : Vector UInt8 64 := bytesV (allV kL (padL b) start)
noncomputable def sumF (f : List UInt8 → Value) : FnI := fun args H n => match args with
  | [x] => (rdC H x).bind fun (S : List Sl) => (rdL UInt8 H S).bind fun ls => if S.length ≤ 2 ^ 47 ∧ ls.flatten.length ≤ 2 ^ 40 then some ⟨f ls.flatten, [], n⟩ else none
  | _ => none
theorem sumF_inv {f : List UInt8 → Value} {args : List Value} {H : IHeap} {n : Nat} {e : Eff} (h : sumF f args H n = some e) : ∃ (x : Value) (S : List Sl) (ls : List (List UInt8)), args = [x] ∧ rdC H x = some S ∧ rdL UInt8 H S = some ls ∧ S.length ≤ 2 ^ 47 ∧ ls.flatten.length ≤ 2 ^ 40 ∧ e = ⟨f ls.flatten, [], n⟩ := by
  unfold sumF at h; split at h
  · simp only [Option.bind_eq_some_iff] at h
    obtain ⟨S, hS, ls, hls, h⟩ := h
    split at h
    · rename_i hl; cases h
      exact ⟨_, S, ls, rfl, hS, hls, hl.1, hl.2, rfl⟩
    · cases h
  · cases h
theorem sumF_ev {f : List UInt8 → Value} {x : Value} {H : IHeap} {n : Nat} {S : List Sl} {ls : List (List UInt8)} {l : List UInt8} (hS : rdC H x = some S) (hls : rdL UInt8 H S = some ls) (h1 : S.length ≤ 2 ^ 47) (hl : ls.flatten = l) (h2 : l.length ≤ 2 ^ 40) : sumF f [x] H n = some ⟨f l, [], n⟩ := by
  subst hl
  simp only [sumF, hS, hls, Option.bind_some]
  rw [if_pos ⟨h1, h2⟩]
noncomputable def F67 : FnI := fun args H n => match args with
  | [y, x] => (dec y).bind fun (st : Vector UInt64 8) => sumF (fun b => enc (sumV st b)) [x] H n
  | _ => none
theorem F67_inv {args : List Value} {H : IHeap} {n : Nat} {e : Eff} (h : F67 args H n = some e) : ∃ (s : Vector UInt64 8) (x : Value) (S : List Sl) (ls : List (List UInt8)), args = [enc s, x] ∧ rdC H x = some S ∧ rdL UInt8 H S = some ls ∧ S.length ≤ 2 ^ 47 ∧ ls.flatten.length ≤ 2 ^ 40 ∧ e = ⟨enc (sumV s ls.flatten), [], n⟩ := by
  unfold F67 at h; split at h
  · simp only [Option.bind_eq_some_iff] at h
    obtain ⟨s, hs, h⟩ := h
    obtain ⟨x, S, ls, h1, h2, h3, h4, h5, h6⟩ := sumF_inv h
    cases h1
    exact ⟨s, _, S, ls, by rw [dec_some hs], h2, h3, h4, h5, h6⟩
  · cases h
theorem F67_ev {s : Vector UInt64 8} {x : Value} {H : IHeap} {n : Nat} {S : List Sl} {ls : List (List UInt8)} (hS : rdC H x = some S) (hls : rdL UInt8 H S = some ls) (h1 : S.length ≤ 2 ^ 47) (h2 : ls.flatten.length ≤ 2 ^ 40) : F67 [enc s, x] H n = some ⟨enc (sumV s ls.flatten), [], n⟩ := by
  simp only [F67, dec_enc, Option.bind_some]
  exact sumF_ev hS hls h1 rfl h2
theorem rdL_keep {α : Type} [Row α] {H : IHeap} {n : Nat} {M : Ups} (hf : ∀ id, n ≤ id → H id = none) (hM : wAll (fun m => n ≤ m) M) : ∀ {S : List Sl} {ls : List (List α)}, rdL α H S = some ls → rdL α (hp H M) S = some ls
  | [], ls, h => h
  | s :: S, ls, h => by
    simp only [rdL] at h ⊢
    split at h
    · rename_i l ls' h1 h2
      cases h
      rw [rdC_keep hf h1 hM, rdL_keep hf hM h2]
    · cases h
theorem concE_zero' {n : Nat} {l : List UInt8} {bytes : Nat} {x : Value} {H : IHeap} {S : List Sl} {ls : List (List UInt8)} (hS : rdC H x = some S) (hls : rdL UInt8 H S = some ls) (h1 : S.length ≤ 2 ^ 47) (h2 : ls.flatten.length * bytes ≤ most) (h : ls.flatten.length = 0) : concF UInt8 bytes [x] H n = some ⟨.slice none 0 0, [], n⟩ := by
  rw [concF_ev hS hls h1 rfl h2, concE_zero h]
theorem concE_pos' {n : Nat} {l : List UInt8} {bytes : Nat} {x : Value} {H : IHeap} {S : List Sl} {ls : List (List UInt8)} (hS : rdC H x = some S) (hls : rdL UInt8 H S = some ls) (h1 : S.length ≤ 2 ^ 47) (h2 : ls.flatten.length * bytes ≤ most) (h : ls.flatten.length ≠ 0) : concF UInt8 bytes [x] H n = some ⟨.slice (some ⟨n, 0, some 1⟩) ls.flatten.length ls.flatten.length, [(n, some (.cells (cels ls.flatten) false))], n + 1⟩ := by
  rw [concF_ev hS hls h1 rfl h2, concE_pos h]; rfl
theorem ovw_all {l x : List UInt8} (h : x.length = l.length) : ovw l 0 x = x := by
  unfold ovw
  rw [List.take_zero, List.nil_append, List.drop_of_length_le (by omega), List.append_nil]
-- headwater/sha.sum ['Vector UInt64 8', 'Sl'] -> ['Vector UInt8 64'], results [[4, 26]]
theorem R67 : Ref Try.prog 67 F67 := by
  refine Ref.of_iw dok Try.func67 rfl (by kernel_rfl) fun args H n e hF => ?_
  obtain ⟨s, x, S, ls, rfl, hS, hls, hle, hto, rfl⟩ := F67_inv hF
  refine ⟨Nat.le_of_ble_eq_true rfl, ?_⟩
  simp only [idxL]
  have hE : Env Try.prog [(25, F25), (69, F69), (84, F84), (85, F85)] D K := env (fnsOk_cons R25 (fnsOk_cons R69 (fnsOk_cons R84 (fnsOk_cons R85 fnsOk_nil))))
  refine IW.seq ?_
  refine IW.free (by simp) (fun hfree => ?_)
  refine IW.reg hE ?_
  refine vcS_new rfl rfl (ox_box (pl rfl) rfl) (.inl (by omega)) ?_
  refine vcS_new rfl rfl (ox_allocZ (cs := encs (Vector.replicate 64 (0 : UInt8)).toList) D_26 rfl) (.inl (by omega)) ?_
  refine vcS_nil ?_
  refine IW.seq ?_
  refine IW.reg hE ?_
  refine vcS_val rfl rfl (ox_fn rfl rfl (fn0_ev _ _ _)) ?_
  refine vcS_new rfl rfl (ox_allocZ (cs := encs (Vector.replicate 80 (0 : UInt64)).toList) D_48 rfl) (.inl (by omega)) ?_
  refine vcS_sto rfl rfl (ox_store (pl rfl) (pl rfl) D_48 (hp_eq _ _ _ _) rfl (encs_vec_length _) (le_vec _ rfl) (encs_known _) (wr_all (by simp only [encs_vec_length]))) (.inl (by omega)) ?_
  refine vcS_nil ?_
  refine IW.seq ?_
  by_cases h0 : ls.flatten.length = 0
  · refine IW.drw hE mixed [[],[],[1],[0,1,2],[],[0,1,2,3,4]] (by kernel_rfl) (vcE_start ?_)
    refine vcE_val rfl rfl rfl rfl (ox_load (pl rfl) D_50 (hp_sk (by omega) (hp_sk (by omega) (hp_sk (by omega) (hp_eq _ _ _ _)))) (rd_all rfl (encs_vec_length _))) rfl (si_load (pl rfl)) (lt1 (by omega)) (trivial) ?_
    refine vcE_bl rfl rfl (fun _ => ox_move (pl rfl)) rfl rfl ?_
    refine vcE_call rfl rfl rfl rfl (ox_fn rfl rfl (concE_zero' (l := []) (rdC_keep hfree hS (by exact ⟨by omega, ⟨by omega, ⟨by omega, ⟨by omega, trivial⟩⟩⟩⟩)) (rdL_keep hfree (by exact ⟨by omega, ⟨by omega, ⟨by omega, ⟨by omega, trivial⟩⟩⟩⟩) hls) hle (by simp only [most]; omega) h0)) rfl ltu0 (trivial) ?_
    refine vcE_call rfl rfl rfl rfl (ox_fn rfl rfl (F84_ev (b := ls.flatten) (kl := kL) (congrArg some (List.length_eq_zero_iff.1 h0).symm) (hp_eq _ _ _ _) (by decide) hto)) rfl ltu0 (trivial) ?_
    refine vcE_new rfl rfl (fun _ => ox_allocZ (cs := encs (Vector.replicate 8 (0 : UInt64)).toList) D_50 rfl) rfl rfl (.inl (by omega)) ?_
    refine vcE_sto rfl rfl rfl rfl (ox_store (pl rfl) (pl rfl) D_50 (hp_eq _ _ _ _) rfl (encs_vec_length _) (le_vec _ rfl) (encs_known _) (wr_all (by simp only [encs_vec_length]))) rfl (si_store (pl rfl)) (is_some (hp_eq _ _ _ _)) (by omega) (.inl (by omega)) (⟨trivial, trivial⟩) (⟨trivial, ⟨trivial, ⟨trivial, trivial⟩⟩⟩) ?_
    refine vcE_nil ?_
    refine IW.seq ?_
    refine IW.reg hE ?_
    refine vcS_val rfl rfl (ox_slAH (pl rfl) D_26 rfl D_5 (bndI (pl rfl) rfl) (Nat.zero_le _)) ?_
    refine vcS_val rfl rfl (ox_assign (pl rfl)) ?_
    refine vcS_nil ?_
    refine IW.seq ?_
    refine IW.seq ?_
    refine IW.reg hE ?_
    refine vcS_val rfl rfl (ox_load (pl rfl) D_50 (hp_eq _ _ _ _) (rd_all rfl (encs_vec_length _))) ?_
    refine vcS_val rfl rfl (ox_move (pl rfl)) ?_
    refine vcS_nil ?_
    refine IW.block ?_
    refine IW.loop (S := Nat) (fun i => [(4, .pointer (some ⟨n + 1, 0, none⟩)), (7, .slice (some ⟨n + 1, 0, none⟩) (8 * i) 64), (16, enc (allV kL (padL ls.flatten) s)), (17, .int .i64 i)]) (fun i => [(n + 1, some (.cells (encs (ovw (Vector.replicate 64 (0 : UInt8)).toList 0 (sb (allV kL (padL ls.flatten) s).toList i))) false))]) (fun i => n + 1 + 1 + 1 + 1) (fun i => i ≤ 8) (fun i => 8 - i) (0) (by simp) (⟨rfl, ⟨rfl, ⟨rfl, ⟨rfl, trivial⟩⟩⟩⟩) (leX_le (leX_same (hp_sk (by omega) (hp_sk (by omega) (hp_sk (by omega) (hp_sk (by omega) (hp_eq _ _ _ _))))) (by rw [show sb (allV kL (padL ls.flatten) s).toList 0 = [] from rfl, ovw_nil]) (leX_none hfree (by exact ⟨by omega, ⟨by omega, ⟨by omega, ⟨by omega, ⟨by omega, ⟨by omega, trivial⟩⟩⟩⟩⟩⟩)))) (Nat.le_refl _) (fun i hi => ?_)
    refine IW.seq ?_
    refine IW.reg hE ?_
    refine vcS_val rfl rfl (ox_bin (pl rfl) (pl rfl) (bo_i64_lss _ _)) ?_
    refine vcS_nil ?_
    refine IW.seq ?_
    refine IW.cond rfl (fun hc1 => ?_) (fun hc1 => ?_)
    · replace hc1 := of_decide_eq_true hc1
      have hi8 : i < (allV kL (padL ls.flatten) s).toList.length := by simp; omega
      have hz : (Vector.replicate 64 (0 : UInt8)).toList.length = 64 := by simp
      have hsl : (sb (allV kL (padL ls.flatten) s).toList i).length = 8 * i := sb_length (by simp; omega)
      have hov : ovw (ovw (Vector.replicate 64 (0 : UInt8)).toList 0 (sb (allV kL (padL ls.flatten) s).toList i)) (8 * i) (be8 ((allV kL (padL ls.flatten) s).toList.getD i 0)) = ovw (Vector.replicate 64 (0 : UInt8)).toList 0 (sb (allV kL (padL ls.flatten) s).toList i ++ be8 ((allV kL (padL ls.flatten) s).toList.getD i 0)) := ovw_ovw (by rw [hsl]; omega) (by rw [hsl, be8_length, hz]; omega)
      refine IW.skip ?_
      refine IW.seq ?_
      refine IW.block ?_
      refine IW.seq ?_
      refine IW.reg hE ?_
      refine vcS_val rfl rfl (ox_ixA (pl rfl) (pl rfl) D_50 rfl D_22 (by omega) (by omega) (rd_ix (i) (0 : UInt64) rfl (by simp) (by simp; omega))) ?_
      refine vcS_val rfl rfl (ox_assign (pl rfl)) ?_
      refine vcS_nil ?_
      refine IW.reg hE ?_
      refine vcS_val rfl rfl (ox_move (pl rfl)) ?_
      refine vcS_val rfl rfl (ox_move (pl rfl)) ?_
      refine vcS_ups rfl rfl (ox_fn rfl rfl (F69_ev (l := ovw (Vector.replicate 64 (0 : UInt8)).toList 0 (sb (allV kL (padL ls.flatten) s).toList i)) (hp_eq _ _ _ _) (by omega) (by rw [ovw_length (by rw [hsl, hz]; omega), hz]; omega) (by omega))) rfl ⟨.inl (by omega), trivial⟩ ?_
      refine vcS_val rfl rfl (ox_assign (pl rfl)) ?_
      refine vcS_nil ?_
      refine IW.nilB ?_
      refine IW.reg hE ?_
      refine vcS_val rfl rfl (ox_bin (pl rfl) (pl rfl) (bo_i64_add (by omega))) ?_
      refine vcS_val rfl rfl (ox_move (pl rfl)) ?_
      refine vcS_nil ?_
      refine IW.nilS ?_
      exact ⟨i + 1, _, _, by omega, by omega, rfl, ⟨rfl, ⟨rfl, ⟨rfl, ⟨rfl, trivial⟩⟩⟩⟩, rfl, leX_le (leX_cons (by rw [sb_succ hi8, hov]) (leX_old (by simp) leX_refl)), Nat.le_refl _⟩
    · replace hc1 := of_decide_eq_false hc1
      have h8 : i = 8 := by omega
      subst h8
      have hfin : ovw (Vector.replicate 64 (0 : UInt8)).toList 0 (sb (allV kL (padL ls.flatten) s).toList 8) = (sumV s ls.flatten).toList := by rw [ovw_all (by rw [sb_length (by simp)]; simp)]; exact (bytesV_toList _).symm
      rw [hfin]
      refine IW.exit ?_
      refine exS (exS ?_)
      refine blkQ_exit ?_
      refine IW.seq ?_
      refine IW.reg hE ?_
      refine vcS_val rfl rfl (ox_load (pl rfl) D_26 (hp_eq _ _ _ _) (rd_all rfl (encs_vec_length _))) ?_
      refine vcS_sto rfl rfl (ox_store (pl rfl) (pl rfl) D_26 (hp_eq _ _ _ _) rfl (encs_vec_length _) (le_vec _ rfl) (encs_known _) (wr_all (by simp only [encs_vec_length]))) (.inl (by omega)) ?_
      refine vcS_nil ?_
      refine IW.ret ?_
      exact RetP.pure (.inr rfl) (ires_cell rfl D_26 (hp_eq _ _ _ _) (rd_all rfl (encs_vec_length _))) (okV8 _) (by omega)
  · refine IW.drw hE mixed [[],[],[1],[0,1,2],[],[0,1,2,3,4]] (by kernel_rfl) (vcE_start ?_)
    refine vcE_val rfl rfl rfl rfl (ox_load (pl rfl) D_50 (hp_sk (by omega) (hp_sk (by omega) (hp_sk (by omega) (hp_eq _ _ _ _)))) (rd_all rfl (encs_vec_length _))) rfl (si_load (pl rfl)) (lt1 (by omega)) (trivial) ?_
    refine vcE_bl rfl rfl (fun _ => ox_move (pl rfl)) rfl rfl ?_
    refine vcE_callN rfl rfl rfl rfl (ox_fn rfl rfl (concE_pos' (l := []) (rdC_keep hfree hS (by exact ⟨by omega, ⟨by omega, ⟨by omega, ⟨by omega, trivial⟩⟩⟩⟩)) (rdL_keep hfree (by exact ⟨by omega, ⟨by omega, ⟨by omega, ⟨by omega, trivial⟩⟩⟩⟩) hls) hle (by simp only [most]; omega) h0)) rfl ltu0 ⟨⟨.inl (by omega), by omega, by omega⟩, trivial⟩ (by omega) (trivial) ?_
    refine vcE_call rfl rfl rfl rfl (ox_fn rfl rfl (F84_ev (b := ls.flatten) (kl := kL) (rdC_all (hp_eq _ _ _ _) rfl) (hp_sk (by omega) (hp_eq _ _ _ _)) (by decide) hto)) rfl (ltuc (by omega) ltu0) (⟨trivial, trivial⟩) ?_
    refine vcE_new rfl rfl (fun _ => ox_allocZ (cs := encs (Vector.replicate 8 (0 : UInt64)).toList) D_50 rfl) rfl rfl (.inl (by omega)) ?_
    refine vcE_sto rfl rfl rfl rfl (ox_store (pl rfl) (pl rfl) D_50 (hp_eq _ _ _ _) rfl (encs_vec_length _) (le_vec _ rfl) (encs_known _) (wr_all (by simp only [encs_vec_length]))) rfl (si_store (pl rfl)) (is_some (hp_eq _ _ _ _)) (by omega) (.inl (by omega)) (⟨trivial, ⟨trivial, trivial⟩⟩) (⟨trivial, ⟨trivial, ⟨trivial, trivial⟩⟩⟩) ?_
    refine vcE_nil ?_
    refine IW.seq ?_
    refine IW.reg hE ?_
    refine vcS_val rfl rfl (ox_slAH (pl rfl) D_26 rfl D_5 (bndI (pl rfl) rfl) (Nat.zero_le _)) ?_
    refine vcS_val rfl rfl (ox_assign (pl rfl)) ?_
    refine vcS_nil ?_
    refine IW.seq ?_
    refine IW.seq ?_
    refine IW.reg hE ?_
    refine vcS_val rfl rfl (ox_load (pl rfl) D_50 (hp_eq _ _ _ _) (rd_all rfl (encs_vec_length _))) ?_
    refine vcS_val rfl rfl (ox_move (pl rfl)) ?_
    refine vcS_nil ?_
    refine IW.block ?_
    refine IW.loop (S := Nat) (fun i => [(4, .pointer (some ⟨n + 1, 0, none⟩)), (7, .slice (some ⟨n + 1, 0, none⟩) (8 * i) 64), (16, enc (allV kL (padL ls.flatten) s)), (17, .int .i64 i)]) (fun i => [(n + 1, some (.cells (encs (ovw (Vector.replicate 64 (0 : UInt8)).toList 0 (sb (allV kL (padL ls.flatten) s).toList i))) false))]) (fun i => n + 1 + 1 + 1 + 1 + 1) (fun i => i ≤ 8) (fun i => 8 - i) (0) (by simp) (⟨rfl, ⟨rfl, ⟨rfl, ⟨rfl, trivial⟩⟩⟩⟩) (leX_le (leX_same (hp_sk (by omega) (hp_sk (by omega) (hp_sk (by omega) (hp_sk (by omega) (hp_sk (by omega) (hp_eq _ _ _ _)))))) (by rw [show sb (allV kL (padL ls.flatten) s).toList 0 = [] from rfl, ovw_nil]) (leX_none hfree (by exact ⟨by omega, ⟨by omega, ⟨by omega, ⟨by omega, ⟨by omega, ⟨by omega, ⟨by omega, trivial⟩⟩⟩⟩⟩⟩⟩)))) (Nat.le_refl _) (fun i hi => ?_)
    refine IW.seq ?_
    refine IW.reg hE ?_
    refine vcS_val rfl rfl (ox_bin (pl rfl) (pl rfl) (bo_i64_lss _ _)) ?_
    refine vcS_nil ?_
    refine IW.seq ?_
    refine IW.cond rfl (fun hc2 => ?_) (fun hc2 => ?_)
    · replace hc2 := of_decide_eq_true hc2
      have hi8 : i < (allV kL (padL ls.flatten) s).toList.length := by simp; omega
      have hz : (Vector.replicate 64 (0 : UInt8)).toList.length = 64 := by simp
      have hsl : (sb (allV kL (padL ls.flatten) s).toList i).length = 8 * i := sb_length (by simp; omega)
      have hov : ovw (ovw (Vector.replicate 64 (0 : UInt8)).toList 0 (sb (allV kL (padL ls.flatten) s).toList i)) (8 * i) (be8 ((allV kL (padL ls.flatten) s).toList.getD i 0)) = ovw (Vector.replicate 64 (0 : UInt8)).toList 0 (sb (allV kL (padL ls.flatten) s).toList i ++ be8 ((allV kL (padL ls.flatten) s).toList.getD i 0)) := ovw_ovw (by rw [hsl]; omega) (by rw [hsl, be8_length, hz]; omega)
      refine IW.skip ?_
      refine IW.seq ?_
      refine IW.block ?_
      refine IW.seq ?_
      refine IW.reg hE ?_
      refine vcS_val rfl rfl (ox_ixA (pl rfl) (pl rfl) D_50 rfl D_22 (by omega) (by omega) (rd_ix (i) (0 : UInt64) rfl (by simp) (by simp; omega))) ?_
      refine vcS_val rfl rfl (ox_assign (pl rfl)) ?_
      refine vcS_nil ?_
      refine IW.reg hE ?_
      refine vcS_val rfl rfl (ox_move (pl rfl)) ?_
      refine vcS_val rfl rfl (ox_move (pl rfl)) ?_
      refine vcS_ups rfl rfl (ox_fn rfl rfl (F69_ev (l := ovw (Vector.replicate 64 (0 : UInt8)).toList 0 (sb (allV kL (padL ls.flatten) s).toList i)) (hp_eq _ _ _ _) (by omega) (by rw [ovw_length (by rw [hsl, hz]; omega), hz]; omega) (by omega))) rfl ⟨.inl (by omega), trivial⟩ ?_
      refine vcS_val rfl rfl (ox_assign (pl rfl)) ?_
      refine vcS_nil ?_
      refine IW.nilB ?_
      refine IW.reg hE ?_
      refine vcS_val rfl rfl (ox_bin (pl rfl) (pl rfl) (bo_i64_add (by omega))) ?_
      refine vcS_val rfl rfl (ox_move (pl rfl)) ?_
      refine vcS_nil ?_
      refine IW.nilS ?_
      exact ⟨i + 1, _, _, by omega, by omega, rfl, ⟨rfl, ⟨rfl, ⟨rfl, ⟨rfl, trivial⟩⟩⟩⟩, rfl, leX_le (leX_cons (by rw [sb_succ hi8, hov]) (leX_old (by simp) leX_refl)), Nat.le_refl _⟩
    · replace hc2 := of_decide_eq_false hc2
      have h8 : i = 8 := by omega
      subst h8
      have hfin : ovw (Vector.replicate 64 (0 : UInt8)).toList 0 (sb (allV kL (padL ls.flatten) s).toList 8) = (sumV s ls.flatten).toList := by rw [ovw_all (by rw [sb_length (by simp)]; simp)]; exact (bytesV_toList _).symm
      rw [hfin]
      refine IW.exit ?_
      refine exS (exS ?_)
      refine blkQ_exit ?_
      refine IW.seq ?_
      refine IW.reg hE ?_
      refine vcS_val rfl rfl (ox_load (pl rfl) D_26 (hp_eq _ _ _ _) (rd_all rfl (encs_vec_length _))) ?_
      refine vcS_sto rfl rfl (ox_store (pl rfl) (pl rfl) D_26 (hp_eq _ _ _ _) rfl (encs_vec_length _) (le_vec _ rfl) (encs_known _) (wr_all (by simp only [encs_vec_length]))) (.inl (by omega)) ?_
      refine vcS_nil ?_
      refine IW.ret ?_
      exact RetP.pure (.inr rfl) (ires_cell rfl D_26 (hp_eq _ _ _ _) (rd_all rfl (encs_vec_length _))) (okV8 _) (by omega)
def digOf (v : Vector UInt8 64) : Dig := ⟨(v.toList.take 32).toArray, by simp⟩
def digV (b : List UInt8) : Dig := digOf (sumV shortV b)
noncomputable def F38 : FnI := sumF fun b => enc (digV b)
theorem rd_dig (v : Vector UInt8 64) {d : TD} (hk : d.k.isAgg = true) (hs : d.size = 32) : rdVar d (encs v.toList) 0 = some (enc (digOf v)) := by
  have hl : (digOf v).toList = v.toList.take 32 := by simp [digOf]
  refine rd_part (A := []) (B := encs (digOf v).toList) (C := encs (v.toList.drop 32)) hk ?_ rfl (by rw [encs_vec_length, hs])
  rw [hl, List.nil_append, ← encs_append, List.take_append_drop]
-- headwater/sha.Sum ['Sl'] -> ['Vector UInt8 32'], results [[2, 24]]
theorem R38 : Ref Try.prog 38 F38 := by
  refine Ref.of_iw dok Try.func38 rfl (by kernel_rfl) fun args H n e hF => ?_
  obtain ⟨x, S, ls, rfl, hS, hls, hle, hto, rfl⟩ := sumF_inv hF
  refine ⟨Nat.le_of_ble_eq_true rfl, ?_⟩
  simp only [idxL]
  have hE : Env Try.prog [(45, F45), (67, F67)] D K := env (fnsOk_cons R45 (fnsOk_cons R67 fnsOk_nil))
  refine IW.seq ?_
  refine IW.free (by simp) (fun hfree => ?_)
  refine IW.reg hE ?_
  refine vcS_new rfl rfl (ox_allocZ (cs := encs (Vector.replicate 32 (0 : UInt8)).toList) D_24 rfl) (.inl (by omega)) ?_
  refine vcS_nil ?_
  refine IW.seq ?_
  refine IW.reg hE ?_
  refine vcS_val rfl rfl (ox_fn rfl rfl (fn0_ev _ _ _)) ?_
  refine vcS_val rfl rfl (ox_move (pl rfl)) ?_
  refine vcS_val rfl rfl (ox_fn rfl rfl (F67_ev (rdC_keep hfree hS (by exact ⟨by omega, trivial⟩)) (rdL_keep hfree (by exact ⟨by omega, trivial⟩) hls) hle hto)) ?_
  refine vcS_new rfl rfl (ox_allocZ (cs := encs (Vector.replicate 64 (0 : UInt8)).toList) D_26 rfl) (.inl (by omega)) ?_
  refine vcS_sto rfl rfl (ox_store (pl rfl) (pl rfl) D_26 (hp_eq _ _ _ _) rfl (encs_vec_length _) (le_vec _ rfl) (encs_known _) (wr_all (by simp only [encs_vec_length]))) (.inl (by omega)) ?_
  refine vcS_nil ?_
  refine IW.seq ?_
  refine IW.reg hE ?_
  refine vcS_val rfl rfl (ox_slAH (pl rfl) D_26 rfl D_5 (bndI (l := 32) (pl rfl) rfl) (by decide)) ?_
  refine vcS_val rfl rfl (ox_s2ap (pl rfl) D_24 rfl (by decide)) ?_
  refine vcS_val rfl rfl (ox_load (pl rfl) D_24 (hp_eq _ _ _ _) (rd_dig _ rfl rfl)) ?_
  refine vcS_sto rfl rfl (ox_store (pl rfl) (pl rfl) D_24 (hp_sk (by omega) (hp_sk (by omega) (hp_eq _ _ _ _))) rfl (encs_vec_length _) (le_vec _ rfl) (encs_known _) (wr_all (by simp only [encs_vec_length]))) (.inl (by omega)) ?_
  refine vcS_nil ?_
  refine IW.ret ?_
  exact RetP.pure (.inr rfl) (ires_cell rfl D_24 (hp_eq _ _ _ _) (rd_all rfl (encs_vec_length _))) (okV8 _) (by omega)
end Go.Proofs.Ytdnnojblneccdaa
/-
  Roots: bit by bit.
-/
namespace Go.Proofs.Ytdnnojblneccdaa
set_option linter.unusedSimpArgs false
set_option linter.unusedVariables false
open Go
open Enc (enc)
set_option maxRecDepth 100000
/-! one bit -/
/-- two words -/
def yL (y : Nat) : List UInt64 := [UInt64.ofNat y, UInt64.ofNat (y / 2 ^ 64)]
@[simp] theorem yL_length (y : Nat) : (yL y).length = 2 := rfl
end Go.Proofs.Ytdnnojblneccdaa
/-
  Plain law: a sum is that of its pieces; its bytes are those of the words.
-/
namespace Go.Proofs.Ytdnnojblneccdaa
set_option linter.unusedSimpArgs false
set_option linter.unusedVariables false
open Go
open Enc (enc)
set_option maxRecDepth 100000
/-! a number, brought into bounds -/
def pickV (n m : Int) : Int := if m < 1 then 0 else if n.tmod m < 0 then n.tmod m + m else n.tmod m
theorem pickV_rng {n m : Int} (h : 1 ≤ m) : 0 ≤ pickV n m ∧ pickV n m < m := by
  have h1 := Int.tmod_lt_of_pos n (show 0 < m by omega)
  have h2 : -m < n.tmod m := by
    have := Int.tmod_lt_of_pos (-n) (show 0 < m by omega)
    rw [Int.neg_tmod] at this; omega
  unfold pickV
  rw [if_neg (by omega)]
  split <;> omega
end Go.Proofs.Ytdnnojblneccdaa
/-
  Elements of lists, where the order is drawn.
-/
namespace Go.Proofs.Ytdnnojblneccdaa
set_option linter.unusedSimpArgs false
set_option linter.unusedVariables false
open Go
open Enc (enc)
theorem ox_iaC2 {α : Type} [Row α] {Γ : Fns} {D : Ty} {K : Kinds} {e : Operand → Value} {H H0 : IHeap} {n : Nat} {t : TypeId} {x y : Operand} {v : Value} {el : Nat} {k : IntKind} {j : Int} {d de : TD} {l : List α} (i : Nat) (hx : e x = v) (hy : e y = .int k j) (hd : D t = some d) (hk : d.k = .slice el) (hde : D el = some de) (hs : de.size = Row.sz α) (hl : rdC H0 v = some l) (hj : j = i) (hi : i < l.length) :
    iopC Γ D K e H n (.indexAddr t x y) = some ⟨.pointer (some ⟨adrId v, adrOff v + i * Row.sz α, none⟩), [], n⟩ := by
  obtain ⟨a, cap, rfl⟩ := rdC_len hl
  obtain ⟨id, off, sp, c, ro, rfl, h1, h2⟩ := rdC_at hl hi
  subst hj
  rw [ox_iaS hx hy hd hk hde (by omega) (by omega), hs]
  rfl
end Go.Proofs.Ytdnnojblneccdaa
/-
  Appends to open slices of one-cell elements; copy; writes of another kind where the order is drawn.
-/
namespace Go.Proofs.Ytdnnojblneccdaa
set_option linter.unusedSimpArgs false
set_option linter.unusedVariables false
open Go
open Enc (enc)
open Row (cel)
section
variable {α : Type} [Row1 α] {Γ : Fns} {D : Ty} {K : Kinds} {e : Operand → Value} {H : IHeap} {n : Nat}
theorem ox_appOE {t t2 el : TypeId} {s y : Operand} {id len len2 cap sz k : Nat} {d de : TD} {l1 l : List α} {x : Value} (hs : e s = .slice (some ⟨id, 0, some sz⟩) len cap) (hy : e y = x) (hd : D t = some d) (hk : d.k = .slice el) (hde : D el = some de) (hsz : de.size = Row.sz α) (hss : sz = de.size)
    (hsrc : srcArg D H t2 de x = some (k, encs l)) (hkl : l.length = k) (hH : H id = some (.cells (encs l1) false)) (hl : l1.length = len) (hl2 : len + k = len2) (hm : len2 * de.bytes ≤ most) (hb : 1 ≤ de.bytes) :
    iopC Γ D K e H n (.call ⟨.builtin .append, #[s, y], #[t, t2]⟩) = some ⟨.slice (some ⟨n, 0, some sz⟩) len2 len2, [(id, none), (n, some (.cells (encs (l1 ++ l)) false))], n + 1⟩ := by
  subst hl2
  have hcl : ¬ (len + k ≤ cap ∧ closed (some ⟨id, 0, some sz⟩) = true) := by simp [closed]
  have hlen : (encs l1).length = len * de.size := by rw [← cels_one, cels_length, hl, hsz]
  simp only [iopC, iop, doBuiltin, doAppend, List.map_cons, List.map_nil, hs, hy, hd, hk, hde, hsrc, Option.bind_some, List.getElem?_toArray, List.getElem?_cons_zero, List.getElem?_cons_succ]
  rw [if_neg hcl, if_pos ⟨hm, hb⟩]
  simp only [hH]
  rw [if_pos ⟨Nat.le_of_eq hlen.symm, encs_known1 l, hss, trivial⟩, ← hlen, List.take_length, encs_append]
theorem srcArg_1 {t2 el2 : TypeId} {d2 de : TD} {x : Value} {l : List α} (hd : D t2 = some d2) (hk : d2.k = .slice el2) (hs : de.size = Row.sz α) (h : rdC H x = some l) : srcArg D H t2 de x = some (l.length, encs l) := by
  have := srcArg_rdC (α := α) (de := de) hd hk hs h
  rw [this, cels_one]
end
section
variable {P : Program} {Γ : Fns} {D : Ty} {K : Kinds} {W : Nat → Prop} {R : Option Nat} {ops : Array Oper} {Q : Post3} {o : Oper} {os : List Oper} {pre : List Nat} {pres : List (List Nat)} {N : Nat} {L : List (Nat × Value)} {H : IHeap} {M : Ups} {n n0 k : Nat}
  {Wr : List (Nat × Ups)} {Vs : List (Nat × Vis)}
end
end Go.Proofs.Ytdnnojblneccdaa
/-
  kit.Pick.
-/
namespace Go.Proofs.Ytdnnojblneccdaa
set_option linter.unusedSimpArgs false
set_option linter.unusedVariables false
open Go
open Enc (enc)
set_option maxRecDepth 100000
theorem tmod_rng (n : Int) {m : Int} (h : 1 ≤ m) : -m < n.tmod m ∧ n.tmod m < m := by
  have h1 := Int.tmod_lt_of_pos n (show 0 < m by omega)
  have := Int.tmod_lt_of_pos (-n) (show 0 < m by omega)
  rw [Int.neg_tmod] at this
  exact ⟨by omega, h1⟩
noncomputable def F31 : FnI := fun args H n => match args with
  | [.int .i64 x, .int .i64 m] => if m ≤ 2 ^ 62 then some ⟨.int .i64 (pickV x m), [], n⟩ else none
  | _ => none
theorem F31_inv {args : List Value} {H : IHeap} {n : Nat} {e : Eff} (h : F31 args H n = some e) : ∃ x m : Int, args = [.int .i64 x, .int .i64 m] ∧ m ≤ 2 ^ 62 ∧ e = ⟨.int .i64 (pickV x m), [], n⟩ := by
  unfold F31 at h; split at h
  · split at h
    · rename_i hm; cases h; exact ⟨_, _, rfl, hm, rfl⟩
    · cases h
  · cases h
theorem F31_ev {H : IHeap} {n : Nat} (x : Int) {m : Int} (hm : m ≤ 2 ^ 62) : F31 [.int .i64 x, .int .i64 m] H n = some ⟨.int .i64 (pickV x m), [], n⟩ := by
  simp only [F31, if_pos hm]
-- headwater/headwaterkit.Pick ['Int', 'Int'] -> ['Int'], results [4]
theorem R31 : Ref Try.prog 31 F31 := by
  refine Ref.of_iw dok Try.func31 rfl (by kernel_rfl) fun args H n e hF => ?_
  obtain ⟨x, m, rfl, hm, rfl⟩ := F31_inv hF
  refine ⟨Nat.le_of_ble_eq_true rfl, ?_⟩
  simp only [idxL]
  have hE : Env Try.prog [] D K := env fnsOk_nil
  refine IW.seq ?_
  refine IW.reg hE ?_
  refine vcS_val rfl rfl (ox_assign (pl rfl)) ?_
  refine vcS_nil ?_
  refine IW.seq ?_
  refine IW.seq ?_
  refine IW.reg hE ?_
  refine vcS_val rfl rfl (ox_move (pl rfl)) ?_
  refine vcS_val rfl rfl (ox_bin (pl rfl) (pl rfl) (bo_i64_lss _ _)) ?_
  refine vcS_nil ?_
  refine IW.cond rfl (fun hc1 => ?_) (fun hc1 => ?_)
  · replace hc1 := of_decide_eq_true hc1
    refine IW.seq ?_
    refine IW.reg hE ?_
    refine vcS_val rfl rfl (ox_assign (pl rfl)) ?_
    refine vcS_nil ?_
    refine IW.ret ?_
    exact RetP.ret (.inr rfl) rfl rfl trivial (by unfold pickV; rw [if_pos hc1])
  · replace hc1 := of_decide_eq_false hc1
    have hr := tmod_rng x (show 1 ≤ m by omega)
    refine IW.skip ?_
    refine IW.seq ?_
    refine IW.reg hE ?_
    refine vcS_val rfl rfl (ox_move (pl rfl)) ?_
    refine vcS_val rfl rfl (ox_move (pl rfl)) ?_
    refine vcS_val rfl rfl (ox_bin (pl rfl) (pl rfl) (bo_i64_remI (by omega))) ?_
    refine vcS_val rfl rfl (ox_assign (pl rfl)) ?_
    refine vcS_nil ?_
    refine IW.seq ?_
    refine IW.seq ?_
    refine IW.reg hE ?_
    refine vcS_val rfl rfl (ox_move (pl rfl)) ?_
    refine vcS_val rfl rfl (ox_bin (pl rfl) (pl rfl) (bo_i64_lss _ _)) ?_
    refine vcS_nil ?_
    refine IW.cond rfl (fun hc2 => ?_) (fun hc2 => ?_)
    · replace hc2 := of_decide_eq_true hc2
      refine IW.reg hE ?_
      refine vcS_val rfl rfl (ox_move (pl rfl)) ?_
      refine vcS_val rfl rfl (ox_move (pl rfl)) ?_
      refine vcS_val rfl rfl (ox_bin (pl rfl) (pl rfl) (bo_i64_add (by omega))) ?_
      refine vcS_val rfl rfl (ox_assign (pl rfl)) ?_
      refine vcS_nil ?_
      refine IW.seq ?_
      refine IW.reg hE ?_
      refine vcS_val rfl rfl (ox_move (pl rfl)) ?_
      refine vcS_val rfl rfl (ox_assign (pl rfl)) ?_
      refine vcS_nil ?_
      refine IW.ret ?_
      exact RetP.ret (.inr rfl) rfl rfl trivial (by unfold pickV; rw [if_neg hc1, if_pos hc2])
    · replace hc2 := of_decide_eq_false hc2
      refine IW.skip ?_
      refine IW.seq ?_
      refine IW.reg hE ?_
      refine vcS_val rfl rfl (ox_move (pl rfl)) ?_
      refine vcS_val rfl rfl (ox_assign (pl rfl)) ?_
      refine vcS_nil ?_
      refine IW.ret ?_
      exact RetP.ret (.inr rfl) rfl rfl trivial (by unfold pickV; rw [if_neg hc1, if_neg hc2])
end Go.Proofs.Ytdnnojblneccdaa
/-
  headwaterlaw02.ShaPads.
-/
namespace Go.Proofs.Ytdnnojblneccdaa
set_option linter.unusedSimpArgs false
set_option linter.unusedVariables false
open Go
open Enc (enc)
set_option maxRecDepth 100000
theorem own_ev {x : Value} {H : IHeap} {n : Nat} {l : List UInt8} (hl : rdC H x = some l) (hle : l.length ≤ 2 ^ 47) : F36 [x] H n = some ⟨freshV 1 n l.length, [(n, some (.cells (encs l) false))], n + 1⟩ := by
  have := copyF_ev (bytes := 1) (n := n) hl (by simp only [most]; omega)
  show copyF UInt8 1 [x] H n = _
  rw [this, freshE, cels_u8]; rfl
end Go.Proofs.Ytdnnojblneccdaa
/-
  headwaterlaw02.ShaParts.
-/
namespace Go.Proofs.Ytdnnojblneccdaa
set_option linter.unusedSimpArgs false
set_option linter.unusedVariables false
open Go
open Enc (enc)
set_option maxRecDepth 100000
theorem ev38_2 {x : Value} {H : IHeap} {n : Nat} {s1 s2 : Sl} {l1 l2 l : List UInt8} (hS : rdC H x = some [s1, s2]) (h1 : rdC H (enc s1) = some l1) (h2 : rdC H (enc s2) = some l2) (hf : [l1, l2].flatten = l) (hl : l.length ≤ 2 ^ 40) : F38 [x] H n = some ⟨enc (digV l), [], n⟩ :=
  sumF_ev (ls := [l1, l2]) hS (by simp only [rdL, h1, h2]) (by simp) hf hl
theorem ne_same {α : Type} [BEq α] [LawfulBEq α] (a : α) : some (Value.bool (!(a == a))) = some (.bool false) := by simp
end Go.Proofs.Ytdnnojblneccdaa
/-
  Plain laws: numbers of many words of 32 bits.
-/
namespace Go.Proofs.Ytdnnojblneccdaa
set_option linter.unusedSimpArgs false
set_option linter.unusedVariables false
set_option maxRecDepth 100000
/-! three words -/
def xL (y : Nat) : List UInt32 := [UInt32.ofNat y, UInt32.ofNat (y / 2 ^ 32), UInt32.ofNat (y / 2 ^ 64)]
@[simp] theorem xL_length (y : Nat) : (xL y).length = 3 := rfl
end Go.Proofs.Ytdnnojblneccdaa
/-
  The document's padding, run, join, sums.
-/
namespace Go.Proofs.Ytdnnojblneccdaa
set_option linter.unusedSimpArgs false
set_option linter.unusedVariables false
open Go
open Enc (enc)
set_option maxRecDepth 100000
theorem rdC_nilE {H : IHeap} {x : Value} {b : List UInt8} (h0 : b = []) (h : rdC H x = some b) : rdC H x = some ([] : List UInt8) := h0 ▸ h
end Go.Proofs.Ytdnnojblneccdaa
/-
  headwaterlaw02.ShaCalls.
-/
namespace Go.Proofs.Ytdnnojblneccdaa
set_option linter.unusedSimpArgs false
set_option linter.unusedVariables false
open Go
open Enc (enc)
set_option maxRecDepth 100000
def fsp (k : Nat) : Option Nat := if k = 0 then none else some 1
theorem freshV_fsp (n k : Nat) : freshV 1 n k = .slice (some ⟨n, 0, fsp k⟩) k k := by
  unfold freshV fsp
  split
  · rename_i h; subst h; rfl
  · rfl
theorem own_ev2 {x : Value} {H : IHeap} {n : Nat} {l : List UInt8} (hl : rdC H x = some l) (hle : l.length ≤ 2 ^ 47) : F36 [x] H n = some ⟨.slice (some ⟨n, 0, fsp l.length⟩) l.length l.length, [(n, some (.cells (encs l) false))], n + 1⟩ := by
  rw [own_ev hl hle, freshV_fsp]
set_option maxHeartbeats 1000000
-- headwater/headwaterlaw02.ShaCalls ['Sl', 'Sl', 'Vector UInt64 8', 'Vector UInt8 128'] -> ['Bool'], results [8]
end Go.Proofs.Ytdnnojblneccdaa
/-
  More operations: bytes, strings, pointers, appends that move; writes of any kind where the order is drawn.
-/
namespace Go.Proofs.Ytdnnojblneccdaa
set_option linter.unusedSimpArgs false
set_option linter.unusedVariables false
open Go
open Enc (enc)
open Row (cel)
def shr8 (x : UInt8) (k : Nat) : UInt8 := UInt8.ofNat (x.toNat / 2 ^ min k 8)
section
variable {D : Ty} {K : Kinds} {t : TypeId}
theorem bo_u8_lss (x y : UInt8) : binOp' D K .lss t (enc x) (enc y) = some (.bool (decide (x < y))) := by
  refine congrArg (fun b => some (Value.bool b)) ?_
  rw [Bool.eq_iff_iff, decide_eq_true_iff, decide_eq_true_iff, UInt8.lt_iff_toNat_lt]
  omega
theorem bo_u8_and (x y : UInt8) : binOp' D K .and t (enc x) (enc y) = some (enc (x &&& y)) := by
  show some (Value.int .u8 (IntKind.wrap .u8 ((BitVec.ofInt 8 (x.toNat : Int) &&& BitVec.ofInt 8 (y.toNat : Int)).toNat : Int))) = _
  rw [bv_8, bv_8, wrapN_u8, Nat.mod_eq_of_lt (BitVec.isLt _)]; rfl
theorem bo_u8_shr {k : IntKind} {b : Int} (x : UInt8) (hb : 0 ≤ b) : binOp' D K .shr t (enc x) (.int k b) = some (enc (shr8 x b.toNat)) := by
  show (if b < 0 then none else some (Value.int .u8 ((x.toNat : Int).fdiv (2 ^ (min b.toNat 8))))) = _
  rw [if_neg (by omega)]
  have : ((x.toNat : Int).fdiv (2 ^ (min b.toNat 8))) = ((x.toNat / 2 ^ (min b.toNat 8) : Nat) : Int) := by
    rw [Int.fdiv_eq_ediv_of_nonneg _ (Int.pow_nonneg (by omega))]; simp
  rw [this, enc_u8, shr8, UInt8.toNat_ofNat', Nat.mod_eq_of_lt]
  exact Nat.lt_of_le_of_lt (Nat.div_le_self _ _) x.toNat_lt
theorem bo_u8_shrN {k : IntKind} {b : Int} (x : UInt8) (m : Nat) (hb : b = m) : binOp' D K .shr t (enc x) (.int k b) = some (enc (shr8 x m)) := by
  subst hb
  have := bo_u8_shr (D := D) (K := K) (t := t) (k := k) (b := (m : Int)) x (by omega)
  simpa using this
theorem bo_u64_shrN {k : IntKind} {b : Int} (x : UInt64) (m : Nat) (hb : b = m) : binOp' D K .shr t (enc x) (.int k b) = some (enc (shr64 x m)) := by
  subst hb
  have := bo_u64_shr (D := D) (K := K) (t := t) (k := k) (b := (m : Int)) x (by omega)
  simpa using this
theorem bo_u64_shlN {k : IntKind} {b : Int} (x : UInt64) (m : Nat) (hb : b = m) : binOp' D K .shl t (enc x) (.int k b) = some (enc (shl64 x m)) := by
  subst hb
  have := bo_u64_shl (D := D) (K := K) (t := t) (k := k) (b := (m : Int)) x (by omega)
  simpa using this
theorem uo_u8_xor (x : UInt8) : unOp' .xor (enc x) = some (enc (~~~x)) := by
  show some (Value.int .u8 (IntKind.wrap .u8 ((BitVec.ofInt 8 255 ^^^ BitVec.ofInt 8 (x.toNat : Int)).toNat : Int))) = _
  rw [bv_8, wrapN_u8, Nat.mod_eq_of_lt (BitVec.isLt _)]
  have : (BitVec.ofInt 8 255 ^^^ x.toBitVec) = ~~~x.toBitVec := by
    have : BitVec.ofInt 8 255 = BitVec.allOnes 8 := by decide
    rw [this, BitVec.allOnes_xor]
  rw [this]; rfl
theorem bo_ptr_nil {d : TD} {a : Addr} {el : Nat} (hd : D t = some d) (hk : d.k = .ptr el) : binOp' D K .eql t (.pointer (some a)) (.pointer none) = some (.bool false) := by
  simp [binOp', eqOp, hd, hk]
end
section
variable {Γ : Fns} {D : Ty} {K : Kinds} {e : Operand → Value} {H : IHeap} {n : Nat}
theorem cv_6_i {s t : TypeId} {x : Operand} {ds dd : TD} {a : UInt64} (hx : e x = enc a) (hs : D s = some ds) (hd : D t = some dd) (hk : dd.k = .int .i64) (h : a.toNat < 2 ^ 63) : iopC Γ D K e H n (.convert s t x) = some ⟨.int .i64 (a.toNat : Int), [], n⟩ := by
  rw [ox_conv (k' := .u64) (a := (a.toNat : Int)) hx hs hd hk, wrap_i64 (by omega) (by omega)]
theorem ox_minN {x y : Operand} {ts : Array TypeId} {k : IntKind} {a b : Int} (i j : Nat) (hx : e x = .int k a) (hy : e y = .int k b) (ha : a = i) (hb : b = j) : iopC Γ D K e H n (.call ⟨.builtin .min, #[x, y], ts⟩) = some ⟨.int k ((min i j : Nat) : Int), [], n⟩ := by
  subst ha; subst hb
  simp only [iopC, iop, doBuiltin, List.map_cons, List.map_nil, hx, hy, Ytdnnojblneccdaa.val]
  congr 3
  split <;> omega
theorem ox_maxM {x y : Operand} {ts : Array TypeId} {k : IntKind} {a b : Int} (i j : Nat) (hx : e x = .int k a) (hy : e y = .int k b) (ha : a = i) (hb : b = j) : iopC Γ D K e H n (.call ⟨.builtin .max, #[x, y], ts⟩) = some ⟨.int k ((max i j : Nat) : Int), [], n⟩ := by
  subst ha; subst hb
  simp only [iopC, iop, doBuiltin, List.map_cons, List.map_nil, hx, hy, Ytdnnojblneccdaa.val]
  congr 3
  split <;> omega
theorem ox_ixStr {t : TypeId} {x y : Operand} {d : TD} {l : List UInt8} {k : IntKind} {i : Int} (j : Nat) (hx : e x = .string (bs l)) (hy : e y = .int k i) (hd : D t = some d) (hk : d.k = .str) (hi : i = j) (hj : j < l.length) : iopC Γ D K e H n (.index t x y) = some ⟨enc (l.getD j 0), [], n⟩ := by
  subst hi
  simp only [iopC, iop, hx, hy, hd, hk, Option.bind_some, bs]
  rw [if_pos (by omega)]
  simp [hj, Ytdnnojblneccdaa.val, enc_u8]
end
section
variable {α : Type} [Row1 α] {Γ : Fns} {D : Ty} {K : Kinds} {e : Operand → Value} {H : IHeap} {n : Nat}
/-- an append to a slice that is not open, and has no room: it moves -/
theorem ox_appG {t t2 el : TypeId} {s y : Operand} {id off len len2 cap k : Nat} {x : Value} {d de : TD} {l1 l : List α} (hs : e s = .slice (some ⟨id, off, none⟩) len cap) (hy : e y = x) (hd : D t = some d) (hk : d.k = .slice el) (hde : D el = some de) (hsz : de.size = Row.sz α)
    (hsrc : srcArg D H t2 de x = some (k, encs l)) (hkl : l.length = k) (hr : rdC H (.slice (some ⟨id, off, none⟩) len cap) = some l1) (hc : cap < len + k) (hl2 : len + k = len2) (hm : len2 * de.bytes ≤ most) (hb : 1 ≤ de.bytes) :
    iopC Γ D K e H n (.call ⟨.builtin .append, #[s, y], #[t, t2]⟩) = some ⟨.slice (some ⟨n, 0, some de.size⟩) len2 len2, [(n, some (.cells (encs (l1 ++ l)) false))], n + 1⟩ := by
  subst hl2
  obtain ⟨_, h2⟩ := rdC_src hr
  rw [cels_one] at h2
  have hcl : ¬ (len + k ≤ cap ∧ closed (some ⟨id, off, none⟩) = true) := by omega
  simp only [iopC, iop, doBuiltin, doAppend, List.map_cons, List.map_nil, hs, hy, hd, hk, hde, hsrc, Option.bind_some, List.getElem?_toArray, List.getElem?_cons_zero, List.getElem?_cons_succ]
  rw [if_neg hcl, if_pos ⟨hm, hb⟩]
  simp only [hsz, h2, Option.bind_some, new, encs_append]
end
section
variable {P : Program} {Γ : Fns} {D : Ty} {K : Kinds} {W : Nat → Prop} {R : Option Nat} {ops : Array Oper} {Q : Post3} {o : Oper} {os : List Oper} {pre : List Nat} {pres : List (List Nat)} {N : Nat} {L : List (Nat × Value)} {H : IHeap} {M : Ups} {n n0 k : Nat}
  {Wr : List (Nat × Ups)} {Vs : List (Nat × Vis)}
/-- updates of any kind -/
theorem vcE_gen {d : Tmp} {v : Value} {n' : Nat} {ids : List Nat} {up u M' : Ups} (hd : o.dst = some d) (hg : o.guard = none) (hu : upsW pre Wr = u) (hM : putH u M = M') (h : iopC Γ D K (ev (dense N L)) (hp H M') n o.op = some ⟨v, up, n'⟩) (hc : isCall o.op = false)
    (hs : seesIds (ev (dense N L)) o.op = ids) (hn : n ≤ n') (hup : ∀ p ∈ up, W p.1 ∧ (n ≤ p.1 ∨ p.1 ∈ ids ∧ (hp H M' p.1).isSome = true) ∧ p.1 < n') (hl : ∀ i ∈ ids, i < n) (hq : quietW n0 pre (.ids ids) Wr) (hv' : ∀ p ∈ up, n ≤ p.1 ∨ clearV n0 pre p.1 Vs)
    (hk : vcE Γ D K W ops (hp H M) n0 Q os pres (k + 1) (Wr ++ [(k, up)]) ((k, .ids ids) :: Vs) (dense N ((d, v) :: L)) n') : vcE Γ D K W ops (hp H M) n0 Q (o :: os) (pre :: pres) k Wr Vs (dense N L) n := by
  intro acc R
  subst hu
  subst hM
  unfold vcD
  rw [R.ups pre, upds_hp, h]
  simp only [wantedI, hg, wpo]
  have hv : visOf (ev (dense N L)) o.op (List.map (fun x => x.fst) (upsW pre Wr)) = .ids ids := by simp only [visOf, hc]; rw [hs]; rfl
  refine ⟨fun _ => ⟨fun p hm => ?_, hn, ?_, ?_⟩, fun hb => by cases hb⟩
  · obtain ⟨h1, h2, h3⟩ := hup p hm
    refine ⟨h1, ?_, h3⟩
    rcases h2 with h2 | ⟨h2, h4⟩
    · exact .inl h2
    · right
      simp only [seenH, hc, Bool.false_eq_true, if_false, hs, restr]
      rw [if_pos h2]
      exact h4
  · refine apart2_mk fun j y hy => ?_
    rw [hv]
    have a1 : j ∈ pre ∨ ∀ p ∈ y.up, Vis.clear n0 (.ids ids) p.1 := by
      rcases R.wr j y hy with h1 | h1
      · right; rw [h1]; exact fun p hm => (by cases hm)
      · exact quietW_spec hq _ h1
    have a2 : j ∈ pre ∨ ∀ p ∈ up, y.vis.clear n0 p.1 := by
      rcases R.vis j y hy with h1 | h1
      · right; rw [h1]; intro p _; simp [Vis.clear]
      · by_cases hj : j ∈ pre
        · exact .inl hj
        · right
          intro p hm
          rcases hv' p hm with h2 | h2
          · exact R.fresh y (List.mem_of_getElem? hy) p.1 h2
          · rcases clearV_spec h2 _ h1 with h3 | h3
            · exact absurd h3 hj
            · exact h3
    simp only [Nat.zero_add]
    rcases a1 with a1 | a1
    · exact .inl a1
    · rcases a2 with a2 | a2
      · exact .inl a2
      · exact .inr ⟨a2, a1⟩
  · have hh := hk (acc ++ [⟨up, .ids ids⟩]) (R.snoc _ _ _ hn (.inr rfl) (.inr (.inl rfl)) (fun id' hid' => by
      show id' ∉ ids
      intro hm; have := hl _ hm; omega))
    rw [hv]
    rw [tput_dense, hd]
    exact hh
end
end Go.Proofs.Ytdnnojblneccdaa
/-
  The structs of this program.
-/
namespace Go.Proofs.Ytdnnojblneccdaa
open Go
open Enc (enc)
set_option linter.unusedSimpArgs false
@[ext] structure Reader where
  b : Sl
  at_ : Int
  e : Int
  made : Bool
def Reader.cells (v : Reader) : List Value := [enc v.b] ++ ([enc v.at_] ++ ([enc v.e] ++ ([enc v.made])))
theorem Reader.cells_length (v : Reader) : v.cells.length = 4 := by simp only [Reader.cells, List.length_append, encs_vec_length, List.length_singleton, List.length_nil, List.length_cons]
theorem Reader.cells_inj {a b : Reader} (h : a.cells = b.cells) : a = b := by
  simp only [Reader.cells] at h
  obtain ⟨h0, h⟩ := app_inj h (by simp only [List.length_append, encs_vec_length, List.length_singleton, List.length_nil, List.length_cons])
  obtain ⟨h1, h⟩ := app_inj h (by simp only [List.length_append, encs_vec_length, List.length_singleton, List.length_nil, List.length_cons])
  obtain ⟨h2, h⟩ := app_inj h (by simp only [List.length_append, encs_vec_length, List.length_singleton, List.length_nil, List.length_cons])
  have h3 := h
  ext1
  · exact Enc.inj _ _ (by simpa using h0)
  · exact Enc.inj _ _ (by simpa using h1)
  · exact Enc.inj _ _ (by simpa using h2)
  · exact Enc.inj _ _ (by simpa using h3)
instance : Enc Reader := ⟨fun v => .agg v.cells.toArray, fun _ _ h => Reader.cells_inj (agg_inj h)⟩
theorem cellsOf_Reader (v : Reader) : cellsOf (enc v) = some v.cells := rfl
def Reader.zero : Reader := ⟨⟨none, 0, 0⟩, 0, 0, false⟩
theorem zero_143 {d : TD} (h : D 143 = some d) : d.zero = Reader.zero.cells := by
  rw [D_143] at h; cases h; kernel_rfl
theorem Reader.le (v : Reader) {k : Nat} (h : Nat.ble k 4 = true) : k ≤ v.cells.length := by rw [v.cells_length]; exact Nat.le_of_ble_eq_true h
theorem Reader.cells_known (v : Reader) : v.cells.all known = true := by simp only [Reader.cells, List.all_append, encs_known, List.all_cons, List.all_nil, Enc1.agg1, Bool.and_self]
theorem rd_143_0 (v : Reader) {d : TD} (hd : d.k.isAgg = false) : rdVar d v.cells 0 = some (enc v.b) :=
  rd_one (A := []) (C := [enc v.at_] ++ ([enc v.e] ++ ([enc v.made]))) hd (by simp only [Reader.cells, List.append_assoc, List.nil_append, List.append_nil]) (by simp only [List.length_append, encs_vec_length, List.length_singleton, List.length_nil, List.length_cons])
theorem wr_143_0 (v : Reader) (x : Sl) : wrCells v.cells 0 ([enc x]) = ({ v with b := x } : Reader).cells := by
  rw [wr_part (A := []) (B := [enc v.b]) (C := [enc v.at_] ++ ([enc v.e] ++ ([enc v.made]))) (c := v.cells) (by simp only [Reader.cells, List.append_assoc, List.nil_append, List.append_nil]) (by simp only [List.length_append, encs_vec_length, List.length_singleton, List.length_nil, List.length_cons]) (by simp only [List.length_append, encs_vec_length, List.length_singleton, List.length_nil, List.length_cons])]
  simp only [Reader.cells, List.append_assoc, List.nil_append, List.append_nil]
theorem rd_143_1 (v : Reader) {d : TD} (hd : d.k.isAgg = false) : rdVar d v.cells 1 = some (enc v.at_) :=
  rd_one (A := [enc v.b]) (C := [enc v.e] ++ ([enc v.made])) hd (by simp only [Reader.cells, List.append_assoc, List.nil_append, List.append_nil]) (by simp only [List.length_append, encs_vec_length, List.length_singleton, List.length_nil, List.length_cons])
theorem wr_143_1 (v : Reader) (x : Int) : wrCells v.cells 1 ([enc x]) = ({ v with at_ := x } : Reader).cells := by
  rw [wr_part (A := [enc v.b]) (B := [enc v.at_]) (C := [enc v.e] ++ ([enc v.made])) (c := v.cells) (by simp only [Reader.cells, List.append_assoc, List.nil_append, List.append_nil]) (by simp only [List.length_append, encs_vec_length, List.length_singleton, List.length_nil, List.length_cons]) (by simp only [List.length_append, encs_vec_length, List.length_singleton, List.length_nil, List.length_cons])]
  simp only [Reader.cells, List.append_assoc, List.nil_append, List.append_nil]
theorem rd_143_2 (v : Reader) {d : TD} (hd : d.k.isAgg = false) : rdVar d v.cells 2 = some (enc v.e) :=
  rd_one (A := [enc v.b] ++ ([enc v.at_])) (C := [enc v.made]) hd (by simp only [Reader.cells, List.append_assoc, List.nil_append, List.append_nil]) (by simp only [List.length_append, encs_vec_length, List.length_singleton, List.length_nil, List.length_cons])
theorem wr_143_2 (v : Reader) (x : Int) : wrCells v.cells 2 ([enc x]) = ({ v with e := x } : Reader).cells := by
  rw [wr_part (A := [enc v.b] ++ ([enc v.at_])) (B := [enc v.e]) (C := [enc v.made]) (c := v.cells) (by simp only [Reader.cells, List.append_assoc, List.nil_append, List.append_nil]) (by simp only [List.length_append, encs_vec_length, List.length_singleton, List.length_nil, List.length_cons]) (by simp only [List.length_append, encs_vec_length, List.length_singleton, List.length_nil, List.length_cons])]
  simp only [Reader.cells, List.append_assoc, List.nil_append, List.append_nil]
theorem rd_143_3 (v : Reader) {d : TD} (hd : d.k.isAgg = false) : rdVar d v.cells 3 = some (enc v.made) :=
  rd_one (A := [enc v.b] ++ ([enc v.at_] ++ ([enc v.e]))) (C := []) hd (by simp only [Reader.cells, List.append_assoc, List.nil_append, List.append_nil]) (by simp only [List.length_append, encs_vec_length, List.length_singleton, List.length_nil, List.length_cons])
theorem wr_143_3 (v : Reader) (x : Bool) : wrCells v.cells 3 ([enc x]) = ({ v with made := x } : Reader).cells := by
  rw [wr_part (A := [enc v.b] ++ ([enc v.at_] ++ ([enc v.e]))) (B := [enc v.made]) (C := []) (c := v.cells) (by simp only [Reader.cells, List.append_assoc, List.nil_append, List.append_nil]) (by simp only [List.length_append, encs_vec_length, List.length_singleton, List.length_nil, List.length_cons]) (by simp only [List.length_append, encs_vec_length, List.length_singleton, List.length_nil, List.length_cons])]
  simp only [Reader.cells, List.append_assoc, List.nil_append, List.append_nil]
end Go.Proofs.Ytdnnojblneccdaa
