import Derived.Test.YtdnnojblneccdaaV11F
/-
  headwaterlaw08.RecordBack.
-/
namespace Go.Proofs.Ytdnnojblneccdaa
set_option linter.unusedSimpArgs false
set_option linter.unusedVariables false
open Go
open Enc (enc)
open Row (cel)
set_option maxRecDepth 100000
/-- the state at the loop's head: how many were looked at; where the last good one's rows begin; the next number -/
structure QB where
  i : Nat
  g : Option Nat
  n : Nat
def bS : Option Nat → Nat → Sl
  | none, _ => ⟨none, 0, 0⟩
  | some m, l => ⟨some ⟨m + 1 + 1, 0, some 1⟩, l, l⟩
def gS : Option Nat → Nat → Sl
  | none, _ => ⟨none, 0, 0⟩
  | some m, l => ⟨some ⟨m + 1 + 1 + 1 + 1, 0, some 2⟩, l, l⟩
def eId (n : Nat) : Option Nat → Nat
  | none => n + 1
  | some m => m + 1 + 1 + 1 + 1 + 1 + 1
def dId (n : Nat) : Option Nat → Nat
  | none => n + 1 + 1
  | some m => m + 1 + 1 + 1 + 1 + 1 + 1 + 1 + 1
def spG (k : Nat) : Option Nat → Option Nat
  | none => none
  | some _ => some k
def abM : Option Nat → List UInt8 → List Record → Ups
  | none, _, _ => []
  | some m, bb, gs => [(m + 1 + 1 + 1 + 1, some (.cells (cels gs) false)), (m + 1 + 1, some (.cells (cels bb) false))]
theorem bS_q (g : Option Nat) (l : Nat) : SlQ (bS g l) := by cases g; exact .inl ⟨rfl, rfl, rfl⟩; exact .inr ⟨_, _, _, rfl, Nat.le_refl _⟩
theorem gS_q (g : Option Nat) (l : Nat) : SlQ (gS g l) := by cases g; exact .inl ⟨rfl, rfl, rfl⟩; exact .inr ⟨_, _, _, rfl, Nat.le_refl _⟩
theorem chsL_last (c : Dig) (G : List Rc) : (chsL c G)[G.length]? = some (lastC c G) := by
  have h : G.length < (chsL c G).length := by rw [chsL_length]; omega
  rw [List.getElem?_eq_getElem h, chsL_at, cN_all]
theorem rd_digs {d : TD} {l : List Dig} {i j : Nat} {x : Dig} (hx : l[i]? = some x) (hk : d.k.isAgg = true) (hs : d.size = 32) (hj : j = i * 32) : rdVar d (cels l) j = some (enc x) := by
  obtain ⟨h, rfl⟩ := List.getElem?_eq_some_iff.1 hx
  exact rd_cel (k := 32) (off := 0) (l := l) (by rw [List.drop_zero]; exact List.take_of_length_le (by rw [cels_length]; exact Nat.le_refl _)) h hk hs (by rw [hj]; omega)
theorem rd_int {d : TD} {l : List Int} {i j : Nat} (h : i < l.length) (hk : d.k.isAgg = false) (hj : j = i) : rdVar d (cels l) j = some (enc (l.getD i 0)) := by
  rw [cels_one]; exact rd_ix i 0 hk hj h
noncomputable def F13 : FnI := fun args H n => match args with
  | [x, y, .int .i64 _] => (rdC H x).bind fun (rs : List Record) => (dec y).bind fun (_ : Dig) => (rdRs H rs).bind fun _ => if rs.length ≤ 2 ^ 63 - 1 then some ⟨.bool true, [], n⟩ else none
  | _ => none
theorem F13_inv {args : List Value} {H : IHeap} {n : Nat} {e : Eff} (h : F13 args H n = some e) : ∃ xa xc, ∃ (rs : List Record) (c : Dig) (j : Int) (A : List Rc), args = [.slice xa rs.length xc, enc c, .int .i64 j] ∧ rdC H (.slice xa rs.length xc) = some rs ∧ rdRs H rs = some A ∧ rs.length ≤ 2 ^ 63 - 1 ∧ e = ⟨.bool true, [], n⟩ := by
  unfold F13 at h; split at h
  · simp only [Option.bind_eq_some_iff] at h
    obtain ⟨rs, hrs, c, hc, A, hA, h⟩ := h
    split at h
    · rename_i hle
      cases h
      obtain ⟨xa, xc, rfl⟩ := rdC_len hrs
      exact ⟨xa, xc, rs, c, _, A, by rw [dec_some hc], hrs, hA, hle, rfl⟩
    · cases h
  · cases h
theorem F13_ev {H : IHeap} {n : Nat} {x : Value} {rs : List Record} {c : Dig} {j : Int} {A : List Rc} (hr : rdC H x = some rs) (hA : rdRs H rs = some A) (hle : rs.length ≤ 2 ^ 63 - 1) : F13 [x, enc c, .int .i64 j] H n = some ⟨.bool true, [], n⟩ := by
  simp only [F13, dec_enc, hr, hA, Option.bind_some, if_pos hle]
theorem light_get {l : List Record} {m k : Int} (h : lightR l m k = true) : (l.length : Int) ≤ m ∧ ∀ b ∈ l, (b.data.len : Int) ≤ k := by
  simp only [lightR, Bool.and_eq_true, Bool.not_eq_true', decide_eq_false_iff_not, List.all_eq_true] at h
  exact ⟨by omega, fun b hb => by have := h.2 b hb; omega⟩
section
variable {Γ : Fns} {K : Kinds} {N : Nat} {L : List (Nat × Value)} {H : IHeap} {n : Nat}
theorem ox_bslR {y : Operand} {r : Record} (h : opd N L y = some (enc r)) : iopC Γ D K (ev (dense N L)) H n (.buildSlice 80 1 #[(0, y)]) = some ⟨.slice (some ⟨n, 0, none⟩) 1 1, [(n, some (.cells r.cells false))], n + 1⟩ :=
  ox_bsl (vs := [(0, enc r)]) (cs := r.cells) D_80 rfl D_69 (Nat.le_of_ble_eq_true rfl) (by simp [opp, h]) (fill_cons rfl (cellsOf_Record _) (Record.cells_length _) (Nat.le_of_ble_eq_true rfl) (wr_all (by rw [Record.cells_length]; rfl)) fill_nil)
theorem ox_bslD {y : Operand} {x : Dig} (h : opd N L y = some (enc x)) : iopC Γ D K (ev (dense N L)) H n (.buildSlice 34 1 #[(0, y)]) = some ⟨.slice (some ⟨n, 0, none⟩) 1 1, [(n, some (.cells (encs x.toList) false))], n + 1⟩ :=
  ox_bsl (vs := [(0, enc x)]) (cs := encs x.toList) D_34 rfl D_24 (Nat.le_of_ble_eq_true rfl) (by simp [opp, h]) (fill_cons rfl rfl (encs_vec_length _) (Nat.le_of_ble_eq_true rfl) (wr_all (by rw [encs_vec_length]; rfl)) fill_nil)
end
theorem back_mem {H2 : IHeap} {p : Nat} {R : List (List Value)} {x y : Option IObj} {M : Ups} (hM : M = putH (upL p R ++ [(p + R.length, x), (p + R.length, y)]) []) :
    (∀ id, id < p → hp H2 M id = H2 id) ∧ (∀ i (h : i < R.length), hp H2 M (p + i) = some (.cells R[i] false)) ∧ hp H2 M (p + R.length) = y := by
  subst hM
  rw [putH_app]
  refine ⟨fun id h => ?_, fun i h => ?_, hp_eq _ _ _ _⟩
  · show hp H2 ((p + R.length, y) :: (p + R.length, x) :: putH (upL p R) []) id = _
    rw [hp_ne _ _ _ (by omega), hp_ne _ _ _ (by omega), hp_upL_low h]; rfl
  · show hp H2 ((p + R.length, y) :: (p + R.length, x) :: putH (upL p R) []) (p + i) = _
    rw [hp_ne _ _ _ (by omega), hp_ne _ _ _ (by omega), hp_upL_at h]
theorem bk_case {k : UInt8} {len : Nat} (g : Option Nat) : (¬ chk k len = 0 ∧ g = none) ∨ (¬ chk k len = 0 ∧ ∃ m, g = some m) ∨ (chk k len = 0 ∧ g = none) ∨ (chk k len = 0 ∧ ∃ m, g = some m) := by
  by_cases h : chk k len = 0
  · cases g with
    | none => exact .inr (.inr (.inl ⟨h, rfl⟩))
    | some m => exact .inr (.inr (.inr ⟨h, m, rfl⟩))
  · cases g with
    | none => exact .inl ⟨h, rfl⟩
    | some m => exact .inr (.inl ⟨h, m, rfl⟩)
theorem ids_ok {n p : Nat} {g : Option Nat} (h3 : n + 3 ≤ p) (hg : ∀ m, g = some m → n + 3 ≤ m ∧ m + 9 ≤ p) : n < dId n g ∧ dId n g < p ∧ n < eId n g ∧ eId n g < p ∧ dId n g ≠ eId n g := by
  cases g with
  | none => show n < n + 1 + 1 ∧ n + 1 + 1 < p ∧ n < n + 1 ∧ n + 1 < p ∧ n + 1 + 1 ≠ n + 1; omega
  | some m =>
    have := hg m rfl
    show n < m + 1 + 1 + 1 + 1 + 1 + 1 + 1 + 1 ∧ m + 1 + 1 + 1 + 1 + 1 + 1 + 1 + 1 < p ∧ n < m + 1 + 1 + 1 + 1 + 1 + 1 ∧ m + 1 + 1 + 1 + 1 + 1 + 1 < p ∧ m + 1 + 1 + 1 + 1 + 1 + 1 + 1 + 1 ≠ m + 1 + 1 + 1 + 1 + 1 + 1
    omega
theorem abM_all {P : Nat → Prop} {g : Option Nat} {bb : List UInt8} {gs : List Record} (h : ∀ m, g = some m → P (m + 1 + 1 + 1 + 1) ∧ P (m + 1 + 1)) : wAll P (abM g bb gs) := by
  cases g with
  | none => trivial
  | some m => exact ⟨(h m rfl).1, (h m rfl).2, trivial⟩
theorem bS_rd {H : IHeap} {g : Option Nat} {bb : List UInt8} (h0 : g = none → bb = []) (hX : ∀ m, g = some m → H (m + 1 + 1) = some (.cells (cels bb) false)) : rdC H (enc (bS g bb.length)) = some bb := by
  cases g with
  | none => rw [h0 rfl]; rfl
  | some m => exact rdC_all (hX m rfl) rfl
theorem gS_rd {H : IHeap} {g : Option Nat} {gs : List Record} {l : Nat} (hl : gs.length = l) (h0 : g = none → gs = []) (hX : ∀ m, g = some m → H (m + 1 + 1 + 1 + 1) = some (.cells (cels gs) false)) : rdC H (enc (gS g l)) = some gs := by
  cases g with
  | none => rw [h0 rfl]; rfl
  | some m => exact rdC_all (hX m rfl) hl
theorem gR_nil {rs : List Record} {A : List Rc} {i : Nat} (h : gl rs A i = []) : gR rs A i = [] := by
  have := gR_len rs A i
  rw [h] at this
  exact List.length_eq_zero_iff.1 this
theorem sl_len {α : Type} [Row α] {H : IHeap} {s : Sl} {l : List α} (h : rdC H (enc s) = some l) : s.len = l.length := by
  obtain ⟨a, cap, e⟩ := rdC_len h
  have e : Value.slice s.a s.len s.cap = Value.slice a l.length cap := e
  simp only [Value.slice.injEq] at e
  exact e.2.1
theorem slS_P {s : Sl} {sz h : Nat} (hp : SlP s) (hh : h ≤ s.len) : SlP (slS s sz 0 h) := by
  obtain ⟨a, len, cap⟩ := s
  rcases hp with ⟨e1, e2, e3⟩ | ⟨id, off, e1, e2⟩
  · simp only at e1 e2 e3
    subst e1; subst e2; subst e3
    exact .inl ⟨rfl, rfl, rfl⟩
  · simp only at e1 e2 hh
    subst e1
    refine .inr ?_
    by_cases hc : cap = 0
    · exact ⟨id, off, by simp [slS, slA, hc], by simp [slS]; omega⟩
    · exact ⟨id, off, by simp [slS, slA, hc, goOn], by simp [slS]; omega⟩
theorem rdRs_take {H : IHeap} {rs : List Record} {l : List Rc} {k : Nat} (h : rdRs H rs = some l) : rdRs H (rs.take k) = some (l.take k) := by
  obtain ⟨h1, h2⟩ := rdRs_get h
  refine rdRs_mk (by simp [h1]) fun i h3 h4 => ?_
  rw [List.getElem_take, List.getElem_take]
  exact h2 i _ _
theorem rdC_low {α : Type} [Row α] {H2 H3 : IHeap} {p : Nat} {x : Value} {l : List α} (hl : ∀ id, id < p → H3 id = H2 id) (hf : ∀ id, p ≤ id → H2 id = none) (h : rdC H2 x = some l) : rdC H3 x = some l := by
  obtain ⟨a, cap, rfl⟩ := rdC_len h
  rcases rdC_inv h with ⟨rfl, _, rfl, rfl⟩ | ⟨id, off, sp, c, ro, rfl, hc, hle, hl', _⟩
  · rfl
  · refine rdC_mk (ro := ro) ?_ hle hl' rfl
    · rw [hl id (by
        by_cases hp : p ≤ id
        · rw [hf id hp] at hc; cases hc
        · omega)]
      exact hc
theorem all_read {H3 : IHeap} {p : Nat} {c : Dig} {b2 : List UInt8} {s : Nat} {G : List Rc} (hk : s ≤ G.length) (ha : ∀ i, i < s → ∀ h : i < G.length, (kdN c b2 i, dlN c b2 i) = G[i])
    (hR : ∀ i (h : i < (allRows p c b2 s).length), H3 (p + i) = some (.cells (allRows p c b2 s)[i] false)) : ∃ rec : List Record, rdC H3 (enc (allSl p s)) = some rec ∧ rdRs H3 rec = some (G.take s) := by
  have hlen := allRows_len p c b2 s
  refine ⟨recN (fun j => p + j) c b2 s, ?_, rdRs_mk (by rw [recN_length, List.length_take]; omega) fun i h1 h2 => ?_⟩
  · unfold allSl
    by_cases h0 : s = 0
    · subst h0; rfl
    · rw [if_neg h0]
      refine rdC_all (ro := false) ?_ (recN_length _ _ _ _)
      rw [if_neg h0] at hlen
      rw [hR s (by omega)]
      congr 2
      unfold allRows
      rw [List.getElem_append_right (by simp)]
      simp [h0]
  · rw [recN_length] at h1
    have h3 : i < G.length := by omega
    have h4 := ha i h1 h3
    have e1 : (recN (fun j => p + j) c b2 s)[i]'(by rw [recN_length]; exact h1) = ⟨kdN c b2 i, ⟨some ⟨p + i, 0, none⟩, (dlN c b2 i).length, (dlN c b2 i).length⟩⟩ := by simp [recN]
    rw [e1, List.getElem_take, ← h4]
    refine ⟨rfl, ?_⟩
    refine rdC_1all (ro := false) ?_ rfl
    rw [hR i (by rw [hlen]; omega)]
    congr 2
    unfold allRows
    rw [List.getElem_append_left (by simpa using h1)]
    simp
theorem endsL_getD {c : Dig} {G : List Rc} {j : Nat} (h : j ≤ G.length) : (endsL c G).getD j 0 = (eN c G j : Int) := by
  have h1 : j < (endsL c G).length := by rw [endsL_length]; omega
  rw [List.getD_eq_getElem?_getD, List.getElem?_eq_getElem h1, Option.getD_some, endsL_at]
theorem chsL_get {c : Dig} {G : List Rc} {j : Nat} (h : j ≤ G.length) : (chsL c G)[j]? = some (cN c G j) := by
  have h1 : j < (chsL c G).length := by rw [chsL_length]; omega
  rw [List.getElem?_eq_getElem h1, chsL_at]
theorem recL_ne (c : Dig) (k : UInt8) (d : List UInt8) : recL c k d ≠ [] := fun e => by have := recL_pos c k d; rw [e] at this; simp at this
set_option maxHeartbeats 4000000
-- headwater/headwaterlaw08.RecordBack ['Sl', 'Vector UInt8 32', 'Int'] -> ['Bool'], results [6]
theorem R13 : Ref Try.prog 13 F13 := by
  refine Ref.of_iw dok Try.func13 rfl (by kernel_rfl) fun args H n e hF => ?_
  obtain ⟨xa, xc, rs, c, j, A, rfl, hxs, hA, hle, rfl⟩ := F13_inv hF
  obtain ⟨lA, gA⟩ := rdRs_get hA
  refine ⟨Nat.le_of_ble_eq_true rfl, ?_⟩
  simp only [idxL]
  have hE : Env Try.prog [(31, F31), (47, F47), (48, F48), (49, F49), (52, F52), (54, F54), (56, F56), (57, F57), (58, F58)] D K := env (fnsOk_cons R31 (fnsOk_cons R47 (fnsOk_cons R48 (fnsOk_cons R49 (fnsOk_cons R52 (fnsOk_cons R54 (fnsOk_cons R56 (fnsOk_cons R57 (fnsOk_cons R58 fnsOk_nil)))))))))
  refine IW.seq ?_
  refine IW.blk (by simp) hxs (fun hltR => ?_)
  refine IW.free (by simp) (fun hfree => ?_)
  refine IW.reg hE ?_
  refine vcS_new rfl rfl (ox_box (pl rfl) rfl) (.inl (by omega)) ?_
  refine vcS_val rfl rfl (ox_assign (pl rfl)) ?_
  refine vcS_nil ?_
  refine IW.seq ?_
  refine IW.seq ?_
  refine IW.reg hE ?_
  refine vcS_val rfl rfl (ox_fn rfl rfl (fn0_ev _ _ _)) ?_
  refine vcS_val rfl rfl (ox_un (pl rfl) (uo_not _)) ?_
  refine vcS_nil ?_
  refine IW.cond rfl (fun hc1 => ?_) (fun hc1 => ?_)
  · cases hc1
  · refine IW.skip ?_
    refine IW.seq ?_
    refine IW.seq ?_
    refine IW.reg hE ?_
    refine vcS_val rfl rfl (ox_move (pl rfl)) ?_
    refine vcS_val rfl rfl (ox_fn rfl rfl (F56_ev (rdC_keep hfree hxs (by exact ⟨by omega, trivial⟩)) hle)) ?_
    refine vcS_val rfl rfl (ox_un (pl rfl) (uo_not _)) ?_
    refine vcS_nil ?_
    refine IW.cond rfl (fun hc2 => ?_) (fun hc2 => ?_)
    · refine IW.seq ?_
      refine IW.reg hE ?_
      refine vcS_val rfl rfl (ox_assign (pl rfl)) ?_
      refine vcS_nil ?_
      refine IW.ret ?_
      exact RetP.ret (.inr rfl) rfl rfl trivial (rfl)
    · obtain ⟨hl40, hl9⟩ := light_get (by simpa using hc2)
      have hG0 : gl rs A 0 = [] := rfl
      refine IW.skip ?_
      refine IW.seq ?_
      refine IW.reg hE ?_
      refine vcS_val rfl rfl (ox_assign (pl rfl)) ?_
      refine vcS_nil ?_
      refine IW.seq ?_
      refine IW.reg hE ?_
      refine vcS_val rfl rfl (ox_assign (pl rfl)) ?_
      refine vcS_nil ?_
      refine IW.seq ?_
      refine IW.drw hE mixed [[],[],[1],[0],[0,1,2,3]] (by kernel_rfl) (vcE_start ?_)
      refine vcE_new rfl rfl (fun _ => ox_bsl (cs := encs [(0 : Int)]) D_82 rfl D_3 (Nat.le_of_ble_eq_true rfl) rfl rfl) rfl rfl (.inl (by omega)) ?_
      refine vcE_val rfl rfl rfl rfl (ox_load (pl rfl) D_24 (hp_eq _ _ _ _) (rd_all rfl (encs_vec_length _))) rfl (si_load (pl rfl)) (lt1 (by omega)) (⟨qn1 (n0 := 0) (by omega), trivial⟩) ?_
      refine vcE_new rfl rfl (fun _ => ox_bslD (x := c) rfl) rfl rfl (.inl (by omega)) ?_
      refine vcE_bl rfl rfl (fun _ => ox_assign (pl rfl)) rfl rfl ?_
      refine vcE_bl rfl rfl (fun _ => ox_assign (pl rfl)) rfl rfl ?_
      refine vcE_nil ?_
      refine IW.seq ?_
      refine IW.seq ?_
      refine IW.reg hE ?_
      refine vcS_val rfl rfl (ox_assign (pl rfl)) ?_
      refine vcS_nil ?_
      refine IW.block ?_
      refine IW.loop (S := QB) (fun q => [(0, .slice xa rs.length xc), (2, .int .i64 j), (4, .pointer (some ⟨n, 0, none⟩)), (7, enc (bS q.g (catL c (gl rs A q.i)).length)), (8, enc (gS q.g (gl rs A q.i).length)), (9, .slice (some ⟨eId n q.g, 0, spG 1 q.g⟩) ((gl rs A q.i).length + 1) ((gl rs A q.i).length + 1)), (10, .slice (some ⟨dId n q.g, 0, spG 32 q.g⟩) ((gl rs A q.i).length + 1) ((gl rs A q.i).length + 1)), (11, .int .i64 q.i)]) (fun q => (dId n q.g, some (.cells (cels (chsL c (gl rs A q.i))) false)) :: (eId n q.g, some (.cells (cels (endsL c (gl rs A q.i))) false)) :: (n, some (.cells (encs c.toList) false)) :: abM q.g (catL c (gl rs A q.i)) (gR rs A q.i)) (fun q => q.n) (fun q => q.i ≤ rs.length ∧ (q.g = none → (gl rs A q.i) = []) ∧ n + 3 ≤ q.n ∧ (∀ m, q.g = some m → n + 3 ≤ m ∧ m + 9 ≤ q.n)) (fun q => rs.length - q.i) (⟨0, none, n + 1 + 1 + 1⟩) (⟨Nat.zero_le _, fun _ => rfl, by dsimp only; omega, fun m h => by cases h⟩) (⟨rfl, ⟨rfl, ⟨rfl, ⟨rfl, ⟨rfl, ⟨rfl, ⟨rfl, ⟨rfl, trivial⟩⟩⟩⟩⟩⟩⟩⟩) (leX_le (leX_cons (by show some (IObj.cells (cels [c]) false) = _; rw [cels_cons, cels_nil, List.append_nil]; rfl) (leX_cons (by rfl) (leX_cons rfl leX_refl)))) (Nat.le_refl _) (fun q hq => ?_)
      obtain ⟨i, g, p⟩ := q
      dsimp only at hq ⊢
      obtain ⟨hi, hg0, hp3, hgs⟩ := hq
      refine IW.seq ?_
      refine IW.seq ?_
      refine IW.reg hE ?_
      refine vcS_val rfl rfl (ox_move (pl rfl)) ?_
      refine vcS_val rfl rfl (ox_move (pl rfl)) ?_
      refine vcS_val rfl rfl (ox_len (pl rfl) D_80 rfl) ?_
      refine vcS_val rfl rfl (ox_bin (pl rfl) (pl rfl) (bo_i64_lss _ _)) ?_
      refine vcS_nil ?_
      refine IW.cond rfl (fun hc3 => ?_) (fun hc3 => ?_)
      · replace hc3 := of_decide_eq_true hc3
        have hir : i < rs.length := by omega
        have hiA : i < A.length := by omega
        obtain ⟨i1, o1, p1, c1, r1, ex, m1, l1⟩ := rdC_at hxs hir
        subst ex
        have hi1 : i1 < n := hltR i1 (by simp [blk])
        obtain ⟨hkd, hD⟩ := gA i hir hiA
        have hrl := rec_len hD
        have hd9 := hl9 _ (List.getElem_mem hir)
        have hGl := gl_le (rs := rs) (A := A) (i := i)
        have hcl := catL_le c (gl rs A i) gl_good
        have hsz := sizeV_small (UInt64.ofNat A[i].2.length)
        have hRl := recL_length (lastC c (gl rs A i)) rs[i].kind A[i].2
        have hbl := bodyL_length rs[i].kind A[i].2
        obtain ⟨hd1, hd2, he1, he2, hde⟩ := ids_ok hp3 hgs
        refine IW.skip ?_
        refine IW.seq ?_
        refine IW.block ?_
        refine IW.seq ?_
        rcases bk_case (k := rs[i].kind) (len := A[i].2.length) g with ⟨hk, rfl⟩ | ⟨hk, m, rfl⟩ | ⟨hk, rfl⟩ | ⟨hk, m, rfl⟩
        · obtain ⟨hz1, hz2⟩ := zf_no hir hiA (by rw [← hkd]; exact hk)
          have hck : ((chk rs[i].kind rs[i].data.len : Nat) : Int) = 2 := by rw [hrl]; rcases chk_two rs[i].kind A[i].2.length with h | h; exact absurd h hk; rw [h]; rfl
          dsimp only [dId, eId, spG, bS, gS, abM] at hd1 hd2 he1 he2 hde ⊢
          refine IW.drw hE mixed [[],[],[1],[1,2],[0,1,2,3],[0,1,2,3,4],[],[],[6,7],[6,7,8],[0,1,2,3,4,5,6,7,8,9],[0,1,2,3,4,5,6,7,8,9,10],[0,1,2,3,4,5,6,7,8,9,10,11],[0,1,2,3,4,5,6,7,8,9,10,11],[0,1,2,3,4,5,6,7,8,9,10,11],[],[0,1,2,3,4,5,6,7,8,9,10,11,12,15],[0,1,2,3,4,5,6,7,8,9,10,11,12,13,15,16],[0,1,2,3,4,5,6,7,8,9,10,11,12,13,14,15,16,17]] (by kernel_rfl) (vcE_start ?_)
          refine vcE_bl rfl rfl (fun _ => ox_move (pl rfl)) rfl rfl ?_
          refine vcE_bl rfl rfl (fun _ => ox_move (pl rfl)) rfl rfl ?_
          refine vcE_bl rfl rfl (fun _ => ox_len (pl rfl) D_34 rfl) rfl rfl ?_
          refine vcE_bl rfl rfl (fun _ => ox_bin (pl rfl) (pl rfl) (bo_i64_sub (by omega))) rfl rfl ?_
          refine vcE_bl rfl rfl (fun _ => ox_iaS (pl rfl) (pl rfl) D_34 rfl D_24 (by omega) (by omega)) rfl rfl ?_
          refine vcE_val rfl rfl rfl rfl (ox_load (pl rfl) D_24 (hp_eq _ _ _ _) (rd_digs (chsL_last c (gl rs A i)) rfl rfl (by show 0 + ((((gl rs A i).length + 1 : Nat) : Int) - 1).toNat * 32 = _; omega))) rfl (si_load (pl rfl)) (lt1 (by omega)) (trivial) ?_
          refine vcE_bl rfl rfl (fun _ => ox_move (pl rfl)) rfl rfl ?_
          refine vcE_bl rfl rfl (fun _ => ox_move (pl rfl)) rfl rfl ?_
          refine vcE_bl rfl rfl (fun _ => ox_iaS (pl rfl) (pl rfl) D_80 rfl D_69 (by omega) (by omega)) rfl rfl ?_
          refine vcE_val rfl rfl rfl rfl (ox_load (pl rfl) D_69 (hp_keep hfree m1 (by exact ⟨by omega, ⟨by omega, ⟨by omega, trivial⟩⟩⟩)) (rd_celIn l1 hir (rd_69 _ rfl rfl) rfl)) rfl (si_load (pl rfl)) (lt1 (by omega)) (trivial) ?_
          refine vcE_call rfl rfl rfl rfl (ox_fn rfl rfl (F49_no (c := lastC c (gl rs A i)) (a := rs[i]) (d := A[i].2) (rdC_keep hfree hD (by exact ⟨by omega, ⟨by omega, ⟨by omega, trivial⟩⟩⟩)) (by omega) hk)) rfl ltu0 (trivial) ?_
          refine vcE_bl rfl rfl (fun _ => ox_move (pl rfl)) rfl rfl ?_
          refine vcE_bl rfl rfl (fun _ => ox_extract (pl rfl) rfl) rfl rfl ?_
          refine vcE_bl rfl rfl (fun _ => ox_extract (pl rfl) rfl) rfl rfl ?_
          refine vcE_bl rfl rfl (fun _ => ox_extract (pl rfl) rfl) rfl rfl ?_
          refine vcE_new rfl rfl (fun _ => ox_allocZ (cs := encs (Vector.replicate 32 (0 : UInt8)).toList) D_24 rfl) rfl rfl (.inl (by omega)) ?_
          refine vcE_bl rfl rfl (fun _ => ox_assign (pl rfl)) rfl rfl ?_
          refine vcE_sto rfl rfl rfl rfl (ox_store (pl rfl) (pl rfl) D_24 (hp_eq _ _ _ _) rfl (encs_vec_length _) (le_vec _ rfl) (encs_known _) (wr_all (by simp only [encs_vec_length]))) rfl (si_store (pl rfl)) (is_some (hp_eq _ _ _ _)) (by omega) (.inl (by omega)) (⟨trivial, trivial⟩) (⟨trivial, ⟨trivial, ⟨trivial, trivial⟩⟩⟩) ?_
          refine vcE_bl rfl rfl (fun _ => ox_assign (pl rfl)) rfl rfl ?_
          refine vcE_nil ?_
          refine IW.seq ?_
          refine IW.seq ?_
          refine IW.reg hE ?_
          refine vcS_val rfl rfl (ox_move (pl rfl)) ?_
          refine vcS_val rfl rfl (ox_bin (pl rfl) (pl rfl) ((bo_i64_neq _ _).trans rfl)) ?_
          refine vcS_nil ?_
          refine IW.cond rfl (fun hc4 => ?_) (fun hc4 => ?_)
          · refine IW.seq ?_
            refine IW.seq ?_
            refine IW.reg hE ?_
            refine vcS_val rfl rfl (ox_move (pl rfl)) ?_
            refine vcS_val rfl rfl (ox_move (pl rfl)) ?_
            refine vcS_val rfl rfl (ox_iaS (pl rfl) (pl rfl) D_80 rfl D_69 (by omega) (by omega)) ?_
            refine vcS_val rfl rfl (ox_load (pl rfl) D_69 (hp_keep hfree m1 (by exact ⟨by omega, ⟨by omega, ⟨by omega, ⟨by omega, ⟨by omega, trivial⟩⟩⟩⟩⟩)) (rd_celIn l1 hir (rd_69 _ rfl rfl) rfl)) ?_
            refine vcS_val rfl rfl (ox_fn rfl rfl (fn1_ev _ _ _ _)) ?_
            refine vcS_val rfl rfl (ox_move (pl rfl)) ?_
            refine vcS_val rfl rfl (ox_bin (pl rfl) (pl rfl) ((bo_i64_neq _ _).trans (show _ = some (Value.bool false) from by rw [hck]; first | done | rfl))) ?_
            refine vcS_val rfl rfl (ox_move (pl rfl)) ?_
            refine vcS_opt rfl (wgF rfl rfl rfl) (fun hb => ox_move (pl rfl)) ?_
            refine vcS_opt rfl (wgF rfl rfl rfl) (fun hb => ox_len (gd hb rfl) D_35 rfl) ?_
            refine vcS_opt rfl (wgF rfl rfl rfl) (fun hb => ox_bin (gd hb rfl) (pl rfl) (bo_i64_neq _ _)) ?_
            refine vcS_val rfl rfl (ox_or (pl rfl) (pl rfl) (fun hc => gd (by rw [hc]; rfl) rfl)) ?_
            refine vcS_nil ?_
            refine IW.cond rfl (fun hc5 => ?_) (fun hc5 => ?_)
            · exact absurd hc5 (by simp)
            · refine IW.skip ?_
              refine IW.exit ?_
              refine blkQ_exit ?_
              refine IW.reg hE ?_
              refine vcS_val rfl rfl (ox_move (pl rfl)) ?_
              refine vcS_val rfl rfl (ox_bin (pl rfl) (pl rfl) (bo_i64_add (by omega))) ?_
              refine vcS_val rfl rfl (ox_assign (pl rfl)) ?_
              refine vcS_nil ?_
              refine IW.nilS ?_
              refine ⟨⟨i + 1, none, p + 1⟩, _, _, ?_, ?_, rfl, ?_, rfl, ?_, ?_⟩ <;> dsimp only [dId, eId, spG, bS, gS, abM]
              · exact ⟨by omega, (fun h => by rw [hz1]; exact hg0 rfl), by omega, (fun m h => by cases h)⟩
              · omega
              · exact ⟨rfl, ⟨rfl, ⟨rfl, ⟨(by show _ = some (enc (bS none (catL c (gl rs A (i + 1))).length)); rw [hz1]; rfl), ⟨(by show _ = some (enc (gS none (gl rs A (i + 1)).length)); rw [hz1]; rfl), ⟨(by show _ = some (Value.slice (some ⟨eId n none, 0, spG 1 none⟩) ((gl rs A (i + 1)).length + 1) ((gl rs A (i + 1)).length + 1)); rw [hz1]; rfl), ⟨(by show _ = some (Value.slice (some ⟨dId n none, 0, spG 32 none⟩) ((gl rs A (i + 1)).length + 1) ((gl rs A (i + 1)).length + 1)); rw [hz1]; rfl), ⟨rfl, trivial⟩⟩⟩⟩⟩⟩⟩⟩
              · exact leX_le (leX_same (hp_sk (by omega) (hp_sk (by omega) (hp_eq _ _ _ _))) (by rw [hz1]) (leX_same (hp_sk (by omega) (hp_sk (by omega) (hp_sk (by omega) (hp_eq _ _ _ _)))) (by rw [hz1]) (leX_same (hp_sk (by omega) (hp_sk (by omega) (hp_sk (by omega) (hp_sk (by omega) (hp_eq _ _ _ _))))) (rfl) (leX_none hfree (by exact ⟨by omega, ⟨by omega, ⟨by omega, ⟨by omega, ⟨by omega, trivial⟩⟩⟩⟩⟩)))))
              · exact Nat.le_refl _
          · cases hc4
        · obtain ⟨hz1, hz2⟩ := zf_no hir hiA (by rw [← hkd]; exact hk)
          have hck : ((chk rs[i].kind rs[i].data.len : Nat) : Int) = 2 := by rw [hrl]; rcases chk_two rs[i].kind A[i].2.length with h | h; exact absurd h hk; rw [h]; rfl
          obtain ⟨hm1, hm2⟩ := hgs m rfl
          dsimp only [dId, eId, spG, bS, gS, abM] at hd1 hd2 he1 he2 hde ⊢
          refine IW.drw hE mixed [[],[],[1],[1,2],[0,1,2,3],[0,1,2,3,4],[],[],[6,7],[6,7,8],[0,1,2,3,4,5,6,7,8,9],[0,1,2,3,4,5,6,7,8,9,10],[0,1,2,3,4,5,6,7,8,9,10,11],[0,1,2,3,4,5,6,7,8,9,10,11],[0,1,2,3,4,5,6,7,8,9,10,11],[],[0,1,2,3,4,5,6,7,8,9,10,11,12,15],[0,1,2,3,4,5,6,7,8,9,10,11,12,13,15,16],[0,1,2,3,4,5,6,7,8,9,10,11,12,13,14,15,16,17]] (by kernel_rfl) (vcE_start ?_)
          refine vcE_bl rfl rfl (fun _ => ox_move (pl rfl)) rfl rfl ?_
          refine vcE_bl rfl rfl (fun _ => ox_move (pl rfl)) rfl rfl ?_
          refine vcE_bl rfl rfl (fun _ => ox_len (pl rfl) D_34 rfl) rfl rfl ?_
          refine vcE_bl rfl rfl (fun _ => ox_bin (pl rfl) (pl rfl) (bo_i64_sub (by omega))) rfl rfl ?_
          refine vcE_bl rfl rfl (fun _ => ox_iaS (pl rfl) (pl rfl) D_34 rfl D_24 (by omega) (by omega)) rfl rfl ?_
          refine vcE_val rfl rfl rfl rfl (ox_load (pl rfl) D_24 (hp_eq _ _ _ _) (rd_digs (chsL_last c (gl rs A i)) rfl rfl (by show 0 + ((((gl rs A i).length + 1 : Nat) : Int) - 1).toNat * 32 = _; omega))) rfl (si_load (pl rfl)) (lt1 (by omega)) (trivial) ?_
          refine vcE_bl rfl rfl (fun _ => ox_move (pl rfl)) rfl rfl ?_
          refine vcE_bl rfl rfl (fun _ => ox_move (pl rfl)) rfl rfl ?_
          refine vcE_bl rfl rfl (fun _ => ox_iaS (pl rfl) (pl rfl) D_80 rfl D_69 (by omega) (by omega)) rfl rfl ?_
          refine vcE_val rfl rfl rfl rfl (ox_load (pl rfl) D_69 (hp_keep hfree m1 (by exact ⟨by omega, ⟨by omega, ⟨by omega, ⟨by omega, ⟨by omega, trivial⟩⟩⟩⟩⟩)) (rd_celIn l1 hir (rd_69 _ rfl rfl) rfl)) rfl (si_load (pl rfl)) (lt1 (by omega)) (trivial) ?_
          refine vcE_call rfl rfl rfl rfl (ox_fn rfl rfl (F49_no (c := lastC c (gl rs A i)) (a := rs[i]) (d := A[i].2) (rdC_keep hfree hD (by exact ⟨by omega, ⟨by omega, ⟨by omega, ⟨by omega, ⟨by omega, trivial⟩⟩⟩⟩⟩)) (by omega) hk)) rfl ltu0 (trivial) ?_
          refine vcE_bl rfl rfl (fun _ => ox_move (pl rfl)) rfl rfl ?_
          refine vcE_bl rfl rfl (fun _ => ox_extract (pl rfl) rfl) rfl rfl ?_
          refine vcE_bl rfl rfl (fun _ => ox_extract (pl rfl) rfl) rfl rfl ?_
          refine vcE_bl rfl rfl (fun _ => ox_extract (pl rfl) rfl) rfl rfl ?_
          refine vcE_new rfl rfl (fun _ => ox_allocZ (cs := encs (Vector.replicate 32 (0 : UInt8)).toList) D_24 rfl) rfl rfl (.inl (by omega)) ?_
          refine vcE_bl rfl rfl (fun _ => ox_assign (pl rfl)) rfl rfl ?_
          refine vcE_sto rfl rfl rfl rfl (ox_store (pl rfl) (pl rfl) D_24 (hp_eq _ _ _ _) rfl (encs_vec_length _) (le_vec _ rfl) (encs_known _) (wr_all (by simp only [encs_vec_length]))) rfl (si_store (pl rfl)) (is_some (hp_eq _ _ _ _)) (by omega) (.inl (by omega)) (⟨trivial, trivial⟩) (⟨trivial, ⟨trivial, ⟨trivial, trivial⟩⟩⟩) ?_
          refine vcE_bl rfl rfl (fun _ => ox_assign (pl rfl)) rfl rfl ?_
          refine vcE_nil ?_
          refine IW.seq ?_
          refine IW.seq ?_
          refine IW.reg hE ?_
          refine vcS_val rfl rfl (ox_move (pl rfl)) ?_
          refine vcS_val rfl rfl (ox_bin (pl rfl) (pl rfl) ((bo_i64_neq _ _).trans rfl)) ?_
          refine vcS_nil ?_
          refine IW.cond rfl (fun hc6 => ?_) (fun hc6 => ?_)
          · refine IW.seq ?_
            refine IW.seq ?_
            refine IW.reg hE ?_
            refine vcS_val rfl rfl (ox_move (pl rfl)) ?_
            refine vcS_val rfl rfl (ox_move (pl rfl)) ?_
            refine vcS_val rfl rfl (ox_iaS (pl rfl) (pl rfl) D_80 rfl D_69 (by omega) (by omega)) ?_
            refine vcS_val rfl rfl (ox_load (pl rfl) D_69 (hp_keep hfree m1 (by exact ⟨by omega, ⟨by omega, ⟨by omega, ⟨by omega, ⟨by omega, ⟨by omega, ⟨by omega, trivial⟩⟩⟩⟩⟩⟩⟩)) (rd_celIn l1 hir (rd_69 _ rfl rfl) rfl)) ?_
            refine vcS_val rfl rfl (ox_fn rfl rfl (fn1_ev _ _ _ _)) ?_
            refine vcS_val rfl rfl (ox_move (pl rfl)) ?_
            refine vcS_val rfl rfl (ox_bin (pl rfl) (pl rfl) ((bo_i64_neq _ _).trans (show _ = some (Value.bool false) from by rw [hck]; first | done | rfl))) ?_
            refine vcS_val rfl rfl (ox_move (pl rfl)) ?_
            refine vcS_opt rfl (wgF rfl rfl rfl) (fun hb => ox_move (pl rfl)) ?_
            refine vcS_opt rfl (wgF rfl rfl rfl) (fun hb => ox_len (gd hb rfl) D_35 rfl) ?_
            refine vcS_opt rfl (wgF rfl rfl rfl) (fun hb => ox_bin (gd hb rfl) (pl rfl) (bo_i64_neq _ _)) ?_
            refine vcS_val rfl rfl (ox_or (pl rfl) (pl rfl) (fun hc => gd (by rw [hc]; rfl) rfl)) ?_
            refine vcS_nil ?_
            refine IW.cond rfl (fun hc7 => ?_) (fun hc7 => ?_)
            · exact absurd hc7 (by simp)
            · refine IW.skip ?_
              refine IW.exit ?_
              refine blkQ_exit ?_
              refine IW.reg hE ?_
              refine vcS_val rfl rfl (ox_move (pl rfl)) ?_
              refine vcS_val rfl rfl (ox_bin (pl rfl) (pl rfl) (bo_i64_add (by omega))) ?_
              refine vcS_val rfl rfl (ox_assign (pl rfl)) ?_
              refine vcS_nil ?_
              refine IW.nilS ?_
              refine ⟨⟨i + 1, (some m), p + 1⟩, _, _, ?_, ?_, rfl, ?_, rfl, ?_, ?_⟩ <;> dsimp only [dId, eId, spG, bS, gS, abM]
              · exact ⟨by omega, (fun h => by cases h), by omega, (fun m2 h => by cases h; omega)⟩
              · omega
              · exact ⟨rfl, ⟨rfl, ⟨rfl, ⟨(by show _ = some (enc (bS (some m) (catL c (gl rs A (i + 1))).length)); rw [hz1]; rfl), ⟨(by show _ = some (enc (gS (some m) (gl rs A (i + 1)).length)); rw [hz1]; rfl), ⟨(by show _ = some (Value.slice (some ⟨eId n (some m), 0, spG 1 (some m)⟩) ((gl rs A (i + 1)).length + 1) ((gl rs A (i + 1)).length + 1)); rw [hz1]; rfl), ⟨(by show _ = some (Value.slice (some ⟨dId n (some m), 0, spG 32 (some m)⟩) ((gl rs A (i + 1)).length + 1) ((gl rs A (i + 1)).length + 1)); rw [hz1]; rfl), ⟨rfl, trivial⟩⟩⟩⟩⟩⟩⟩⟩
              · exact leX_le (leX_same (hp_sk (by omega) (hp_sk (by omega) (hp_eq _ _ _ _))) (by rw [hz1]) (leX_same (hp_sk (by omega) (hp_sk (by omega) (hp_sk (by omega) (hp_eq _ _ _ _)))) (by rw [hz1]) (leX_same (hp_sk (by omega) (hp_sk (by omega) (hp_sk (by omega) (hp_sk (by omega) (hp_eq _ _ _ _))))) (rfl) (leX_same (hp_sk (by omega) (hp_sk (by omega) (hp_sk (by omega) (hp_sk (by omega) (hp_sk (by omega) (hp_eq _ _ _ _)))))) (by rw [hz2]) (leX_same (hp_sk (by omega) (hp_sk (by omega) (hp_sk (by omega) (hp_sk (by omega) (hp_sk (by omega) (hp_sk (by omega) (hp_eq _ _ _ _))))))) (by rw [hz1]) (leX_none hfree (by exact ⟨by omega, ⟨by omega, ⟨by omega, ⟨by omega, ⟨by omega, ⟨by omega, ⟨by omega, trivial⟩⟩⟩⟩⟩⟩⟩)))))))
              · exact Nat.le_refl _
          · cases hc6
        · obtain ⟨hz1, hz2⟩ := zf_ok hir hiA (by rw [← hkd]; exact hk)
          have hgz : gl rs A i = [] := hg0 rfl
          have e7 : (catL c (gl rs A (i + 1))).length = (recL (lastC c (gl rs A i)) rs[i].kind A[i].2).length := by rw [hz1, catL_snoc, ← hkd, List.length_append, hgz]; simp [catL]
          have e8 : (gl rs A (i + 1)).length = 1 := by rw [hz1, hgz]; rfl
          have e9 : (gl rs A (i + 1)).length = (gl rs A i).length + 1 := by rw [hz1]; simp
          dsimp only [dId, eId, spG, bS, gS, abM] at hd1 hd2 he1 he2 hde ⊢
          refine IW.drw hE mixed [[],[],[1],[1,2],[0,1,2,3],[0,1,2,3,4],[],[],[6,7],[6,7,8],[0,1,2,3,4,5,6,7,8,9],[0,1,2,3,4,5,6,7,8,9,10],[0,1,2,3,4,5,6,7,8,9,10,11],[0,1,2,3,4,5,6,7,8,9,10,11],[0,1,2,3,4,5,6,7,8,9,10,11],[],[0,1,2,3,4,5,6,7,8,9,10,11,12,15],[0,1,2,3,4,5,6,7,8,9,10,11,12,13,15,16],[0,1,2,3,4,5,6,7,8,9,10,11,12,13,14,15,16,17]] (by kernel_rfl) (vcE_start ?_)
          refine vcE_bl rfl rfl (fun _ => ox_move (pl rfl)) rfl rfl ?_
          refine vcE_bl rfl rfl (fun _ => ox_move (pl rfl)) rfl rfl ?_
          refine vcE_bl rfl rfl (fun _ => ox_len (pl rfl) D_34 rfl) rfl rfl ?_
          refine vcE_bl rfl rfl (fun _ => ox_bin (pl rfl) (pl rfl) (bo_i64_sub (by omega))) rfl rfl ?_
          refine vcE_bl rfl rfl (fun _ => ox_iaS (pl rfl) (pl rfl) D_34 rfl D_24 (by omega) (by omega)) rfl rfl ?_
          refine vcE_val rfl rfl rfl rfl (ox_load (pl rfl) D_24 (hp_eq _ _ _ _) (rd_digs (chsL_last c (gl rs A i)) rfl rfl (by show 0 + ((((gl rs A i).length + 1 : Nat) : Int) - 1).toNat * 32 = _; omega))) rfl (si_load (pl rfl)) (lt1 (by omega)) (trivial) ?_
          refine vcE_bl rfl rfl (fun _ => ox_move (pl rfl)) rfl rfl ?_
          refine vcE_bl rfl rfl (fun _ => ox_move (pl rfl)) rfl rfl ?_
          refine vcE_bl rfl rfl (fun _ => ox_iaS (pl rfl) (pl rfl) D_80 rfl D_69 (by omega) (by omega)) rfl rfl ?_
          refine vcE_val rfl rfl rfl rfl (ox_load (pl rfl) D_69 (hp_keep hfree m1 (by exact ⟨by omega, ⟨by omega, ⟨by omega, trivial⟩⟩⟩)) (rd_celIn l1 hir (rd_69 _ rfl rfl) rfl)) rfl (si_load (pl rfl)) (lt1 (by omega)) (trivial) ?_
          refine vcE_callN rfl rfl rfl rfl (ox_fn rfl rfl (F49_okL (c := lastC c (gl rs A i)) (a := rs[i]) (d := A[i].2) (L := (recL (lastC c (gl rs A i)) rs[i].kind A[i].2).length) (rdC_keep hfree hD (by exact ⟨by omega, ⟨by omega, ⟨by omega, trivial⟩⟩⟩)) (by omega) hk rfl)) rfl ltu0 ⟨⟨.inl (by omega), by omega, by omega⟩, trivial⟩ (by omega) (trivial) ?_
          refine vcE_bl rfl rfl (fun _ => ox_move (pl rfl)) rfl rfl ?_
          refine vcE_bl rfl rfl (fun _ => ox_extract (pl rfl) rfl) rfl rfl ?_
          refine vcE_bl rfl rfl (fun _ => ox_extract (pl rfl) rfl) rfl rfl ?_
          refine vcE_bl rfl rfl (fun _ => ox_extract (pl rfl) rfl) rfl rfl ?_
          refine vcE_new rfl rfl (fun _ => ox_allocZ (cs := encs (Vector.replicate 32 (0 : UInt8)).toList) D_24 rfl) rfl rfl (.inl (by omega)) ?_
          refine vcE_bl rfl rfl (fun _ => ox_assign (pl rfl)) rfl rfl ?_
          refine vcE_sto rfl rfl rfl rfl (ox_store (pl rfl) (pl rfl) D_24 (hp_eq _ _ _ _) rfl (encs_vec_length _) (le_vec _ rfl) (encs_known _) (wr_all (by simp only [encs_vec_length]))) rfl (si_store (pl rfl)) (is_some (hp_eq _ _ _ _)) (by omega) (.inl (by omega)) (⟨trivial, ⟨trivial, trivial⟩⟩) (⟨trivial, ⟨trivial, ⟨trivial, trivial⟩⟩⟩) ?_
          refine vcE_bl rfl rfl (fun _ => ox_assign (pl rfl)) rfl rfl ?_
          refine vcE_nil ?_
          refine IW.seq ?_
          refine IW.seq ?_
          refine IW.reg hE ?_
          refine vcS_val rfl rfl (ox_move (pl rfl)) ?_
          refine vcS_val rfl rfl (ox_bin (pl rfl) (pl rfl) ((bo_i64_neq _ _).trans rfl)) ?_
          refine vcS_nil ?_
          refine IW.cond rfl (fun hc8 => ?_) (fun hc8 => ?_)
          · cases hc8
          · refine IW.skip ?_
            refine IW.seq ?_
            refine IW.seq ?_
            refine IW.drw hE mixed [[],[0],[],[],[2,3],[2,3,4],[2,3,4,5],[0,1,2,3,4,5,6],[0,1,2,3,4,5,6,7],[0,1,2,3,4,5,6,7,8],[0,1,2,3,4,5,6,7,8],[0,1,2,3,4,5,6,7,8],[0,1,2,3,4,5,6,7,8,11],[0,1,2,3,4,5,6,7,8,11,12],[0,1,2,3,4,5,6,7,8,10,11,12,13],[0,1,2,3,4,5,6,7,8,10,11,12,13,14],[0,1,2,3,4,5,6,7,8],[0,1,2,3,4,5,6,7,8],[0,1,2,3,4,5,6,7,8,16,17],[0,1,2,3,4,5,6,7,8,16,17,18],[0,1,2,3,4,5,6,7,8,10,11,12,13,14,15,16,17,18,19],[0,1,2,3,4,5,6,7,8,9,10,11,12,13,14,15,16,17,18,19,20],[0,1,2,3,4,5,6,7,8,9,10,11,12,13,14,15,16,17,18,19,20,21]] (by kernel_rfl) (vcE_start ?_)
            refine vcE_bl rfl rfl (fun _ => ox_move (pl rfl)) rfl rfl ?_
            refine vcE_bl rfl rfl (fun _ => ox_len (pl rfl) D_35 rfl) rfl rfl ?_
            refine vcE_bl rfl rfl (fun _ => ox_move (pl rfl)) rfl rfl ?_
            refine vcE_bl rfl rfl (fun _ => ox_move (pl rfl)) rfl rfl ?_
            refine vcE_bl rfl rfl (fun _ => ox_iaS (pl rfl) (pl rfl) D_80 rfl D_69 (by omega) (by omega)) rfl rfl ?_
            refine vcE_val rfl rfl rfl rfl (ox_load (pl rfl) D_69 (hp_keep hfree m1 (by exact ⟨by omega, ⟨by omega, ⟨by omega, ⟨by omega, ⟨by omega, ⟨by omega, trivial⟩⟩⟩⟩⟩⟩)) (rd_celIn l1 hir (rd_69 _ rfl rfl) rfl)) rfl (si_load (pl rfl)) (lt1 (by omega)) (trivial) ?_
            refine vcE_call rfl rfl rfl rfl (ox_fn rfl rfl (recF_ev (rdC_keep hfree hD (by exact ⟨by omega, ⟨by omega, ⟨by omega, ⟨by omega, ⟨by omega, ⟨by omega, trivial⟩⟩⟩⟩⟩⟩)) (by omega) rfl)) rfl ltu0 (trivial) ?_
            refine vcE_bl rfl rfl (fun _ => ox_bin (pl rfl) (pl rfl) ((bo_i64_neq _ _).trans (show _ = some (Value.bool false) from by rw [if_pos hk, recL_length]; simp))) rfl rfl ?_
            refine vcE_bl rfl rfl (fun _ => ox_move (pl rfl)) rfl rfl ?_
            refine vcE_known (wgF rfl rfl rfl) rfl ?_
            refine vcE_val rfl rfl rfl rfl (ox_load (pl rfl) D_24 (hp_eq _ _ _ _) (rd_all rfl (encs_vec_length _))) rfl (si_load (pl rfl)) (lt1 (by omega)) (trivial) ?_
            refine vcE_known (wgF rfl rfl rfl) rfl ?_
            refine vcE_bl rfl rfl (fun _ => ox_move (pl rfl)) rfl rfl ?_
            refine vcE_known (wgF rfl rfl rfl) rfl ?_
            refine vcE_bl rfl rfl (fun _ => ox_move (pl rfl)) rfl rfl ?_
            refine vcE_known (wgF rfl rfl rfl) rfl ?_
            refine vcE_bl rfl rfl (fun _ => ox_len (pl rfl) D_34 rfl) rfl rfl ?_
            refine vcE_known (wgF rfl rfl rfl) rfl ?_
            refine vcE_bl rfl rfl (fun _ => ox_bin (pl rfl) (pl rfl) (bo_i64_sub (by omega))) rfl rfl ?_
            refine vcE_known (wgF rfl rfl rfl) rfl ?_
            refine vcE_bl rfl rfl (fun _ => ox_iaS (pl rfl) (pl rfl) D_34 rfl D_24 (by omega) (by omega)) rfl rfl ?_
            refine vcE_known (wgF rfl rfl rfl) rfl ?_
            refine vcE_val rfl rfl rfl rfl (ox_load (pl rfl) D_24 (hp_sk (by omega) (hp_sk (by omega) (hp_sk (by omega) (hp_eq _ _ _ _)))) (rd_digs (chsL_last c (gl rs A i)) rfl rfl (by show 0 + ((((gl rs A i).length + 1 : Nat) : Int) - 1).toNat * 32 = _; omega))) rfl (si_load (pl rfl)) (lt1 (by omega)) (trivial) ?_
            refine vcE_known (wgF rfl rfl rfl) rfl ?_
            refine vcE_bl rfl rfl (fun _ => ox_move (pl rfl)) rfl rfl ?_
            refine vcE_known (wgF rfl rfl rfl) rfl ?_
            refine vcE_bl rfl rfl (fun _ => ox_move (pl rfl)) rfl rfl ?_
            refine vcE_known (wgF rfl rfl rfl) rfl ?_
            refine vcE_bl rfl rfl (fun _ => ox_iaS (pl rfl) (pl rfl) D_80 rfl D_69 (by omega) (by omega)) rfl rfl ?_
            refine vcE_known (wgF rfl rfl rfl) rfl ?_
            refine vcE_val rfl rfl rfl rfl (ox_load (pl rfl) D_69 (hp_keep hfree m1 (by exact ⟨by omega, ⟨by omega, ⟨by omega, ⟨by omega, ⟨by omega, ⟨by omega, trivial⟩⟩⟩⟩⟩⟩)) (rd_celIn l1 hir (rd_69 _ rfl rfl) rfl)) rfl (si_load (pl rfl)) (lt1 (by omega)) (trivial) ?_
            refine vcE_known (wgF rfl rfl rfl) rfl ?_
            refine vcE_call rfl rfl rfl rfl (ox_fn rfl rfl (recFc_ev (rdC_keep hfree hD (by exact ⟨by omega, ⟨by omega, ⟨by omega, ⟨by omega, ⟨by omega, ⟨by omega, trivial⟩⟩⟩⟩⟩⟩)) (by omega) rfl)) rfl ltu0 (trivial) ?_
            refine vcE_known (wgF rfl rfl rfl) rfl ?_
            refine vcE_bl rfl rfl (fun _ => ox_bin (pl rfl) (pl rfl) ((ne_vec K_24 cellEq_u8 _ _).trans (ne_same _))) rfl rfl ?_
            refine vcE_bl rfl rfl (fun _ => ox_or (pl rfl) (pl rfl) (fun hc => pl rfl)) rfl rfl ?_
            refine vcE_nil ?_
            refine IW.cond rfl (fun hc9 => ?_) (fun hc9 => ?_)
            · exact absurd hc9 (by simp)
            · refine IW.skip ?_
              refine IW.seq ?_
              refine IW.drw hE mixed [[],[],[0,1],[],[],[],[4,5],[4,5,6],[4,5,6,7],[0,1,2,3,4,5,6,7,8],[0,1,2,3,4,5,6,7,8,9],[0,1,2,3,4,5,6,7,8,9,10]] (by kernel_rfl) (vcE_start ?_)
              refine vcE_bl rfl rfl (fun _ => ox_move (pl rfl)) rfl rfl ?_
              refine vcE_bl rfl rfl (fun _ => ox_move (pl rfl)) rfl rfl ?_
              refine vcE_app1 [p] rfl rfl rfl rfl (ox_app1 (α := UInt8) (l := (recL (lastC c (gl rs A i)) rs[i].kind A[i].2)) (pl rfl) (pl rfl) D_35 rfl D_5 D_35 rfl rfl (rdC_1all (l := (recL (lastC c (gl rs A i)) rs[i].kind A[i].2)) (hp_sk (by omega) (hp_sk (by omega) (hp_eq _ _ _ _))) rfl) (recL_ne _ _ _) rfl (fun b e => by cases e) (by show _ * 1 ≤ most; simp only [most]; omega) (by decide)) rfl rfl (.inl (by omega)) (lt1 (by omega)) (trivial) ?_
              refine vcE_bl rfl rfl (fun _ => ox_move (pl rfl)) rfl rfl ?_
              refine vcE_bl rfl rfl (fun _ => ox_move (pl rfl)) rfl rfl ?_
              refine vcE_bl rfl rfl (fun _ => ox_move (pl rfl)) rfl rfl ?_
              refine vcE_bl rfl rfl (fun _ => ox_iaS (pl rfl) (pl rfl) D_80 rfl D_69 (by omega) (by omega)) rfl rfl ?_
              refine vcE_val rfl rfl rfl rfl (ox_load (pl rfl) D_69 (hp_keep hfree m1 (by exact ⟨by omega, ⟨by omega, ⟨by omega, ⟨by omega, ⟨by omega, ⟨by omega, trivial⟩⟩⟩⟩⟩⟩)) (rd_celIn l1 hir (rd_69 _ rfl rfl) rfl)) rfl (si_load (pl rfl)) (lt1 (by omega)) (⟨qn1 (n0 := 0) (by omega), trivial⟩) ?_
              refine vcE_new rfl rfl (fun _ => ox_bslR (r := rs[i]) rfl) rfl rfl (.inl (by omega)) ?_
              refine vcE_app1 [p + 1 + 1 + 1] rfl rfl rfl rfl (ox_app1 (α := Record) (l := [rs[i]]) (pl rfl) (pl rfl) D_80 rfl D_69 D_80 rfl rfl (rdC_row1 (a := rs[i]) (hp_eq _ _ _ _)) (by simp) rfl (fun b e => by cases e) (by show 1 * 32 ≤ most; decide) (by decide)) rfl rfl (.inl (by omega)) (lt1 (by omega)) (⟨trivial, ⟨trivial, trivial⟩⟩) ?_
              refine vcE_bl rfl rfl (fun _ => ox_assign (pl rfl)) rfl rfl ?_
              refine vcE_bl rfl rfl (fun _ => ox_assign (pl rfl)) rfl rfl ?_
              refine vcE_nil ?_
              refine IW.drw hE mixed [[],[],[1],[1,2],[0,1,2,3],[],[],[6],[0,1,2,3,4,5,6,7],[0,1,2,3,4,5,6,7,8],[0,1,2,3,4,5,6,7,8,9]] (by kernel_rfl) (vcE_start ?_)
              refine vcE_bl rfl rfl (fun _ => ox_move (pl rfl)) rfl rfl ?_
              refine vcE_bl rfl rfl (fun _ => ox_move (pl rfl)) rfl rfl ?_
              refine vcE_bl rfl rfl (fun _ => ox_len (pl rfl) D_35 rfl) rfl rfl ?_
              refine vcE_new rfl rfl (fun _ => ox_bsl (cs := encs [(((recL (lastC c (gl rs A i)) rs[i].kind A[i].2).length : Nat) : Int)]) D_82 rfl D_3 (Nat.le_of_ble_eq_true rfl) rfl rfl) rfl rfl (.inl (by omega)) ?_
              refine vcE_app1 [n + 1, p + 1 + 1 + 1 + 1 + 1] rfl rfl rfl rfl (ox_appM (α := Int) (l1 := endsL c (gl rs A i)) (l := [(((recL (lastC c (gl rs A i)) rs[i].kind A[i].2).length : Nat) : Int)]) (pl rfl) (pl rfl) D_82 rfl D_3 D_82 rfl rfl (rdC_all (hp_sk (by omega) (hp_sk (by omega) (hp_sk (by omega) (hp_sk (by omega) (hp_sk (by omega) (hp_sk (by omega) (hp_sk (by omega) (hp_sk (by omega) (hp_eq _ _ _ _))))))))) (endsL_length _ _)) (rdC_row1 (a := (((recL (lastC c (gl rs A i)) rs[i].kind A[i].2).length : Nat) : Int)) (hp_eq _ _ _ _)) (Nat.lt_succ_self _) (by show (_ + 1) * 8 ≤ most; simp only [most]; omega) (by decide)) rfl rfl (.inl (by omega)) (lt2 (by omega) (by omega)) (⟨trivial, trivial⟩) ?_
              refine vcE_bl rfl rfl (fun _ => ox_move (pl rfl)) rfl rfl ?_
              refine vcE_val rfl rfl rfl rfl (ox_load (pl rfl) D_24 (hp_sk (by omega) (hp_sk (by omega) (hp_sk (by omega) (hp_eq _ _ _ _)))) (rd_all rfl (encs_vec_length _))) rfl (si_load (pl rfl)) (lt1 (by omega)) (⟨qn1 (n0 := 0) (by omega), ⟨qn1 (n0 := 0) (by omega), trivial⟩⟩) ?_
              refine vcE_new rfl rfl (fun _ => ox_bslD (x := (nextV (lastC c (gl rs A i)) rs[i].kind A[i].2)) rfl) rfl rfl (.inl (by omega)) ?_
              refine vcE_app1 [n + 1 + 1, p + 1 + 1 + 1 + 1 + 1 + 1 + 1] rfl rfl rfl rfl (ox_appM (α := Dig) (l1 := chsL c (gl rs A i)) (l := [(nextV (lastC c (gl rs A i)) rs[i].kind A[i].2)]) (pl rfl) (pl rfl) D_34 rfl D_24 D_34 rfl rfl (rdC_all (hp_sk (by omega) (hp_sk (by omega) (hp_sk (by omega) (hp_sk (by omega) (hp_sk (by omega) (hp_sk (by omega) (hp_sk (by omega) (hp_sk (by omega) (hp_sk (by omega) (hp_eq _ _ _ _)))))))))) (chsL_length _ _)) (rdC_row1 (a := (nextV (lastC c (gl rs A i)) rs[i].kind A[i].2)) (hp_eq _ _ _ _)) (Nat.lt_succ_self _) (by show (_ + 1) * 32 ≤ most; simp only [most]; omega) (by decide)) rfl rfl (.inl (by omega)) (lt2 (by omega) (by omega)) (⟨trivial, ⟨trivial, ⟨trivial, trivial⟩⟩⟩) ?_
              refine vcE_bl rfl rfl (fun _ => ox_assign (pl rfl)) rfl rfl ?_
              refine vcE_bl rfl rfl (fun _ => ox_assign (pl rfl)) rfl rfl ?_
              refine vcE_nil ?_
              refine IW.nilB ?_
              refine IW.reg hE ?_
              refine vcS_val rfl rfl (ox_move (pl rfl)) ?_
              refine vcS_val rfl rfl (ox_bin (pl rfl) (pl rfl) (bo_i64_add (by omega))) ?_
              refine vcS_val rfl rfl (ox_assign (pl rfl)) ?_
              refine vcS_nil ?_
              refine IW.nilS ?_
              refine ⟨⟨i + 1, (some p), p + 1 + 1 + 1 + 1 + 1 + 1 + 1 + 1 + 1⟩, _, _, ?_, ?_, rfl, ?_, rfl, ?_, ?_⟩ <;> dsimp only [dId, eId, spG, bS, gS, abM]
              · exact ⟨by omega, (fun h => by cases h), by omega, (fun m2 h => by cases h; omega)⟩
              · omega
              · exact ⟨rfl, ⟨rfl, ⟨rfl, ⟨(by show _ = some (enc (bS (some p) (catL c (gl rs A (i + 1))).length)); rw [e7]; rfl), ⟨(by show _ = some (enc (gS (some p) (gl rs A (i + 1)).length)); rw [e8]; rfl), ⟨(by show _ = some (Value.slice (some ⟨eId n (some p), 0, spG 1 (some p)⟩) ((gl rs A (i + 1)).length + 1) ((gl rs A (i + 1)).length + 1)); rw [e9]; rfl), ⟨(by show _ = some (Value.slice (some ⟨dId n (some p), 0, spG 32 (some p)⟩) ((gl rs A (i + 1)).length + 1) ((gl rs A (i + 1)).length + 1)); rw [e9]; rfl), ⟨rfl, trivial⟩⟩⟩⟩⟩⟩⟩⟩
              · exact leX_le (leX_same (hp_eq _ _ _ _) (by rw [hz1, chsL_snoc, ← hkd]) (leX_same (hp_sk (by omega) (hp_sk (by omega) (hp_eq _ _ _ _))) (by rw [hz1, endsL_snoc, ← hz1, e7]) (leX_same (hp_sk (by omega) (hp_sk (by omega) (hp_sk (by omega) (hp_sk (by omega) (hp_sk (by omega) (hp_sk (by omega) (hp_sk (by omega) (hp_sk (by omega) (hp_sk (by omega) (hp_sk (by omega) (hp_sk (by omega) (hp_sk (by omega) (hp_eq _ _ _ _))))))))))))) (rfl) (leX_same (hp_sk (by omega) (hp_sk (by omega) (hp_sk (by omega) (hp_sk (by omega) (hp_eq _ _ _ _))))) (by rw [hz2, gR_nil hgz]; rfl) (leX_same (hp_sk (by omega) (hp_sk (by omega) (hp_sk (by omega) (hp_sk (by omega) (hp_sk (by omega) (hp_sk (by omega) (hp_eq _ _ _ _))))))) (by rw [hz1, catL_snoc, ← hkd, hgz]; rfl) (leX_none hfree (by exact ⟨by omega, ⟨by omega, ⟨by omega, ⟨by omega, ⟨by omega, ⟨by omega, ⟨by omega, ⟨by omega, ⟨by omega, ⟨by omega, ⟨by omega, ⟨by omega, ⟨by omega, trivial⟩⟩⟩⟩⟩⟩⟩⟩⟩⟩⟩⟩⟩)))))))
              · exact Nat.le_refl _
        · obtain ⟨hz1, hz2⟩ := zf_ok hir hiA (by rw [← hkd]; exact hk)
          obtain ⟨hm1, hm2⟩ := hgs m rfl
          have e7 : (catL c (gl rs A (i + 1))).length = (catL c (gl rs A i)).length + (recL (lastC c (gl rs A i)) rs[i].kind A[i].2).length := by rw [hz1, catL_snoc, ← hkd, List.length_append]
          have e8 : (gl rs A (i + 1)).length = (gl rs A i).length + 1 := by rw [hz1]; simp
          dsimp only [dId, eId, spG, bS, gS, abM] at hd1 hd2 he1 he2 hde ⊢
          refine IW.drw hE mixed [[],[],[1],[1,2],[0,1,2,3],[0,1,2,3,4],[],[],[6,7],[6,7,8],[0,1,2,3,4,5,6,7,8,9],[0,1,2,3,4,5,6,7,8,9,10],[0,1,2,3,4,5,6,7,8,9,10,11],[0,1,2,3,4,5,6,7,8,9,10,11],[0,1,2,3,4,5,6,7,8,9,10,11],[],[0,1,2,3,4,5,6,7,8,9,10,11,12,15],[0,1,2,3,4,5,6,7,8,9,10,11,12,13,15,16],[0,1,2,3,4,5,6,7,8,9,10,11,12,13,14,15,16,17]] (by kernel_rfl) (vcE_start ?_)
          refine vcE_bl rfl rfl (fun _ => ox_move (pl rfl)) rfl rfl ?_
          refine vcE_bl rfl rfl (fun _ => ox_move (pl rfl)) rfl rfl ?_
          refine vcE_bl rfl rfl (fun _ => ox_len (pl rfl) D_34 rfl) rfl rfl ?_
          refine vcE_bl rfl rfl (fun _ => ox_bin (pl rfl) (pl rfl) (bo_i64_sub (by omega))) rfl rfl ?_
          refine vcE_bl rfl rfl (fun _ => ox_iaS (pl rfl) (pl rfl) D_34 rfl D_24 (by omega) (by omega)) rfl rfl ?_
          refine vcE_val rfl rfl rfl rfl (ox_load (pl rfl) D_24 (hp_eq _ _ _ _) (rd_digs (chsL_last c (gl rs A i)) rfl rfl (by show 0 + ((((gl rs A i).length + 1 : Nat) : Int) - 1).toNat * 32 = _; omega))) rfl (si_load (pl rfl)) (lt1 (by omega)) (trivial) ?_
          refine vcE_bl rfl rfl (fun _ => ox_move (pl rfl)) rfl rfl ?_
          refine vcE_bl rfl rfl (fun _ => ox_move (pl rfl)) rfl rfl ?_
          refine vcE_bl rfl rfl (fun _ => ox_iaS (pl rfl) (pl rfl) D_80 rfl D_69 (by omega) (by omega)) rfl rfl ?_
          refine vcE_val rfl rfl rfl rfl (ox_load (pl rfl) D_69 (hp_keep hfree m1 (by exact ⟨by omega, ⟨by omega, ⟨by omega, ⟨by omega, ⟨by omega, trivial⟩⟩⟩⟩⟩)) (rd_celIn l1 hir (rd_69 _ rfl rfl) rfl)) rfl (si_load (pl rfl)) (lt1 (by omega)) (trivial) ?_
          refine vcE_callN rfl rfl rfl rfl (ox_fn rfl rfl (F49_okL (c := lastC c (gl rs A i)) (a := rs[i]) (d := A[i].2) (L := (recL (lastC c (gl rs A i)) rs[i].kind A[i].2).length) (rdC_keep hfree hD (by exact ⟨by omega, ⟨by omega, ⟨by omega, ⟨by omega, ⟨by omega, trivial⟩⟩⟩⟩⟩)) (by omega) hk rfl)) rfl ltu0 ⟨⟨.inl (by omega), by omega, by omega⟩, trivial⟩ (by omega) (trivial) ?_
          refine vcE_bl rfl rfl (fun _ => ox_move (pl rfl)) rfl rfl ?_
          refine vcE_bl rfl rfl (fun _ => ox_extract (pl rfl) rfl) rfl rfl ?_
          refine vcE_bl rfl rfl (fun _ => ox_extract (pl rfl) rfl) rfl rfl ?_
          refine vcE_bl rfl rfl (fun _ => ox_extract (pl rfl) rfl) rfl rfl ?_
          refine vcE_new rfl rfl (fun _ => ox_allocZ (cs := encs (Vector.replicate 32 (0 : UInt8)).toList) D_24 rfl) rfl rfl (.inl (by omega)) ?_
          refine vcE_bl rfl rfl (fun _ => ox_assign (pl rfl)) rfl rfl ?_
          refine vcE_sto rfl rfl rfl rfl (ox_store (pl rfl) (pl rfl) D_24 (hp_eq _ _ _ _) rfl (encs_vec_length _) (le_vec _ rfl) (encs_known _) (wr_all (by simp only [encs_vec_length]))) rfl (si_store (pl rfl)) (is_some (hp_eq _ _ _ _)) (by omega) (.inl (by omega)) (⟨trivial, ⟨trivial, trivial⟩⟩) (⟨trivial, ⟨trivial, ⟨trivial, trivial⟩⟩⟩) ?_
          refine vcE_bl rfl rfl (fun _ => ox_assign (pl rfl)) rfl rfl ?_
          refine vcE_nil ?_
          refine IW.seq ?_
          refine IW.seq ?_
          refine IW.reg hE ?_
          refine vcS_val rfl rfl (ox_move (pl rfl)) ?_
          refine vcS_val rfl rfl (ox_bin (pl rfl) (pl rfl) ((bo_i64_neq _ _).trans rfl)) ?_
          refine vcS_nil ?_
          refine IW.cond rfl (fun hc10 => ?_) (fun hc10 => ?_)
          · cases hc10
          · refine IW.skip ?_
            refine IW.seq ?_
            refine IW.seq ?_
            refine IW.drw hE mixed [[],[0],[],[],[2,3],[2,3,4],[2,3,4,5],[0,1,2,3,4,5,6],[0,1,2,3,4,5,6,7],[0,1,2,3,4,5,6,7,8],[0,1,2,3,4,5,6,7,8],[0,1,2,3,4,5,6,7,8],[0,1,2,3,4,5,6,7,8,11],[0,1,2,3,4,5,6,7,8,11,12],[0,1,2,3,4,5,6,7,8,10,11,12,13],[0,1,2,3,4,5,6,7,8,10,11,12,13,14],[0,1,2,3,4,5,6,7,8],[0,1,2,3,4,5,6,7,8],[0,1,2,3,4,5,6,7,8,16,17],[0,1,2,3,4,5,6,7,8,16,17,18],[0,1,2,3,4,5,6,7,8,10,11,12,13,14,15,16,17,18,19],[0,1,2,3,4,5,6,7,8,9,10,11,12,13,14,15,16,17,18,19,20],[0,1,2,3,4,5,6,7,8,9,10,11,12,13,14,15,16,17,18,19,20,21]] (by kernel_rfl) (vcE_start ?_)
            refine vcE_bl rfl rfl (fun _ => ox_move (pl rfl)) rfl rfl ?_
            refine vcE_bl rfl rfl (fun _ => ox_len (pl rfl) D_35 rfl) rfl rfl ?_
            refine vcE_bl rfl rfl (fun _ => ox_move (pl rfl)) rfl rfl ?_
            refine vcE_bl rfl rfl (fun _ => ox_move (pl rfl)) rfl rfl ?_
            refine vcE_bl rfl rfl (fun _ => ox_iaS (pl rfl) (pl rfl) D_80 rfl D_69 (by omega) (by omega)) rfl rfl ?_
            refine vcE_val rfl rfl rfl rfl (ox_load (pl rfl) D_69 (hp_keep hfree m1 (by exact ⟨by omega, ⟨by omega, ⟨by omega, ⟨by omega, ⟨by omega, ⟨by omega, ⟨by omega, ⟨by omega, trivial⟩⟩⟩⟩⟩⟩⟩⟩)) (rd_celIn l1 hir (rd_69 _ rfl rfl) rfl)) rfl (si_load (pl rfl)) (lt1 (by omega)) (trivial) ?_
            refine vcE_call rfl rfl rfl rfl (ox_fn rfl rfl (recF_ev (rdC_keep hfree hD (by exact ⟨by omega, ⟨by omega, ⟨by omega, ⟨by omega, ⟨by omega, ⟨by omega, ⟨by omega, ⟨by omega, trivial⟩⟩⟩⟩⟩⟩⟩⟩)) (by omega) rfl)) rfl ltu0 (trivial) ?_
            refine vcE_bl rfl rfl (fun _ => ox_bin (pl rfl) (pl rfl) ((bo_i64_neq _ _).trans (show _ = some (Value.bool false) from by rw [if_pos hk, recL_length]; simp))) rfl rfl ?_
            refine vcE_bl rfl rfl (fun _ => ox_move (pl rfl)) rfl rfl ?_
            refine vcE_known (wgF rfl rfl rfl) rfl ?_
            refine vcE_val rfl rfl rfl rfl (ox_load (pl rfl) D_24 (hp_eq _ _ _ _) (rd_all rfl (encs_vec_length _))) rfl (si_load (pl rfl)) (lt1 (by omega)) (trivial) ?_
            refine vcE_known (wgF rfl rfl rfl) rfl ?_
            refine vcE_bl rfl rfl (fun _ => ox_move (pl rfl)) rfl rfl ?_
            refine vcE_known (wgF rfl rfl rfl) rfl ?_
            refine vcE_bl rfl rfl (fun _ => ox_move (pl rfl)) rfl rfl ?_
            refine vcE_known (wgF rfl rfl rfl) rfl ?_
            refine vcE_bl rfl rfl (fun _ => ox_len (pl rfl) D_34 rfl) rfl rfl ?_
            refine vcE_known (wgF rfl rfl rfl) rfl ?_
            refine vcE_bl rfl rfl (fun _ => ox_bin (pl rfl) (pl rfl) (bo_i64_sub (by omega))) rfl rfl ?_
            refine vcE_known (wgF rfl rfl rfl) rfl ?_
            refine vcE_bl rfl rfl (fun _ => ox_iaS (pl rfl) (pl rfl) D_34 rfl D_24 (by omega) (by omega)) rfl rfl ?_
            refine vcE_known (wgF rfl rfl rfl) rfl ?_
            refine vcE_val rfl rfl rfl rfl (ox_load (pl rfl) D_24 (hp_sk (by omega) (hp_sk (by omega) (hp_sk (by omega) (hp_eq _ _ _ _)))) (rd_digs (chsL_last c (gl rs A i)) rfl rfl (by show 0 + ((((gl rs A i).length + 1 : Nat) : Int) - 1).toNat * 32 = _; omega))) rfl (si_load (pl rfl)) (lt1 (by omega)) (trivial) ?_
            refine vcE_known (wgF rfl rfl rfl) rfl ?_
            refine vcE_bl rfl rfl (fun _ => ox_move (pl rfl)) rfl rfl ?_
            refine vcE_known (wgF rfl rfl rfl) rfl ?_
            refine vcE_bl rfl rfl (fun _ => ox_move (pl rfl)) rfl rfl ?_
            refine vcE_known (wgF rfl rfl rfl) rfl ?_
            refine vcE_bl rfl rfl (fun _ => ox_iaS (pl rfl) (pl rfl) D_80 rfl D_69 (by omega) (by omega)) rfl rfl ?_
            refine vcE_known (wgF rfl rfl rfl) rfl ?_
            refine vcE_val rfl rfl rfl rfl (ox_load (pl rfl) D_69 (hp_keep hfree m1 (by exact ⟨by omega, ⟨by omega, ⟨by omega, ⟨by omega, ⟨by omega, ⟨by omega, ⟨by omega, ⟨by omega, trivial⟩⟩⟩⟩⟩⟩⟩⟩)) (rd_celIn l1 hir (rd_69 _ rfl rfl) rfl)) rfl (si_load (pl rfl)) (lt1 (by omega)) (trivial) ?_
            refine vcE_known (wgF rfl rfl rfl) rfl ?_
            refine vcE_call rfl rfl rfl rfl (ox_fn rfl rfl (recFc_ev (rdC_keep hfree hD (by exact ⟨by omega, ⟨by omega, ⟨by omega, ⟨by omega, ⟨by omega, ⟨by omega, ⟨by omega, ⟨by omega, trivial⟩⟩⟩⟩⟩⟩⟩⟩)) (by omega) rfl)) rfl ltu0 (trivial) ?_
            refine vcE_known (wgF rfl rfl rfl) rfl ?_
            refine vcE_bl rfl rfl (fun _ => ox_bin (pl rfl) (pl rfl) ((ne_vec K_24 cellEq_u8 _ _).trans (ne_same _))) rfl rfl ?_
            refine vcE_bl rfl rfl (fun _ => ox_or (pl rfl) (pl rfl) (fun hc => pl rfl)) rfl rfl ?_
            refine vcE_nil ?_
            refine IW.cond rfl (fun hc11 => ?_) (fun hc11 => ?_)
            · exact absurd hc11 (by simp)
            · refine IW.skip ?_
              refine IW.seq ?_
              refine IW.drw hE mixed [[],[],[0,1],[],[],[],[4,5],[4,5,6],[4,5,6,7],[0,1,2,3,4,5,6,7,8],[0,1,2,3,4,5,6,7,8,9],[0,1,2,3,4,5,6,7,8,9,10]] (by kernel_rfl) (vcE_start ?_)
              refine vcE_bl rfl rfl (fun _ => ox_move (pl rfl)) rfl rfl ?_
              refine vcE_bl rfl rfl (fun _ => ox_move (pl rfl)) rfl rfl ?_
              refine vcE_app2 [m + 1 + 1, p] rfl rfl rfl rfl (ox_appO (α := UInt8) (l1 := catL c (gl rs A i)) (l := (recL (lastC c (gl rs A i)) rs[i].kind A[i].2)) (pl rfl) (pl rfl) D_35 rfl D_5 D_35 rfl rfl rfl (hp_sk (by omega) (hp_sk (by omega) (hp_sk (by omega) (hp_sk (by omega) (hp_sk (by omega) (hp_sk (by omega) (hp_sk (by omega) (hp_eq _ _ _ _)))))))) rfl (by rw [cels_length]; exact Nat.le_refl _) (List.take_of_length_le (by rw [cels_length]; exact Nat.le_refl _)) (rdC_1all (l := (recL (lastC c (gl rs A i)) rs[i].kind A[i].2)) (hp_sk (by omega) (hp_sk (by omega) (hp_eq _ _ _ _))) rfl) (by show (_ + _) * 1 ≤ most; simp only [most]; omega) (by decide)) rfl rfl (.inl (by omega)) (by simp) (is_some (hp_sk (by omega) (hp_sk (by omega) (hp_sk (by omega) (hp_sk (by omega) (hp_sk (by omega) (hp_sk (by omega) (hp_sk (by omega) (hp_eq _ _ _ _))))))))) (by omega) (.inl (by omega)) (lt2 (by omega) (by omega)) (trivial) (trivial) ?_
              refine vcE_bl rfl rfl (fun _ => ox_move (pl rfl)) rfl rfl ?_
              refine vcE_bl rfl rfl (fun _ => ox_move (pl rfl)) rfl rfl ?_
              refine vcE_bl rfl rfl (fun _ => ox_move (pl rfl)) rfl rfl ?_
              refine vcE_bl rfl rfl (fun _ => ox_iaS (pl rfl) (pl rfl) D_80 rfl D_69 (by omega) (by omega)) rfl rfl ?_
              refine vcE_val rfl rfl rfl rfl (ox_load (pl rfl) D_69 (hp_keep hfree m1 (by exact ⟨by omega, ⟨by omega, ⟨by omega, ⟨by omega, ⟨by omega, ⟨by omega, ⟨by omega, ⟨by omega, trivial⟩⟩⟩⟩⟩⟩⟩⟩)) (rd_celIn l1 hir (rd_69 _ rfl rfl) rfl)) rfl (si_load (pl rfl)) (lt1 (by omega)) (⟨qn2 (n0 := 0) (by omega) (by omega), trivial⟩) ?_
              refine vcE_new rfl rfl (fun _ => ox_bslR (r := rs[i]) rfl) rfl rfl (.inl (by omega)) ?_
              refine vcE_app2 [m + 1 + 1 + 1 + 1, p + 1 + 1 + 1] rfl rfl rfl rfl (ox_appO (α := Record) (l1 := gR rs A i) (l := [rs[i]]) (pl rfl) (pl rfl) D_80 rfl D_69 D_80 rfl rfl rfl (hp_sk (by omega) (hp_sk (by omega) (hp_sk (by omega) (hp_sk (by omega) (hp_sk (by omega) (hp_sk (by omega) (hp_sk (by omega) (hp_sk (by omega) (hp_sk (by omega) (hp_eq _ _ _ _)))))))))) (gR_len _ _ _) (by rw [cels_length, gR_len]; exact Nat.le_refl _) (List.take_of_length_le (by rw [cels_length, gR_len]; exact Nat.le_refl _)) (rdC_row1 (a := rs[i]) (hp_eq _ _ _ _)) (by show (_ + 1) * 32 ≤ most; simp only [most]; omega) (by decide)) rfl rfl (.inl (by omega)) (by simp) (is_some (hp_sk (by omega) (hp_sk (by omega) (hp_sk (by omega) (hp_sk (by omega) (hp_sk (by omega) (hp_sk (by omega) (hp_sk (by omega) (hp_sk (by omega) (hp_sk (by omega) (hp_eq _ _ _ _))))))))))) (by omega) (.inl (by omega)) (lt2 (by omega) (by omega)) (⟨trivial, ⟨trivial, trivial⟩⟩) (⟨trivial, ⟨trivial, trivial⟩⟩) ?_
              refine vcE_bl rfl rfl (fun _ => ox_assign (pl rfl)) rfl rfl ?_
              refine vcE_bl rfl rfl (fun _ => ox_assign (pl rfl)) rfl rfl ?_
              refine vcE_nil ?_
              refine IW.drw hE mixed [[],[],[1],[1,2],[0,1,2,3],[],[],[6],[0,1,2,3,4,5,6,7],[0,1,2,3,4,5,6,7,8],[0,1,2,3,4,5,6,7,8,9]] (by kernel_rfl) (vcE_start ?_)
              refine vcE_bl rfl rfl (fun _ => ox_move (pl rfl)) rfl rfl ?_
              refine vcE_bl rfl rfl (fun _ => ox_move (pl rfl)) rfl rfl ?_
              refine vcE_bl rfl rfl (fun _ => ox_len (pl rfl) D_35 rfl) rfl rfl ?_
              refine vcE_new rfl rfl (fun _ => ox_bsl (cs := encs [((((catL c (gl rs A i)).length + (recL (lastC c (gl rs A i)) rs[i].kind A[i].2).length : Nat) : Int) : Int)]) D_82 rfl D_3 (Nat.le_of_ble_eq_true rfl) rfl rfl) rfl rfl (.inl (by omega)) ?_
              refine vcE_app2 [m + 1 + 1 + 1 + 1 + 1 + 1, p + 1 + 1 + 1 + 1 + 1] rfl rfl rfl rfl (ox_appO (α := Int) (l1 := endsL c (gl rs A i)) (l := [((((catL c (gl rs A i)).length + (recL (lastC c (gl rs A i)) rs[i].kind A[i].2).length : Nat) : Int) : Int)]) (pl rfl) (pl rfl) D_82 rfl D_3 D_82 rfl rfl rfl (hp_sk (by omega) (hp_sk (by omega) (hp_sk (by omega) (hp_sk (by omega) (hp_sk (by omega) (hp_sk (by omega) (hp_sk (by omega) (hp_sk (by omega) (hp_sk (by omega) (hp_sk (by omega) (hp_eq _ _ _ _))))))))))) (endsL_length _ _) (by rw [cels_length, endsL_length]; exact Nat.le_refl _) (List.take_of_length_le (by rw [cels_length, endsL_length]; exact Nat.le_refl _)) (rdC_row1 (a := ((((catL c (gl rs A i)).length + (recL (lastC c (gl rs A i)) rs[i].kind A[i].2).length : Nat) : Int) : Int)) (hp_eq _ _ _ _)) (by show (_ + 1) * 8 ≤ most; simp only [most]; omega) (by decide)) rfl rfl (.inl (by omega)) (by simp) (is_some (hp_sk (by omega) (hp_sk (by omega) (hp_sk (by omega) (hp_sk (by omega) (hp_sk (by omega) (hp_sk (by omega) (hp_sk (by omega) (hp_sk (by omega) (hp_sk (by omega) (hp_sk (by omega) (hp_eq _ _ _ _)))))))))))) (by omega) (.inl (by omega)) (lt2 (by omega) (by omega)) (⟨trivial, trivial⟩) (trivial) ?_
              refine vcE_bl rfl rfl (fun _ => ox_move (pl rfl)) rfl rfl ?_
              refine vcE_val rfl rfl rfl rfl (ox_load (pl rfl) D_24 (hp_sk (by omega) (hp_sk (by omega) (hp_sk (by omega) (hp_sk (by omega) (hp_sk (by omega) (hp_eq _ _ _ _)))))) (rd_all rfl (encs_vec_length _))) rfl (si_load (pl rfl)) (lt1 (by omega)) (⟨qn1 (n0 := 0) (by omega), ⟨qn2 (n0 := 0) (by omega) (by omega), trivial⟩⟩) ?_
              refine vcE_new rfl rfl (fun _ => ox_bslD (x := (nextV (lastC c (gl rs A i)) rs[i].kind A[i].2)) rfl) rfl rfl (.inl (by omega)) ?_
              refine vcE_app2 [m + 1 + 1 + 1 + 1 + 1 + 1 + 1 + 1, p + 1 + 1 + 1 + 1 + 1 + 1 + 1] rfl rfl rfl rfl (ox_appO (α := Dig) (l1 := chsL c (gl rs A i)) (l := [(nextV (lastC c (gl rs A i)) rs[i].kind A[i].2)]) (pl rfl) (pl rfl) D_34 rfl D_24 D_34 rfl rfl rfl (hp_sk (by omega) (hp_sk (by omega) (hp_sk (by omega) (hp_sk (by omega) (hp_sk (by omega) (hp_sk (by omega) (hp_sk (by omega) (hp_sk (by omega) (hp_sk (by omega) (hp_sk (by omega) (hp_sk (by omega) (hp_sk (by omega) (hp_eq _ _ _ _))))))))))))) (chsL_length _ _) (by rw [cels_length, chsL_length]; exact Nat.le_refl _) (List.take_of_length_le (by rw [cels_length, chsL_length]; exact Nat.le_refl _)) (rdC_row1 (a := (nextV (lastC c (gl rs A i)) rs[i].kind A[i].2)) (hp_eq _ _ _ _)) (by show (_ + 1) * 32 ≤ most; simp only [most]; omega) (by decide)) rfl rfl (.inl (by omega)) (by simp) (is_some (hp_sk (by omega) (hp_sk (by omega) (hp_sk (by omega) (hp_sk (by omega) (hp_sk (by omega) (hp_sk (by omega) (hp_sk (by omega) (hp_sk (by omega) (hp_sk (by omega) (hp_sk (by omega) (hp_sk (by omega) (hp_sk (by omega) (hp_eq _ _ _ _)))))))))))))) (by omega) (.inl (by omega)) (lt2 (by omega) (by omega)) (⟨trivial, ⟨trivial, ⟨trivial, trivial⟩⟩⟩) (⟨trivial, ⟨trivial, trivial⟩⟩) ?_
              refine vcE_bl rfl rfl (fun _ => ox_assign (pl rfl)) rfl rfl ?_
              refine vcE_bl rfl rfl (fun _ => ox_assign (pl rfl)) rfl rfl ?_
              refine vcE_nil ?_
              refine IW.nilB ?_
              refine IW.reg hE ?_
              refine vcS_val rfl rfl (ox_move (pl rfl)) ?_
              refine vcS_val rfl rfl (ox_bin (pl rfl) (pl rfl) (bo_i64_add (by omega))) ?_
              refine vcS_val rfl rfl (ox_assign (pl rfl)) ?_
              refine vcS_nil ?_
              refine IW.nilS ?_
              refine ⟨⟨i + 1, (some p), p + 1 + 1 + 1 + 1 + 1 + 1 + 1 + 1 + 1⟩, _, _, ?_, ?_, rfl, ?_, rfl, ?_, ?_⟩ <;> dsimp only [dId, eId, spG, bS, gS, abM]
              · exact ⟨by omega, (fun h => by cases h), by omega, (fun m2 h => by cases h; omega)⟩
              · omega
              · exact ⟨rfl, ⟨rfl, ⟨rfl, ⟨(by show _ = some (enc (bS (some p) (catL c (gl rs A (i + 1))).length)); rw [e7]; rfl), ⟨(by show _ = some (enc (gS (some p) (gl rs A (i + 1)).length)); rw [e8]; rfl), ⟨(by show _ = some (Value.slice (some ⟨eId n (some p), 0, spG 1 (some p)⟩) ((gl rs A (i + 1)).length + 1) ((gl rs A (i + 1)).length + 1)); rw [e8]; rfl), ⟨(by show _ = some (Value.slice (some ⟨dId n (some p), 0, spG 32 (some p)⟩) ((gl rs A (i + 1)).length + 1) ((gl rs A (i + 1)).length + 1)); rw [e8]; rfl), ⟨rfl, trivial⟩⟩⟩⟩⟩⟩⟩⟩
              · exact leX_le (leX_same (hp_eq _ _ _ _) (by rw [hz1, chsL_snoc, ← hkd]) (leX_same (hp_sk (by omega) (hp_sk (by omega) (hp_sk (by omega) (hp_eq _ _ _ _)))) (by rw [hz1, endsL_snoc, ← hz1, e7]) (leX_same (hp_sk (by omega) (hp_sk (by omega) (hp_sk (by omega) (hp_sk (by omega) (hp_sk (by omega) (hp_sk (by omega) (hp_sk (by omega) (hp_sk (by omega) (hp_sk (by omega) (hp_sk (by omega) (hp_sk (by omega) (hp_sk (by omega) (hp_sk (by omega) (hp_sk (by omega) (hp_sk (by omega) (hp_sk (by omega) (hp_eq _ _ _ _))))))))))))))))) (rfl) (leX_same (hp_sk (by omega) (hp_sk (by omega) (hp_sk (by omega) (hp_sk (by omega) (hp_sk (by omega) (hp_sk (by omega) (hp_eq _ _ _ _))))))) (by rw [hz2]) (leX_same (hp_sk (by omega) (hp_sk (by omega) (hp_sk (by omega) (hp_sk (by omega) (hp_sk (by omega) (hp_sk (by omega) (hp_sk (by omega) (hp_sk (by omega) (hp_sk (by omega) (hp_eq _ _ _ _)))))))))) (by rw [hz1, catL_snoc, ← hkd]) (leX_none hfree (by exact ⟨by omega, ⟨by omega, ⟨by omega, ⟨by omega, ⟨by omega, ⟨by omega, ⟨by omega, ⟨by omega, ⟨by omega, ⟨by omega, ⟨by omega, ⟨by omega, ⟨by omega, ⟨by omega, ⟨by omega, ⟨by omega, ⟨by omega, ⟨by omega, ⟨by omega, trivial⟩⟩⟩⟩⟩⟩⟩⟩⟩⟩⟩⟩⟩⟩⟩⟩⟩⟩⟩)))))))
              · exact Nat.le_refl _
      · replace hc3 := of_decide_eq_false hc3
        have hir : i = rs.length := by omega
        subst hir
        refine IW.exit ?_
        refine exS (exS ?_)
        refine blkQ_exit ?_
        refine IW.seq ?_
        obtain ⟨hd1, hd2, he1, he2, hde⟩ := ids_ok hp3 hgs
        refine IW.closeS 7 (by simp) rfl (bS_q g _) (fun sb hsb hbl hbr => ?_)
        refine IW.closeS 8 (by simp) rfl (gS_q g _) (fun sg hsg hgl2 hgr => ?_)
        refine IW.rebase (fun H2 => H2 n = some (.cells (encs c.toList) false) ∧ H2 (dId n g) = some (.cells (cels (chsL c (gl rs A rs.length))) false) ∧ H2 (eId n g) = some (.cells (cels (endsL c (gl rs A rs.length))) false) ∧ rdC H2 (enc sb) = some (catL c (gl rs A rs.length)) ∧ rdC H2 (enc sg) = some (gR rs A rs.length) ∧ rdRs H2 (gR rs A rs.length) = some (gl rs A rs.length)) ⟨hp_sk (by omega) (hp_sk (by omega) (hp_eq _ _ _ _)), hp_eq _ _ _ _, hp_sk (by omega) (hp_eq _ _ _ _), hbr _ _ _ (bS_rd (fun h => by rw [hg0 h]; rfl) (fun m h => ?_)), hgr _ _ _ (gS_rd (gR_len _ _ _) (fun h => gR_nil (hg0 h)) (fun m h => ?_)), ?_⟩ ?_
        · have := hgs m h; subst h; dsimp only [dId, eId] at *; exact hp_sk (by omega) (hp_sk (by omega) (hp_sk (by omega) (hp_sk (by omega) (hp_eq _ _ _ _))))
        · have := hgs m h; subst h; dsimp only [dId, eId] at *; exact hp_sk (by omega) (hp_sk (by omega) (hp_sk (by omega) (hp_eq _ _ _ _)))
        · exact rdRs_le (fun x d hx => rdC_keep hfree hx (by exact ⟨by omega, by omega, by omega, abM_all (fun m h => by have := hgs m h; omega)⟩)) (gl_rd lA gA)
        rintro H2 ⟨fC, fD, fE, fB, fG, fR⟩
        refine IW.free (by simp) (fun hfree2 => ?_)
        have hsl := sl_len fB
        have hsg2 := sl_len fG
        rw [gR_len] at hsg2
        have hGl := gl_le (rs := rs) (A := A) (i := rs.length)
        have hcl := catL_le c (gl rs A rs.length) gl_good
        obtain ⟨K, hK, hK2⟩ := pick_nat j sb.len
        refine IW.reg hE ?_
        refine vcS_val rfl rfl (ox_move (pl rfl)) ?_
        refine vcS_val rfl rfl (ox_move (pl rfl)) ?_
        refine vcS_val rfl rfl (ox_len (pl rfl) D_35 rfl) ?_
        refine vcS_val rfl rfl (ox_bin (pl rfl) (pl rfl) (bo_i64_add (by omega))) ?_
        refine vcS_val rfl rfl (ox_fn rfl rfl (F31_ev _ (by omega))) ?_
        refine vcS_val rfl rfl (ox_assign (pl rfl)) ?_
        refine vcS_nil ?_
        refine IW.seq ?_
        rw [hK]
        refine IW.reg hE ?_
        refine vcS_val rfl rfl (ox_assign (pl rfl)) ?_
        refine vcS_nil ?_
        refine IW.seq ?_
        refine IW.block ?_
        refine IW.loop (S := Nat) (fun s => [(2, .int .i64 K), (4, .pointer (some ⟨n, 0, none⟩)), (7, enc sb), (8, enc sg), (9, .slice (some ⟨eId n g, 0, spG 1 g⟩) ((gl rs A rs.length).length + 1) ((gl rs A rs.length).length + 1)), (10, .slice (some ⟨dId n g, 0, spG 32 g⟩) ((gl rs A rs.length).length + 1) ((gl rs A rs.length).length + 1)), (15, .int .i64 s)]) (fun s => []) (fun s => p) (fun s => s ≤ (gl rs A rs.length).length ∧ eN c (gl rs A rs.length) s ≤ K) (fun s => (gl rs A rs.length).length - s) (0) (⟨Nat.zero_le _, Nat.zero_le _⟩) (⟨rfl, ⟨rfl, ⟨rfl, ⟨rfl, ⟨rfl, ⟨rfl, ⟨rfl, trivial⟩⟩⟩⟩⟩⟩⟩) (fun _ _ h => h) (Nat.le_refl _) (fun s hs => ?_)
        obtain ⟨hs1, hs2⟩ := hs
        refine IW.seq ?_
        refine IW.seq ?_
        refine IW.reg hE ?_
        refine vcS_val rfl rfl (ox_move (pl rfl)) ?_
        refine vcS_val rfl rfl (ox_bin (pl rfl) (pl rfl) (bo_i64_add (by omega))) ?_
        refine vcS_val rfl rfl (ox_move (pl rfl)) ?_
        refine vcS_val rfl rfl (ox_len (pl rfl) D_82 rfl) ?_
        refine vcS_val rfl rfl (ox_bin (pl rfl) (pl rfl) (bo_i64_lss _ _)) ?_
        refine vcS_val rfl rfl (ox_move (pl rfl)) ?_
        refine vcS_opt rfl (wgT rfl rfl rfl) (fun hb => ox_move (pl rfl)) ?_
        refine vcS_opt rfl (wgT rfl rfl rfl) (fun hb => ox_move (pl rfl)) ?_
        refine vcS_opt rfl (wgT rfl rfl rfl) (fun hb => ox_bin (gd hb rfl) (pl rfl) (bo_i64_add (by omega))) ?_
        refine vcS_opt rfl (wgT rfl rfl rfl) (fun hb => ox_iaS (gd hb rfl) (gd hb rfl) D_82 rfl D_3 (by omega) (by have := of_decide_eq_true hb; omega)) ?_
        refine vcS_opt rfl (wgT rfl rfl rfl) (fun hb => ox_load (gd hb rfl) D_3 fE (rd_int (i := s + 1) (by rw [endsL_length]; have := of_decide_eq_true hb; omega) rfl (by show 0 + ((s : Int) + 1).toNat * 1 = _; omega))) ?_
        refine vcS_opt rfl (wgT rfl rfl rfl) (fun hb => ox_move (pl rfl)) ?_
        refine vcS_opt rfl (wgT rfl rfl rfl) (fun hb => ox_bin (gd hb rfl) (gd hb rfl) (bo_i64_leq _ _)) ?_
        refine vcS_val rfl rfl (ox_and (pl rfl) (fun hc => gd hc rfl) (pl rfl)) ?_
        refine vcS_nil ?_
        refine IW.cond rfl (fun hc12 => ?_) (fun hc12 => ?_)
        · have h12 := (Bool.and_eq_true _ _).mp hc12
          have h1 := of_decide_eq_true h12.1
          have h2 := of_decide_eq_true h12.2
          have hse : s < (gl rs A rs.length).length := by omega
          rw [endsL_getD (j := s + 1) hse] at h2
          refine IW.skip ?_
          refine IW.block ?_
          refine IW.reg hE ?_
          refine vcS_val rfl rfl (ox_move (pl rfl)) ?_
          refine vcS_val rfl rfl (ox_bin (pl rfl) (pl rfl) (bo_i64_add (by omega))) ?_
          refine vcS_val rfl rfl (ox_assign (pl rfl)) ?_
          refine vcS_nil ?_
          refine IW.nilB ?_
          refine IW.nilS ?_
          exact ⟨s + 1, _, _, ⟨by omega, by omega⟩, by omega, rfl, ⟨rfl, ⟨rfl, ⟨rfl, ⟨rfl, ⟨rfl, ⟨rfl, ⟨rfl, trivial⟩⟩⟩⟩⟩⟩⟩, rfl, fun _ _ h => h, Nat.le_refl _⟩
        · have hmax : s < (gl rs A rs.length).length → K < eN c (gl rs A rs.length) (s + 1) := fun h => by
            simp only [Bool.and_eq_false_iff, decide_eq_false_iff_not] at hc12
            rcases hc12 with h1 | h1
            · omega
            · rw [endsL_getD (j := s + 1) h] at h1; omega
          refine IW.exit ?_
          refine exS (exS ?_)
          refine blkQ_exit ?_
          refine IW.seq ?_
          obtain ⟨a1, a2, a3⟩ := all_back (c := c) (K := K) gl_good (by omega) hs1 hs2 hmax
          obtain ⟨b2, hb2⟩ : ∃ b2, b2 = (catL c (gl rs A rs.length)).take K := ⟨_, rfl⟩
          rw [← hb2] at a1 a2 a3
          obtain ⟨R, hR⟩ : ∃ R, R = allRows p c b2 s := ⟨_, rfl⟩
          have hrd : rdC H2 (enc (slS sb 1 0 K)) = some b2 := by have := rdC_slS (α := UInt8) (l := 0) (h := K) hsb fB (Nat.zero_le _) (by omega); rw [List.drop_zero] at this; rw [hb2]; exact this
          have f57 : F57 [enc c, enc (slS sb 1 0 K)] H2 p = some ⟨.tuple #[enc (allSl p s), .int .i64 (eN c (gl rs A rs.length) s : Int), enc (cN c (gl rs A rs.length) s)], upL p R, p + R.length⟩ := (F57_ev hrd (slS_P hsb (by omega)) (by rw [hb2, List.length_take]; omega)).trans (by unfold allE; rw [a1, a2, hR])
          refine IW.drw hE mixed [[],[],[],[1,2],[0,1,2,3],[0,1,2,3,4],[0,1,2,3,4,5],[0,1,2,3,4,5],[0,1,2,3,4,5],[],[0,1,2,3,4,5,6,9],[0,1,2,3,4,5,6,7,9,10],[0,1,2,3,4,5,6,7,8,9,10,11]] (by kernel_rfl) (vcE_start ?_)
          refine vcE_val rfl rfl rfl rfl (ox_load (pl rfl) D_24 fC (rd_all rfl (encs_vec_length _))) rfl (si_load (pl rfl)) (lt1 (by omega)) (trivial) ?_
          refine vcE_bl rfl rfl (fun _ => ox_move (pl rfl)) rfl rfl ?_
          refine vcE_bl rfl rfl (fun _ => ox_move (pl rfl)) rfl rfl ?_
          refine vcE_bl rfl rfl (fun _ => ox_slP (l := 0) (h := K) hsb (pl rfl) D_35 rfl D_5 rfl bndN (bndI (pl rfl) rfl) (Nat.zero_le _) (by omega)) rfl rfl ?_
          refine vcE_callN rfl rfl (u := []) rfl rfl (ox_fn rfl rfl f57) rfl ltu0 (wAll_upL (fun id h1 h2 => ⟨.inl (by omega), h1, h2⟩)) (Nat.le_add_right _ _) (trivial) ?_
          refine vcE_bl rfl rfl (fun _ => ox_move (pl rfl)) rfl rfl ?_
          refine vcE_bl rfl rfl (fun _ => ox_extract (pl rfl) rfl) rfl rfl ?_
          refine vcE_bl rfl rfl (fun _ => ox_extract (pl rfl) rfl) rfl rfl ?_
          refine vcE_bl rfl rfl (fun _ => ox_extract (pl rfl) rfl) rfl rfl ?_
          refine vcE_new rfl rfl (fun _ => ox_allocZ (cs := encs (Vector.replicate 32 (0 : UInt8)).toList) D_24 rfl) rfl rfl (.inl (by omega)) ?_
          refine vcE_bl rfl rfl (fun _ => ox_assign (pl rfl)) rfl rfl ?_
          refine vcE_bl rfl rfl (fun _ => ox_assign (pl rfl)) rfl rfl ?_
          refine vcE_sto (u := upL p R ++ [(p + R.length, some (.cells (encs (Vector.replicate 32 (0 : UInt8)).toList) false))]) rfl rfl rfl (putH_app _ _ _) (ox_store (pl rfl) (pl rfl) D_24 (hp_eq _ _ _ _) rfl (encs_vec_length _) (le_vec _ rfl) (encs_known _) (wr_all (by simp only [encs_vec_length]))) rfl (si_store (pl rfl)) (is_some (hp_eq _ _ _ _)) (by omega) (.inl (by omega)) (⟨trivial, ⟨trivial, trivial⟩⟩) (⟨trivial, ⟨trivial, trivial⟩⟩) ?_
          refine vcE_nil ?_
          refine IW.seq ?_
          refine IW.rebase (fun H3 => (∀ id, id < p → H3 id = H2 id) ∧ (∀ i (h : i < R.length), H3 (p + i) = some (.cells R[i] false)) ∧ H3 (p + R.length) = some (.cells (encs (cN c (gl rs A rs.length) s).toList) false)) ?_ ?_
          · exact back_mem (x := some (.cells (encs (Vector.replicate 32 (0 : UInt8)).toList) false)) (M := putH (upL p R ++ ([(p + R.length, some (.cells (encs (Vector.replicate 32 (0 : UInt8)).toList) false))] ++ ([(p + R.length, some (.cells (encs (cN c (gl rs A rs.length) s).toList) false))] ++ []))) []) rfl
          rintro H3 ⟨k1, k2, f18⟩
          rw [hR] at k2
          obtain ⟨rec, r1, r2⟩ := all_read hs1 a3 k2
          have r3 : rdC H3 (enc (slS sg 2 0 s)) = some ((gR rs A rs.length).take s) := by have := rdC_slS (α := Record) (l := 0) (h := s) hsg (rdC_low k1 hfree2 fG) (Nat.zero_le _) (by omega); rw [List.drop_zero] at this; exact this
          have r4 : rdRs H3 ((gR rs A rs.length).take s) = some ((gl rs A rs.length).take s) := rdRs_take (rdRs_le (fun x d hx => rdC_low k1 hfree2 hx) fR)
          rw [← k1 _ hd2] at fD
          rw [← k1 _ he2] at fE
          refine IW.drw hE mixed [[],[],[],[1,2],[0,1,2,3],[0,1,2,3,4],[0,1,2,3,4,5],[0,1,2,3,4,5],[0,1,2,3,4,5],[0,1,2,3,4,5,7,8],[0,1,2,3,4,5,7,8,9],[0,1,2,3,4,5,6,7,8,9,10],[0,1,2,3,4,5,6,7,8,9,10,11],[0,1,2,3,4,5,6,7,8,9,10,11,12],[0,1,2,3,4,5,6,7,8,9,10,11,12,13],[0,1,2,3,4,5,6,7,8,9,10,11,12,13],[0,1,2,3,4,5,6,7,8,9,10,11,12,13],[0,1,2,3,4,5,6,7,8,9,10,11,12,13,15,16],[0,1,2,3,4,5,6,7,8,9,10,11,12,13,15,16,17],[0,1,2,3,4,5,6,7,8,9,10,11,12,13,14,15,16,17,18],[0,1,2,3,4,5,6,7,8,9,10,11,12,13,14,15,16,17,18,19],[0,1,2,3,4,5,6,7,8,9,10,11,12,13,14,15,16,17,18,19,20]] (by kernel_rfl) (vcE_start ?_)
          refine vcE_bl rfl rfl (fun _ => ox_move (pl rfl)) rfl rfl ?_
          refine vcE_bl rfl rfl (fun _ => ox_move (pl rfl)) rfl rfl ?_
          refine vcE_bl rfl rfl (fun _ => ox_move (pl rfl)) rfl rfl ?_
          refine vcE_bl rfl rfl (fun _ => ox_slP (l := 0) (h := s) hsg (pl rfl) D_80 rfl D_69 rfl bndN (bndI (pl rfl) rfl) (Nat.zero_le _) (by omega)) rfl rfl ?_
          refine vcE_call rfl rfl rfl rfl (ox_fn rfl rfl ((F58_ev r1 r3 r2 r4 (by rw [List.length_take]; omega)).trans (show _ = some (⟨.bool true, [], _⟩ : Eff) from by rw [beq_self_eq_true]))) rfl ltu0 (trivial) ?_
          refine vcE_bl rfl rfl (fun _ => ox_move (pl rfl)) rfl rfl ?_
          refine vcE_known (wgT rfl rfl rfl) rfl ?_
          refine vcE_bl rfl rfl (fun _ => ox_move (pl rfl)) rfl rfl ?_
          refine vcE_known (wgT rfl rfl rfl) rfl ?_
          refine vcE_bl rfl rfl (fun _ => ox_move (pl rfl)) rfl rfl ?_
          refine vcE_known (wgT rfl rfl rfl) rfl ?_
          refine vcE_bl rfl rfl (fun _ => ox_move (pl rfl)) rfl rfl ?_
          refine vcE_known (wgT rfl rfl rfl) rfl ?_
          refine vcE_bl rfl rfl (fun _ => ox_iaS (pl rfl) (pl rfl) D_82 rfl D_3 (by omega) (by omega)) rfl rfl ?_
          refine vcE_known (wgT rfl rfl rfl) rfl ?_
          refine vcE_val rfl rfl rfl rfl (ox_load (pl rfl) D_3 fE (rd_int (i := s) (by rw [endsL_length]; omega) rfl (by show 0 + ((s : Int)).toNat * 1 = _; omega))) rfl (si_load (pl rfl)) (lt1 (by omega)) (trivial) ?_
          refine vcE_known (wgT rfl rfl rfl) rfl ?_
          refine vcE_bl rfl rfl (fun _ => ox_bin (pl rfl) (pl rfl) ((bo_i64_eql _ _).trans (eq_to (by rw [endsL_getD hs1]; simp)))) rfl rfl ?_
          refine vcE_bl rfl rfl (fun _ => ox_and (pl rfl) (fun hc => pl rfl) (pl rfl)) rfl rfl ?_
          refine vcE_bl rfl rfl (fun _ => ox_move (pl rfl)) rfl rfl ?_
          refine vcE_known (wgT rfl rfl rfl) rfl ?_
          refine vcE_val rfl rfl rfl rfl (ox_load (pl rfl) D_24 f18 (rd_all rfl (encs_vec_length _))) rfl (si_load (pl rfl)) (lt1 (by omega)) (trivial) ?_
          refine vcE_known (wgT rfl rfl rfl) rfl ?_
          refine vcE_bl rfl rfl (fun _ => ox_move (pl rfl)) rfl rfl ?_
          refine vcE_known (wgT rfl rfl rfl) rfl ?_
          refine vcE_bl rfl rfl (fun _ => ox_move (pl rfl)) rfl rfl ?_
          refine vcE_known (wgT rfl rfl rfl) rfl ?_
          refine vcE_bl rfl rfl (fun _ => ox_iaS (pl rfl) (pl rfl) D_34 rfl D_24 (by omega) (by omega)) rfl rfl ?_
          refine vcE_known (wgT rfl rfl rfl) rfl ?_
          refine vcE_val rfl rfl rfl rfl (ox_load (pl rfl) D_24 fD (rd_digs (chsL_get hs1) rfl rfl (by show 0 + ((s : Int)).toNat * 32 = _; omega))) rfl (si_load (pl rfl)) (lt1 (by omega)) (trivial) ?_
          refine vcE_known (wgT rfl rfl rfl) rfl ?_
          refine vcE_bl rfl rfl (fun _ => ox_bin (pl rfl) (pl rfl) ((eq_vec K_24 cellEq_u8 _ _).trans (eq_same _))) rfl rfl ?_
          refine vcE_bl rfl rfl (fun _ => ox_and (pl rfl) (fun hc => pl rfl) (pl rfl)) rfl rfl ?_
          refine vcE_bl rfl rfl (fun _ => ox_assign (pl rfl)) rfl rfl ?_
          refine vcE_nil ?_
          refine IW.ret ?_
          exact RetP.ret (.inr rfl) rfl rfl trivial (rfl)
end Go.Proofs.Ytdnnojblneccdaa
