import Derived.Test.YtdnnojblneccdaaJC
import Derived.Laws.Strings
import Derived.OpenShut
import Derived.RangeFuncFrom
import Derived.RangeFuncCalls
/-
  More steps: slices of slices, literals, strings, guards that are known, calls with new rows.
-/
namespace Go.Proofs.Ytdnnojblneccdaa
set_option linter.unusedSimpArgs false
set_option linter.unusedVariables false
open Go
open Enc (enc)
open Row (cel)

section
variable {Γ : Fns} {D : Ty} {K : Kinds} {e : Operand → Value} {H : IHeap} {n : Nat}
/-! slices of slices -/
def slA (a : Addr) (cap sz l : Nat) : Addr := if cap = l then a else goOn a (l * sz)
theorem bndN {d : Nat} : bnd (Option.map e none) d = some d := rfl
theorem bndI {x : Operand} {k : IntKind} {i : Int} {d l : Nat} (h : e x = .int k i) (hi : i = (l : Int)) : bnd (Option.map e (some x)) d = some l := by
  subst hi
  simp only [Option.map_some, bnd, h]
  rw [if_pos (by omega)]; simp
theorem ox_sl {t : TypeId} {x : Operand} {lo hi : Option Operand} {a : Addr} {len cap el l h : Nat} {d de : TD} (hx : e x = .slice (some a) len cap) (hd : D t = some d) (hk : d.k = .slice el) (hde : D el = some de) (hlo : bnd (lo.map e) 0 = some l) (hhi : bnd (hi.map e) len = some h)
    (h1 : l ≤ h) (h2 : h ≤ cap) (hsp : a.spot = none ∨ (a.spot = some de.size ∧ (l < cap ∨ l = 0))) : iopC Γ D K e H n (.slice t x lo hi none) = some ⟨.slice (some (slA a cap de.size l)) (h - l) (cap - l), [], n⟩ := by
  refine ox_slS hx hd hk hde ?_
  have hm : bnd (Option.map e none) cap = some cap := rfl
  simp only [sliceIt, hlo, hhi, hm]
  rw [if_pos ⟨h1, h2, Nat.le_refl _, by simp⟩]
  rcases hsp with h3 | ⟨h3, h4⟩
  · rw [h3]; rfl
  · rw [h3, Option.map_none]
    show (if (l < cap ∨ l = 0) ∧ de.size = de.size then _ else none) = _
    rw [if_pos ⟨h4, rfl⟩]
    unfold slA
    split
    · rename_i h5
      have : l = 0 := by omega
      subst this
      simp [goOn]
    · rfl
/-- the head of a slice -/
theorem ox_slH {t : TypeId} {x : Operand} {hi : Option Operand} {a : Addr} {len cap el h : Nat} {d de : TD} (hx : e x = .slice (some a) len cap) (hd : D t = some d) (hk : d.k = .slice el) (hde : D el = some de) (hhi : bnd (hi.map e) len = some h)
    (h2 : h ≤ cap) (hsp : a.spot = none ∨ a.spot = some de.size) : iopC Γ D K e H n (.slice t x none hi none) = some ⟨.slice (some a) h cap, [], n⟩ := by
  have := ox_sl (Γ := Γ) (K := K) (H := H) (n := n) (lo := none) hx hd hk hde rfl hhi (Nat.zero_le _) h2 (hsp.imp id fun h => ⟨h, .inr rfl⟩)
  rw [this]
  have : slA a cap de.size 0 = a := by unfold slA; split <;> simp [goOn]
  rw [this]; rfl
variable {α : Type} [Row α]
theorem rdC_sl {a : Addr} {len cap l h : Nat} {xs : List α} (hr : rdC H (.slice (some a) len cap) = some xs) (h1 : l ≤ h) (h2 : h ≤ len) (hc : len ≤ cap) : rdC H (.slice (some (slA a cap (Row.sz α) l)) (h - l) (cap - l)) = some ((xs.take h).drop l) := by
  obtain ⟨id, off, sp⟩ := a
  rcases rdC_inv hr with ⟨e, _⟩ | ⟨id', off', sp', c, ro, e, hc', hle, hl, rfl⟩
  · cases e
  cases e
  have hlen : ((xs.take h).drop l).length = h - l := by simp [Nat.min_eq_left h2]
  have hsplit : xs = xs.take l ++ ((xs.take h).drop l ++ xs.drop h) := by
    rw [← List.append_assoc]
    have : xs.take l ++ (xs.take h).drop l = xs.take h := by
      have := List.take_append_drop l (xs.take h)
      rwa [List.take_take, Nat.min_eq_left h1] at this
    rw [this, List.take_append_drop]
  have hcs : cels xs = cels (xs.take l) ++ (cels ((xs.take h).drop l) ++ cels (xs.drop h)) := by
    conv => lhs; rw [hsplit]
    rw [cels_append, cels_append]
  by_cases e0 : cap = l
  · have hl0 : h = l := by omega
    subst hl0
    have e1 : (xs.take h).drop h = [] := by rw [List.drop_eq_nil_iff]; simp; omega
    rw [e1] at hlen ⊢
    simp only [slA, if_pos e0, Nat.sub_self]
    exact rdC_mk hc' (by simp; omega) (by simp [cels]) rfl
  · have hb : slA ⟨id, off, sp⟩ cap (Row.sz α) l = goOn ⟨id, off, sp⟩ (l * Row.sz α) := if_neg e0
    have hg : goOn ⟨id, off, sp⟩ (l * Row.sz α) = ⟨id, off + l * Row.sz α, sp⟩ := by
      unfold goOn; split
      · rename_i h0; rw [h0]; rfl
      · rfl
    rw [hb, hg]
    have hsz : l * Row.sz α + (h - l) * Row.sz α ≤ xs.length * Row.sz α := by
      rw [← Nat.add_mul]; exact Nat.mul_le_mul_right _ (by omega)
    refine rdC_mk hc' (by rw [hlen]; omega) ?_ hlen
    have hpre : (cels (xs.take l)).length = l * Row.sz α := by rw [cels_length, List.length_take, Nat.min_eq_left (by omega)]
    have hmid : (cels ((xs.take h).drop l)).length = (h - l) * Row.sz α := by rw [cels_length, hlen]
    rw [hlen]
    have h5 : ((c.drop off).take (xs.length * Row.sz α)).drop (l * Row.sz α) = cels ((xs.take h).drop l) ++ cels (xs.drop h) := by
      rw [hl, hcs, ← hpre, List.drop_left]
    rw [List.drop_take, List.drop_drop] at h5
    have h6 := congrArg (List.take ((h - l) * Row.sz α)) h5
    rw [List.take_take, Nat.min_eq_left (by omega), ← hmid, List.take_left] at h6
    rw [hmid] at h6
    exact h6
theorem rdC_sl0 {a : Addr} {len cap h : Nat} {xs : List α} (hr : rdC H (.slice (some a) len cap) = some xs) (h2 : h ≤ len) : rdC H (.slice (some a) h cap) = some (xs.take h) := by
  obtain ⟨id, off, sp⟩ := a
  rcases rdC_inv hr with ⟨e, _⟩ | ⟨id', off', sp', c, ro, e, hc', hle, hl, rfl⟩
  · cases e
  cases e
  have hlen : (xs.take h).length = h := by simp [h2]
  have hsz : h * Row.sz α ≤ xs.length * Row.sz α := Nat.mul_le_mul_right _ h2
  refine rdC_mk hc' (by rw [hlen]; omega) ?_ hlen
  rw [hlen]
  have h6 := congrArg (List.take (h * Row.sz α)) hl
  rw [List.take_take, Nat.min_eq_left hsz] at h6
  rw [h6]
  conv => lhs; rw [← List.take_append_drop h xs]
  rw [cels_append]
  have : (cels (xs.take h)).length = h * Row.sz α := by rw [cels_length, hlen]
  rw [← this, List.take_left]

/-- an append of zero values to nil -/
theorem ox_appZ {t t2 el : TypeId} {k2 : IntKind} {s y : Operand} {k : Nat} {d d2 de : TD} (hs : e s = .slice none 0 0) (hy : e y = .int .i64 k) (hd : D t = some d) (hk : d.k = .slice el) (hde : D el = some de) (hd2 : D t2 = some d2) (hk2 : d2.k = .int k2)
    (h0 : 0 < k) (hm : k * de.bytes ≤ most) (hb : 1 ≤ de.bytes) : iopC Γ D K e H n (.call ⟨.builtin .append, #[s, y], #[t, t2]⟩) = some ⟨.slice (some ⟨n, 0, some de.size⟩) k k, [(n, some (.cells ((List.replicate k de.zero).flatten) false))], n + 1⟩ := by
  have h1 : (k : Int) ≤ (most : Nat) := by
    have : k * 1 ≤ k * de.bytes := Nat.mul_le_mul_left _ hb
    omega
  have h2 : (k : Int) * de.bytes ≤ (2 : Int) ^ 48 := by
    have : ((k * de.bytes : Nat) : Int) ≤ (2 : Int) ^ 47 := by
      have := Int.ofNat_le.2 hm
      exact this
    rw [← Int.natCast_mul]; omega
  have hsrc : srcArg D H t2 de (.int .i64 k) = some (k, (List.replicate k de.zero).flatten) := by
    simp only [srcArg, hd2, Option.bind_some, hk2]
    rw [if_pos ⟨by omega, h1, h2⟩]; simp
  simp only [iopC, iop, doBuiltin, doAppend, List.map_cons, List.map_nil, hs, hy, hd, hk, hde, hsrc, Option.bind_some, List.getElem?_toArray, List.getElem?_cons_zero, List.getElem?_cons_succ]
  rw [if_neg (by simp [closed]; omega), if_pos ⟨by simpa using hm, hb⟩]
  simp [new]

/-! literals of slices -/
theorem ox_bsl {N : Nat} {L : List (Nat × Value)} {t el len : TypeId} {d de : TD} {parts : Array (Nat × Operand)} {vs : List (Nat × Value)} {cs : List Value} (hd : D t = some d) (hk : d.k = .slice el) (hde : D el = some de) (hle : len * de.size ≤ 2 ^ 24) (hp : opp N L parts.toList = some vs)
    (hf : fillIn (fun i => some (i * de.size, de.size)) ((List.replicate len de.zero).flatten) vs = some cs) : iopC Γ D K (ev (dense N L)) H n (.buildSlice t len parts) = some ⟨.slice (some ⟨n, 0, none⟩) len len, [(n, some (.cells cs false))], n + 1⟩ := by
  simp only [iopC, iop, hd, hk, hde, Option.bind_some]
  rw [if_pos hle]
  have := opp_ev hp
  simp only [this, hf, Option.bind_some, new]

/-! strings -/
def bs (l : List UInt8) : ByteArray := ⟨l.toArray⟩
theorem bs_toList (l : List UInt8) : (bs l).toList = l := by rw [ByteArray.toList_eq]; simp [bs]
theorem bs_size (l : List UInt8) : (bs l).size = l.length := by simp [bs, ByteArray.size]
theorem cels_u8 (l : List UInt8) : cels l = encs l := by induction l with
  | nil => rfl
  | cons a l ih => rw [cels_cons, ih]; rfl
theorem rdS_rdC {x : Value} {l : List UInt8} (h : rdS H x = some l) (hn : ∀ k c, x = .slice none k c → k = 0 ∧ c = 0) : rdC H x = some l := by
  unfold rdS at h
  split at h
  · rename_i k c
    obtain ⟨rfl, rfl⟩ := hn _ _ rfl
    cases h; rfl
  · rename_i a len cap
    split at h
    · rename_i c ro hc
      split at h
      · rename_i hle
        obtain ⟨id, off, sp⟩ := a
        have := decs_some h
        have hl : l.length = len := by
          have := congrArg List.length this
          rw [encs_length] at this
          simp only [List.length_take, List.length_drop] at this
          simp only at hle
          omega
        subst hl
        refine rdC_mk hc (by show off + l.length * 1 ≤ _; simp only at hle; omega) ?_ rfl
        rw [cels_u8]
        show (c.drop off).take (l.length * 1) = _
        rw [Nat.mul_one]; exact this
      · cases h
    · cases h
  · cases h
theorem rdC_rdS {x : Value} {l : List UInt8} (h : rdC H x = some l) : rdS H x = some l := by
  obtain ⟨a, cap, rfl⟩ := rdC_len h
  rcases rdC_inv h with ⟨rfl, h2, rfl, rfl⟩ | ⟨id, off, sp, c, ro, rfl, hc, hle, hl, _⟩
  · rfl
  · simp only [rdS, hc]
    have hs : Row.sz UInt8 = 1 := rfl
    rw [hs, Nat.mul_one] at hle hl
    rw [if_pos hle, hl, cels_u8]
    exact decs_encs l
/-- bytes as a string -/
theorem ox_cvS {s t el : TypeId} {x : Operand} {v : Value} {ds d de : TD} {l : List UInt8} (hx : e x = v) (hs : D s = some ds) (hsk : ds.k = .slice el) (hde : D el = some de) (hdk : de.k = .int .u8) (hd : D t = some d) (hk : d.k = .str) (hr : rdC H v = some l) :
    iopC Γ D K e H n (.convert s t x) = some ⟨.string (bs l), [], n⟩ := by
  obtain ⟨a, cap, rfl⟩ := rdC_len hr
  have h2 := (rdC_src hr).2
  have h3 : Row.sz UInt8 = 1 := rfl
  rw [h3, cels_u8] at h2
  simp only [iopC, iop, doConvert, hs, hd, hk, hx, hsk, hde, Option.bind_some, hdk, if_true, h2]
  have h4 : (encs l).all (fun v => match v with | .int .u8 _ => true | _ => false) = true := by
    simp only [encs, List.all_map, List.all_eq_true]; intro _ _; rfl
  split
  case isFalse hn => exact absurd h4 hn
  simp only [val, encs, List.map_map]
  congr 4
  have : (List.map ((fun v => match v with | Value.int _ i => UInt8.ofNat i.toNat | _ => 0) ∘ enc) l) = l := by
    conv => rhs; rw [← List.map_id l]
    refine List.map_congr_left fun a _ => ?_
    show UInt8.ofNat ((a.toNat : Int)).toNat = a
    simp
  exact congrArg List.toArray this
theorem bo_str_lss {t : TypeId} (a b : List UInt8) : binOp' D K .lss t (.string (bs a)) (.string (bs b)) = some (.bool (Op.bytesLess a b)) := by simp only [binOp', strOp, bs_toList]
theorem bo_str_gtr {t : TypeId} (a b : List UInt8) : binOp' D K .gtr t (.string (bs a)) (.string (bs b)) = some (.bool !(Op.bytesLess a b || a == b)) := by simp only [binOp', strOp, bs_toList]
theorem bo_str_eql {t : TypeId} (a b : List UInt8) : binOp' D K .eql t (.string (bs a)) (.string (bs b)) = some (.bool (a == b)) := by simp only [binOp', strOp, bs_toList]
theorem bo_str_neq {t : TypeId} (a b : List UInt8) : binOp' D K .neq t (.string (bs a)) (.string (bs b)) = some (.bool !(a == b)) := by simp only [binOp', strOp, bs_toList]
end

section
variable {P : Program} {Γ : Fns} {D : Ty} {K : Kinds} {W : Nat → Prop} {R : Option Nat} {ops : Array Oper} {Q : Post3} {o : Oper} {os : List Oper} {N : Nat} {L : List (Nat × Value)} {H : IHeap} {M : Ups} {n : Nat}
/-! guards that are known -/
def wAll (W : Nat → Prop) : Ups → Prop
  | [] => True
  | p :: l => W p.1 ∧ wAll W l
theorem wAll_spec {W : Nat → Prop} : ∀ {l : Ups}, wAll W l → ∀ p ∈ l, W p.1
  | q :: l, h, p, hm => by
    cases hm with
    | head => exact h.1
    | tail _ hm => exact wAll_spec h.2 p hm
/-- a call, or what else writes several rows -/
theorem vcS_ups {d : Tmp} {v : Value} {up M' : Ups} {n' : Nat} (hd : o.dst = some d) (hg : o.guard = none) (h : iopC Γ D K (ev (dense N L)) (hp H M) n o.op = some ⟨v, up, n'⟩) (hM : putH up M = M') (hW : wAll W up)
    (k : vcS Γ D K W ops Q os (dense N ((d, v) :: L)) (hp H M') n') : vcS Γ D K W ops Q (o :: os) (dense N L) (hp H M) n := vcS_call hd hg h hM (wAll_spec hW) k
theorem vcS_T {d : Tmp} {v : Value} {b : Bool} {up M' : Ups} {n' : Nat} (hd : o.dst = some d) (hg : wantedI ops (dense N L) o = some b) (hb : b = true) (h : iopC Γ D K (ev (dense N L)) (hp H M) n o.op = some ⟨v, up, n'⟩) (hM : putH up M = M') (hW : wAll W up)
    (k : vcS Γ D K W ops Q os (dense N ((d, v) :: L)) (hp H M') n') : vcS Γ D K W ops Q (o :: os) (dense N L) (hp H M) n := by
  subst hb
  unfold vcS
  rw [hg]
  refine ⟨fun _ => ?_, fun hb => (by cases hb)⟩
  rw [h]
  refine ⟨wAll_spec hW, ?_⟩
  rw [upds_hp, hM, tput_dense, hd]; exact k
theorem vcS_F {d : Tmp} {b : Bool} (hd : o.dst = some d) (hg : wantedI ops (dense N L) o = some b) (hb : b = false)
    (k : vcS Γ D K W ops Q os (dense N ((d, .chan none) :: L)) (hp H M) n) : vcS Γ D K W ops Q (o :: os) (dense N L) (hp H M) n := by
  subst hb
  unfold vcS
  rw [hg]
  refine ⟨fun hb => (by cases hb), fun _ => ?_⟩
  rw [tput_dense, hd]; exact k
variable {pre : List Nat} {pres : List (List Nat)} {n0 k : Nat} {Wr : List (Nat × Ups)} {Vs : List (Nat × Vis)}
/-- a call whose rows are all new -/
theorem vcE_callN {d : Tmp} {v : Value} {u up M' : Ups} {n' : Nat} (hd : o.dst = some d) (hg : o.guard = none) (hu : upsW pre Wr = u) (hM : putH u M = M') (h : iopC Γ D K (ev (dense N L)) (hp H M') n o.op = some ⟨v, up, n'⟩) (hc : isCall o.op = true)
    (hl : ∀ p ∈ u, p.1 < n) (hup : wAll (fun id => W id ∧ n ≤ id ∧ id < n') up) (hn : n ≤ n') (hq : quietW n0 pre (.all (u.map (·.1))) Wr)
    (hk : vcE Γ D K W ops (hp H M) n0 Q os pres (k + 1) (Wr ++ [(k, up)]) ((k, .all (u.map (·.1))) :: Vs) (dense N ((d, v) :: L)) n') : vcE Γ D K W ops (hp H M) n0 Q (o :: os) (pre :: pres) k Wr Vs (dense N L) n := by
  intro acc R
  subst hu
  subst hM
  unfold vcD
  rw [R.ups pre, upds_hp, h]
  simp only [wantedI, hg, wpo]
  have hv : visOf (ev (dense N L)) o.op (List.map (fun x => x.fst) (upsW pre Wr)) = .all ((upsW pre Wr).map (·.1)) := by simp only [visOf, hc, if_true]
  refine ⟨fun _ => ⟨fun p hm => ⟨(wAll_spec hup p hm).1, .inl (wAll_spec hup p hm).2.1, (wAll_spec hup p hm).2.2⟩, hn, ?_, ?_⟩, fun hb => by cases hb⟩
  · refine apart2_mk fun j y hy => ?_
    rw [hv]
    have a2 : ∀ p ∈ up, y.vis.clear n0 p.1 := fun p hm => R.fresh y (List.mem_of_getElem? hy) p.1 (wAll_spec hup p hm).2.1
    rcases R.wr j y hy with h1 | h1
    · right; exact ⟨a2, by rw [h1]; exact fun p hm => (by cases hm)⟩
    · rcases quietW_spec hq _ h1 with h2 | h2
      · left; simpa using h2
      · right; exact ⟨a2, h2⟩
  · have hh := hk (acc ++ [⟨up, .all ((upsW pre Wr).map (·.1))⟩]) (R.snoc _ _ _ hn (.inr rfl) (.inr (.inl rfl)) (fun id hid => by
      have := R.le
      refine ⟨by omega, ?_⟩
      intro hm
      obtain ⟨p, h1, h2⟩ := List.mem_map.1 hm
      have := hl p h1; omega))
    rw [hv]
    rw [tput_dense, hd]
    exact hh
end
end Go.Proofs.Ytdnnojblneccdaa
/-
  What a loop forgets of its memory.
-/
namespace Go.Proofs.Ytdnnojblneccdaa
set_option linter.unusedSimpArgs false
set_option linter.unusedVariables false
open Go
open Enc (enc)

theorem vi_len {e : Operand → Value} {x : Operand} {ts : Array TypeId} {news : List Nat} {a : Option Addr} {l c : Nat} (hx : e x = .slice a l c) : visOf e (.call ⟨.builtin .len, #[x], ts⟩) news = .ids [] := by
  have : seesIds e (.call ⟨.builtin .len, #[x], ts⟩) = [] := by simp [seesIds, lens, hx, mblk]
  simp only [visOf, isCall, this]; rfl
theorem le_vec {α : Type} [Enc α] {k j : Nat} (v : Vector α k) (h : Nat.ble j k = true) : j ≤ (encs v.toList).length := by rw [encs_vec_length]; exact Nat.le_of_ble_eq_true h
/-- what A holds, besides these, B holds -/
def leX (H : IHeap) (ks : List Nat) (A B : Ups) : Prop := ∀ id o, id ∉ ks → hp H A id = some o → hp H B id = some o
section
variable {H : IHeap} {ks : List Nat} {A B : Ups} {a n : Nat} {x y : Option IObj}
theorem leX_le (h : leX H [] A B) : (hp H A).le (hp H B) := fun id o e => h id o (by simp) e
theorem leX_refl : leX H ks A A := fun _ _ _ h => h
theorem leX_cons (hxy : x = y) (h : leX H (a :: ks) A B) : leX H ks ((a, x) :: A) ((a, y) :: B) := by
  subst hxy
  intro id o hk e
  by_cases ha : id = a
  · subst ha; rw [hp_eq] at e ⊢; exact e
  · rw [hp_ne _ _ _ ha] at e ⊢
    exact h id o (by simp [ha, hk]) e
/-- a new row is forgotten -/
theorem leX_new (ha : hp H A a = none) (h : leX H ks A B) : leX H ks A ((a, y) :: B) := by
  intro id o hk e
  by_cases hi : id = a
  · subst hi; rw [ha] at e; cases e
  · rw [hp_ne _ _ _ hi]; exact h id o hk e
/-- what was there earlier -/
theorem leX_old (ha : a ∈ ks) (h : leX H ks A B) : leX H ks A ((a, y) :: B) := by
  intro id o hk e
  have hi : id ≠ a := fun hi => hk (by rw [hi]; exact ha)
  rw [hp_ne _ _ _ hi]; exact h id o hk e
theorem leX_drop (ha : a ∈ ks) (h : leX H ks A B) : leX H ks ((a, x) :: A) B := by
  intro id o hk e
  have hi : id ≠ a := fun hi => hk (by rw [hi]; exact ha)
  rw [hp_ne _ _ _ hi] at e; exact h id o hk e
/-- what is as it was -/
theorem leX_same {o : IObj} (hB : hp H B a = some o) (hx : x = some o) (h : leX H (a :: ks) A B) : leX H ks ((a, x) :: A) B := by
  subst hx
  intro id o' hk e
  by_cases hi : id = a
  · subst hi; rw [hp_eq] at e; cases e; exact hB
  · rw [hp_ne _ _ _ hi] at e; exact h id o' (by simp [hi, hk]) e
/-- a row is forgotten -/
theorem leX_lose (h : leX H ks A B) (hH : H a = none) (hA : ∀ p ∈ A, p.1 ≠ a) : leX H ks A ((a, y) :: B) := by
  refine leX_new ?_ h
  clear h
  induction A with
  | nil => exact hH
  | cons p A ih =>
    obtain ⟨i, o⟩ := p
    rw [hp_ne _ _ _ (fun e => hA (i, o) List.mem_cons_self e.symm)]
    exact ih fun p hp => hA p (List.mem_cons_of_mem _ hp)
theorem free_hp (hf : ∀ id, n ≤ id → H id = none) (ha : n ≤ a) (hA : wAll (fun id => id ≠ a) A) : hp H A a = none := by
  induction A with
  | nil => exact hf a ha
  | cons p A ih =>
    obtain ⟨i, o⟩ := p
    rw [hp_ne _ _ _ (fun e => hA.1 e.symm)]
    exact ih hA.2
end
/-! results with several new rows -/
def gL (n : Nat) (ms : List Nat) (id : Nat) : Nat := if id < n then id else (ms[id - n]?).getD id
def upL : Nat → List (List Value) → Ups
  | _, [] => []
  | n, c :: cs => (n, some (.cells c false)) :: upL (n + 1) cs
def rowsAt (H : IHeap) (g : Nat → Nat) : List Nat → List (List Value) → Prop
  | [], [] => True
  | m :: ms, c :: cs => H m = some (.cells (c.map (ren1 g)) false) ∧ rowsAt H g ms cs
  | _, _ => False
theorem rowsAt_len {H : IHeap} {g : Nat → Nat} : ∀ {ms : List Nat} {cs : List (List Value)}, rowsAt H g ms cs → ms.length = cs.length
  | [], [], _ => rfl
  | m :: ms, c :: cs, h => by simp [rowsAt_len h.2]
theorem rowsAt_get {H : IHeap} {g : Nat → Nat} : ∀ {ms : List Nat} {cs : List (List Value)}, rowsAt H g ms cs → ∀ (i : Nat) c, cs[i]? = some c → ∃ m, ms[i]? = some m ∧ H m = some (.cells (c.map (ren1 g)) false)
  | [], [], _, i, c, h => by simp at h
  | m :: ms, c :: cs, h, i, c', hc => by
    cases i with
    | zero => simp at hc; subst hc; exact ⟨m, rfl, h.1⟩
    | succ i => simpa using rowsAt_get h.2 i c' (by simpa using hc)
theorem upL_ids : ∀ (cs : List (List Value)) (n id : Nat), id ∈ (upL n cs).map (·.1) ↔ n ≤ id ∧ id < n + cs.length
  | [], n, id => by simp [upL]
  | c :: cs, n, id => by
    simp only [upL, List.map_cons, List.mem_cons, upL_ids cs (n + 1) id, List.length_cons]
    omega
theorem upL_get {H : IHeap} : ∀ (cs : List (List Value)) (n id : Nat) (o : IObj), n ≤ id → id < n + cs.length → upds H (upL n cs) id = some o → ∃ c, cs[id - n]? = some c ∧ o = .cells c false := by
  intro cs
  induction cs generalizing H with
  | nil => intro n id o h1 h2; simp at h2; omega
  | cons c cs ih =>
    intro n id o h1 h2 h
    simp only [upL, upds] at h
    by_cases e : id = n
    · subst e
      have hnot : id ∉ (upL (id + 1) cs).map (·.1) := by rw [upL_ids]; omega
      rw [upds_not_mem hnot] at h
      simp only [upd, if_true, Option.some.injEq] at h
      exact ⟨c, by simp, h.symm⟩
    · obtain ⟨c', h3, h4⟩ := ih (n + 1) id o (by omega) (by simp only [List.length_cons] at h2; omega) h
      refine ⟨c', ?_, h4⟩
      have : id - n = id - (n + 1) + 1 := by omega
      rw [this]; simpa using h3
def allL (p : Nat → Prop) : List Nat → Prop
  | [] => True
  | x :: l => p x ∧ allL p l
theorem allL_spec {p : Nat → Prop} : ∀ {l : List Nat}, allL p l → ∀ x ∈ l, p x
  | y :: l, h, x, hx => by
    cases hx with
    | head => exact h.1
    | tail _ hx => exact allL_spec h.2 x hx
theorem RetP.news {D : Ty} {rs : List ResultVar} {n n'' n1 : Nat} {H H' : IHeap} {ex : Exit} {t : List Value} {v v' : Value} (ms : List Nat) {cs : List (List Value)} {up : Ups} (hx : ex = .normal ∨ ex = .ret) (hr : ires D t H' rs = some v') (hv : v' = ren (gL n ms) v) (hup : up = upL n cs) (hn1 : n1 = n + cs.length)
    (hm : allL (fun m => n ≤ m) ms) (hnd : ms.Nodup) (hH : rowsAt H' (gL n ms) ms cs) (hc : ∀ c ∈ cs, ∀ x ∈ c, okN1 (fun id => id < n + cs.length) x) (hok : okN (fun id => id < n + cs.length) v) : RetP D rs n H ⟨v, up, n1⟩ ex t H' n'' := by
  subst hv; subst hup; subst hn1
  have hlen := rowsAt_len hH
  have hm' : ∀ m ∈ ms, n ≤ m := allL_spec hm
  have hids : ∀ id, id ∈ (⟨v, upL n cs, n + cs.length⟩ : Eff).ids ↔ n ≤ id ∧ id < n + cs.length := fun id => upL_ids cs n id
  have hg : ∀ id, n ≤ id → id < n + cs.length → ∃ m, ms[id - n]? = some m ∧ gL n ms id = m := by
    intro id h1 h2
    have h3 : id - n < ms.length := by omega
    refine ⟨ms[id - n], by simp [h3], ?_⟩
    unfold gL
    rw [if_neg (by omega)]; simp [h3]
  refine ⟨hx, ?_⟩
  rw [hr]
  have hpp : ∀ id, (id < n + cs.length) → (id < n ∨ id ∈ (⟨v, upL n cs, n + cs.length⟩ : Eff).ids) := fun id h => by
    rw [hids]; omega
  refine ⟨gL n ms, fun id hid => if_pos hid, rfl, okN_mono hpp hok, ?_, ?_, ?_, ?_, Nat.le_add_right _ _⟩
  · intro id hid o ho
    obtain ⟨h1, h2⟩ := (hids id).1 hid
    obtain ⟨c, h3, rfl⟩ := upL_get cs n id o h1 h2 ho
    obtain ⟨m, h4, h5⟩ := rowsAt_get hH _ c h3
    obtain ⟨m', h6, h7⟩ := hg id h1 h2
    rw [h4] at h6; cases h6
    refine ⟨by rw [h7, h5]; rfl, ?_⟩
    simp only [okO]
    intro x hx
    exact okN1_mono hpp (hc c (List.mem_of_getElem? h3) x hx)
  · intro id hid _
    obtain ⟨h1, h2⟩ := (hids id).1 hid
    obtain ⟨m', h6, h7⟩ := hg id h1 h2
    rw [h7]; exact hm' m' (List.mem_of_getElem? h6)
  · intro i hi j hj e
    obtain ⟨h1, h2⟩ := (hids i).1 hi
    obtain ⟨h3, h4⟩ := (hids j).1 hj
    obtain ⟨a, ha, ha'⟩ := hg i h1 h2
    obtain ⟨b, hb, hb'⟩ := hg j h3 h4
    rw [ha', hb'] at e
    subst e
    have ia : i - n < ms.length := by omega
    have ib : j - n < ms.length := by omega
    have ea : ms[i - n] = a := by simpa [ia] using ha
    have eb : ms[j - n] = a := by simpa [ib] using hb
    have hpw := List.pairwise_iff_getElem.1 hnd
    rcases Nat.lt_trichotomy (i - n) (j - n) with h | h | h
    · exact absurd (ea.trans eb.symm) (hpw _ _ ia ib h)
    · omega
    · exact absurd (eb.trans ea.symm) (hpw _ _ ib ia h)
  · intro id hid
    obtain ⟨h1, h2⟩ := (hids id).1 hid
    exact ⟨.inl h1, h2⟩
theorem gL_lt {n : Nat} {ms : List Nat} {id : Nat} (h : id < n) : gL n ms id = id := if_pos h
theorem gL_at {n : Nat} {ms : List Nat} {id m : Nat} (h : n ≤ id) (hm : ms[id - n]? = some m) : gL n ms id = m := by
  unfold gL; rw [if_neg (by omega), hm]; rfl
theorem plain_okN1 {p : Nat → Prop} {c : List Value} (h : c.all plain = true) : ∀ x ∈ c, okN1 p x := fun x hx => plain_ok (List.all_eq_true.1 h x hx)
/-! what was there stays -/
theorem hp_keep {H : IHeap} {n id : Nat} {o : IObj} {M : Ups} (hf : ∀ id, n ≤ id → H id = none) (h : H id = some o) (hM : wAll (fun m => n ≤ m) M) : hp H M id = some o := by
  induction M with
  | nil => exact h
  | cons p M ih =>
    obtain ⟨i, x⟩ := p
    rw [hp_ne]
    · exact ih hM.2
    · intro e
      subst e
      rw [hf _ hM.1] at h; cases h
theorem rdC_keep {α : Type} [Row α] {H : IHeap} {n : Nat} {M : Ups} {x : Value} {l : List α} (hf : ∀ id, n ≤ id → H id = none) (h : rdC H x = some l) (hM : wAll (fun m => n ≤ m) M) : rdC (hp H M) x = some l := by
  obtain ⟨a, cap, rfl⟩ := rdC_len h
  rcases rdC_inv h with ⟨rfl, h2, rfl, rfl⟩ | ⟨id, off, sp, c, ro, rfl, hc, hle, hl, _⟩
  · rfl
  · exact rdC_mk (hp_keep hf hc hM) hle hl rfl
theorem ires_cell {D : Ty} {N u ty id off : Nat} {L : List (Nat × Value)} {H : IHeap} {d : TD} {c : List Value} {ro : Bool} {v : Value} (h : opd N L (.tmp u) = some (.pointer (some ⟨id, off, none⟩))) (hd : D ty = some d) (hH : H id = some (.cells c ro)) (hv : rdVar d c off = some v) : ires D (dense N L) H [.cell u ty] = some v := by
  have h1 : (dense N L).getD u (.tuple #[]) = .pointer (some ⟨id, off, none⟩) := pl h
  simp only [ires, ires1, h1, hd, hH, Option.bind_some, hv]
/-- a slice's header with other numbers -/
def renSl (g : Nat → Nat) (s : Sl) : Sl := ⟨s.a.map fun a => { a with block := g a.block }, s.len, s.cap⟩
def okSl (p : Nat → Prop) (s : Sl) : Prop := ∀ a, s.a = some a → p a.block
theorem ren_sl (g : Nat → Nat) (s : Sl) : ren1 g (enc s) = enc (renSl g s) := by
  obtain ⟨a, l, c⟩ := s
  cases a <;> rfl
theorem ok_sl {p : Nat → Prop} {s : Sl} (h : okSl p s) : okN1 p (enc s) := by
  obtain ⟨a, l, c⟩ := s
  cases a with
  | none => trivial
  | some a => exact h a rfl
/-- where a fresh slice of k things lies -/
def spV (sz k : Nat) : Option Nat := if k = 0 then none else some sz
def slF (n sz k : Nat) : Sl := ⟨some ⟨n, 0, spV sz k⟩, k, k⟩
end Go.Proofs.Ytdnnojblneccdaa
/-
  A slice of open capacity is given the capacity that it has; an assignment under a condition.
-/
namespace Go.Proofs.Ytdnnojblneccdaa
set_option linter.unusedSimpArgs false
set_option linter.unusedVariables false
open Go
open Enc (enc)
open Row (cel)

section
variable {P : Program} {Γ : Fns} {D : Ty} {K : Kinds} {W : Nat → Prop} {R : Option Nat} {N : Nat} {L : List (Nat × Value)} {H : IHeap} {M : Ups} {n : Nat}
theorem dense_self {k : Nat} {v : Value} (h : opd N L (.tmp k) = some v) : dense N ((k, v) :: L) = dense N L := by
  have hk := opd_tmp h
  rw [dense_get] at hk
  apply List.ext_getElem?
  intro i
  rw [dense_get, dense_get]
  by_cases hi : i = k
  · subst hi
    split
    · rename_i hl
      rw [if_pos hl] at hk
      rw [List.lookup_cons_self]
      simpa using hk.symm
    · rfl
  · have : List.lookup i ((k, v) :: L) = List.lookup i L := by
      rw [List.lookup_cons]
      have : (i == k) = false := by simpa using hi
      rw [this]
    rw [this]
/-- an assignment under a condition -/
theorem IW.condA {c x : Operand} {cs : List Code} {Q : PostX} {b : Bool} {k id ty : Nat} {v0 v1 w : Value} {pos : String} {aft : Array Edge} (hE : Env P Γ D K) (hc : opd N L c = some (.bool b)) (h0 : opd N L (.tmp k) = some v0) (h1 : opd N L x = some v1) (hw1 : b = true → w = v1) (hw0 : b = false → w = v0)
    (h : IW P W R cs Q (dense N ((k, w) :: L)) (hp H M) n) : IW P W R (.cond c (.region id #[{ dst := some k, op := .assign x, type := ty, pos := pos, after := aft, guard := none }] false) .skip :: cs) Q (dense N L) (hp H M) n := by
  refine IW.cond hc (fun hb => ?_) (fun hb => ?_)
  · refine IW.reg hE (ops := [_]) ?_
    refine vcS_val rfl rfl (ox_assign (pl h1)) ?_
    refine vcS_nil ?_
    rw [← hw1 hb]; exact h
  · refine IW.skip ?_
    rw [hw0 hb, dense_self h0] at h; exact h
theorem IW.close {cs : List Code} {Q : PostX} {id off len cap : Nat} {sp : Option Nat} (u : Nat) (hne : cs ≠ []) (hu : opd N L (.tmp u) = some (.slice (some ⟨id, off, sp⟩) len cap))
    (h : ∀ cap', cap ≤ cap' → IW P W R cs Q (dense N ((u, .slice (some ⟨id, off, none⟩) len cap') :: L)) (hp H M) n) : IW P W R cs Q (dense N L) (hp H M) n := by
  cases cs with
  | nil => exact (hne rfl).elim
  | cons c cs =>
    intro ρ0 w0 m0 ρ a w hs
    obtain ⟨y, hy, hv⟩ := hs.tr.val u _ (opd_tmp hu)
    have main : ∃ cap', cap ≤ cap' ∧ VR ρ (.slice (some ⟨id, off, none⟩) len cap') y := by
      cases hv with
      | slice off len cap h => exact ⟨cap, Nat.le_refl _, .slice _ _ _ h⟩
      | oslice h hc hl hk => exact ⟨_, hc, .slice _ _ _ h⟩
    obtain ⟨cap', hc, hv'⟩ := main
    refine h cap' hc ρ0 w0 m0 ρ a w { hs with tr := ⟨?_, ?_⟩ }
    · rw [hs.tr.size, dense_length, dense_length]
    · intro i x hx
      by_cases hi : i = u
      · subst hi
        rw [dense_get] at hx
        split at hx
        · rw [List.lookup_cons_self] at hx
          cases hx
          exact ⟨y, hy, hv'⟩
        · cases hx
      · refine hs.tr.val i x ?_
        rw [dense_get] at hx ⊢
        rw [List.lookup_cons] at hx
        have : (i == u) = false := by simpa using hi
        rw [this] at hx; exact hx
/-! lists -/
theorem rdC_one {α : Type} [Row α] {id cap : Nat} {sp : Option Nat} {ro : Bool} {x : α} (hH : H id = some (.cells (cel x) ro)) : rdC H (.slice (some ⟨id, 0, sp⟩) 1 cap) = some [x] := by
  refine rdC_all (ro := ro) ?_ rfl
  rw [hH, cels_cons, cels_nil, List.append_nil]
theorem rdC_u8 {id len cap : Nat} {sp : Option Nat} {ro : Bool} {l : List UInt8} (hH : H id = some (.cells (encs l) ro)) (hl : l.length = len) : rdC H (.slice (some ⟨id, 0, sp⟩) len cap) = some l := by
  refine rdC_all (ro := ro) ?_ hl
  rw [hH, cels_u8]
theorem rd_cellD {α : Type} [Row α] {d : TD} {c : List Value} {off i j : Nat} {l : List α} {z : α} (hl : (c.drop off).take (l.length * Row.sz α) = cels l) (h : i < l.length) (hk : d.k.isAgg = true) (hs : d.size = Row.sz α) (hj : j = off + i * Row.sz α) (he : enc (l.getD i z) = .agg (cel (l.getD i z)).toArray) : rdVar d c j = some (enc (l.getD i z)) := by
  obtain ⟨A, C, hc, hA⟩ := cels_at hl h
  have e : l.getD i z = l[i] := by simp [h]
  rw [e] at he ⊢
  rw [he]
  exact rd_part hk hc (by rw [hA, hj]) (by rw [hs]; exact Row.len _)
theorem si_conv {e : Operand → Value} {s t : TypeId} {x : Operand} {id off len cap : Nat} {sp : Option Nat} (ha : e x = .slice (some ⟨id, off, sp⟩) len cap) : seesIds e (.convert s t x) = [id] := by simp only [seesIds, ha, blk]
end
end Go.Proofs.Ytdnnojblneccdaa
/-
  A world as ideal memory: every block under its own number; arguments that lead into it.
-/
namespace Go.Proofs.Ytdnnojblneccdaa
set_option linter.unusedSimpArgs false
set_option linter.unusedVariables false
open Go
open Enc (enc)
open Row (cel)

def ρW (W : World) : Ren := fun id => match W.heap[id]? with
  | some (.cells c _ _) => some (id, c.size)
  | _ => none
/-- what of a cell is known -/
def conv (W : World) (v : Value) : Value := match v with
  | .slice (some ⟨r, _, none⟩) _ _ => if (ρW W r).isSome then v else .tuple #[]
  | .pointer (some ⟨r, _, none⟩) => if (ρW W r).isSome then v else .tuple #[]
  | v => if clo1 v then v else .tuple #[]
def HW (W : World) : IHeap := fun id => match W.heap[id]? with
  | some (.cells c _ _) => some (.cells (c.toList.map (conv W)) true)
  | _ => none
theorem conv_vr (W : World) (v : Value) : VR (ρW W) (conv W v) v := by
  unfold conv
  split
  · rename_i r off l c
    split
    · rename_i h
      obtain ⟨x, hx⟩ := Option.isSome_iff_exists.1 h
      have : x = (r, x.2) := by
        unfold ρW at hx; split at hx <;> cases hx; rfl
      rw [this] at hx
      exact .slice _ _ _ hx
    · exact .unk _
  · rename_i r off
    split
    · rename_i h
      obtain ⟨x, hx⟩ := Option.isSome_iff_exists.1 h
      have : x = (r, x.2) := by
        unfold ρW at hx; split at hx <;> cases hx; rfl
      rw [this] at hx
      exact .ptr _ hx
    · exact .unk _
  · split
    · rename_i h; exact VR.clo1 _ h
    · exact .unk _
theorem ρW_below (W : World) : Below W.heap.size (ρW W) := fun id h => by
  unfold ρW
  rw [Array.getElem?_eq_none h]
theorem HW_hr (W : World) : HR (ρW W) (HW W) W := by
  refine ⟨fun id o h => ?_, fun i j o p r κ κ' _ _ h1 h2 => ?_⟩
  · unfold HW at h
    split at h
    · rename_i c T fz hc
      cases h
      refine ⟨id, c.size, by simp only [ρW, hc], c, T, fz, hc, rfl, by simp, (fun h => by cases h), fun i v hv => ?_⟩
      rw [List.getElem?_map, Option.map_eq_some_iff] at hv
      obtain ⟨v', h1, rfl⟩ := hv
      exact ⟨v', by simpa using h1, conv_vr W v'⟩
    · cases h
  · unfold ρW at h1 h2
    split at h1 <;> cases h1
    split at h2 <;> cases h2
    rfl

section
variable {P : Program} {W : World}
theorem rowAt_le {fits : TypeId → Bool} : ∀ {d : Nat} {e : TypeId} {count off n : Nat}, Go.rowAt P fits d e count off n = true → off ≤ count * P.cellsOf e
  | 0, _, _, _, _, h => by simp [Go.rowAt] at h
  | d + 1, e, count, off, n, h => by
    simp only [Go.rowAt] at h
    by_cases hs : P.cellsOf e = 0
    · rw [if_pos hs] at h; cases h
    · rw [if_neg hs] at h
      simp only [Bool.or_eq_true, Bool.and_eq_true, beq_iff_eq, decide_eq_true_iff] at h
      have hdm := Nat.div_add_mod off (P.cellsOf e)
      rcases h with ⟨⟨h1, h2⟩, _⟩ | ⟨h1, _⟩
      · rw [h1, Nat.add_zero] at hdm
        rw [← hdm, Nat.mul_comm]
        exact Nat.mul_le_mul_right _ (by omega)
      · have h3 := Nat.mod_lt off (Nat.pos_of_ne_zero hs)
        have h4 : (off / P.cellsOf e + 1) * P.cellsOf e ≤ count * P.cellsOf e := Nat.mul_le_mul_right _ h1
        rw [Nat.add_mul, Nat.one_mul, Nat.mul_comm] at h4
        omega
theorem liesAt_le : ∀ {d : Nat} {e : TypeId} {count off u n : Nat}, Go.liesAt P d e count off u n = true → off ≤ count * P.cellsOf e
  | 0, _, _, _, _, _, h => by simp [Go.liesAt] at h
  | d + 1, e, count, off, u, n, h => by
    unfold Go.liesAt at h
    rw [Bool.or_eq_true] at h
    rcases h with h | h
    · exact rowAt_le h
    · split at h
      · exact liesAt_le h
      · cases h
/-- a slice's header: where it lies -/
def SlOk (W : World) (s : Sl) : Prop := (s.a = none ∧ s.len = 0 ∧ s.cap = 0) ∨ ∃ r off c T fz, s.a = some ⟨r, off, none⟩ ∧ W.heap[r]? = some (.cells c T fz) ∧ off ≤ c.size
theorem slOk_of {base : Nat} {t e : TypeId} {v : Value} (ht : P.underlying t = some (.slice e)) (h : Cell.okWide P W .any base t v) : ∃ s : Sl, v = enc s ∧ SlOk W s := by
  cases v <;> simp only [Cell.okWide, ht, Cell.ok] at h
  rename_i a len cap
  cases a with
  | none =>
    cases len with
    | zero => cases cap with
      | zero => exact ⟨⟨none, 0, 0⟩, rfl, .inl ⟨rfl, rfl, rfl⟩⟩
      | succ c => exact False.elim h
    | succ l => exact False.elim h
  | some a =>
    simp only at h
    obtain ⟨_, _, _, h1, row, cells, h2, h3⟩ := h
    obtain ⟨r, off, sp⟩ := a
    simp only at h1; subst h1
    unfold World.shape? at h2
    split at h2
    · rename_i c T fz hc
      cases h2
      refine ⟨⟨some ⟨r, off, none⟩, len, cap⟩, rfl, .inr ⟨r, off, c, _, fz, rfl, hc, ?_⟩⟩
      exact Nat.le_trans (liesAt_le h3) (Nat.div_mul_le_self _ _)
    · cases h2
theorem fits_sl {base : Nat} {t e : TypeId} {c : List Value} (ht : P.underlying t = some (.slice e)) (h : Fits P W base c [t]) : ∃ s : Sl, c = [enc s] ∧ SlOk W s := by
  obtain ⟨h1, h2⟩ := h
  obtain ⟨x, rfl⟩ := List.length_eq_one_iff.1 h1
  obtain ⟨u, e1, e2⟩ := h2 0 x rfl
  cases e1
  obtain ⟨s, rfl, hs⟩ := slOk_of ht e2
  exact ⟨s, rfl, hs⟩
theorem slOk_vr {s : Sl} (h : SlOk W s) : VR (ρW W) (enc s) (enc s) := by
  obtain ⟨a, len, cap⟩ := s
  rcases h with ⟨h1, h2, h3⟩ | ⟨r, off, c, T, fz, h1, h2, h3⟩
  · simp only at h1 h2 h3; subst h1; subst h2; subst h3; exact .nilSlice
  · simp only at h1; subst h1
    exact .slice (κ := c.size) _ _ _ (by simp only [ρW, h2])

variable {H : Type} {en : TypeId × Value → H} {spare : Nat → Bool} {held : Bool}
/-- the cells of such an element are those of a member of that Lean type, and known -/
def ElemOk (H : Type) (P : Program) (W : World) (e : TypeId) (α : Type) [Row α] : Prop :=
  P.cellsOf e = Row.sz α ∧ ∀ (en : TypeId × Value → H) (spare : Nat → Bool) (held : Bool) (fuel : Nat) (cs : List Value) x, DataW.trod en P W 0 spare held fuel e cs = some x → ∃ a : α, cs = cel a ∧ cs.map (conv W) = cs
theorem trod_int_inv {base fuel : Nat} {t : TypeId} {k : IntKind} {cs : List Value} {x : DataW H × List MemPlace} (ht : P.underlying t = some (.int k)) (h : DataW.trod en P W base spare held fuel t cs = some x) : ∃ n, cs = [.int k n] ∧ k.min ≤ n ∧ n ≤ k.max := by
  obtain ⟨n, h1, _, h2⟩ := DataW.trod_int ht h
  simp only [Lit.wf, Bool.and_eq_true, decide_eq_true_iff] at h2
  exact ⟨n, h1, h2⟩
theorem elemOk_u8 {t : TypeId} (ht : P.underlying t = some (.int .u8)) (hc : P.cellsOf t = 1) : ElemOk H P W t UInt8 := by
  refine ⟨hc, fun en spare held fuel cs x h => ?_⟩
  obtain ⟨n, rfl, h1, h2⟩ := trod_int_inv ht h
  have h1 : 0 ≤ n := h1
  have h2 : n ≤ 255 := h2
  refine ⟨UInt8.ofNat n.toNat, ?_, rfl⟩
  have : (UInt8.ofNat n.toNat).toNat = n.toNat := UInt8.toNat_ofNat_of_lt' (by simp [UInt8.size]; omega)
  show [Value.int .u8 n] = [Value.int .u8 ((UInt8.ofNat n.toNat).toNat : Int)]
  rw [this, Int.toNat_of_nonneg h1]
/-- lists, taken apart in pieces of one size -/
theorem chunks {α : Type} [Row α] : ∀ (k : Nat) (cs : List Value), cs.length = k * Row.sz α → (∀ i, i < k → ∃ a : α, (cs.drop (i * Row.sz α)).take (Row.sz α) = cel a) → ∃ l : List α, l.length = k ∧ cs = cels l
  | 0, cs, h, _ => ⟨[], rfl, by
    have : cs = [] := List.length_eq_zero_iff.1 (by omega)
    rw [this]; rfl⟩
  | k + 1, cs, h, hk => by
    obtain ⟨a, ha⟩ := hk 0 (by omega)
    rw [Nat.zero_mul, List.drop_zero] at ha
    obtain ⟨l, hl, hc⟩ := chunks (α := α) k (cs.drop (Row.sz α)) (by rw [List.length_drop, h, Nat.add_mul, Nat.one_mul, Nat.add_sub_cancel]) (fun i hi => by
      obtain ⟨a, ha⟩ := hk (i + 1) (by omega)
      refine ⟨a, ?_⟩
      rw [List.drop_drop]
      rw [Nat.add_mul, Nat.one_mul, Nat.add_comm] at ha
      exact ha)
    refine ⟨a :: l, by simp [hl], ?_⟩
    rw [cels_cons, ← ha, ← hc, List.take_append_drop]
theorem chunks_map {f : Value → Value} {sz : Nat} : ∀ (k : Nat) (cs : List Value), cs.length = k * sz → (∀ i, i < k → ((cs.drop (i * sz)).take sz).map f = (cs.drop (i * sz)).take sz) → cs.map f = cs
  | 0, cs, h, _ => by
    have : cs = [] := List.length_eq_zero_iff.1 (by omega)
    rw [this]; rfl
  | k + 1, cs, h, hk => by
    have h0 := hk 0 (by omega)
    rw [Nat.zero_mul, List.drop_zero] at h0
    have h1 := chunks_map (f := f) (sz := sz) k (cs.drop sz) (by rw [List.length_drop, h, Nat.add_mul, Nat.one_mul, Nat.add_sub_cancel]) (fun i hi => by
      have := hk (i + 1) (by omega)
      rw [Nat.add_mul, Nat.one_mul, Nat.add_comm] at this
      rw [List.drop_drop]; exact this)
    conv => lhs; rw [← List.take_append_drop sz cs]
    rw [List.map_append, h0, h1, List.take_append_drop]
theorem elemOk_arr {t e k : Nat} [NeZero k] (ht : P.underlying t = some (.array k e)) (hc : P.cellsOf t = k) (he : ElemOk H P W e UInt8) : ElemOk H P W t (Vector UInt8 k) := by
  refine ⟨hc, fun en spare held fuel cs x h => ?_⟩
  obtain ⟨xs, m, _, _, h1, h2, h3⟩ := DataW.trod_array ht h
  obtain ⟨he1, he2⟩ := he
  have hs : Row.sz UInt8 = 1 := rfl
  rw [hs] at he1
  have h4 : ∀ i, i < k → ∃ a : UInt8, (cs.drop (i * 1)).take 1 = cel a ∧ ((cs.drop (i * 1)).take 1).map (conv W) = (cs.drop (i * 1)).take 1 := by
    intro i hi
    have h5 := h3 i hi
    rw [he1, List.getElem?_eq_getElem (by omega)] at h5
    exact he2 en spare held m _ _ h5
  rw [hc] at h1
  obtain ⟨l, hl, hcs⟩ := chunks (α := UInt8) k cs (by rw [h1]; exact (Nat.mul_one k).symm) (fun i hi => let ⟨a, h, _⟩ := h4 i hi; ⟨a, h⟩)
  refine ⟨⟨l.toArray, by simp [hl]⟩, ?_, chunks_map (sz := 1) k cs (by omega) (fun i hi => let ⟨_, _, h⟩ := h4 i hi; h)⟩
  rw [hcs, cels_u8]
  show encs l = encs (Vector.toList _)
  simp
theorem drop_take_map (f : Value → Value) (c : List Value) (a b : Nat) : ((c.map f).drop a).take b = ((c.drop a).take b).map f := by
  rw [List.map_take, List.map_drop]
/-- a slice that leads into the world, as a list -/
theorem rdC_world {α : Type} [Row α] {t e fuel : Nat} {s : Sl} {x : DataW H × List MemPlace} (ht : P.underlying t = some (.slice e)) (he : ElemOk H P W e α) (hs : SlOk W s) (h : DataW.trod en P W 0 spare held fuel t [enc s] = some x) : ∃ l : List α, rdC (HW W) (enc s) = some l := by
  rcases DataW.trod_slice ht h with ⟨h1, _⟩ | ⟨a, len, cap, elems, rest, m, _, h1, _, _, h2, h3, h4, h5, _, _⟩
  · simp only [List.cons.injEq, and_true] at h1
    rw [h1]; exact ⟨[], rfl⟩
  · simp only [List.cons.injEq, and_true] at h1
    rw [h1]
    obtain ⟨he1, he2⟩ := he
    obtain ⟨sa, sl, sc⟩ := s
    have h1 : Value.slice sa sl sc = .slice (some a) len cap := h1
    cases h1
    rcases hs with ⟨h6, _, _⟩ | ⟨r, off, c, T, fz, h6, h7, h8⟩
    · cases h6
    cases h6
    have hH : HW W r = some (.cells (c.toList.map (conv W)) true) := by simp only [HW, h7]
    have h9 : ∀ i, i < len → ∃ cs, cs.length = Row.sz α ∧ (∀ j, j < Row.sz α → c.toList[off + i * Row.sz α + j]? = cs[j]?) ∧ ∃ a : α, cs = cel a ∧ cs.map (conv W) = cs := by
      intro i hi
      have h10 := h5 i hi
      rw [he1, List.getElem?_eq_getElem (by omega), Option.bind_eq_some_iff] at h10
      obtain ⟨cs, h11, h12⟩ := h10
      obtain ⟨_, h13, h14⟩ := World.cells?_some h11
      refine ⟨cs, h13, fun j hj => ?_, he2 en spare held m cs _ h12⟩
      rw [← h14 j hj]
      have hadd : ∀ (o k : Nat), Addr.add ⟨r, o, none⟩ k = ⟨r, o + k, none⟩ := by
        intro o k; unfold Addr.add; split
        · rename_i h0; rw [h0]; rfl
        · rfl
      rw [hadd, hadd]
      simp [World.cell?, h7]
    have hsz := Row.pos (α := α)
    have hlen : off + len * Row.sz α ≤ c.toList.length := by
      by_cases h0 : len = 0
      · subst h0; simpa using h8
      · obtain ⟨cs, g1, g2, _⟩ := h9 (len - 1) (by omega)
        have g3 := g2 (Row.sz α - 1) (by omega)
        have g4 : cs[Row.sz α - 1]? = some (cs[Row.sz α - 1]'(by omega)) := List.getElem?_eq_getElem _
        rw [g4] at g3
        have g5 := (List.getElem?_eq_some_iff.1 g3).1
        have g6 : (len - 1) * Row.sz α + Row.sz α = len * Row.sz α := by
          rw [← Nat.succ_mul]; congr 1; omega
        omega
    have hseg : ((c.toList.drop off).take (len * Row.sz α)).length = len * Row.sz α := by
      rw [List.length_take, List.length_drop]; omega
    have hpiece : ∀ i, i < len → ∃ cs, (((c.toList.drop off).take (len * Row.sz α)).drop (i * Row.sz α)).take (Row.sz α) = cs ∧ ∃ a : α, cs = cel a ∧ cs.map (conv W) = cs := by
      intro i hi
      obtain ⟨cs, g1, g2, g3⟩ := h9 i hi
      refine ⟨cs, ?_, g3⟩
      have g6 : i * Row.sz α + Row.sz α ≤ len * Row.sz α := by
        rw [← Nat.succ_mul]; exact Nat.mul_le_mul_right _ hi
      apply List.ext_getElem?
      intro j
      by_cases hj : j < Row.sz α
      · rw [List.getElem?_take, if_pos hj, List.getElem?_drop, List.getElem?_take, if_pos (by omega), List.getElem?_drop, ← g2 j hj]
        congr 1; omega
      · rw [List.getElem?_take, if_neg hj, List.getElem?_eq_none (by omega)]
    obtain ⟨l, hl, hcs⟩ := chunks (α := α) len _ hseg (fun i hi => let ⟨cs, g, a, ga, _⟩ := hpiece i hi; ⟨a, g.trans ga⟩)
    have hfix : ((c.toList.drop off).take (len * Row.sz α)).map (conv W) = (c.toList.drop off).take (len * Row.sz α) :=
      chunks_map (sz := Row.sz α) len _ hseg (fun i hi => let ⟨cs, g, a, _, gm⟩ := hpiece i hi; by rw [g]; exact gm)
    refine ⟨l, rdC_mk hH (by rw [hl]; simpa using hlen) ?_ hl⟩
    rw [drop_take_map, hl, hfix, hcs]
end
end Go.Proofs.Ytdnnojblneccdaa
/-
  Loops over functions.
-/
namespace Go.Proofs.Ytdnnojblneccdaa
set_option linter.unusedSimpArgs false
set_option linter.unusedVariables false
open Go
open Enc (enc)
open Row (cel)

theorem FW_room {R : Option Nat} {k : Nat} : (FW R).room k := fun d hd => by cases hd
/-- the bound does not matter -/
theorem wpIn_any {R : Option Nat} {n m : Nat} {P : Program} {c : Code} {Q : Exit → Act → World → Prop} {a : Act} {w : World} (h : c.wpIn (FW R) n P Q a w) : c.wpIn (FW R) m P Q a w :=
  fun b k cs h1 h2 _ => h b k cs h1 h2 FW_room

theorem wpOps_one {F : Fence} {n : Nat} {P : Program} {o : Oper} {Q : Exit → Act → World → Prop} {a : Act} {w : World} (hg : o.guard = none) (h : o.wpIn F n P a w (fun a w => Q .normal a w) Q) : wpOpsIn F n P #[o] Q (List.range 1) a w := by
  show wpOpsIn F n P #[o] Q [0] a w
  unfold wpOpsIn
  show (if Region.wanted o _ = true then _ else _)
  rw [if_pos (by unfold Region.wanted; rw [hg])]
  exact h
/-- nothing of cells was written; new blocks, and one that is no cells -/
theorem St.grown {W : Nat → Prop} {ρ0 ρ : Ren} {w0 w w' : World} {m0 n B : Nat} {t : List Value} {H : IHeap} {a : Act} {row : Option Nat} (hs : St W ρ0 w0 m0 t H n ρ a w) (hg : w.grownBy w' row)
    (hrow : ∀ r, row = some r → B ≤ r ∧ ∃ o : Obj, w.heap[r]? = some o ∧ o.isCells = false) (hB : w0.heap.size ≤ B) (hD : ∀ d ∈ a.defers, ∀ D, d = mark D → D < B) (hcl : ∀ id o, H id = some o → ∃ c ro, o = .cells c ro) : St W ρ0 w0 m0 t H n ρ a w' := by
  have hsame : ∀ k, k < w.heap.size → (k < B ∨ ∃ o : Obj, w.heap[k]? = some o ∧ o.isCells = true) → w'.heap[k]? = w.heap[k]? := by
    intro k hk h
    refine hg.block k hk fun e => ?_
    obtain ⟨h1, o, h2, h3⟩ := hrow k e.symm
    rcases h with h | ⟨o', h4, h5⟩
    · omega
    · rw [h2] at h4; cases h4; rw [h3] at h5; cases h5
  refine ⟨hs.tr, hs.below, ⟨fun id o ho => ?_, hs.heap.inj⟩, ⟨hs.step.le, hs.step.new, Nat.le_trans hs.step.size hg.size, fun r hr hn => ?_, hg.os.trans hs.step.os, hg.tape.trans hs.step.tape, hg.output.trans hs.step.output, fun k o hk ho => ?_⟩, hs.le, hs.fresh, ?_⟩
  · obtain ⟨r, κ, h1, h2⟩ := hs.heap.obj id o ho
    refine ⟨r, κ, h1, ?_⟩
    obtain ⟨c, ro, rfl⟩ := hcl id o ho
    have h2' := h2
    obtain ⟨c', T, fz, h3, _⟩ := h2'
    rw [hsame r (Array.getElem?_eq_some_iff.1 h3).1 (.inr ⟨_, h3, rfl⟩)]
    exact h2
  · have hr' : r < w.heap.size := Nat.lt_of_lt_of_le hr hs.step.size
    rw [hsame r hr' (.inl (by omega))]
    exact hs.step.keep r hr hn
  · have h1 := hs.step.others k o hk ho
    have hk0 := (Array.getElem?_eq_some_iff.1 hk).1
    rw [hsame k (Array.getElem?_eq_some_iff.1 h1).1 (.inl (by omega))]
    exact h1
  · obtain ⟨ds, h1, h2, h3⟩ := hs.coll
    refine ⟨ds, h1, h2, fun D hDm => ?_⟩
    obtain ⟨h4, h5⟩ := h3 D hDm
    refine ⟨h4, ?_⟩
    rw [hsame D (Array.getElem?_eq_some_iff.1 h5).1 (.inl (hD (mark D) (by rw [h1]; exact List.mem_map.2 ⟨D, hDm, rfl⟩) D rfl))]
    exact h5

/-- these blocks lie as they lay -/
def KeepIds (ρ : Ren) (ks : List Nat) (W W' : World) : Prop := ∀ id ∈ ks, ∀ r κ, ρ id = some (r, κ) → W'.heap[r]? = W.heap[r]?

section
variable {P : Program} {Γ : Fns} {D : Ty} {K : Kinds} {W : Nat → Prop} {N : Nat} {L : List (Nat × Value)} {H : IHeap} {M : Ups} {n : Nat}
/-- what an iterator does: it hands on these pieces, one after another, and keeps to what it was given -/
def Gives (P : Program) (gf : Nat) (caps : Array Value) (k : Nat) (piece : Fin k → Value) (ks : List Nat) (H : IHeap) (n : Nat) : Prop :=
  ∀ (w : World) (ρ : Ren) (lb : Array Value), Below n ρ → HR ρ H w → lb.size = caps.size → (∀ (i : Nat) x y, caps[i]? = some x → lb[i]? = some y → VR ρ x y) →
    ∃ encs : Fin k → Value, (∀ i, VR ρ (piece i) (encs i)) ∧ SeqStopsK (FW none) 1 P gf lb (fun i => #[encs i]) (KeepIds ρ ks) (fun xs => xs = List.finRange k) (fun _ => True) k w

theorem IW.rangeFunc {g : Operand} {p d aid ty : Nat} {pos : String} {aft : Array Edge} {body : Code} {cs : List Code} {Q : PostX} {gf : Nat} {fn : Func} {caps : Array Value} {k : Nat} {ks ws : List Nat} (piece : Fin k → Value)
    (sM : List (Fin k) → Ups) (sn : List (Fin k) → Nat)
    (hpn : Nat.blt p N = true) (hg : opd N L g = some (.func (.func gf) #[] caps)) (hf : P.funcs[gf]? = some fn) (hb : fn.body.isSome = true) (hname : (fn.name == "runtime.NumGoroutine") = false)
    (hit : Gives P gf caps k piece ks (hp H M) n) (hM : (hp H (sM [])).le (hp H M)) (hn : n ≤ sn [])
    (hWn : ∀ id, n ≤ id → W id) (hks : ∀ pre, ∀ id ∈ ks, (hp H (sM pre) id).isSome = true) (hws : ∀ id ∈ ws, W id ∧ id ∉ ks ∧ ∀ pre, (hp H (sM pre) id).isSome = true)
    (hcl : ∀ pre id o, hp H (sM pre) id = some o → ∃ c ro, o = .cells c ro) (hmono : ∀ pre x, sn pre ≤ sn (pre ++ [x])) (hle : ∀ pre, n ≤ sn pre)
    (round : ∀ (l : Nat) (pre : List (Fin k)) (x : Fin k) (Wb : Nat → Prop), (∀ id, sn pre ≤ id → Wb id) → (∀ id ∈ ws, Wb id) →
      IW P Wb (some l) [body] (PostX.seq (fun t' H' n' => ∃ M', H' = hp H M' ∧ (hp H (sM (pre ++ [x]))).le (hp H M') ∧ n' ≤ sn (pre ++ [x])) (fun _ _ _ _ => False)) (dense N ((d, piece x) :: (p, piece x) :: L)) (hp H (sM pre)) (sn pre))
    (h : IW P W none cs Q (dense N L) (hp H (sM (List.finRange k))) (sn (List.finRange k))) :
    IW P W none (.rangeFunc g #[p] (.region aid #[{ dst := some d, op := .assign (.tmp p), type := ty, pos := pos, after := aft, guard := none }] false) body :: cs) Q (dense N L) (hp H M) n := by
  intro ρ0 w0 m0 ρ a w hs
  have hgv := hs.tr.ev g
  rw [pl hg] at hgv
  generalize hga : a.eval g = gv at hgv
  cases hgv with
  | func _ h1 h2 h3 h4 =>
    rename_i b lb
    have hb0 : b = #[] := Array.size_eq_zero_iff.1 (by rw [← h1]; rfl)
    subst hb0
    obtain ⟨encs, hvr, hseq⟩ := hit w ρ lb hs.below hs.heap h3.symm h4
    have hmarks : ∀ d ∈ a.defers, ∀ D, d = mark D → D < w.heap.size := by
      intro d hd D e
      obtain ⟨ds, e1, e2, e3⟩ := hs.coll
      rw [e1] at hd
      obtain ⟨D', hD', rfl⟩ := List.mem_map.1 hd
      have : D' = D := by simpa [mark] using e
      subst this
      exact (Array.getElem?_eq_some_iff.1 (e3 D' hD').2).1
    refine wpIn_any (n := 2) (wpIn_rangeFunc_ownF (α := Fin k) (encs := fun i => #[encs i]) (Kp := KeepIds ρ ks) (S := fun xs => xs = List.finRange k) (Sp := fun _ => True) (N := k) (w0 := w) rfl (by omega) hga trivial ?_ hseq ?_ ?_ (Go.RowKit.Below.refl _ _) (fun x => rfl)
      (fun pre W1 => ∃ ρs, ρ.le ρs ∧ St W ρ0 w0 m0 (dense N L) (hp H (sM pre)) (sn pre) ρs a W1) (fun _ _ _ => False) ?_ (fun c s W1 W2 row hf => hf.elim) ⟨ρ, ρ.le_refl, hs.forget (fgt_mk rfl fun i x y h1 h2 => by rw [h1] at h2; cases h2; exact .inr rfl) hM hn⟩
      (fun x => ({ tmps := a.tmps.setIfInBounds p (encs x), defers := [] } : Act).put (some d) (encs x)) ?_ ?_ ?_ ?_)
    · intro args w1
      obtain ⟨c, hc⟩ := Option.isSome_iff_exists.1 hb
      have hn' : ¬ fn.name = "runtime.NumGoroutine" := by simpa using hname
      simp [callFunc, hf, hn', hc, Sem.run]
    · intro A B C hab hbc id hid r κ hr
      rw [hbc id hid r κ hr, hab id hid r κ hr]
    · intro W1 l o o' hl _ _ _ id hid r κ hr
      refine World.putObj_heap_other fun e => ?_
      obtain ⟨x, hx⟩ := Option.isSome_iff_exists.1 (hks [] id hid)
      obtain ⟨r', κ', e1, e2⟩ := hs.heap.obj id x (hM id x hx)
      rw [hr] at e1; cases e1
      have := e2.lt
      omega
    · rintro pre W1 W2 row ⟨ρs, hle1, hst⟩ hgr hrow
      exact ⟨ρs, hle1, hst.grown hgr hrow (hs.step.size) hmarks (hcl pre)⟩
    · intro l x W1 Kk hk
      refine wpIn_region ?_
      refine wpOps_one rfl ?_
      have hpl : p < a.tmps.size := by
        rw [hs.tr.size, dense_length]; exact Nat.le_of_ble_eq_true hpn
      have hev : ({ tmps := (Array.zip #[p] #[encs x]).foldl (fun t q => t.setIfInBounds q.1 q.2) a.tmps, defers := [] } : Act).eval (.tmp p) = encs x := by
        simp [Act.eval, Array.getD_eq_getD_getElem?, hpl]
      refine ⟨FW_about, ?_⟩
      show Oper.uponIn _ _ _ _ _ _ _ (.ok (.value (Act.eval _ (.tmp p))) W1)
      rw [hev]
      have : (Array.zip #[p] #[encs x]).foldl (fun t q => t.setIfInBounds q.1 q.2) a.tmps = a.tmps.setIfInBounds p (encs x) := by simp
      show Kk _ _
      rw [← this] at hk
      exact hk
    · rintro l pre x W1 ⟨ρs, hle1, hst⟩ hlen
      let Wb : Nat → Prop := fun id => W id ∧ ∀ i ∈ ks, ∀ r κ κ', ρ i = some (r, κ) → ρs id ≠ some (r, κ')
      have hnew : ∀ id, sn pre ≤ id → Wb id := fun id hid => ⟨hWn id (Nat.le_trans (hle pre) hid), fun i _ r κ κ' _ h => by rw [hst.below id hid] at h; cases h⟩
      have hold : ∀ id ∈ ws, Wb id := fun id hid => by
        obtain ⟨g1, g2, g3⟩ := hws id hid
        refine ⟨g1, fun i hi r κ κ' hr h => g2 ?_⟩
        obtain ⟨o1, e1⟩ := Option.isSome_iff_exists.1 (g3 pre)
        obtain ⟨o2, e2⟩ := Option.isSome_iff_exists.1 (hks pre i hi)
        have := hst.heap.inj id i o1 o2 r κ' κ e1 e2 h (hle1 _ _ hr)
        rw [this]; exact hi
      have htr : TR ρs (dense N ((d, piece x) :: (p, piece x) :: L)) (({ tmps := a.tmps.setIfInBounds p (encs x), defers := [] } : Act).put (some d) (encs x)) := by
        have t1 := hst.tr.put (some p) ((hvr x).mono hle1)
        rw [tput_dense] at t1
        have t2 : TR ρs (dense N (putL (some p) (piece x) L)) ({ tmps := a.tmps.setIfInBounds p (encs x), defers := [] } : Act) := ⟨t1.size, t1.val⟩
        have t3 := t2.put (some d) ((hvr x).mono hle1)
        rw [tput_dense] at t3
        exact t3
      have hrun := IW.one (round l pre x Wb hnew hold) ρs W1 (sn pre) ρs _ W1 (St.refl htr hst.below hst.heap rfl)
      refine wpIn_mono hrun ?_
      rintro ex a3 W3 ⟨ρ3, t3, H3, n3, hs3, hq⟩
      cases ex with
      | normal =>
        obtain ⟨M3, rfl, g1, g2⟩ := hq
        refine ⟨⟨hs3.step.size, hs3.step.others⟩, fun i hi r κ hr => ?_, ρ3, Ren.le_trans hle1 hs3.step.le, ?_⟩
        · obtain ⟨o, ho⟩ := Option.isSome_iff_exists.1 (hks pre i hi)
          obtain ⟨r', κ', e1, e2⟩ := hst.heap.obj i o ho
          have e3 := hle1 _ _ hr
          rw [e1] at e3; cases e3
          exact hs3.step.keep r e2.lt fun id κ' h1 h2 => h2.2 i hi r κ κ' hr h1
        · exact ⟨hst.tr.mono hs3.step.le, hs3.below.mono g2, hs3.heap.sub g1, hst.step.trans (V := W) (hs3.step.mono fun id h => h.1) (fun _ _ _ h => h), Nat.le_trans hst.le (hmono pre x),
            fun id y hy => (hs3.fresh id y hy).elim (hst.fresh id y) (fun h => .inr (Nat.le_trans hst.le h)), hst.coll.on hs3.step.others⟩
      | _ => exact hq.elim
    · rintro D xs W1 hD rfl ⟨ρs, hle1, hst⟩ hdef
      refine ⟨ρs, dense N L, hp H (sM (List.finRange k)), sn (List.finRange k), ⟨⟨hst.tr.size, hst.tr.val⟩, hst.below, hst.heap, hst.step, hst.le, hst.fresh, ?_⟩, h⟩
      obtain ⟨ds, e1, e2, e3⟩ := hst.coll
      refine ⟨D :: ds, by simp only [List.map_cons, e1]; rfl, List.nodup_cons.2 ⟨fun hm => ?_, e2⟩, fun D' hD' => ?_⟩
      · have := hmarks (mark D) (by rw [e1]; exact List.mem_map.2 ⟨D, hm, rfl⟩) D rfl
        omega
      · rcases List.mem_cons.1 hD' with rfl | hD'
        · exact ⟨Nat.le_trans hs.step.size hD, hdef⟩
        · exact e3 D' hD'
    · intro D c pre W1 hD _ hf
      exact hf.elim
end
end Go.Proofs.Ytdnnojblneccdaa
/-
  Iterators: pieces of them that only read, and their calls of yield.
-/
namespace Go.Proofs.Ytdnnojblneccdaa
set_option linter.unusedSimpArgs false
set_option linter.unusedVariables false
open Go
open Enc (enc)

/-- an iterator's state -/
structure Ist (ρ : Ren) (t : List Value) (H : IHeap) (n : Nat) (a : Act) (w : World) : Prop where
  tr : TR ρ t a
  below : Below n ρ
  heap : HR ρ H w
  dfr : a.defers = []
theorem Ist.st {W : Nat → Prop} {ρ : Ren} {t : List Value} {H : IHeap} {n : Nat} {a : Act} {w : World} (h : Ist ρ t H n a w) : St W ρ w n t H n ρ a w := St.refl h.tr h.below h.heap h.dfr
theorem Step.grownBy {ρ ρ' : Ren} {w w' : World} (h : Step (fun _ => False) ρ ρ' w w') : w.grownBy w' none :=
  ⟨h.os, h.tape, h.output, h.size, fun k hk _ => h.keep k hk fun _ _ _ => fun x => x⟩

section
variable {P : Program} {Γ : Fns} {D : Ty} {K : Kinds} {N : Nat} {L : List (Nat × Value)} {H : IHeap} {M : Ups} {n : Nat} {ρ : Ren} {a : Act} {w : World}
/-- a region that writes nothing -/
theorem reg_run (hE : Env P Γ D K) {id : Nat} {ops : List Oper} {Q : Post3} {Q' : Exit → Act → World → Prop} (h : vcS Γ D K (fun _ => False) ops.toArray Q ops (dense N L) (hp H M) n) (hs : Ist ρ (dense N L) (hp H M) n a w)
    (hk : ∀ ρ' t' H' n' a' w', ρ.le ρ' → Ist ρ' t' H' n' a' w' → w.grownBy w' none → Q t' H' n' → Q' .normal a' w') : (Code.region id ops.toArray false).wpIn (FW none) 0 P Q' a w := by
  refine wpIn_region ?_
  have hmap : (List.range ops.toArray.size).map (fun i => ops.toArray[i]?) = ops.map some := by
    apply List.ext_getElem?
    intro i
    simp only [List.getElem?_map, List.getElem?_toArray, List.size_toArray]
    by_cases hi : i < ops.length
    · simp [hi]
    · simp [List.getElem?_eq_none (Nat.le_of_not_lt hi), List.getElem?_eq_none (show (List.range ops.length).length ≤ i by simp; omega)]
  exact vcS_ok hE _ ops _ _ _ ρ a w hmap h hs.st fun ρ' t' H' n' a' w' h1 h2 h3 => hk ρ' t' H' n' a' w' h1.step.le ⟨h1.tr, h1.below, h1.heap, h2.trans hs.dfr⟩ h1.step.grownBy h3
theorem reg_drawn (hE : Env P Γ D K) (hm : P.follows .mixedOrders = true) {id : Nat} {ops : List Oper} {Q : Post3} {Q' : Exit → Act → World → Prop} (pres : List (List Nat)) (hR : regOk (dense N L).length ops pres = true)
    (h : vcD Γ D K (fun _ => False) ops.toArray (hp H M) n Q ops pres [] (dense N L) n) (hs : Ist ρ (dense N L) (hp H M) n a w)
    (hk : ∀ ρ' t' H' n' a' w', ρ.le ρ' → Ist ρ' t' H' n' a' w' → w.grownBy w' none → Q t' H' n' → Q' .normal a' w') : (Code.region id ops.toArray true).wpIn (FW none) 0 P Q' a w :=
  wp_drawn hE hm hR hs.st h fun ρ' t' H' n' a' w' h1 h2 h3 => hk ρ' t' H' n' a' w' h1.step.le ⟨h1.tr, h1.below, h1.heap, h2.trans hs.dfr⟩ h1.step.grownBy h3

/-- the head of a region -/
theorem reg_head (hE : Env P Γ D K) {id : Nat} {ops : List Oper} {Q : Post3} {Q' : Exit → Act → World → Prop} (i : Nat) (js : List Nat) (hi : i ≤ ops.length) (hr : List.range ops.length = List.range i ++ js)
    (h1 : vcS Γ D K (fun _ => False) ops.toArray Q (ops.take i) (dense N L) (hp H M) n) (hs : Ist ρ (dense N L) (hp H M) n a w)
    (hk : ∀ ρ' t' H' n' a' w', ρ.le ρ' → Ist ρ' t' H' n' a' w' → w.grownBy w' none → Q t' H' n' → wpOpsIn (FW none) 0 P ops.toArray Q' js a' w') :
    (Code.region id ops.toArray false).wpIn (FW none) 0 P Q' a w := by
  refine wpIn_region ?_
  rw [List.size_toArray, hr]
  have hmap : (List.range i).map (fun i => ops.toArray[i]?) = (ops.take i).map some := by
    apply List.ext_getElem?
    intro j
    simp only [List.getElem?_map, List.getElem?_toArray, List.getElem?_take]
    by_cases hj : j < i
    · simp [hj, show j < ops.length by omega]
    · simp [hj, List.getElem?_eq_none (show (List.range i).length ≤ j by simp; omega)]
  exact vcS_okJ hE js _ _ _ _ _ ρ a w hmap h1 hs.st fun ρ' t' H' n' a' w' g1 g2 g3 => hk ρ' t' H' n' a' w' g1.step.le ⟨g1.tr, g1.below, g1.heap, g2.trans hs.dfr⟩ g1.step.grownBy g3
/-- its tail -/
theorem ops_run (hE : Env P Γ D K) {ops : Array Oper} {Q : Post3} {Q' : Exit → Act → World → Prop} (is : List Nat) (os : List Oper) (hi : is.map (fun i => ops[i]?) = os.map some)
    (h1 : vcS Γ D K (fun _ => False) ops Q os (dense N L) (hp H M) n) (hs : Ist ρ (dense N L) (hp H M) n a w)
    (hk : ∀ ρ' t' H' n' a' w', ρ.le ρ' → Ist ρ' t' H' n' a' w' → w.grownBy w' none → Q t' H' n' → Q' .normal a' w') : wpOpsIn (FW none) 0 P ops Q' is a w :=
  vcS_ok hE is os _ _ _ ρ a w hi h1 hs.st fun ρ' t' H' n' a' w' g1 g2 g3 => hk ρ' t' H' n' a' w' g1.step.le ⟨g1.tr, g1.below, g1.heap, g2.trans hs.dfr⟩ g1.step.grownBy g3
theorem Ist.put {d : Tmp} {v v' : Value} (h : Ist ρ (dense N L) H n a w) (hv : VR ρ v v') : Ist ρ (dense N ((d, v) :: L)) H n (a.put (some d) v') w :=
  ⟨by have := h.tr.put (some d) hv; rwa [tput_dense] at this, h.below, h.heap, (put_defers _ _ _).trans h.dfr⟩
theorem Ist.blank {w' : World} (h : Ist ρ (dense N L) H n a w) : Ist ρ (dense N L) (hp (fun _ => none) []) n a w' := ⟨h.tr, h.below, ⟨fun _ _ e => (by cases e), fun _ _ _ _ _ _ _ e => (by cases e)⟩, h.dfr⟩
theorem Ist.world {w' : World} (h : Ist ρ (dense N L) H n a w) (hk : ∀ id o, H id = some o → ∀ r κ, ρ id = some (r, κ) → w'.heap[r]? = w.heap[r]?) : Ist ρ (dense N L) H n a w' :=
  ⟨h.tr, h.below, ⟨fun id o ho => by
    obtain ⟨r, κ, h1, h2⟩ := h.heap.obj id o ho
    exact ⟨r, κ, h1, by rw [hk id o ho r κ h1]; exact h2⟩, h.heap.inj⟩, h.dfr⟩
theorem Ist.keep {L' : List (Nat × Value)} (h : Ist ρ (dense N L) H n a w) (hs : subL L' L) : Ist ρ (dense N L') H n a w := by
  have := (h.st (W := fun _ => False)).forget (t' := dense N L') (fgt_dense hs) (fun _ _ h => h) (Nat.le_refl _)
  exact ⟨this.tr, this.below, this.heap, h.dfr⟩
/-- the start of a function -/
theorem tr_enter {args : List Value} {args' : Array Value} (h : ArgsR ρ args args') (hN : args.length ≤ N) : TR ρ (dense N (idxL 0 args)) { tmps := args' ++ Array.replicate (N - args'.size) undef, defers := [] } := by
  rw [← dense_init _ _ hN]
  refine ⟨by simp [h.1], fun i x hx => ?_⟩
  by_cases hi : i < args.length
  · rw [List.getElem?_append_left hi] at hx
    obtain ⟨y, e1, e2⟩ := h.2 i x hx
    exact ⟨y, by rw [Array.getElem?_append_left (by rw [h.1]; exact hi)]; exact e1, e2⟩
  · rw [List.getElem?_append_right (by omega)] at hx
    obtain ⟨h1, h2⟩ := List.getElem?_eq_some_iff.1 hx
    simp only [List.length_replicate] at h1
    simp only [List.getElem_replicate] at h2
    subst h2
    exact ⟨undef, by rw [Array.getElem?_append_right (by rw [h.1]; omega), h.1]; simp [h1], .unk _⟩
/-- the call of yield itself -/
theorem op_yield {ops : Array Oper} {i l ty : Nat} {js : List Nat} {o : Oper} {f y : Operand} {d : Tmp} {Q' : Exit → Act → World → Prop} {Rr : Ending → World → Prop} (ho : ops[i]? = some o) (hg : o.guard = none) (hd : o.dst = some d) (hop : o.op = .call ⟨.value f, #[y], #[ty]⟩)
    (hf : a.eval f = .func (.yield l) #[] #[]) (hy : YieldAt (FW none) 0 P l #[a.eval y] w Rr)
    (hk : ∀ e w', Rr e w' → ∃ v, e = .returned v ∧ wpOpsIn (FW none) 0 P ops Q' js (a.put (some d) v) w') : wpOpsIn (FW none) 0 P ops Q' (i :: js) a w := by
  unfold wpOpsIn
  rw [ho]
  show (if Region.wanted o _ = true then _ else _)
  rw [if_pos (by unfold Region.wanted; rw [hg])]
  refine ⟨FW_about, ?_⟩
  obtain ⟨fn, tmps, assign, body, h1, h2⟩ := hy
  have hrun : (o.semAt (FW none).round a.eval).run P w = .ok (.round l fn tmps assign body) w := by
    show (execOp a.eval o).run P w = _
    obtain ⟨dst, op, type, pos, after, guard⟩ := o
    simp only at hop
    subst hop
    simp only [execOp, resolve, hf, Deferred.ofValue]
    simpa [invoke] using h1
  rw [hrun]
  refine ⟨fun h => (by cases h), h2.mono fun e w' he => ?_⟩
  obtain ⟨v, rfl, h3⟩ := hk e w' he
  show wpOpsIn _ _ _ _ _ _ _ _
  rw [hd]; exact h3
theorem Ist.bool {x : Operand} {b : Bool} (h : Ist ρ (dense N L) H n a w) (hx : opd N L x = some (.bool b)) : a.eval x = .bool b := by
  have := h.tr.ev x
  rw [pl hx] at this
  exact bool_inv this
theorem Ist.fn {x : Operand} {f : Fn} (h : Ist ρ (dense N L) H n a w) (hx : opd N L x = some (.func f #[] #[])) : a.eval x = .func f #[] #[] := by
  have := h.tr.ev x
  rw [pl hx] at this
  generalize a.eval x = y at this
  cases this with
  | func _ h1 h2 h3 h4 =>
    rename_i b d
    have hb : b = #[] := Array.size_eq_zero_iff.1 (by rw [← h1]; rfl)
    have hd : d = #[] := Array.size_eq_zero_iff.1 (by rw [← h3]; rfl)
    rw [hb, hd]
theorem Ist.slice {x : Operand} {id o l c r κ : Nat} (h : Ist ρ (dense N L) H n a w) (hx : opd N L x = some (.slice (some ⟨id, o, none⟩) l c)) (hr : ρ id = some (r, κ)) : a.eval x = .slice (some ⟨r, o, none⟩) l c := by
  have := h.tr.ev x
  rw [pl hx] at this
  generalize a.eval x = y at this
  cases this with
  | slice _ _ _ h' => rw [hr] at h'; cases h'; rfl
/-- x[l:h:m] -/
theorem ox_sl3 {e : Operand → Value} {t : TypeId} {x lo hi mx : Operand} {id off len cap el l h m : Nat} {d de : TD} (hx : e x = .slice (some ⟨id, off, none⟩) len cap) (hd : D t = some d) (hk : d.k = .slice el) (hde : D el = some de) (hlo : bnd ((some lo).map e) 0 = some l) (hhi : bnd ((some hi).map e) len = some h) (hmx : bnd ((some mx).map e) cap = some m)
    (h1 : l ≤ h) (h2 : h ≤ m) (h3 : m ≤ cap) (h4 : l < m) : iopC Γ D K e H n (.slice t x (some lo) (some hi) (some mx)) = some ⟨.slice (some ⟨id, off + l * de.size, none⟩) (h - l) (m - l), [], n⟩ := by
  refine ox_slS hx hd hk hde ?_
  simp only [sliceIt, hlo, hhi, hmx]
  rw [if_pos ⟨h1, h2, h3, by simp⟩]
  show some (Value.slice (some (if m = l then _ else _)) _ _) = _
  rw [if_neg (by omega)]
  congr 3
  unfold goOn
  split
  · rename_i h0; rw [h0]; rfl
  · rfl
theorem ox_min {e : Operand → Value} {x y : Operand} {ts : Array TypeId} {k : IntKind} {i j : Int} (hx : e x = .int k i) (hy : e y = .int k j) : iopC Γ D K e H n (.call ⟨.builtin .min, #[x, y], ts⟩) = some ⟨.int k (if j < i then j else i), [], n⟩ := by
  simp [iopC, iop, doBuiltin, hx, hy, Ytdnnojblneccdaa.val]
end
end Go.Proofs.Ytdnnojblneccdaa
/-
  Arithmetic of unsigned numbers.
-/
namespace Go.Proofs.Ytdnnojblneccdaa
set_option linter.unusedSimpArgs false
set_option linter.unusedVariables false
open Go
open Enc (enc)

theorem wrapN_u64 (n : Nat) : IntKind.wrap .u64 (n : Int) = ((n % 2 ^ 64 : Nat) : Int) := by
  simp [IntKind.wrap, IntKind.bits, IntKind.signed]
theorem wrapN_u32 (n : Nat) : IntKind.wrap .u32 (n : Int) = ((n % 2 ^ 32 : Nat) : Int) := by
  simp [IntKind.wrap, IntKind.bits, IntKind.signed]
theorem wrapN_u8 (n : Nat) : IntKind.wrap .u8 (n : Int) = ((n % 2 ^ 8 : Nat) : Int) := by
  simp [IntKind.wrap, IntKind.bits, IntKind.signed]
theorem wrap_u64i (n : Int) : IntKind.wrap .u64 n = n % 18446744073709551616 := by
  simp [IntKind.wrap, IntKind.bits, IntKind.signed]
theorem enc_u64 (x : UInt64) : enc x = Value.int .u64 (x.toNat : Int) := rfl
theorem enc_u32 (x : UInt32) : enc x = Value.int .u32 (x.toNat : Int) := rfl
theorem enc_u8 (x : UInt8) : enc x = Value.int .u8 (x.toNat : Int) := rfl
theorem bv_64 (x : UInt64) : BitVec.ofInt 64 (x.toNat : Int) = x.toBitVec := by
  apply BitVec.eq_of_toNat_eq
  rw [BitVec.toNat_ofInt]
  have := x.toNat_lt
  show ((x.toNat : Int) % ((2 ^ 64 : Nat) : Int)).toNat = x.toNat
  omega
theorem bv_32 (x : UInt32) : BitVec.ofInt 32 (x.toNat : Int) = x.toBitVec := by
  apply BitVec.eq_of_toNat_eq
  rw [BitVec.toNat_ofInt]
  have := x.toNat_lt
  show ((x.toNat : Int) % ((2 ^ 32 : Nat) : Int)).toNat = x.toNat
  omega
theorem bv_8 (x : UInt8) : BitVec.ofInt 8 (x.toNat : Int) = x.toBitVec := by
  apply BitVec.eq_of_toNat_eq
  rw [BitVec.toNat_ofInt]
  have := x.toNat_lt
  show ((x.toNat : Int) % ((2 ^ 8 : Nat) : Int)).toNat = x.toNat
  omega

def shl64 (x : UInt64) (k : Nat) : UInt64 := UInt64.ofNat (x.toNat * 2 ^ min k 64)
def shr64 (x : UInt64) (k : Nat) : UInt64 := UInt64.ofNat (x.toNat / 2 ^ min k 64)
def shl32 (x : UInt32) (k : Nat) : UInt32 := UInt32.ofNat (x.toNat * 2 ^ min k 32)

section
variable {D : Ty} {K : Kinds} {t : TypeId}
theorem bo_u64_add (x y : UInt64) : binOp' D K .add t (enc x) (enc y) = some (enc (x + y)) := by
  show some (Value.int .u64 (IntKind.wrap .u64 ((x.toNat : Int) + y.toNat))) = _
  rw [← Int.natCast_add, wrapN_u64, enc_u64, UInt64.toNat_add]
theorem bo_u64_mul (x y : UInt64) : binOp' D K .mul t (enc x) (enc y) = some (enc (x * y)) := by
  show some (Value.int .u64 (IntKind.wrap .u64 ((x.toNat : Int) * y.toNat))) = _
  rw [← Int.natCast_mul, wrapN_u64, enc_u64, UInt64.toNat_mul]
theorem bo_u64_sub (x y : UInt64) : binOp' D K .sub t (enc x) (enc y) = some (enc (x - y)) := by
  show some (Value.int .u64 (IntKind.wrap .u64 ((x.toNat : Int) - y.toNat))) = _
  rw [wrap_u64i, enc_u64, UInt64.toNat_sub]
  have h1 := x.toNat_lt
  have h2 := y.toNat_lt
  congr 2
  omega
theorem bo_u64_and (x y : UInt64) : binOp' D K .and t (enc x) (enc y) = some (enc (x &&& y)) := by
  show some (Value.int .u64 (IntKind.wrap .u64 ((BitVec.ofInt 64 (x.toNat : Int) &&& BitVec.ofInt 64 (y.toNat : Int)).toNat : Int))) = _
  rw [bv_64, bv_64, wrapN_u64, Nat.mod_eq_of_lt (BitVec.isLt _)]; rfl
theorem bo_u64_or (x y : UInt64) : binOp' D K .or t (enc x) (enc y) = some (enc (x ||| y)) := by
  show some (Value.int .u64 (IntKind.wrap .u64 ((BitVec.ofInt 64 (x.toNat : Int) ||| BitVec.ofInt 64 (y.toNat : Int)).toNat : Int))) = _
  rw [bv_64, bv_64, wrapN_u64, Nat.mod_eq_of_lt (BitVec.isLt _)]; rfl
theorem bo_u64_xor (x y : UInt64) : binOp' D K .xor t (enc x) (enc y) = some (enc (x ^^^ y)) := by
  show some (Value.int .u64 (IntKind.wrap .u64 ((BitVec.ofInt 64 (x.toNat : Int) ^^^ BitVec.ofInt 64 (y.toNat : Int)).toNat : Int))) = _
  rw [bv_64, bv_64, wrapN_u64, Nat.mod_eq_of_lt (BitVec.isLt _)]; rfl
theorem bo_u64_andNot (x y : UInt64) : binOp' D K .andNot t (enc x) (enc y) = some (enc (x &&& ~~~y)) := by
  show some (Value.int .u64 (IntKind.wrap .u64 ((BitVec.ofInt 64 (x.toNat : Int) &&& ~~~(BitVec.ofInt 64 (y.toNat : Int))).toNat : Int))) = _
  rw [bv_64, bv_64, wrapN_u64, Nat.mod_eq_of_lt (BitVec.isLt _)]; rfl
theorem uo_u64_xor (x : UInt64) : unOp' .xor (enc x) = some (enc (~~~x)) := by
  show some (Value.int .u64 (IntKind.wrap .u64 ((BitVec.ofInt 64 18446744073709551615 ^^^ BitVec.ofInt 64 (x.toNat : Int)).toNat : Int))) = _
  rw [bv_64, wrapN_u64, Nat.mod_eq_of_lt (BitVec.isLt _)]
  have : (BitVec.ofInt 64 18446744073709551615 ^^^ x.toBitVec) = ~~~x.toBitVec := by
    have : BitVec.ofInt 64 18446744073709551615 = BitVec.allOnes 64 := by decide
    rw [this, BitVec.allOnes_xor]
  rw [this]; rfl
theorem bo_u64_shl {k : IntKind} {b : Int} (x : UInt64) (hb : 0 ≤ b) : binOp' D K .shl t (enc x) (.int k b) = some (enc (shl64 x b.toNat)) := by
  show (if b < 0 then none else some (Value.int .u64 (IntKind.wrap .u64 ((x.toNat : Int) * 2 ^ (min b.toNat 64))))) = _
  rw [if_neg (by omega)]
  have : ((x.toNat : Int) * 2 ^ (min b.toNat 64)) = ((x.toNat * 2 ^ (min b.toNat 64) : Nat) : Int) := by simp
  rw [this, wrapN_u64, enc_u64, shl64, UInt64.toNat_ofNat']
theorem bo_u64_shr {k : IntKind} {b : Int} (x : UInt64) (hb : 0 ≤ b) : binOp' D K .shr t (enc x) (.int k b) = some (enc (shr64 x b.toNat)) := by
  show (if b < 0 then none else some (Value.int .u64 ((x.toNat : Int).fdiv (2 ^ (min b.toNat 64))))) = _
  rw [if_neg (by omega)]
  have : ((x.toNat : Int).fdiv (2 ^ (min b.toNat 64))) = ((x.toNat / 2 ^ (min b.toNat 64) : Nat) : Int) := by
    rw [Int.fdiv_eq_ediv_of_nonneg _ (Int.pow_nonneg (by omega))]; simp
  rw [this, enc_u64, shr64, UInt64.toNat_ofNat', Nat.mod_eq_of_lt]
  exact Nat.lt_of_le_of_lt (Nat.div_le_self _ _) x.toNat_lt
theorem bo_u64_quo (x y : UInt64) (hy : y ≠ 0) : binOp' D K .quo t (enc x) (enc y) = some (enc (x / y)) := by
  have h0 : ((y.toNat : Int)) ≠ 0 := by
    intro e; exact hy (UInt64.toNat_inj.1 (by have : (0 : UInt64).toNat = 0 := rfl; omega))
  show (if ((y.toNat : Int)) = 0 then none else some (Value.int .u64 (IntKind.wrap .u64 ((x.toNat : Int).tdiv y.toNat)))) = _
  rw [if_neg h0]
  have : ((x.toNat : Int).tdiv y.toNat) = ((x.toNat / y.toNat : Nat) : Int) := rfl
  rw [this, wrapN_u64, enc_u64, UInt64.toNat_div, Nat.mod_eq_of_lt]
  exact Nat.lt_of_le_of_lt (Nat.div_le_self _ _) x.toNat_lt
theorem bo_u64_rem (x y : UInt64) (hy : y ≠ 0) : binOp' D K .rem t (enc x) (enc y) = some (enc (x % y)) := by
  have h0 : ((y.toNat : Int)) ≠ 0 := by
    intro e; exact hy (UInt64.toNat_inj.1 (by have : (0 : UInt64).toNat = 0 := rfl; omega))
  show (if ((y.toNat : Int)) = 0 then none else some (Value.int .u64 ((x.toNat : Int).tmod y.toNat))) = _
  rw [if_neg h0]
  have : ((x.toNat : Int).tmod y.toNat) = ((x.toNat % y.toNat : Nat) : Int) := rfl
  rw [this, enc_u64, UInt64.toNat_mod]
theorem bo_u32_eql (x y : UInt32) : binOp' D K .eql t (enc x) (enc y) = some (.bool (x == y)) := by
  refine congrArg (fun b => some (Value.bool b)) ?_
  rw [Bool.eq_iff_iff, beq_iff_eq, beq_iff_eq]
  exact ⟨fun e => UInt32.toNat_inj.1 (by omega), fun e => by rw [e]⟩
theorem bo_u32_neq (x y : UInt32) : binOp' D K .neq t (enc x) (enc y) = some (.bool (x != y)) := by
  refine congrArg (fun b => some (Value.bool b)) ?_
  rw [Bool.eq_iff_iff, bne_iff_ne, bne_iff_ne]
  exact ⟨fun e h => e (by rw [h]), fun e h => e (UInt32.toNat_inj.1 (by omega))⟩
theorem bo_u32_gtr (x y : UInt32) : binOp' D K .gtr t (enc x) (enc y) = some (.bool (decide (y < x))) := by
  refine congrArg (fun b => some (Value.bool b)) ?_
  rw [Bool.eq_iff_iff, decide_eq_true_iff, decide_eq_true_iff, UInt32.lt_iff_toNat_lt]
  omega
theorem bo_u32_or (x y : UInt32) : binOp' D K .or t (enc x) (enc y) = some (enc (x ||| y)) := by
  show some (Value.int .u32 (IntKind.wrap .u32 ((BitVec.ofInt 32 (x.toNat : Int) ||| BitVec.ofInt 32 (y.toNat : Int)).toNat : Int))) = _
  rw [bv_32, bv_32, wrapN_u32, Nat.mod_eq_of_lt (BitVec.isLt _)]; rfl
theorem bo_u32_shl {k : IntKind} {b : Int} (x : UInt32) (hb : 0 ≤ b) : binOp' D K .shl t (enc x) (.int k b) = some (enc (shl32 x b.toNat)) := by
  show (if b < 0 then none else some (Value.int .u32 (IntKind.wrap .u32 ((x.toNat : Int) * 2 ^ (min b.toNat 32))))) = _
  rw [if_neg (by omega)]
  have : ((x.toNat : Int) * 2 ^ (min b.toNat 32)) = ((x.toNat * 2 ^ (min b.toNat 32) : Nat) : Int) := by simp
  rw [this, wrapN_u32, enc_u32, shl32, UInt32.toNat_ofNat']
theorem bo_u8_or (x y : UInt8) : binOp' D K .or t (enc x) (enc y) = some (enc (x ||| y)) := by
  show some (Value.int .u8 (IntKind.wrap .u8 ((BitVec.ofInt 8 (x.toNat : Int) ||| BitVec.ofInt 8 (y.toNat : Int)).toNat : Int))) = _
  rw [bv_8, bv_8, wrapN_u8, Nat.mod_eq_of_lt (BitVec.isLt _)]; rfl
theorem bo_u8_xor (x y : UInt8) : binOp' D K .xor t (enc x) (enc y) = some (enc (x ^^^ y)) := by
  show some (Value.int .u8 (IntKind.wrap .u8 ((BitVec.ofInt 8 (x.toNat : Int) ^^^ BitVec.ofInt 8 (y.toNat : Int)).toNat : Int))) = _
  rw [bv_8, bv_8, wrapN_u8, Nat.mod_eq_of_lt (BitVec.isLt _)]; rfl
/-- division of what is not negative -/
theorem bo_i64_quo {a b : Int} (n m : Nat) (ha : a = n) (hb : b = m) (hm : m ≠ 0) (hn : n ≤ 2 ^ 62) : binOp' D K .quo t (.int .i64 a) (.int .i64 b) = some (.int .i64 ((n / m : Nat) : Int)) := by
  subst ha; subst hb
  have h0 : ((m : Int)) ≠ 0 := by omega
  show (if ((m : Int)) = 0 then none else some (Value.int .i64 (IntKind.wrap .i64 ((n : Int).tdiv m)))) = _
  rw [if_neg h0]
  have : ((n : Int).tdiv m) = ((n / m : Nat) : Int) := rfl
  have hle := Nat.div_le_self n m
  rw [this]
  generalize n / m = q at hle ⊢
  rw [wrap_i64 (by omega) (by omega)]
theorem bo_i64_rem {a b : Int} (n m : Nat) (ha : a = n) (hb : b = m) (hm : m ≠ 0) : binOp' D K .rem t (.int .i64 a) (.int .i64 b) = some (.int .i64 ((n % m : Nat) : Int)) := by
  subst ha; subst hb
  have h0 : ((m : Int)) ≠ 0 := by omega
  show (if ((m : Int)) = 0 then none else some (Value.int .i64 ((n : Int).tmod m))) = _
  rw [if_neg h0]
  rfl
end
section
variable {Γ : Fns} {D : Ty} {K : Kinds} {e : Operand → Value} {H : IHeap} {n : Nat} {s t : TypeId} {x : Operand} {ds dd : TD}
theorem cv_6_8 {a : UInt64} (hx : e x = enc a) (hs : D s = some ds) (hd : D t = some dd) (hk : dd.k = .int .u8) : iopC Γ D K e H n (.convert s t x) = some ⟨enc a.toUInt8, [], n⟩ := by
  rw [ox_conv (k' := .u64) (a := (a.toNat : Int)) hx hs hd hk, wrapN_u8]; rfl
theorem cv_6_32 {a : UInt64} (hx : e x = enc a) (hs : D s = some ds) (hd : D t = some dd) (hk : dd.k = .int .u32) : iopC Γ D K e H n (.convert s t x) = some ⟨enc a.toUInt32, [], n⟩ := by
  rw [ox_conv (k' := .u64) (a := (a.toNat : Int)) hx hs hd hk, wrapN_u32]; rfl
theorem cv_8_6 {a : UInt8} (hx : e x = enc a) (hs : D s = some ds) (hd : D t = some dd) (hk : dd.k = .int .u64) : iopC Γ D K e H n (.convert s t x) = some ⟨enc a.toUInt64, [], n⟩ := by
  rw [ox_conv (k' := .u8) (a := (a.toNat : Int)) hx hs hd hk, wrapN_u64, Nat.mod_eq_of_lt (by have := a.toNat_lt; omega)]; rfl
theorem cv_32_6 {a : UInt32} (hx : e x = enc a) (hs : D s = some ds) (hd : D t = some dd) (hk : dd.k = .int .u64) : iopC Γ D K e H n (.convert s t x) = some ⟨enc a.toUInt64, [], n⟩ := by
  rw [ox_conv (k' := .u32) (a := (a.toNat : Int)) hx hs hd hk, wrapN_u64, Nat.mod_eq_of_lt (by have := a.toNat_lt; omega)]; rfl
theorem cv_i_6 {a : Int} (m : Nat) (hx : e x = .int .i64 a) (hs : D s = some ds) (hd : D t = some dd) (hk : dd.k = .int .u64) (ha : a = m) : iopC Γ D K e H n (.convert s t x) = some ⟨enc (UInt64.ofNat m), [], n⟩ := by
  subst ha
  rw [ox_conv (k' := .i64) (a := (m : Int)) hx hs hd hk, wrapN_u64, enc_u64, UInt64.toNat_ofNat']
end
theorem okV64 {p : Nat → Prop} {k : Nat} (v : Vector UInt64 k) : okN p (enc v) := by
  show ∀ x ∈ (encs v.toList).toArray.toList, okN1 p x
  intro x hx
  simp only [encs, List.mem_map] at hx
  obtain ⟨_, _, rfl⟩ := hx; trivial
theorem okV8 {p : Nat → Prop} {k : Nat} (v : Vector UInt8 k) : okN p (enc v) := by
  show ∀ x ∈ (encs v.toList).toArray.toList, okN1 p x
  intro x hx
  simp only [encs, List.mem_map] at hx
  obtain ⟨_, _, rfl⟩ := hx; trivial
end Go.Proofs.Ytdnnojblneccdaa
/-
  Appends in place; what was there is written.
-/
namespace Go.Proofs.Ytdnnojblneccdaa
set_option linter.unusedSimpArgs false
set_option linter.unusedVariables false
open Go
open Enc (enc)
open Row (cel)

theorem hp_same {H : IHeap} {M : Ups} {id : Nat} {o : IObj} (h : hp H M id = some o) : hp H ((id, some o) :: M) = hp H M := by
  funext i
  by_cases hi : i = id
  · subst hi; rw [hp_eq, h]
  · rw [hp_ne _ _ _ hi]
section
variable {P : Program} {Γ : Fns} {D : Ty} {K : Kinds} {W : Nat → Prop} {ops : Array Oper} {Q : Post3} {o : Oper} {os : List Oper} {N : Nat} {L : List (Nat × Value)} {H : IHeap} {M : Ups} {n : Nat}
theorem vcS_appC {d t t2 el : Nat} {s y : Operand} {ds de : TD} {id off len cap k p : Nat} {yv : Value} {xs c c' : List Value} (hd : o.dst = some d) (hg : o.guard = none) (hop : o.op = .call ⟨.builtin .append, #[s, y], #[t, t2]⟩)
    (hs : opd N L s = some (.slice (some ⟨id, off, none⟩) len cap)) (hy : opd N L y = some yv) (hdt : D t = some ds) (hk : ds.k = .slice el) (hde : D el = some de) (hsrc : srcArg D (hp H M) t2 de yv = some (k, xs)) (hcap : len + k ≤ cap)
    (hH : hp H M id = some (.cells c false)) (hpp : off + len * de.size = p) (hle : p + xs.length ≤ c.length) (hkn : xs.all known = true) (hW : W id) (hc' : splice c p xs = c')
    (hk' : vcS Γ D K W ops Q os (dense N ((d, .slice (some ⟨id, off, none⟩) (len + k) cap) :: L)) (hp H ((id, some (.cells c' false)) :: M)) n) : vcS Γ D K W ops Q (o :: os) (dense N L) (hp H M) n := by
  subst hpp
  have hsv := pl hs
  have hyv := pl hy
  by_cases h0 : xs = []
  · subst h0
    rw [splice_nil] at hc'
    subst hc'
    refine vcS_val (v := .slice (some ⟨id, off, none⟩) (len + k) cap) hd hg ?_ (by rw [hp_same hH] at hk'; exact hk')
    rw [hop]
    simp only [iopC, iop, doBuiltin, doAppend, List.map_cons, List.map_nil, hsv, hyv, hdt, hk, hde, hsrc, Option.bind_some, List.getElem?_toArray, List.getElem?_cons_zero, List.getElem?_cons_succ]
    rw [if_pos ⟨hcap, rfl⟩]; rfl
  · subst hc'
    refine vcS_new (v := .slice (some ⟨id, off, none⟩) (len + k) cap) hd hg ?_ hW hk'
    rw [hop]
    simp only [iopC, iop, doBuiltin, doAppend, List.map_cons, List.map_nil, hsv, hyv, hdt, hk, hde, hsrc, Option.bind_some, List.getElem?_toArray, List.getElem?_cons_zero, List.getElem?_cons_succ]
    rw [if_pos ⟨hcap, rfl⟩, if_neg h0, hH]
    simp only
    rw [if_pos ⟨hle, hkn⟩]
theorem srcArg_u8 {t2 el2 : TypeId} {d2 de : TD} {x : Value} {l : List UInt8} {H : IHeap} (hd : D t2 = some d2) (hk : d2.k = .slice el2) (hs : de.size = 1) (h : rdC H x = some l) : srcArg D H t2 de x = some (l.length, encs l) := by
  have := srcArg_rdC (α := UInt8) (de := de) hd hk hs h
  rw [this, cels_u8]
theorem srcArg_int {t2 : TypeId} {k2 : IntKind} {d2 de : TD} {a : Int} (k : Nat) {H : IHeap} (hd : D t2 = some d2) (hk : d2.k = .int k2) (ha : a = k) (h1 : k ≤ most) (h2 : k * de.bytes ≤ 2 ^ 48) : srcArg D H t2 de (.int .i64 a) = some (k, (List.replicate k de.zero).flatten) := by
  subst ha
  simp only [srcArg, hd, Option.bind_some, hk]
  have h3 : (k : Int) * de.bytes ≤ (2 : Int) ^ 48 := by
    rw [← Int.natCast_mul]
    exact Int.ofNat_le.2 h2
  rw [if_pos ⟨by omega, by omega, h3⟩]; simp
end
theorem srcArg_intE {α : Type} [Enc α] {D : Ty} {t2 : TypeId} {k2 : IntKind} {d2 de : TD} {a : Int} (k : Nat) (z : α) {H : IHeap} (hd : D t2 = some d2) (hk : d2.k = .int k2) (ha : a = k) (h1 : k ≤ most) (h2 : k * de.bytes ≤ 2 ^ 48) (hz : de.zero = [enc z]) : srcArg D H t2 de (.int .i64 a) = some (k, encs (List.replicate k z)) := by
  rw [srcArg_int k hd hk ha h1 h2, hz]
  have : (List.replicate k [enc z]).flatten = encs (List.replicate k z) := by simp [encs]
  rw [this]
theorem ox_makeN {α : Type} [Enc α] {Γ : Fns} {D : Ty} {K : Kinds} {e : Operand → Value} {H : IHeap} {n : Nat} {t el : TypeId} {x y : Operand} {a b : Int} {d de : TD} (j k : Nat) (z : α) (hx : e x = .int .i64 a) (ha : a = j) (hy : e y = .int .i64 b) (hb : b = k) (hd : D t = some d) (hk : d.k = .slice el) (hde : D el = some de) (hz : de.zero = [enc z]) (h1 : j ≤ k) (h2 : k ≤ most) (h3 : de.bytes * k ≤ 2 ^ 48) :
    iopC Γ D K e H n (.makeSlice t x y) = some ⟨.slice (some ⟨n, 0, none⟩) j k, [(n, some (.cells (encs (List.replicate k z)) false))], n + 1⟩ := by
  subst ha; subst hb
  have h4 : (de.bytes : Int) * k ≤ (2 : Int) ^ 48 := by
    rw [← Int.natCast_mul]; exact Int.ofNat_le.2 h3
  rw [ox_make hx hy hd hk hde (by omega) (by omega) (by omega) h4, hz]
  have : (List.replicate k [enc z]).flatten = encs (List.replicate k z) := by simp [encs]
  simp only [Int.toNat_natCast, this]
/-! cells of arrays -/
theorem rd_ix {α : Type} [Enc α] {d : TD} {l : List α} {j : Nat} (i : Nat) (z : α) (hk : d.k.isAgg = false) (hj : j = i) (h : i < l.length) : rdVar d (encs l) j = some (enc (l.getD i z)) := by
  subst hj
  unfold rdVar
  rw [if_neg (by rw [hk]; simp), encs_get]
  simp [h]
theorem wr_ix {α : Type} [Enc α] {l : List α} {j : Nat} (i : Nat) (hj : j = i) (v : α) : wrCells (encs l) j [enc v] = encs (l.set i v) := by
  subst hj
  show (encs l).set j (enc v) = _
  rw [encs_set]
theorem ox_nilCheck {Γ : Fns} {D : Ty} {K : Kinds} {e : Operand → Value} {H : IHeap} {n : Nat} {x : Operand} {id off : Nat} (hx : e x = .pointer (some ⟨id, off, none⟩)) : iopC Γ D K e H n (.nilCheck x) = some ⟨.pointer (some ⟨id, off, none⟩), [], n⟩ := by
  simp [iopC, iop, hx, Ytdnnojblneccdaa.val]
/-! bytes put over bytes -/
def ovw {α : Type} (l : List α) (p : Nat) (x : List α) : List α := l.take p ++ (x ++ l.drop (p + x.length))
theorem ovw_length {α : Type} {l x : List α} {p : Nat} (h : p + x.length ≤ l.length) : (ovw l p x).length = l.length := by simp [ovw]; omega
theorem ovw_nil {α : Type} (l : List α) (p : Nat) : ovw l p [] = l := by simp [ovw]
theorem ovw_ovw {α : Type} {l x y : List α} {p q : Nat} (hq : q = p + x.length) (h : p + x.length + y.length ≤ l.length) : ovw (ovw l p x) q y = ovw l p (x ++ y) := by
  subst hq
  have hp : (l.take p).length = p := by simp; omega
  have h1 : (l.take p ++ (x ++ l.drop (p + x.length))).take (p + x.length) = l.take p ++ x := by
    have : p + x.length = (l.take p ++ x).length := by rw [List.length_append, hp]
    rw [← List.append_assoc]
    conv => lhs; arg 1; rw [this]
    rw [List.take_left]
  have h2 : (l.take p ++ (x ++ l.drop (p + x.length))).drop (p + x.length + y.length) = l.drop (p + (x ++ y).length) := by
    rw [← List.append_assoc, List.drop_append]
    have : (l.take p ++ x).length = p + x.length := by rw [List.length_append, hp]
    rw [this, List.drop_of_length_le (by omega), List.nil_append, List.drop_drop]
    congr 1
    simp; omega
  unfold ovw
  rw [h1, h2]; simp
theorem splice_encs {α : Type} [Enc α] {l x : List α} {p : Nat} : splice (encs l) p (encs x) = encs (ovw l p x) := by
  simp [splice, ovw, encs, List.map_take, List.map_drop]
theorem flat_zero {α : Type} [Enc α] (k : Nat) (z : α) : (List.replicate k [enc z]).flatten = encs (List.replicate k z) := by
  simp [encs]
section
variable {D : Ty}
/-- a row that was there is written -/
theorem RetP.upd1 {rs : List ResultVar} {n n' : Nat} {H H' : IHeap} {ex : Exit} {t : List Value} {id : Nat} {c : List Value} {v : Value} (hx : ex = .normal ∨ ex = .ret) (hr : ires D t H' rs = some v) (hid : id < n) (h0 : (H id).isSome = true)
    (hH : H' id = some (.cells c false)) (hc : ∀ x ∈ c, okN1 (fun i => i < n) x) (hv : okN (fun i => i < n) v) : RetP D rs n H ⟨v, [(id, some (.cells c false))], n⟩ ex t H' n' := by
  refine ⟨hx, ?_⟩
  rw [hr]
  refine ⟨fun i => i, fun i hi => rfl, ren_id v, okN_mono (fun i h => .inl h) hv, ?_, ?_, ?_, ?_, Nat.le_refl _⟩
  · intro i hi o ho
    simp only [Eff.ids, List.map_cons, List.map_nil, List.mem_singleton] at hi
    subst hi
    simp only [upds, upd, if_true, Option.some.injEq] at ho
    subst ho
    refine ⟨?_, ?_⟩
    · rw [hH]
      have : c.map (ren1 fun i => i) = c := by
        conv => rhs; rw [← List.map_id c]
        exact List.map_congr_left fun x _ => ren1_id x
      simp only [renO, this]
    · simp only [okO]
      intro x hx
      exact okN1_mono (fun i h => .inl h) (hc x hx)
  · intro i hi hle
    simp only [Eff.ids, List.map_cons, List.map_nil, List.mem_singleton] at hi
    omega
  · intro i hi j hj e
    exact e
  · intro i hi
    simp only [Eff.ids, List.map_cons, List.map_nil, List.mem_singleton] at hi
    subst hi
    exact ⟨.inr h0, hid⟩
end
theorem u8_okN1 {p : Nat → Prop} (l : List UInt8) : ∀ x ∈ encs l, okN1 p x := fun x hx => by
  simp only [encs, List.mem_map] at hx
  obtain ⟨_, _, rfl⟩ := hx; trivial
/-! memory of cells alone -/
def cellsH (H : IHeap) : IHeap := fun id => match H id with
  | some (.cells c ro) => some (.cells c ro)
  | _ => none
theorem cellsH_le (H : IHeap) : (cellsH H).le H := fun id o h => by
  unfold cellsH at h
  split at h
  · rename_i c ro e; rw [e]; exact h
  · cases h
theorem cellsH_cells {H : IHeap} {id : Nat} {c : List Value} {ro : Bool} (h : H id = some (.cells c ro)) : cellsH H id = some (.cells c ro) := by unfold cellsH; rw [h]
theorem cellsH_is {H : IHeap} {id : Nat} {o : IObj} (h : cellsH H id = some o) : ∃ c ro, o = .cells c ro := by
  unfold cellsH at h
  split at h
  · cases h; exact ⟨_, _, rfl⟩
  · cases h
theorem rdC_cellsH {α : Type} [Row α] {H : IHeap} {x : Value} {l : List α} (h : rdC H x = some l) : rdC (cellsH H) x = some l := by
  obtain ⟨a, cap, rfl⟩ := rdC_len h
  rcases rdC_inv h with ⟨rfl, h2, rfl, rfl⟩ | ⟨id, off, sp, c, ro, rfl, hc, hle, hl, _⟩
  · rfl
  · exact rdC_mk (cellsH_cells hc) hle hl rfl
theorem IW.cells {P : Program} {W : Nat → Prop} {R : Option Nat} {cs : List Code} {Q : PostX} {N : Nat} {L : List (Nat × Value)} {H : IHeap} {n : Nat} (hne : cs ≠ []) (h : IW P W R cs Q (dense N L) (hp (cellsH H) []) n) : IW P W R cs Q (dense N L) (hp H []) n := by
  cases cs with
  | nil => exact (hne rfl).elim
  | cons c cs =>
    exact IWp.forget h (fgt_mk rfl fun i x y h1 h2 => by rw [h1] at h2; cases h2; exact .inr rfl) (cellsH_le H) (Nat.le_refl _)
def allC : Ups → Bool
  | [] => true
  | (_, some (.map _)) :: _ => false
  | _ :: l => allC l
theorem allC_is {H : IHeap} : ∀ {M : Ups}, allC M = true → ∀ id o, hp (cellsH H) M id = some o → ∃ c ro, o = .cells c ro
  | [], _, id, o, h => cellsH_is h
  | (i, x) :: M, hM, id, o, h => by
    by_cases hi : id = i
    · subst hi
      rw [hp_eq] at h
      subst h
      cases o with
      | cells c ro => exact ⟨c, ro, rfl⟩
      | map es => simp [allC] at hM
    · rw [hp_ne _ _ _ hi] at h
      refine allC_is (M := M) ?_ id o h
      cases x with
      | none => exact hM
      | some o' => cases o' with
        | cells c ro => exact hM
        | map es => simp [allC] at hM
theorem ox_makeFunc2 {Γ : Fns} {D : Ty} {K : Kinds} {e : Operand → Value} {H : IHeap} {n : Nat} {f : Fn} {x y : Operand} {v w : Value} (hx : e x = v) (hy : e y = w) : iopC Γ D K e H n (.makeFunc f #[] #[x, y]) = some ⟨.func f #[] #[v, w], [], n⟩ := by
  simp [iopC, iop, hx, hy, Ytdnnojblneccdaa.val]
theorem ox_s2ap {Γ : Fns} {D : Ty} {K : Kinds} {e : Operand → Value} {H : IHeap} {n : Nat} {t el k : Nat} {x : Operand} {id off len cap : Nat} {sp : Option Nat} {d : TD} (hx : e x = .slice (some ⟨id, off, sp⟩) len cap) (hd : D t = some d) (hk : d.k = .arr k el) (h : k ≤ len) : iopC Γ D K e H n (.sliceToArrayPointer t x) = some ⟨.pointer (some ⟨id, off, none⟩), [], n⟩ := by
  simp [iopC, iop, hx, hd, hk, h, Ytdnnojblneccdaa.val]
theorem leX_none {H : IHeap} {ks : List Nat} {n : Nat} {B : Ups} (hf : ∀ id, n ≤ id → H id = none) (hB : wAll (fun m => n ≤ m) B) : leX H ks [] B := fun id o _ e => hp_keep hf e hB
theorem ox_slAH {Γ : Fns} {D : Ty} {K : Kinds} {e : Operand → Value} {H : IHeap} {n : Nat} {t : TypeId} {x : Operand} {hi : Option Operand} {id off len el h : Nat} {d de : TD} (hx : e x = .pointer (some ⟨id, off, none⟩)) (hd : D t = some d) (hk : d.k = .arr len el) (hde : D el = some de) (hhi : bnd (hi.map e) len = some h) (hle : h ≤ len) :
    iopC Γ D K e H n (.slice t x none hi none) = some ⟨.slice (some ⟨id, off, none⟩) h len, [], n⟩ := by
  refine ox_slA hx hd hk hde ?_
  have hm : bnd (Option.map e none) len = some len := rfl
  have hl : bnd (Option.map e none) 0 = some 0 := rfl
  simp only [sliceIt, hl, hhi, hm]
  rw [if_pos ⟨Nat.zero_le _, hle, Nat.le_refl _, by simp⟩]
  show some (Value.slice (some (if len = 0 then _ else _)) _ _) = _
  have : (if len = 0 then (⟨id, off, none⟩ : Addr) else goOn ⟨id, off, none⟩ (0 * de.size)) = ⟨id, off, none⟩ := by split <;> simp [goOn]
  rw [this]; rfl
end Go.Proofs.Ytdnnojblneccdaa
/-
  Lists in memory, read and written element by element.
-/
namespace Go.Proofs.Ytdnnojblneccdaa
set_option linter.unusedSimpArgs false
set_option linter.unusedVariables false
open Go
open Enc (enc)
open Row (cel)

instance : Row UInt32 := ⟨fun a => [enc a], 1, by decide, fun _ => rfl, fun a b h => Enc.inj a b (by simpa using h), fun _ => rfl, fun _ => rfl⟩
/-- one cell each -/
class Row1 (α : Type) extends Row α where
  one : ∀ a : α, cel a = [enc a]
instance : Row1 UInt8 := ⟨fun _ => rfl⟩
instance : Row1 UInt32 := ⟨fun _ => rfl⟩
instance : Row1 UInt64 := ⟨fun _ => rfl⟩
instance : Row1 Int := ⟨fun _ => rfl⟩
instance : Row1 Sl := ⟨fun _ => rfl⟩
section
variable {α : Type} [Row1 α]
theorem cels_one : ∀ l : List α, cels l = encs l
  | [] => rfl
  | a :: l => by rw [cels_cons, cels_one l, Row1.one]; rfl
end
/-- where a slice lies -/
def adrId : Value → Nat
  | .slice (some a) _ _ => a.block
  | _ => 0
def adrOff : Value → Nat
  | .slice (some a) _ _ => a.off
  | _ => 0
section
variable {α : Type} [Row α]
theorem rdC_row {H : IHeap} {v : Value} {l : List α} {i : Nat} (h : rdC H v = some l) (hi : i < l.length) : ∃ c ro, H (adrId v) = some (.cells c ro) ∧ (c.drop (adrOff v)).take (l.length * Row.sz α) = cels l := by
  obtain ⟨a, cap, rfl⟩ := rdC_len h
  obtain ⟨id, off, sp, c, ro, rfl, h1, h2⟩ := rdC_at h hi
  exact ⟨c, ro, h1, h2⟩
variable {Γ : Fns} {D : Ty} {K : Kinds} {e : Operand → Value} {H : IHeap} {n : Nat}
theorem ox_iaC {t : TypeId} {x y : Operand} {v : Value} {el : Nat} {k : IntKind} {j : Int} {d de : TD} {l : List α} (i : Nat) (hx : e x = v) (hy : e y = .int k j) (hd : D t = some d) (hk : d.k = .slice el) (hde : D el = some de) (hs : de.size = Row.sz α) (hl : rdC H v = some l) (hj : j = i) (hi : i < l.length) :
    iopC Γ D K e H n (.indexAddr t x y) = some ⟨.pointer (some ⟨adrId v, adrOff v + i * Row.sz α, none⟩), [], n⟩ := by
  obtain ⟨a, cap, rfl⟩ := rdC_len hl
  obtain ⟨id, off, sp, c, ro, rfl, h1, h2⟩ := rdC_at hl hi
  subst hj
  rw [ox_iaS hx hy hd hk hde (by omega) (by omega), hs]
  rfl
end
section
variable {α : Type} [Row1 α] {Γ : Fns} {D : Ty} {K : Kinds} {e : Operand → Value} {H : IHeap} {n : Nat}
theorem ox_ldC {t : TypeId} {a : Operand} {d : TD} {v : Value} {l : List α} (i : Nat) (z : α) (ha : e a = .pointer (some ⟨adrId v, adrOff v + i * Row.sz α, none⟩)) (hd : D t = some d) (hk : d.k.isAgg = false) (hl : rdC H v = some l) (hi : i < l.length) :
    iopC Γ D K e H n (.load t a) = some ⟨enc (l.getD i z), [], n⟩ := by
  obtain ⟨c, ro, h1, h2⟩ := rdC_row hl hi
  refine ox_load ha hd h1 ?_
  obtain ⟨A, C, hc, hA⟩ := cels_at h2 hi
  refine rd_one (A := A) (C := C) hk ?_ hA
  rw [hc, Row1.one, List.getD_eq_getElem?_getD, List.getElem?_eq_getElem hi]; rfl
theorem rdC_1all {H : IHeap} {id len cap : Nat} {sp : Option Nat} {ro : Bool} {l : List α} (hH : H id = some (.cells (encs l) ro)) (hl : l.length = len) : rdC H (.slice (some ⟨id, 0, sp⟩) len cap) = some l := by
  rw [← cels_one] at hH
  exact rdC_all hH hl
theorem encs_known1 (l : List α) : (encs l).all known = true := by rw [← cels_one]; exact cels_known l
end
/-- bytes as bytes of another name: the row is marked -/
theorem ox_cvSl {Γ : Fns} {D : Ty} {K : Kinds} {e : Operand → Value} {H : IHeap} {n : Nat} {t : TypeId} {x : Operand} {id off len cap el : Nat} {d de : TD} {c : List Value} (hx : e x = .slice (some ⟨id, off, none⟩) len cap) (hd : D t = some d) (hk : d.k = .slice el) (hde : D el = some de) (hdk : de.k = .int .u8) (hH : H id = some (.cells c false)) :
    iopC Γ D K e H n (.convert t t x) = some ⟨.slice (some ⟨id, off, none⟩) len cap, [(id, some (.cells c false))], n⟩ := by
  simp only [iopC, iop, doConvert, hx, hd, hk, hde, Option.bind_some, hdk, hH]
  simp
/-- a call of what a variable holds -/
theorem ox_fnT {Γ : Fns} {D : Ty} {K : Kinds} {H : IHeap} {n N u : Nat} {L : List (Nat × Value)} {f : FuncId} {args : Array Operand} {ats : Array TypeId} {F : FnI} {ef : Eff} {vs : List Value} (hu : opd N L (.tmp u) = some (.func (.func f) #[] #[])) (hF : Γ.lookup f = some F) (ha : opds N L args.toList = some vs) (h : F vs H n = some ef) :
    iopC Γ D K (ev (dense N L)) H n (.call ⟨.value (.tmp u), args, ats⟩) = some ef := by
  have h1 := pl hu
  simp only [iopC, h1, hF, Option.bind_some]
  simp only [List.nil_append, List.append_nil, opds_ev ha]
  exact h
/-- numbers of 64 bits, of 32 bits: no addresses -/
theorem n64_plain (l : List UInt64) : (cels l).all plain = true := by
  rw [List.all_eq_true, cels_one]
  intro x hx
  simp only [encs, List.mem_map] at hx
  obtain ⟨_, _, rfl⟩ := hx; rfl
theorem n32_plain (l : List UInt32) : (cels l).all plain = true := by
  rw [List.all_eq_true, cels_one]
  intro x hx
  simp only [encs, List.mem_map] at hx
  obtain ⟨_, _, rfl⟩ := hx; rfl
end Go.Proofs.Ytdnnojblneccdaa
/-
  Blocks: Compare; lists of digests.
-/
namespace Go.Proofs.Ytdnnojblneccdaa
set_option linter.unusedSimpArgs false
set_option linter.unusedVariables false
open Go
open Enc (enc)
set_option maxRecDepth 100000

abbrev Dig := Vector UInt8 32
instance : Row Block := ⟨Block.cells, 131, by decide, Block.cells_length, fun _ _ h => Block.cells_inj h, Block.cells_known, fun _ => rfl⟩
noncomputable def F19 : FnI := fn2 fun (a b : Dig) => .int .i64 (cmpL a.toList b.toList)
-- headwater/block.Compare ['Vector UInt8 32', 'Vector UInt8 32'] -> ['Int'], results [4]
theorem R19 : Ref Try.prog 19 F19 := by
  refine Ref.of_iw dok Try.func19 rfl (by kernel_rfl) fun args H n e hF => ?_
  obtain ⟨a, b, rfl, rfl⟩ := fn2_inv hF
  refine ⟨Nat.le_of_ble_eq_true rfl, ?_⟩
  simp only [idxL]
  have hE : Env Try.prog [(62, F62)] D K := env (fnsOk_cons R62 fnsOk_nil)
  refine IW.seq ?_
  refine IW.reg hE ?_
  refine vcS_new rfl rfl (ox_box (pl rfl) rfl) (.inl (by omega)) ?_
  refine vcS_new rfl rfl (ox_box (pl rfl) rfl) (.inl (by omega)) ?_
  refine vcS_val rfl rfl (ox_assign (pl rfl)) ?_
  refine vcS_nil ?_
  refine IW.seq ?_
  refine IW.drw hE mixed [[],[],[0,1],[0,1,2]] (by kernel_rfl) (vcE_start ?_)
  refine vcE_bl rfl rfl (fun _ => ox_slAll (pl rfl) D_24 rfl D_5) rfl rfl ?_
  refine vcE_bl rfl rfl (fun _ => ox_slAll (pl rfl) D_24 rfl D_5) rfl rfl ?_
  refine vcE_call rfl rfl rfl rfl (ox_fn rfl rfl (F82_ev (rs_all (hp_sk (by omega) (hp_eq _ _ _ _)) rfl (by simp)) (rs_all (hp_eq _ _ _ _) rfl (by simp)))) rfl ltu0 (trivial) ?_
  refine vcE_bl rfl rfl (fun _ => ox_assign (pl rfl)) rfl rfl ?_
  refine vcE_nil ?_
  refine IW.ret ?_
  exact RetP.ret (.inr rfl) rfl rfl trivial (rfl)
/-- two lists of digests -/
noncomputable def F23 : FnI := fun args H n => match args with
  | [x, y] => (rdC H x).bind fun (a : List Dig) => (rdC H y).bind fun (b : List Dig) => if a.length ≤ 2 ^ 47 then some ⟨.bool (a == b), [], n⟩ else none
  | _ => none
theorem F23_inv {args : List Value} {H : IHeap} {n : Nat} {e : Eff} (h : F23 args H n = some e) : ∃ xa xc ya yc, ∃ a b : List Dig, args = [.slice xa a.length xc, .slice ya b.length yc] ∧ rdC H (.slice xa a.length xc) = some a ∧ rdC H (.slice ya b.length yc) = some b ∧ a.length ≤ 2 ^ 47 ∧ e = ⟨.bool (a == b), [], n⟩ := by
  unfold F23 at h; split at h
  · simp only [Option.bind_eq_some_iff] at h
    obtain ⟨a, ha, b, hb, h⟩ := h
    split at h
    · rename_i hle
      cases h
      obtain ⟨xa, xc, rfl⟩ := rdC_len ha
      obtain ⟨ya, yc, rfl⟩ := rdC_len hb
      exact ⟨xa, xc, ya, yc, a, b, rfl, ha, hb, hle, rfl⟩
    · cases h
  · cases h
theorem F23_ev {x y : Value} {H : IHeap} {n : Nat} {a b : List Dig} (ha : rdC H x = some a) (hb : rdC H y = some b) (hle : a.length ≤ 2 ^ 47) : F23 [x, y] H n = some ⟨.bool (a == b), [], n⟩ := by
  simp only [F23, ha, hb, Option.bind_some, if_pos hle]
theorem beq_ne {a b : List Dig} (h : ¬ a = b) : (a == b) = false := by simpa using h
theorem beq_take {a b : List Dig} {s : Nat} (hab : a.length = b.length) (h : a.take s = b.take s) (hs : a.length ≤ s) : (a == b) = true := by
  rw [List.take_of_length_le hs, List.take_of_length_le (by omega)] at h
  simpa using h
theorem take_next {a b : List Dig} {s : Nat} (h : a.take s = b.take s) (h1 : s < a.length) (h2 : s < b.length) (h3 : a[s] = b[s]) : a.take (s + 1) = b.take (s + 1) := by
  rw [List.take_succ_eq_append_getElem h1, List.take_succ_eq_append_getElem h2, h, h3]
-- headwater/headwaterkit.Digests ['Sl', 'Sl'] -> ['Bool'], results [4]
theorem R23 : Ref Try.prog 23 F23 := by
  refine Ref.of_iw dok Try.func23 rfl (by kernel_rfl) fun args H n e hF => ?_
  obtain ⟨xa, xc, ya, yc, a, b, rfl, ha, hb, hle, rfl⟩ := F23_inv hF
  refine ⟨Nat.le_of_ble_eq_true rfl, ?_⟩
  simp only [idxL]
  have hE : Env Try.prog [] D K := env fnsOk_nil
  refine IW.seq ?_
  refine IW.reg hE ?_
  refine vcS_val rfl rfl (ox_assign (pl rfl)) ?_
  refine vcS_nil ?_
  refine IW.seq ?_
  refine IW.seq ?_
  refine IW.reg hE ?_
  refine vcS_val rfl rfl (ox_move (pl rfl)) ?_
  refine vcS_val rfl rfl (ox_len (pl rfl) D_34 rfl) ?_
  refine vcS_val rfl rfl (ox_move (pl rfl)) ?_
  refine vcS_val rfl rfl (ox_len (pl rfl) D_34 rfl) ?_
  refine vcS_val rfl rfl (ox_bin (pl rfl) (pl rfl) (bo_i64_neq _ _)) ?_
  refine vcS_nil ?_
  refine IW.cond rfl (fun hc1 => ?_) (fun hc1 => ?_)
  · refine IW.seq ?_
    refine IW.reg hE ?_
    refine vcS_val rfl rfl (ox_assign (pl rfl)) ?_
    refine vcS_nil ?_
    refine IW.ret ?_
    exact RetP.ret (.inr rfl) rfl rfl trivial (by rw [beq_ne (fun e => by subst e; simp at hc1)])
  · have hab : a.length = b.length := by have := bne_eq_false_iff_eq.1 hc1; omega
    refine IW.skip ?_
    refine IW.seq ?_
    refine IW.seq ?_
    refine IW.reg hE ?_
    refine vcS_val rfl rfl (ox_assign (pl rfl)) ?_
    refine vcS_nil ?_
    refine IW.block ?_
    refine IW.loop (S := Nat) (fun s => [(0, .slice xa a.length xc), (1, .slice ya b.length yc), (5, .int .i64 s)]) (fun s => []) (fun s => n) (fun s => s ≤ a.length ∧ a.take s = b.take s) (fun s => a.length - s) (0) (by simp) (⟨rfl, ⟨rfl, ⟨rfl, trivial⟩⟩⟩) (fun _ _ h => h) (Nat.le_refl _) (fun s hs => ?_)
    obtain ⟨hs1, hs2⟩ := hs
    refine IW.seq ?_
    refine IW.seq ?_
    refine IW.reg hE ?_
    refine vcS_val rfl rfl (ox_move (pl rfl)) ?_
    refine vcS_val rfl rfl (ox_move (pl rfl)) ?_
    refine vcS_val rfl rfl (ox_len (pl rfl) D_34 rfl) ?_
    refine vcS_val rfl rfl (ox_bin (pl rfl) (pl rfl) (bo_i64_lss _ _)) ?_
    refine vcS_nil ?_
    refine IW.cond rfl (fun hc2 => ?_) (fun hc2 => ?_)
    · replace hc2 := of_decide_eq_true hc2
      have hc2 : s < a.length := by omega
      have hc2b : s < b.length := by omega
      obtain ⟨i1, o1, p1, c1, r1, e1, m1, l1⟩ := rdC_at ha hc2
      obtain ⟨i2, o2, p2, c2, r2, e2, m2, l2⟩ := rdC_at hb hc2b
      subst e1
      subst e2
      refine IW.lt (by simp) (id := i1) m1 (fun hi1 => ?_)
      refine IW.lt (by simp) (id := i2) m2 (fun hi2 => ?_)
      refine IW.skip ?_
      refine IW.seq ?_
      refine IW.block ?_
      refine IW.seq ?_
      refine IW.drw hE mixed [[],[],[0,1],[0,1,2],[],[],[4,5],[4,5,6],[0,1,2,3,4,5,6,7]] (by kernel_rfl) (vcE_start ?_)
      refine vcE_bl rfl rfl (fun _ => ox_move (pl rfl)) rfl rfl ?_
      refine vcE_bl rfl rfl (fun _ => ox_move (pl rfl)) rfl rfl ?_
      refine vcE_bl rfl rfl (fun _ => ox_iaS (pl rfl) (pl rfl) D_34 rfl D_24 (by omega) (by omega)) rfl rfl ?_
      refine vcE_val rfl rfl rfl rfl (ox_load (pl rfl) D_24 m1 (rd_cel l1 hc2 rfl rfl rfl)) rfl (si_load (pl rfl)) (lt1 (by omega)) (trivial) ?_
      refine vcE_bl rfl rfl (fun _ => ox_move (pl rfl)) rfl rfl ?_
      refine vcE_bl rfl rfl (fun _ => ox_move (pl rfl)) rfl rfl ?_
      refine vcE_bl rfl rfl (fun _ => ox_iaS (pl rfl) (pl rfl) D_34 rfl D_24 (by omega) (by omega)) rfl rfl ?_
      refine vcE_val rfl rfl rfl rfl (ox_load (pl rfl) D_24 m2 (rd_cel l2 hc2b rfl rfl rfl)) rfl (si_load (pl rfl)) (lt1 (by omega)) (trivial) ?_
      refine vcE_bl rfl rfl (fun _ => ox_bin (pl rfl) (pl rfl) (ne_vec K_24 cellEq_u8 _ _)) rfl rfl ?_
      refine vcE_nil ?_
      refine IW.cond rfl (fun hc3 => ?_) (fun hc3 => ?_)
      · have hc3 : ¬ a[s] = b[s] := by simpa using hc3
        refine IW.seq ?_
        refine IW.reg hE ?_
        refine vcS_val rfl rfl (ox_assign (pl rfl)) ?_
        refine vcS_nil ?_
        refine IW.ret ?_
        refine retB ?_
        refine retS (retS ?_)
        refine retB ?_
        exact RetP.ret (.inr rfl) rfl rfl trivial (by rw [beq_ne (fun e => by subst e; exact hc3 rfl)])
      · have hc3 : a[s] = b[s] := by simpa using hc3
        refine IW.skip ?_
        refine IW.nilB ?_
        refine IW.reg hE ?_
        refine vcS_val rfl rfl (ox_move (pl rfl)) ?_
        refine vcS_val rfl rfl (ox_bin (pl rfl) (pl rfl) (bo_i64_add (by omega))) ?_
        refine vcS_val rfl rfl (ox_assign (pl rfl)) ?_
        refine vcS_nil ?_
        refine IW.nilS ?_
        exact ⟨s + 1, _, _, ⟨by omega, take_next hs2 hc2 hc2b hc3⟩, by omega, rfl, ⟨rfl, ⟨rfl, ⟨rfl, trivial⟩⟩⟩, rfl, fun _ _ h => h, Nat.le_refl _⟩
    · replace hc2 := of_decide_eq_false hc2
      refine IW.exit ?_
      refine exS (exS ?_)
      refine blkQ_exit ?_
      refine IW.seq ?_
      refine IW.reg hE ?_
      refine vcS_val rfl rfl (ox_assign (pl rfl)) ?_
      refine vcS_nil ?_
      refine IW.ret ?_
      exact RetP.ret (.inr rfl) rfl rfl trivial (by rw [beq_take hab hs2 (by omega)])
end Go.Proofs.Ytdnnojblneccdaa
/-
  Lists of blocks: LightBlocks.
-/
namespace Go.Proofs.Ytdnnojblneccdaa
set_option linter.unusedSimpArgs false
set_option linter.unusedVariables false
open Go
open Enc (enc)
set_option maxRecDepth 100000

def heavyB (b : Block) : Bool := decide ((40 : Int) < b.links.len) || decide ((2000 : Int) < b.data.len)
def lightL (l : List Block) (m : Int) : Bool := !decide (m < l.length) && l.all fun b => !heavyB b
noncomputable def F18 : FnI := fun args H n => match args with
  | [x, .int .i64 m] => (rdC H x).bind fun (l : List Block) => if l.length ≤ 2 ^ 47 then some ⟨.bool (lightL l m), [], n⟩ else none
  | _ => none
theorem F18_inv {args : List Value} {H : IHeap} {n : Nat} {e : Eff} (h : F18 args H n = some e) : ∃ xa xc m, ∃ l : List Block, args = [.slice xa l.length xc, .int .i64 m] ∧ rdC H (.slice xa l.length xc) = some l ∧ l.length ≤ 2 ^ 47 ∧ e = ⟨.bool (lightL l m), [], n⟩ := by
  unfold F18 at h; split at h
  · simp only [Option.bind_eq_some_iff] at h
    obtain ⟨l, hl, h⟩ := h
    split at h
    · rename_i hle
      cases h
      obtain ⟨xa, xc, rfl⟩ := rdC_len hl
      exact ⟨xa, xc, _, l, rfl, hl, hle, rfl⟩
    · cases h
  · cases h
theorem F18_ev {x : Value} {H : IHeap} {n : Nat} {m : Int} {l : List Block} (hl : rdC H x = some l) (hle : l.length ≤ 2 ^ 47) : F18 [x, .int .i64 m] H n = some ⟨.bool (lightL l m), [], n⟩ := by
  simp only [F18, hl, Option.bind_some, if_pos hle]
theorem light1 {l : List Block} {m : Int} (h : m < l.length) : lightL l m = false := by simp [lightL, h]
theorem light2 {l : List Block} {m : Int} {s : Nat} (hs : s < l.length) (h : heavyB l[s] = true) : lightL l m = false := by
  have : l.all (fun b => !heavyB b) = false := by
    rw [List.all_eq_false]
    exact ⟨l[s], List.getElem_mem hs, by simp [h]⟩
  simp [lightL, this]
theorem light3 {l : List Block} {m : Int} {s : Nat} (hs : l.length ≤ s) (hm : ¬ m < l.length) (h : ∀ b ∈ l.take s, heavyB b = false) : lightL l m = true := by
  rw [List.take_of_length_le hs] at h
  simp only [lightL, Bool.and_eq_true, Bool.not_eq_true', decide_eq_false_iff_not, List.all_eq_true]
  exact ⟨hm, h⟩
theorem light_next {l : List Block} {s : Nat} (hs : s < l.length) (h : ∀ b ∈ l.take s, heavyB b = false) (h1 : heavyB l[s] = false) : ∀ b ∈ l.take (s + 1), heavyB b = false := by
  intro b hb
  rw [List.take_succ_eq_append_getElem hs] at hb
  rcases List.mem_append.1 hb with h2 | h2
  · exact h b h2
  · simp only [List.mem_singleton] at h2; rw [h2, h1]
-- headwater/headwaterkit.LightBlocks ['Sl', 'Int'] -> ['Bool'], results [4]
theorem R18 : Ref Try.prog 18 F18 := by
  refine Ref.of_iw dok Try.func18 rfl (by kernel_rfl) fun args H n e hF => ?_
  obtain ⟨xa, xc, m, l, rfl, ha, hle, rfl⟩ := F18_inv hF
  refine ⟨Nat.le_of_ble_eq_true rfl, ?_⟩
  simp only [idxL]
  have hE : Env Try.prog [] D K := env fnsOk_nil
  refine IW.seq ?_
  refine IW.reg hE ?_
  refine vcS_val rfl rfl (ox_assign (pl rfl)) ?_
  refine vcS_nil ?_
  refine IW.seq ?_
  refine IW.seq ?_
  refine IW.reg hE ?_
  refine vcS_val rfl rfl (ox_move (pl rfl)) ?_
  refine vcS_val rfl rfl (ox_len (pl rfl) D_39 rfl) ?_
  refine vcS_val rfl rfl (ox_move (pl rfl)) ?_
  refine vcS_val rfl rfl (ox_bin (pl rfl) (pl rfl) (bo_i64_gtr _ _)) ?_
  refine vcS_nil ?_
  refine IW.cond rfl (fun hc1 => ?_) (fun hc1 => ?_)
  · replace hc1 := of_decide_eq_true hc1
    refine IW.seq ?_
    refine IW.reg hE ?_
    refine vcS_val rfl rfl (ox_assign (pl rfl)) ?_
    refine vcS_nil ?_
    refine IW.ret ?_
    exact RetP.ret (.inr rfl) rfl rfl trivial (by rw [light1 hc1])
  · replace hc1 := of_decide_eq_false hc1
    refine IW.skip ?_
    refine IW.seq ?_
    refine IW.seq ?_
    refine IW.reg hE ?_
    refine vcS_val rfl rfl (ox_assign (pl rfl)) ?_
    refine vcS_nil ?_
    refine IW.block ?_
    refine IW.loop (S := Nat) (fun s => [(0, .slice xa l.length xc), (5, .int .i64 s)]) (fun s => []) (fun s => n) (fun s => s ≤ l.length ∧ ∀ b ∈ l.take s, heavyB b = false) (fun s => l.length - s) (0) (by simp) (⟨rfl, ⟨rfl, trivial⟩⟩) (fun _ _ h => h) (Nat.le_refl _) (fun s hs => ?_)
    obtain ⟨hs1, hs2⟩ := hs
    refine IW.seq ?_
    refine IW.seq ?_
    refine IW.reg hE ?_
    refine vcS_val rfl rfl (ox_move (pl rfl)) ?_
    refine vcS_val rfl rfl (ox_move (pl rfl)) ?_
    refine vcS_val rfl rfl (ox_len (pl rfl) D_39 rfl) ?_
    refine vcS_val rfl rfl (ox_bin (pl rfl) (pl rfl) (bo_i64_lss _ _)) ?_
    refine vcS_nil ?_
    refine IW.cond rfl (fun hc2 => ?_) (fun hc2 => ?_)
    · replace hc2 := of_decide_eq_true hc2
      have hc2 : s < l.length := by omega
      obtain ⟨i1, o1, p1, c1, r1, e1, m1, l1⟩ := rdC_at ha hc2
      subst e1
      refine IW.skip ?_
      refine IW.seq ?_
      refine IW.block ?_
      refine IW.seq ?_
      refine IW.reg hE ?_
      refine vcS_val rfl rfl (ox_move (pl rfl)) ?_
      refine vcS_val rfl rfl (ox_move (pl rfl)) ?_
      refine vcS_val rfl rfl (ox_iaS (pl rfl) (pl rfl) D_39 rfl D_37 (by omega) (by omega)) ?_
      refine vcS_val rfl rfl (ox_fieldAddr (pl rfl) D_37 rfl rfl D_34 (by decide)) ?_
      refine vcS_val rfl rfl (ox_load (pl rfl) D_34 m1 (rd_celIn l1 hc2 (rd_37_3 _ rfl) rfl)) ?_
      refine vcS_val rfl rfl (ox_len (pl rfl) D_34 rfl) ?_
      refine vcS_val rfl rfl (ox_bin (pl rfl) (pl rfl) (bo_i64_gtr _ _)) ?_
      refine vcS_val rfl rfl (ox_move (pl rfl)) ?_
      refine vcS_opt rfl (wgF rfl rfl rfl) (fun hb => ox_move (pl rfl)) ?_
      refine vcS_opt rfl (wgF rfl rfl rfl) (fun hb => ox_move (pl rfl)) ?_
      refine vcS_opt rfl (wgF rfl rfl rfl) (fun hb => ox_iaS (gd hb rfl) (gd hb rfl) D_39 rfl D_37 (by omega) (by omega)) ?_
      refine vcS_opt rfl (wgF rfl rfl rfl) (fun hb => ox_fieldAddr (gd hb rfl) D_37 rfl rfl D_35 (by decide)) ?_
      refine vcS_opt rfl (wgF rfl rfl rfl) (fun hb => ox_load (gd hb rfl) D_35 m1 (rd_celIn l1 hc2 (rd_37_4 _ rfl) rfl)) ?_
      refine vcS_opt rfl (wgF rfl rfl rfl) (fun hb => ox_len (gd hb rfl) D_35 rfl) ?_
      refine vcS_opt rfl (wgF rfl rfl rfl) (fun hb => ox_bin (gd hb rfl) (pl rfl) (bo_i64_gtr _ _)) ?_
      refine vcS_val rfl rfl (ox_or (pl rfl) (pl rfl) (fun hc => gd (by rw [hc]; rfl) rfl)) ?_
      refine vcS_nil ?_
      refine IW.cond rfl (fun hc3 => ?_) (fun hc3 => ?_)
      · refine IW.seq ?_
        refine IW.reg hE ?_
        refine vcS_val rfl rfl (ox_assign (pl rfl)) ?_
        refine vcS_nil ?_
        refine IW.ret ?_
        refine retB ?_
        refine retS (retS ?_)
        refine retB ?_
        exact RetP.ret (.inr rfl) rfl rfl trivial (by rw [light2 hc2 hc3])
      · refine IW.skip ?_
        refine IW.nilB ?_
        refine IW.reg hE ?_
        refine vcS_val rfl rfl (ox_move (pl rfl)) ?_
        refine vcS_val rfl rfl (ox_bin (pl rfl) (pl rfl) (bo_i64_add (by omega))) ?_
        refine vcS_val rfl rfl (ox_assign (pl rfl)) ?_
        refine vcS_nil ?_
        refine IW.nilS ?_
        exact ⟨s + 1, _, _, ⟨by omega, light_next hc2 hs2 hc3⟩, by omega, rfl, ⟨rfl, ⟨rfl, trivial⟩⟩, rfl, fun _ _ h => h, Nat.le_refl _⟩
    · replace hc2 := of_decide_eq_false hc2
      refine IW.exit ?_
      refine exS (exS ?_)
      refine blkQ_exit ?_
      refine IW.seq ?_
      refine IW.reg hE ?_
      refine vcS_val rfl rfl (ox_assign (pl rfl)) ?_
      refine vcS_nil ?_
      refine IW.ret ?_
      exact RetP.ret (.inr rfl) rfl rfl trivial (by rw [light3 (by omega) hc1 hs2])
end Go.Proofs.Ytdnnojblneccdaa
/-
  Copies: Own, Names, slices.Clone.
-/
namespace Go.Proofs.Ytdnnojblneccdaa
set_option linter.unusedSimpArgs false
set_option linter.unusedVariables false
open Go
open Enc (enc)
set_option maxRecDepth 100000

/-- a new slice with these members: what append makes of an empty literal -/
def freshV (sz n k : Nat) : Value := if k = 0 then .slice (some ⟨n, 0, none⟩) 0 0 else .slice (some ⟨n, 0, some sz⟩) k k
def freshE {α : Type} [Row α] (n : Nat) (l : List α) : Eff := ⟨freshV (Row.sz α) n l.length, [(n, some (.cells (cels l) false))], n + 1⟩
noncomputable def copyF (α : Type) [Row α] (bytes : Nat) : FnI := fun args H n => match args with
  | [x] => (rdC H x).bind fun (l : List α) => if l.length * bytes ≤ most then some (freshE n l) else none
  | _ => none
theorem copyF_inv {α : Type} [Row α] {bytes : Nat} {args : List Value} {H : IHeap} {n : Nat} {e : Eff} (h : copyF α bytes args H n = some e) : ∃ x, ∃ l : List α, args = [x] ∧ rdC H x = some l ∧ l.length * bytes ≤ most ∧ e = freshE n l := by
  unfold copyF at h; split at h
  · simp only [Option.bind_eq_some_iff] at h
    obtain ⟨l, hl, h⟩ := h
    split at h
    · rename_i hle; cases h; exact ⟨_, l, rfl, hl, hle, rfl⟩
    · cases h
  · cases h
theorem copyF_ev {α : Type} [Row α] {bytes : Nat} {x : Value} {H : IHeap} {n : Nat} {l : List α} (hl : rdC H x = some l) (hle : l.length * bytes ≤ most) : copyF α bytes [x] H n = some (freshE n l) := by
  simp only [copyF, hl, Option.bind_some, if_pos hle]
theorem u8_plain (l : List UInt8) : (cels l).all plain = true := by
  simp only [cels, List.all_flatMap, List.all_eq_true]
  intro a _ x hx
  simp only [Row.cel, List.mem_singleton] at hx
  subst hx; rfl
noncomputable def F36 : FnI := copyF UInt8 1
theorem R36 : Ref Try.prog 36 F36 := by
  refine Ref.of_iw dok Try.func36 rfl (by kernel_rfl) fun args H n e hF => ?_
  obtain ⟨x, l, rfl, hl, hle, rfl⟩ := copyF_inv hF
  refine ⟨Nat.le_of_ble_eq_true rfl, ?_⟩
  simp only [idxL]
  have hE : Env Try.prog [] D K := env fnsOk_nil
  refine IW.seq ?_
  refine IW.reg hE ?_
  refine vcS_val rfl rfl (ox_assign (pl rfl)) ?_
  refine vcS_nil ?_
  refine IW.ltC (by simp) hl (fun hlt => ?_)
  refine IW.seq ?_
  refine IW.reg hE ?_
  refine vcS_new rfl rfl (ox_bs0 D_35 rfl D_5) (.inl (by omega)) ?_
  refine vcS_val rfl rfl (ox_move (pl rfl)) ?_
  have hl1 := rdC_hp (H := H) (M := []) (o := some (.cells [] false)) (m := n) hl hlt (Nat.le_refl _)
  by_cases h0 : l = []
  · subst h0
    refine vcS_val rfl rfl (ox_app0 (α := UInt8) (pl rfl) (pl rfl) D_35 rfl D_5 D_35 rfl rfl hl1 rfl (Nat.le_refl _)) ?_
    refine vcS_val rfl rfl (ox_assign (pl rfl)) ?_
    refine vcS_nil ?_
    refine IW.ret ?_
    exact RetP.new1 (.inr rfl) (ires_tmp rfl) (Nat.le_refl _) (hp_eq _ _ _ _) rfl
  · refine vcS_new rfl rfl (ox_app1 (pl rfl) (pl rfl) D_35 rfl D_5 D_35 rfl rfl hl1 h0 rfl (fun b hb => by cases hb; exact ⟨false, hp_eq _ _ _ _, rfl⟩) hle (by decide)) (.inl (by omega)) ?_
    refine vcS_val rfl rfl (ox_assign (pl rfl)) ?_
    refine vcS_nil ?_
    refine IW.ret ?_
    have e0 : l.length ≠ 0 := by simpa using h0
    simp only [freshE, freshV, if_neg e0]
    exact RetP.new1 (.inr rfl) (ires_tmp rfl) (Nat.le_succ _) (hp_eq _ _ _ _) (u8_plain l)
theorem dig_plain (l : List Dig) : (cels l).all plain = true := by
  simp only [cels, List.all_flatMap, List.all_eq_true]
  intro a _ x hx
  have hx : x ∈ encs a.toList := hx
  simp only [encs, List.mem_map] at hx
  obtain ⟨b, _, rfl⟩ := hx
  rfl
noncomputable def F66 : FnI := copyF Dig 32
theorem R66 : Ref Try.prog 66 F66 := by
  refine Ref.of_iw dok Try.func66 rfl (by kernel_rfl) fun args H n e hF => ?_
  obtain ⟨x, l, rfl, hl, hle, rfl⟩ := copyF_inv hF
  refine ⟨Nat.le_of_ble_eq_true rfl, ?_⟩
  simp only [idxL]
  have hE : Env Try.prog [] D K := env fnsOk_nil
  refine IW.seq ?_
  refine IW.reg hE ?_
  refine vcS_val rfl rfl (ox_assign (pl rfl)) ?_
  refine vcS_nil ?_
  refine IW.ltC (by simp) hl (fun hlt => ?_)
  refine IW.seq ?_
  refine IW.reg hE ?_
  refine vcS_new rfl rfl (ox_bs0 D_34 rfl D_24) (.inl (by omega)) ?_
  refine vcS_val rfl rfl (ox_move (pl rfl)) ?_
  have hl1 := rdC_hp (H := H) (M := []) (o := some (.cells [] false)) (m := n) hl hlt (Nat.le_refl _)
  by_cases h0 : l = []
  · subst h0
    refine vcS_val rfl rfl (ox_app0 (α := Dig) (pl rfl) (pl rfl) D_34 rfl D_24 D_34 rfl rfl hl1 rfl (Nat.le_refl _)) ?_
    refine vcS_val rfl rfl (ox_assign (pl rfl)) ?_
    refine vcS_nil ?_
    refine IW.ret ?_
    exact RetP.new1 (.inr rfl) (ires_tmp rfl) (Nat.le_refl _) (hp_eq _ _ _ _) rfl
  · refine vcS_new rfl rfl (ox_app1 (pl rfl) (pl rfl) D_34 rfl D_24 D_34 rfl rfl hl1 h0 rfl (fun b hb => by cases hb; exact ⟨false, hp_eq _ _ _ _, rfl⟩) hle (by decide)) (.inl (by omega)) ?_
    refine vcS_val rfl rfl (ox_assign (pl rfl)) ?_
    refine vcS_nil ?_
    refine IW.ret ?_
    have e0 : l.length ≠ 0 := by simpa using h0
    simp only [freshE, freshV, if_neg e0]
    exact RetP.new1 (.inr rfl) (ires_tmp rfl) (Nat.le_succ _) (hp_eq _ _ _ _) (dig_plain l)
end Go.Proofs.Ytdnnojblneccdaa
/-
  slices.Clone.
-/
namespace Go.Proofs.Ytdnnojblneccdaa
set_option linter.unusedSimpArgs false
set_option linter.unusedVariables false
open Go
open Enc (enc)
set_option maxRecDepth 100000

theorem bo_nil_slice {D : Ty} {K : Kinds} {t el : TypeId} {d : TD} (hd : D t = some d) (hk : d.k = .slice el) (a : Option Addr) (len cap : Nat) : binOp' D K .eql t (.slice a len cap) (.slice none 0 0) = some (.bool a.isNone) := by
  cases a <;> simp [binOp', eqOp, hd, hk]
noncomputable def F64 : FnI := fun args H n => match args with
  | [.slice none 0 0] => some ⟨.slice none 0 0, [], n⟩
  | [.slice (some a) len cap] => copyF Dig 32 [.slice (some a) len cap] H n
  | _ => none
theorem R64 : Ref Try.prog 64 F64 := by
  refine Ref.of_iw dok Try.func64 rfl (by kernel_rfl) fun args H n e hF => ?_
  have hE : Env Try.prog [] D K := env fnsOk_nil
  unfold F64 at hF
  split at hF
  · cases hF
    refine ⟨Nat.le_of_ble_eq_true rfl, ?_⟩
    simp only [idxL]
    refine IW.seq ?_
    refine IW.reg hE ?_
    refine vcS_val rfl rfl (ox_assign (pl rfl)) ?_
    refine vcS_nil ?_
    refine IW.seq ?_
    refine IW.seq ?_
    refine IW.reg hE ?_
    refine vcS_val rfl rfl (ox_move (pl rfl)) ?_
    refine vcS_val rfl rfl (ox_bin (pl rfl) (pl rfl) (bo_nil_slice D_34 rfl _ _ _)) ?_
    refine vcS_nil ?_
    refine IW.cond rfl (fun hc1 => ?_) (fun hc1 => ?_)
    · refine IW.seq ?_
      refine IW.reg hE ?_
      refine vcS_val rfl rfl (ox_assign (pl rfl)) ?_
      refine vcS_nil ?_
      refine IW.ret ?_
      exact RetP.ret (.inr rfl) rfl rfl trivial rfl
    · cases hc1
  · rename_i a len cap
    obtain ⟨x, l, hx, hl, hle, rfl⟩ := copyF_inv hF
    simp only [List.cons.injEq, and_true] at hx
    subst hx
    refine ⟨Nat.le_of_ble_eq_true rfl, ?_⟩
    simp only [idxL]
    refine IW.seq ?_
    refine IW.reg hE ?_
    refine vcS_val rfl rfl (ox_assign (pl rfl)) ?_
    refine vcS_nil ?_
    refine IW.ltC (by simp) hl (fun hlt => ?_)
    refine IW.seq ?_
    refine IW.seq ?_
    refine IW.reg hE ?_
    refine vcS_val rfl rfl (ox_move (pl rfl)) ?_
    refine vcS_val rfl rfl (ox_bin (pl rfl) (pl rfl) (bo_nil_slice D_34 rfl _ _ _)) ?_
    refine vcS_nil ?_
    refine IW.cond rfl (fun hc1 => ?_) (fun hc1 => ?_)
    · cases hc1
    · refine IW.skip ?_
      refine IW.seq ?_
      refine IW.reg hE ?_
      refine vcS_new rfl rfl (ox_bs0 D_34 rfl D_24) (.inl (by omega)) ?_
      refine vcS_val rfl rfl (ox_move (pl rfl)) ?_
      have hl1 := rdC_hp (H := H) (M := []) (o := some (.cells [] false)) (m := n) hl hlt (Nat.le_refl _)
      by_cases h0 : l = []
      · subst h0
        refine vcS_val rfl rfl (ox_app0 (α := Dig) (pl rfl) (pl rfl) D_34 rfl D_24 D_34 rfl rfl hl1 rfl (Nat.le_refl _)) ?_
        refine vcS_val rfl rfl (ox_assign (pl rfl)) ?_
        refine vcS_nil ?_
        refine IW.ret ?_
        exact RetP.new1 (.inr rfl) (ires_tmp rfl) (Nat.le_refl _) (hp_eq _ _ _ _) rfl
      · refine vcS_new rfl rfl (ox_app1 (pl rfl) (pl rfl) D_34 rfl D_24 D_34 rfl rfl hl1 h0 rfl (fun b hb => by cases hb; exact ⟨false, hp_eq _ _ _ _, rfl⟩) hle (by decide)) (.inl (by omega)) ?_
        refine vcS_val rfl rfl (ox_assign (pl rfl)) ?_
        refine vcS_nil ?_
        refine IW.ret ?_
        have e0 : l.length ≠ 0 := by simpa using h0
        simp only [freshE, freshV, if_neg e0]
        exact RetP.new1 (.inr rfl) (ires_tmp rfl) (Nat.le_succ _) (hp_eq _ _ _ _) (dig_plain l)
  · cases hF
end Go.Proofs.Ytdnnojblneccdaa
/-
  slices.Grow of nil.
-/
namespace Go.Proofs.Ytdnnojblneccdaa
set_option linter.unusedSimpArgs false
set_option linter.unusedVariables false
open Go
open Enc (enc)
set_option maxRecDepth 100000

/-- nothing, with room for k -/
def growE (sz : Nat) (z : List Value) (n k : Nat) : Eff := if k = 0 then ⟨.slice none 0 0, [], n⟩ else ⟨.slice (some ⟨n, 0, some sz⟩) 0 k, [(n, some (.cells ((List.replicate k z).flatten) false))], n + 1⟩
theorem growE_zero {sz : Nat} {z : List Value} {n : Nat} : growE sz z n 0 = ⟨.slice none 0 0, [], n⟩ := rfl
theorem growE_pos {sz : Nat} {z : List Value} {n k : Nat} (h : 0 < k) : growE sz z n k = ⟨.slice (some ⟨n, 0, some sz⟩) 0 k, [(n, some (.cells ((List.replicate k z).flatten) false))], n + 1⟩ := if_neg (by omega)
def growF (sz bytes : Nat) (z : List Value) : FnI := fun args _ n => match args with
  | [.slice none 0 0, .int .i64 k] => if 0 ≤ k ∧ k.toNat * bytes ≤ most then some (growE sz z n k.toNat) else none
  | _ => none
theorem growF_inv {sz bytes : Nat} {z : List Value} {args : List Value} {H : IHeap} {n : Nat} {e : Eff} (h : growF sz bytes z args H n = some e) : ∃ k : Nat, args = [.slice none 0 0, .int .i64 k] ∧ k * bytes ≤ most ∧ e = growE sz z n k := by
  unfold growF at h; split at h
  · rename_i k
    split at h
    · rename_i hk; cases h
      exact ⟨k.toNat, by rw [Int.toNat_of_nonneg hk.1], hk.2, rfl⟩
    · cases h
  · cases h
theorem growF_ev {sz bytes : Nat} {z : List Value} {H : IHeap} {n : Nat} {k : Nat} (hk : k * bytes ≤ most) : growF sz bytes z [.slice none 0 0, .int .i64 k] H n = some (growE sz z n k) := by
  simp only [growF]
  rw [if_pos ⟨by omega, by simpa using hk⟩]; simp
theorem rep_plain {z : List Value} (hz : z.all plain = true) (k : Nat) : ((List.replicate k z).flatten).all plain = true := by
  rw [List.all_eq_true]
  intro x hx
  obtain ⟨l, hl, hx⟩ := List.mem_flatten.1 hx
  rw [(List.mem_replicate.1 hl).2] at hx
  exact List.all_eq_true.1 hz x hx
def zDig : List Value := List.replicate 32 (.int .u8 0)
def F83 : FnI := growF 32 32 zDig
-- slices.Grow[[]headwater/api.Digest,headwater/api.Digest] ['Sl', 'Int'] -> ['Sl'], results [4]
theorem R83 : Ref Try.prog 83 F83 := by
  refine Ref.of_iw dok Try.func83 rfl (by kernel_rfl) fun args H n e hF => ?_
  obtain ⟨k, rfl, hk, rfl⟩ := growF_inv hF
  have hk1 : k ≤ 2 ^ 47 := by simp only [most] at hk; omega
  refine ⟨Nat.le_of_ble_eq_true rfl, ?_⟩
  simp only [idxL]
  have hE : Env Try.prog [] D K := env fnsOk_nil
  refine IW.seq ?_
  refine IW.reg hE ?_
  refine vcS_val rfl rfl (ox_assign (pl rfl)) ?_
  refine vcS_nil ?_
  refine IW.seq ?_
  refine IW.seq ?_
  refine IW.reg hE ?_
  refine vcS_val rfl rfl (ox_move (pl rfl)) ?_
  refine vcS_val rfl rfl (ox_bin (pl rfl) (pl rfl) (bo_i64_lss _ _)) ?_
  refine vcS_nil ?_
  refine IW.cond rfl (fun hc1 => ?_) (fun hc1 => ?_)
  · exact absurd (of_decide_eq_true hc1) (by omega)
  · replace hc1 := of_decide_eq_false hc1
    refine IW.skip ?_
    refine IW.seq ?_
    refine IW.seq ?_
    refine IW.reg hE ?_
    refine vcS_val rfl rfl (ox_move (pl rfl)) ?_
    refine vcS_val rfl rfl (ox_move (pl rfl)) ?_
    refine vcS_val rfl rfl (ox_capN (pl rfl) D_34 rfl) ?_
    refine vcS_val rfl rfl (ox_move (pl rfl)) ?_
    refine vcS_val rfl rfl (ox_len (pl rfl) D_34 rfl) ?_
    refine vcS_val rfl rfl (ox_bin (pl rfl) (pl rfl) (bo_i64_sub (by omega))) ?_
    refine vcS_val rfl rfl (ox_bin (pl rfl) (pl rfl) (bo_i64_sub (by omega))) ?_
    refine vcS_val rfl rfl (ox_assign (pl rfl)) ?_
    refine vcS_nil ?_
    refine IW.seq ?_
    refine IW.reg hE ?_
    refine vcS_val rfl rfl (ox_move (pl rfl)) ?_
    refine vcS_val rfl rfl (ox_bin (pl rfl) (pl rfl) (bo_i64_gtr _ _)) ?_
    refine vcS_nil ?_
    refine IW.cond rfl (fun hc2 => ?_) (fun hc2 => ?_)
    · replace hc2 := of_decide_eq_true hc2
      refine IW.reg hE ?_
      refine vcS_val rfl rfl (ox_move (pl rfl)) ?_
      refine vcS_val rfl rfl (ox_move (pl rfl)) ?_
      refine vcS_val rfl rfl (ox_capN (pl rfl) D_34 rfl) ?_
      refine vcS_val rfl rfl (ox_slN (pl rfl) D_34 rfl D_24 rfl) ?_
      refine vcS_val rfl rfl (ox_move (pl rfl)) ?_
      refine vcS_new rfl rfl (ox_appZ (pl rfl) ((pl rfl).trans (congrArg (Value.int .i64) (show _ = ((k : Nat) : Int) by omega))) D_34 rfl D_24 D_3 rfl (by omega) hk (by decide)) (.inl (by omega)) ?_
      refine vcS_val rfl rfl (ox_move (pl rfl)) ?_
      refine vcS_val rfl rfl (ox_len (pl rfl) D_34 rfl) ?_
      refine vcS_val rfl rfl (ox_slH (pl rfl) D_34 rfl D_24 (bndI (pl rfl) rfl) (Nat.zero_le _) (.inr rfl)) ?_
      refine vcS_val rfl rfl (ox_assign (pl rfl)) ?_
      refine vcS_nil ?_
      refine IW.seq ?_
      refine IW.reg hE ?_
      refine vcS_val rfl rfl (ox_move (pl rfl)) ?_
      refine vcS_val rfl rfl (ox_assign (pl rfl)) ?_
      refine vcS_nil ?_
      refine IW.ret ?_
      rw [growE_pos (by omega)]; exact RetP.new1 (.inr rfl) (ires_tmp rfl) (Nat.le_refl _) (hp_eq _ _ _ _) (rep_plain (by decide) _)
    · replace hc2 := of_decide_eq_false hc2
      refine IW.skip ?_
      refine IW.seq ?_
      refine IW.reg hE ?_
      refine vcS_val rfl rfl (ox_move (pl rfl)) ?_
      refine vcS_val rfl rfl (ox_assign (pl rfl)) ?_
      refine vcS_nil ?_
      refine IW.ret ?_
      have e0 : k = 0 := by omega
      subst e0; rw [growE_zero]; exact RetP.ret (.inr rfl) rfl rfl trivial rfl
end Go.Proofs.Ytdnnojblneccdaa
/-
  slices.Concat.
-/
namespace Go.Proofs.Ytdnnojblneccdaa
set_option linter.unusedSimpArgs false
set_option linter.unusedVariables false
open Go
open Enc (enc)
open Row (cel)
set_option maxRecDepth 100000

section
variable {α : Type}
/-- the first s of them, one behind the other -/
def firsts (ls : List (List α)) (s : Nat) : List α := (ls.take s).flatten
theorem firsts_succ {ls : List (List α)} {s : Nat} (h : s < ls.length) : firsts ls (s + 1) = firsts ls s ++ ls[s] := by
  unfold firsts
  rw [List.take_succ_eq_append_getElem h, List.flatten_append]; simp
theorem firsts_le {ls : List (List α)} {s : Nat} (h : s < ls.length) : (firsts ls s).length + ls[s].length ≤ ls.flatten.length := by
  have : ls.flatten = firsts ls (s + 1) ++ (ls.drop (s + 1)).flatten := by rw [firsts, ← List.flatten_append, List.take_append_drop]
  rw [this, firsts_succ h, List.length_append, List.length_append]; omega
theorem firsts_all {ls : List (List α)} {s : Nat} (h : ls.length ≤ s) : firsts ls s = ls.flatten := by rw [firsts, List.take_of_length_le h]
theorem nil_of_total {ls : List (List α)} {s : Nat} (h : s < ls.length) (h0 : ls.flatten.length = 0) : ls[s] = [] := by
  have := firsts_le h
  exact List.length_eq_zero_iff.1 (by omega)
def capC (ls : List (List α)) (s : Nat) : Nat := if s = 0 then ls.flatten.length else (firsts ls s).length
theorem capC_succ {ls : List (List α)} {s : Nat} (h : s < ls.length) : capC ls (s + 1) = (firsts ls s).length + ls[s].length := by
  unfold capC
  rw [if_neg (by omega), firsts_succ h, List.length_append]
end
section
variable {α : Type} [Row α]
noncomputable def rdL (α : Type) [Row α] (H : IHeap) : List Sl → Option (List (List α))
  | [] => some []
  | s :: S => match rdC (α := α) H (enc s), rdL α H S with
    | some l, some ls => some (l :: ls)
    | _, _ => none
theorem rdL_get {H : IHeap} : ∀ {S : List Sl} {ls : List (List α)}, rdL α H S = some ls → ls.length = S.length ∧ ∀ (i : Nat) (h : i < S.length) (h' : i < ls.length), rdC H (enc S[i]) = some ls[i]
  | [], ls, h => by cases h; exact ⟨rfl, fun i h => (by simp at h)⟩
  | s :: S, ls, h => by
    simp only [rdL] at h
    split at h
    · rename_i l ls' h1 h2
      cases h
      obtain ⟨g1, g2⟩ := rdL_get h2
      refine ⟨by simp [g1], fun i hi hi' => ?_⟩
      cases i with
      | zero => exact h1
      | succ i => exact g2 i (by simpa using hi) (by simpa using hi')
    · cases h
theorem rdL_at {H : IHeap} {S : List Sl} {ls : List (List α)} (h : rdL α H S = some ls) {i : Nat} (hi : i < S.length) : ∃ sa sc, ∃ h' : i < ls.length, enc S[i] = .slice sa ls[i].length sc ∧ rdC H (.slice sa ls[i].length sc) = some ls[i] := by
  obtain ⟨g1, g2⟩ := rdL_get h
  have hi' : i < ls.length := by omega
  have h2 := g2 i hi hi'
  obtain ⟨a, cap, e⟩ := rdC_len h2
  exact ⟨a, cap, hi', e, by rw [← e]; exact h2⟩
theorem rd_hdr {d : TD} {c : List Value} {off i j : Nat} {S : List Sl} {v : Value} (hl : (c.drop off).take (S.length * Row.sz Sl) = cels S) (h : i < S.length) (hv : enc S[i] = v) (hk : d.k.isAgg = false) (hj : j = off + i * Row.sz Sl) : rdVar d c j = some v := by
  subst hv
  refine rd_celIn hl h (v := enc S[i]) (o := 0) ?_ (by omega)
  unfold rdVar
  rw [if_neg (by rw [hk]; simp)]
  rfl
theorem rdC_free {H : IHeap} {n : Nat} {x : Value} {l : List α} (hf : ∀ id, n ≤ id → H id = none) (h : rdC H x = some l) : ∀ id off s len cap, x = .slice (some ⟨id, off, s⟩) len cap → id < n := by
  intro id off s len cap e
  subst e
  rcases rdC_inv h with ⟨e, _⟩ | ⟨id', off', sp', c, ro, e, hc, _⟩
  · cases e
  · cases e
    refine Nat.lt_of_not_le fun hle => ?_
    rw [hf _ hle] at hc; cases hc
def celC (z : List Value) (ls : List (List α)) (s : Nat) : List Value := if s = 0 then (List.replicate ls.flatten.length z).flatten else cels (firsts ls s)
theorem celC_ok (z : List Value) (ls : List (List α)) (s k : Nat) (hk : k = Row.sz α) : (firsts ls s).length * k ≤ (celC z ls s).length ∧ (celC z ls s).take ((firsts ls s).length * k) = cels (firsts ls s) := by
  subst hk
  unfold celC
  by_cases h0 : s = 0
  · subst h0; simp [firsts, cels]
  · rw [if_neg h0, cels_length]
    exact ⟨Nat.le_refl _, by rw [← cels_length, List.take_length]⟩
theorem celC_succ {z : List Value} {ls : List (List α)} {s : Nat} (h : s < ls.length) : celC z ls (s + 1) = cels (firsts ls s ++ ls[s]) := by
  unfold celC
  rw [if_neg (by omega), firsts_succ h]
theorem hp_step {H : IHeap} {n a b : Nat} {x y z : Option IObj} (hf : ∀ id, n ≤ id → H id = none) (ha : n ≤ a) (hxy : x = y) : (hp H [(b, x)]).le (hp H [(b, y), (a, none), (a, z)]) := by
  subst hxy
  intro id o h
  by_cases hb : id = b
  · subst hb; rw [hp_eq] at h ⊢; exact h
  · rw [hp_ne _ _ _ hb, hp_nil] at h
    rw [hp_ne _ _ _ hb]
    have : id ≠ a := by
      intro e; rw [e, hf a ha] at h; cases h
    rw [hp_ne _ _ _ this, hp_ne _ _ _ this]; exact h
def concE (n : Nat) (l : List α) : Eff := if l.length = 0 then ⟨.slice none 0 0, [], n⟩ else ⟨.slice (some ⟨n, 0, some (Row.sz α)⟩) l.length l.length, [(n, some (.cells (cels l) false))], n + 1⟩
theorem concE_zero {n : Nat} {l : List α} (h : l.length = 0) : concE n l = ⟨.slice none 0 0, [], n⟩ := if_pos h
theorem concE_pos {n : Nat} {l : List α} (h : l.length ≠ 0) : concE n l = ⟨.slice (some ⟨n, 0, some (Row.sz α)⟩) l.length l.length, [(n, some (.cells (cels l) false))], n + 1⟩ := if_neg h
noncomputable def concF (α : Type) [Row α] (bytes : Nat) : FnI := fun args H n => match args with
  | [x] => (rdC H x).bind fun (S : List Sl) => (rdL α H S).bind fun ls => if S.length ≤ 2 ^ 47 ∧ ls.flatten.length * bytes ≤ most then some (concE n ls.flatten) else none
  | _ => none
theorem concF_inv {bytes : Nat} {args : List Value} {H : IHeap} {n : Nat} {e : Eff} (h : concF α bytes args H n = some e) : ∃ xa xc, ∃ S : List Sl, ∃ ls : List (List α), args = [.slice xa S.length xc] ∧ rdC H (.slice xa S.length xc) = some S ∧ rdL α H S = some ls ∧ S.length ≤ 2 ^ 47 ∧ ls.flatten.length * bytes ≤ most ∧ e = concE n ls.flatten := by
  unfold concF at h; split at h
  · simp only [Option.bind_eq_some_iff] at h
    obtain ⟨S, hS, ls, hls, h⟩ := h
    split at h
    · rename_i hle; cases h
      obtain ⟨xa, xc, rfl⟩ := rdC_len hS
      exact ⟨xa, xc, S, ls, rfl, hS, hls, hle.1, hle.2, rfl⟩
    · cases h
  · cases h
theorem concF_ev {bytes : Nat} {x : Value} {H : IHeap} {n : Nat} {S : List Sl} {ls : List (List α)} {l : List α} (hS : rdC H x = some S) (hls : rdL α H S = some ls) (h1 : S.length ≤ 2 ^ 47) (hl : ls.flatten = l) (h2 : l.length * bytes ≤ most) : concF α bytes [x] H n = some (concE n l) := by
  subst hl
  simp only [concF, hS, hls, Option.bind_some]
  rw [if_pos ⟨h1, h2⟩]
theorem growF_ev0 {sz bytes : Nat} {z : List Value} {H : IHeap} {n : Nat} {k : Nat} (hk : k = 0) : growF sz bytes z [.slice none 0 0, .int .i64 k] H n = some ⟨.slice none 0 0, [], n⟩ := by
  subst hk
  rw [growF_ev (by omega), growE_zero]
theorem growF_evp {sz bytes : Nat} {z : List Value} {H : IHeap} {n : Nat} {k : Nat} (h0 : 0 < k) (hk : k * bytes ≤ most) : growF sz bytes z [.slice none 0 0, .int .i64 k] H n = some ⟨.slice (some ⟨n, 0, some sz⟩) 0 k, [(n, some (.cells ((List.replicate k z).flatten) false))], n + 1⟩ := by
  rw [growF_ev hk, growE_pos h0]
end
noncomputable def F65 : FnI := concF Dig 32
-- slices.Concat[[]headwater/api.Digest,headwater/api.Digest] ['Sl'] -> ['Sl'], results [2]
theorem R65 : Ref Try.prog 65 F65 := by
  refine Ref.of_iw dok Try.func65 rfl (by kernel_rfl) fun args H n e hF => ?_
  obtain ⟨xa, xc, S, ls, rfl, hS, hls, hle, hto, rfl⟩ := concF_inv hF
  have hlen := (rdL_get hls).1
  have htt : ls.flatten.length ≤ 2 ^ 47 := by simp only [most] at hto; omega
  refine ⟨Nat.le_of_ble_eq_true rfl, ?_⟩
  simp only [idxL]
  have hE : Env Try.prog [(83, F83)] D K := env (fnsOk_cons R83 fnsOk_nil)
  refine IW.seq ?_
  refine IW.reg hE ?_
  refine vcS_val rfl rfl (ox_assign (pl rfl)) ?_
  refine vcS_nil ?_
  refine IW.seq ?_
  refine IW.free (by simp) (fun hfree => ?_)
  refine IW.reg hE ?_
  refine vcS_val rfl rfl (ox_assign (pl rfl)) ?_
  refine vcS_nil ?_
  refine IW.seq ?_
  refine IW.seq ?_
  refine IW.reg hE ?_
  refine vcS_val rfl rfl (ox_move (pl rfl)) ?_
  refine vcS_val rfl rfl (ox_len (pl rfl) D_113 rfl) ?_
  refine vcS_val rfl rfl (ox_move (pl rfl)) ?_
  refine vcS_nil ?_
  refine IW.block ?_
  refine IW.loop (S := Nat) (fun s => [(0, .slice xa S.length xc), (2, .slice none 0 0), (9, .slice xa S.length xc), (10, .int .i64 S.length), (11, .int .i64 s), (3, .int .i64 (firsts ls s).length)]) (fun s => []) (fun s => n) (fun s => s ≤ S.length) (fun s => S.length - s) (0) (by simp) (⟨rfl, ⟨rfl, ⟨rfl, ⟨rfl, ⟨rfl, ⟨rfl, trivial⟩⟩⟩⟩⟩⟩) (fun _ _ h => h) (Nat.le_refl _) (fun s hs => ?_)
  refine IW.seq ?_
  refine IW.reg hE ?_
  refine vcS_val rfl rfl (ox_bin (pl rfl) (pl rfl) (bo_i64_lss _ _)) ?_
  refine vcS_nil ?_
  refine IW.seq ?_
  refine IW.cond rfl (fun hc1 => ?_) (fun hc1 => ?_)
  · replace hc1 := of_decide_eq_true hc1
    have hc1 : s < S.length := by omega
    obtain ⟨i1, o1, p1, c1, r1, e1, m1, l1⟩ := rdC_at hS hc1
    subst e1
    obtain ⟨sa, sc, hi, es, hr⟩ := rdL_at hls hc1
    have hb := firsts_le hi
    refine IW.skip ?_
    refine IW.seq ?_
    refine IW.block ?_
    refine IW.seq ?_
    refine IW.reg hE ?_
    refine vcS_val rfl rfl (ox_iaS (pl rfl) (pl rfl) D_113 rfl D_34 (by omega) (by omega)) ?_
    refine vcS_val rfl rfl (ox_load (pl rfl) D_34 m1 (rd_hdr l1 hc1 es rfl rfl)) ?_
    refine vcS_val rfl rfl (ox_assign (pl rfl)) ?_
    refine vcS_nil ?_
    refine IW.seq ?_
    refine IW.reg hE ?_
    refine vcS_val rfl rfl (ox_move (pl rfl)) ?_
    refine vcS_val rfl rfl (ox_move (pl rfl)) ?_
    refine vcS_val rfl rfl (ox_len (pl rfl) D_34 rfl) ?_
    refine vcS_val rfl rfl (ox_bin (pl rfl) (pl rfl) (bo_i64_add (by omega))) ?_
    refine vcS_val rfl rfl (ox_assign (pl rfl)) ?_
    refine vcS_nil ?_
    refine IW.seq ?_
    refine IW.reg hE ?_
    refine vcS_val rfl rfl (ox_move (pl rfl)) ?_
    refine vcS_val rfl rfl (ox_bin (pl rfl) (pl rfl) (bo_i64_lss _ _)) ?_
    refine vcS_nil ?_
    refine IW.cond rfl (fun hc2 => ?_) (fun hc2 => ?_)
    · exact absurd (of_decide_eq_true hc2) (by omega)
    · replace hc2 := of_decide_eq_false hc2
      refine IW.skip ?_
      refine IW.nilB ?_
      refine IW.reg hE ?_
      refine vcS_val rfl rfl (ox_bin (pl rfl) (pl rfl) (bo_i64_add (by omega))) ?_
      refine vcS_val rfl rfl (ox_move (pl rfl)) ?_
      refine vcS_nil ?_
      refine IW.nilS ?_
      exact ⟨s + 1, _, _, by omega, by omega, rfl, ⟨rfl, ⟨rfl, ⟨rfl, ⟨rfl, ⟨rfl, ⟨(by rw [firsts_succ hi, List.length_append]; rfl), trivial⟩⟩⟩⟩⟩⟩, rfl, fun _ _ h => h, Nat.le_refl _⟩
  · replace hc1 := of_decide_eq_false hc1
    have hs2 : firsts ls s = ls.flatten := firsts_all (by omega)
    rw [hs2]
    refine IW.exit ?_
    refine exS (exS ?_)
    refine blkQ_exit ?_
    refine IW.seq ?_
    by_cases h0 : ls.flatten.length = 0
    · refine IW.reg hE ?_
      refine vcS_val rfl rfl (ox_move (pl rfl)) ?_
      refine vcS_ups rfl rfl (ox_fn rfl rfl (growF_ev0 h0)) rfl trivial ?_
      refine vcS_val rfl rfl (ox_assign (pl rfl)) ?_
      refine vcS_nil ?_
      refine IW.seq ?_
      refine IW.seq ?_
      refine IW.reg hE ?_
      refine vcS_val rfl rfl (ox_move (pl rfl)) ?_
      refine vcS_val rfl rfl (ox_len (pl rfl) D_113 rfl) ?_
      refine vcS_val rfl rfl (ox_move (pl rfl)) ?_
      refine vcS_nil ?_
      refine IW.block ?_
      refine IW.loop (S := Nat) (fun s => [(0, .slice xa S.length xc), (2, .slice none 0 0), (25, .slice xa S.length xc), (26, .int .i64 S.length), (27, .int .i64 s), (6, .slice none 0 0)]) (fun s => []) (fun s => n) (fun s => s ≤ S.length) (fun s => S.length - s) (0) (by simp) (⟨rfl, ⟨rfl, ⟨rfl, ⟨rfl, ⟨rfl, ⟨rfl, trivial⟩⟩⟩⟩⟩⟩) (fun _ _ h => h) (Nat.le_refl _) (fun s hs => ?_)
      refine IW.seq ?_
      refine IW.reg hE ?_
      refine vcS_val rfl rfl (ox_bin (pl rfl) (pl rfl) (bo_i64_lss _ _)) ?_
      refine vcS_nil ?_
      refine IW.seq ?_
      refine IW.cond rfl (fun hc3 => ?_) (fun hc3 => ?_)
      · replace hc3 := of_decide_eq_true hc3
        have hc3 : s < S.length := by omega
        obtain ⟨i1, o1, p1, c1, r1, e1, m1, l1⟩ := rdC_at hS hc3
        subst e1
        obtain ⟨sa, sc, hi, es, hr⟩ := rdL_at hls hc3
        have hb := firsts_le hi
        have e0 := nil_of_total hi h0
        rw [e0] at es hr
        refine IW.skip ?_
        refine IW.seq ?_
        refine IW.block ?_
        refine IW.seq ?_
        refine IW.reg hE ?_
        refine vcS_val rfl rfl (ox_iaS (pl rfl) (pl rfl) D_113 rfl D_34 (by omega) (by omega)) ?_
        refine vcS_val rfl rfl (ox_load (pl rfl) D_34 m1 (rd_hdr l1 hc3 es rfl rfl)) ?_
        refine vcS_val rfl rfl (ox_assign (pl rfl)) ?_
        refine vcS_nil ?_
        refine IW.reg hE ?_
        refine vcS_val rfl rfl (ox_move (pl rfl)) ?_
        refine vcS_val rfl rfl (ox_move (pl rfl)) ?_
        refine vcS_val rfl rfl (ox_app0 (α := Dig) (pl rfl) (pl rfl) D_34 rfl D_24 D_34 rfl rfl hr rfl (Nat.le_refl _)) ?_
        refine vcS_val rfl rfl (ox_assign (pl rfl)) ?_
        refine vcS_nil ?_
        refine IW.nilB ?_
        refine IW.reg hE ?_
        refine vcS_val rfl rfl (ox_bin (pl rfl) (pl rfl) (bo_i64_add (by omega))) ?_
        refine vcS_val rfl rfl (ox_move (pl rfl)) ?_
        refine vcS_nil ?_
        refine IW.nilS ?_
        exact ⟨s + 1, _, _, by omega, by omega, rfl, ⟨rfl, ⟨rfl, ⟨rfl, ⟨rfl, ⟨rfl, ⟨rfl, trivial⟩⟩⟩⟩⟩⟩, rfl, fun _ _ h => h, Nat.le_refl _⟩
      · replace hc3 := of_decide_eq_false hc3
        refine IW.exit ?_
        refine exS (exS ?_)
        refine blkQ_exit ?_
        refine IW.seq ?_
        refine IW.reg hE ?_
        refine vcS_val rfl rfl (ox_move (pl rfl)) ?_
        refine vcS_val rfl rfl (ox_assign (pl rfl)) ?_
        refine vcS_nil ?_
        refine IW.ret ?_
        rw [concE_zero h0]; exact RetP.ret (.inr rfl) rfl rfl trivial rfl
    · refine IW.reg hE ?_
      refine vcS_val rfl rfl (ox_move (pl rfl)) ?_
      refine vcS_ups rfl rfl (ox_fn rfl rfl (growF_evp (by omega) hto)) rfl ⟨.inl (by omega), trivial⟩ ?_
      refine vcS_val rfl rfl (ox_assign (pl rfl)) ?_
      refine vcS_nil ?_
      refine IW.seq ?_
      refine IW.seq ?_
      refine IW.reg hE ?_
      refine vcS_val rfl rfl (ox_move (pl rfl)) ?_
      refine vcS_val rfl rfl (ox_len (pl rfl) D_113 rfl) ?_
      refine vcS_val rfl rfl (ox_move (pl rfl)) ?_
      refine vcS_nil ?_
      refine IW.block ?_
      refine IW.loop (S := Nat) (fun s => [(0, .slice xa S.length xc), (2, .slice none 0 0), (25, .slice xa S.length xc), (26, .int .i64 S.length), (27, .int .i64 s), (6, .slice (some ⟨n + s, 0, some 32⟩) (firsts ls s).length (capC ls s))]) (fun s => [(n + s, some (.cells (celC zDig ls s) false))]) (fun s => n + s + 1) (fun s => s ≤ S.length) (fun s => S.length - s) (0) (by simp) (⟨rfl, ⟨rfl, ⟨rfl, ⟨rfl, ⟨rfl, ⟨rfl, trivial⟩⟩⟩⟩⟩⟩) (fun _ _ h => h) (Nat.le_refl _) (fun s hs => ?_)
      refine IW.seq ?_
      refine IW.reg hE ?_
      refine vcS_val rfl rfl (ox_bin (pl rfl) (pl rfl) (bo_i64_lss _ _)) ?_
      refine vcS_nil ?_
      refine IW.seq ?_
      refine IW.cond rfl (fun hc4 => ?_) (fun hc4 => ?_)
      · replace hc4 := of_decide_eq_true hc4
        have hc4 : s < S.length := by omega
        obtain ⟨i1, o1, p1, c1, r1, e1, m1, l1⟩ := rdC_at hS hc4
        subst e1
        obtain ⟨sa, sc, hi, es, hr⟩ := rdL_at hls hc4
        have hb := firsts_le hi
        have hi1 : i1 < n := rdC_free hfree hS i1 o1 p1 _ _ rfl
        have hk := celC_ok zDig ls s 32 rfl
        refine IW.skip ?_
        refine IW.seq ?_
        refine IW.block ?_
        refine IW.seq ?_
        refine IW.reg hE ?_
        refine vcS_val rfl rfl (ox_iaS (pl rfl) (pl rfl) D_113 rfl D_34 (by omega) (by omega)) ?_
        refine vcS_val rfl rfl (ox_load (pl rfl) D_34 (hp_sk (by omega) m1) (rd_hdr l1 hc4 es rfl rfl)) ?_
        refine vcS_val rfl rfl (ox_assign (pl rfl)) ?_
        refine vcS_nil ?_
        refine IW.reg hE ?_
        refine vcS_val rfl rfl (ox_move (pl rfl)) ?_
        refine vcS_val rfl rfl (ox_move (pl rfl)) ?_
        refine vcS_ups rfl rfl (ox_appO (α := Dig) (l1 := firsts ls s) (pl rfl) (pl rfl) D_34 rfl D_24 D_34 rfl rfl rfl (hp_eq _ _ _ _) rfl hk.1 hk.2 (rdC_hp hr (rdC_free hfree hr) (by omega)) (Nat.le_trans (Nat.mul_le_mul_right _ hb) hto) (by decide)) rfl ⟨.inl (by omega), .inl (by omega), trivial⟩ ?_
        refine vcS_val rfl rfl (ox_assign (pl rfl)) ?_
        refine vcS_nil ?_
        refine IW.nilB ?_
        refine IW.reg hE ?_
        refine vcS_val rfl rfl (ox_bin (pl rfl) (pl rfl) (bo_i64_add (by omega))) ?_
        refine vcS_val rfl rfl (ox_move (pl rfl)) ?_
        refine vcS_nil ?_
        refine IW.nilS ?_
        exact ⟨s + 1, _, _, by omega, by omega, rfl, ⟨rfl, ⟨rfl, ⟨rfl, ⟨rfl, ⟨rfl, ⟨(by rw [firsts_succ hi, capC_succ hi, List.length_append]; rfl), trivial⟩⟩⟩⟩⟩⟩, rfl, hp_step hfree (by omega) (by rw [celC_succ hi]), by omega⟩
      · replace hc4 := of_decide_eq_false hc4
        have hs3 : firsts ls s = ls.flatten := firsts_all (by omega)
        refine IW.exit ?_
        refine exS (exS ?_)
        refine blkQ_exit ?_
        refine IW.seq ?_
        refine IW.reg hE ?_
        refine vcS_val rfl rfl (ox_move (pl rfl)) ?_
        refine vcS_val rfl rfl (ox_assign (pl rfl)) ?_
        refine vcS_nil ?_
        refine IW.ret ?_
        have hs0 : s ≠ 0 := by intro e; rw [e] at hs3; rw [← hs3] at h0; exact h0 rfl
        rw [concE_pos h0]; exact RetP.new1 (.inr rfl) ((ires_tmp rfl).trans (by rw [show capC ls s = ls.flatten.length by unfold capC; rw [if_neg hs0, hs3], hs3]; rfl)) (by omega) ((hp_eq _ _ _ _).trans (by rw [show celC zDig ls s = cels ls.flatten by unfold celC; rw [if_neg hs0, hs3]])) (dig_plain _)
end Go.Proofs.Ytdnnojblneccdaa
