/-
  More steps: slices of slices, literals, strings, guards that are known, calls with new rows.
-/
import Derived.Test.YtdnnojblneccdaaE31
import Derived.Laws.Strings
namespace Go.Proofs.Ytdnnojblneccdaa
set_option linter.unusedSimpArgs false
set_option linter.unusedVariables false
open Go
open Enc (enc)
open Row (cel)

section
variable {Γ : Fns} {D : Ty} {K : Kinds} {e : Operand → Value} {H : IHeap} {n : Nat}
/-! slices of slices -/
def slA (a : Addr) (cap sz l : Nat) : Addr := if cap = l then a else goOn a (l * sz)
theorem bndN {d : Nat} : bnd (Option.map e none) d = some d := rfl
theorem bndI {x : Operand} {k : IntKind} {i : Int} {d l : Nat} (h : e x = .int k i) (hi : i = (l : Int)) : bnd (Option.map e (some x)) d = some l := by
  subst hi
  simp only [Option.map_some, bnd, h]
  rw [if_pos (by omega)]; simp
theorem ox_sl {t : TypeId} {x : Operand} {lo hi : Option Operand} {a : Addr} {len cap el l h : Nat} {d de : TD} (hx : e x = .slice (some a) len cap) (hd : D t = some d) (hk : d.k = .slice el) (hde : D el = some de) (hlo : bnd (lo.map e) 0 = some l) (hhi : bnd (hi.map e) len = some h)
    (h1 : l ≤ h) (h2 : h ≤ cap) (hsp : a.spot = none ∨ (a.spot = some de.size ∧ (l < cap ∨ l = 0))) : iopC Γ D K e H n (.slice t x lo hi none) = some ⟨.slice (some (slA a cap de.size l)) (h - l) (cap - l), [], n⟩ := by
  refine ox_slS hx hd hk hde ?_
  have hm : bnd (Option.map e none) cap = some cap := rfl
  simp only [sliceIt, hlo, hhi, hm]
  rw [if_pos ⟨h1, h2, Nat.le_refl _, by simp⟩]
  rcases hsp with h3 | ⟨h3, h4⟩
  · rw [h3]; rfl
  · rw [h3, Option.map_none]
    show (if (l < cap ∨ l = 0) ∧ de.size = de.size then _ else none) = _
    rw [if_pos ⟨h4, rfl⟩]
    unfold slA
    split
    · rename_i h5
      have : l = 0 := by omega
      subst this
      simp [goOn]
    · rfl
/-- the head of a slice -/
theorem ox_slH {t : TypeId} {x : Operand} {hi : Option Operand} {a : Addr} {len cap el h : Nat} {d de : TD} (hx : e x = .slice (some a) len cap) (hd : D t = some d) (hk : d.k = .slice el) (hde : D el = some de) (hhi : bnd (hi.map e) len = some h)
    (h2 : h ≤ cap) (hsp : a.spot = none ∨ a.spot = some de.size) : iopC Γ D K e H n (.slice t x none hi none) = some ⟨.slice (some a) h cap, [], n⟩ := by
  have := ox_sl (Γ := Γ) (K := K) (H := H) (n := n) (lo := none) hx hd hk hde rfl hhi (Nat.zero_le _) h2 (hsp.imp id fun h => ⟨h, .inr rfl⟩)
  rw [this]
  have : slA a cap de.size 0 = a := by unfold slA; split <;> simp [goOn]
  rw [this]; rfl
variable {α : Type} [Row α]
theorem rdC_sl {a : Addr} {len cap l h : Nat} {xs : List α} (hr : rdC H (.slice (some a) len cap) = some xs) (h1 : l ≤ h) (h2 : h ≤ len) (hc : len ≤ cap) : rdC H (.slice (some (slA a cap (Row.sz α) l)) (h - l) (cap - l)) = some ((xs.take h).drop l) := by
  obtain ⟨id, off, sp⟩ := a
  rcases rdC_inv hr with ⟨e, _⟩ | ⟨id', off', sp', c, ro, e, hc', hle, hl, rfl⟩
  · cases e
  cases e
  have hlen : ((xs.take h).drop l).length = h - l := by simp [Nat.min_eq_left h2]
  have hsplit : xs = xs.take l ++ ((xs.take h).drop l ++ xs.drop h) := by
    rw [← List.append_assoc]
    have : xs.take l ++ (xs.take h).drop l = xs.take h := by
      have := List.take_append_drop l (xs.take h)
      rwa [List.take_take, Nat.min_eq_left h1] at this
    rw [this, List.take_append_drop]
  have hcs : cels xs = cels (xs.take l) ++ (cels ((xs.take h).drop l) ++ cels (xs.drop h)) := by
    conv => lhs; rw [hsplit]
    rw [cels_append, cels_append]
  by_cases e0 : cap = l
  · have hl0 : h = l := by omega
    subst hl0
    have e1 : (xs.take h).drop h = [] := by rw [List.drop_eq_nil_iff]; simp; omega
    rw [e1] at hlen ⊢
    simp only [slA, if_pos e0, Nat.sub_self]
    exact rdC_mk hc' (by simp; omega) (by simp [cels]) rfl
  · have hb : slA ⟨id, off, sp⟩ cap (Row.sz α) l = goOn ⟨id, off, sp⟩ (l * Row.sz α) := if_neg e0
    have hg : goOn ⟨id, off, sp⟩ (l * Row.sz α) = ⟨id, off + l * Row.sz α, sp⟩ := by
      unfold goOn; split
      · rename_i h0; rw [h0]; rfl
      · rfl
    rw [hb, hg]
    have hsz : l * Row.sz α + (h - l) * Row.sz α ≤ xs.length * Row.sz α := by
      rw [← Nat.add_mul]; exact Nat.mul_le_mul_right _ (by omega)
    refine rdC_mk hc' (by rw [hlen]; omega) ?_ hlen
    have hpre : (cels (xs.take l)).length = l * Row.sz α := by rw [cels_length, List.length_take, Nat.min_eq_left (by omega)]
    have hmid : (cels ((xs.take h).drop l)).length = (h - l) * Row.sz α := by rw [cels_length, hlen]
    rw [hlen]
    have h5 : ((c.drop off).take (xs.length * Row.sz α)).drop (l * Row.sz α) = cels ((xs.take h).drop l) ++ cels (xs.drop h) := by
      rw [hl, hcs, ← hpre, List.drop_left]
    rw [List.drop_take, List.drop_drop] at h5
    have h6 := congrArg (List.take ((h - l) * Row.sz α)) h5
    rw [List.take_take, Nat.min_eq_left (by omega), ← hmid, List.take_left] at h6
    rw [hmid] at h6
    exact h6
theorem rdC_sl0 {a : Addr} {len cap h : Nat} {xs : List α} (hr : rdC H (.slice (some a) len cap) = some xs) (h2 : h ≤ len) : rdC H (.slice (some a) h cap) = some (xs.take h) := by
  obtain ⟨id, off, sp⟩ := a
  rcases rdC_inv hr with ⟨e, _⟩ | ⟨id', off', sp', c, ro, e, hc', hle, hl, rfl⟩
  · cases e
  cases e
  have hlen : (xs.take h).length = h := by simp [h2]
  have hsz : h * Row.sz α ≤ xs.length * Row.sz α := Nat.mul_le_mul_right _ h2
  refine rdC_mk hc' (by rw [hlen]; omega) ?_ hlen
  rw [hlen]
  have h6 := congrArg (List.take (h * Row.sz α)) hl
  rw [List.take_take, Nat.min_eq_left hsz] at h6
  rw [h6]
  conv => lhs; rw [← List.take_append_drop h xs]
  rw [cels_append]
  have : (cels (xs.take h)).length = h * Row.sz α := by rw [cels_length, hlen]
  rw [← this, List.take_left]

/-- an append of zero values to nil -/
theorem ox_appZ {t t2 el : TypeId} {k2 : IntKind} {s y : Operand} {k : Nat} {d d2 de : TD} (hs : e s = .slice none 0 0) (hy : e y = .int .i64 k) (hd : D t = some d) (hk : d.k = .slice el) (hde : D el = some de) (hd2 : D t2 = some d2) (hk2 : d2.k = .int k2)
    (h0 : 0 < k) (hm : k * de.bytes ≤ most) (hb : 1 ≤ de.bytes) : iopC Γ D K e H n (.call ⟨.builtin .append, #[s, y], #[t, t2]⟩) = some ⟨.slice (some ⟨n, 0, some de.size⟩) k k, [(n, some (.cells ((List.replicate k de.zero).flatten) false))], n + 1⟩ := by
  have h1 : (k : Int) ≤ (most : Nat) := by
    have : k * 1 ≤ k * de.bytes := Nat.mul_le_mul_left _ hb
    omega
  have h2 : (k : Int) * de.bytes ≤ (2 : Int) ^ 48 := by
    have : ((k * de.bytes : Nat) : Int) ≤ (2 : Int) ^ 47 := by
      have := Int.ofNat_le.2 hm
      exact this
    rw [← Int.natCast_mul]; omega
  have hsrc : srcArg D H t2 de (.int .i64 k) = some (k, (List.replicate k de.zero).flatten) := by
    simp only [srcArg, hd2, Option.bind_some, hk2]
    rw [if_pos ⟨by omega, h1, h2⟩]; simp
  simp only [iopC, iop, doBuiltin, doAppend, List.map_cons, List.map_nil, hs, hy, hd, hk, hde, hsrc, Option.bind_some, List.getElem?_toArray, List.getElem?_cons_zero, List.getElem?_cons_succ]
  rw [if_neg (by simp [closed]; omega), if_pos ⟨by simpa using hm, hb⟩]
  simp [new]

/-! literals of slices -/
theorem ox_bsl {N : Nat} {L : List (Nat × Value)} {t el len : TypeId} {d de : TD} {parts : Array (Nat × Operand)} {vs : List (Nat × Value)} {cs : List Value} (hd : D t = some d) (hk : d.k = .slice el) (hde : D el = some de) (hle : len * de.size ≤ 2 ^ 24) (hp : opp N L parts.toList = some vs)
    (hf : fillIn (fun i => some (i * de.size, de.size)) ((List.replicate len de.zero).flatten) vs = some cs) : iopC Γ D K (ev (dense N L)) H n (.buildSlice t len parts) = some ⟨.slice (some ⟨n, 0, none⟩) len len, [(n, some (.cells cs false))], n + 1⟩ := by
  simp only [iopC, iop, hd, hk, hde, Option.bind_some]
  rw [if_pos hle]
  have := opp_ev hp
  simp only [this, hf, Option.bind_some, new]

/-! strings -/
def bs (l : List UInt8) : ByteArray := ⟨l.toArray⟩
theorem bs_toList (l : List UInt8) : (bs l).toList = l := by rw [ByteArray.toList_eq]; simp [bs]
theorem bs_size (l : List UInt8) : (bs l).size = l.length := by simp [bs, ByteArray.size]
theorem cels_u8 (l : List UInt8) : cels l = encs l := by induction l with
  | nil => rfl
  | cons a l ih => rw [cels_cons, ih]; rfl
theorem rdS_rdC {x : Value} {l : List UInt8} (h : rdS H x = some l) (hn : ∀ k c, x = .slice none k c → k = 0 ∧ c = 0) : rdC H x = some l := by
  unfold rdS at h
  split at h
  · rename_i k c
    obtain ⟨rfl, rfl⟩ := hn _ _ rfl
    cases h; rfl
  · rename_i a len cap
    split at h
    · rename_i c ro hc
      split at h
      · rename_i hle
        obtain ⟨id, off, sp⟩ := a
        have := decs_some h
        have hl : l.length = len := by
          have := congrArg List.length this
          rw [encs_length] at this
          simp only [List.length_take, List.length_drop] at this
          simp only at hle
          omega
        subst hl
        refine rdC_mk hc (by show off + l.length * 1 ≤ _; simp only at hle; omega) ?_ rfl
        rw [cels_u8]
        show (c.drop off).take (l.length * 1) = _
        rw [Nat.mul_one]; exact this
      · cases h
    · cases h
  · cases h
theorem rdC_rdS {x : Value} {l : List UInt8} (h : rdC H x = some l) : rdS H x = some l := by
  obtain ⟨a, cap, rfl⟩ := rdC_len h
  rcases rdC_inv h with ⟨rfl, h2, rfl, rfl⟩ | ⟨id, off, sp, c, ro, rfl, hc, hle, hl, _⟩
  · rfl
  · simp only [rdS, hc]
    have hs : Row.sz UInt8 = 1 := rfl
    rw [hs, Nat.mul_one] at hle hl
    rw [if_pos hle, hl, cels_u8]
    exact decs_encs l
/-- bytes as a string -/
theorem ox_cvS {s t el : TypeId} {x : Operand} {v : Value} {ds d de : TD} {l : List UInt8} (hx : e x = v) (hs : D s = some ds) (hsk : ds.k = .slice el) (hde : D el = some de) (hdk : de.k = .int .u8) (hd : D t = some d) (hk : d.k = .str) (hr : rdC H v = some l) :
    iopC Γ D K e H n (.convert s t x) = some ⟨.string (bs l), [], n⟩ := by
  obtain ⟨a, cap, rfl⟩ := rdC_len hr
  have h2 := (rdC_src hr).2
  have h3 : Row.sz UInt8 = 1 := rfl
  rw [h3, cels_u8] at h2
  simp only [iopC, iop, doConvert, hs, hd, hk, hx, hsk, hde, Option.bind_some, hdk, if_true, h2]
  have h4 : (encs l).all (fun v => match v with | .int .u8 _ => true | _ => false) = true := by
    simp only [encs, List.all_map, List.all_eq_true]; intro _ _; rfl
  split
  case isFalse hn => exact absurd h4 hn
  simp only [val, encs, List.map_map]
  congr 4
  have : (List.map ((fun v => match v with | Value.int _ i => UInt8.ofNat i.toNat | _ => 0) ∘ enc) l) = l := by
    conv => rhs; rw [← List.map_id l]
    refine List.map_congr_left fun a _ => ?_
    show UInt8.ofNat ((a.toNat : Int)).toNat = a
    simp
  exact congrArg List.toArray this
theorem bo_str_lss {t : TypeId} (a b : List UInt8) : binOp' D K .lss t (.string (bs a)) (.string (bs b)) = some (.bool (Op.bytesLess a b)) := by simp only [binOp', strOp, bs_toList]
theorem bo_str_gtr {t : TypeId} (a b : List UInt8) : binOp' D K .gtr t (.string (bs a)) (.string (bs b)) = some (.bool !(Op.bytesLess a b || a == b)) := by simp only [binOp', strOp, bs_toList]
theorem bo_str_eql {t : TypeId} (a b : List UInt8) : binOp' D K .eql t (.string (bs a)) (.string (bs b)) = some (.bool (a == b)) := by simp only [binOp', strOp, bs_toList]
theorem bo_str_neq {t : TypeId} (a b : List UInt8) : binOp' D K .neq t (.string (bs a)) (.string (bs b)) = some (.bool !(a == b)) := by simp only [binOp', strOp, bs_toList]
end

section
variable {P : Program} {Γ : Fns} {D : Ty} {K : Kinds} {W : Nat → Prop} {R : Option Nat} {ops : Array Oper} {Q : Post3} {o : Oper} {os : List Oper} {N : Nat} {L : List (Nat × Value)} {H : IHeap} {M : Ups} {n : Nat}
/-! guards that are known -/
def wAll (W : Nat → Prop) : Ups → Prop
  | [] => True
  | p :: l => W p.1 ∧ wAll W l
theorem wAll_spec {W : Nat → Prop} : ∀ {l : Ups}, wAll W l → ∀ p ∈ l, W p.1
  | q :: l, h, p, hm => by
    cases hm with
    | head => exact h.1
    | tail _ hm => exact wAll_spec h.2 p hm
/-- a call, or what else writes several rows -/
theorem vcS_ups {d : Tmp} {v : Value} {up M' : Ups} {n' : Nat} (hd : o.dst = some d) (hg : o.guard = none) (h : iopC Γ D K (ev (dense N L)) (hp H M) n o.op = some ⟨v, up, n'⟩) (hM : putH up M = M') (hW : wAll W up)
    (k : vcS Γ D K W ops Q os (dense N ((d, v) :: L)) (hp H M') n') : vcS Γ D K W ops Q (o :: os) (dense N L) (hp H M) n := vcS_call hd hg h hM (wAll_spec hW) k
theorem vcS_T {d : Tmp} {v : Value} {b : Bool} {up M' : Ups} {n' : Nat} (hd : o.dst = some d) (hg : wantedI ops (dense N L) o = some b) (hb : b = true) (h : iopC Γ D K (ev (dense N L)) (hp H M) n o.op = some ⟨v, up, n'⟩) (hM : putH up M = M') (hW : wAll W up)
    (k : vcS Γ D K W ops Q os (dense N ((d, v) :: L)) (hp H M') n') : vcS Γ D K W ops Q (o :: os) (dense N L) (hp H M) n := by
  subst hb
  unfold vcS
  rw [hg]
  refine ⟨fun _ => ?_, fun hb => (by cases hb)⟩
  rw [h]
  refine ⟨wAll_spec hW, ?_⟩
  rw [upds_hp, hM, tput_dense, hd]; exact k
theorem vcS_F {d : Tmp} {b : Bool} (hd : o.dst = some d) (hg : wantedI ops (dense N L) o = some b) (hb : b = false)
    (k : vcS Γ D K W ops Q os (dense N ((d, .chan none) :: L)) (hp H M) n) : vcS Γ D K W ops Q (o :: os) (dense N L) (hp H M) n := by
  subst hb
  unfold vcS
  rw [hg]
  refine ⟨fun hb => (by cases hb), fun _ => ?_⟩
  rw [tput_dense, hd]; exact k
variable {pre : List Nat} {pres : List (List Nat)} {n0 k : Nat} {Wr : List (Nat × Ups)} {Vs : List (Nat × Vis)}
/-- a call whose rows are all new -/
theorem vcE_callN {d : Tmp} {v : Value} {u up M' : Ups} {n' : Nat} (hd : o.dst = some d) (hg : o.guard = none) (hu : upsW pre Wr = u) (hM : putH u M = M') (h : iopC Γ D K (ev (dense N L)) (hp H M') n o.op = some ⟨v, up, n'⟩) (hc : isCall o.op = true)
    (hl : ∀ p ∈ u, p.1 < n) (hup : wAll (fun id => W id ∧ n ≤ id ∧ id < n') up) (hn : n ≤ n') (hq : quietW n0 pre (.all (u.map (·.1))) Wr)
    (hk : vcE Γ D K W ops (hp H M) n0 Q os pres (k + 1) (Wr ++ [(k, up)]) ((k, .all (u.map (·.1))) :: Vs) (dense N ((d, v) :: L)) n') : vcE Γ D K W ops (hp H M) n0 Q (o :: os) (pre :: pres) k Wr Vs (dense N L) n := by
  intro acc R
  subst hu
  subst hM
  unfold vcD
  rw [R.ups pre, upds_hp, h]
  simp only [wantedI, hg, wpo]
  have hv : visOf (ev (dense N L)) o.op (List.map (fun x => x.fst) (upsW pre Wr)) = .all ((upsW pre Wr).map (·.1)) := by simp only [visOf, hc, if_true]
  refine ⟨fun _ => ⟨fun p hm => ⟨(wAll_spec hup p hm).1, .inl (wAll_spec hup p hm).2.1, (wAll_spec hup p hm).2.2⟩, hn, ?_, ?_⟩, fun hb => by cases hb⟩
  · refine apart2_mk fun j y hy => ?_
    rw [hv]
    have a2 : ∀ p ∈ up, y.vis.clear n0 p.1 := fun p hm => R.fresh y (List.mem_of_getElem? hy) p.1 (wAll_spec hup p hm).2.1
    rcases R.wr j y hy with h1 | h1
    · right; exact ⟨a2, by rw [h1]; exact fun p hm => (by cases hm)⟩
    · rcases quietW_spec hq _ h1 with h2 | h2
      · left; simpa using h2
      · right; exact ⟨a2, h2⟩
  · have hh := hk (acc ++ [⟨up, .all ((upsW pre Wr).map (·.1))⟩]) (R.snoc _ _ _ hn (.inr rfl) (.inr (.inl rfl)) (fun id hid => by
      have := R.le
      refine ⟨by omega, ?_⟩
      intro hm
      obtain ⟨p, h1, h2⟩ := List.mem_map.1 hm
      have := hl p h1; omega))
    rw [hv]
    rw [tput_dense, hd]
    exact hh
end
end Go.Proofs.Ytdnnojblneccdaa
