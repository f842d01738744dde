/-
  From a function's contract to its row.
-/
import Derived.Test.YtdnnojblneccdaaE28
import Derived.ProofKit
namespace Go.Proofs.Ytdnnojblneccdaa
set_option linter.unusedSimpArgs false
set_option linter.unusedVariables false
open Go
open Enc (enc)

/-- the call, as the row wants it -/
theorem calls_of_ref {P : Program} {k : FuncId} {fn : Func} {F : FnI} (hf : P.funcs[k]? = some fn) (hb : fn.body.isSome = true) (hname : (fn.name == "runtime.NumGoroutine") = false) (hR : Ref P k F) {args : List Value} {H : IHeap} {n : Nat} {v : Value} {n' : Nat}
    (hF : F args H n = some ⟨v, [], n'⟩) {ρ : Ren} {W : World} {args' : Array Value} (hbel : Below n ρ) (hh : HR ρ H W) (ha : ArgsR ρ args args') :
    Calls P k args' W fun e W' => ∃ v' ρ', e = .returned v' ∧ VR ρ' v v' ∧ Go.RowKit.Below W.heap.size W W' := by
  have h := hR args H n _ hF ρ W args' hbel hh ha
  have hcf : (callFunc k args').run P W = .ok (.enter k args') W := by
    obtain ⟨c, hc⟩ := Option.isSome_iff_exists.1 hb
    have hn : ¬ fn.name = "runtime.NumGoroutine" := by simpa using hname
    simp [callFunc, hf, hn, hc, Sem.run]
  unfold CallW at h
  rw [hcf] at h
  refine Calls.mono h fun e W' he => ?_
  cases e with
  | returned v' =>
    obtain ⟨ρ', hp⟩ := he
    refine ⟨v', ρ', rfl, hp.val, ⟨hp.step.os, hp.step.tape, hp.step.output, hp.step.size, fun r hr => hp.step.keep r hr fun id κ _ hid => by simp [Eff.ids] at hid⟩⟩
  | panicked c => exact he.elim
  | outgrown => exact he.elim

section
open Go.ChangeShapes Go.WideShapes
variable {T : Type} {en : TypeId × Value → T} {P : Program}

theorem trodAll_stays {W W' : World} {sp : Nat → Bool} (hl : laidOutB P = true) : ∀ {ts : List TypeId} {vs : List Value} {ds : List (DataW T)} {p : List MemPlace}, (∀ t ∈ ts, P.readableRec t = true ∧ t < P.types.size) →
    DataW.TrodAll en P W 0 (fun _ => true) true ts vs ds p → (∀ x ∈ p, W.sameAt W' x) → (∀ x ∈ p, sp x.block = true) → DataW.TrodAll en P W' 0 sp true ts vs ds p
  | [], vs, ds, p, _, h, _, _ => by
    obtain ⟨rfl, rfl, rfl⟩ := trodAll_nil h
    rfl
  | t :: ts, vs, ds, p, ht, h, h1, h2 => by
    obtain ⟨v, vs', d, ds', a, b, rfl, rfl, rfl, g1, g2⟩ := trodAll_cons h
    obtain ⟨r1, r2⟩ := ht t List.mem_cons_self
    exact ⟨a, b, WideElems.Trod_stays hl r1 r2 g1 (fun x hx => h1 x (List.mem_append_left _ hx)) (fun x hx => h2 x (List.mem_append_left _ hx)),
      trodAll_stays hl (fun u hu => ht u (List.mem_cons_of_mem _ hu)) g2 (fun x hx => h1 x (List.mem_append_right _ hx)) (fun x hx => h2 x (List.mem_append_right _ hx)), rfl⟩

/-- the post, where what was there is there as it was -/
theorem post_true {f : Func} {s : ChangeSpec} {apart fresh handsOn again : Bool} {W W' : World} {args : Array Value} {v : Value} {ds gs : List (DataW T)} {before pa : List MemPlace}
    (hW : DataW.Whole en P f.params.toList s.vars apart W args.toList ds gs before)
    (hres : ∀ (b : Nat) (sp : Nat → Bool) (hd : Bool), DataW.TrodAll en P W' b sp hd f.resultTypes.toList (v.resultList f.resultTypes.size) (s.fn T (ds ++ gs)).results [])
    (hargs : ∀ sp : Nat → Bool, (∀ p ∈ before, sp p.block = true) → DataW.TrodAll en P W' 0 sp true f.params.toList args.toList (s.fn T (ds ++ gs)).args pa)
    (hvars : ∀ sp : Nat → Bool, (∀ p ∈ before, sp p.block = true) → DataW.TrodVars en P W' sp s.vars (s.fn T (ds ++ gs)).vars [])
    (hps : before = pa) (hb : Go.RowKit.Below W.heap.size W W')
    (hok : ∀ (j : Nat) (t : TypeId) (r : Value), f.resultTypes[j]? = some t → (v.resultList f.resultTypes.size)[j]? = some r → Value.okWide P W' .any 0 t r) :
    s.post en P f apart fresh handsOn again W args v W' := by
  have hlt : ∀ p ∈ before, p.block < W.heap.size := fun p hp => hW.lt p hp
  have hold : ∀ p ∈ before, (fun b => decide (b < W.heap.size)) p.block = true := fun p hp => by simpa using hlt p hp
  refine ⟨ds, gs, before, [], pa, [], hW, hres _ _ _, hargs _ hold, hvars _ hold, World.keptBut_mono (fun p hp => ⟨hp, ?_⟩) (hb.frame (· ∈ before)), fun _ => ?_⟩
  · rw [hps] at hp
    exact Or.inr (by simpa using hp)
  · obtain ⟨_, _, _, _, _, hz, hn⟩ := id hW
    refine ⟨hok, _, _, ([] ++ pa) ++ [], ⟨[] ++ pa, [], trodAll_append (hargs _ (fun _ _ => rfl)) (hres _ _ _), hvars _ (fun _ _ => rfl), rfl, ?_, ?_⟩, ?_⟩
    · intro b off hp
      have hp' : MemPlace.cell b off ∈ before := by rw [hps]; simpa using hp
      rw [hb.frozen (p := ⟨b, off, none⟩) (hlt _ hp')]
      exact hz b off hp'
    · intro ha
      have := hn ha
      rw [hps] at this
      simpa using this
    · intro p hp _
      rw [hps]
      simpa using hp

/-- a law that returns true: what is to be shown of it, is that its call comes to that -/
theorem law_true {C : Checked} {os : Os} {k : FuncId} {fn : Func} {s : ChangeSpec} {apart fresh handsOn again : Bool} {tb : TypeId}
    (own : ownKnob C.prog.godebug = none) (started : os.Started) (noInit : C.prog.inits.idxOf? k = none) (hfn : C.prog.funcs[k]? = some fn)
    (witness : ∃ (w : World) (tape : Tape) (i : Input), w.os = os ∧ (w.forCall tape i).Shaped C.prog ∧ i.vars = [] ∧ Input.okWide C.prog (w.forCall tape i) .any w.heap.size k i ∧
      s.pre6 en C.prog fn [] apart (w.forCall tape i).memory i.args ∧ ({} : Assume).holds C.prog (lone (Frame.enter C.prog k i.args .normal) [] (w.forCall tape i)))
    (hl : laidOutB C.prog = true) (hts : fn.params.toList.all (fun t => C.prog.readableRec t && decide (t < C.prog.types.size)) = true) (hrt : fn.resultTypes = #[tb]) (hb : C.prog.underlying tb = some .bool) (hvars : s.vars = [])
    (hs : ∀ (ds : List (DataW T)), ds.length = fn.params.size → (s.fn T ds).results = [.lit (.bool true)] ∧ (s.fn T ds).args = ds ∧ (s.fn T ds).vars = [])
    (main : ∀ (W : World) (base : Nat) (args : Array Value), args.size = fn.params.size → (∀ (j : Nat) t v, fn.params[j]? = some t → args[j]? = some v → Value.okWide C.prog W .any base t v) → ∀ (ds : List (DataW T)) (p : List MemPlace), DataW.TrodAll en C.prog W 0 (fun _ => true) true fn.params.toList args.toList ds p →
      Calls C.prog k args W fun e W' => ∃ v' ρ', e = .returned v' ∧ VR ρ' (.bool true) v' ∧ Go.RowKit.Below W.heap.size W W') :
    ReturnsInHanded {} C os k .any (s.pre6 en C.prog fn [] apart) (s.post en C.prog fn apart fresh handsOn again) := by
  refine returnsInHanded_of_change own started noInit hfn witness ?_
  intro W base args ds gs before hval hW hcnd _
  have hW' := hW
  obtain ⟨p, q, hA, hV, hpq, hfz, hnd⟩ := hW
  rw [hvars] at hV
  obtain ⟨rfl, rfl⟩ := trodVars_none hV
  have hlen : ∀ {ts : List TypeId} {vs : List Value} {ds : List (DataW T)} {p : List MemPlace}, DataW.TrodAll en C.prog W 0 (fun _ => true) true ts vs ds p → vs.length = ts.length ∧ ds.length = ts.length := by
    intro ts
    induction ts with
    | nil => intro vs ds p h; obtain ⟨rfl, rfl, rfl⟩ := trodAll_nil h; exact ⟨rfl, rfl⟩
    | cons t ts ih =>
      intro vs ds p h
      obtain ⟨v, vs', d, ds', a, b, rfl, rfl, rfl, g1, g2⟩ := trodAll_cons h
      obtain ⟨i1, i2⟩ := ih g2
      exact ⟨by simp [i1], by simp [i2]⟩
  obtain ⟨l1, l2⟩ := hlen hA
  refine (main W base args (by simpa using l1) hval ds p hA).mono fun e W' he => ?_
  obtain ⟨v', ρ', rfl, hv, hbel⟩ := he
  have := bool_inv hv
  subst this
  obtain ⟨s1, s2, s3⟩ := hs ds (by simpa using l2)
  simp only [List.append_nil] at hpq
  subst hpq
  refine ⟨_, rfl, post_true (pa := before) hW' (fun b sp hd => ?_) (fun sp hsp => ?_) (fun sp _ => ?_) rfl hbel (Go.RowKit.ok_one hrt rfl (Go.RowKit.okWide_bool_mk hb true))⟩
  · simp only [List.append_nil, s1, hrt]
    exact trodAll_mk1 (Go.RowKit.shut_bool hb true)
  · simp only [List.append_nil, s2]
    refine trodAll_stays hl (fun t ht => ?_) hA (fun x hx => hbel.same (hW'.lt x hx)) hsp
    have := List.all_eq_true.1 hts t ht
    simpa using this
  · simp only [List.append_nil, s3, hvars]
    rfl
end

/-! arguments of plain values -/
/-- such a cell is a member of that Lean type -/
class CellIs (P : Program) (t : TypeId) (α : Type) [Enc α] : Prop where
  is : ∀ (W : World) (base : Nat) (v : Value), Cell.okWide P W .any base t v → ∃ a : α, v = enc a
theorem int_cell {P : Program} {W : World} {base : Nat} {t : TypeId} {k : IntKind} {v : Value} (ht : P.underlying t = some (.int k)) (h : Cell.okWide P W .any base t v) : ∃ n, v = .int k n ∧ k.min ≤ n ∧ n ≤ k.max := by
  cases v <;> simp only [Cell.okWide, ht, Cell.ok] at h
  obtain ⟨rfl, h⟩ := h
  exact ⟨_, rfl, h⟩
theorem cellIs_u64 {P : Program} {t : TypeId} (ht : P.underlying t = some (.int .u64)) : CellIs P t UInt64 := ⟨fun W base v h => by
  obtain ⟨n, rfl, h1, h2⟩ := int_cell ht h
  have h1 : 0 ≤ n := h1
  have h2 : n ≤ 18446744073709551615 := h2
  refine ⟨UInt64.ofNat n.toNat, ?_⟩
  have : (UInt64.ofNat n.toNat).toNat = n.toNat := UInt64.toNat_ofNat_of_lt' (by simp [UInt64.size]; omega)
  show Value.int .u64 n = Value.int .u64 ((UInt64.ofNat n.toNat).toNat : Int)
  rw [this, Int.toNat_of_nonneg h1]⟩
theorem cellIs_u8 {P : Program} {t : TypeId} (ht : P.underlying t = some (.int .u8)) : CellIs P t UInt8 := ⟨fun W base v h => by
  obtain ⟨n, rfl, h1, h2⟩ := int_cell ht h
  have h1 : 0 ≤ n := h1
  have h2 : n ≤ 255 := h2
  refine ⟨UInt8.ofNat n.toNat, ?_⟩
  have : (UInt8.ofNat n.toNat).toNat = n.toNat := UInt8.toNat_ofNat_of_lt' (by simp [UInt8.size]; omega)
  show Value.int .u8 n = Value.int .u8 ((UInt8.ofNat n.toNat).toNat : Int)
  rw [this, Int.toNat_of_nonneg h1]⟩
theorem cellIs_i64 {P : Program} {t : TypeId} (ht : P.underlying t = some (.int .i64)) : CellIs P t Int := ⟨fun W base v h => by
  obtain ⟨n, rfl, h1, h2⟩ := int_cell ht h
  exact ⟨n, rfl⟩⟩

/-- cells, each as its type tells -/
def Fits (P : Program) (W : World) (base : Nat) (c : List Value) (ts : List TypeId) : Prop := c.length = ts.length ∧ ∀ (i : Nat) v, c[i]? = some v → ∃ u, ts[i]? = some u ∧ Cell.okWide P W .any base u v
section
variable {P : Program} {W : World} {base : Nat}
theorem fits_of_wide {t : TypeId} {v : Value} {ts : List TypeId} {u : TypeDesc} (hu : P.underlying t = some u) (hagg : (match u with | .struct _ | .array _ _ => true | _ => false) = true) (hts : P.cellTypes P.depth t = some ts) (hsz : P.cellsOf t = ts.length) (h : Value.okWide P W .any base t v) :
    ∃ c, v = .agg c.toArray ∧ Fits P W base c ts := by
  have main : (∃ cs, v = .agg cs ∧ cs.size = P.cellsOf t ∧ Row.okWide P W .any base t cs) → ∃ c, v = .agg c.toArray ∧ Fits P W base c ts := by
    rintro ⟨cs, rfl, h1, ts', h2, _, h3⟩
    rw [hts] at h2; cases h2
    refine ⟨cs.toList, by simp, by simp [h1, hsz], fun i v hv => ?_⟩
    have hv' : cs[i]? = some v := by simpa using hv
    obtain ⟨u, e1, e2⟩ := h3 i v hv'
    have hi : i < cs.size := (Array.getElem?_eq_some_iff.1 hv').1
    rw [Nat.mod_eq_of_lt (by omega)] at e1
    exact ⟨u, e1, e2⟩
  unfold Value.okWide at h
  rw [hu] at h
  cases u <;> simp only at hagg <;> first | (cases hagg; done) | exact main h
theorem fits_append {c : List Value} {a b : List TypeId} (h : Fits P W base c (a ++ b)) : ∃ x y, c = x ++ y ∧ Fits P W base x a ∧ Fits P W base y b := by
  obtain ⟨h1, h2⟩ := h
  simp only [List.length_append] at h1
  refine ⟨c.take a.length, c.drop a.length, (List.take_append_drop _ _).symm, ⟨by simp; omega, fun i v hv => ?_⟩, ⟨by simp; omega, fun i v hv => ?_⟩⟩
  · rw [List.getElem?_take] at hv
    split at hv
    · rename_i hi
      obtain ⟨u, e1, e2⟩ := h2 i v hv
      rw [List.getElem?_append_left hi] at e1
      exact ⟨u, e1, e2⟩
    · cases hv
  · rw [List.getElem?_drop] at hv
    obtain ⟨u, e1, e2⟩ := h2 _ v hv
    rw [List.getElem?_append_right (by omega)] at e1
    have : a.length + i - a.length = i := by omega
    rw [this] at e1
    exact ⟨u, e1, e2⟩
theorem fits_one {α : Type} [Enc α] {c : List Value} {t : TypeId} (hc : CellIs P t α) (h : Fits P W base c [t]) : ∃ a : α, c = [enc a] := by
  obtain ⟨h1, h2⟩ := h
  obtain ⟨x, rfl⟩ := List.length_eq_one_iff.1 h1
  obtain ⟨u, e1, e2⟩ := h2 0 x rfl
  cases e1
  obtain ⟨a, rfl⟩ := hc.is W base x e2
  exact ⟨a, rfl⟩
theorem fits_many {α : Type} [Enc α] {t : TypeId} (hc : CellIs P t α) : ∀ (k : Nat) {c : List Value}, Fits P W base c (List.replicate k t) → ∃ v : Vector α k, c = encs v.toList := by
  have gen : ∀ (k : Nat) {c : List Value}, Fits P W base c (List.replicate k t) → ∃ l : List α, l.length = k ∧ c = encs l := by
    intro k
    induction k with
    | zero =>
      intro c h
      have := h.1
      simp at this; subst this
      exact ⟨[], rfl, rfl⟩
    | succ k ih =>
      intro c h
      rw [List.replicate_succ, show t :: List.replicate k t = [t] ++ List.replicate k t from rfl] at h
      obtain ⟨x, y, rfl, g1, g2⟩ := fits_append h
      obtain ⟨a, rfl⟩ := fits_one hc g1
      obtain ⟨l, hl, rfl⟩ := ih g2
      exact ⟨a :: l, by simp [hl], rfl⟩
  intro k c h
  obtain ⟨l, rfl, rfl⟩ := gen k h
  exact ⟨⟨l.toArray, by simp⟩, by simp⟩
end
end Go.Proofs.Ytdnnojblneccdaa
