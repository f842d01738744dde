/-
  The types of a program, looked at by the kernel; comparisons of arrays and structs.
-/
import Derived.Test.YtdnnojblneccdaaE19
import Derived.ChangeKeysEq
namespace Go.Proofs.Ytdnnojblneccdaa
set_option linter.unusedSimpArgs false
set_option linter.unusedVariables false
open Go

def beq1 : Value → Value → Bool
  | .bool a, .bool b => a == b
  | .int k a, .int k' b => k == k' && a == b
  | .string a, .string b => decide (a = b)
  | .pointer none, .pointer none => true
  | .slice none 0 0, .slice none 0 0 => true
  | .map none, .map none => true
  | .nilFunc, .nilFunc => true
  | .nilIface, .nilIface => true
  | _, _ => false
theorem beq1_eq {a b : Value} (h : beq1 a b = true) : a = b := by
  unfold beq1 at h
  split at h <;> simp_all
def beqs : List Value → List Value → Bool
  | [], [] => true
  | a :: as, b :: bs => beq1 a b && beqs as bs
  | _, _ => false
theorem beqs_eq : ∀ {a b : List Value}, beqs a b = true → a = b
  | [], [], _ => rfl
  | a :: as, b :: bs, h => by
    simp only [beqs, Bool.and_eq_true] at h
    rw [beq1_eq h.1, beqs_eq h.2]

def TK.fitsB : TK → TypeDesc → Bool
  | .bool, .bool => true
  | .int k, .int k' => k == k'
  | .str, .string => true
  | .ptr e, .pointer e' => e == e'
  | .slice e, .slice e' => e == e'
  | .arr n e, .array n' e' => n == n' && e == e'
  | .struct fs, .struct a => a.toList.map (fun f => (f.offset, f.type)) == fs
  | .map k e, .map k' e' => k == k' && e == e'
  | .func, .func .. => true
  | .iface, .interface _ => true
  | _, _ => false
theorem TK.fitsB_ok {k : TK} {d : TypeDesc} (h : k.fitsB d = true) : k.fits d := by
  unfold TK.fitsB at h
  split at h <;> simp_all [TK.fits]

def tyCheck (P : Program) (t : TypeId) (d : TD) : Bool :=
  match P.underlying t, P.info? t with
  | some u, some i => d.k.fitsB u && i.size == d.size && i.bytes == d.bytes && d.zero.length == d.size &&
    (match i.zero with
     | some (.tuple _) => false
     | some z => beqs z.cells.toList d.zero && z.cells.toList.all clo1 && (d.k.isAgg || clo1 z)
     | none => false)
  | _, _ => false
theorem tyCheck_ok {P : Program} {t : TypeId} {d : TD} (h : tyCheck P t d = true) : TyOk P t d := by
  unfold tyCheck at h
  split at h
  · rename_i u i hu hi
    simp only [Bool.and_eq_true, beq_iff_eq] at h
    obtain ⟨⟨⟨⟨h1, h2⟩, h3⟩, h4⟩, h5⟩ := h
    split at h5
    · cases h5
    · rename_i z hz hzz
      simp only [Bool.and_eq_true, Bool.or_eq_true] at h5
      obtain ⟨⟨h6, h7⟩, h8⟩ := h5
      exact ⟨⟨u, hu, TK.fitsB_ok h1⟩, ⟨i, z, hi, h2, h3, hzz, beqs_eq h6, h7, fun a e => hz a e, fun hk => h8.resolve_left (by rw [hk]; simp)⟩, h4⟩
    · cases h5
  · cases h

/-- the whole table -/
def tysCheck (P : Program) (l : List (Nat × TD)) : Bool := l.all fun p => tyCheck P p.1 p.2
def tyOf (l : List (Nat × TD)) : Ty := fun t => l.lookup t
theorem tysCheck_ok {P : Program} {l : List (Nat × TD)} (h : tysCheck P l = true) : DOk P (tyOf l) := by
  intro t d hd
  have hm : (t, d) ∈ l := by
    unfold tyOf at hd
    induction l with
    | nil => simp at hd
    | cons x l ih =>
      obtain ⟨a, b⟩ := x
      rw [List.lookup_cons] at hd
      split at hd
      · rename_i e
        simp at e; subst e; cases hd; exact List.mem_cons_self
      · simp only [tysCheck, List.all_cons, Bool.and_eq_true] at h
        exact List.mem_cons_of_mem _ (ih h.2 hd)
  exact tyCheck_ok (List.all_eq_true.1 h _ hm)
def fieldsCheck (l : List (Nat × TD)) : Bool := l.all fun p => match p.2.k with | .struct fs => fs.all fun f => (l.lookup f.2).isSome | _ => true
theorem fieldsCheck_ok {l : List (Nat × TD)} (h : fieldsCheck l = true) : ∀ t, fieldsKnown (tyOf l) t = true := by
  intro t
  unfold fieldsKnown
  split
  · rename_i d hd
    have hm : (t, d) ∈ l := by
      unfold tyOf at hd
      clear h
      induction l with
      | nil => simp at hd
      | cons x l ih =>
        obtain ⟨a, b⟩ := x
        rw [List.lookup_cons] at hd
        split at hd
        · rename_i e
          simp at e; subst e; cases hd; exact List.mem_cons_self
        · exact List.mem_cons_of_mem _ (ih hd)
    have := List.all_eq_true.1 h _ hm
    simp only at this
    split
    · rename_i fs hk
      rw [hk] at this
      exact this
    · rfl
  · rfl

/-- the kinds of the cells of a type whose values may be compared -/
def kindsOf (D : Ty) (S : List Nat) : Nat → TypeId → Option (List TK)
  | 0, _ => none
  | m + 1, t =>
    match D t with
    | some d => match d.k with
      | .bool => if d.size = 1 then some [.bool] else none
      | .int k => if d.size = 1 then some [.int k] else none
      | .str => if d.size = 1 then some [.str] else none
      | .arr n e => (kindsOf D S m e).bind fun ks => match D e with
        | some de => if ks.length = de.size ∧ d.size = n * ks.length then some ((List.replicate n ks).flatten) else none
        | none => none
      | .struct fs => if t ∈ S then (go (kindsOf D S m) fs 0).bind fun ks => if ks.length = d.size then some ks else none else none
      | _ => none
    | none => none
where
  go (f : TypeId → Option (List TK)) : List (Nat × Nat) → Nat → Option (List TK)
    | [], _ => some []
    | (off, ft) :: fs, at_ => if off = at_ then (f ft).bind fun ks => if ks.length = 0 then none else (go f fs (at_ + ks.length)).map fun r => ks ++ r else none

def structCheck (P : Program) (t : TypeId) : Bool :=
  !P.stoodInHeld t && (match P.underlying t with | some (.struct a) => a.all fun f => f.name != "_" | _ => false)

theorem cellsEq_append : ∀ {ks ls : List TK} {xs xs2 ys ys2 : List Value} {b : Bool}, xs.length = ks.length → ys.length = ks.length → cellsEq (ks ++ ls) (xs ++ xs2) (ys ++ ys2) = some b →
    ∃ b1 b2, cellsEq ks xs ys = some b1 ∧ cellsEq ls xs2 ys2 = some b2 ∧ b = (b1 && b2)
  | [], ls, [], xs2, [], ys2, b, _, _, h => ⟨true, b, rfl, h, by simp⟩
  | k :: ks, ls, x :: xs, xs2, y :: ys, ys2, b, h1, h2, h => by
    simp only [List.cons_append, cellsEq, Option.bind_eq_some_iff, Option.map_eq_some_iff] at h
    obtain ⟨a, ha, c, hc, rfl⟩ := h
    obtain ⟨b1, b2, g1, g2, rfl⟩ := cellsEq_append (by simpa using h1) (by simpa using h2) hc
    exact ⟨a && b1, b2, by simp [cellsEq, ha, g1], g2, by rw [Bool.and_assoc]⟩
  | [], _, _ :: _, _, _, _, _, h, _, _ => by simp at h
  | [], _, [], _, _ :: _, _, _, _, h, _ => by simp at h
  | _ :: _, _, [], _, _, _, _, h, _, _ => by simp at h
  | _ :: _, _, _ :: _, _, [], _, _, _, h, _ => by simp at h
theorem cellsEq_len : ∀ {ks : List TK} {xs ys : List Value} {b : Bool}, cellsEq ks xs ys = some b → xs.length = ks.length ∧ ys.length = ks.length
  | [], [], [], _, _ => ⟨rfl, rfl⟩
  | k :: ks, x :: xs, y :: ys, b, h => by
    simp only [cellsEq, Option.bind_eq_some_iff, Option.map_eq_some_iff] at h
    obtain ⟨a, ha, c, hc, rfl⟩ := h
    obtain ⟨h1, h2⟩ := cellsEq_len hc
    exact ⟨by simp [h1], by simp [h2]⟩
  | [], [], _ :: _, _, h => by simp [cellsEq] at h
  | [], _ :: _, _, _, h => by simp [cellsEq] at h
  | _ :: _, [], _, _, h => by simp [cellsEq] at h
  | _ :: _, _ :: _, [], _, h => by simp [cellsEq] at h

section
variable {P : Program} {D : Ty} {S : List Nat}

/-- the value that these cells make, as a part of the type -/
def partV (d : TD) (cs : List Value) : Value := if d.k.isAgg then .agg cs.toArray else cs.headD (.tuple #[])

theorem part_cells (hD : DOk P D) {ft : TypeId} {df : TD} (hd : D ft = some df) {ks : List TK} {a : Array Value} {off : Nat} (hle : off + ks.length ≤ a.size) (hs : df.size = ks.length) (h1 : df.k.isAgg = false → ks.length = 1) (w : World) :
    (part ft a off).run P w = .ok (partV df ((a.toList.drop off).take ks.length)) w := by
  unfold partV
  cases hg : df.k.isAgg with
  | true =>
    have : (a.extract off (off + df.size)) = ((a.toList.drop off).take ks.length).toArray := by
      apply Array.ext'
      simp [Array.toList_extract, List.extract, hs]
    simp [part, run_isAgg hD hd, hg, run_size hD hd, this]
  | false =>
    have hl := h1 hg
    have hlt : off < a.size := by omega
    have ha : a[off]? = some a[off] := by simp
    have hh : ((a.toList.drop off).take ks.length).headD (.tuple #[]) = a[off] := by
      rw [hl]
      have : (a.toList.drop off).take 1 = [a[off]] := by
        rw [List.take_one]
        simp [ha]
      rw [this]; rfl
    simp only [part, Sem.run_bind, run_isAgg hD hd, hg, Result.andThen_ok, Bool.false_eq_true, if_false, ha, Sem.run_pure, hh]

theorem equal_ok (hD : DOk P D) (hS : ∀ t ∈ S, structCheck P t = true) : ∀ (m : Nat) (t : TypeId) (d : TD) (ks : List TK), D t = some d → kindsOf D S m t = some ks → d.size = ks.length ∧ (d.k.isAgg = false → ks.length = 1) ∧
    ∀ (dd : Nat) (w : World) (xs ys : List Value) (b : Bool), m ≤ dd → cellsEq ks xs ys = some b → (Op.equalIn dd t (partV d xs) (partV d ys)).run P w = .ok b w
  | 0, t, d, ks, _, h => by simp [kindsOf] at h
  | m + 1, t, d, ks, hd, h => by
    simp only [kindsOf, hd] at h
    obtain ⟨u, hu, hfit⟩ := (hD t d hd).und
    have scal : ∀ (k : TK), d.size = 1 → d.k.isAgg = false → ks = [k] → (∀ dd w x y b, cellEq k x y = some b → (Op.equalIn (dd + 1) t x y).run P w = .ok b w) →
        d.size = ks.length ∧ (d.k.isAgg = false → ks.length = 1) ∧ ∀ (dd : Nat) (w : World) (xs ys : List Value) (b : Bool), m + 1 ≤ dd → cellsEq ks xs ys = some b → (Op.equalIn dd t (partV d xs) (partV d ys)).run P w = .ok b w := by
      intro k hsz hagg hks hrun
      subst hks
      refine ⟨hsz, fun _ => rfl, fun dd w xs ys b hm hc => ?_⟩
      obtain ⟨l1, l2⟩ := cellsEq_len hc
      obtain ⟨x, rfl⟩ := List.length_eq_one_iff.1 l1
      obtain ⟨y, rfl⟩ := List.length_eq_one_iff.1 l2
      simp only [cellsEq, Option.bind_eq_some_iff, Option.map_some, Option.some.injEq, Bool.and_true] at hc
      obtain ⟨a, ha, rfl⟩ := hc
      obtain ⟨dd, rfl⟩ : ∃ e, dd = e + 1 := ⟨dd - 1, by omega⟩
      simp only [partV, hagg, Bool.false_eq_true, if_false, List.headD_cons]
      exact hrun dd w x y a ha
    split at h
    · rename_i hk
      split at h
      case isFalse => cases h
      rename_i hsz
      cases h
      rw [hk] at hfit; simp only [TK.fits] at hfit; subst hfit
      refine scal .bool hsz (by rw [hk]; rfl) rfl fun dd w x y b hc => ?_
      unfold cellEq at hc
      split at hc <;> first | (cases hc; done) | skip
      all_goals first
        | (rename_i e; cases e; done)
        | (cases hc; exact run_equalIn_bool' w dd t _ _ hu)
        | (exfalso; rename_i e _ _; cases e; done)
        | simp_all
    · rename_i k hk
      split at h
      case isFalse => cases h
      rename_i hsz
      cases h
      rw [hk] at hfit; simp only [TK.fits] at hfit; subst hfit
      refine scal (.int k) hsz (by rw [hk]; rfl) rfl fun dd w x y b hc => ?_
      cases x <;> cases y <;> simp only [cellEq] at hc <;> try (cases hc; done)
      split at hc
      · rename_i hkk; subst hkk; cases hc; exact run_equalIn_int w dd t _ k _ _ hu
      · cases hc
    · rename_i hk
      split at h
      case isFalse => cases h
      rename_i hsz
      cases h
      rw [hk] at hfit; simp only [TK.fits] at hfit; subst hfit
      refine scal .str hsz (by rw [hk]; rfl) rfl fun dd w x y b hc => ?_
      cases x <;> cases y <;> simp only [cellEq] at hc <;> try (cases hc; done)
      cases hc
      rw [beq_toListBytes]
      exact run_equalIn_string w dd t _ _ hu
    · rename_i n e hk
      simp only [Option.bind_eq_some_iff] at h
      obtain ⟨ks', hks', h⟩ := h
      split at h
      · rename_i de hde
        split at h
        · rename_i hsz2
          obtain ⟨hsz, hsz3⟩ := hsz2
          cases h
          rw [hk] at hfit; simp only [TK.fits] at hfit; subst hfit
          obtain ⟨_, i1, i2⟩ := equal_ok hD hS m e de ks' hde hks'
          refine ⟨by rw [hsz3]; simp, fun hf => absurd hf (by rw [hk]; simp [TK.isAgg]), fun dd w xs ys b hm hc => ?_⟩
          obtain ⟨dd, rfl⟩ : ∃ e, dd = e + 1 := ⟨dd - 1, by omega⟩
          obtain ⟨ie, ze, j1, j2, _⟩ := (hD e de hde).info
          have hpv : ∀ cs, partV d cs = .agg cs.toArray := by intro cs; simp [partV, hk, TK.isAgg]
          rw [hpv, hpv, run_equalIn_array w dd xs.toArray ys.toArray hu j1]
          have hco : P.cellsOf e = ks'.length := by simp [Program.cellsOf, j1, j2, hsz]
          rw [hco]
          have items : ∀ (is : List Nat) (k0 : Nat) (xr yr : List Value) (b : Bool), is = List.range' k0 is.length → xs.drop (k0 * ks'.length) = xr → ys.drop (k0 * ks'.length) = yr →
              cellsEq ((List.replicate is.length ks').flatten) xr yr = some b → (Op.eqItems dd e ks'.length xs.toArray ys.toArray is).run P w = .ok b w := by
            intro is
            induction is with
            | nil =>
              intro k0 xr yr b _ h1 h2 hc
              simp only [List.length_nil, List.replicate_zero, List.flatten_nil] at hc
              have hb : b = true := by
                obtain ⟨l1, l2⟩ := cellsEq_len hc
                have e1 := List.eq_nil_of_length_eq_zero l1
                have e2 := List.eq_nil_of_length_eq_zero l2
                rw [e1, e2] at hc; simpa [cellsEq] using hc.symm
              subst hb
              simp [Op.eqItems]
            | cons j is ih =>
              intro k0 xr yr b hr h1 h2 hc
              simp only [List.length_cons, List.range'_succ, List.cons.injEq] at hr
              obtain ⟨rfl, hr⟩ := hr
              simp only [List.length_cons, List.replicate_succ, List.flatten_cons] at hc
              obtain ⟨l1, l2⟩ := cellsEq_len hc
              simp only [List.length_append] at l1 l2
              have t1 : xr = xr.take ks'.length ++ xr.drop ks'.length := (List.take_append_drop _ _).symm
              have t2 : yr = yr.take ks'.length ++ yr.drop ks'.length := (List.take_append_drop _ _).symm
              rw [t1, t2] at hc
              obtain ⟨b1, b2, c1, c2, rfl⟩ := cellsEq_append (by simp; omega) (by simp; omega) hc
              have hx : j * ks'.length + ks'.length ≤ xs.toArray.size := by
                have : (xs.drop (j * ks'.length)).length = xr.length := by rw [h1]
                simp at this ⊢
                by_cases h0 : ks'.length = 0
                · simp [h0]
                · omega
              have hy : j * ks'.length + ks'.length ≤ ys.toArray.size := by
                have : (ys.drop (j * ks'.length)).length = yr.length := by rw [h2]
                simp at this ⊢
                by_cases h0 : ks'.length = 0
                · simp [h0]
                · omega
              have p1 := part_cells (P := P) hD hde (ks := ks') (a := xs.toArray) hx hsz.symm i1 w
              have p2 := part_cells (P := P) hD hde (ks := ks') (a := ys.toArray) hy hsz.symm i1 w
              simp only [h1, h2] at p1 p2
              have p3 := i2 dd w _ _ b1 (by omega) c1
              have p4 := ih (j + 1) (xr.drop ks'.length) (yr.drop ks'.length) b2 hr (by rw [← h1, List.drop_drop]; congr 1; rw [Nat.add_mul, Nat.one_mul]) (by rw [← h2, List.drop_drop]; congr 1; rw [Nat.add_mul, Nat.one_mul]) c2
              simp only [Op.eqItems, Sem.run_bind, p1, p2, p3, Result.andThen_ok]
              cases b1
              · simp
              · simpa using p4
          exact items (List.range n) 0 xs ys b (by simp [List.range_eq_range']) (by simp) (by simp) (by simpa using hc)
        · cases h
      · cases h
    · rename_i fs hk
      split at h
      · rename_i hmem
        simp only [Option.bind_eq_some_iff] at h
        obtain ⟨ks2, h, hks2⟩ := h
        split at hks2
        case isFalse => cases hks2
        rename_i hszs
        cases hks2
        rw [hk] at hfit
        obtain ⟨a, rfl, hfs⟩ := hfit
        have hsc := hS t hmem
        simp only [structCheck, hu, Bool.and_eq_true, Bool.not_eq_true', Array.all_eq_true_iff_forall_mem] at hsc
        refine ⟨hszs.symm, fun hf => absurd hf (by rw [hk]; simp [TK.isAgg]), fun dd w xs ys b hm hc => ?_⟩
        obtain ⟨dd, rfl⟩ : ∃ e, dd = e + 1 := ⟨dd - 1, by omega⟩
        have hpv : ∀ cs, partV d cs = .agg cs.toArray := by intro cs; simp [partV, hk, TK.isAgg]
        have hfo : P.fieldsOf t = a := by simp [Program.fieldsOf, hu]
        rw [hpv, hpv, run_equalIn_struct w dd t xs.toArray ys.toArray (by rw [hfo]; exact hu) hsc.1, hfo]
        have fields : ∀ (l : List Field) (at_ : Nat) (ks : List TK) (xr yr : List Value) (b : Bool), (∀ f ∈ l, f.name ≠ "_") → kindsOf.go (kindsOf D S m) (l.map fun f => (f.offset, f.type)) at_ = some ks →
            xs.drop at_ = xr → ys.drop at_ = yr → cellsEq ks xr yr = some b → (Op.eqFields dd xs.toArray ys.toArray l).run P w = .ok b w := by
          intro l
          induction l with
          | nil =>
            intro at_ ks xr yr b _ hg h1 h2 hc
            simp only [List.map_nil, kindsOf.go, Option.some.injEq] at hg
            subst hg
            have hb : b = true := by
              obtain ⟨l1, l2⟩ := cellsEq_len hc
              have e1 := List.eq_nil_of_length_eq_zero l1
              have e2 := List.eq_nil_of_length_eq_zero l2
              rw [e1, e2] at hc; simpa [cellsEq] using hc.symm
            subst hb
            simp [Op.eqFields]
          | cons f l ih =>
            intro at_ ks xr yr b hn hg h1 h2 hc
            simp only [List.map_cons, kindsOf.go] at hg
            split at hg
            · rename_i hoff
              subst hoff
              simp only [Option.bind_eq_some_iff] at hg
              obtain ⟨kf, hkf, hg⟩ := hg
              split at hg
              case isTrue => cases hg
              rename_i hk0
              simp only [Option.map_eq_some_iff] at hg
              obtain ⟨kr, hkr, rfl⟩ := hg
              have hdf : ∃ df, D f.type = some df := by
                cases m with
                | zero => simp [kindsOf] at hkf
                | succ m =>
                  cases hdf : D f.type with
                  | none => simp [kindsOf, hdf] at hkf
                  | some df => exact ⟨df, rfl⟩
              obtain ⟨df, hdf⟩ := hdf
              obtain ⟨hsz, i1, i2⟩ := equal_ok hD hS m f.type df kf hdf hkf
              obtain ⟨l1, l2⟩ := cellsEq_len hc
              simp only [List.length_append] at l1 l2
              have t1 : xr = xr.take kf.length ++ xr.drop kf.length := (List.take_append_drop _ _).symm
              have t2 : yr = yr.take kf.length ++ yr.drop kf.length := (List.take_append_drop _ _).symm
              rw [t1, t2] at hc
              obtain ⟨b1, b2, c1, c2, rfl⟩ := cellsEq_append (by simp; omega) (by simp; omega) hc
              have hx : f.offset + kf.length ≤ xs.toArray.size := by
                have : (xs.drop f.offset).length = xr.length := by rw [h1]
                simp at this ⊢
                omega
              have hy : f.offset + kf.length ≤ ys.toArray.size := by
                have : (ys.drop f.offset).length = yr.length := by rw [h2]
                simp at this ⊢
                omega
              have p1 := part_cells (P := P) hD hdf (ks := kf) (a := xs.toArray) hx hsz i1 w
              have p2 := part_cells (P := P) hD hdf (ks := kf) (a := ys.toArray) hy hsz i1 w
              simp only [h1, h2] at p1 p2
              have p3 := i2 dd w _ _ b1 (by omega) c1
              have p4 := ih (f.offset + kf.length) kr (xr.drop kf.length) (yr.drop kf.length) b2 (fun g hg => hn g (List.mem_cons_of_mem _ hg)) hkr (by rw [← h1, List.drop_drop]) (by rw [← h2, List.drop_drop]) c2
              have hnf : f.name ≠ "_" := hn f List.mem_cons_self
              simp only [Op.eqFields, hnf, ne_eq, not_false_eq_true, if_true, Sem.run_bind, p1, p2, p3, Result.andThen_ok]
              cases b1
              · simp
              · simpa using p4
            · cases hg
        refine fields a.toList 0 ks xs ys b (fun f hf => ?_) (by rw [hfs]; exact h) (by simp) (by simp) hc
        have := hsc.2 f (by simpa using hf)
        simpa using this
      · cases h
    · cases h
end
end Go.Proofs.Ytdnnojblneccdaa
