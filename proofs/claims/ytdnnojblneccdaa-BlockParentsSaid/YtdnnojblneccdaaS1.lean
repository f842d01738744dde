/-
  The structs of this program.
-/
import Derived.Test.YtdnnojblneccdaaS0
import Derived.Test.YtdnnojblneccdaaE24
namespace Go.Proofs.Ytdnnojblneccdaa
set_option linter.unusedSimpArgs false
set_option linter.unusedVariables false
open Go
open Enc (enc)

@[ext] structure Vote where
  height : UInt64
  round : UInt64
  phase : Int
  value : Vector UInt8 32
  proof : UInt64
  voter : Vector UInt8 32
  sig : Vector UInt8 64
  deriving DecidableEq
def Vote.cells (v : Vote) : List Value := [enc v.height] ++ ([enc v.round] ++ ([enc v.phase] ++ (encs v.value.toList ++ ([enc v.proof] ++ (encs v.voter.toList ++ (encs v.sig.toList))))))
theorem Vote.cells_length (v : Vote) : v.cells.length = 132 := by simp only [Vote.cells, List.length_append, encs_vec_length, List.length_singleton, List.length_nil, List.length_cons]
theorem Vote.cells_inj {a b : Vote} (h : a.cells = b.cells) : a = b := by
  simp only [Vote.cells] at h
  obtain ⟨h0, h⟩ := app_inj h (by simp only [List.length_append, encs_vec_length, List.length_singleton, List.length_nil, List.length_cons])
  obtain ⟨h1, h⟩ := app_inj h (by simp only [List.length_append, encs_vec_length, List.length_singleton, List.length_nil, List.length_cons])
  obtain ⟨h2, h⟩ := app_inj h (by simp only [List.length_append, encs_vec_length, List.length_singleton, List.length_nil, List.length_cons])
  obtain ⟨h3, h⟩ := app_inj h (by simp only [List.length_append, encs_vec_length, List.length_singleton, List.length_nil, List.length_cons])
  obtain ⟨h4, h⟩ := app_inj h (by simp only [List.length_append, encs_vec_length, List.length_singleton, List.length_nil, List.length_cons])
  obtain ⟨h5, h⟩ := app_inj h (by simp only [List.length_append, encs_vec_length, List.length_singleton, List.length_nil, List.length_cons])
  have h6 := h
  ext1
  · exact Enc.inj _ _ (by simpa using h0)
  · exact Enc.inj _ _ (by simpa using h1)
  · exact Enc.inj _ _ (by simpa using h2)
  · exact encs_vec_inj h3
  · exact Enc.inj _ _ (by simpa using h4)
  · exact encs_vec_inj h5
  · exact encs_vec_inj h6
instance : Enc Vote := ⟨fun v => .agg v.cells.toArray, fun _ _ h => Vote.cells_inj (agg_inj h)⟩
theorem enc_Vote (v : Vote) : enc v = .agg v.cells.toArray := rfl
theorem cellsOf_Vote (v : Vote) : cellsOf (enc v) = some v.cells := rfl
def Vote.zero : Vote := ⟨0, 0, 0, Vector.replicate 32 0, 0, Vector.replicate 32 0, Vector.replicate 64 0⟩
theorem zero_29 {d : TD} (h : D 29 = some d) : d.zero = Vote.zero.cells := by
  rw [D_29] at h; cases h; kernel_rfl
theorem zero_28 {d : TD} (h : D 28 = some d) : d.zero = Vote.zero.cells := by
  rw [D_28] at h; cases h; kernel_rfl
theorem Vote.le (v : Vote) {k : Nat} (h : Nat.ble k 132 = true) : k ≤ v.cells.length := by rw [v.cells_length]; exact Nat.le_of_ble_eq_true h
theorem cells_Vote_eq (a b : Vote) {ks : List TK} (hk : K 29 = some ks) : cellsEq ks a.cells b.cells = some (decide (a = b)) := by
  have hk2 := hk
  rw [K_29] at hk2
  cases hk2
  simp only [List.flatten_cons, List.flatten_nil, List.append_nil]
  refine ((cellsEq_mk (cellsEq_one (cellEq_u64 a.height b.height)) (cellsEq_mk (cellsEq_one (cellEq_u64 a.round b.round)) (cellsEq_mk (cellsEq_one (cellEq_i64 a.phase b.phase)) (cellsEq_mk (cellsEq_encs cellEq_u8 a.value.toList b.value.toList 32 (by simp) (by simp)) (cellsEq_mk (cellsEq_one (cellEq_u64 a.proof b.proof)) (cellsEq_mk (cellsEq_encs cellEq_u8 a.voter.toList b.voter.toList 32 (by simp) (by simp)) (cellsEq_encs cellEq_u8 a.sig.toList b.sig.toList 64 (by simp) (by simp))))))))).trans ?_
  refine congrArg some ?_
  rw [Bool.eq_iff_iff, decide_eq_true_iff, Vote.ext_iff]
  simp only [Bool.and_eq_true, beq_iff_eq, Vector.toList_inj]
theorem bo_Vote_eql29 (a b : Vote) : binOp' D K .eql 29 (enc a) (enc b) = some (.bool (decide (a = b))) := by
  have := cells_Vote_eq a b K_29
  simp only [enc_Vote, binOp', eqOp, K_29, Option.bind_some] at this ⊢
  rw [this]; rfl
theorem bo_Vote_neq29 (a b : Vote) : binOp' D K .neq 29 (enc a) (enc b) = some (.bool (!decide (a = b))) := by
  have := cells_Vote_eq a b K_29
  simp only [enc_Vote, binOp', eqOp, K_29, Option.bind_some] at this ⊢
  rw [this]; rfl
theorem bo_Vote_eql28 (a b : Vote) : binOp' D K .eql 28 (enc a) (enc b) = some (.bool (decide (a = b))) := by
  have := cells_Vote_eq a b K_29
  simp only [enc_Vote, binOp', eqOp, K_28, Option.bind_some] at this ⊢
  rw [this]; rfl
theorem bo_Vote_neq28 (a b : Vote) : binOp' D K .neq 28 (enc a) (enc b) = some (.bool (!decide (a = b))) := by
  have := cells_Vote_eq a b K_29
  simp only [enc_Vote, binOp', eqOp, K_28, Option.bind_some] at this ⊢
  rw [this]; rfl
theorem Vote.cells_known (v : Vote) : v.cells.all known = true := by simp only [Vote.cells, List.all_append, encs_known, List.all_cons, List.all_nil, Enc1.agg1, Bool.and_self]
theorem rd_29 (v : Vote) {d : TD} (hd : d.k.isAgg = true) (hs : d.size = 132) : rdVar d v.cells 0 = some (enc v) := rd_all hd (by rw [hs]; exact v.cells_length)
theorem rd_28 (v : Vote) {d : TD} (hd : d.k.isAgg = true) (hs : d.size = 132) : rdVar d v.cells 0 = some (enc v) := rd_all hd (by rw [hs]; exact v.cells_length)
theorem rd_29_0 (v : Vote) {d : TD} (hd : d.k.isAgg = false) : rdVar d v.cells 0 = some (enc v.height) :=
  rd_one (A := []) (C := [enc v.round] ++ ([enc v.phase] ++ (encs v.value.toList ++ ([enc v.proof] ++ (encs v.voter.toList ++ (encs v.sig.toList)))))) hd (by simp only [Vote.cells, List.append_assoc, List.nil_append, List.append_nil]) (by simp only [List.length_append, encs_vec_length, List.length_singleton, List.length_nil, List.length_cons])
theorem wr_29_0 (v : Vote) (x : UInt64) : wrCells v.cells 0 ([enc x]) = ({ v with height := x } : Vote).cells := by
  rw [wr_part (A := []) (B := [enc v.height]) (C := [enc v.round] ++ ([enc v.phase] ++ (encs v.value.toList ++ ([enc v.proof] ++ (encs v.voter.toList ++ (encs v.sig.toList)))))) (c := v.cells) (by simp only [Vote.cells, List.append_assoc, List.nil_append, List.append_nil]) (by simp only [List.length_append, encs_vec_length, List.length_singleton, List.length_nil, List.length_cons]) (by simp only [List.length_append, encs_vec_length, List.length_singleton, List.length_nil, List.length_cons])]
  simp only [Vote.cells, List.append_assoc, List.nil_append, List.append_nil]
theorem rd_28_0 (v : Vote) {d : TD} (hd : d.k.isAgg = false) : rdVar d v.cells 0 = some (enc v.height) :=
  rd_one (A := []) (C := [enc v.round] ++ ([enc v.phase] ++ (encs v.value.toList ++ ([enc v.proof] ++ (encs v.voter.toList ++ (encs v.sig.toList)))))) hd (by simp only [Vote.cells, List.append_assoc, List.nil_append, List.append_nil]) (by simp only [List.length_append, encs_vec_length, List.length_singleton, List.length_nil, List.length_cons])
theorem wr_28_0 (v : Vote) (x : UInt64) : wrCells v.cells 0 ([enc x]) = ({ v with height := x } : Vote).cells := by
  rw [wr_part (A := []) (B := [enc v.height]) (C := [enc v.round] ++ ([enc v.phase] ++ (encs v.value.toList ++ ([enc v.proof] ++ (encs v.voter.toList ++ (encs v.sig.toList)))))) (c := v.cells) (by simp only [Vote.cells, List.append_assoc, List.nil_append, List.append_nil]) (by simp only [List.length_append, encs_vec_length, List.length_singleton, List.length_nil, List.length_cons]) (by simp only [List.length_append, encs_vec_length, List.length_singleton, List.length_nil, List.length_cons])]
  simp only [Vote.cells, List.append_assoc, List.nil_append, List.append_nil]
theorem rd_29_1 (v : Vote) {d : TD} (hd : d.k.isAgg = false) : rdVar d v.cells 1 = some (enc v.round) :=
  rd_one (A := [enc v.height]) (C := [enc v.phase] ++ (encs v.value.toList ++ ([enc v.proof] ++ (encs v.voter.toList ++ (encs v.sig.toList))))) hd (by simp only [Vote.cells, List.append_assoc, List.nil_append, List.append_nil]) (by simp only [List.length_append, encs_vec_length, List.length_singleton, List.length_nil, List.length_cons])
theorem wr_29_1 (v : Vote) (x : UInt64) : wrCells v.cells 1 ([enc x]) = ({ v with round := x } : Vote).cells := by
  rw [wr_part (A := [enc v.height]) (B := [enc v.round]) (C := [enc v.phase] ++ (encs v.value.toList ++ ([enc v.proof] ++ (encs v.voter.toList ++ (encs v.sig.toList))))) (c := v.cells) (by simp only [Vote.cells, List.append_assoc, List.nil_append, List.append_nil]) (by simp only [List.length_append, encs_vec_length, List.length_singleton, List.length_nil, List.length_cons]) (by simp only [List.length_append, encs_vec_length, List.length_singleton, List.length_nil, List.length_cons])]
  simp only [Vote.cells, List.append_assoc, List.nil_append, List.append_nil]
theorem rd_28_1 (v : Vote) {d : TD} (hd : d.k.isAgg = false) : rdVar d v.cells 1 = some (enc v.round) :=
  rd_one (A := [enc v.height]) (C := [enc v.phase] ++ (encs v.value.toList ++ ([enc v.proof] ++ (encs v.voter.toList ++ (encs v.sig.toList))))) hd (by simp only [Vote.cells, List.append_assoc, List.nil_append, List.append_nil]) (by simp only [List.length_append, encs_vec_length, List.length_singleton, List.length_nil, List.length_cons])
theorem wr_28_1 (v : Vote) (x : UInt64) : wrCells v.cells 1 ([enc x]) = ({ v with round := x } : Vote).cells := by
  rw [wr_part (A := [enc v.height]) (B := [enc v.round]) (C := [enc v.phase] ++ (encs v.value.toList ++ ([enc v.proof] ++ (encs v.voter.toList ++ (encs v.sig.toList))))) (c := v.cells) (by simp only [Vote.cells, List.append_assoc, List.nil_append, List.append_nil]) (by simp only [List.length_append, encs_vec_length, List.length_singleton, List.length_nil, List.length_cons]) (by simp only [List.length_append, encs_vec_length, List.length_singleton, List.length_nil, List.length_cons])]
  simp only [Vote.cells, List.append_assoc, List.nil_append, List.append_nil]
theorem rd_29_2 (v : Vote) {d : TD} (hd : d.k.isAgg = false) : rdVar d v.cells 2 = some (enc v.phase) :=
  rd_one (A := [enc v.height] ++ ([enc v.round])) (C := encs v.value.toList ++ ([enc v.proof] ++ (encs v.voter.toList ++ (encs v.sig.toList)))) hd (by simp only [Vote.cells, List.append_assoc, List.nil_append, List.append_nil]) (by simp only [List.length_append, encs_vec_length, List.length_singleton, List.length_nil, List.length_cons])
theorem wr_29_2 (v : Vote) (x : Int) : wrCells v.cells 2 ([enc x]) = ({ v with phase := x } : Vote).cells := by
  rw [wr_part (A := [enc v.height] ++ ([enc v.round])) (B := [enc v.phase]) (C := encs v.value.toList ++ ([enc v.proof] ++ (encs v.voter.toList ++ (encs v.sig.toList)))) (c := v.cells) (by simp only [Vote.cells, List.append_assoc, List.nil_append, List.append_nil]) (by simp only [List.length_append, encs_vec_length, List.length_singleton, List.length_nil, List.length_cons]) (by simp only [List.length_append, encs_vec_length, List.length_singleton, List.length_nil, List.length_cons])]
  simp only [Vote.cells, List.append_assoc, List.nil_append, List.append_nil]
theorem rd_28_2 (v : Vote) {d : TD} (hd : d.k.isAgg = false) : rdVar d v.cells 2 = some (enc v.phase) :=
  rd_one (A := [enc v.height] ++ ([enc v.round])) (C := encs v.value.toList ++ ([enc v.proof] ++ (encs v.voter.toList ++ (encs v.sig.toList)))) hd (by simp only [Vote.cells, List.append_assoc, List.nil_append, List.append_nil]) (by simp only [List.length_append, encs_vec_length, List.length_singleton, List.length_nil, List.length_cons])
theorem wr_28_2 (v : Vote) (x : Int) : wrCells v.cells 2 ([enc x]) = ({ v with phase := x } : Vote).cells := by
  rw [wr_part (A := [enc v.height] ++ ([enc v.round])) (B := [enc v.phase]) (C := encs v.value.toList ++ ([enc v.proof] ++ (encs v.voter.toList ++ (encs v.sig.toList)))) (c := v.cells) (by simp only [Vote.cells, List.append_assoc, List.nil_append, List.append_nil]) (by simp only [List.length_append, encs_vec_length, List.length_singleton, List.length_nil, List.length_cons]) (by simp only [List.length_append, encs_vec_length, List.length_singleton, List.length_nil, List.length_cons])]
  simp only [Vote.cells, List.append_assoc, List.nil_append, List.append_nil]
theorem rd_29_3 (v : Vote) {d : TD} (hd : d.k.isAgg = true) (hs : d.size = 32) : rdVar d v.cells 3 = some (enc v.value) :=
  rd_part (A := [enc v.height] ++ ([enc v.round] ++ ([enc v.phase]))) (B := encs v.value.toList) (C := [enc v.proof] ++ (encs v.voter.toList ++ (encs v.sig.toList))) hd (by simp only [Vote.cells, List.append_assoc, List.nil_append, List.append_nil]) (by simp only [List.length_append, encs_vec_length, List.length_singleton, List.length_nil, List.length_cons]) (by rw [hs]; simp only [List.length_append, encs_vec_length, List.length_singleton, List.length_nil, List.length_cons])
theorem rs_29_3 {v : Vote} {H : IHeap} {id cap : Nat} {s : Option Nat} {ro : Bool} (hH : H id = some (.cells v.cells ro)) : rdS H (.slice (some ⟨id, 3, s⟩) 32 cap) = some v.value.toList :=
  rs_part (A := [enc v.height] ++ ([enc v.round] ++ ([enc v.phase]))) (C := [enc v.proof] ++ (encs v.voter.toList ++ (encs v.sig.toList))) hH (by simp only [Vote.cells, List.append_assoc, List.nil_append, List.append_nil]) (by simp only [List.length_append, encs_vec_length, List.length_singleton, List.length_nil, List.length_cons]) (by simp)
theorem wr_29_3 (v : Vote) (x : Vector UInt8 32) : wrCells v.cells 3 (encs x.toList) = ({ v with value := x } : Vote).cells := by
  rw [wr_part (A := [enc v.height] ++ ([enc v.round] ++ ([enc v.phase]))) (B := encs v.value.toList) (C := [enc v.proof] ++ (encs v.voter.toList ++ (encs v.sig.toList))) (c := v.cells) (by simp only [Vote.cells, List.append_assoc, List.nil_append, List.append_nil]) (by simp only [List.length_append, encs_vec_length, List.length_singleton, List.length_nil, List.length_cons]) (by simp only [List.length_append, encs_vec_length, List.length_singleton, List.length_nil, List.length_cons])]
  simp only [Vote.cells, List.append_assoc, List.nil_append, List.append_nil]
theorem rd_28_3 (v : Vote) {d : TD} (hd : d.k.isAgg = true) (hs : d.size = 32) : rdVar d v.cells 3 = some (enc v.value) :=
  rd_part (A := [enc v.height] ++ ([enc v.round] ++ ([enc v.phase]))) (B := encs v.value.toList) (C := [enc v.proof] ++ (encs v.voter.toList ++ (encs v.sig.toList))) hd (by simp only [Vote.cells, List.append_assoc, List.nil_append, List.append_nil]) (by simp only [List.length_append, encs_vec_length, List.length_singleton, List.length_nil, List.length_cons]) (by rw [hs]; simp only [List.length_append, encs_vec_length, List.length_singleton, List.length_nil, List.length_cons])
theorem rs_28_3 {v : Vote} {H : IHeap} {id cap : Nat} {s : Option Nat} {ro : Bool} (hH : H id = some (.cells v.cells ro)) : rdS H (.slice (some ⟨id, 3, s⟩) 32 cap) = some v.value.toList :=
  rs_part (A := [enc v.height] ++ ([enc v.round] ++ ([enc v.phase]))) (C := [enc v.proof] ++ (encs v.voter.toList ++ (encs v.sig.toList))) hH (by simp only [Vote.cells, List.append_assoc, List.nil_append, List.append_nil]) (by simp only [List.length_append, encs_vec_length, List.length_singleton, List.length_nil, List.length_cons]) (by simp)
theorem wr_28_3 (v : Vote) (x : Vector UInt8 32) : wrCells v.cells 3 (encs x.toList) = ({ v with value := x } : Vote).cells := by
  rw [wr_part (A := [enc v.height] ++ ([enc v.round] ++ ([enc v.phase]))) (B := encs v.value.toList) (C := [enc v.proof] ++ (encs v.voter.toList ++ (encs v.sig.toList))) (c := v.cells) (by simp only [Vote.cells, List.append_assoc, List.nil_append, List.append_nil]) (by simp only [List.length_append, encs_vec_length, List.length_singleton, List.length_nil, List.length_cons]) (by simp only [List.length_append, encs_vec_length, List.length_singleton, List.length_nil, List.length_cons])]
  simp only [Vote.cells, List.append_assoc, List.nil_append, List.append_nil]
theorem rd_29_4 (v : Vote) {d : TD} (hd : d.k.isAgg = false) : rdVar d v.cells 35 = some (enc v.proof) :=
  rd_one (A := [enc v.height] ++ ([enc v.round] ++ ([enc v.phase] ++ (encs v.value.toList)))) (C := encs v.voter.toList ++ (encs v.sig.toList)) hd (by simp only [Vote.cells, List.append_assoc, List.nil_append, List.append_nil]) (by simp only [List.length_append, encs_vec_length, List.length_singleton, List.length_nil, List.length_cons])
theorem wr_29_4 (v : Vote) (x : UInt64) : wrCells v.cells 35 ([enc x]) = ({ v with proof := x } : Vote).cells := by
  rw [wr_part (A := [enc v.height] ++ ([enc v.round] ++ ([enc v.phase] ++ (encs v.value.toList)))) (B := [enc v.proof]) (C := encs v.voter.toList ++ (encs v.sig.toList)) (c := v.cells) (by simp only [Vote.cells, List.append_assoc, List.nil_append, List.append_nil]) (by simp only [List.length_append, encs_vec_length, List.length_singleton, List.length_nil, List.length_cons]) (by simp only [List.length_append, encs_vec_length, List.length_singleton, List.length_nil, List.length_cons])]
  simp only [Vote.cells, List.append_assoc, List.nil_append, List.append_nil]
theorem rd_28_4 (v : Vote) {d : TD} (hd : d.k.isAgg = false) : rdVar d v.cells 35 = some (enc v.proof) :=
  rd_one (A := [enc v.height] ++ ([enc v.round] ++ ([enc v.phase] ++ (encs v.value.toList)))) (C := encs v.voter.toList ++ (encs v.sig.toList)) hd (by simp only [Vote.cells, List.append_assoc, List.nil_append, List.append_nil]) (by simp only [List.length_append, encs_vec_length, List.length_singleton, List.length_nil, List.length_cons])
theorem wr_28_4 (v : Vote) (x : UInt64) : wrCells v.cells 35 ([enc x]) = ({ v with proof := x } : Vote).cells := by
  rw [wr_part (A := [enc v.height] ++ ([enc v.round] ++ ([enc v.phase] ++ (encs v.value.toList)))) (B := [enc v.proof]) (C := encs v.voter.toList ++ (encs v.sig.toList)) (c := v.cells) (by simp only [Vote.cells, List.append_assoc, List.nil_append, List.append_nil]) (by simp only [List.length_append, encs_vec_length, List.length_singleton, List.length_nil, List.length_cons]) (by simp only [List.length_append, encs_vec_length, List.length_singleton, List.length_nil, List.length_cons])]
  simp only [Vote.cells, List.append_assoc, List.nil_append, List.append_nil]
theorem rd_29_5 (v : Vote) {d : TD} (hd : d.k.isAgg = true) (hs : d.size = 32) : rdVar d v.cells 36 = some (enc v.voter) :=
  rd_part (A := [enc v.height] ++ ([enc v.round] ++ ([enc v.phase] ++ (encs v.value.toList ++ ([enc v.proof]))))) (B := encs v.voter.toList) (C := encs v.sig.toList) hd (by simp only [Vote.cells, List.append_assoc, List.nil_append, List.append_nil]) (by simp only [List.length_append, encs_vec_length, List.length_singleton, List.length_nil, List.length_cons]) (by rw [hs]; simp only [List.length_append, encs_vec_length, List.length_singleton, List.length_nil, List.length_cons])
theorem rs_29_5 {v : Vote} {H : IHeap} {id cap : Nat} {s : Option Nat} {ro : Bool} (hH : H id = some (.cells v.cells ro)) : rdS H (.slice (some ⟨id, 36, s⟩) 32 cap) = some v.voter.toList :=
  rs_part (A := [enc v.height] ++ ([enc v.round] ++ ([enc v.phase] ++ (encs v.value.toList ++ ([enc v.proof]))))) (C := encs v.sig.toList) hH (by simp only [Vote.cells, List.append_assoc, List.nil_append, List.append_nil]) (by simp only [List.length_append, encs_vec_length, List.length_singleton, List.length_nil, List.length_cons]) (by simp)
theorem wr_29_5 (v : Vote) (x : Vector UInt8 32) : wrCells v.cells 36 (encs x.toList) = ({ v with voter := x } : Vote).cells := by
  rw [wr_part (A := [enc v.height] ++ ([enc v.round] ++ ([enc v.phase] ++ (encs v.value.toList ++ ([enc v.proof]))))) (B := encs v.voter.toList) (C := encs v.sig.toList) (c := v.cells) (by simp only [Vote.cells, List.append_assoc, List.nil_append, List.append_nil]) (by simp only [List.length_append, encs_vec_length, List.length_singleton, List.length_nil, List.length_cons]) (by simp only [List.length_append, encs_vec_length, List.length_singleton, List.length_nil, List.length_cons])]
  simp only [Vote.cells, List.append_assoc, List.nil_append, List.append_nil]
theorem rd_28_5 (v : Vote) {d : TD} (hd : d.k.isAgg = true) (hs : d.size = 32) : rdVar d v.cells 36 = some (enc v.voter) :=
  rd_part (A := [enc v.height] ++ ([enc v.round] ++ ([enc v.phase] ++ (encs v.value.toList ++ ([enc v.proof]))))) (B := encs v.voter.toList) (C := encs v.sig.toList) hd (by simp only [Vote.cells, List.append_assoc, List.nil_append, List.append_nil]) (by simp only [List.length_append, encs_vec_length, List.length_singleton, List.length_nil, List.length_cons]) (by rw [hs]; simp only [List.length_append, encs_vec_length, List.length_singleton, List.length_nil, List.length_cons])
theorem rs_28_5 {v : Vote} {H : IHeap} {id cap : Nat} {s : Option Nat} {ro : Bool} (hH : H id = some (.cells v.cells ro)) : rdS H (.slice (some ⟨id, 36, s⟩) 32 cap) = some v.voter.toList :=
  rs_part (A := [enc v.height] ++ ([enc v.round] ++ ([enc v.phase] ++ (encs v.value.toList ++ ([enc v.proof]))))) (C := encs v.sig.toList) hH (by simp only [Vote.cells, List.append_assoc, List.nil_append, List.append_nil]) (by simp only [List.length_append, encs_vec_length, List.length_singleton, List.length_nil, List.length_cons]) (by simp)
theorem wr_28_5 (v : Vote) (x : Vector UInt8 32) : wrCells v.cells 36 (encs x.toList) = ({ v with voter := x } : Vote).cells := by
  rw [wr_part (A := [enc v.height] ++ ([enc v.round] ++ ([enc v.phase] ++ (encs v.value.toList ++ ([enc v.proof]))))) (B := encs v.voter.toList) (C := encs v.sig.toList) (c := v.cells) (by simp only [Vote.cells, List.append_assoc, List.nil_append, List.append_nil]) (by simp only [List.length_append, encs_vec_length, List.length_singleton, List.length_nil, List.length_cons]) (by simp only [List.length_append, encs_vec_length, List.length_singleton, List.length_nil, List.length_cons])]
  simp only [Vote.cells, List.append_assoc, List.nil_append, List.append_nil]
theorem rd_29_6 (v : Vote) {d : TD} (hd : d.k.isAgg = true) (hs : d.size = 64) : rdVar d v.cells 68 = some (enc v.sig) :=
  rd_part (A := [enc v.height] ++ ([enc v.round] ++ ([enc v.phase] ++ (encs v.value.toList ++ ([enc v.proof] ++ (encs v.voter.toList)))))) (B := encs v.sig.toList) (C := []) hd (by simp only [Vote.cells, List.append_assoc, List.nil_append, List.append_nil]) (by simp only [List.length_append, encs_vec_length, List.length_singleton, List.length_nil, List.length_cons]) (by rw [hs]; simp only [List.length_append, encs_vec_length, List.length_singleton, List.length_nil, List.length_cons])
theorem rs_29_6 {v : Vote} {H : IHeap} {id cap : Nat} {s : Option Nat} {ro : Bool} (hH : H id = some (.cells v.cells ro)) : rdS H (.slice (some ⟨id, 68, s⟩) 64 cap) = some v.sig.toList :=
  rs_part (A := [enc v.height] ++ ([enc v.round] ++ ([enc v.phase] ++ (encs v.value.toList ++ ([enc v.proof] ++ (encs v.voter.toList)))))) (C := []) hH (by simp only [Vote.cells, List.append_assoc, List.nil_append, List.append_nil]) (by simp only [List.length_append, encs_vec_length, List.length_singleton, List.length_nil, List.length_cons]) (by simp)
theorem wr_29_6 (v : Vote) (x : Vector UInt8 64) : wrCells v.cells 68 (encs x.toList) = ({ v with sig := x } : Vote).cells := by
  rw [wr_part (A := [enc v.height] ++ ([enc v.round] ++ ([enc v.phase] ++ (encs v.value.toList ++ ([enc v.proof] ++ (encs v.voter.toList)))))) (B := encs v.sig.toList) (C := []) (c := v.cells) (by simp only [Vote.cells, List.append_assoc, List.nil_append, List.append_nil]) (by simp only [List.length_append, encs_vec_length, List.length_singleton, List.length_nil, List.length_cons]) (by simp only [List.length_append, encs_vec_length, List.length_singleton, List.length_nil, List.length_cons])]
  simp only [Vote.cells, List.append_assoc, List.nil_append, List.append_nil]
theorem rd_28_6 (v : Vote) {d : TD} (hd : d.k.isAgg = true) (hs : d.size = 64) : rdVar d v.cells 68 = some (enc v.sig) :=
  rd_part (A := [enc v.height] ++ ([enc v.round] ++ ([enc v.phase] ++ (encs v.value.toList ++ ([enc v.proof] ++ (encs v.voter.toList)))))) (B := encs v.sig.toList) (C := []) hd (by simp only [Vote.cells, List.append_assoc, List.nil_append, List.append_nil]) (by simp only [List.length_append, encs_vec_length, List.length_singleton, List.length_nil, List.length_cons]) (by rw [hs]; simp only [List.length_append, encs_vec_length, List.length_singleton, List.length_nil, List.length_cons])
theorem rs_28_6 {v : Vote} {H : IHeap} {id cap : Nat} {s : Option Nat} {ro : Bool} (hH : H id = some (.cells v.cells ro)) : rdS H (.slice (some ⟨id, 68, s⟩) 64 cap) = some v.sig.toList :=
  rs_part (A := [enc v.height] ++ ([enc v.round] ++ ([enc v.phase] ++ (encs v.value.toList ++ ([enc v.proof] ++ (encs v.voter.toList)))))) (C := []) hH (by simp only [Vote.cells, List.append_assoc, List.nil_append, List.append_nil]) (by simp only [List.length_append, encs_vec_length, List.length_singleton, List.length_nil, List.length_cons]) (by simp)
theorem wr_28_6 (v : Vote) (x : Vector UInt8 64) : wrCells v.cells 68 (encs x.toList) = ({ v with sig := x } : Vote).cells := by
  rw [wr_part (A := [enc v.height] ++ ([enc v.round] ++ ([enc v.phase] ++ (encs v.value.toList ++ ([enc v.proof] ++ (encs v.voter.toList)))))) (B := encs v.sig.toList) (C := []) (c := v.cells) (by simp only [Vote.cells, List.append_assoc, List.nil_append, List.append_nil]) (by simp only [List.length_append, encs_vec_length, List.length_singleton, List.length_nil, List.length_cons]) (by simp only [List.length_append, encs_vec_length, List.length_singleton, List.length_nil, List.length_cons])]
  simp only [Vote.cells, List.append_assoc, List.nil_append, List.append_nil]
@[ext] structure Block where
  writer : Vector UInt8 32
  seq : UInt64
  prev : Vector UInt8 32
  links : Sl
  data : Sl
  sig : Vector UInt8 64
def Block.cells (v : Block) : List Value := encs v.writer.toList ++ ([enc v.seq] ++ (encs v.prev.toList ++ ([enc v.links] ++ ([enc v.data] ++ (encs v.sig.toList)))))
theorem Block.cells_length (v : Block) : v.cells.length = 131 := by simp only [Block.cells, List.length_append, encs_vec_length, List.length_singleton, List.length_nil, List.length_cons]
theorem Block.cells_inj {a b : Block} (h : a.cells = b.cells) : a = b := by
  simp only [Block.cells] at h
  obtain ⟨h0, h⟩ := app_inj h (by simp only [List.length_append, encs_vec_length, List.length_singleton, List.length_nil, List.length_cons])
  obtain ⟨h1, h⟩ := app_inj h (by simp only [List.length_append, encs_vec_length, List.length_singleton, List.length_nil, List.length_cons])
  obtain ⟨h2, h⟩ := app_inj h (by simp only [List.length_append, encs_vec_length, List.length_singleton, List.length_nil, List.length_cons])
  obtain ⟨h3, h⟩ := app_inj h (by simp only [List.length_append, encs_vec_length, List.length_singleton, List.length_nil, List.length_cons])
  obtain ⟨h4, h⟩ := app_inj h (by simp only [List.length_append, encs_vec_length, List.length_singleton, List.length_nil, List.length_cons])
  have h5 := h
  ext1
  · exact encs_vec_inj h0
  · exact Enc.inj _ _ (by simpa using h1)
  · exact encs_vec_inj h2
  · exact Enc.inj _ _ (by simpa using h3)
  · exact Enc.inj _ _ (by simpa using h4)
  · exact encs_vec_inj h5
instance : Enc Block := ⟨fun v => .agg v.cells.toArray, fun _ _ h => Block.cells_inj (agg_inj h)⟩
theorem enc_Block (v : Block) : enc v = .agg v.cells.toArray := rfl
theorem cellsOf_Block (v : Block) : cellsOf (enc v) = some v.cells := rfl
def Block.zero : Block := ⟨Vector.replicate 32 0, 0, Vector.replicate 32 0, ⟨none, 0, 0⟩, ⟨none, 0, 0⟩, Vector.replicate 64 0⟩
theorem zero_37 {d : TD} (h : D 37 = some d) : d.zero = Block.zero.cells := by
  rw [D_37] at h; cases h; kernel_rfl
theorem zero_36 {d : TD} (h : D 36 = some d) : d.zero = Block.zero.cells := by
  rw [D_36] at h; cases h; kernel_rfl
theorem Block.le (v : Block) {k : Nat} (h : Nat.ble k 131 = true) : k ≤ v.cells.length := by rw [v.cells_length]; exact Nat.le_of_ble_eq_true h
theorem Block.cells_known (v : Block) : v.cells.all known = true := by simp only [Block.cells, List.all_append, encs_known, List.all_cons, List.all_nil, Enc1.agg1, Bool.and_self]
theorem rd_37 (v : Block) {d : TD} (hd : d.k.isAgg = true) (hs : d.size = 131) : rdVar d v.cells 0 = some (enc v) := rd_all hd (by rw [hs]; exact v.cells_length)
theorem rd_36 (v : Block) {d : TD} (hd : d.k.isAgg = true) (hs : d.size = 131) : rdVar d v.cells 0 = some (enc v) := rd_all hd (by rw [hs]; exact v.cells_length)
theorem rd_37_0 (v : Block) {d : TD} (hd : d.k.isAgg = true) (hs : d.size = 32) : rdVar d v.cells 0 = some (enc v.writer) :=
  rd_part (A := []) (B := encs v.writer.toList) (C := [enc v.seq] ++ (encs v.prev.toList ++ ([enc v.links] ++ ([enc v.data] ++ (encs v.sig.toList))))) hd (by simp only [Block.cells, List.append_assoc, List.nil_append, List.append_nil]) (by simp only [List.length_append, encs_vec_length, List.length_singleton, List.length_nil, List.length_cons]) (by rw [hs]; simp only [List.length_append, encs_vec_length, List.length_singleton, List.length_nil, List.length_cons])
theorem rs_37_0 {v : Block} {H : IHeap} {id cap : Nat} {s : Option Nat} {ro : Bool} (hH : H id = some (.cells v.cells ro)) : rdS H (.slice (some ⟨id, 0, s⟩) 32 cap) = some v.writer.toList :=
  rs_part (A := []) (C := [enc v.seq] ++ (encs v.prev.toList ++ ([enc v.links] ++ ([enc v.data] ++ (encs v.sig.toList))))) hH (by simp only [Block.cells, List.append_assoc, List.nil_append, List.append_nil]) (by simp only [List.length_append, encs_vec_length, List.length_singleton, List.length_nil, List.length_cons]) (by simp)
theorem wr_37_0 (v : Block) (x : Vector UInt8 32) : wrCells v.cells 0 (encs x.toList) = ({ v with writer := x } : Block).cells := by
  rw [wr_part (A := []) (B := encs v.writer.toList) (C := [enc v.seq] ++ (encs v.prev.toList ++ ([enc v.links] ++ ([enc v.data] ++ (encs v.sig.toList))))) (c := v.cells) (by simp only [Block.cells, List.append_assoc, List.nil_append, List.append_nil]) (by simp only [List.length_append, encs_vec_length, List.length_singleton, List.length_nil, List.length_cons]) (by simp only [List.length_append, encs_vec_length, List.length_singleton, List.length_nil, List.length_cons])]
  simp only [Block.cells, List.append_assoc, List.nil_append, List.append_nil]
theorem rd_36_0 (v : Block) {d : TD} (hd : d.k.isAgg = true) (hs : d.size = 32) : rdVar d v.cells 0 = some (enc v.writer) :=
  rd_part (A := []) (B := encs v.writer.toList) (C := [enc v.seq] ++ (encs v.prev.toList ++ ([enc v.links] ++ ([enc v.data] ++ (encs v.sig.toList))))) hd (by simp only [Block.cells, List.append_assoc, List.nil_append, List.append_nil]) (by simp only [List.length_append, encs_vec_length, List.length_singleton, List.length_nil, List.length_cons]) (by rw [hs]; simp only [List.length_append, encs_vec_length, List.length_singleton, List.length_nil, List.length_cons])
theorem rs_36_0 {v : Block} {H : IHeap} {id cap : Nat} {s : Option Nat} {ro : Bool} (hH : H id = some (.cells v.cells ro)) : rdS H (.slice (some ⟨id, 0, s⟩) 32 cap) = some v.writer.toList :=
  rs_part (A := []) (C := [enc v.seq] ++ (encs v.prev.toList ++ ([enc v.links] ++ ([enc v.data] ++ (encs v.sig.toList))))) hH (by simp only [Block.cells, List.append_assoc, List.nil_append, List.append_nil]) (by simp only [List.length_append, encs_vec_length, List.length_singleton, List.length_nil, List.length_cons]) (by simp)
theorem wr_36_0 (v : Block) (x : Vector UInt8 32) : wrCells v.cells 0 (encs x.toList) = ({ v with writer := x } : Block).cells := by
  rw [wr_part (A := []) (B := encs v.writer.toList) (C := [enc v.seq] ++ (encs v.prev.toList ++ ([enc v.links] ++ ([enc v.data] ++ (encs v.sig.toList))))) (c := v.cells) (by simp only [Block.cells, List.append_assoc, List.nil_append, List.append_nil]) (by simp only [List.length_append, encs_vec_length, List.length_singleton, List.length_nil, List.length_cons]) (by simp only [List.length_append, encs_vec_length, List.length_singleton, List.length_nil, List.length_cons])]
  simp only [Block.cells, List.append_assoc, List.nil_append, List.append_nil]
theorem rd_37_1 (v : Block) {d : TD} (hd : d.k.isAgg = false) : rdVar d v.cells 32 = some (enc v.seq) :=
  rd_one (A := encs v.writer.toList) (C := encs v.prev.toList ++ ([enc v.links] ++ ([enc v.data] ++ (encs v.sig.toList)))) hd (by simp only [Block.cells, List.append_assoc, List.nil_append, List.append_nil]) (by simp only [List.length_append, encs_vec_length, List.length_singleton, List.length_nil, List.length_cons])
theorem wr_37_1 (v : Block) (x : UInt64) : wrCells v.cells 32 ([enc x]) = ({ v with seq := x } : Block).cells := by
  rw [wr_part (A := encs v.writer.toList) (B := [enc v.seq]) (C := encs v.prev.toList ++ ([enc v.links] ++ ([enc v.data] ++ (encs v.sig.toList)))) (c := v.cells) (by simp only [Block.cells, List.append_assoc, List.nil_append, List.append_nil]) (by simp only [List.length_append, encs_vec_length, List.length_singleton, List.length_nil, List.length_cons]) (by simp only [List.length_append, encs_vec_length, List.length_singleton, List.length_nil, List.length_cons])]
  simp only [Block.cells, List.append_assoc, List.nil_append, List.append_nil]
theorem rd_36_1 (v : Block) {d : TD} (hd : d.k.isAgg = false) : rdVar d v.cells 32 = some (enc v.seq) :=
  rd_one (A := encs v.writer.toList) (C := encs v.prev.toList ++ ([enc v.links] ++ ([enc v.data] ++ (encs v.sig.toList)))) hd (by simp only [Block.cells, List.append_assoc, List.nil_append, List.append_nil]) (by simp only [List.length_append, encs_vec_length, List.length_singleton, List.length_nil, List.length_cons])
theorem wr_36_1 (v : Block) (x : UInt64) : wrCells v.cells 32 ([enc x]) = ({ v with seq := x } : Block).cells := by
  rw [wr_part (A := encs v.writer.toList) (B := [enc v.seq]) (C := encs v.prev.toList ++ ([enc v.links] ++ ([enc v.data] ++ (encs v.sig.toList)))) (c := v.cells) (by simp only [Block.cells, List.append_assoc, List.nil_append, List.append_nil]) (by simp only [List.length_append, encs_vec_length, List.length_singleton, List.length_nil, List.length_cons]) (by simp only [List.length_append, encs_vec_length, List.length_singleton, List.length_nil, List.length_cons])]
  simp only [Block.cells, List.append_assoc, List.nil_append, List.append_nil]
theorem rd_37_2 (v : Block) {d : TD} (hd : d.k.isAgg = true) (hs : d.size = 32) : rdVar d v.cells 33 = some (enc v.prev) :=
  rd_part (A := encs v.writer.toList ++ ([enc v.seq])) (B := encs v.prev.toList) (C := [enc v.links] ++ ([enc v.data] ++ (encs v.sig.toList))) hd (by simp only [Block.cells, List.append_assoc, List.nil_append, List.append_nil]) (by simp only [List.length_append, encs_vec_length, List.length_singleton, List.length_nil, List.length_cons]) (by rw [hs]; simp only [List.length_append, encs_vec_length, List.length_singleton, List.length_nil, List.length_cons])
theorem rs_37_2 {v : Block} {H : IHeap} {id cap : Nat} {s : Option Nat} {ro : Bool} (hH : H id = some (.cells v.cells ro)) : rdS H (.slice (some ⟨id, 33, s⟩) 32 cap) = some v.prev.toList :=
  rs_part (A := encs v.writer.toList ++ ([enc v.seq])) (C := [enc v.links] ++ ([enc v.data] ++ (encs v.sig.toList))) hH (by simp only [Block.cells, List.append_assoc, List.nil_append, List.append_nil]) (by simp only [List.length_append, encs_vec_length, List.length_singleton, List.length_nil, List.length_cons]) (by simp)
theorem wr_37_2 (v : Block) (x : Vector UInt8 32) : wrCells v.cells 33 (encs x.toList) = ({ v with prev := x } : Block).cells := by
  rw [wr_part (A := encs v.writer.toList ++ ([enc v.seq])) (B := encs v.prev.toList) (C := [enc v.links] ++ ([enc v.data] ++ (encs v.sig.toList))) (c := v.cells) (by simp only [Block.cells, List.append_assoc, List.nil_append, List.append_nil]) (by simp only [List.length_append, encs_vec_length, List.length_singleton, List.length_nil, List.length_cons]) (by simp only [List.length_append, encs_vec_length, List.length_singleton, List.length_nil, List.length_cons])]
  simp only [Block.cells, List.append_assoc, List.nil_append, List.append_nil]
theorem rd_36_2 (v : Block) {d : TD} (hd : d.k.isAgg = true) (hs : d.size = 32) : rdVar d v.cells 33 = some (enc v.prev) :=
  rd_part (A := encs v.writer.toList ++ ([enc v.seq])) (B := encs v.prev.toList) (C := [enc v.links] ++ ([enc v.data] ++ (encs v.sig.toList))) hd (by simp only [Block.cells, List.append_assoc, List.nil_append, List.append_nil]) (by simp only [List.length_append, encs_vec_length, List.length_singleton, List.length_nil, List.length_cons]) (by rw [hs]; simp only [List.length_append, encs_vec_length, List.length_singleton, List.length_nil, List.length_cons])
theorem rs_36_2 {v : Block} {H : IHeap} {id cap : Nat} {s : Option Nat} {ro : Bool} (hH : H id = some (.cells v.cells ro)) : rdS H (.slice (some ⟨id, 33, s⟩) 32 cap) = some v.prev.toList :=
  rs_part (A := encs v.writer.toList ++ ([enc v.seq])) (C := [enc v.links] ++ ([enc v.data] ++ (encs v.sig.toList))) hH (by simp only [Block.cells, List.append_assoc, List.nil_append, List.append_nil]) (by simp only [List.length_append, encs_vec_length, List.length_singleton, List.length_nil, List.length_cons]) (by simp)
theorem wr_36_2 (v : Block) (x : Vector UInt8 32) : wrCells v.cells 33 (encs x.toList) = ({ v with prev := x } : Block).cells := by
  rw [wr_part (A := encs v.writer.toList ++ ([enc v.seq])) (B := encs v.prev.toList) (C := [enc v.links] ++ ([enc v.data] ++ (encs v.sig.toList))) (c := v.cells) (by simp only [Block.cells, List.append_assoc, List.nil_append, List.append_nil]) (by simp only [List.length_append, encs_vec_length, List.length_singleton, List.length_nil, List.length_cons]) (by simp only [List.length_append, encs_vec_length, List.length_singleton, List.length_nil, List.length_cons])]
  simp only [Block.cells, List.append_assoc, List.nil_append, List.append_nil]
theorem rd_37_3 (v : Block) {d : TD} (hd : d.k.isAgg = false) : rdVar d v.cells 65 = some (enc v.links) :=
  rd_one (A := encs v.writer.toList ++ ([enc v.seq] ++ (encs v.prev.toList))) (C := [enc v.data] ++ (encs v.sig.toList)) hd (by simp only [Block.cells, List.append_assoc, List.nil_append, List.append_nil]) (by simp only [List.length_append, encs_vec_length, List.length_singleton, List.length_nil, List.length_cons])
theorem wr_37_3 (v : Block) (x : Sl) : wrCells v.cells 65 ([enc x]) = ({ v with links := x } : Block).cells := by
  rw [wr_part (A := encs v.writer.toList ++ ([enc v.seq] ++ (encs v.prev.toList))) (B := [enc v.links]) (C := [enc v.data] ++ (encs v.sig.toList)) (c := v.cells) (by simp only [Block.cells, List.append_assoc, List.nil_append, List.append_nil]) (by simp only [List.length_append, encs_vec_length, List.length_singleton, List.length_nil, List.length_cons]) (by simp only [List.length_append, encs_vec_length, List.length_singleton, List.length_nil, List.length_cons])]
  simp only [Block.cells, List.append_assoc, List.nil_append, List.append_nil]
theorem rd_36_3 (v : Block) {d : TD} (hd : d.k.isAgg = false) : rdVar d v.cells 65 = some (enc v.links) :=
  rd_one (A := encs v.writer.toList ++ ([enc v.seq] ++ (encs v.prev.toList))) (C := [enc v.data] ++ (encs v.sig.toList)) hd (by simp only [Block.cells, List.append_assoc, List.nil_append, List.append_nil]) (by simp only [List.length_append, encs_vec_length, List.length_singleton, List.length_nil, List.length_cons])
theorem wr_36_3 (v : Block) (x : Sl) : wrCells v.cells 65 ([enc x]) = ({ v with links := x } : Block).cells := by
  rw [wr_part (A := encs v.writer.toList ++ ([enc v.seq] ++ (encs v.prev.toList))) (B := [enc v.links]) (C := [enc v.data] ++ (encs v.sig.toList)) (c := v.cells) (by simp only [Block.cells, List.append_assoc, List.nil_append, List.append_nil]) (by simp only [List.length_append, encs_vec_length, List.length_singleton, List.length_nil, List.length_cons]) (by simp only [List.length_append, encs_vec_length, List.length_singleton, List.length_nil, List.length_cons])]
  simp only [Block.cells, List.append_assoc, List.nil_append, List.append_nil]
theorem rd_37_4 (v : Block) {d : TD} (hd : d.k.isAgg = false) : rdVar d v.cells 66 = some (enc v.data) :=
  rd_one (A := encs v.writer.toList ++ ([enc v.seq] ++ (encs v.prev.toList ++ ([enc v.links])))) (C := encs v.sig.toList) hd (by simp only [Block.cells, List.append_assoc, List.nil_append, List.append_nil]) (by simp only [List.length_append, encs_vec_length, List.length_singleton, List.length_nil, List.length_cons])
theorem wr_37_4 (v : Block) (x : Sl) : wrCells v.cells 66 ([enc x]) = ({ v with data := x } : Block).cells := by
  rw [wr_part (A := encs v.writer.toList ++ ([enc v.seq] ++ (encs v.prev.toList ++ ([enc v.links])))) (B := [enc v.data]) (C := encs v.sig.toList) (c := v.cells) (by simp only [Block.cells, List.append_assoc, List.nil_append, List.append_nil]) (by simp only [List.length_append, encs_vec_length, List.length_singleton, List.length_nil, List.length_cons]) (by simp only [List.length_append, encs_vec_length, List.length_singleton, List.length_nil, List.length_cons])]
  simp only [Block.cells, List.append_assoc, List.nil_append, List.append_nil]
theorem rd_36_4 (v : Block) {d : TD} (hd : d.k.isAgg = false) : rdVar d v.cells 66 = some (enc v.data) :=
  rd_one (A := encs v.writer.toList ++ ([enc v.seq] ++ (encs v.prev.toList ++ ([enc v.links])))) (C := encs v.sig.toList) hd (by simp only [Block.cells, List.append_assoc, List.nil_append, List.append_nil]) (by simp only [List.length_append, encs_vec_length, List.length_singleton, List.length_nil, List.length_cons])
theorem wr_36_4 (v : Block) (x : Sl) : wrCells v.cells 66 ([enc x]) = ({ v with data := x } : Block).cells := by
  rw [wr_part (A := encs v.writer.toList ++ ([enc v.seq] ++ (encs v.prev.toList ++ ([enc v.links])))) (B := [enc v.data]) (C := encs v.sig.toList) (c := v.cells) (by simp only [Block.cells, List.append_assoc, List.nil_append, List.append_nil]) (by simp only [List.length_append, encs_vec_length, List.length_singleton, List.length_nil, List.length_cons]) (by simp only [List.length_append, encs_vec_length, List.length_singleton, List.length_nil, List.length_cons])]
  simp only [Block.cells, List.append_assoc, List.nil_append, List.append_nil]
theorem rd_37_5 (v : Block) {d : TD} (hd : d.k.isAgg = true) (hs : d.size = 64) : rdVar d v.cells 67 = some (enc v.sig) :=
  rd_part (A := encs v.writer.toList ++ ([enc v.seq] ++ (encs v.prev.toList ++ ([enc v.links] ++ ([enc v.data]))))) (B := encs v.sig.toList) (C := []) hd (by simp only [Block.cells, List.append_assoc, List.nil_append, List.append_nil]) (by simp only [List.length_append, encs_vec_length, List.length_singleton, List.length_nil, List.length_cons]) (by rw [hs]; simp only [List.length_append, encs_vec_length, List.length_singleton, List.length_nil, List.length_cons])
theorem rs_37_5 {v : Block} {H : IHeap} {id cap : Nat} {s : Option Nat} {ro : Bool} (hH : H id = some (.cells v.cells ro)) : rdS H (.slice (some ⟨id, 67, s⟩) 64 cap) = some v.sig.toList :=
  rs_part (A := encs v.writer.toList ++ ([enc v.seq] ++ (encs v.prev.toList ++ ([enc v.links] ++ ([enc v.data]))))) (C := []) hH (by simp only [Block.cells, List.append_assoc, List.nil_append, List.append_nil]) (by simp only [List.length_append, encs_vec_length, List.length_singleton, List.length_nil, List.length_cons]) (by simp)
theorem wr_37_5 (v : Block) (x : Vector UInt8 64) : wrCells v.cells 67 (encs x.toList) = ({ v with sig := x } : Block).cells := by
  rw [wr_part (A := encs v.writer.toList ++ ([enc v.seq] ++ (encs v.prev.toList ++ ([enc v.links] ++ ([enc v.data]))))) (B := encs v.sig.toList) (C := []) (c := v.cells) (by simp only [Block.cells, List.append_assoc, List.nil_append, List.append_nil]) (by simp only [List.length_append, encs_vec_length, List.length_singleton, List.length_nil, List.length_cons]) (by simp only [List.length_append, encs_vec_length, List.length_singleton, List.length_nil, List.length_cons])]
  simp only [Block.cells, List.append_assoc, List.nil_append, List.append_nil]
theorem rd_36_5 (v : Block) {d : TD} (hd : d.k.isAgg = true) (hs : d.size = 64) : rdVar d v.cells 67 = some (enc v.sig) :=
  rd_part (A := encs v.writer.toList ++ ([enc v.seq] ++ (encs v.prev.toList ++ ([enc v.links] ++ ([enc v.data]))))) (B := encs v.sig.toList) (C := []) hd (by simp only [Block.cells, List.append_assoc, List.nil_append, List.append_nil]) (by simp only [List.length_append, encs_vec_length, List.length_singleton, List.length_nil, List.length_cons]) (by rw [hs]; simp only [List.length_append, encs_vec_length, List.length_singleton, List.length_nil, List.length_cons])
theorem rs_36_5 {v : Block} {H : IHeap} {id cap : Nat} {s : Option Nat} {ro : Bool} (hH : H id = some (.cells v.cells ro)) : rdS H (.slice (some ⟨id, 67, s⟩) 64 cap) = some v.sig.toList :=
  rs_part (A := encs v.writer.toList ++ ([enc v.seq] ++ (encs v.prev.toList ++ ([enc v.links] ++ ([enc v.data]))))) (C := []) hH (by simp only [Block.cells, List.append_assoc, List.nil_append, List.append_nil]) (by simp only [List.length_append, encs_vec_length, List.length_singleton, List.length_nil, List.length_cons]) (by simp)
theorem wr_36_5 (v : Block) (x : Vector UInt8 64) : wrCells v.cells 67 (encs x.toList) = ({ v with sig := x } : Block).cells := by
  rw [wr_part (A := encs v.writer.toList ++ ([enc v.seq] ++ (encs v.prev.toList ++ ([enc v.links] ++ ([enc v.data]))))) (B := encs v.sig.toList) (C := []) (c := v.cells) (by simp only [Block.cells, List.append_assoc, List.nil_append, List.append_nil]) (by simp only [List.length_append, encs_vec_length, List.length_singleton, List.length_nil, List.length_cons]) (by simp only [List.length_append, encs_vec_length, List.length_singleton, List.length_nil, List.length_cons])]
  simp only [Block.cells, List.append_assoc, List.nil_append, List.append_nil]
@[ext] structure Record where
  kind : UInt8
  data : Sl
def Record.cells (v : Record) : List Value := [enc v.kind] ++ ([enc v.data])
theorem Record.cells_length (v : Record) : v.cells.length = 2 := by simp only [Record.cells, List.length_append, encs_vec_length, List.length_singleton, List.length_nil, List.length_cons]
theorem Record.cells_inj {a b : Record} (h : a.cells = b.cells) : a = b := by
  simp only [Record.cells] at h
  obtain ⟨h0, h⟩ := app_inj h (by simp only [List.length_append, encs_vec_length, List.length_singleton, List.length_nil, List.length_cons])
  have h1 := h
  ext1
  · exact Enc.inj _ _ (by simpa using h0)
  · exact Enc.inj _ _ (by simpa using h1)
instance : Enc Record := ⟨fun v => .agg v.cells.toArray, fun _ _ h => Record.cells_inj (agg_inj h)⟩
theorem enc_Record (v : Record) : enc v = .agg v.cells.toArray := rfl
theorem cellsOf_Record (v : Record) : cellsOf (enc v) = some v.cells := rfl
def Record.zero : Record := ⟨0, ⟨none, 0, 0⟩⟩
theorem zero_69 {d : TD} (h : D 69 = some d) : d.zero = Record.zero.cells := by
  rw [D_69] at h; cases h; kernel_rfl
theorem zero_68 {d : TD} (h : D 68 = some d) : d.zero = Record.zero.cells := by
  rw [D_68] at h; cases h; kernel_rfl
theorem Record.le (v : Record) {k : Nat} (h : Nat.ble k 2 = true) : k ≤ v.cells.length := by rw [v.cells_length]; exact Nat.le_of_ble_eq_true h
theorem Record.cells_known (v : Record) : v.cells.all known = true := by simp only [Record.cells, List.all_append, encs_known, List.all_cons, List.all_nil, Enc1.agg1, Bool.and_self]
theorem rd_69 (v : Record) {d : TD} (hd : d.k.isAgg = true) (hs : d.size = 2) : rdVar d v.cells 0 = some (enc v) := rd_all hd (by rw [hs]; exact v.cells_length)
theorem rd_68 (v : Record) {d : TD} (hd : d.k.isAgg = true) (hs : d.size = 2) : rdVar d v.cells 0 = some (enc v) := rd_all hd (by rw [hs]; exact v.cells_length)
theorem rd_69_0 (v : Record) {d : TD} (hd : d.k.isAgg = false) : rdVar d v.cells 0 = some (enc v.kind) :=
  rd_one (A := []) (C := [enc v.data]) hd (by simp only [Record.cells, List.append_assoc, List.nil_append, List.append_nil]) (by simp only [List.length_append, encs_vec_length, List.length_singleton, List.length_nil, List.length_cons])
theorem wr_69_0 (v : Record) (x : UInt8) : wrCells v.cells 0 ([enc x]) = ({ v with kind := x } : Record).cells := by
  rw [wr_part (A := []) (B := [enc v.kind]) (C := [enc v.data]) (c := v.cells) (by simp only [Record.cells, List.append_assoc, List.nil_append, List.append_nil]) (by simp only [List.length_append, encs_vec_length, List.length_singleton, List.length_nil, List.length_cons]) (by simp only [List.length_append, encs_vec_length, List.length_singleton, List.length_nil, List.length_cons])]
  simp only [Record.cells, List.append_assoc, List.nil_append, List.append_nil]
theorem rd_68_0 (v : Record) {d : TD} (hd : d.k.isAgg = false) : rdVar d v.cells 0 = some (enc v.kind) :=
  rd_one (A := []) (C := [enc v.data]) hd (by simp only [Record.cells, List.append_assoc, List.nil_append, List.append_nil]) (by simp only [List.length_append, encs_vec_length, List.length_singleton, List.length_nil, List.length_cons])
theorem wr_68_0 (v : Record) (x : UInt8) : wrCells v.cells 0 ([enc x]) = ({ v with kind := x } : Record).cells := by
  rw [wr_part (A := []) (B := [enc v.kind]) (C := [enc v.data]) (c := v.cells) (by simp only [Record.cells, List.append_assoc, List.nil_append, List.append_nil]) (by simp only [List.length_append, encs_vec_length, List.length_singleton, List.length_nil, List.length_cons]) (by simp only [List.length_append, encs_vec_length, List.length_singleton, List.length_nil, List.length_cons])]
  simp only [Record.cells, List.append_assoc, List.nil_append, List.append_nil]
theorem rd_69_1 (v : Record) {d : TD} (hd : d.k.isAgg = false) : rdVar d v.cells 1 = some (enc v.data) :=
  rd_one (A := [enc v.kind]) (C := []) hd (by simp only [Record.cells, List.append_assoc, List.nil_append, List.append_nil]) (by simp only [List.length_append, encs_vec_length, List.length_singleton, List.length_nil, List.length_cons])
theorem wr_69_1 (v : Record) (x : Sl) : wrCells v.cells 1 ([enc x]) = ({ v with data := x } : Record).cells := by
  rw [wr_part (A := [enc v.kind]) (B := [enc v.data]) (C := []) (c := v.cells) (by simp only [Record.cells, List.append_assoc, List.nil_append, List.append_nil]) (by simp only [List.length_append, encs_vec_length, List.length_singleton, List.length_nil, List.length_cons]) (by simp only [List.length_append, encs_vec_length, List.length_singleton, List.length_nil, List.length_cons])]
  simp only [Record.cells, List.append_assoc, List.nil_append, List.append_nil]
theorem rd_68_1 (v : Record) {d : TD} (hd : d.k.isAgg = false) : rdVar d v.cells 1 = some (enc v.data) :=
  rd_one (A := [enc v.kind]) (C := []) hd (by simp only [Record.cells, List.append_assoc, List.nil_append, List.append_nil]) (by simp only [List.length_append, encs_vec_length, List.length_singleton, List.length_nil, List.length_cons])
theorem wr_68_1 (v : Record) (x : Sl) : wrCells v.cells 1 ([enc x]) = ({ v with data := x } : Record).cells := by
  rw [wr_part (A := [enc v.kind]) (B := [enc v.data]) (C := []) (c := v.cells) (by simp only [Record.cells, List.append_assoc, List.nil_append, List.append_nil]) (by simp only [List.length_append, encs_vec_length, List.length_singleton, List.length_nil, List.length_cons]) (by simp only [List.length_append, encs_vec_length, List.length_singleton, List.length_nil, List.length_cons])]
  simp only [Record.cells, List.append_assoc, List.nil_append, List.append_nil]
@[ext] structure RStep where
  at_ : Int
  chain : Vector UInt8 32
  deriving DecidableEq
def RStep.cells (v : RStep) : List Value := [enc v.at_] ++ (encs v.chain.toList)
theorem RStep.cells_length (v : RStep) : v.cells.length = 33 := by simp only [RStep.cells, List.length_append, encs_vec_length, List.length_singleton, List.length_nil, List.length_cons]
theorem RStep.cells_inj {a b : RStep} (h : a.cells = b.cells) : a = b := by
  simp only [RStep.cells] at h
  obtain ⟨h0, h⟩ := app_inj h (by simp only [List.length_append, encs_vec_length, List.length_singleton, List.length_nil, List.length_cons])
  have h1 := h
  ext1
  · exact Enc.inj _ _ (by simpa using h0)
  · exact encs_vec_inj h1
instance : Enc RStep := ⟨fun v => .agg v.cells.toArray, fun _ _ h => RStep.cells_inj (agg_inj h)⟩
theorem enc_RStep (v : RStep) : enc v = .agg v.cells.toArray := rfl
theorem cellsOf_RStep (v : RStep) : cellsOf (enc v) = some v.cells := rfl
def RStep.zero : RStep := ⟨0, Vector.replicate 32 0⟩
theorem zero_107 {d : TD} (h : D 107 = some d) : d.zero = RStep.zero.cells := by
  rw [D_107] at h; cases h; kernel_rfl
theorem zero_106 {d : TD} (h : D 106 = some d) : d.zero = RStep.zero.cells := by
  rw [D_106] at h; cases h; kernel_rfl
theorem RStep.le (v : RStep) {k : Nat} (h : Nat.ble k 33 = true) : k ≤ v.cells.length := by rw [v.cells_length]; exact Nat.le_of_ble_eq_true h
theorem cells_RStep_eq (a b : RStep) {ks : List TK} (hk : K 107 = some ks) : cellsEq ks a.cells b.cells = some (decide (a = b)) := by
  have hk2 := hk
  rw [K_107] at hk2
  cases hk2
  simp only [List.flatten_cons, List.flatten_nil, List.append_nil]
  refine ((cellsEq_mk (cellsEq_one (cellEq_i64 a.at_ b.at_)) (cellsEq_encs cellEq_u8 a.chain.toList b.chain.toList 32 (by simp) (by simp)))).trans ?_
  refine congrArg some ?_
  rw [Bool.eq_iff_iff, decide_eq_true_iff, RStep.ext_iff]
  simp only [Bool.and_eq_true, beq_iff_eq, Vector.toList_inj]
theorem bo_RStep_eql107 (a b : RStep) : binOp' D K .eql 107 (enc a) (enc b) = some (.bool (decide (a = b))) := by
  have := cells_RStep_eq a b K_107
  simp only [enc_RStep, binOp', eqOp, K_107, Option.bind_some] at this ⊢
  rw [this]; rfl
theorem bo_RStep_neq107 (a b : RStep) : binOp' D K .neq 107 (enc a) (enc b) = some (.bool (!decide (a = b))) := by
  have := cells_RStep_eq a b K_107
  simp only [enc_RStep, binOp', eqOp, K_107, Option.bind_some] at this ⊢
  rw [this]; rfl
theorem bo_RStep_eql106 (a b : RStep) : binOp' D K .eql 106 (enc a) (enc b) = some (.bool (decide (a = b))) := by
  have := cells_RStep_eq a b K_107
  simp only [enc_RStep, binOp', eqOp, K_106, Option.bind_some] at this ⊢
  rw [this]; rfl
theorem bo_RStep_neq106 (a b : RStep) : binOp' D K .neq 106 (enc a) (enc b) = some (.bool (!decide (a = b))) := by
  have := cells_RStep_eq a b K_107
  simp only [enc_RStep, binOp', eqOp, K_106, Option.bind_some] at this ⊢
  rw [this]; rfl
theorem RStep.cells_known (v : RStep) : v.cells.all known = true := by simp only [RStep.cells, List.all_append, encs_known, List.all_cons, List.all_nil, Enc1.agg1, Bool.and_self]
theorem rd_107 (v : RStep) {d : TD} (hd : d.k.isAgg = true) (hs : d.size = 33) : rdVar d v.cells 0 = some (enc v) := rd_all hd (by rw [hs]; exact v.cells_length)
theorem rd_106 (v : RStep) {d : TD} (hd : d.k.isAgg = true) (hs : d.size = 33) : rdVar d v.cells 0 = some (enc v) := rd_all hd (by rw [hs]; exact v.cells_length)
theorem rd_107_0 (v : RStep) {d : TD} (hd : d.k.isAgg = false) : rdVar d v.cells 0 = some (enc v.at_) :=
  rd_one (A := []) (C := encs v.chain.toList) hd (by simp only [RStep.cells, List.append_assoc, List.nil_append, List.append_nil]) (by simp only [List.length_append, encs_vec_length, List.length_singleton, List.length_nil, List.length_cons])
theorem wr_107_0 (v : RStep) (x : Int) : wrCells v.cells 0 ([enc x]) = ({ v with at_ := x } : RStep).cells := by
  rw [wr_part (A := []) (B := [enc v.at_]) (C := encs v.chain.toList) (c := v.cells) (by simp only [RStep.cells, List.append_assoc, List.nil_append, List.append_nil]) (by simp only [List.length_append, encs_vec_length, List.length_singleton, List.length_nil, List.length_cons]) (by simp only [List.length_append, encs_vec_length, List.length_singleton, List.length_nil, List.length_cons])]
  simp only [RStep.cells, List.append_assoc, List.nil_append, List.append_nil]
theorem rd_106_0 (v : RStep) {d : TD} (hd : d.k.isAgg = false) : rdVar d v.cells 0 = some (enc v.at_) :=
  rd_one (A := []) (C := encs v.chain.toList) hd (by simp only [RStep.cells, List.append_assoc, List.nil_append, List.append_nil]) (by simp only [List.length_append, encs_vec_length, List.length_singleton, List.length_nil, List.length_cons])
theorem wr_106_0 (v : RStep) (x : Int) : wrCells v.cells 0 ([enc x]) = ({ v with at_ := x } : RStep).cells := by
  rw [wr_part (A := []) (B := [enc v.at_]) (C := encs v.chain.toList) (c := v.cells) (by simp only [RStep.cells, List.append_assoc, List.nil_append, List.append_nil]) (by simp only [List.length_append, encs_vec_length, List.length_singleton, List.length_nil, List.length_cons]) (by simp only [List.length_append, encs_vec_length, List.length_singleton, List.length_nil, List.length_cons])]
  simp only [RStep.cells, List.append_assoc, List.nil_append, List.append_nil]
theorem rd_107_1 (v : RStep) {d : TD} (hd : d.k.isAgg = true) (hs : d.size = 32) : rdVar d v.cells 1 = some (enc v.chain) :=
  rd_part (A := [enc v.at_]) (B := encs v.chain.toList) (C := []) hd (by simp only [RStep.cells, List.append_assoc, List.nil_append, List.append_nil]) (by simp only [List.length_append, encs_vec_length, List.length_singleton, List.length_nil, List.length_cons]) (by rw [hs]; simp only [List.length_append, encs_vec_length, List.length_singleton, List.length_nil, List.length_cons])
theorem rs_107_1 {v : RStep} {H : IHeap} {id cap : Nat} {s : Option Nat} {ro : Bool} (hH : H id = some (.cells v.cells ro)) : rdS H (.slice (some ⟨id, 1, s⟩) 32 cap) = some v.chain.toList :=
  rs_part (A := [enc v.at_]) (C := []) hH (by simp only [RStep.cells, List.append_assoc, List.nil_append, List.append_nil]) (by simp only [List.length_append, encs_vec_length, List.length_singleton, List.length_nil, List.length_cons]) (by simp)
theorem wr_107_1 (v : RStep) (x : Vector UInt8 32) : wrCells v.cells 1 (encs x.toList) = ({ v with chain := x } : RStep).cells := by
  rw [wr_part (A := [enc v.at_]) (B := encs v.chain.toList) (C := []) (c := v.cells) (by simp only [RStep.cells, List.append_assoc, List.nil_append, List.append_nil]) (by simp only [List.length_append, encs_vec_length, List.length_singleton, List.length_nil, List.length_cons]) (by simp only [List.length_append, encs_vec_length, List.length_singleton, List.length_nil, List.length_cons])]
  simp only [RStep.cells, List.append_assoc, List.nil_append, List.append_nil]
theorem rd_106_1 (v : RStep) {d : TD} (hd : d.k.isAgg = true) (hs : d.size = 32) : rdVar d v.cells 1 = some (enc v.chain) :=
  rd_part (A := [enc v.at_]) (B := encs v.chain.toList) (C := []) hd (by simp only [RStep.cells, List.append_assoc, List.nil_append, List.append_nil]) (by simp only [List.length_append, encs_vec_length, List.length_singleton, List.length_nil, List.length_cons]) (by rw [hs]; simp only [List.length_append, encs_vec_length, List.length_singleton, List.length_nil, List.length_cons])
theorem rs_106_1 {v : RStep} {H : IHeap} {id cap : Nat} {s : Option Nat} {ro : Bool} (hH : H id = some (.cells v.cells ro)) : rdS H (.slice (some ⟨id, 1, s⟩) 32 cap) = some v.chain.toList :=
  rs_part (A := [enc v.at_]) (C := []) hH (by simp only [RStep.cells, List.append_assoc, List.nil_append, List.append_nil]) (by simp only [List.length_append, encs_vec_length, List.length_singleton, List.length_nil, List.length_cons]) (by simp)
theorem wr_106_1 (v : RStep) (x : Vector UInt8 32) : wrCells v.cells 1 (encs x.toList) = ({ v with chain := x } : RStep).cells := by
  rw [wr_part (A := [enc v.at_]) (B := encs v.chain.toList) (C := []) (c := v.cells) (by simp only [RStep.cells, List.append_assoc, List.nil_append, List.append_nil]) (by simp only [List.length_append, encs_vec_length, List.length_singleton, List.length_nil, List.length_cons]) (by simp only [List.length_append, encs_vec_length, List.length_singleton, List.length_nil, List.length_cons])]
  simp only [RStep.cells, List.append_assoc, List.nil_append, List.append_nil]
end Go.Proofs.Ytdnnojblneccdaa
