/-
  No cell of these rows narrows 'for every input' (looked for: loops, veiled, ifaces, maps, wideKeys, modest, calm, conditions, laid).
  DERIVED. THE GIVEN ROWS OF THIS SEAT. 11 by the template 'for every input the law returns true; each argument reads behind the call as it read before'; 0 by the template 'total and deterministic' (their statements: YtdnnojblneccdaaTotals.lean).
  GIVEN WITH THE SEED: the statements are not yours to turn. If you find one false, say at which input.
  Laid BY PROGRAM, IN A SANDBOX (cutbox-rows.mjs): the forced cells as the released guide's own fill.sh prints them over the translation cec7b9860ee2f543… (all of the seat's roots in one cut). By AI agents, Wed Nov 11 2026. No macro, syntax, notation, axiom, sorry.
-/
import Derived.Test.YtdnnojblneccdaaChecked
import GoSem.Claim
import GoSem.ClaimJoined
import GoSem.ClaimMapViews
import Derived.JoinedTies
import Derived.KernelRfl
namespace Go.Proofs.Ytdnnojblneccdaa
/- THE CELL 'sum', in the pinned program and in every row, IS THE sha256 OF THE DUMP (.gsa) THAT YtdnnojblneccdaaProg.lean LOADS. Nothing in Lean hashes anything: it is a label: what it is worth is what the hold of that sum in a sandbox is worth. -/
noncomputable def Try.pinned : Pinned := { name := "ytdnnojblneccdaa", sum := "cec7b9860ee2f543166838d2898f3bf762457a37028fb71dcf47eae7e04b298d", checked := Try.checked }
namespace Rows
def none {H : Type} : Left H := { results := [], args := [] }

/-- 'headwaterlaw20.VoteOrders': WHATEVER THE INPUT: true; the input reads as it did. -/
def voteOrdersSpec : ChangeSpec := { name := "voteOrders", fn := fun _ => fun
  | [d1, d2, d3] => { results := [.lit (.bool true)], args := [d1, d2, d3] }
  | _ => none }
def voteOrdersRow : OpenClaim := { program := "ytdnnojblneccdaa", sum := "cec7b9860ee2f543166838d2898f3bf762457a37028fb71dcf47eae7e04b298d", func := "headwater/headwaterlaw20.VoteOrders", spec := "voteOrders", inPlace := ["internal/bytealg.Compare"], apart := false }
def VoteOrdersSaid : Prop := voteOrdersRow.holds Try.pinned (OpenSpec.ofChange voteOrdersSpec)

/-- ITS FALSE NEIGHBOUR: 'it returns false'. Refute it at one input. -/
def voteOrdersWrong : ChangeSpec := { name := "voteOrders", fn := fun _ => fun
  | [d1, d2, d3] => { results := [.lit (.bool false)], args := [d1, d2, d3] }
  | _ => none }
def VoteOrdersWrongFalsely : Prop := voteOrdersRow.holds Try.pinned (OpenSpec.ofChange voteOrdersWrong)

/-- 'headwaterlaw15.BlockParents': WHATEVER THE INPUT: true; the input reads as it did. -/
def blockParentsSpec : ChangeSpec := { name := "blockParents", fn := fun _ => fun
  | [d1, d2, d3, d4] => { results := [.lit (.bool true)], args := [d1, d2, d3, d4] }
  | _ => none }
def blockParentsRow : OpenClaim := { program := "ytdnnojblneccdaa", sum := "cec7b9860ee2f543166838d2898f3bf762457a37028fb71dcf47eae7e04b298d", func := "headwater/headwaterlaw15.BlockParents", spec := "blockParents", inPlace := ["internal/bytealg.Compare"], apart := false }
def BlockParentsSaid : Prop := blockParentsRow.holds Try.pinned (OpenSpec.ofChange blockParentsSpec)

/-- ITS FALSE NEIGHBOUR: 'it returns false'. Refute it at one input. -/
def blockParentsWrong : ChangeSpec := { name := "blockParents", fn := fun _ => fun
  | [d1, d2, d3, d4] => { results := [.lit (.bool false)], args := [d1, d2, d3, d4] }
  | _ => none }
def BlockParentsWrongFalsely : Prop := blockParentsRow.holds Try.pinned (OpenSpec.ofChange blockParentsWrong)

/-- 'headwaterlaw02.ShaNames': WHATEVER THE INPUT: true; the input reads as it did. -/
def shaNamesSpec : ChangeSpec := { name := "shaNames", fn := fun _ => fun
  | [] => { results := [.lit (.bool true)], args := [] }
  | _ => none }
def shaNamesRow : OpenClaim := { program := "ytdnnojblneccdaa", sum := "cec7b9860ee2f543166838d2898f3bf762457a37028fb71dcf47eae7e04b298d", func := "headwater/headwaterlaw02.ShaNames", spec := "shaNames", inPlace := ["math/bits.Add64"], unfollowed := true, recurses := true, apart := false }
def ShaNamesSaid : Prop := shaNamesRow.holds Try.pinned (OpenSpec.ofChange shaNamesSpec)

/-- ITS FALSE NEIGHBOUR: 'it returns false'. Refute it at one input. -/
def shaNamesWrong : ChangeSpec := { name := "shaNames", fn := fun _ => fun
  | [] => { results := [.lit (.bool false)], args := [] }
  | _ => none }
def ShaNamesWrongFalsely : Prop := shaNamesRow.holds Try.pinned (OpenSpec.ofChange shaNamesWrong)

/-- 'headwaterlaw02.ShaWords': WHATEVER THE INPUT: true; the input reads as it did. -/
def shaWordsSpec : ChangeSpec := { name := "shaWords", fn := fun _ => fun
  | [d1, d2] => { results := [.lit (.bool true)], args := [d1, d2] }
  | _ => none }
def shaWordsRow : OpenClaim := { program := "ytdnnojblneccdaa", sum := "cec7b9860ee2f543166838d2898f3bf762457a37028fb71dcf47eae7e04b298d", func := "headwater/headwaterlaw02.ShaWords", spec := "shaWords", inPlace := ["math/bits.Add64"], unfollowed := true, recurses := true, apart := false }
def ShaWordsSaid : Prop := shaWordsRow.holds Try.pinned (OpenSpec.ofChange shaWordsSpec)

/-- ITS FALSE NEIGHBOUR: 'it returns false'. Refute it at one input. -/
def shaWordsWrong : ChangeSpec := { name := "shaWords", fn := fun _ => fun
  | [d1, d2] => { results := [.lit (.bool false)], args := [d1, d2] }
  | _ => none }
def ShaWordsWrongFalsely : Prop := shaWordsRow.holds Try.pinned (OpenSpec.ofChange shaWordsWrong)

/-- 'headwaterlaw02.ShaRoots': WHATEVER THE INPUT: true; the input reads as it did. -/
def shaRootsSpec : ChangeSpec := { name := "shaRoots", fn := fun _ => fun
  | [d] => { results := [.lit (.bool true)], args := [d] }
  | _ => none }
def shaRootsRow : OpenClaim := { program := "ytdnnojblneccdaa", sum := "cec7b9860ee2f543166838d2898f3bf762457a37028fb71dcf47eae7e04b298d", func := "headwater/headwaterlaw02.ShaRoots", spec := "shaRoots", inPlace := ["math/bits.Add64"], unfollowed := true, recurses := true, apart := false }
def ShaRootsSaid : Prop := shaRootsRow.holds Try.pinned (OpenSpec.ofChange shaRootsSpec)

/-- ITS FALSE NEIGHBOUR: 'it returns false'. Refute it at one input. -/
def shaRootsWrong : ChangeSpec := { name := "shaRoots", fn := fun _ => fun
  | [d] => { results := [.lit (.bool false)], args := [d] }
  | _ => none }
def ShaRootsWrongFalsely : Prop := shaRootsRow.holds Try.pinned (OpenSpec.ofChange shaRootsWrong)

/-- 'headwaterlaw02.ShaPads': WHATEVER THE INPUT: true; the input reads as it did. -/
def shaPadsSpec : ChangeSpec := { name := "shaPads", fn := fun _ => fun
  | [d1, d2] => { results := [.lit (.bool true)], args := [d1, d2] }
  | _ => none }
def shaPadsRow : OpenClaim := { program := "ytdnnojblneccdaa", sum := "cec7b9860ee2f543166838d2898f3bf762457a37028fb71dcf47eae7e04b298d", func := "headwater/headwaterlaw02.ShaPads", spec := "shaPads", inPlace := ["math/bits.Add64"], unfollowed := true, recurses := true, apart := false }
def ShaPadsSaid : Prop := shaPadsRow.holds Try.pinned (OpenSpec.ofChange shaPadsSpec)

/-- ITS FALSE NEIGHBOUR: 'it returns false'. Refute it at one input. -/
def shaPadsWrong : ChangeSpec := { name := "shaPads", fn := fun _ => fun
  | [d1, d2] => { results := [.lit (.bool false)], args := [d1, d2] }
  | _ => none }
def ShaPadsWrongFalsely : Prop := shaPadsRow.holds Try.pinned (OpenSpec.ofChange shaPadsWrong)

/-- 'headwaterlaw02.ShaCalls': WHATEVER THE INPUT: true; the input reads as it did. -/
def shaCallsSpec : ChangeSpec := { name := "shaCalls", fn := fun _ => fun
  | [d1, d2, d3, d4] => { results := [.lit (.bool true)], args := [d1, d2, d3, d4] }
  | _ => none }
def shaCallsRow : OpenClaim := { program := "ytdnnojblneccdaa", sum := "cec7b9860ee2f543166838d2898f3bf762457a37028fb71dcf47eae7e04b298d", func := "headwater/headwaterlaw02.ShaCalls", spec := "shaCalls", inPlace := ["math/bits.Add64"], unfollowed := true, recurses := true, apart := false }
def ShaCallsSaid : Prop := shaCallsRow.holds Try.pinned (OpenSpec.ofChange shaCallsSpec)

/-- ITS FALSE NEIGHBOUR: 'it returns false'. Refute it at one input. -/
def shaCallsWrong : ChangeSpec := { name := "shaCalls", fn := fun _ => fun
  | [d1, d2, d3, d4] => { results := [.lit (.bool false)], args := [d1, d2, d3, d4] }
  | _ => none }
def ShaCallsWrongFalsely : Prop := shaCallsRow.holds Try.pinned (OpenSpec.ofChange shaCallsWrong)

/-- 'headwaterlaw02.ShaParts': WHATEVER THE INPUT: true; the input reads as it did. -/
def shaPartsSpec : ChangeSpec := { name := "shaParts", fn := fun _ => fun
  | [d1, d2, d3] => { results := [.lit (.bool true)], args := [d1, d2, d3] }
  | _ => none }
def shaPartsRow : OpenClaim := { program := "ytdnnojblneccdaa", sum := "cec7b9860ee2f543166838d2898f3bf762457a37028fb71dcf47eae7e04b298d", func := "headwater/headwaterlaw02.ShaParts", spec := "shaParts", inPlace := ["math/bits.Add64"], unfollowed := true, recurses := true, apart := false }
def ShaPartsSaid : Prop := shaPartsRow.holds Try.pinned (OpenSpec.ofChange shaPartsSpec)

/-- ITS FALSE NEIGHBOUR: 'it returns false'. Refute it at one input. -/
def shaPartsWrong : ChangeSpec := { name := "shaParts", fn := fun _ => fun
  | [d1, d2, d3] => { results := [.lit (.bool false)], args := [d1, d2, d3] }
  | _ => none }
def ShaPartsWrongFalsely : Prop := shaPartsRow.holds Try.pinned (OpenSpec.ofChange shaPartsWrong)

/-- 'headwaterlaw08.RecordBound': WHATEVER THE INPUT: true; the input reads as it did. -/
def recordBoundSpec : ChangeSpec := { name := "recordBound", fn := fun _ => fun
  | [d1, d2, d3, d4, d5] => { results := [.lit (.bool true)], args := [d1, d2, d3, d4, d5] }
  | _ => none }
def recordBoundRow : OpenClaim := { program := "ytdnnojblneccdaa", sum := "cec7b9860ee2f543166838d2898f3bf762457a37028fb71dcf47eae7e04b298d", func := "headwater/headwaterlaw08.RecordBound", spec := "recordBound", unfollowed := true, recurses := true, apart := false }
def RecordBoundSaid : Prop := recordBoundRow.holds Try.pinned (OpenSpec.ofChange recordBoundSpec)

/-- ITS FALSE NEIGHBOUR: 'it returns false'. Refute it at one input. -/
def recordBoundWrong : ChangeSpec := { name := "recordBound", fn := fun _ => fun
  | [d1, d2, d3, d4, d5] => { results := [.lit (.bool false)], args := [d1, d2, d3, d4, d5] }
  | _ => none }
def RecordBoundWrongFalsely : Prop := recordBoundRow.holds Try.pinned (OpenSpec.ofChange recordBoundWrong)

/-- 'headwaterlaw08.RecordNames': WHATEVER THE INPUT: true; the input reads as it did. -/
def recordNamesSpec : ChangeSpec := { name := "recordNames", fn := fun _ => fun
  | [] => { results := [.lit (.bool true)], args := [] }
  | _ => none }
def recordNamesRow : OpenClaim := { program := "ytdnnojblneccdaa", sum := "cec7b9860ee2f543166838d2898f3bf762457a37028fb71dcf47eae7e04b298d", func := "headwater/headwaterlaw08.RecordNames", spec := "recordNames", unfollowed := true, recurses := true, apart := false }
def RecordNamesSaid : Prop := recordNamesRow.holds Try.pinned (OpenSpec.ofChange recordNamesSpec)

/-- ITS FALSE NEIGHBOUR: 'it returns false'. Refute it at one input. -/
def recordNamesWrong : ChangeSpec := { name := "recordNames", fn := fun _ => fun
  | [] => { results := [.lit (.bool false)], args := [] }
  | _ => none }
def RecordNamesWrongFalsely : Prop := recordNamesRow.holds Try.pinned (OpenSpec.ofChange recordNamesWrong)

/-- 'headwaterlaw08.RecordBack': WHATEVER THE INPUT: true; the input reads as it did. -/
def recordBackSpec : ChangeSpec := { name := "recordBack", fn := fun _ => fun
  | [d1, d2, d3] => { results := [.lit (.bool true)], args := [d1, d2, d3] }
  | _ => none }
def recordBackRow : OpenClaim := { program := "ytdnnojblneccdaa", sum := "cec7b9860ee2f543166838d2898f3bf762457a37028fb71dcf47eae7e04b298d", func := "headwater/headwaterlaw08.RecordBack", spec := "recordBack", unfollowed := true, recurses := true, apart := false }
def RecordBackSaid : Prop := recordBackRow.holds Try.pinned (OpenSpec.ofChange recordBackSpec)

/-- ITS FALSE NEIGHBOUR: 'it returns false'. Refute it at one input. -/
def recordBackWrong : ChangeSpec := { name := "recordBack", fn := fun _ => fun
  | [d1, d2, d3] => { results := [.lit (.bool false)], args := [d1, d2, d3] }
  | _ => none }
def RecordBackWrongFalsely : Prop := recordBackRow.holds Try.pinned (OpenSpec.ofChange recordBackWrong)

/- THE SECOND FORM. 'bulk': how many values and letters a reading holds, each counted each time it is reached (what is shared counts as often as it is met; a slice's spare places count too). A statement '..UptoSaid' is the law's where the arguments, and the package variables that the reading takes, are together of bulk at most 1048576: NARROWER than '..Said'. Prove '..Said' where nothing that the law and all that it calls make is longer than what came in: it says more and counts as full. Else prove '..UptoSaid'. A law counts once. -/
mutual
def uptoBulk {H : Type} : DataW H → Nat
  | .lit (.string bytes) => bytes.length + 1
  | .lit _ => 1
  | .nil => 1
  | .ptr d => uptoBulk d + 1
  | .slice elems spare => uptoBulkAll elems + uptoBulkAll spare + 1
  | .agg parts => uptoBulkAll parts + 1
  | .iface _ d => uptoBulk d + 1
  | .map entries => uptoBulkEntries entries + 1
  | .held _ => 1
def uptoBulkAll {H : Type} : List (DataW H) → Nat
  | [] => 0
  | d :: r => uptoBulk d + uptoBulkAll r
def uptoBulkEntries {H : Type} : List (Lit × DataW H) → Nat
  | [] => 0
  | x :: r => uptoBulkEntry x + uptoBulkEntries r
def uptoBulkEntry {H : Type} : Lit × DataW H → Nat
  | (.string bytes, d) => bytes.length + uptoBulk d + 1
  | (_, d) => uptoBulk d + 1
 end
def uptoSmall : (H : Type) → List (DataW H) → Bool := fun _ ds => decide (uptoBulkAll ds ≤ 1048576)
def OpenSpec.upto (s : _root_.Go.ChangeSpec) : _root_.Go.OpenSpec := { _root_.Go.OpenSpec.ofChange s with cond := some uptoSmall }

/-- 'headwaterlaw20.VoteOrders', WHERE WHAT IT READS IS OF BULK AT MOST 1048576: true; the input reads as it did. -/
def voteOrdersUptoRow : OpenClaim := { program := "ytdnnojblneccdaa", sum := "cec7b9860ee2f543166838d2898f3bf762457a37028fb71dcf47eae7e04b298d", func := "headwater/headwaterlaw20.VoteOrders", spec := "voteOrders", inPlace := ["internal/bytealg.Compare"], apart := false, narrowed := true }
def VoteOrdersUptoSaid : Prop := voteOrdersUptoRow.holds Try.pinned (OpenSpec.upto voteOrdersSpec)

/-- 'headwaterlaw15.BlockParents', WHERE WHAT IT READS IS OF BULK AT MOST 1048576: true; the input reads as it did. -/
def blockParentsUptoRow : OpenClaim := { program := "ytdnnojblneccdaa", sum := "cec7b9860ee2f543166838d2898f3bf762457a37028fb71dcf47eae7e04b298d", func := "headwater/headwaterlaw15.BlockParents", spec := "blockParents", inPlace := ["internal/bytealg.Compare"], apart := false, narrowed := true }
def BlockParentsUptoSaid : Prop := blockParentsUptoRow.holds Try.pinned (OpenSpec.upto blockParentsSpec)

/-- 'headwaterlaw02.ShaNames', WHERE WHAT IT READS IS OF BULK AT MOST 1048576: true; the input reads as it did. -/
def shaNamesUptoRow : OpenClaim := { program := "ytdnnojblneccdaa", sum := "cec7b9860ee2f543166838d2898f3bf762457a37028fb71dcf47eae7e04b298d", func := "headwater/headwaterlaw02.ShaNames", spec := "shaNames", inPlace := ["math/bits.Add64"], unfollowed := true, recurses := true, apart := false, narrowed := true }
def ShaNamesUptoSaid : Prop := shaNamesUptoRow.holds Try.pinned (OpenSpec.upto shaNamesSpec)

/-- 'headwaterlaw02.ShaWords', WHERE WHAT IT READS IS OF BULK AT MOST 1048576: true; the input reads as it did. -/
def shaWordsUptoRow : OpenClaim := { program := "ytdnnojblneccdaa", sum := "cec7b9860ee2f543166838d2898f3bf762457a37028fb71dcf47eae7e04b298d", func := "headwater/headwaterlaw02.ShaWords", spec := "shaWords", inPlace := ["math/bits.Add64"], unfollowed := true, recurses := true, apart := false, narrowed := true }
def ShaWordsUptoSaid : Prop := shaWordsUptoRow.holds Try.pinned (OpenSpec.upto shaWordsSpec)

/-- 'headwaterlaw02.ShaRoots', WHERE WHAT IT READS IS OF BULK AT MOST 1048576: true; the input reads as it did. -/
def shaRootsUptoRow : OpenClaim := { program := "ytdnnojblneccdaa", sum := "cec7b9860ee2f543166838d2898f3bf762457a37028fb71dcf47eae7e04b298d", func := "headwater/headwaterlaw02.ShaRoots", spec := "shaRoots", inPlace := ["math/bits.Add64"], unfollowed := true, recurses := true, apart := false, narrowed := true }
def ShaRootsUptoSaid : Prop := shaRootsUptoRow.holds Try.pinned (OpenSpec.upto shaRootsSpec)

/-- 'headwaterlaw02.ShaPads', WHERE WHAT IT READS IS OF BULK AT MOST 1048576: true; the input reads as it did. -/
def shaPadsUptoRow : OpenClaim := { program := "ytdnnojblneccdaa", sum := "cec7b9860ee2f543166838d2898f3bf762457a37028fb71dcf47eae7e04b298d", func := "headwater/headwaterlaw02.ShaPads", spec := "shaPads", inPlace := ["math/bits.Add64"], unfollowed := true, recurses := true, apart := false, narrowed := true }
def ShaPadsUptoSaid : Prop := shaPadsUptoRow.holds Try.pinned (OpenSpec.upto shaPadsSpec)

/-- 'headwaterlaw02.ShaCalls', WHERE WHAT IT READS IS OF BULK AT MOST 1048576: true; the input reads as it did. -/
def shaCallsUptoRow : OpenClaim := { program := "ytdnnojblneccdaa", sum := "cec7b9860ee2f543166838d2898f3bf762457a37028fb71dcf47eae7e04b298d", func := "headwater/headwaterlaw02.ShaCalls", spec := "shaCalls", inPlace := ["math/bits.Add64"], unfollowed := true, recurses := true, apart := false, narrowed := true }
def ShaCallsUptoSaid : Prop := shaCallsUptoRow.holds Try.pinned (OpenSpec.upto shaCallsSpec)

/-- 'headwaterlaw02.ShaParts', WHERE WHAT IT READS IS OF BULK AT MOST 1048576: true; the input reads as it did. -/
def shaPartsUptoRow : OpenClaim := { program := "ytdnnojblneccdaa", sum := "cec7b9860ee2f543166838d2898f3bf762457a37028fb71dcf47eae7e04b298d", func := "headwater/headwaterlaw02.ShaParts", spec := "shaParts", inPlace := ["math/bits.Add64"], unfollowed := true, recurses := true, apart := false, narrowed := true }
def ShaPartsUptoSaid : Prop := shaPartsUptoRow.holds Try.pinned (OpenSpec.upto shaPartsSpec)

/-- 'headwaterlaw08.RecordBound', WHERE WHAT IT READS IS OF BULK AT MOST 1048576: true; the input reads as it did. -/
def recordBoundUptoRow : OpenClaim := { program := "ytdnnojblneccdaa", sum := "cec7b9860ee2f543166838d2898f3bf762457a37028fb71dcf47eae7e04b298d", func := "headwater/headwaterlaw08.RecordBound", spec := "recordBound", unfollowed := true, recurses := true, apart := false, narrowed := true }
def RecordBoundUptoSaid : Prop := recordBoundUptoRow.holds Try.pinned (OpenSpec.upto recordBoundSpec)

/-- 'headwaterlaw08.RecordNames', WHERE WHAT IT READS IS OF BULK AT MOST 1048576: true; the input reads as it did. -/
def recordNamesUptoRow : OpenClaim := { program := "ytdnnojblneccdaa", sum := "cec7b9860ee2f543166838d2898f3bf762457a37028fb71dcf47eae7e04b298d", func := "headwater/headwaterlaw08.RecordNames", spec := "recordNames", unfollowed := true, recurses := true, apart := false, narrowed := true }
def RecordNamesUptoSaid : Prop := recordNamesUptoRow.holds Try.pinned (OpenSpec.upto recordNamesSpec)

/-- 'headwaterlaw08.RecordBack', WHERE WHAT IT READS IS OF BULK AT MOST 1048576: true; the input reads as it did. -/
def recordBackUptoRow : OpenClaim := { program := "ytdnnojblneccdaa", sum := "cec7b9860ee2f543166838d2898f3bf762457a37028fb71dcf47eae7e04b298d", func := "headwater/headwaterlaw08.RecordBack", spec := "recordBack", unfollowed := true, recurses := true, apart := false, narrowed := true }
def RecordBackUptoSaid : Prop := recordBackUptoRow.holds Try.pinned (OpenSpec.upto recordBackSpec)

end Rows
end Go.Proofs.Ytdnnojblneccdaa
