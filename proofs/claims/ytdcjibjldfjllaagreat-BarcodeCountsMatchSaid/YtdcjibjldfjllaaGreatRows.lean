/-
  No cell of these rows narrows 'for every input' (looked for: loops, veiled, ifaces, maps, wideKeys, modest, calm, conditions, laid).
  DERIVED. THE GIVEN ROWS OF THIS SEAT. 11 by the template 'for every input the law returns true; each argument reads behind the call as it read before'; 0 by the template 'total and deterministic' (their statements: YtdcjibjldfjllaaGreatTotals.lean).
  GIVEN WITH THE SEED: the statements are not yours to turn. If you find one false, say at which input.
  Laid BY PROGRAM, IN A SANDBOX (cutbox-rows.mjs): the forced cells as the released guide's own fill.sh prints them over the translation b7770edf0d506955… (all of the seat's roots in one cut). By AI agents, Wed Nov 11 2026. No macro, syntax, notation, axiom, sorry.
-/
import Derived.Test.YtdcjibjldfjllaaGreatChecked
import GoSem.Claim
import GoSem.ClaimJoined
import GoSem.ClaimMapViews
import Derived.JoinedTies
import Derived.KernelRfl
namespace Go.Proofs.YtdcjibjldfjllaaGreat
/- THE CELL 'sum', in the pinned program and in every row, IS THE sha256 OF THE DUMP (.gsa) THAT YtdcjibjldfjllaaGreatProg.lean LOADS. Nothing in Lean hashes anything: it is a label: what it is worth is what the hold of that sum in a sandbox is worth. -/
noncomputable def Tryz.pinned : Pinned := { name := "ytdcjibjldfjllaagreat", sum := "b7770edf0d50695589752a36f9d46e4db17409df4c3332fc67405336ffa49024", checked := Tryz.checked }
namespace Rows
def none {H : Type} : Left H := { results := [], args := [] }

/-- 'toruslaw20.BarcodeTextMatches': WHATEVER THE INPUT: true; the input reads as it did. -/
def barcodeTextMatchesSpec : ChangeSpec := { name := "barcodeTextMatches", fn := fun _ => fun
  | [d1, d2] => { results := [.lit (.bool true)], args := [d1, d2] }
  | _ => none }
def barcodeTextMatchesRow : OpenClaim := { program := "ytdcjibjldfjllaagreat", sum := "b7770edf0d50695589752a36f9d46e4db17409df4c3332fc67405336ffa49024", func := "torus/toruslaw20.BarcodeTextMatches", spec := "barcodeTextMatches", inPlace := ["internal/bytealg.IndexByteString", "internal/bytealg.IndexString", "internal/abi.NoEscape"], unfollowed := true, recurses := true, named := ["internal/bytealg.MaxLen"], plainKeys := false, apart := false }
def BarcodeTextMatchesSaid : Prop := barcodeTextMatchesRow.holds Tryz.pinned (OpenSpec.ofChange barcodeTextMatchesSpec)

/-- ITS FALSE NEIGHBOUR: 'it returns false'. Refute it at one input. -/
def barcodeTextMatchesWrong : ChangeSpec := { name := "barcodeTextMatches", fn := fun _ => fun
  | [d1, d2] => { results := [.lit (.bool false)], args := [d1, d2] }
  | _ => none }
def BarcodeTextMatchesWrongFalsely : Prop := barcodeTextMatchesRow.holds Tryz.pinned (OpenSpec.ofChange barcodeTextMatchesWrong)

/-- 'toruslaw20.BarcodeClips': WHATEVER THE INPUT: true; the input reads as it did. -/
def barcodeClipsSpec : ChangeSpec := { name := "barcodeClips", fn := fun _ => fun
  | [d1, d2, d3, d4] => { results := [.lit (.bool true)], args := [d1, d2, d3, d4] }
  | _ => none }
def barcodeClipsRow : OpenClaim := { program := "ytdcjibjldfjllaagreat", sum := "b7770edf0d50695589752a36f9d46e4db17409df4c3332fc67405336ffa49024", func := "torus/toruslaw20.BarcodeClips", spec := "barcodeClips", inPlace := ["internal/bytealg.IndexByteString", "internal/bytealg.IndexString", "internal/abi.NoEscape"], unfollowed := true, recurses := true, named := ["internal/bytealg.MaxLen"], plainKeys := false, apart := false }
def BarcodeClipsSaid : Prop := barcodeClipsRow.holds Tryz.pinned (OpenSpec.ofChange barcodeClipsSpec)

/-- ITS FALSE NEIGHBOUR: 'it returns false'. Refute it at one input. -/
def barcodeClipsWrong : ChangeSpec := { name := "barcodeClips", fn := fun _ => fun
  | [d1, d2, d3, d4] => { results := [.lit (.bool false)], args := [d1, d2, d3, d4] }
  | _ => none }
def BarcodeClipsWrongFalsely : Prop := barcodeClipsRow.holds Tryz.pinned (OpenSpec.ofChange barcodeClipsWrong)

/-- 'toruslaw20.BarcodeRanks': WHATEVER THE INPUT: true; the input reads as it did. -/
def barcodeRanksSpec : ChangeSpec := { name := "barcodeRanks", fn := fun _ => fun
  | [d1, d2, d3] => { results := [.lit (.bool true)], args := [d1, d2, d3] }
  | _ => none }
def barcodeRanksRow : OpenClaim := { program := "ytdcjibjldfjllaagreat", sum := "b7770edf0d50695589752a36f9d46e4db17409df4c3332fc67405336ffa49024", func := "torus/toruslaw20.BarcodeRanks", spec := "barcodeRanks", inPlace := ["internal/bytealg.IndexByteString", "internal/bytealg.IndexString", "internal/abi.NoEscape"], unfollowed := true, recurses := true, named := ["internal/bytealg.MaxLen"], plainKeys := false, apart := false }
def BarcodeRanksSaid : Prop := barcodeRanksRow.holds Tryz.pinned (OpenSpec.ofChange barcodeRanksSpec)

/-- ITS FALSE NEIGHBOUR: 'it returns false'. Refute it at one input. -/
def barcodeRanksWrong : ChangeSpec := { name := "barcodeRanks", fn := fun _ => fun
  | [d1, d2, d3] => { results := [.lit (.bool false)], args := [d1, d2, d3] }
  | _ => none }
def BarcodeRanksWrongFalsely : Prop := barcodeRanksRow.holds Tryz.pinned (OpenSpec.ofChange barcodeRanksWrong)

/-- 'toruslaw20.BarcodeRoundTrip': WHATEVER THE INPUT: true; the input reads as it did. -/
def barcodeRoundTripSpec : ChangeSpec := { name := "barcodeRoundTrip", fn := fun _ => fun
  | [d] => { results := [.lit (.bool true)], args := [d] }
  | _ => none }
def barcodeRoundTripRow : OpenClaim := { program := "ytdcjibjldfjllaagreat", sum := "b7770edf0d50695589752a36f9d46e4db17409df4c3332fc67405336ffa49024", func := "torus/toruslaw20.BarcodeRoundTrip", spec := "barcodeRoundTrip", inPlace := ["internal/bytealg.IndexByteString", "internal/bytealg.IndexString", "internal/abi.NoEscape"], unfollowed := true, recurses := true, named := ["internal/bytealg.MaxLen"], plainKeys := false, apart := false }
def BarcodeRoundTripSaid : Prop := barcodeRoundTripRow.holds Tryz.pinned (OpenSpec.ofChange barcodeRoundTripSpec)

/-- ITS FALSE NEIGHBOUR: 'it returns false'. Refute it at one input. -/
def barcodeRoundTripWrong : ChangeSpec := { name := "barcodeRoundTrip", fn := fun _ => fun
  | [d] => { results := [.lit (.bool false)], args := [d] }
  | _ => none }
def BarcodeRoundTripWrongFalsely : Prop := barcodeRoundTripRow.holds Tryz.pinned (OpenSpec.ofChange barcodeRoundTripWrong)

/-- 'toruslaw20.BarcodeChecksMatch': WHATEVER THE INPUT: true; the input reads as it did. -/
def barcodeChecksMatchSpec : ChangeSpec := { name := "barcodeChecksMatch", fn := fun _ => fun
  | [d] => { results := [.lit (.bool true)], args := [d] }
  | _ => none }
def barcodeChecksMatchRow : OpenClaim := { program := "ytdcjibjldfjllaagreat", sum := "b7770edf0d50695589752a36f9d46e4db17409df4c3332fc67405336ffa49024", func := "torus/toruslaw20.BarcodeChecksMatch", spec := "barcodeChecksMatch", inPlace := ["internal/bytealg.IndexByteString", "internal/bytealg.IndexString", "internal/abi.NoEscape"], unfollowed := true, recurses := true, named := ["internal/bytealg.MaxLen"], plainKeys := false, apart := false }
def BarcodeChecksMatchSaid : Prop := barcodeChecksMatchRow.holds Tryz.pinned (OpenSpec.ofChange barcodeChecksMatchSpec)

/-- ITS FALSE NEIGHBOUR: 'it returns false'. Refute it at one input. -/
def barcodeChecksMatchWrong : ChangeSpec := { name := "barcodeChecksMatch", fn := fun _ => fun
  | [d] => { results := [.lit (.bool false)], args := [d] }
  | _ => none }
def BarcodeChecksMatchWrongFalsely : Prop := barcodeChecksMatchRow.holds Tryz.pinned (OpenSpec.ofChange barcodeChecksMatchWrong)

/-- 'toruslaw20.BarcodeShifts': WHATEVER THE INPUT: true; the input reads as it did. -/
def barcodeShiftsSpec : ChangeSpec := { name := "barcodeShifts", fn := fun _ => fun
  | [d1, d2, d3, d4] => { results := [.lit (.bool true)], args := [d1, d2, d3, d4] }
  | _ => none }
def barcodeShiftsRow : OpenClaim := { program := "ytdcjibjldfjllaagreat", sum := "b7770edf0d50695589752a36f9d46e4db17409df4c3332fc67405336ffa49024", func := "torus/toruslaw20.BarcodeShifts", spec := "barcodeShifts", inPlace := ["internal/bytealg.IndexByteString", "internal/bytealg.IndexString", "internal/abi.NoEscape"], unfollowed := true, recurses := true, named := ["internal/bytealg.MaxLen"], plainKeys := false, apart := false }
def BarcodeShiftsSaid : Prop := barcodeShiftsRow.holds Tryz.pinned (OpenSpec.ofChange barcodeShiftsSpec)

/-- ITS FALSE NEIGHBOUR: 'it returns false'. Refute it at one input. -/
def barcodeShiftsWrong : ChangeSpec := { name := "barcodeShifts", fn := fun _ => fun
  | [d1, d2, d3, d4] => { results := [.lit (.bool false)], args := [d1, d2, d3, d4] }
  | _ => none }
def BarcodeShiftsWrongFalsely : Prop := barcodeShiftsRow.holds Tryz.pinned (OpenSpec.ofChange barcodeShiftsWrong)

/-- 'toruslaw20.BarcodeChangesMatch': WHATEVER THE INPUT: true; the input reads as it did. -/
def barcodeChangesMatchSpec : ChangeSpec := { name := "barcodeChangesMatch", fn := fun _ => fun
  | [d1, d2, d3, d4, d5] => { results := [.lit (.bool true)], args := [d1, d2, d3, d4, d5] }
  | _ => none }
def barcodeChangesMatchRow : OpenClaim := { program := "ytdcjibjldfjllaagreat", sum := "b7770edf0d50695589752a36f9d46e4db17409df4c3332fc67405336ffa49024", func := "torus/toruslaw20.BarcodeChangesMatch", spec := "barcodeChangesMatch", inPlace := ["internal/bytealg.IndexByteString", "internal/bytealg.IndexString", "internal/abi.NoEscape"], unfollowed := true, recurses := true, named := ["internal/bytealg.MaxLen"], plainKeys := false, apart := false }
def BarcodeChangesMatchSaid : Prop := barcodeChangesMatchRow.holds Tryz.pinned (OpenSpec.ofChange barcodeChangesMatchSpec)

/-- ITS FALSE NEIGHBOUR: 'it returns false'. Refute it at one input. -/
def barcodeChangesMatchWrong : ChangeSpec := { name := "barcodeChangesMatch", fn := fun _ => fun
  | [d1, d2, d3, d4, d5] => { results := [.lit (.bool false)], args := [d1, d2, d3, d4, d5] }
  | _ => none }
def BarcodeChangesMatchWrongFalsely : Prop := barcodeChangesMatchRow.holds Tryz.pinned (OpenSpec.ofChange barcodeChangesMatchWrong)

/-- 'toruslaw20.BarcodeOfMatches': WHATEVER THE INPUT: true; the input reads as it did. -/
def barcodeOfMatchesSpec : ChangeSpec := { name := "barcodeOfMatches", fn := fun _ => fun
  | [d1, d2, d3] => { results := [.lit (.bool true)], args := [d1, d2, d3] }
  | _ => none }
def barcodeOfMatchesRow : OpenClaim := { program := "ytdcjibjldfjllaagreat", sum := "b7770edf0d50695589752a36f9d46e4db17409df4c3332fc67405336ffa49024", func := "torus/toruslaw20.BarcodeOfMatches", spec := "barcodeOfMatches", inPlace := ["internal/bytealg.IndexByteString", "internal/bytealg.IndexString", "internal/abi.NoEscape"], unfollowed := true, recurses := true, named := ["internal/bytealg.MaxLen"], plainKeys := false, apart := false }
def BarcodeOfMatchesSaid : Prop := barcodeOfMatchesRow.holds Tryz.pinned (OpenSpec.ofChange barcodeOfMatchesSpec)

/-- ITS FALSE NEIGHBOUR: 'it returns false'. Refute it at one input. -/
def barcodeOfMatchesWrong : ChangeSpec := { name := "barcodeOfMatches", fn := fun _ => fun
  | [d1, d2, d3] => { results := [.lit (.bool false)], args := [d1, d2, d3] }
  | _ => none }
def BarcodeOfMatchesWrongFalsely : Prop := barcodeOfMatchesRow.holds Tryz.pinned (OpenSpec.ofChange barcodeOfMatchesWrong)

/-- 'toruslaw20.BarcodeBetti': WHATEVER THE INPUT: true; the input reads as it did. -/
def barcodeBettiSpec : ChangeSpec := { name := "barcodeBetti", fn := fun _ => fun
  | [d1, d2, d3] => { results := [.lit (.bool true)], args := [d1, d2, d3] }
  | _ => none }
def barcodeBettiRow : OpenClaim := { program := "ytdcjibjldfjllaagreat", sum := "b7770edf0d50695589752a36f9d46e4db17409df4c3332fc67405336ffa49024", func := "torus/toruslaw20.BarcodeBetti", spec := "barcodeBetti", inPlace := ["internal/bytealg.IndexByteString", "internal/bytealg.IndexString", "internal/abi.NoEscape"], unfollowed := true, recurses := true, named := ["internal/bytealg.MaxLen"], plainKeys := false, apart := false }
def BarcodeBettiSaid : Prop := barcodeBettiRow.holds Tryz.pinned (OpenSpec.ofChange barcodeBettiSpec)

/-- ITS FALSE NEIGHBOUR: 'it returns false'. Refute it at one input. -/
def barcodeBettiWrong : ChangeSpec := { name := "barcodeBetti", fn := fun _ => fun
  | [d1, d2, d3] => { results := [.lit (.bool false)], args := [d1, d2, d3] }
  | _ => none }
def BarcodeBettiWrongFalsely : Prop := barcodeBettiRow.holds Tryz.pinned (OpenSpec.ofChange barcodeBettiWrong)

/-- 'toruslaw20.BarcodeCountsMatch': WHATEVER THE INPUT: true; the input reads as it did. -/
def barcodeCountsMatchSpec : ChangeSpec := { name := "barcodeCountsMatch", fn := fun _ => fun
  | [d1, d2, d3, d4, d5] => { results := [.lit (.bool true)], args := [d1, d2, d3, d4, d5] }
  | _ => none }
def barcodeCountsMatchRow : OpenClaim := { program := "ytdcjibjldfjllaagreat", sum := "b7770edf0d50695589752a36f9d46e4db17409df4c3332fc67405336ffa49024", func := "torus/toruslaw20.BarcodeCountsMatch", spec := "barcodeCountsMatch", inPlace := ["internal/bytealg.IndexByteString", "internal/bytealg.IndexString", "internal/abi.NoEscape"], unfollowed := true, recurses := true, named := ["internal/bytealg.MaxLen"], plainKeys := false, apart := false }
def BarcodeCountsMatchSaid : Prop := barcodeCountsMatchRow.holds Tryz.pinned (OpenSpec.ofChange barcodeCountsMatchSpec)

/-- ITS FALSE NEIGHBOUR: 'it returns false'. Refute it at one input. -/
def barcodeCountsMatchWrong : ChangeSpec := { name := "barcodeCountsMatch", fn := fun _ => fun
  | [d1, d2, d3, d4, d5] => { results := [.lit (.bool false)], args := [d1, d2, d3, d4, d5] }
  | _ => none }
def BarcodeCountsMatchWrongFalsely : Prop := barcodeCountsMatchRow.holds Tryz.pinned (OpenSpec.ofChange barcodeCountsMatchWrong)

/-- 'toruslaw20.BarcodeExamples': WHATEVER THE INPUT: true; the input reads as it did. -/
def barcodeExamplesSpec : ChangeSpec := { name := "barcodeExamples", fn := fun _ => fun
  | [] => { results := [.lit (.bool true)], args := [] }
  | _ => none }
def barcodeExamplesRow : OpenClaim := { program := "ytdcjibjldfjllaagreat", sum := "b7770edf0d50695589752a36f9d46e4db17409df4c3332fc67405336ffa49024", func := "torus/toruslaw20.BarcodeExamples", spec := "barcodeExamples", inPlace := ["internal/bytealg.IndexByteString", "internal/bytealg.IndexString", "internal/abi.NoEscape", "internal/bytealg.MakeNoZero"], unfollowed := true, recurses := true, named := ["internal/bytealg.MaxLen"], plainKeys := false, apart := false }
def BarcodeExamplesSaid : Prop := barcodeExamplesRow.holds Tryz.pinned (OpenSpec.ofChange barcodeExamplesSpec)

/-- ITS FALSE NEIGHBOUR: 'it returns false'. Refute it at one input. -/
def barcodeExamplesWrong : ChangeSpec := { name := "barcodeExamples", fn := fun _ => fun
  | [] => { results := [.lit (.bool false)], args := [] }
  | _ => none }
def BarcodeExamplesWrongFalsely : Prop := barcodeExamplesRow.holds Tryz.pinned (OpenSpec.ofChange barcodeExamplesWrong)

/- THE SECOND FORM. 'bulk': how many values and letters a reading holds, each counted each time it is reached (what is shared counts as often as it is met; a slice's spare places count too). A statement '..UptoSaid' is the law's where the arguments, and the package variables that the reading takes, are together of bulk at most 1048576: NARROWER than '..Said'. Prove '..Said' where nothing that the law and all that it calls make is longer than what came in: it says more and counts as full. Else prove '..UptoSaid'. A law counts once. -/
mutual
def uptoBulk {H : Type} : DataW H → Nat
  | .lit (.string bytes) => bytes.length + 1
  | .lit _ => 1
  | .nil => 1
  | .ptr d => uptoBulk d + 1
  | .slice elems spare => uptoBulkAll elems + uptoBulkAll spare + 1
  | .agg parts => uptoBulkAll parts + 1
  | .iface _ d => uptoBulk d + 1
  | .map entries => uptoBulkEntries entries + 1
  | .held _ => 1
def uptoBulkAll {H : Type} : List (DataW H) → Nat
  | [] => 0
  | d :: r => uptoBulk d + uptoBulkAll r
def uptoBulkEntries {H : Type} : List (Lit × DataW H) → Nat
  | [] => 0
  | x :: r => uptoBulkEntry x + uptoBulkEntries r
def uptoBulkEntry {H : Type} : Lit × DataW H → Nat
  | (.string bytes, d) => bytes.length + uptoBulk d + 1
  | (_, d) => uptoBulk d + 1
 end
def uptoSmall : (H : Type) → List (DataW H) → Bool := fun _ ds => decide (uptoBulkAll ds ≤ 1048576)
def OpenSpec.upto (s : _root_.Go.ChangeSpec) : _root_.Go.OpenSpec := { _root_.Go.OpenSpec.ofChange s with cond := some uptoSmall }

/-- 'toruslaw20.BarcodeTextMatches', WHERE WHAT IT READS IS OF BULK AT MOST 1048576: true; the input reads as it did. -/
def barcodeTextMatchesUptoRow : OpenClaim := { program := "ytdcjibjldfjllaagreat", sum := "b7770edf0d50695589752a36f9d46e4db17409df4c3332fc67405336ffa49024", func := "torus/toruslaw20.BarcodeTextMatches", spec := "barcodeTextMatches", inPlace := ["internal/bytealg.IndexByteString", "internal/bytealg.IndexString", "internal/abi.NoEscape"], unfollowed := true, recurses := true, named := ["internal/bytealg.MaxLen"], plainKeys := false, apart := false, narrowed := true }
def BarcodeTextMatchesUptoSaid : Prop := barcodeTextMatchesUptoRow.holds Tryz.pinned (OpenSpec.upto barcodeTextMatchesSpec)

/-- 'toruslaw20.BarcodeClips', WHERE WHAT IT READS IS OF BULK AT MOST 1048576: true; the input reads as it did. -/
def barcodeClipsUptoRow : OpenClaim := { program := "ytdcjibjldfjllaagreat", sum := "b7770edf0d50695589752a36f9d46e4db17409df4c3332fc67405336ffa49024", func := "torus/toruslaw20.BarcodeClips", spec := "barcodeClips", inPlace := ["internal/bytealg.IndexByteString", "internal/bytealg.IndexString", "internal/abi.NoEscape"], unfollowed := true, recurses := true, named := ["internal/bytealg.MaxLen"], plainKeys := false, apart := false, narrowed := true }
def BarcodeClipsUptoSaid : Prop := barcodeClipsUptoRow.holds Tryz.pinned (OpenSpec.upto barcodeClipsSpec)

/-- 'toruslaw20.BarcodeRanks', WHERE WHAT IT READS IS OF BULK AT MOST 1048576: true; the input reads as it did. -/
def barcodeRanksUptoRow : OpenClaim := { program := "ytdcjibjldfjllaagreat", sum := "b7770edf0d50695589752a36f9d46e4db17409df4c3332fc67405336ffa49024", func := "torus/toruslaw20.BarcodeRanks", spec := "barcodeRanks", inPlace := ["internal/bytealg.IndexByteString", "internal/bytealg.IndexString", "internal/abi.NoEscape"], unfollowed := true, recurses := true, named := ["internal/bytealg.MaxLen"], plainKeys := false, apart := false, narrowed := true }
def BarcodeRanksUptoSaid : Prop := barcodeRanksUptoRow.holds Tryz.pinned (OpenSpec.upto barcodeRanksSpec)

/-- 'toruslaw20.BarcodeRoundTrip', WHERE WHAT IT READS IS OF BULK AT MOST 1048576: true; the input reads as it did. -/
def barcodeRoundTripUptoRow : OpenClaim := { program := "ytdcjibjldfjllaagreat", sum := "b7770edf0d50695589752a36f9d46e4db17409df4c3332fc67405336ffa49024", func := "torus/toruslaw20.BarcodeRoundTrip", spec := "barcodeRoundTrip", inPlace := ["internal/bytealg.IndexByteString", "internal/bytealg.IndexString", "internal/abi.NoEscape"], unfollowed := true, recurses := true, named := ["internal/bytealg.MaxLen"], plainKeys := false, apart := false, narrowed := true }
def BarcodeRoundTripUptoSaid : Prop := barcodeRoundTripUptoRow.holds Tryz.pinned (OpenSpec.upto barcodeRoundTripSpec)

/-- 'toruslaw20.BarcodeChecksMatch', WHERE WHAT IT READS IS OF BULK AT MOST 1048576: true; the input reads as it did. -/
def barcodeChecksMatchUptoRow : OpenClaim := { program := "ytdcjibjldfjllaagreat", sum := "b7770edf0d50695589752a36f9d46e4db17409df4c3332fc67405336ffa49024", func := "torus/toruslaw20.BarcodeChecksMatch", spec := "barcodeChecksMatch", inPlace := ["internal/bytealg.IndexByteString", "internal/bytealg.IndexString", "internal/abi.NoEscape"], unfollowed := true, recurses := true, named := ["internal/bytealg.MaxLen"], plainKeys := false, apart := false, narrowed := true }
def BarcodeChecksMatchUptoSaid : Prop := barcodeChecksMatchUptoRow.holds Tryz.pinned (OpenSpec.upto barcodeChecksMatchSpec)

/-- 'toruslaw20.BarcodeShifts', WHERE WHAT IT READS IS OF BULK AT MOST 1048576: true; the input reads as it did. -/
def barcodeShiftsUptoRow : OpenClaim := { program := "ytdcjibjldfjllaagreat", sum := "b7770edf0d50695589752a36f9d46e4db17409df4c3332fc67405336ffa49024", func := "torus/toruslaw20.BarcodeShifts", spec := "barcodeShifts", inPlace := ["internal/bytealg.IndexByteString", "internal/bytealg.IndexString", "internal/abi.NoEscape"], unfollowed := true, recurses := true, named := ["internal/bytealg.MaxLen"], plainKeys := false, apart := false, narrowed := true }
def BarcodeShiftsUptoSaid : Prop := barcodeShiftsUptoRow.holds Tryz.pinned (OpenSpec.upto barcodeShiftsSpec)

/-- 'toruslaw20.BarcodeChangesMatch', WHERE WHAT IT READS IS OF BULK AT MOST 1048576: true; the input reads as it did. -/
def barcodeChangesMatchUptoRow : OpenClaim := { program := "ytdcjibjldfjllaagreat", sum := "b7770edf0d50695589752a36f9d46e4db17409df4c3332fc67405336ffa49024", func := "torus/toruslaw20.BarcodeChangesMatch", spec := "barcodeChangesMatch", inPlace := ["internal/bytealg.IndexByteString", "internal/bytealg.IndexString", "internal/abi.NoEscape"], unfollowed := true, recurses := true, named := ["internal/bytealg.MaxLen"], plainKeys := false, apart := false, narrowed := true }
def BarcodeChangesMatchUptoSaid : Prop := barcodeChangesMatchUptoRow.holds Tryz.pinned (OpenSpec.upto barcodeChangesMatchSpec)

/-- 'toruslaw20.BarcodeOfMatches', WHERE WHAT IT READS IS OF BULK AT MOST 1048576: true; the input reads as it did. -/
def barcodeOfMatchesUptoRow : OpenClaim := { program := "ytdcjibjldfjllaagreat", sum := "b7770edf0d50695589752a36f9d46e4db17409df4c3332fc67405336ffa49024", func := "torus/toruslaw20.BarcodeOfMatches", spec := "barcodeOfMatches", inPlace := ["internal/bytealg.IndexByteString", "internal/bytealg.IndexString", "internal/abi.NoEscape"], unfollowed := true, recurses := true, named := ["internal/bytealg.MaxLen"], plainKeys := false, apart := false, narrowed := true }
def BarcodeOfMatchesUptoSaid : Prop := barcodeOfMatchesUptoRow.holds Tryz.pinned (OpenSpec.upto barcodeOfMatchesSpec)

/-- 'toruslaw20.BarcodeBetti', WHERE WHAT IT READS IS OF BULK AT MOST 1048576: true; the input reads as it did. -/
def barcodeBettiUptoRow : OpenClaim := { program := "ytdcjibjldfjllaagreat", sum := "b7770edf0d50695589752a36f9d46e4db17409df4c3332fc67405336ffa49024", func := "torus/toruslaw20.BarcodeBetti", spec := "barcodeBetti", inPlace := ["internal/bytealg.IndexByteString", "internal/bytealg.IndexString", "internal/abi.NoEscape"], unfollowed := true, recurses := true, named := ["internal/bytealg.MaxLen"], plainKeys := false, apart := false, narrowed := true }
def BarcodeBettiUptoSaid : Prop := barcodeBettiUptoRow.holds Tryz.pinned (OpenSpec.upto barcodeBettiSpec)

/-- 'toruslaw20.BarcodeCountsMatch', WHERE WHAT IT READS IS OF BULK AT MOST 1048576: true; the input reads as it did. -/
def barcodeCountsMatchUptoRow : OpenClaim := { program := "ytdcjibjldfjllaagreat", sum := "b7770edf0d50695589752a36f9d46e4db17409df4c3332fc67405336ffa49024", func := "torus/toruslaw20.BarcodeCountsMatch", spec := "barcodeCountsMatch", inPlace := ["internal/bytealg.IndexByteString", "internal/bytealg.IndexString", "internal/abi.NoEscape"], unfollowed := true, recurses := true, named := ["internal/bytealg.MaxLen"], plainKeys := false, apart := false, narrowed := true }
def BarcodeCountsMatchUptoSaid : Prop := barcodeCountsMatchUptoRow.holds Tryz.pinned (OpenSpec.upto barcodeCountsMatchSpec)

/-- 'toruslaw20.BarcodeExamples', WHERE WHAT IT READS IS OF BULK AT MOST 1048576: true; the input reads as it did. -/
def barcodeExamplesUptoRow : OpenClaim := { program := "ytdcjibjldfjllaagreat", sum := "b7770edf0d50695589752a36f9d46e4db17409df4c3332fc67405336ffa49024", func := "torus/toruslaw20.BarcodeExamples", spec := "barcodeExamples", inPlace := ["internal/bytealg.IndexByteString", "internal/bytealg.IndexString", "internal/abi.NoEscape", "internal/bytealg.MakeNoZero"], unfollowed := true, recurses := true, named := ["internal/bytealg.MaxLen"], plainKeys := false, apart := false, narrowed := true }
def BarcodeExamplesUptoSaid : Prop := barcodeExamplesUptoRow.holds Tryz.pinned (OpenSpec.upto barcodeExamplesSpec)

end Rows
end Go.Proofs.YtdcjibjldfjllaaGreat
