/-
  No cell of these rows narrows 'for every input' (looked for: loops, veiled, ifaces, maps, wideKeys, modest, calm, conditions, laid).
  DERIVED. THE GIVEN ROWS OF THIS SEAT. 5 by the template 'for every input the law returns true; each argument reads behind the call as it read before'; 0 by the template 'total and deterministic' (their statements: YtolggocnbakokaaTotals.lean).
  GIVEN WITH THE SEED: the statements are not yours to turn. If you find one false, say at which input.
  Laid BY PROGRAM, IN A SANDBOX (cutbox-rows.mjs): the forced cells as the released guide's own fill.sh prints them over the translation 792f7c436c909b69… (all of the seat's roots in one cut). By AI agents, Wed Nov 11 2026. No macro, syntax, notation, axiom, sorry.
-/
import Derived.Test.YtolggocnbakokaaChecked
import GoSem.Claim
import GoSem.ClaimJoined
import GoSem.ClaimMapViews
import Derived.JoinedTies
import Derived.KernelRfl
namespace Go.Proofs.Ytolggocnbakokaa
/- THE CELL 'sum', in the pinned program and in every row, IS THE sha256 OF THE DUMP (.gsa) THAT YtolggocnbakokaaProg.lean LOADS. Nothing in Lean hashes anything: it is a label: what it is worth is what the hold of that sum in a sandbox is worth. -/
noncomputable def Try.pinned : Pinned := { name := "ytolggocnbakokaa", sum := "792f7c436c909b69fdf82c25b4d09879517bd82067dfd3eaa2473dafe0aaba56", checked := Try.checked }
namespace Rows
def none {H : Type} : Left H := { results := [], args := [] }

/-- 'laws.FnDots': WHATEVER THE INPUT: true; the input reads as it did. -/
def fnDotsSpec : ChangeSpec := { name := "fnDots", fn := fun _ => fun
  | [d1, d2] => { results := [.lit (.bool true)], args := [d1, d2] }
  | _ => none }
def fnDotsRow : OpenClaim := { program := "ytolggocnbakokaa", sum := "792f7c436c909b69fdf82c25b4d09879517bd82067dfd3eaa2473dafe0aaba56", func := "loop.example/g01212/laws.FnDots", spec := "fnDots", inPlace := ["math.Float32frombits", "math.Float32bits"], apart := false }
def FnDotsSaid : Prop := fnDotsRow.holds Try.pinned (OpenSpec.ofChange fnDotsSpec)

/-- ITS FALSE NEIGHBOUR: 'it returns false'. Refute it at one input. -/
def fnDotsWrong : ChangeSpec := { name := "fnDots", fn := fun _ => fun
  | [d1, d2] => { results := [.lit (.bool false)], args := [d1, d2] }
  | _ => none }
def FnDotsWrongFalsely : Prop := fnDotsRow.holds Try.pinned (OpenSpec.ofChange fnDotsWrong)

/-- 'laws.FnMeters': WHATEVER THE INPUT: true; the input reads as it did. -/
def fnMetersSpec : ChangeSpec := { name := "fnMeters", fn := fun _ => fun
  | [d1, d2] => { results := [.lit (.bool true)], args := [d1, d2] }
  | _ => none }
def fnMetersRow : OpenClaim := { program := "ytolggocnbakokaa", sum := "792f7c436c909b69fdf82c25b4d09879517bd82067dfd3eaa2473dafe0aaba56", func := "loop.example/g01212/laws.FnMeters", spec := "fnMeters", unfollowed := true, recurses := true, apart := false }
def FnMetersSaid : Prop := fnMetersRow.holds Try.pinned (OpenSpec.ofChange fnMetersSpec)

/-- ITS FALSE NEIGHBOUR: 'it returns false'. Refute it at one input. -/
def fnMetersWrong : ChangeSpec := { name := "fnMeters", fn := fun _ => fun
  | [d1, d2] => { results := [.lit (.bool false)], args := [d1, d2] }
  | _ => none }
def FnMetersWrongFalsely : Prop := fnMetersRow.holds Try.pinned (OpenSpec.ofChange fnMetersWrong)

/-- 'laws.FnCurves': WHATEVER THE INPUT: true; the input reads as it did. -/
def fnCurvesSpec : ChangeSpec := { name := "fnCurves", fn := fun _ => fun
  | [d1, d2] => { results := [.lit (.bool true)], args := [d1, d2] }
  | _ => none }
def fnCurvesRow : OpenClaim := { program := "ytolggocnbakokaa", sum := "792f7c436c909b69fdf82c25b4d09879517bd82067dfd3eaa2473dafe0aaba56", func := "loop.example/g01212/laws.FnCurves", spec := "fnCurves", inPlace := ["math.Float32bits"], unfollowed := true, recurses := true, apart := false }
def FnCurvesSaid : Prop := fnCurvesRow.holds Try.pinned (OpenSpec.ofChange fnCurvesSpec)

/-- ITS FALSE NEIGHBOUR: 'it returns false'. Refute it at one input. -/
def fnCurvesWrong : ChangeSpec := { name := "fnCurves", fn := fun _ => fun
  | [d1, d2] => { results := [.lit (.bool false)], args := [d1, d2] }
  | _ => none }
def FnCurvesWrongFalsely : Prop := fnCurvesRow.holds Try.pinned (OpenSpec.ofChange fnCurvesWrong)

/-- 'laws.FnSummed': WHATEVER THE INPUT: true; the input reads as it did. -/
def fnSummedSpec : ChangeSpec := { name := "fnSummed", fn := fun _ => fun
  | [d1, d2] => { results := [.lit (.bool true)], args := [d1, d2] }
  | _ => none }
def fnSummedRow : OpenClaim := { program := "ytolggocnbakokaa", sum := "792f7c436c909b69fdf82c25b4d09879517bd82067dfd3eaa2473dafe0aaba56", func := "loop.example/g01212/laws.FnSummed", spec := "fnSummed", inPlace := ["math.Float32frombits", "math.Float64frombits"], unfollowed := true, recurses := true, apart := false }
def FnSummedSaid : Prop := fnSummedRow.holds Try.pinned (OpenSpec.ofChange fnSummedSpec)

/-- ITS FALSE NEIGHBOUR: 'it returns false'. Refute it at one input. -/
def fnSummedWrong : ChangeSpec := { name := "fnSummed", fn := fun _ => fun
  | [d1, d2] => { results := [.lit (.bool false)], args := [d1, d2] }
  | _ => none }
def FnSummedWrongFalsely : Prop := fnSummedRow.holds Try.pinned (OpenSpec.ofChange fnSummedWrong)

/-- 'laws.FnExactFlowOfBytes': WHATEVER THE INPUT: true; the input reads as it did. -/
def fnExactFlowOfBytesSpec : ChangeSpec := { name := "fnExactFlowOfBytes", fn := fun _ => fun
  | [d1, d2] => { results := [.lit (.bool true)], args := [d1, d2] }
  | _ => none }
def fnExactFlowOfBytesRow : OpenClaim := { program := "ytolggocnbakokaa", sum := "792f7c436c909b69fdf82c25b4d09879517bd82067dfd3eaa2473dafe0aaba56", func := "loop.example/g01212/laws.FnExactFlowOfBytes", spec := "fnExactFlowOfBytes", inPlace := ["math.Float32frombits", "math.Float32bits", "internal/abi.NoEscape"], apart := false }
def FnExactFlowOfBytesSaid : Prop := fnExactFlowOfBytesRow.holds Try.pinned (OpenSpec.ofChange fnExactFlowOfBytesSpec)

/-- ITS FALSE NEIGHBOUR: 'it returns false'. Refute it at one input. -/
def fnExactFlowOfBytesWrong : ChangeSpec := { name := "fnExactFlowOfBytes", fn := fun _ => fun
  | [d1, d2] => { results := [.lit (.bool false)], args := [d1, d2] }
  | _ => none }
def FnExactFlowOfBytesWrongFalsely : Prop := fnExactFlowOfBytesRow.holds Try.pinned (OpenSpec.ofChange fnExactFlowOfBytesWrong)

/- THE SECOND FORM. 'bulk': how many values and letters a reading holds, each counted each time it is reached (what is shared counts as often as it is met; a slice's spare places count too). A statement '..UptoSaid' is the law's where the arguments, and the package variables that the reading takes, are together of bulk at most 1048576: NARROWER than '..Said'. Prove '..Said' where nothing that the law and all that it calls make is longer than what came in: it says more and counts as full. Else prove '..UptoSaid'. A law counts once. -/
mutual
def uptoBulk {H : Type} : DataW H → Nat
  | .lit (.string bytes) => bytes.length + 1
  | .lit _ => 1
  | .nil => 1
  | .ptr d => uptoBulk d + 1
  | .slice elems spare => uptoBulkAll elems + uptoBulkAll spare + 1
  | .agg parts => uptoBulkAll parts + 1
  | .iface _ d => uptoBulk d + 1
  | .map entries => uptoBulkEntries entries + 1
  | .held _ => 1
def uptoBulkAll {H : Type} : List (DataW H) → Nat
  | [] => 0
  | d :: r => uptoBulk d + uptoBulkAll r
def uptoBulkEntries {H : Type} : List (Lit × DataW H) → Nat
  | [] => 0
  | x :: r => uptoBulkEntry x + uptoBulkEntries r
def uptoBulkEntry {H : Type} : Lit × DataW H → Nat
  | (.string bytes, d) => bytes.length + uptoBulk d + 1
  | (_, d) => uptoBulk d + 1
 end
def uptoSmall : (H : Type) → List (DataW H) → Bool := fun _ ds => decide (uptoBulkAll ds ≤ 1048576)
def OpenSpec.upto (s : _root_.Go.ChangeSpec) : _root_.Go.OpenSpec := { _root_.Go.OpenSpec.ofChange s with cond := some uptoSmall }

/-- 'laws.FnDots', WHERE WHAT IT READS IS OF BULK AT MOST 1048576: true; the input reads as it did. -/
def fnDotsUptoRow : OpenClaim := { program := "ytolggocnbakokaa", sum := "792f7c436c909b69fdf82c25b4d09879517bd82067dfd3eaa2473dafe0aaba56", func := "loop.example/g01212/laws.FnDots", spec := "fnDots", inPlace := ["math.Float32frombits", "math.Float32bits"], apart := false, narrowed := true }
def FnDotsUptoSaid : Prop := fnDotsUptoRow.holds Try.pinned (OpenSpec.upto fnDotsSpec)

/-- 'laws.FnMeters', WHERE WHAT IT READS IS OF BULK AT MOST 1048576: true; the input reads as it did. -/
def fnMetersUptoRow : OpenClaim := { program := "ytolggocnbakokaa", sum := "792f7c436c909b69fdf82c25b4d09879517bd82067dfd3eaa2473dafe0aaba56", func := "loop.example/g01212/laws.FnMeters", spec := "fnMeters", unfollowed := true, recurses := true, apart := false, narrowed := true }
def FnMetersUptoSaid : Prop := fnMetersUptoRow.holds Try.pinned (OpenSpec.upto fnMetersSpec)

/-- 'laws.FnCurves', WHERE WHAT IT READS IS OF BULK AT MOST 1048576: true; the input reads as it did. -/
def fnCurvesUptoRow : OpenClaim := { program := "ytolggocnbakokaa", sum := "792f7c436c909b69fdf82c25b4d09879517bd82067dfd3eaa2473dafe0aaba56", func := "loop.example/g01212/laws.FnCurves", spec := "fnCurves", inPlace := ["math.Float32bits"], unfollowed := true, recurses := true, apart := false, narrowed := true }
def FnCurvesUptoSaid : Prop := fnCurvesUptoRow.holds Try.pinned (OpenSpec.upto fnCurvesSpec)

/-- 'laws.FnSummed', WHERE WHAT IT READS IS OF BULK AT MOST 1048576: true; the input reads as it did. -/
def fnSummedUptoRow : OpenClaim := { program := "ytolggocnbakokaa", sum := "792f7c436c909b69fdf82c25b4d09879517bd82067dfd3eaa2473dafe0aaba56", func := "loop.example/g01212/laws.FnSummed", spec := "fnSummed", inPlace := ["math.Float32frombits", "math.Float64frombits"], unfollowed := true, recurses := true, apart := false, narrowed := true }
def FnSummedUptoSaid : Prop := fnSummedUptoRow.holds Try.pinned (OpenSpec.upto fnSummedSpec)

/-- 'laws.FnExactFlowOfBytes', WHERE WHAT IT READS IS OF BULK AT MOST 1048576: true; the input reads as it did. -/
def fnExactFlowOfBytesUptoRow : OpenClaim := { program := "ytolggocnbakokaa", sum := "792f7c436c909b69fdf82c25b4d09879517bd82067dfd3eaa2473dafe0aaba56", func := "loop.example/g01212/laws.FnExactFlowOfBytes", spec := "fnExactFlowOfBytes", inPlace := ["math.Float32frombits", "math.Float32bits", "internal/abi.NoEscape"], apart := false, narrowed := true }
def FnExactFlowOfBytesUptoSaid : Prop := fnExactFlowOfBytesUptoRow.holds Try.pinned (OpenSpec.upto fnExactFlowOfBytesSpec)

end Rows
end Go.Proofs.Ytolggocnbakokaa
