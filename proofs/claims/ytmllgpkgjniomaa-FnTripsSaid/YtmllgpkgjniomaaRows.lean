/-
  No cell of these rows narrows 'for every input' (looked for: loops, veiled, ifaces, maps, wideKeys, modest, calm, conditions, laid).
  DERIVED. THE GIVEN ROWS OF THIS SEAT. 4 by the template 'for every input the law returns true; each argument reads behind the call as it read before'; 0 by the template 'total and deterministic' (their statements: YtmllgpkgjniomaaTotals.lean).
  GIVEN WITH THE SEED: the statements are not yours to turn. If you find one false, say at which input.
  Laid BY PROGRAM, IN A SANDBOX (cutbox-rows.mjs): the forced cells as the released guide's own fill.sh prints them over the translation 11e48f2593308966… (all of the seat's roots in one cut). By AI agents, Wed Nov 11 2026. No macro, syntax, notation, axiom, sorry.
-/
import Derived.Test.YtmllgpkgjniomaaChecked
import GoSem.Claim
import GoSem.ClaimJoined
import GoSem.ClaimMapViews
import Derived.JoinedTies
import Derived.KernelRfl
namespace Go.Proofs.Ytmllgpkgjniomaa
/- THE CELL 'sum', in the pinned program and in every row, IS THE sha256 OF THE DUMP (.gsa) THAT YtmllgpkgjniomaaProg.lean LOADS. Nothing in Lean hashes anything: it is a label: what it is worth is what the hold of that sum in a sandbox is worth. -/
noncomputable def Try.pinned : Pinned := { name := "ytmllgpkgjniomaa", sum := "11e48f2593308966d845168a008d9a2e589a055253ea0b071e1985a42943cfcc", checked := Try.checked }
namespace Rows
def none {H : Type} : Left H := { results := [], args := [] }

/-- 'laws.FnExactLoadGrid': WHATEVER THE INPUT: true; the input reads as it did. -/
def fnExactLoadGridSpec : ChangeSpec := { name := "fnExactLoadGrid", fn := fun _ => fun
  | [d] => { results := [.lit (.bool true)], args := [d] }
  | _ => none }
def fnExactLoadGridRow : OpenClaim := { program := "ytmllgpkgjniomaa", sum := "11e48f2593308966d845168a008d9a2e589a055253ea0b071e1985a42943cfcc", func := "loop.example/g01212/laws.FnExactLoadGrid", spec := "fnExactLoadGrid", inPlace := ["math.Float32frombits", "math.Float32bits", "internal/abi.NoEscape"], unfollowed := true, recurses := true, apart := false }
def FnExactLoadGridSaid : Prop := fnExactLoadGridRow.holds Try.pinned (OpenSpec.ofChange fnExactLoadGridSpec)

/-- ITS FALSE NEIGHBOUR: 'it returns false'. Refute it at one input. -/
def fnExactLoadGridWrong : ChangeSpec := { name := "fnExactLoadGrid", fn := fun _ => fun
  | [d] => { results := [.lit (.bool false)], args := [d] }
  | _ => none }
def FnExactLoadGridWrongFalsely : Prop := fnExactLoadGridRow.holds Try.pinned (OpenSpec.ofChange fnExactLoadGridWrong)

/-- 'laws.FnExactRecoverRecord': WHATEVER THE INPUT: true; the input reads as it did. -/
def fnExactRecoverRecordSpec : ChangeSpec := { name := "fnExactRecoverRecord", fn := fun _ => fun
  | [d] => { results := [.lit (.bool true)], args := [d] }
  | _ => none }
def fnExactRecoverRecordRow : OpenClaim := { program := "ytmllgpkgjniomaa", sum := "11e48f2593308966d845168a008d9a2e589a055253ea0b071e1985a42943cfcc", func := "loop.example/g01212/laws.FnExactRecoverRecord", spec := "fnExactRecoverRecord", inPlace := ["math.Float32frombits", "math.Float32bits", "internal/abi.NoEscape"], unfollowed := true, recurses := true, apart := false }
def FnExactRecoverRecordSaid : Prop := fnExactRecoverRecordRow.holds Try.pinned (OpenSpec.ofChange fnExactRecoverRecordSpec)

/-- ITS FALSE NEIGHBOUR: 'it returns false'. Refute it at one input. -/
def fnExactRecoverRecordWrong : ChangeSpec := { name := "fnExactRecoverRecord", fn := fun _ => fun
  | [d] => { results := [.lit (.bool false)], args := [d] }
  | _ => none }
def FnExactRecoverRecordWrongFalsely : Prop := fnExactRecoverRecordRow.holds Try.pinned (OpenSpec.ofChange fnExactRecoverRecordWrong)

/-- 'laws.FnExactLoadRecord': WHATEVER THE INPUT: true; the input reads as it did. -/
def fnExactLoadRecordSpec : ChangeSpec := { name := "fnExactLoadRecord", fn := fun _ => fun
  | [d] => { results := [.lit (.bool true)], args := [d] }
  | _ => none }
def fnExactLoadRecordRow : OpenClaim := { program := "ytmllgpkgjniomaa", sum := "11e48f2593308966d845168a008d9a2e589a055253ea0b071e1985a42943cfcc", func := "loop.example/g01212/laws.FnExactLoadRecord", spec := "fnExactLoadRecord", inPlace := ["math.Float32frombits", "math.Float32bits", "internal/abi.NoEscape"], unfollowed := true, recurses := true, apart := false }
def FnExactLoadRecordSaid : Prop := fnExactLoadRecordRow.holds Try.pinned (OpenSpec.ofChange fnExactLoadRecordSpec)

/-- ITS FALSE NEIGHBOUR: 'it returns false'. Refute it at one input. -/
def fnExactLoadRecordWrong : ChangeSpec := { name := "fnExactLoadRecord", fn := fun _ => fun
  | [d] => { results := [.lit (.bool false)], args := [d] }
  | _ => none }
def FnExactLoadRecordWrongFalsely : Prop := fnExactLoadRecordRow.holds Try.pinned (OpenSpec.ofChange fnExactLoadRecordWrong)

/-- 'laws.FnTrips': WHATEVER THE INPUT: true; the input reads as it did. -/
def fnTripsSpec : ChangeSpec := { name := "fnTrips", fn := fun _ => fun
  | [d1, d2] => { results := [.lit (.bool true)], args := [d1, d2] }
  | _ => none }
def fnTripsRow : OpenClaim := { program := "ytmllgpkgjniomaa", sum := "11e48f2593308966d845168a008d9a2e589a055253ea0b071e1985a42943cfcc", func := "loop.example/g01212/laws.FnTrips", spec := "fnTrips", inPlace := ["math.Float32frombits", "math.Float64frombits"], unfollowed := true, recurses := true, apart := false }
def FnTripsSaid : Prop := fnTripsRow.holds Try.pinned (OpenSpec.ofChange fnTripsSpec)

/-- ITS FALSE NEIGHBOUR: 'it returns false'. Refute it at one input. -/
def fnTripsWrong : ChangeSpec := { name := "fnTrips", fn := fun _ => fun
  | [d1, d2] => { results := [.lit (.bool false)], args := [d1, d2] }
  | _ => none }
def FnTripsWrongFalsely : Prop := fnTripsRow.holds Try.pinned (OpenSpec.ofChange fnTripsWrong)

/- THE SECOND FORM. 'bulk': how many values and letters a reading holds, each counted each time it is reached (what is shared counts as often as it is met; a slice's spare places count too). A statement '..UptoSaid' is the law's where the arguments, and the package variables that the reading takes, are together of bulk at most 1048576: NARROWER than '..Said'. Prove '..Said' where nothing that the law and all that it calls make is longer than what came in: it says more and counts as full. Else prove '..UptoSaid'. A law counts once. -/
mutual
def uptoBulk {H : Type} : DataW H → Nat
  | .lit (.string bytes) => bytes.length + 1
  | .lit _ => 1
  | .nil => 1
  | .ptr d => uptoBulk d + 1
  | .slice elems spare => uptoBulkAll elems + uptoBulkAll spare + 1
  | .agg parts => uptoBulkAll parts + 1
  | .iface _ d => uptoBulk d + 1
  | .map entries => uptoBulkEntries entries + 1
  | .held _ => 1
def uptoBulkAll {H : Type} : List (DataW H) → Nat
  | [] => 0
  | d :: r => uptoBulk d + uptoBulkAll r
def uptoBulkEntries {H : Type} : List (Lit × DataW H) → Nat
  | [] => 0
  | x :: r => uptoBulkEntry x + uptoBulkEntries r
def uptoBulkEntry {H : Type} : Lit × DataW H → Nat
  | (.string bytes, d) => bytes.length + uptoBulk d + 1
  | (_, d) => uptoBulk d + 1
 end
def uptoSmall : (H : Type) → List (DataW H) → Bool := fun _ ds => decide (uptoBulkAll ds ≤ 1048576)
def OpenSpec.upto (s : _root_.Go.ChangeSpec) : _root_.Go.OpenSpec := { _root_.Go.OpenSpec.ofChange s with cond := some uptoSmall }

/-- 'laws.FnExactLoadGrid', WHERE WHAT IT READS IS OF BULK AT MOST 1048576: true; the input reads as it did. -/
def fnExactLoadGridUptoRow : OpenClaim := { program := "ytmllgpkgjniomaa", sum := "11e48f2593308966d845168a008d9a2e589a055253ea0b071e1985a42943cfcc", func := "loop.example/g01212/laws.FnExactLoadGrid", spec := "fnExactLoadGrid", inPlace := ["math.Float32frombits", "math.Float32bits", "internal/abi.NoEscape"], unfollowed := true, recurses := true, apart := false, narrowed := true }
def FnExactLoadGridUptoSaid : Prop := fnExactLoadGridUptoRow.holds Try.pinned (OpenSpec.upto fnExactLoadGridSpec)

/-- 'laws.FnExactRecoverRecord', WHERE WHAT IT READS IS OF BULK AT MOST 1048576: true; the input reads as it did. -/
def fnExactRecoverRecordUptoRow : OpenClaim := { program := "ytmllgpkgjniomaa", sum := "11e48f2593308966d845168a008d9a2e589a055253ea0b071e1985a42943cfcc", func := "loop.example/g01212/laws.FnExactRecoverRecord", spec := "fnExactRecoverRecord", inPlace := ["math.Float32frombits", "math.Float32bits", "internal/abi.NoEscape"], unfollowed := true, recurses := true, apart := false, narrowed := true }
def FnExactRecoverRecordUptoSaid : Prop := fnExactRecoverRecordUptoRow.holds Try.pinned (OpenSpec.upto fnExactRecoverRecordSpec)

/-- 'laws.FnExactLoadRecord', WHERE WHAT IT READS IS OF BULK AT MOST 1048576: true; the input reads as it did. -/
def fnExactLoadRecordUptoRow : OpenClaim := { program := "ytmllgpkgjniomaa", sum := "11e48f2593308966d845168a008d9a2e589a055253ea0b071e1985a42943cfcc", func := "loop.example/g01212/laws.FnExactLoadRecord", spec := "fnExactLoadRecord", inPlace := ["math.Float32frombits", "math.Float32bits", "internal/abi.NoEscape"], unfollowed := true, recurses := true, apart := false, narrowed := true }
def FnExactLoadRecordUptoSaid : Prop := fnExactLoadRecordUptoRow.holds Try.pinned (OpenSpec.upto fnExactLoadRecordSpec)

/-- 'laws.FnTrips', WHERE WHAT IT READS IS OF BULK AT MOST 1048576: true; the input reads as it did. -/
def fnTripsUptoRow : OpenClaim := { program := "ytmllgpkgjniomaa", sum := "11e48f2593308966d845168a008d9a2e589a055253ea0b071e1985a42943cfcc", func := "loop.example/g01212/laws.FnTrips", spec := "fnTrips", inPlace := ["math.Float32frombits", "math.Float64frombits"], unfollowed := true, recurses := true, apart := false, narrowed := true }
def FnTripsUptoSaid : Prop := fnTripsUptoRow.holds Try.pinned (OpenSpec.upto fnTripsSpec)

end Rows
end Go.Proofs.Ytmllgpkgjniomaa
