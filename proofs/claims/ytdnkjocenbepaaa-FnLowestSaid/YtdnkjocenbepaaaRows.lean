/-
  No cell of these rows narrows 'for every input' (looked for: loops, veiled, ifaces, maps, wideKeys, modest, calm, conditions, laid).
  DERIVED. THE GIVEN ROWS OF THIS SEAT. 5 by the template 'for every input the law returns true; each argument reads behind the call as it read before'; 0 by the template 'total and deterministic' (their statements: YtdnkjocenbepaaaTotals.lean).
  GIVEN WITH THE SEED: the statements are not yours to turn. If you find one false, say at which input.
  Laid BY PROGRAM, IN A SANDBOX (cutbox-rows.mjs): the forced cells as the released guide's own fill.sh prints them over the translation 17efa1925f50c9fc… (all of the seat's roots in one cut). By AI agents, Wed Nov 11 2026. No macro, syntax, notation, axiom, sorry.
-/
import Derived.Test.YtdnkjocenbepaaaChecked
import GoSem.Claim
import GoSem.ClaimJoined
import GoSem.ClaimMapViews
import Derived.JoinedTies
import Derived.KernelRfl
namespace Go.Proofs.Ytdnkjocenbepaaa
/- THE CELL 'sum', in the pinned program and in every row, IS THE sha256 OF THE DUMP (.gsa) THAT YtdnkjocenbepaaaProg.lean LOADS. Nothing in Lean hashes anything: it is a label: what it is worth is what the hold of that sum in a sandbox is worth. -/
noncomputable def Try.pinned : Pinned := { name := "ytdnkjocenbepaaa", sum := "17efa1925f50c9fc7910ea6c376b381168508ce973cd0b4b35b6f160fbc1ba8b", checked := Try.checked }
namespace Rows
def none {H : Type} : Left H := { results := [], args := [] }

/-- 'laws.FnBanks': WHATEVER THE INPUT: true; the input reads as it did. -/
def fnBanksSpec : ChangeSpec := { name := "fnBanks", fn := fun _ => fun
  | [d1, d2] => { results := [.lit (.bool true)], args := [d1, d2] }
  | _ => none }
def fnBanksRow : OpenClaim := { program := "ytdnkjocenbepaaa", sum := "17efa1925f50c9fc7910ea6c376b381168508ce973cd0b4b35b6f160fbc1ba8b", func := "loop.example/g01212/laws.FnBanks", spec := "fnBanks", inPlace := ["math.Float32frombits", "math.Float64frombits", "math.sqrt"], unfollowed := true, recurses := true, apart := false }
def FnBanksSaid : Prop := fnBanksRow.holds Try.pinned (OpenSpec.ofChange fnBanksSpec)

/-- ITS FALSE NEIGHBOUR: 'it returns false'. Refute it at one input. -/
def fnBanksWrong : ChangeSpec := { name := "fnBanks", fn := fun _ => fun
  | [d1, d2] => { results := [.lit (.bool false)], args := [d1, d2] }
  | _ => none }
def FnBanksWrongFalsely : Prop := fnBanksRow.holds Try.pinned (OpenSpec.ofChange fnBanksWrong)

/-- 'laws.FnCommon': WHATEVER THE INPUT: true; the input reads as it did. -/
def fnCommonSpec : ChangeSpec := { name := "fnCommon", fn := fun _ => fun
  | [d1, d2] => { results := [.lit (.bool true)], args := [d1, d2] }
  | _ => none }
def fnCommonRow : OpenClaim := { program := "ytdnkjocenbepaaa", sum := "17efa1925f50c9fc7910ea6c376b381168508ce973cd0b4b35b6f160fbc1ba8b", func := "loop.example/g01212/laws.FnCommon", spec := "fnCommon", inPlace := ["math.Float32frombits", "math.Float64frombits", "math.Float64bits", "math.archTrunc", "math.sqrt", "math.Float32bits"], unfollowed := true, recurses := true, apart := false }
def FnCommonSaid : Prop := fnCommonRow.holds Try.pinned (OpenSpec.ofChange fnCommonSpec)

/-- ITS FALSE NEIGHBOUR: 'it returns false'. Refute it at one input. -/
def fnCommonWrong : ChangeSpec := { name := "fnCommon", fn := fun _ => fun
  | [d1, d2] => { results := [.lit (.bool false)], args := [d1, d2] }
  | _ => none }
def FnCommonWrongFalsely : Prop := fnCommonRow.holds Try.pinned (OpenSpec.ofChange fnCommonWrong)

/-- 'laws.FnLowest': WHATEVER THE INPUT: true; the input reads as it did. -/
def fnLowestSpec : ChangeSpec := { name := "fnLowest", fn := fun _ => fun
  | [d1, d2] => { results := [.lit (.bool true)], args := [d1, d2] }
  | _ => none }
def fnLowestRow : OpenClaim := { program := "ytdnkjocenbepaaa", sum := "17efa1925f50c9fc7910ea6c376b381168508ce973cd0b4b35b6f160fbc1ba8b", func := "loop.example/g01212/laws.FnLowest", spec := "fnLowest", inPlace := ["math.Float32frombits", "math.Float64frombits", "math.sqrt"], unfollowed := true, recurses := true, apart := false }
def FnLowestSaid : Prop := fnLowestRow.holds Try.pinned (OpenSpec.ofChange fnLowestSpec)

/-- ITS FALSE NEIGHBOUR: 'it returns false'. Refute it at one input. -/
def fnLowestWrong : ChangeSpec := { name := "fnLowest", fn := fun _ => fun
  | [d1, d2] => { results := [.lit (.bool false)], args := [d1, d2] }
  | _ => none }
def FnLowestWrongFalsely : Prop := fnLowestRow.holds Try.pinned (OpenSpec.ofChange fnLowestWrong)

/-- 'laws.FnAuto': WHATEVER THE INPUT: true; the input reads as it did. -/
def fnAutoSpec : ChangeSpec := { name := "fnAuto", fn := fun _ => fun
  | [d1, d2] => { results := [.lit (.bool true)], args := [d1, d2] }
  | _ => none }
def fnAutoRow : OpenClaim := { program := "ytdnkjocenbepaaa", sum := "17efa1925f50c9fc7910ea6c376b381168508ce973cd0b4b35b6f160fbc1ba8b", func := "loop.example/g01212/laws.FnAuto", spec := "fnAuto", inPlace := ["math.Float32frombits", "math.Float64frombits", "math.sqrt", "math.Float32bits"], unfollowed := true, recurses := true, apart := false }
def FnAutoSaid : Prop := fnAutoRow.holds Try.pinned (OpenSpec.ofChange fnAutoSpec)

/-- ITS FALSE NEIGHBOUR: 'it returns false'. Refute it at one input. -/
def fnAutoWrong : ChangeSpec := { name := "fnAuto", fn := fun _ => fun
  | [d1, d2] => { results := [.lit (.bool false)], args := [d1, d2] }
  | _ => none }
def FnAutoWrongFalsely : Prop := fnAutoRow.holds Try.pinned (OpenSpec.ofChange fnAutoWrong)

/-- 'laws.FnFaults': WHATEVER THE INPUT: true; the input reads as it did. -/
def fnFaultsSpec : ChangeSpec := { name := "fnFaults", fn := fun _ => fun
  | [d1, d2] => { results := [.lit (.bool true)], args := [d1, d2] }
  | _ => none }
def fnFaultsRow : OpenClaim := { program := "ytdnkjocenbepaaa", sum := "17efa1925f50c9fc7910ea6c376b381168508ce973cd0b4b35b6f160fbc1ba8b", func := "loop.example/g01212/laws.FnFaults", spec := "fnFaults", inPlace := ["math.Float32frombits", "math.Float64frombits", "math.Float64bits", "math.archTrunc", "math.sqrt", "math.Float32bits"], unfollowed := true, recurses := true, apart := false }
def FnFaultsSaid : Prop := fnFaultsRow.holds Try.pinned (OpenSpec.ofChange fnFaultsSpec)

/-- ITS FALSE NEIGHBOUR: 'it returns false'. Refute it at one input. -/
def fnFaultsWrong : ChangeSpec := { name := "fnFaults", fn := fun _ => fun
  | [d1, d2] => { results := [.lit (.bool false)], args := [d1, d2] }
  | _ => none }
def FnFaultsWrongFalsely : Prop := fnFaultsRow.holds Try.pinned (OpenSpec.ofChange fnFaultsWrong)

/- THE SECOND FORM. 'bulk': how many values and letters a reading holds, each counted each time it is reached (what is shared counts as often as it is met; a slice's spare places count too). A statement '..UptoSaid' is the law's where the arguments, and the package variables that the reading takes, are together of bulk at most 1048576: NARROWER than '..Said'. Prove '..Said' where nothing that the law and all that it calls make is longer than what came in: it says more and counts as full. Else prove '..UptoSaid'. A law counts once. -/
mutual
def uptoBulk {H : Type} : DataW H → Nat
  | .lit (.string bytes) => bytes.length + 1
  | .lit _ => 1
  | .nil => 1
  | .ptr d => uptoBulk d + 1
  | .slice elems spare => uptoBulkAll elems + uptoBulkAll spare + 1
  | .agg parts => uptoBulkAll parts + 1
  | .iface _ d => uptoBulk d + 1
  | .map entries => uptoBulkEntries entries + 1
  | .held _ => 1
def uptoBulkAll {H : Type} : List (DataW H) → Nat
  | [] => 0
  | d :: r => uptoBulk d + uptoBulkAll r
def uptoBulkEntries {H : Type} : List (Lit × DataW H) → Nat
  | [] => 0
  | x :: r => uptoBulkEntry x + uptoBulkEntries r
def uptoBulkEntry {H : Type} : Lit × DataW H → Nat
  | (.string bytes, d) => bytes.length + uptoBulk d + 1
  | (_, d) => uptoBulk d + 1
 end
def uptoSmall : (H : Type) → List (DataW H) → Bool := fun _ ds => decide (uptoBulkAll ds ≤ 1048576)
def OpenSpec.upto (s : _root_.Go.ChangeSpec) : _root_.Go.OpenSpec := { _root_.Go.OpenSpec.ofChange s with cond := some uptoSmall }

/-- 'laws.FnBanks', WHERE WHAT IT READS IS OF BULK AT MOST 1048576: true; the input reads as it did. -/
def fnBanksUptoRow : OpenClaim := { program := "ytdnkjocenbepaaa", sum := "17efa1925f50c9fc7910ea6c376b381168508ce973cd0b4b35b6f160fbc1ba8b", func := "loop.example/g01212/laws.FnBanks", spec := "fnBanks", inPlace := ["math.Float32frombits", "math.Float64frombits", "math.sqrt"], unfollowed := true, recurses := true, apart := false, narrowed := true }
def FnBanksUptoSaid : Prop := fnBanksUptoRow.holds Try.pinned (OpenSpec.upto fnBanksSpec)

/-- 'laws.FnCommon', WHERE WHAT IT READS IS OF BULK AT MOST 1048576: true; the input reads as it did. -/
def fnCommonUptoRow : OpenClaim := { program := "ytdnkjocenbepaaa", sum := "17efa1925f50c9fc7910ea6c376b381168508ce973cd0b4b35b6f160fbc1ba8b", func := "loop.example/g01212/laws.FnCommon", spec := "fnCommon", inPlace := ["math.Float32frombits", "math.Float64frombits", "math.Float64bits", "math.archTrunc", "math.sqrt", "math.Float32bits"], unfollowed := true, recurses := true, apart := false, narrowed := true }
def FnCommonUptoSaid : Prop := fnCommonUptoRow.holds Try.pinned (OpenSpec.upto fnCommonSpec)

/-- 'laws.FnLowest', WHERE WHAT IT READS IS OF BULK AT MOST 1048576: true; the input reads as it did. -/
def fnLowestUptoRow : OpenClaim := { program := "ytdnkjocenbepaaa", sum := "17efa1925f50c9fc7910ea6c376b381168508ce973cd0b4b35b6f160fbc1ba8b", func := "loop.example/g01212/laws.FnLowest", spec := "fnLowest", inPlace := ["math.Float32frombits", "math.Float64frombits", "math.sqrt"], unfollowed := true, recurses := true, apart := false, narrowed := true }
def FnLowestUptoSaid : Prop := fnLowestUptoRow.holds Try.pinned (OpenSpec.upto fnLowestSpec)

/-- 'laws.FnAuto', WHERE WHAT IT READS IS OF BULK AT MOST 1048576: true; the input reads as it did. -/
def fnAutoUptoRow : OpenClaim := { program := "ytdnkjocenbepaaa", sum := "17efa1925f50c9fc7910ea6c376b381168508ce973cd0b4b35b6f160fbc1ba8b", func := "loop.example/g01212/laws.FnAuto", spec := "fnAuto", inPlace := ["math.Float32frombits", "math.Float64frombits", "math.sqrt", "math.Float32bits"], unfollowed := true, recurses := true, apart := false, narrowed := true }
def FnAutoUptoSaid : Prop := fnAutoUptoRow.holds Try.pinned (OpenSpec.upto fnAutoSpec)

/-- 'laws.FnFaults', WHERE WHAT IT READS IS OF BULK AT MOST 1048576: true; the input reads as it did. -/
def fnFaultsUptoRow : OpenClaim := { program := "ytdnkjocenbepaaa", sum := "17efa1925f50c9fc7910ea6c376b381168508ce973cd0b4b35b6f160fbc1ba8b", func := "loop.example/g01212/laws.FnFaults", spec := "fnFaults", inPlace := ["math.Float32frombits", "math.Float64frombits", "math.Float64bits", "math.archTrunc", "math.sqrt", "math.Float32bits"], unfollowed := true, recurses := true, apart := false, narrowed := true }
def FnFaultsUptoSaid : Prop := fnFaultsUptoRow.holds Try.pinned (OpenSpec.upto fnFaultsSpec)

end Rows
end Go.Proofs.Ytdnkjocenbepaaa
