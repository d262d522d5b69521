/- The types of the program, as the calculus reads them. -/
import Derived.Test.YtolggocnbakokaaProg
import Derived.KernelRfl
import Derived.Test.YtolggocnbakokaaCalcB
import Derived.Test.YtolggocnbakokaaCalcC
import Derived.Shelf.Strings.Builder1
import Derived.Lib.Builder
import Derived.Lib.AppendStr
import Derived.BigCall
import Derived.Lib.OthersKept
import Derived.Lib.OwnKind
import Derived.LoopTactic
import Derived.Deep.RegionHeld3
set_option linter.unusedVariables false
set_option linter.unusedSimpArgs false
set_option linter.unusedSectionVars false
namespace Go.Proofs.Ytolggocnbakokaa.AWN
open Go Go.Proofs.Try
def TiOk (t : TypeId) (td : TD) : Prop := prog.underlying t = some td.desc ∧ ∃ i, prog.info? t = some i ∧ i.size = td.size ∧ i.bytes = td.bytes ∧ i.zero = some td.zero
theorem tiOk {t : TypeId} {td : TD} (h : prog.underlying t = some td.desc) (h' : (prog.info? t).map (fun i => (i.size, i.bytes, i.zero)) = some (td.size, td.bytes, some td.zero)) : TiOk t td := by
  refine ⟨h, ?_⟩
  cases hi : prog.info? t with
  | none => rw [hi] at h'; cases h'
  | some i =>
    rw [hi] at h'
    simp only [Option.map_some, Option.some.injEq, Prod.mk.injEq] at h'
    exact ⟨i, rfl, h'.1, h'.2.1, h'.2.2⟩

theorem ti1 : (prog.info? 1).map (fun i => (i.size, i.bytes, i.zero)) = some (1, 8, some (.nilFunc)) := by kernel_rfl
theorem ti2 : (prog.info? 2).map (fun i => (i.size, i.bytes, i.zero)) = some (1, 8, some (.int .i64 0)) := by kernel_rfl
theorem ti3 : (prog.info? 3).map (fun i => (i.size, i.bytes, i.zero)) = some (1, 8, some (.int .i64 0)) := by kernel_rfl
theorem ti4 : (prog.info? 4).map (fun i => (i.size, i.bytes, i.zero)) = some (1, 1, some (.bool false)) := by kernel_rfl
theorem ti5 : (prog.info? 5).map (fun i => (i.size, i.bytes, i.zero)) = some (1, 1, some (.int .u8 0)) := by kernel_rfl
theorem ti6 : (prog.info? 6).map (fun i => (i.size, i.bytes, i.zero)) = some (1, 1, some (.int .u8 0)) := by kernel_rfl
theorem ti7 : (prog.info? 7).map (fun i => (i.size, i.bytes, i.zero)) = some (4, 24, some (.agg #[.int .i64 0, .int .i64 0, .bool false, .int .u8 0])) := by kernel_rfl
theorem ti8 : (prog.info? 8).map (fun i => (i.size, i.bytes, i.zero)) = some (4, 24, some (.agg #[.int .i64 0, .int .i64 0, .bool false, .int .u8 0])) := by kernel_rfl
theorem ti9 : (prog.info? 9).map (fun i => (i.size, i.bytes, i.zero)) = some (1, 16, some (.string ⟨#[]⟩)) := by kernel_rfl
theorem ti10 : (prog.info? 10).map (fun i => (i.size, i.bytes, i.zero)) = some (1, 16, some (.string ⟨#[]⟩)) := by kernel_rfl
theorem ti11 : (prog.info? 11).map (fun i => (i.size, i.bytes, i.zero)) = some (1, 16, some (.string ⟨#[]⟩)) := by kernel_rfl
theorem ti12 : (prog.info? 12).map (fun i => (i.size, i.bytes, i.zero)) = some (1, 8, some (.int .u64 0)) := by kernel_rfl
theorem ti13 : (prog.info? 13).map (fun i => (i.size, i.bytes, i.zero)) = some (2, 24, some (.agg #[.string ⟨#[]⟩, .int .u64 0])) := by kernel_rfl
theorem ti14 : (prog.info? 14).map (fun i => (i.size, i.bytes, i.zero)) = some (2, 24, some (.agg #[.string ⟨#[]⟩, .int .u64 0])) := by kernel_rfl
theorem ti15 : (prog.info? 15).map (fun i => (i.size, i.bytes, i.zero)) = some (1, 8, some (.pointer none)) := by kernel_rfl
theorem ti16 : (prog.info? 16).map (fun i => (i.size, i.bytes, i.zero)) = some (1, 8, some (.pointer none)) := by kernel_rfl
theorem ti17 : (prog.info? 17).map (fun i => (i.size, i.bytes, i.zero)) = some (1, 8, some (.pointer none)) := by kernel_rfl
theorem ti18 : (prog.info? 18).map (fun i => (i.size, i.bytes, i.zero)) = some (1, 8, some (.agg #[.pointer none])) := by kernel_rfl
theorem ti19 : (prog.info? 19).map (fun i => (i.size, i.bytes, i.zero)) = some (1, 8, some (.agg #[.pointer none])) := by kernel_rfl
theorem ti21 : (prog.info? 21).map (fun i => (i.size, i.bytes, i.zero)) = some (1, 4, some (.int .i32 0)) := by kernel_rfl
theorem ti22 : (prog.info? 22).map (fun i => (i.size, i.bytes, i.zero)) = some (1, 24, some (.slice none 0 0)) := by kernel_rfl
theorem ti23 : (prog.info? 23).map (fun i => (i.size, i.bytes, i.zero)) = some (1, 8, some (.nilFunc)) := by kernel_rfl
theorem ti24 : (prog.info? 24).map (fun i => (i.size, i.bytes, i.zero)) = some (1, 8, some (.nilFunc)) := by kernel_rfl
theorem ti25 : (prog.info? 25).map (fun i => (i.size, i.bytes, i.zero)) = some (1, 24, some (.slice none 0 0)) := by kernel_rfl
theorem ti26 : (prog.info? 26).map (fun i => (i.size, i.bytes, i.zero)) = some (1, 8, some (.nilFunc)) := by kernel_rfl
theorem ti27 : (prog.info? 27).map (fun i => (i.size, i.bytes, i.zero)) = some (1, 8, some (.complex .f32 0 0)) := by kernel_rfl
theorem ti28 : (prog.info? 28).map (fun i => (i.size, i.bytes, i.zero)) = some (1, 8, some (.nilFunc)) := by kernel_rfl
theorem ti29 : (prog.info? 29).map (fun i => (i.size, i.bytes, i.zero)) = some (1, 8, some (.nilFunc)) := by kernel_rfl
theorem ti31 : (prog.info? 31).map (fun i => (i.size, i.bytes, i.zero)) = some (1, 8, some (.nilFunc)) := by kernel_rfl
theorem ti32 : (prog.info? 32).map (fun i => (i.size, i.bytes, i.zero)) = some (1, 8, some (.nilFunc)) := by kernel_rfl
theorem ti33 : (prog.info? 33).map (fun i => (i.size, i.bytes, i.zero)) = some (1, 8, some (.nilFunc)) := by kernel_rfl
theorem ti34 : (prog.info? 34).map (fun i => (i.size, i.bytes, i.zero)) = some (1, 4, some (.float .f32 0)) := by kernel_rfl
theorem ti36 : (prog.info? 36).map (fun i => (i.size, i.bytes, i.zero)) = some (1, 8, some (.nilFunc)) := by kernel_rfl
theorem ti37 : (prog.info? 37).map (fun i => (i.size, i.bytes, i.zero)) = some (1, 8, some (.nilFunc)) := by kernel_rfl
theorem ti38 : (prog.info? 38).map (fun i => (i.size, i.bytes, i.zero)) = some (1, 24, some (.slice none 0 0)) := by kernel_rfl
theorem ti39 : (prog.info? 39).map (fun i => (i.size, i.bytes, i.zero)) = some (2, 32, some (.agg #[.int .i64 0, .slice none 0 0])) := by kernel_rfl
theorem ti40 : (prog.info? 40).map (fun i => (i.size, i.bytes, i.zero)) = some (2, 32, some (.agg #[.int .i64 0, .slice none 0 0])) := by kernel_rfl
theorem ti41 : (prog.info? 41).map (fun i => (i.size, i.bytes, i.zero)) = some (1, 8, some (.nilFunc)) := by kernel_rfl
theorem ti43 : (prog.info? 43).map (fun i => (i.size, i.bytes, i.zero)) = some (1, 8, some (.nilFunc)) := by kernel_rfl
theorem ti45 : (prog.info? 45).map (fun i => (i.size, i.bytes, i.zero)) = some (1, 8, some (.nilFunc)) := by kernel_rfl
theorem ti46 : (prog.info? 46).map (fun i => (i.size, i.bytes, i.zero)) = some (1, 8, some (.nilFunc)) := by kernel_rfl
theorem ti47 : (prog.info? 47).map (fun i => (i.size, i.bytes, i.zero)) = some (1, 24, some (.slice none 0 0)) := by kernel_rfl
theorem ti48 : (prog.info? 48).map (fun i => (i.size, i.bytes, i.zero)) = some (1, 8, some (.nilFunc)) := by kernel_rfl
theorem ti49 : (prog.info? 49).map (fun i => (i.size, i.bytes, i.zero)) = some (1, 8, some (.nilFunc)) := by kernel_rfl
theorem ti50 : (prog.info? 50).map (fun i => (i.size, i.bytes, i.zero)) = some (1, 8, some (.nilFunc)) := by kernel_rfl
theorem ti51 : (prog.info? 51).map (fun i => (i.size, i.bytes, i.zero)) = some (1, 8, some (.nilFunc)) := by kernel_rfl
theorem ti52 : (prog.info? 52).map (fun i => (i.size, i.bytes, i.zero)) = some (1, 24, some (.slice none 0 0)) := by kernel_rfl
theorem ti53 : (prog.info? 53).map (fun i => (i.size, i.bytes, i.zero)) = some (2, 48, some (.agg #[.slice none 0 0, .slice none 0 0])) := by kernel_rfl
theorem ti54 : (prog.info? 54).map (fun i => (i.size, i.bytes, i.zero)) = some (2, 48, some (.agg #[.slice none 0 0, .slice none 0 0])) := by kernel_rfl
theorem ti55 : (prog.info? 55).map (fun i => (i.size, i.bytes, i.zero)) = some (1, 8, some (.nilFunc)) := by kernel_rfl
theorem ti56 : (prog.info? 56).map (fun i => (i.size, i.bytes, i.zero)) = some (1, 8, some (.nilFunc)) := by kernel_rfl
theorem ti58 : (prog.info? 58).map (fun i => (i.size, i.bytes, i.zero)) = some (1, 8, some (.nilFunc)) := by kernel_rfl
theorem ti59 : (prog.info? 59).map (fun i => (i.size, i.bytes, i.zero)) = some (1, 8, some (.nilFunc)) := by kernel_rfl
theorem ti60 : (prog.info? 60).map (fun i => (i.size, i.bytes, i.zero)) = some (1, 8, some (.nilFunc)) := by kernel_rfl
theorem ti61 : (prog.info? 61).map (fun i => (i.size, i.bytes, i.zero)) = some (1, 8, some (.nilFunc)) := by kernel_rfl
theorem ti62 : (prog.info? 62).map (fun i => (i.size, i.bytes, i.zero)) = some (1, 8, some (.nilFunc)) := by kernel_rfl
theorem ti63 : (prog.info? 63).map (fun i => (i.size, i.bytes, i.zero)) = some (3, 24, some (.agg #[.complex .f32 0 0, .complex .f32 0 0, .complex .f32 0 0])) := by kernel_rfl
theorem ti64 : (prog.info? 64).map (fun i => (i.size, i.bytes, i.zero)) = some (3, 24, some (.agg #[.complex .f32 0 0, .complex .f32 0 0, .complex .f32 0 0])) := by kernel_rfl
theorem ti65 : (prog.info? 65).map (fun i => (i.size, i.bytes, i.zero)) = some (1, 24, some (.slice none 0 0)) := by kernel_rfl
theorem ti66 : (prog.info? 66).map (fun i => (i.size, i.bytes, i.zero)) = some (4, 48, some (.agg #[.complex .f32 0 0, .complex .f32 0 0, .complex .f32 0 0, .slice none 0 0])) := by kernel_rfl
theorem ti67 : (prog.info? 67).map (fun i => (i.size, i.bytes, i.zero)) = some (4, 48, some (.agg #[.complex .f32 0 0, .complex .f32 0 0, .complex .f32 0 0, .slice none 0 0])) := by kernel_rfl
theorem ti68 : (prog.info? 68).map (fun i => (i.size, i.bytes, i.zero)) = some (1, 8, some (.nilFunc)) := by kernel_rfl
theorem ti69 : (prog.info? 69).map (fun i => (i.size, i.bytes, i.zero)) = some (1, 24, some (.slice none 0 0)) := by kernel_rfl
theorem ti71 : (prog.info? 71).map (fun i => (i.size, i.bytes, i.zero)) = some (1, 8, some (.nilFunc)) := by kernel_rfl
theorem ti72 : (prog.info? 72).map (fun i => (i.size, i.bytes, i.zero)) = some (1, 8, some (.nilFunc)) := by kernel_rfl
theorem ti73 : (prog.info? 73).map (fun i => (i.size, i.bytes, i.zero)) = some (1, 8, some (.nilFunc)) := by kernel_rfl
theorem ti74 : (prog.info? 74).map (fun i => (i.size, i.bytes, i.zero)) = some (4, 64, some (.agg #[.slice none 0 0, .slice none 0 0, .int .i64 0, .bool false])) := by kernel_rfl
theorem ti75 : (prog.info? 75).map (fun i => (i.size, i.bytes, i.zero)) = some (4, 64, some (.agg #[.slice none 0 0, .slice none 0 0, .int .i64 0, .bool false])) := by kernel_rfl
theorem ti77 : (prog.info? 77).map (fun i => (i.size, i.bytes, i.zero)) = some (1, 8, some (.nilFunc)) := by kernel_rfl
theorem ti78 : (prog.info? 78).map (fun i => (i.size, i.bytes, i.zero)) = some (1, 8, some (.nilFunc)) := by kernel_rfl
theorem ti79 : (prog.info? 79).map (fun i => (i.size, i.bytes, i.zero)) = some (1, 8, some (.nilFunc)) := by kernel_rfl
theorem ti80 : (prog.info? 80).map (fun i => (i.size, i.bytes, i.zero)) = some (1, 8, some (.nilFunc)) := by kernel_rfl
theorem ti81 : (prog.info? 81).map (fun i => (i.size, i.bytes, i.zero)) = some (1, 8, some (.pointer none)) := by kernel_rfl
theorem ti82 : (prog.info? 82).map (fun i => (i.size, i.bytes, i.zero)) = some (1, 8, some (.nilFunc)) := by kernel_rfl
theorem ti83 : (prog.info? 83).map (fun i => (i.size, i.bytes, i.zero)) = some (1, 8, some (.nilFunc)) := by kernel_rfl
theorem ti84 : (prog.info? 84).map (fun i => (i.size, i.bytes, i.zero)) = some (1, 8, some (.nilFunc)) := by kernel_rfl
theorem ti85 : (prog.info? 85).map (fun i => (i.size, i.bytes, i.zero)) = some (1, 8, some (.nilFunc)) := by kernel_rfl
theorem ti86 : (prog.info? 86).map (fun i => (i.size, i.bytes, i.zero)) = some (1, 8, some (.nilFunc)) := by kernel_rfl
theorem ti87 : (prog.info? 87).map (fun i => (i.size, i.bytes, i.zero)) = some (1, 8, some (.float .f64 0)) := by kernel_rfl
theorem ti88 : (prog.info? 88).map (fun i => (i.size, i.bytes, i.zero)) = some (1, 8, some (.nilFunc)) := by kernel_rfl
theorem ti89 : (prog.info? 89).map (fun i => (i.size, i.bytes, i.zero)) = some (1, 8, some (.nilFunc)) := by kernel_rfl
theorem ti90 : (prog.info? 90).map (fun i => (i.size, i.bytes, i.zero)) = some (1, 8, some (.nilFunc)) := by kernel_rfl
theorem ti91 : (prog.info? 91).map (fun i => (i.size, i.bytes, i.zero)) = some (1, 8, some (.nilFunc)) := by kernel_rfl
theorem ti92 : (prog.info? 92).map (fun i => (i.size, i.bytes, i.zero)) = some (1, 8, some (.nilFunc)) := by kernel_rfl
theorem ti93 : (prog.info? 93).map (fun i => (i.size, i.bytes, i.zero)) = some (1, 8, some (.nilFunc)) := by kernel_rfl
theorem ti94 : (prog.info? 94).map (fun i => (i.size, i.bytes, i.zero)) = some (1, 8, some (.nilFunc)) := by kernel_rfl
theorem ti95 : (prog.info? 95).map (fun i => (i.size, i.bytes, i.zero)) = some (1, 8, some (.nilFunc)) := by kernel_rfl
theorem ti96 : (prog.info? 96).map (fun i => (i.size, i.bytes, i.zero)) = some (1, 8, some (.nilFunc)) := by kernel_rfl
theorem ti97 : (prog.info? 97).map (fun i => (i.size, i.bytes, i.zero)) = some (1, 8, some (.nilFunc)) := by kernel_rfl
theorem ti98 : (prog.info? 98).map (fun i => (i.size, i.bytes, i.zero)) = some (1, 8, some (.nilFunc)) := by kernel_rfl
theorem ti99 : (prog.info? 99).map (fun i => (i.size, i.bytes, i.zero)) = some (1, 8, some (.nilFunc)) := by kernel_rfl
theorem ti100 : (prog.info? 100).map (fun i => (i.size, i.bytes, i.zero)) = some (1, 8, some (.pointer none)) := by kernel_rfl
theorem ti101 : (prog.info? 101).map (fun i => (i.size, i.bytes, i.zero)) = some (1, 8, some (.nilFunc)) := by kernel_rfl
theorem ti102 : (prog.info? 102).map (fun i => (i.size, i.bytes, i.zero)) = some (1, 8, some (.nilFunc)) := by kernel_rfl
theorem ti103 : (prog.info? 103).map (fun i => (i.size, i.bytes, i.zero)) = some (1, 8, some (.nilFunc)) := by kernel_rfl
theorem ti104 : (prog.info? 104).map (fun i => (i.size, i.bytes, i.zero)) = some (1, 8, some (.nilFunc)) := by kernel_rfl
theorem ti105 : (prog.info? 105).map (fun i => (i.size, i.bytes, i.zero)) = some (1, 8, some (.nilFunc)) := by kernel_rfl
theorem ti106 : (prog.info? 106).map (fun i => (i.size, i.bytes, i.zero)) = some (1, 8, some (.nilFunc)) := by kernel_rfl
theorem ti107 : (prog.info? 107).map (fun i => (i.size, i.bytes, i.zero)) = some (1, 8, some (.nilFunc)) := by kernel_rfl
theorem ti108 : (prog.info? 108).map (fun i => (i.size, i.bytes, i.zero)) = some (1, 8, some (.nilFunc)) := by kernel_rfl
theorem ti109 : (prog.info? 109).map (fun i => (i.size, i.bytes, i.zero)) = some (3, 32, some (.agg #[.string ⟨#[]⟩, .int .i64 0, .bool false])) := by kernel_rfl
theorem ti110 : (prog.info? 110).map (fun i => (i.size, i.bytes, i.zero)) = some (3, 32, some (.agg #[.string ⟨#[]⟩, .int .i64 0, .bool false])) := by kernel_rfl
theorem ti111 : (prog.info? 111).map (fun i => (i.size, i.bytes, i.zero)) = some (1, 8, some (.nilFunc)) := by kernel_rfl
theorem ti112 : (prog.info? 112).map (fun i => (i.size, i.bytes, i.zero)) = some (1, 8, some (.nilFunc)) := by kernel_rfl
theorem ti114 : (prog.info? 114).map (fun i => (i.size, i.bytes, i.zero)) = some (1, 8, some (.nilFunc)) := by kernel_rfl
theorem ti115 : (prog.info? 115).map (fun i => (i.size, i.bytes, i.zero)) = some (1, 8, some (.nilFunc)) := by kernel_rfl
theorem ti116 : (prog.info? 116).map (fun i => (i.size, i.bytes, i.zero)) = some (1, 8, some (.nilFunc)) := by kernel_rfl
theorem ti117 : (prog.info? 117).map (fun i => (i.size, i.bytes, i.zero)) = some (1, 8, some (.int .u64 0)) := by kernel_rfl
theorem ti118 : (prog.info? 118).map (fun i => (i.size, i.bytes, i.zero)) = some (3, 40, some (.agg #[.slice none 0 0, .int .i64 0, .int .u64 0])) := by kernel_rfl
theorem ti119 : (prog.info? 119).map (fun i => (i.size, i.bytes, i.zero)) = some (3, 40, some (.agg #[.slice none 0 0, .int .i64 0, .int .u64 0])) := by kernel_rfl
theorem ti120 : (prog.info? 120).map (fun i => (i.size, i.bytes, i.zero)) = some (1, 8, some (.nilFunc)) := by kernel_rfl
theorem ti121 : (prog.info? 121).map (fun i => (i.size, i.bytes, i.zero)) = some (1, 8, some (.nilFunc)) := by kernel_rfl
theorem ti122 : (prog.info? 122).map (fun i => (i.size, i.bytes, i.zero)) = some (1, 16, some (.complex .f64 0 0)) := by kernel_rfl
theorem ti123 : (prog.info? 123).map (fun i => (i.size, i.bytes, i.zero)) = some (1, 8, some (.nilFunc)) := by kernel_rfl
theorem ti124 : (prog.info? 124).map (fun i => (i.size, i.bytes, i.zero)) = some (1, 8, some (.nilFunc)) := by kernel_rfl
theorem ti126 : (prog.info? 126).map (fun i => (i.size, i.bytes, i.zero)) = some (1, 8, some (.nilFunc)) := by kernel_rfl
theorem ti127 : (prog.info? 127).map (fun i => (i.size, i.bytes, i.zero)) = some (1, 8, some (.nilFunc)) := by kernel_rfl
theorem ti128 : (prog.info? 128).map (fun i => (i.size, i.bytes, i.zero)) = some (1, 8, some (.pointer none)) := by kernel_rfl
theorem ti129 : (prog.info? 129).map (fun i => (i.size, i.bytes, i.zero)) = some (1, 8, some (.nilFunc)) := by kernel_rfl
theorem ti130 : (prog.info? 130).map (fun i => (i.size, i.bytes, i.zero)) = some (1, 8, some (.nilFunc)) := by kernel_rfl
theorem ti131 : (prog.info? 131).map (fun i => (i.size, i.bytes, i.zero)) = some (1, 8, some (.nilFunc)) := by kernel_rfl
theorem ti132 : (prog.info? 132).map (fun i => (i.size, i.bytes, i.zero)) = some (1, 8, some (.nilFunc)) := by kernel_rfl
theorem ti133 : (prog.info? 133).map (fun i => (i.size, i.bytes, i.zero)) = some (8, 64, some (.agg #[.int .i64 0, .complex .f32 0 0, .complex .f32 0 0, .int .i64 0, .complex .f32 0 0, .complex .f32 0 0, .complex .f32 0 0, .int .i64 0])) := by kernel_rfl
theorem ti134 : (prog.info? 134).map (fun i => (i.size, i.bytes, i.zero)) = some (8, 64, some (.agg #[.int .i64 0, .complex .f32 0 0, .complex .f32 0 0, .int .i64 0, .complex .f32 0 0, .complex .f32 0 0, .complex .f32 0 0, .int .i64 0])) := by kernel_rfl
theorem ti135 : (prog.info? 135).map (fun i => (i.size, i.bytes, i.zero)) = some (1, 8, some (.nilFunc)) := by kernel_rfl
theorem ti136 : (prog.info? 136).map (fun i => (i.size, i.bytes, i.zero)) = some (1, 8, some (.pointer none)) := by kernel_rfl
theorem ti137 : (prog.info? 137).map (fun i => (i.size, i.bytes, i.zero)) = some (1, 8, some (.nilFunc)) := by kernel_rfl
theorem ti138 : (prog.info? 138).map (fun i => (i.size, i.bytes, i.zero)) = some (1, 8, some (.nilFunc)) := by kernel_rfl
theorem ti139 : (prog.info? 139).map (fun i => (i.size, i.bytes, i.zero)) = some (1, 8, some (.nilFunc)) := by kernel_rfl
theorem ti140 : (prog.info? 140).map (fun i => (i.size, i.bytes, i.zero)) = some (1, 8, some (.pointer none)) := by kernel_rfl
theorem ti141 : (prog.info? 141).map (fun i => (i.size, i.bytes, i.zero)) = some (3, 32, some (.agg #[.string ⟨#[]⟩, .int .i64 0, .bool false])) := by kernel_rfl
theorem ti142 : (prog.info? 142).map (fun i => (i.size, i.bytes, i.zero)) = some (3, 32, some (.agg #[.string ⟨#[]⟩, .int .i64 0, .bool false])) := by kernel_rfl
theorem ti143 : (prog.info? 143).map (fun i => (i.size, i.bytes, i.zero)) = some (1, 8, some (.nilFunc)) := by kernel_rfl
theorem ti144 : (prog.info? 144).map (fun i => (i.size, i.bytes, i.zero)) = some (1, 8, some (.pointer none)) := by kernel_rfl
theorem ti145 : (prog.info? 145).map (fun i => (i.size, i.bytes, i.zero)) = some (1, 8, some (.pointer none)) := by kernel_rfl
theorem ti146 : (prog.info? 146).map (fun i => (i.size, i.bytes, i.zero)) = some (1, 8, some (.int .u64 0)) := by kernel_rfl
theorem ti147 : (prog.info? 147).map (fun i => (i.size, i.bytes, i.zero)) = some (1, 8, some (.nilFunc)) := by kernel_rfl
theorem ti148 : (prog.info? 148).map (fun i => (i.size, i.bytes, i.zero)) = some (1, 8, some (.pointer none)) := by kernel_rfl
theorem ti149 : (prog.info? 149).map (fun i => (i.size, i.bytes, i.zero)) = some (2, 32, some (.agg #[.pointer none, .slice none 0 0])) := by kernel_rfl
theorem ti150 : (prog.info? 150).map (fun i => (i.size, i.bytes, i.zero)) = some (2, 32, some (.agg #[.pointer none, .slice none 0 0])) := by kernel_rfl
theorem ti154 : (prog.info? 154).map (fun i => (i.size, i.bytes, i.zero)) = some (1, 8, some (.nilFunc)) := by kernel_rfl
theorem ti155 : (prog.info? 155).map (fun i => (i.size, i.bytes, i.zero)) = some (1, 8, some (.nilFunc)) := by kernel_rfl
theorem ti156 : (prog.info? 156).map (fun i => (i.size, i.bytes, i.zero)) = some (1, 8, some (.nilFunc)) := by kernel_rfl
theorem ti157 : (prog.info? 157).map (fun i => (i.size, i.bytes, i.zero)) = some (1, 8, some (.nilFunc)) := by kernel_rfl
theorem ti158 : (prog.info? 158).map (fun i => (i.size, i.bytes, i.zero)) = some (1, 8, some (.nilFunc)) := by kernel_rfl
theorem ti159 : (prog.info? 159).map (fun i => (i.size, i.bytes, i.zero)) = some (1, 8, some (.nilFunc)) := by kernel_rfl
theorem ti160 : (prog.info? 160).map (fun i => (i.size, i.bytes, i.zero)) = some (1, 8, some (.nilFunc)) := by kernel_rfl
theorem ti161 : (prog.info? 161).map (fun i => (i.size, i.bytes, i.zero)) = some (1, 8, some (.nilFunc)) := by kernel_rfl
theorem ti162 : (prog.info? 162).map (fun i => (i.size, i.bytes, i.zero)) = some (1, 8, some (.nilFunc)) := by kernel_rfl
theorem ti163 : (prog.info? 163).map (fun i => (i.size, i.bytes, i.zero)) = some (1, 4, some (.int .u32 0)) := by kernel_rfl
theorem ti164 : (prog.info? 164).map (fun i => (i.size, i.bytes, i.zero)) = some (1, 8, some (.nilFunc)) := by kernel_rfl
theorem ti165 : (prog.info? 165).map (fun i => (i.size, i.bytes, i.zero)) = some (1, 8, some (.nilFunc)) := by kernel_rfl
theorem ti166 : (prog.info? 166).map (fun i => (i.size, i.bytes, i.zero)) = some (1, 8, some (.nilFunc)) := by kernel_rfl
theorem ti167 : (prog.info? 167).map (fun i => (i.size, i.bytes, i.zero)) = some (1, 8, some (.nilFunc)) := by kernel_rfl
theorem ti168 : (prog.info? 168).map (fun i => (i.size, i.bytes, i.zero)) = some (1, 8, some (.nilFunc)) := by kernel_rfl
theorem ti169 : (prog.info? 169).map (fun i => (i.size, i.bytes, i.zero)) = some (1, 8, some (.nilFunc)) := by kernel_rfl
theorem ti170 : (prog.info? 170).map (fun i => (i.size, i.bytes, i.zero)) = some (1, 8, some (.nilFunc)) := by kernel_rfl
theorem ti171 : (prog.info? 171).map (fun i => (i.size, i.bytes, i.zero)) = some (1, 8, some (.pointer none)) := by kernel_rfl
theorem ti172 : (prog.info? 172).map (fun i => (i.size, i.bytes, i.zero)) = some (1, 8, some (.nilFunc)) := by kernel_rfl
theorem ti173 : (prog.info? 173).map (fun i => (i.size, i.bytes, i.zero)) = some (1, 8, some (.nilFunc)) := by kernel_rfl
theorem ti174 : (prog.info? 174).map (fun i => (i.size, i.bytes, i.zero)) = some (1, 8, some (.nilFunc)) := by kernel_rfl
theorem ti175 : (prog.info? 175).map (fun i => (i.size, i.bytes, i.zero)) = some (1, 8, some (.nilFunc)) := by kernel_rfl
theorem ti177 : (prog.info? 177).map (fun i => (i.size, i.bytes, i.zero)) = some (1, 8, some (.nilFunc)) := by kernel_rfl
theorem ti178 : (prog.info? 178).map (fun i => (i.size, i.bytes, i.zero)) = some (1, 8, some (.nilFunc)) := by kernel_rfl
theorem ti179 : (prog.info? 179).map (fun i => (i.size, i.bytes, i.zero)) = some (1, 8, some (.nilFunc)) := by kernel_rfl
theorem ti180 : (prog.info? 180).map (fun i => (i.size, i.bytes, i.zero)) = some (1, 8, some (.nilFunc)) := by kernel_rfl
theorem ti181 : (prog.info? 181).map (fun i => (i.size, i.bytes, i.zero)) = some (1, 8, some (.nilFunc)) := by kernel_rfl
theorem ti182 : (prog.info? 182).map (fun i => (i.size, i.bytes, i.zero)) = some (4, 40, some (.agg #[.pointer none, .pointer none, .pointer none, .string ⟨#[]⟩])) := by kernel_rfl
theorem ti183 : (prog.info? 183).map (fun i => (i.size, i.bytes, i.zero)) = some (4, 40, some (.agg #[.pointer none, .pointer none, .pointer none, .string ⟨#[]⟩])) := by kernel_rfl
theorem ti187 : (prog.info? 187).map (fun i => (i.size, i.bytes, i.zero)) = some (1, 8, some (.nilFunc)) := by kernel_rfl
theorem ti188 : (prog.info? 188).map (fun i => (i.size, i.bytes, i.zero)) = some (1, 1, some (.int .u8 0)) := by kernel_rfl
theorem ti189 : (prog.info? 189).map (fun i => (i.size, i.bytes, i.zero)) = some (1, 1, some (.int .u8 0)) := by kernel_rfl
theorem ti190 : (prog.info? 190).map (fun i => (i.size, i.bytes, i.zero)) = some (1, 8, some (.nilFunc)) := by kernel_rfl
theorem ti191 : (prog.info? 191).map (fun i => (i.size, i.bytes, i.zero)) = some (1, 4, some (.int .i32 0)) := by kernel_rfl
theorem ti192 : (prog.info? 192).map (fun i => (i.size, i.bytes, i.zero)) = some (1, 4, some (.int .i32 0)) := by kernel_rfl
theorem ti193 : (prog.info? 193).map (fun i => (i.size, i.bytes, i.zero)) = some (11, 48, some (.agg #[.int .u64 0, .int .u64 0, .int .u32 0, .int .u8 0, .int .u8 0, .int .u8 0, .int .u8 0, .nilFunc, .pointer none, .int .i32 0, .int .i32 0])) := by kernel_rfl
theorem ti194 : (prog.info? 194).map (fun i => (i.size, i.bytes, i.zero)) = some (11, 48, some (.agg #[.int .u64 0, .int .u64 0, .int .u32 0, .int .u8 0, .int .u8 0, .int .u8 0, .int .u8 0, .nilFunc, .pointer none, .int .i32 0, .int .i32 0])) := by kernel_rfl
theorem ti195 : (prog.info? 195).map (fun i => (i.size, i.bytes, i.zero)) = some (1, 8, some (.nilFunc)) := by kernel_rfl
def td1 : TD := ⟨(TypeDesc.func #[] #[] false), 1, 8, .nilFunc⟩
def td2 : TD := ⟨(TypeDesc.int IntKind.i64), 1, 8, .int .i64 0⟩
def td3 : TD := ⟨(TypeDesc.int IntKind.i64), 1, 8, .int .i64 0⟩
def td4 : TD := ⟨TypeDesc.bool, 1, 1, .bool false⟩
def td5 : TD := ⟨(TypeDesc.int IntKind.u8), 1, 1, .int .u8 0⟩
def td6 : TD := ⟨(TypeDesc.int IntKind.u8), 1, 1, .int .u8 0⟩
def td7 : TD := ⟨(TypeDesc.struct #[{ name := "x", type := 2, offset := 0, embedded := false, tag := "", pkgPath := "runtime", byteOffset := 0 }, { name := "y", type := 3, offset := 1, embedded := false, tag := "", pkgPath := "runtime", byteOffset := 8 }, { name := "signed", type := 4, offset := 2, embedded := false, tag := "", pkgPath := "runtime", byteOffset := 16 }, { name := "code", type := 6, offset := 3, embedded := false, tag := "", pkgPath := "runtime", byteOffset := 17 }]), 4, 24, .agg #[.int .i64 0, .int .i64 0, .bool false, .int .u8 0]⟩
def td8 : TD := ⟨(TypeDesc.struct #[{ name := "x", type := 2, offset := 0, embedded := false, tag := "", pkgPath := "runtime", byteOffset := 0 }, { name := "y", type := 3, offset := 1, embedded := false, tag := "", pkgPath := "runtime", byteOffset := 8 }, { name := "signed", type := 4, offset := 2, embedded := false, tag := "", pkgPath := "runtime", byteOffset := 16 }, { name := "code", type := 6, offset := 3, embedded := false, tag := "", pkgPath := "runtime", byteOffset := 17 }]), 4, 24, .agg #[.int .i64 0, .int .i64 0, .bool false, .int .u8 0]⟩
def td9 : TD := ⟨TypeDesc.string, 1, 16, .string ⟨#[]⟩⟩
def td10 : TD := ⟨TypeDesc.string, 1, 16, .string ⟨#[]⟩⟩
def td11 : TD := ⟨TypeDesc.string, 1, 16, .string ⟨#[]⟩⟩
def td12 : TD := ⟨(TypeDesc.int IntKind.u64), 1, 8, .int .u64 0⟩
def td13 : TD := ⟨(TypeDesc.struct #[{ name := "msg", type := 9, offset := 0, embedded := false, tag := "", pkgPath := "runtime", byteOffset := 0 }, { name := "addr", type := 12, offset := 1, embedded := false, tag := "", pkgPath := "runtime", byteOffset := 16 }]), 2, 24, .agg #[.string ⟨#[]⟩, .int .u64 0]⟩
def td14 : TD := ⟨(TypeDesc.struct #[{ name := "msg", type := 9, offset := 0, embedded := false, tag := "", pkgPath := "runtime", byteOffset := 0 }, { name := "addr", type := 12, offset := 1, embedded := false, tag := "", pkgPath := "runtime", byteOffset := 16 }]), 2, 24, .agg #[.string ⟨#[]⟩, .int .u64 0]⟩
def td15 : TD := ⟨(TypeDesc.pointer 183), 1, 8, .pointer none⟩
def td16 : TD := ⟨(TypeDesc.pointer 186), 1, 8, .pointer none⟩
def td17 : TD := ⟨(TypeDesc.pointer 194), 1, 8, .pointer none⟩
def td18 : TD := ⟨(TypeDesc.struct #[{ name := "typ", type := 17, offset := 0, embedded := false, tag := "", pkgPath := "internal/runtime/maps", byteOffset := 0 }]), 1, 8, .agg #[.pointer none]⟩
def td19 : TD := ⟨(TypeDesc.struct #[{ name := "typ", type := 17, offset := 0, embedded := false, tag := "", pkgPath := "internal/runtime/maps", byteOffset := 0 }]), 1, 8, .agg #[.pointer none]⟩
def td21 : TD := ⟨(TypeDesc.int IntKind.i32), 1, 4, .int .i32 0⟩
def td22 : TD := ⟨(TypeDesc.slice 5), 1, 24, .slice none 0 0⟩
def td23 : TD := ⟨(TypeDesc.func #[22, 22] #[4] false), 1, 8, .nilFunc⟩
def td24 : TD := ⟨(TypeDesc.func #[22, 2, 2] #[2] false), 1, 8, .nilFunc⟩
def td25 : TD := ⟨(TypeDesc.slice 27), 1, 24, .slice none 0 0⟩
def td26 : TD := ⟨(TypeDesc.func #[22, 2] #[25] false), 1, 8, .nilFunc⟩
def td27 : TD := ⟨(TypeDesc.complex FloatKind.f32), 1, 8, .complex .f32 0 0⟩
def td28 : TD := ⟨(TypeDesc.func #[27, 27] #[27] false), 1, 8, .nilFunc⟩
def td29 : TD := ⟨(TypeDesc.func #[27] #[27] false), 1, 8, .nilFunc⟩
def td31 : TD := ⟨(TypeDesc.func #[25] #[27, 4] false), 1, 8, .nilFunc⟩
def td32 : TD := ⟨(TypeDesc.func #[25, 25] #[27, 4] false), 1, 8, .nilFunc⟩
def td33 : TD := ⟨(TypeDesc.func #[22, 2, 2] #[25] false), 1, 8, .nilFunc⟩
def td34 : TD := ⟨(TypeDesc.float FloatKind.f32), 1, 4, .float .f32 0⟩
def td36 : TD := ⟨(TypeDesc.func #[25] #[34, 4] false), 1, 8, .nilFunc⟩
def td37 : TD := ⟨(TypeDesc.func #[27, 27] #[4] false), 1, 8, .nilFunc⟩
def td38 : TD := ⟨(TypeDesc.slice 2), 1, 24, .slice none 0 0⟩
def td39 : TD := ⟨(TypeDesc.struct #[{ name := "Digits", type := 2, offset := 0, embedded := false, tag := "", pkgPath := "", byteOffset := 0 }, { name := "Readings", type := 38, offset := 1, embedded := false, tag := "", pkgPath := "", byteOffset := 8 }]), 2, 32, .agg #[.int .i64 0, .slice none 0 0]⟩
def td40 : TD := ⟨(TypeDesc.struct #[{ name := "Digits", type := 2, offset := 0, embedded := false, tag := "", pkgPath := "", byteOffset := 0 }, { name := "Readings", type := 38, offset := 1, embedded := false, tag := "", pkgPath := "", byteOffset := 8 }]), 2, 32, .agg #[.int .i64 0, .slice none 0 0]⟩
def td41 : TD := ⟨(TypeDesc.func #[22, 2] #[40] false), 1, 8, .nilFunc⟩
def td43 : TD := ⟨(TypeDesc.func #[40] #[38, 4] false), 1, 8, .nilFunc⟩
def td45 : TD := ⟨(TypeDesc.func #[40] #[2, 4] false), 1, 8, .nilFunc⟩
def td46 : TD := ⟨(TypeDesc.func #[40, 47] #[38, 4] false), 1, 8, .nilFunc⟩
def td47 : TD := ⟨(TypeDesc.slice 40), 1, 24, .slice none 0 0⟩
def td48 : TD := ⟨(TypeDesc.func #[40, 38] #[38, 4] false), 1, 8, .nilFunc⟩
def td49 : TD := ⟨(TypeDesc.func #[40] #[34, 4] false), 1, 8, .nilFunc⟩
def td50 : TD := ⟨(TypeDesc.func #[47, 34] #[38, 4] false), 1, 8, .nilFunc⟩
def td51 : TD := ⟨(TypeDesc.func #[40] #[4] false), 1, 8, .nilFunc⟩
def td52 : TD := ⟨(TypeDesc.slice 34), 1, 24, .slice none 0 0⟩
def td53 : TD := ⟨(TypeDesc.struct #[{ name := "Currents", type := 52, offset := 0, embedded := false, tag := "", pkgPath := "", byteOffset := 0 }, { name := "Times", type := 52, offset := 1, embedded := false, tag := "", pkgPath := "", byteOffset := 24 }]), 2, 48, .agg #[.slice none 0 0, .slice none 0 0]⟩
def td54 : TD := ⟨(TypeDesc.struct #[{ name := "Currents", type := 52, offset := 0, embedded := false, tag := "", pkgPath := "", byteOffset := 0 }, { name := "Times", type := 52, offset := 1, embedded := false, tag := "", pkgPath := "", byteOffset := 24 }]), 2, 48, .agg #[.slice none 0 0, .slice none 0 0]⟩
def td55 : TD := ⟨(TypeDesc.func #[22] #[54] false), 1, 8, .nilFunc⟩
def td56 : TD := ⟨(TypeDesc.func #[54, 34] #[34, 4] false), 1, 8, .nilFunc⟩
def td58 : TD := ⟨(TypeDesc.func #[54, 34, 34] #[54, 4] false), 1, 8, .nilFunc⟩
def td59 : TD := ⟨(TypeDesc.func #[54, 54, 34] #[34, 4] false), 1, 8, .nilFunc⟩
def td60 : TD := ⟨(TypeDesc.func #[54, 54, 34, 34, 2] #[34, 4] false), 1, 8, .nilFunc⟩
def td61 : TD := ⟨(TypeDesc.func #[54] #[4] false), 1, 8, .nilFunc⟩
def td62 : TD := ⟨(TypeDesc.func #[54, 54] #[4] false), 1, 8, .nilFunc⟩
def td63 : TD := ⟨(TypeDesc.struct #[{ name := "A", type := 27, offset := 0, embedded := false, tag := "", pkgPath := "", byteOffset := 0 }, { name := "B", type := 27, offset := 1, embedded := false, tag := "", pkgPath := "", byteOffset := 8 }, { name := "C", type := 27, offset := 2, embedded := false, tag := "", pkgPath := "", byteOffset := 16 }]), 3, 24, .agg #[.complex .f32 0 0, .complex .f32 0 0, .complex .f32 0 0]⟩
def td64 : TD := ⟨(TypeDesc.struct #[{ name := "A", type := 27, offset := 0, embedded := false, tag := "", pkgPath := "", byteOffset := 0 }, { name := "B", type := 27, offset := 1, embedded := false, tag := "", pkgPath := "", byteOffset := 8 }, { name := "C", type := 27, offset := 2, embedded := false, tag := "", pkgPath := "", byteOffset := 16 }]), 3, 24, .agg #[.complex .f32 0 0, .complex .f32 0 0, .complex .f32 0 0]⟩
def td65 : TD := ⟨(TypeDesc.slice 134), 1, 24, .slice none 0 0⟩
def td66 : TD := ⟨(TypeDesc.struct #[{ name := "Source", type := 64, offset := 0, embedded := false, tag := "", pkgPath := "", byteOffset := 0 }, { name := "Buses", type := 65, offset := 3, embedded := false, tag := "", pkgPath := "", byteOffset := 24 }]), 4, 48, .agg #[.complex .f32 0 0, .complex .f32 0 0, .complex .f32 0 0, .slice none 0 0]⟩
def td67 : TD := ⟨(TypeDesc.struct #[{ name := "Source", type := 64, offset := 0, embedded := false, tag := "", pkgPath := "", byteOffset := 0 }, { name := "Buses", type := 65, offset := 3, embedded := false, tag := "", pkgPath := "", byteOffset := 24 }]), 4, 48, .agg #[.complex .f32 0 0, .complex .f32 0 0, .complex .f32 0 0, .slice none 0 0]⟩
def td68 : TD := ⟨(TypeDesc.func #[22] #[67] false), 1, 8, .nilFunc⟩
def td69 : TD := ⟨(TypeDesc.slice 64), 1, 24, .slice none 0 0⟩
def td71 : TD := ⟨(TypeDesc.func #[67, 69] #[69, 4] false), 1, 8, .nilFunc⟩
def td72 : TD := ⟨(TypeDesc.func #[67, 2] #[38, 4] false), 1, 8, .nilFunc⟩
def td73 : TD := ⟨(TypeDesc.func #[64, 64] #[64] false), 1, 8, .nilFunc⟩
def td74 : TD := ⟨(TypeDesc.struct #[{ name := "Voltages", type := 69, offset := 0, embedded := false, tag := "", pkgPath := "", byteOffset := 0 }, { name := "Currents", type := 69, offset := 1, embedded := false, tag := "", pkgPath := "", byteOffset := 24 }, { name := "Rounds", type := 2, offset := 2, embedded := false, tag := "", pkgPath := "", byteOffset := 48 }, { name := "Rests", type := 4, offset := 3, embedded := false, tag := "", pkgPath := "", byteOffset := 56 }]), 4, 64, .agg #[.slice none 0 0, .slice none 0 0, .int .i64 0, .bool false]⟩
def td75 : TD := ⟨(TypeDesc.struct #[{ name := "Voltages", type := 69, offset := 0, embedded := false, tag := "", pkgPath := "", byteOffset := 0 }, { name := "Currents", type := 69, offset := 1, embedded := false, tag := "", pkgPath := "", byteOffset := 24 }, { name := "Rounds", type := 2, offset := 2, embedded := false, tag := "", pkgPath := "", byteOffset := 48 }, { name := "Rests", type := 4, offset := 3, embedded := false, tag := "", pkgPath := "", byteOffset := 56 }]), 4, 64, .agg #[.slice none 0 0, .slice none 0 0, .int .i64 0, .bool false]⟩
def td77 : TD := ⟨(TypeDesc.func #[9, 2] #[75, 4] false), 1, 8, .nilFunc⟩
def td78 : TD := ⟨(TypeDesc.func #[75, 75] #[4] false), 1, 8, .nilFunc⟩
def td79 : TD := ⟨(TypeDesc.func #[75, 3] #[3] false), 1, 8, .nilFunc⟩
def td80 : TD := ⟨(TypeDesc.func #[9, 2] #[4] false), 1, 8, .nilFunc⟩
def td81 : TD := ⟨(TypeDesc.pointer 119), 1, 8, .pointer none⟩
def td82 : TD := ⟨(TypeDesc.func #[22] #[81] false), 1, 8, .nilFunc⟩
def td83 : TD := ⟨(TypeDesc.func #[81, 2] #[25] false), 1, 8, .nilFunc⟩
def td84 : TD := ⟨(TypeDesc.func #[25] #[4] false), 1, 8, .nilFunc⟩
def td85 : TD := ⟨(TypeDesc.func #[25] #[27] false), 1, 8, .nilFunc⟩
def td86 : TD := ⟨(TypeDesc.func #[2] #[2] false), 1, 8, .nilFunc⟩
def td87 : TD := ⟨(TypeDesc.float FloatKind.f64), 1, 8, .float .f64 0⟩
def td88 : TD := ⟨(TypeDesc.func #[27] #[87] false), 1, 8, .nilFunc⟩
def td89 : TD := ⟨(TypeDesc.func #[] #[38] false), 1, 8, .nilFunc⟩
def td90 : TD := ⟨(TypeDesc.func #[38] #[2] false), 1, 8, .nilFunc⟩
def td91 : TD := ⟨(TypeDesc.func #[34] #[4] false), 1, 8, .nilFunc⟩
def td92 : TD := ⟨(TypeDesc.func #[2, 2, 2] #[4] false), 1, 8, .nilFunc⟩
def td93 : TD := ⟨(TypeDesc.func #[38, 95] #[4] false), 1, 8, .nilFunc⟩
def td94 : TD := ⟨(TypeDesc.func #[] #[2] false), 1, 8, .nilFunc⟩
def td95 : TD := ⟨(TypeDesc.func #[2] #[4] false), 1, 8, .nilFunc⟩
def td96 : TD := ⟨(TypeDesc.func #[81] #[54] false), 1, 8, .nilFunc⟩
def td97 : TD := ⟨(TypeDesc.func #[34] #[34, 4] false), 1, 8, .nilFunc⟩
def td98 : TD := ⟨(TypeDesc.func #[52, 34] #[52] false), 1, 8, .nilFunc⟩
def td99 : TD := ⟨(TypeDesc.func #[100, 100, 34] #[34, 4] false), 1, 8, .nilFunc⟩
def td100 : TD := ⟨(TypeDesc.pointer 54), 1, 8, .pointer none⟩
def td101 : TD := ⟨(TypeDesc.func #[100, 100, 34, 34, 2] #[34, 4] false), 1, 8, .nilFunc⟩
def td102 : TD := ⟨(TypeDesc.func #[100] #[4] false), 1, 8, .nilFunc⟩
def td103 : TD := ⟨(TypeDesc.func #[52, 52] #[4] false), 1, 8, .nilFunc⟩
def td104 : TD := ⟨(TypeDesc.func #[81] #[67] false), 1, 8, .nilFunc⟩
def td105 : TD := ⟨(TypeDesc.func #[67, 69] #[4] false), 1, 8, .nilFunc⟩
def td106 : TD := ⟨(TypeDesc.func #[69, 137] #[69] false), 1, 8, .nilFunc⟩
def td107 : TD := ⟨(TypeDesc.func #[3, 64] #[64] false), 1, 8, .nilFunc⟩
def td108 : TD := ⟨(TypeDesc.func #[2] #[38] false), 1, 8, .nilFunc⟩
def td109 : TD := ⟨(TypeDesc.struct #[{ name := "s", type := 9, offset := 0, embedded := false, tag := "", pkgPath := "loop.example/g01212/impl", byteOffset := 0 }, { name := "at", type := 3, offset := 1, embedded := false, tag := "", pkgPath := "loop.example/g01212/impl", byteOffset := 16 }, { name := "short", type := 4, offset := 2, embedded := false, tag := "", pkgPath := "loop.example/g01212/impl", byteOffset := 24 }]), 3, 32, .agg #[.string ⟨#[]⟩, .int .i64 0, .bool false]⟩
def td110 : TD := ⟨(TypeDesc.struct #[{ name := "s", type := 9, offset := 0, embedded := false, tag := "", pkgPath := "loop.example/g01212/impl", byteOffset := 0 }, { name := "at", type := 3, offset := 1, embedded := false, tag := "", pkgPath := "loop.example/g01212/impl", byteOffset := 16 }, { name := "short", type := 4, offset := 2, embedded := false, tag := "", pkgPath := "loop.example/g01212/impl", byteOffset := 24 }]), 3, 32, .agg #[.string ⟨#[]⟩, .int .i64 0, .bool false]⟩
def td111 : TD := ⟨(TypeDesc.func #[3] #[2] false), 1, 8, .nilFunc⟩
def td112 : TD := ⟨(TypeDesc.func #[] #[64] false), 1, 8, .nilFunc⟩
def td114 : TD := ⟨(TypeDesc.func #[75] #[9, 4] false), 1, 8, .nilFunc⟩
def td115 : TD := ⟨(TypeDesc.func #[69, 69] #[4] false), 1, 8, .nilFunc⟩
def td116 : TD := ⟨(TypeDesc.func #[69, 3] #[3] false), 1, 8, .nilFunc⟩
def td117 : TD := ⟨(TypeDesc.int IntKind.u64), 1, 8, .int .u64 0⟩
def td118 : TD := ⟨(TypeDesc.struct #[{ name := "code", type := 22, offset := 0, embedded := false, tag := "", pkgPath := "loop.example/g01212/spec", byteOffset := 0 }, { name := "at", type := 3, offset := 1, embedded := false, tag := "", pkgPath := "loop.example/g01212/spec", byteOffset := 24 }, { name := "seed", type := 117, offset := 2, embedded := false, tag := "", pkgPath := "loop.example/g01212/spec", byteOffset := 32 }]), 3, 40, .agg #[.slice none 0 0, .int .i64 0, .int .u64 0]⟩
def td119 : TD := ⟨(TypeDesc.struct #[{ name := "code", type := 22, offset := 0, embedded := false, tag := "", pkgPath := "loop.example/g01212/spec", byteOffset := 0 }, { name := "at", type := 3, offset := 1, embedded := false, tag := "", pkgPath := "loop.example/g01212/spec", byteOffset := 24 }, { name := "seed", type := 117, offset := 2, embedded := false, tag := "", pkgPath := "loop.example/g01212/spec", byteOffset := 32 }]), 3, 40, .agg #[.slice none 0 0, .int .i64 0, .int .u64 0]⟩
def td120 : TD := ⟨(TypeDesc.func #[81] #[27] false), 1, 8, .nilFunc⟩
def td121 : TD := ⟨(TypeDesc.func #[122] #[27] false), 1, 8, .nilFunc⟩
def td122 : TD := ⟨(TypeDesc.complex FloatKind.f64), 1, 16, .complex .f64 0 0⟩
def td123 : TD := ⟨(TypeDesc.func #[122, 122] #[122] false), 1, 8, .nilFunc⟩
def td124 : TD := ⟨(TypeDesc.func #[27] #[122] false), 1, 8, .nilFunc⟩
def td126 : TD := ⟨(TypeDesc.func #[27] #[87, 87] false), 1, 8, .nilFunc⟩
def td127 : TD := ⟨(TypeDesc.func #[34, 34] #[4] false), 1, 8, .nilFunc⟩
def td128 : TD := ⟨(TypeDesc.pointer 40), 1, 8, .pointer none⟩
def td129 : TD := ⟨(TypeDesc.func #[38, 95] #[3] false), 1, 8, .nilFunc⟩
def td130 : TD := ⟨(TypeDesc.func #[52, 52, 127] #[4] false), 1, 8, .nilFunc⟩
def td131 : TD := ⟨(TypeDesc.func #[27] #[64] false), 1, 8, .nilFunc⟩
def td132 : TD := ⟨(TypeDesc.func #[81, 2] #[64] false), 1, 8, .nilFunc⟩
def td133 : TD := ⟨(TypeDesc.struct #[{ name := "Parent", type := 2, offset := 0, embedded := false, tag := "", pkgPath := "", byteOffset := 0 }, { name := "Own", type := 27, offset := 1, embedded := false, tag := "", pkgPath := "", byteOffset := 8 }, { name := "Shared", type := 27, offset := 2, embedded := false, tag := "", pkgPath := "", byteOffset := 16 }, { name := "Kind", type := 2, offset := 3, embedded := false, tag := "", pkgPath := "", byteOffset := 24 }, { name := "Load", type := 64, offset := 4, embedded := false, tag := "", pkgPath := "", byteOffset := 32 }, { name := "Customers", type := 2, offset := 7, embedded := false, tag := "", pkgPath := "", byteOffset := 56 }]), 8, 64, .agg #[.int .i64 0, .complex .f32 0 0, .complex .f32 0 0, .int .i64 0, .complex .f32 0 0, .complex .f32 0 0, .complex .f32 0 0, .int .i64 0]⟩
def td134 : TD := ⟨(TypeDesc.struct #[{ name := "Parent", type := 2, offset := 0, embedded := false, tag := "", pkgPath := "", byteOffset := 0 }, { name := "Own", type := 27, offset := 1, embedded := false, tag := "", pkgPath := "", byteOffset := 8 }, { name := "Shared", type := 27, offset := 2, embedded := false, tag := "", pkgPath := "", byteOffset := 16 }, { name := "Kind", type := 2, offset := 3, embedded := false, tag := "", pkgPath := "", byteOffset := 24 }, { name := "Load", type := 64, offset := 4, embedded := false, tag := "", pkgPath := "", byteOffset := 32 }, { name := "Customers", type := 2, offset := 7, embedded := false, tag := "", pkgPath := "", byteOffset := 56 }]), 8, 64, .agg #[.int .i64 0, .complex .f32 0 0, .complex .f32 0 0, .int .i64 0, .complex .f32 0 0, .complex .f32 0 0, .complex .f32 0 0, .int .i64 0]⟩
def td135 : TD := ⟨(TypeDesc.func #[67] #[4] false), 1, 8, .nilFunc⟩
def td136 : TD := ⟨(TypeDesc.pointer 67), 1, 8, .pointer none⟩
def td137 : TD := ⟨(TypeDesc.func #[3, 64] #[64] false), 1, 8, .nilFunc⟩
def td138 : TD := ⟨(TypeDesc.func #[69] #[69] false), 1, 8, .nilFunc⟩
def td139 : TD := ⟨(TypeDesc.func #[38, 2] #[4] false), 1, 8, .nilFunc⟩
def td140 : TD := ⟨(TypeDesc.pointer 142), 1, 8, .pointer none⟩
def td141 : TD := ⟨(TypeDesc.struct #[{ name := "text", type := 9, offset := 0, embedded := false, tag := "", pkgPath := "loop.example/g01212/spec", byteOffset := 0 }, { name := "at", type := 3, offset := 1, embedded := false, tag := "", pkgPath := "loop.example/g01212/spec", byteOffset := 16 }, { name := "fine", type := 4, offset := 2, embedded := false, tag := "", pkgPath := "loop.example/g01212/spec", byteOffset := 24 }]), 3, 32, .agg #[.string ⟨#[]⟩, .int .i64 0, .bool false]⟩
def td142 : TD := ⟨(TypeDesc.struct #[{ name := "text", type := 9, offset := 0, embedded := false, tag := "", pkgPath := "loop.example/g01212/spec", byteOffset := 0 }, { name := "at", type := 3, offset := 1, embedded := false, tag := "", pkgPath := "loop.example/g01212/spec", byteOffset := 16 }, { name := "fine", type := 4, offset := 2, embedded := false, tag := "", pkgPath := "loop.example/g01212/spec", byteOffset := 24 }]), 3, 32, .agg #[.string ⟨#[]⟩, .int .i64 0, .bool false]⟩
def td143 : TD := ⟨(TypeDesc.func #[144] #[9] false), 1, 8, .nilFunc⟩
def td144 : TD := ⟨(TypeDesc.pointer 75), 1, 8, .pointer none⟩
def td145 : TD := ⟨(TypeDesc.pointer 110), 1, 8, .pointer none⟩
def td146 : TD := ⟨(TypeDesc.int IntKind.u64), 1, 8, .int .u64 0⟩
def td147 : TD := ⟨(TypeDesc.func #[] #[27] false), 1, 8, .nilFunc⟩
def td148 : TD := ⟨(TypeDesc.pointer 150), 1, 8, .pointer none⟩
def td149 : TD := ⟨(TypeDesc.struct #[{ name := "addr", type := 148, offset := 0, embedded := false, tag := "", pkgPath := "strings", byteOffset := 0 }, { name := "buf", type := 22, offset := 1, embedded := false, tag := "", pkgPath := "strings", byteOffset := 8 }]), 2, 32, .agg #[.pointer none, .slice none 0 0]⟩
def td150 : TD := ⟨(TypeDesc.struct #[{ name := "addr", type := 148, offset := 0, embedded := false, tag := "", pkgPath := "strings", byteOffset := 0 }, { name := "buf", type := 22, offset := 1, embedded := false, tag := "", pkgPath := "strings", byteOffset := 8 }]), 2, 32, .agg #[.pointer none, .slice none 0 0]⟩
def td154 : TD := ⟨(TypeDesc.func #[9] #[3, 152] false), 1, 8, .nilFunc⟩
def td155 : TD := ⟨(TypeDesc.func #[2, 3] #[9] false), 1, 8, .nilFunc⟩
def td156 : TD := ⟨(TypeDesc.func #[64] #[9] false), 1, 8, .nilFunc⟩
def td157 : TD := ⟨(TypeDesc.func #[] #[9] false), 1, 8, .nilFunc⟩
def td158 : TD := ⟨(TypeDesc.func #[64, 64] #[4] false), 1, 8, .nilFunc⟩
def td159 : TD := ⟨(TypeDesc.func #[81] #[34] false), 1, 8, .nilFunc⟩
def td160 : TD := ⟨(TypeDesc.func #[87] #[34] false), 1, 8, .nilFunc⟩
def td161 : TD := ⟨(TypeDesc.func #[34] #[2] false), 1, 8, .nilFunc⟩
def td162 : TD := ⟨(TypeDesc.func #[100, 34] #[34, 4] false), 1, 8, .nilFunc⟩
def td163 : TD := ⟨(TypeDesc.int IntKind.u32), 1, 4, .int .u32 0⟩
def td164 : TD := ⟨(TypeDesc.func #[34] #[163] false), 1, 8, .nilFunc⟩
def td165 : TD := ⟨(TypeDesc.func #[87] #[27] false), 1, 8, .nilFunc⟩
def td166 : TD := ⟨(TypeDesc.func #[81, 2] #[27] false), 1, 8, .nilFunc⟩
def td167 : TD := ⟨(TypeDesc.func #[64, 64, 28] #[64] false), 1, 8, .nilFunc⟩
def td168 : TD := ⟨(TypeDesc.func #[38, 2] #[3] false), 1, 8, .nilFunc⟩
def td169 : TD := ⟨(TypeDesc.func #[] #[34] false), 1, 8, .nilFunc⟩
def td170 : TD := ⟨(TypeDesc.func #[27] #[9] false), 1, 8, .nilFunc⟩
def td171 : TD := ⟨(TypeDesc.pointer 5), 1, 8, .pointer none⟩
def td172 : TD := ⟨(TypeDesc.func #[122, 122] #[4] false), 1, 8, .nilFunc⟩
def td173 : TD := ⟨(TypeDesc.func #[2] #[34] false), 1, 8, .nilFunc⟩
def td174 : TD := ⟨(TypeDesc.func #[87] #[87] false), 1, 8, .nilFunc⟩
def td175 : TD := ⟨(TypeDesc.func #[2] #[34, 4] false), 1, 8, .nilFunc⟩
def td177 : TD := ⟨(TypeDesc.func #[176] #[176] false), 1, 8, .nilFunc⟩
def td178 : TD := ⟨(TypeDesc.func #[87, 87] #[4] false), 1, 8, .nilFunc⟩
def td179 : TD := ⟨(TypeDesc.func #[163] #[34] false), 1, 8, .nilFunc⟩
def td180 : TD := ⟨(TypeDesc.func #[] #[87] false), 1, 8, .nilFunc⟩
def td181 : TD := ⟨(TypeDesc.func #[117] #[87] false), 1, 8, .nilFunc⟩
def td182 : TD := ⟨(TypeDesc.struct #[{ name := "_interface", type := 17, offset := 0, embedded := false, tag := "", pkgPath := "runtime", byteOffset := 0 }, { name := "concrete", type := 17, offset := 1, embedded := false, tag := "", pkgPath := "runtime", byteOffset := 8 }, { name := "asserted", type := 17, offset := 2, embedded := false, tag := "", pkgPath := "runtime", byteOffset := 16 }, { name := "missingMethod", type := 9, offset := 3, embedded := false, tag := "", pkgPath := "runtime", byteOffset := 24 }]), 4, 40, .agg #[.pointer none, .pointer none, .pointer none, .string ⟨#[]⟩]⟩
def td183 : TD := ⟨(TypeDesc.struct #[{ name := "_interface", type := 17, offset := 0, embedded := false, tag := "", pkgPath := "runtime", byteOffset := 0 }, { name := "concrete", type := 17, offset := 1, embedded := false, tag := "", pkgPath := "runtime", byteOffset := 8 }, { name := "asserted", type := 17, offset := 2, embedded := false, tag := "", pkgPath := "runtime", byteOffset := 16 }, { name := "missingMethod", type := 9, offset := 3, embedded := false, tag := "", pkgPath := "runtime", byteOffset := 24 }]), 4, 40, .agg #[.pointer none, .pointer none, .pointer none, .string ⟨#[]⟩]⟩
def td187 : TD := ⟨(TypeDesc.func #[] #[3] false), 1, 8, .nilFunc⟩
def td188 : TD := ⟨(TypeDesc.int IntKind.u8), 1, 1, .int .u8 0⟩
def td189 : TD := ⟨(TypeDesc.int IntKind.u8), 1, 1, .int .u8 0⟩
def td190 : TD := ⟨(TypeDesc.func #[176, 176] #[4] false), 1, 8, .nilFunc⟩
def td191 : TD := ⟨(TypeDesc.int IntKind.i32), 1, 4, .int .i32 0⟩
def td192 : TD := ⟨(TypeDesc.int IntKind.i32), 1, 4, .int .i32 0⟩
def td193 : TD := ⟨(TypeDesc.struct #[{ name := "Size_", type := 12, offset := 0, embedded := false, tag := "", pkgPath := "", byteOffset := 0 }, { name := "PtrBytes", type := 12, offset := 1, embedded := false, tag := "", pkgPath := "", byteOffset := 8 }, { name := "Hash", type := 163, offset := 2, embedded := false, tag := "", pkgPath := "", byteOffset := 16 }, { name := "TFlag", type := 188, offset := 3, embedded := false, tag := "", pkgPath := "", byteOffset := 20 }, { name := "Align_", type := 5, offset := 4, embedded := false, tag := "", pkgPath := "", byteOffset := 21 }, { name := "FieldAlign_", type := 5, offset := 5, embedded := false, tag := "", pkgPath := "", byteOffset := 22 }, { name := "Kind_", type := 189, offset := 6, embedded := false, tag := "", pkgPath := "", byteOffset := 23 }, { name := "Equal", type := 190, offset := 7, embedded := false, tag := "", pkgPath := "", byteOffset := 24 }, { name := "GCData", type := 171, offset := 8, embedded := false, tag := "", pkgPath := "", byteOffset := 32 }, { name := "Str", type := 191, offset := 9, embedded := false, tag := "", pkgPath := "", byteOffset := 40 }, { name := "PtrToThis", type := 192, offset := 10, embedded := false, tag := "", pkgPath := "", byteOffset := 44 }]), 11, 48, .agg #[.int .u64 0, .int .u64 0, .int .u32 0, .int .u8 0, .int .u8 0, .int .u8 0, .int .u8 0, .nilFunc, .pointer none, .int .i32 0, .int .i32 0]⟩
def td194 : TD := ⟨(TypeDesc.struct #[{ name := "Size_", type := 12, offset := 0, embedded := false, tag := "", pkgPath := "", byteOffset := 0 }, { name := "PtrBytes", type := 12, offset := 1, embedded := false, tag := "", pkgPath := "", byteOffset := 8 }, { name := "Hash", type := 163, offset := 2, embedded := false, tag := "", pkgPath := "", byteOffset := 16 }, { name := "TFlag", type := 188, offset := 3, embedded := false, tag := "", pkgPath := "", byteOffset := 20 }, { name := "Align_", type := 5, offset := 4, embedded := false, tag := "", pkgPath := "", byteOffset := 21 }, { name := "FieldAlign_", type := 5, offset := 5, embedded := false, tag := "", pkgPath := "", byteOffset := 22 }, { name := "Kind_", type := 189, offset := 6, embedded := false, tag := "", pkgPath := "", byteOffset := 23 }, { name := "Equal", type := 190, offset := 7, embedded := false, tag := "", pkgPath := "", byteOffset := 24 }, { name := "GCData", type := 171, offset := 8, embedded := false, tag := "", pkgPath := "", byteOffset := 32 }, { name := "Str", type := 191, offset := 9, embedded := false, tag := "", pkgPath := "", byteOffset := 40 }, { name := "PtrToThis", type := 192, offset := 10, embedded := false, tag := "", pkgPath := "", byteOffset := 44 }]), 11, 48, .agg #[.int .u64 0, .int .u64 0, .int .u32 0, .int .u8 0, .int .u8 0, .int .u8 0, .int .u8 0, .nilFunc, .pointer none, .int .i32 0, .int .i32 0]⟩
def td195 : TD := ⟨(TypeDesc.func #[] #[52] false), 1, 8, .nilFunc⟩
inductive TT where
  | leaf
  | node (k : Nat) (v : TD) (l r : TT)
def findT : TT → TypeId → Option TD
  | .leaf, _ => none
  | .node k v l r, t => bif Nat.beq t k then some v else bif Nat.ble t k then findT l t else findT r t
def allT : TT → Prop
  | .leaf => True
  | .node k v l r => TiOk k v ∧ allT l ∧ allT r
theorem findT_ok : ∀ {x : TT}, allT x → TabOk prog (findT x)
  | .leaf, _ => fun t td h => by cases h
  | .node k v l r, h => fun t td ht => by
    unfold findT at ht
    cases hk : Nat.beq t k with
    | true =>
      rw [hk] at ht
      simp only [cond_true, Option.some.injEq] at ht
      subst ht
      rw [Nat.eq_of_beq_eq_true hk]
      have h1 := h.1
      unfold TiOk at h1
      exact h1
    | false =>
      rw [hk] at ht
      cases hl : Nat.ble t k with
      | true => rw [hl] at ht; exact findT_ok h.2.1 t td ht
      | false => rw [hl] at ht; exact findT_ok h.2.2 t td ht
def tabT : TT := (.node 98 td98 (.node 50 td50 (.node 24 td24 (.node 12 td12 (.node 6 td6 (.node 3 td3 (.node 2 td2 (.node 1 td1 .leaf .leaf) .leaf) (.node 5 td5 (.node 4 td4 .leaf .leaf) .leaf)) (.node 9 td9 (.node 8 td8 (.node 7 td7 .leaf .leaf) .leaf) (.node 11 td11 (.node 10 td10 .leaf .leaf) .leaf))) (.node 18 td18 (.node 15 td15 (.node 14 td14 (.node 13 td13 .leaf .leaf) .leaf) (.node 17 td17 (.node 16 td16 .leaf .leaf) .leaf)) (.node 22 td22 (.node 21 td21 (.node 19 td19 .leaf .leaf) .leaf) (.node 23 td23 .leaf .leaf)))) (.node 37 td37 (.node 31 td31 (.node 27 td27 (.node 26 td26 (.node 25 td25 .leaf .leaf) .leaf) (.node 29 td29 (.node 28 td28 .leaf .leaf) .leaf)) (.node 34 td34 (.node 33 td33 (.node 32 td32 .leaf .leaf) .leaf) (.node 36 td36 .leaf .leaf))) (.node 45 td45 (.node 40 td40 (.node 39 td39 (.node 38 td38 .leaf .leaf) .leaf) (.node 43 td43 (.node 41 td41 .leaf .leaf) .leaf)) (.node 48 td48 (.node 47 td47 (.node 46 td46 .leaf .leaf) .leaf) (.node 49 td49 .leaf .leaf))))) (.node 75 td75 (.node 63 td63 (.node 56 td56 (.node 53 td53 (.node 52 td52 (.node 51 td51 .leaf .leaf) .leaf) (.node 55 td55 (.node 54 td54 .leaf .leaf) .leaf)) (.node 60 td60 (.node 59 td59 (.node 58 td58 .leaf .leaf) .leaf) (.node 62 td62 (.node 61 td61 .leaf .leaf) .leaf))) (.node 69 td69 (.node 66 td66 (.node 65 td65 (.node 64 td64 .leaf .leaf) .leaf) (.node 68 td68 (.node 67 td67 .leaf .leaf) .leaf)) (.node 73 td73 (.node 72 td72 (.node 71 td71 .leaf .leaf) .leaf) (.node 74 td74 .leaf .leaf)))) (.node 87 td87 (.node 82 td82 (.node 79 td79 (.node 78 td78 (.node 77 td77 .leaf .leaf) .leaf) (.node 81 td81 (.node 80 td80 .leaf .leaf) .leaf)) (.node 85 td85 (.node 84 td84 (.node 83 td83 .leaf .leaf) .leaf) (.node 86 td86 .leaf .leaf))) (.node 93 td93 (.node 90 td90 (.node 89 td89 (.node 88 td88 .leaf .leaf) .leaf) (.node 92 td92 (.node 91 td91 .leaf .leaf) .leaf)) (.node 96 td96 (.node 95 td95 (.node 94 td94 .leaf .leaf) .leaf) (.node 97 td97 .leaf .leaf)))))) (.node 145 td145 (.node 122 td122 (.node 110 td110 (.node 104 td104 (.node 101 td101 (.node 100 td100 (.node 99 td99 .leaf .leaf) .leaf) (.node 103 td103 (.node 102 td102 .leaf .leaf) .leaf)) (.node 107 td107 (.node 106 td106 (.node 105 td105 .leaf .leaf) .leaf) (.node 109 td109 (.node 108 td108 .leaf .leaf) .leaf))) (.node 117 td117 (.node 114 td114 (.node 112 td112 (.node 111 td111 .leaf .leaf) .leaf) (.node 116 td116 (.node 115 td115 .leaf .leaf) .leaf)) (.node 120 td120 (.node 119 td119 (.node 118 td118 .leaf .leaf) .leaf) (.node 121 td121 .leaf .leaf)))) (.node 134 td134 (.node 129 td129 (.node 126 td126 (.node 124 td124 (.node 123 td123 .leaf .leaf) .leaf) (.node 128 td128 (.node 127 td127 .leaf .leaf) .leaf)) (.node 132 td132 (.node 131 td131 (.node 130 td130 .leaf .leaf) .leaf) (.node 133 td133 .leaf .leaf))) (.node 140 td140 (.node 137 td137 (.node 136 td136 (.node 135 td135 .leaf .leaf) .leaf) (.node 139 td139 (.node 138 td138 .leaf .leaf) .leaf)) (.node 143 td143 (.node 142 td142 (.node 141 td141 .leaf .leaf) .leaf) (.node 144 td144 .leaf .leaf))))) (.node 170 td170 (.node 159 td159 (.node 154 td154 (.node 148 td148 (.node 147 td147 (.node 146 td146 .leaf .leaf) .leaf) (.node 150 td150 (.node 149 td149 .leaf .leaf) .leaf)) (.node 157 td157 (.node 156 td156 (.node 155 td155 .leaf .leaf) .leaf) (.node 158 td158 .leaf .leaf))) (.node 165 td165 (.node 162 td162 (.node 161 td161 (.node 160 td160 .leaf .leaf) .leaf) (.node 164 td164 (.node 163 td163 .leaf .leaf) .leaf)) (.node 168 td168 (.node 167 td167 (.node 166 td166 .leaf .leaf) .leaf) (.node 169 td169 .leaf .leaf)))) (.node 182 td182 (.node 177 td177 (.node 173 td173 (.node 172 td172 (.node 171 td171 .leaf .leaf) .leaf) (.node 175 td175 (.node 174 td174 .leaf .leaf) .leaf)) (.node 180 td180 (.node 179 td179 (.node 178 td178 .leaf .leaf) .leaf) (.node 181 td181 .leaf .leaf))) (.node 191 td191 (.node 188 td188 (.node 187 td187 (.node 183 td183 .leaf .leaf) .leaf) (.node 190 td190 (.node 189 td189 .leaf .leaf) .leaf)) (.node 194 td194 (.node 193 td193 (.node 192 td192 .leaf .leaf) .leaf) (.node 195 td195 .leaf .leaf)))))))
abbrev tab : Tab := findT tabT
theorem hτ : TabOk prog tab := findT_ok (show allT tabT from ⟨tiOk underlying98 ti98, ⟨tiOk underlying50 ti50, ⟨tiOk underlying24 ti24, ⟨tiOk underlying12 ti12, ⟨tiOk underlying6 ti6, ⟨tiOk underlying3 ti3, ⟨tiOk underlying2 ti2, ⟨tiOk underlying1 ti1, trivial, trivial⟩, trivial⟩, ⟨tiOk underlying5 ti5, ⟨tiOk underlying4 ti4, trivial, trivial⟩, trivial⟩⟩, ⟨tiOk underlying9 ti9, ⟨tiOk underlying8 ti8, ⟨tiOk underlying7 ti7, trivial, trivial⟩, trivial⟩, ⟨tiOk underlying11 ti11, ⟨tiOk underlying10 ti10, trivial, trivial⟩, trivial⟩⟩⟩, ⟨tiOk underlying18 ti18, ⟨tiOk underlying15 ti15, ⟨tiOk underlying14 ti14, ⟨tiOk underlying13 ti13, trivial, trivial⟩, trivial⟩, ⟨tiOk underlying17 ti17, ⟨tiOk underlying16 ti16, trivial, trivial⟩, trivial⟩⟩, ⟨tiOk underlying22 ti22, ⟨tiOk underlying21 ti21, ⟨tiOk underlying19 ti19, trivial, trivial⟩, trivial⟩, ⟨tiOk underlying23 ti23, trivial, trivial⟩⟩⟩⟩, ⟨tiOk underlying37 ti37, ⟨tiOk underlying31 ti31, ⟨tiOk underlying27 ti27, ⟨tiOk underlying26 ti26, ⟨tiOk underlying25 ti25, trivial, trivial⟩, trivial⟩, ⟨tiOk underlying29 ti29, ⟨tiOk underlying28 ti28, trivial, trivial⟩, trivial⟩⟩, ⟨tiOk underlying34 ti34, ⟨tiOk underlying33 ti33, ⟨tiOk underlying32 ti32, trivial, trivial⟩, trivial⟩, ⟨tiOk underlying36 ti36, trivial, trivial⟩⟩⟩, ⟨tiOk underlying45 ti45, ⟨tiOk underlying40 ti40, ⟨tiOk underlying39 ti39, ⟨tiOk underlying38 ti38, trivial, trivial⟩, trivial⟩, ⟨tiOk underlying43 ti43, ⟨tiOk underlying41 ti41, trivial, trivial⟩, trivial⟩⟩, ⟨tiOk underlying48 ti48, ⟨tiOk underlying47 ti47, ⟨tiOk underlying46 ti46, trivial, trivial⟩, trivial⟩, ⟨tiOk underlying49 ti49, trivial, trivial⟩⟩⟩⟩⟩, ⟨tiOk underlying75 ti75, ⟨tiOk underlying63 ti63, ⟨tiOk underlying56 ti56, ⟨tiOk underlying53 ti53, ⟨tiOk underlying52 ti52, ⟨tiOk underlying51 ti51, trivial, trivial⟩, trivial⟩, ⟨tiOk underlying55 ti55, ⟨tiOk underlying54 ti54, trivial, trivial⟩, trivial⟩⟩, ⟨tiOk underlying60 ti60, ⟨tiOk underlying59 ti59, ⟨tiOk underlying58 ti58, trivial, trivial⟩, trivial⟩, ⟨tiOk underlying62 ti62, ⟨tiOk underlying61 ti61, trivial, trivial⟩, trivial⟩⟩⟩, ⟨tiOk underlying69 ti69, ⟨tiOk underlying66 ti66, ⟨tiOk underlying65 ti65, ⟨tiOk underlying64 ti64, trivial, trivial⟩, trivial⟩, ⟨tiOk underlying68 ti68, ⟨tiOk underlying67 ti67, trivial, trivial⟩, trivial⟩⟩, ⟨tiOk underlying73 ti73, ⟨tiOk underlying72 ti72, ⟨tiOk underlying71 ti71, trivial, trivial⟩, trivial⟩, ⟨tiOk underlying74 ti74, trivial, trivial⟩⟩⟩⟩, ⟨tiOk underlying87 ti87, ⟨tiOk underlying82 ti82, ⟨tiOk underlying79 ti79, ⟨tiOk underlying78 ti78, ⟨tiOk underlying77 ti77, trivial, trivial⟩, trivial⟩, ⟨tiOk underlying81 ti81, ⟨tiOk underlying80 ti80, trivial, trivial⟩, trivial⟩⟩, ⟨tiOk underlying85 ti85, ⟨tiOk underlying84 ti84, ⟨tiOk underlying83 ti83, trivial, trivial⟩, trivial⟩, ⟨tiOk underlying86 ti86, trivial, trivial⟩⟩⟩, ⟨tiOk underlying93 ti93, ⟨tiOk underlying90 ti90, ⟨tiOk underlying89 ti89, ⟨tiOk underlying88 ti88, trivial, trivial⟩, trivial⟩, ⟨tiOk underlying92 ti92, ⟨tiOk underlying91 ti91, trivial, trivial⟩, trivial⟩⟩, ⟨tiOk underlying96 ti96, ⟨tiOk underlying95 ti95, ⟨tiOk underlying94 ti94, trivial, trivial⟩, trivial⟩, ⟨tiOk underlying97 ti97, trivial, trivial⟩⟩⟩⟩⟩⟩, ⟨tiOk underlying145 ti145, ⟨tiOk underlying122 ti122, ⟨tiOk underlying110 ti110, ⟨tiOk underlying104 ti104, ⟨tiOk underlying101 ti101, ⟨tiOk underlying100 ti100, ⟨tiOk underlying99 ti99, trivial, trivial⟩, trivial⟩, ⟨tiOk underlying103 ti103, ⟨tiOk underlying102 ti102, trivial, trivial⟩, trivial⟩⟩, ⟨tiOk underlying107 ti107, ⟨tiOk underlying106 ti106, ⟨tiOk underlying105 ti105, trivial, trivial⟩, trivial⟩, ⟨tiOk underlying109 ti109, ⟨tiOk underlying108 ti108, trivial, trivial⟩, trivial⟩⟩⟩, ⟨tiOk underlying117 ti117, ⟨tiOk underlying114 ti114, ⟨tiOk underlying112 ti112, ⟨tiOk underlying111 ti111, trivial, trivial⟩, trivial⟩, ⟨tiOk underlying116 ti116, ⟨tiOk underlying115 ti115, trivial, trivial⟩, trivial⟩⟩, ⟨tiOk underlying120 ti120, ⟨tiOk underlying119 ti119, ⟨tiOk underlying118 ti118, trivial, trivial⟩, trivial⟩, ⟨tiOk underlying121 ti121, trivial, trivial⟩⟩⟩⟩, ⟨tiOk underlying134 ti134, ⟨tiOk underlying129 ti129, ⟨tiOk underlying126 ti126, ⟨tiOk underlying124 ti124, ⟨tiOk underlying123 ti123, trivial, trivial⟩, trivial⟩, ⟨tiOk underlying128 ti128, ⟨tiOk underlying127 ti127, trivial, trivial⟩, trivial⟩⟩, ⟨tiOk underlying132 ti132, ⟨tiOk underlying131 ti131, ⟨tiOk underlying130 ti130, trivial, trivial⟩, trivial⟩, ⟨tiOk underlying133 ti133, trivial, trivial⟩⟩⟩, ⟨tiOk underlying140 ti140, ⟨tiOk underlying137 ti137, ⟨tiOk underlying136 ti136, ⟨tiOk underlying135 ti135, trivial, trivial⟩, trivial⟩, ⟨tiOk underlying139 ti139, ⟨tiOk underlying138 ti138, trivial, trivial⟩, trivial⟩⟩, ⟨tiOk underlying143 ti143, ⟨tiOk underlying142 ti142, ⟨tiOk underlying141 ti141, trivial, trivial⟩, trivial⟩, ⟨tiOk underlying144 ti144, trivial, trivial⟩⟩⟩⟩⟩, ⟨tiOk underlying170 ti170, ⟨tiOk underlying159 ti159, ⟨tiOk underlying154 ti154, ⟨tiOk underlying148 ti148, ⟨tiOk underlying147 ti147, ⟨tiOk underlying146 ti146, trivial, trivial⟩, trivial⟩, ⟨tiOk underlying150 ti150, ⟨tiOk underlying149 ti149, trivial, trivial⟩, trivial⟩⟩, ⟨tiOk underlying157 ti157, ⟨tiOk underlying156 ti156, ⟨tiOk underlying155 ti155, trivial, trivial⟩, trivial⟩, ⟨tiOk underlying158 ti158, trivial, trivial⟩⟩⟩, ⟨tiOk underlying165 ti165, ⟨tiOk underlying162 ti162, ⟨tiOk underlying161 ti161, ⟨tiOk underlying160 ti160, trivial, trivial⟩, trivial⟩, ⟨tiOk underlying164 ti164, ⟨tiOk underlying163 ti163, trivial, trivial⟩, trivial⟩⟩, ⟨tiOk underlying168 ti168, ⟨tiOk underlying167 ti167, ⟨tiOk underlying166 ti166, trivial, trivial⟩, trivial⟩, ⟨tiOk underlying169 ti169, trivial, trivial⟩⟩⟩⟩, ⟨tiOk underlying182 ti182, ⟨tiOk underlying177 ti177, ⟨tiOk underlying173 ti173, ⟨tiOk underlying172 ti172, ⟨tiOk underlying171 ti171, trivial, trivial⟩, trivial⟩, ⟨tiOk underlying175 ti175, ⟨tiOk underlying174 ti174, trivial, trivial⟩, trivial⟩⟩, ⟨tiOk underlying180 ti180, ⟨tiOk underlying179 ti179, ⟨tiOk underlying178 ti178, trivial, trivial⟩, trivial⟩, ⟨tiOk underlying181 ti181, trivial, trivial⟩⟩⟩, ⟨tiOk underlying191 ti191, ⟨tiOk underlying188 ti188, ⟨tiOk underlying187 ti187, ⟨tiOk underlying183 ti183, trivial, trivial⟩, trivial⟩, ⟨tiOk underlying190 ti190, ⟨tiOk underlying189 ti189, trivial, trivial⟩, trivial⟩⟩, ⟨tiOk underlying194 ti194, ⟨tiOk underlying193 ti193, ⟨tiOk underlying192 ti192, trivial, trivial⟩, trivial⟩, ⟨tiOk underlying195 ti195, trivial, trivial⟩⟩⟩⟩⟩⟩⟩)
theorem mixed : prog.follows .mixedOrders = true := by kernel_rfl
end Go.Proofs.Ytolggocnbakokaa.AWN

namespace Go.Proofs.Ytolggocnbakokaa.AWN
open Go Go.Shelf Go.RowKit Go.Proofs.Try
def bStr_ren : Go.Shelf.Ren := ⟨fun | 169 => 115 | n => n, fun | 70 => 148 | 9 => 9 | 0 => 0 | 72 => 150 | 37 => 22 | 127 => 171 | 3 => 3 | 5 => 5 | n => n, fun | n => n⟩
theorem bStr : Go.Proofs.Lays.n169 prog bStr_ren := {
  mixed := by kernel_rfl
  f169 := Try.func115.trans (congrArg some (by kernel_rfl))
  t0 := Try.underlying0
  a0 := Try.isAgg0
  z0 := Try.sizeOf0
  v0 := Try.zeroValue0
  t3 := Try.underlying3
  a3 := Try.isAgg3
  z3 := Try.sizeOf3
  v3 := Try.zeroValue3
  t9 := Try.underlying9
  a9 := Try.isAgg9
  z9 := Try.sizeOf9
  v9 := Try.zeroValue9
  t37 := Try.underlying22
  a37 := Try.isAgg22
  z37 := Try.sizeOf22
  v37 := Try.zeroValue22
  t70 := Try.underlying148
  a70 := Try.isAgg148
  z70 := Try.sizeOf148
  v70 := Try.zeroValue148
  t72 := Try.underlying150
  a72 := Try.isAgg150
  z72 := Try.sizeOf150
  v72 := Try.zeroValue150
  t127 := Try.underlying171
  a127 := Try.isAgg171
  z127 := Try.sizeOf171
  v127 := Try.zeroValue171 }

theorem szB : (prog.info? 150).map (·.size) = some 2 := by kernel_rfl
theorem liesB : liesAt prog prog.depth 150 (2 / prog.cellsOf 150) 0 150 1 = true := by kernel_rfl
theorem infB : (prog.info? 5).map (fun i => (i.zero, i.size, i.bytes)) = some (some (.int .u8 0), 1, 1) := by kernel_rfl
theorem mixB : prog.follows .mixedOrders = true := by kernel_rfl
set_option maxHeartbeats 1000000 in
set_option maxRecDepth 100000 in
theorem cc_used (b : Nat) (w : World) (h0 : w.cell? ⟨b, 0, none⟩ = some (.pointer (some ⟨b, 0, none⟩))) :
    Calls prog 134 #[.pointer (some ⟨b, 0, none⟩)] w fun e w' => e = .returned (.tuple #[]) ∧ w' = w := by
  obtain ⟨j, hj, _⟩ := Option.map_eq_some_iff.1 szB
  have mixed := mixB
  have t72 := Try.underlying150; have a72 := Try.isAgg150; have z72 := Try.sizeOf150; have v72 := Try.zeroValue150; have u72 := run_underlying Try.underlying150
  have t70 := Try.underlying148; have a70 := Try.isAgg148; have z70 := Try.sizeOf148; have v70 := Try.zeroValue148; have u70 := run_underlying Try.underlying148
  have t9 := Try.underlying9; have a9 := Try.isAgg9; have z9 := Try.sizeOf9; have v9 := Try.zeroValue9; have u9 := run_underlying Try.underlying9
  have t4 := Try.underlying4; have a4 := Try.isAgg4; have z4 := Try.sizeOf4; have v4 := Try.zeroValue4; have u4 := run_underlying Try.underlying4
  have t164 := Try.underlying176; have a164 := Try.isAgg176; have z164 := Try.sizeOf176; have v164 := Try.zeroValue176; have u164 := run_underlying Try.underlying176
  go_enter Try.func134, Try.ntmps134
  go_wp2
  rw [Lib.run_neq_ptr_same w _ Try.underlying148 hj]
  go_wp2
  go_end0
  exact ⟨rfl, rfl⟩
set_option maxHeartbeats 1000000 in
set_option maxRecDepth 100000 in
theorem cc_fresh (b : Nat) (w : World) (h0 : w.cell? ⟨b, 0, none⟩ = some (.pointer none)) (hsh : w.shape? b = some (150, 2)) (hfz : w.frozen? ⟨b, 0, none⟩ = false) :
    Calls prog 134 #[.pointer (some ⟨b, 0, none⟩)] w fun e w' => e = .returned (.tuple #[]) ∧ w' = w.setCell ⟨b, 0, none⟩ (.pointer (some ⟨b, 0, none⟩)) := by
  obtain ⟨j, hj, hjs⟩ := Option.map_eq_some_iff.1 szB
  have mixed := mixB
  have t72 := Try.underlying150; have a72 := Try.isAgg150; have z72 := Try.sizeOf150; have v72 := Try.zeroValue150; have u72 := run_underlying Try.underlying150
  have t70 := Try.underlying148; have a70 := Try.isAgg148; have z70 := Try.sizeOf148; have v70 := Try.zeroValue148; have u70 := run_underlying Try.underlying148
  have t9 := Try.underlying9; have a9 := Try.isAgg9; have z9 := Try.sizeOf9; have v9 := Try.zeroValue9; have u9 := run_underlying Try.underlying9
  have t4 := Try.underlying4; have a4 := Try.isAgg4; have z4 := Try.sizeOf4; have v4 := Try.zeroValue4; have u4 := run_underlying Try.underlying4
  have t164 := Try.underlying176; have a164 := Try.isAgg176; have z164 := Try.sizeOf176; have v164 := Try.zeroValue176; have u164 := run_underlying Try.underlying176
  go_enter Try.func134, Try.ntmps134
  go_wp2
  rw [Lib.run_to_unsafe w ⟨b, 0, none⟩ Try.underlying148 Try.underlying176 hj (by rw [hjs]; decide) hsh (Nat.zero_lt_succ 1)]
  simp only [Result.andThen]
  rw [Oper.upon_value]
  go_wp2
  rw [run_callFunc_extern Try.func143 (by kernel_rfl) (by kernel_rfl) (by kernel_rfl) (e := Extern.AbiNoEscape.same) (by kernel_rfl)]
  rw [Lib.run_noEscape]
  simp only [Result.andThen]
  rw [Oper.upon_value]
  go_wp2
  rw [Lib.run_from_unsafe w ⟨b, 0, none⟩ Try.underlying176 Try.underlying148 hj hsh liesB]
  simp only [Result.andThen]
  rw [Oper.upon_value]
  go_wp2
  go_end0
  exact ⟨rfl, rfl⟩
theorem cc_walk (B b : Nat) (bs : List Value) (w : World) (h : Lib.IsBuilder 150 5 B b bs w) :
    Calls prog 134 #[.pointer (some ⟨b, 0, none⟩)] w fun e w' => e = .returned (.tuple #[]) ∧ (Lib.BuilderAt 150 5 B b (.pointer (some ⟨b, 0, none⟩)) bs w' ∧ Below B w w' ∧ Lib.OthersKept 5 (some b) w w') := by
  rcases h with h | h
  · refine (cc_fresh b w h.cell0 h.shape h.frozen0).mono ?_
    rintro e w' ⟨rfl, rfl⟩
    exact ⟨rfl, h.used _, (Below.refl B w).setCell (p := ⟨b, 0, none⟩) h.1 _, (Lib.OthersKept.refl _ _ w).setCell ⟨b, 0, none⟩ rfl _⟩
  · refine (cc_used b w h.cell0).mono ?_
    rintro e w' ⟨rfl, rfl⟩
    exact ⟨rfl, h, Below.refl B _, Lib.OthersKept.refl _ _ _⟩
set_option maxHeartbeats 2000000 in
set_option maxRecDepth 100000 in
theorem ws_kept (B b : Nat) (bs : List Value) (s : ByteArray) (w : World) (h : Lib.IsBuilder 150 5 B b bs w) (hlen : bs.length + s.size ≤ 140737488355328) (hBw : B ≤ w.heap.size) :
    Calls prog 112 #[.pointer (some ⟨b, 0, none⟩), .string s] w fun e w' => e = .returned (.tuple #[.int .i64 s.size, .nilIface]) ∧ (Lib.BuilderAt 150 5 B b (.pointer (some ⟨b, 0, none⟩)) (bs ++ Lib.strCells s) w' ∧ Below B w w' ∧ Lib.OthersKept 5 (some b) w w') := by
  obtain ⟨i0, hi, hz0, hz1, hz2⟩ := info_parts infB
  have mixed := mixB
  have t72 := Try.underlying150; have a72 := Try.isAgg150; have z72 := Try.sizeOf150; have v72 := Try.zeroValue150; have u72 := run_underlying Try.underlying150
  have t70 := Try.underlying148; have a70 := Try.isAgg148; have z70 := Try.sizeOf148; have v70 := Try.zeroValue148; have u70 := run_underlying Try.underlying148
  have t37 := Try.underlying22; have a37 := Try.isAgg22; have z37 := Try.sizeOf22; have v37 := Try.zeroValue22; have u37 := run_underlying Try.underlying22
  have t3 := Try.underlying3; have a3 := Try.isAgg3; have z3 := Try.sizeOf3; have v3 := Try.zeroValue3; have u3 := run_underlying Try.underlying3
  have t9 := Try.underlying9; have a9 := Try.isAgg9; have z9 := Try.sizeOf9; have v9 := Try.zeroValue9; have u9 := run_underlying Try.underlying9
  have t4 := Try.underlying4; have a4 := Try.isAgg4; have z4 := Try.sizeOf4; have v4 := Try.zeroValue4; have u4 := run_underlying Try.underlying4
  have t164 := Try.underlying176; have a164 := Try.isAgg176; have z164 := Try.sizeOf176; have v164 := Try.zeroValue176; have u164 := run_underlying Try.underlying176
  have t5 := Try.underlying5; have a5 := Try.isAgg5; have z5 := Try.sizeOf5; have v5 := Try.zeroValue5; have u5 := run_underlying Try.underlying5
  have e240 : ∀ args w, (callFunc 134 args).run prog w = .ok (.enter 134 args) w := enters_of Try.func134 (by kernel_rfl) rfl
  go_enter Try.func112, Try.ntmps112
  go_wp2_with (go_at_fn 134; refine (cc_walk B b bs _ h).mono ?_)
  rintro e w1 ⟨rfl, h1, hb1, hk1⟩
  obtain ⟨hB, v, hbk, hown, hne⟩ := h1
  have c0 : w1.cell? ⟨b, 0, none⟩ = some (.pointer (some ⟨b, 0, none⟩)) := by rw [Lib.cell_of_heap hbk]; rfl
  have c1 : w1.cell? ⟨b, 1, none⟩ = some v := by rw [Lib.cell_of_heap hbk]; rfl
  go_wp2_with (at_builtin; refine Lib.wpList_append_own_string _ rfl _ _ 22 9 rfl B 5 i0 Try.underlying22 Try.underlying9 hi hz0 hz1 hz2 _ _ _ rfl hown s rfl ?c3 ?c4 ?c5 ?_)
  case c3 => unfold maxLen; omega
  case c4 => omega
  case c5 => have := hb1.size; omega
  intro v' w2 hown' hgrow _
  have hlt : b < w1.heap.size := by
    rcases Nat.lt_or_ge b w1.heap.size with h' | h'
    · exact h'
    · simp [Array.getElem?_eq_none h'] at hbk
  have hb2 : w2.heap[b]? = some (.cells #[.pointer (some ⟨b, 0, none⟩), v] 150 (0, 0)) := by
    rw [hgrow.block b hlt (fun e => hne e.symm)]
    exact hbk
  have d0 : w2.cell? ⟨b, 0, none⟩ = some (.pointer (some ⟨b, 0, none⟩)) := by rw [Lib.cell_of_heap hb2]; rfl
  have d1 : w2.cell? ⟨b, 1, none⟩ = some v := by rw [Lib.cell_of_heap hb2]; rfl
  have f1 : w2.frozen? ⟨b, 1, none⟩ = false := Lib.frozen_of_heap hb2 1
  obtain ⟨ao, n', cap, rfl⟩ : ∃ ao n' cap, v' = .slice ao n' cap := by
    rcases hown'.2 with ⟨hv, _⟩ | ⟨g, cap, cur, hv, _⟩
    · exact ⟨_, _, _, hv⟩
    · exact ⟨_, _, _, hv⟩
  go_wp2
  go_ret2
  refine ⟨rfl, ?_, ?_, (hk1.grown hgrow (Lib.ownsRow_kind hown)).setCell ⟨b, 1, none⟩ rfl _⟩
  · exact Lib.BuilderAt.put (T := 150) (e := 5) hB hb2 (bs' := bs ++ Lib.strCells s) (by simpa [Lib.strCells_length] using hown') (by decide)
  · exact (hb1.grown hgrow (by have := hb1.size; omega) (fun k hk => (hown.lt k hk).1)).setCell (p := ⟨b, 1, none⟩) hB _
theorem ws_walk (B b : Nat) (bs : List Value) (s : ByteArray) (w : World) (h : Lib.IsBuilder 150 5 B b bs w) (hlen : bs.length + s.size ≤ 140737488355328) (hBw : B ≤ w.heap.size) :
    Calls prog 112 #[.pointer (some ⟨b, 0, none⟩), .string s] w fun e w' => e = .returned (.tuple #[.int .i64 s.size, .nilIface]) ∧ (Lib.BuilderAt 150 5 B b (.pointer (some ⟨b, 0, none⟩)) (bs ++ Lib.strCells s) w' ∧ Below B w w') :=
  (ws_kept B b bs s w h hlen hBw).mono fun e w' h => ⟨h.1, h.2.1, h.2.2.1⟩
set_option maxRecDepth 100000 in
theorem exB : Builder.Extra prog bStr_ren := {
  sizeBuilder := szB
  liesBuilder := liesB
  t5 := Try.underlying5
  a5 := Try.isAgg5
  z5 := Try.sizeOf5
  v5 := Try.zeroValue5
  infoByte := infB
  cellsByte := by kernel_rfl
  sizeByte := by kernel_rfl
  neB5 := by decide }
theorem str_walk (B b : Nat) (l : List UInt8) (w : World) (h : Lib.IsBuilder 150 5 B b (Lib.byteCells l) w) (hBw : B ≤ w.heap.size) :
    Calls prog 115 #[.pointer (some ⟨b, 0, none⟩)] w fun e w' => e = .returned (.string ⟨l.toArray⟩) ∧ Below B w w' :=
  (Any.Builder_String_any bStr exB B b l w h hBw).mono fun e w' h => ⟨h.1, by first | exact h.2 | exact h.2.2 | exact h.2.1⟩
end Go.Proofs.Ytolggocnbakokaa.AWN

namespace Go.Proofs.Ytolggocnbakokaa.AWN
open Go Go.Shelf Go.RowKit Go.Proofs.Try

theorem bld_kept {B b : Nat} {p : Value} {bs : List Value} {w w' : World} (h : Lib.BuilderAt 150 5 B b p bs w) (k : Below w.heap.size w w') : Lib.BuilderAt 150 5 B b p bs w' := by
  have hlt := h.lt
  obtain ⟨hB, v, hb, hown, hne⟩ := h
  refine ⟨hB, v, (k.block b hlt).trans hb, hown.kept (row := none) ⟨k.os, k.tape, k.output, k.size, fun i hi _ => k.block i hi⟩ (by cases hv : v.ownBlock <;> simp), hne⟩
theorem isb_kept {B b : Nat} {bs : List Value} {w w' : World} (h : Lib.IsBuilder 150 5 B b bs w) (k : Below w.heap.size w w') : Lib.IsBuilder 150 5 B b bs w' := h.imp (fun h => bld_kept h k) fun h => bld_kept h k
theorem cells_str (s : Str) : Lib.strCells (bstr s) = Lib.byteCells s := by
  rw [Lib.strCells_eq]; rfl
theorem cells_app (s t : Str) : Lib.byteCells s ++ Lib.byteCells t = Lib.byteCells (s ++ t) := by
  unfold Lib.byteCells; rw [List.map_append]

/-- The text of a flow: of each pair of phases the texts 'x k', 'y k'. -/
def flowT (x y : Nat → Str) (out : Str) : Nat → Str
  | 0 => out
  | k + 1 => flowT x y out k ++ (x k ++ y k)

theorem st1 (wr : World) (i : Nat) (cs : Array Value) (hi : i < cs.size) (v : Value) (hv : v.oneCell' = true) (T : TypeId) : (store ⟨wr.heap.size, i, none⟩ v).run prog (wr.alloc (.cells cs T)) = .ok () (wr.alloc (.cells (cs.modify i fun _ => v) T)) := by
  have h : (wr.alloc (.cells cs T)).heap[wr.heap.size]? = some (.cells cs T (0, 0)) := heap_alloc_new wr _
  rw [run_store _ _ _ _ _ hv, Lib.cell_of_heap h, Array.getElem?_eq_getElem hi]
  dsimp only
  rw [Lib.frozen_of_heap h, World.setCell_alloc_at _ _ _ _ _ rfl]
  rfl
theorem put3 (wr : World) (a b c d e f : Nat) (z : Value) (T : TypeId) : ((((store ⟨wr.heap.size, 0, none⟩ (.complex .f32 a b)).run prog (wr.alloc (.cells #[z, z, z] T))).andThen fun _ w' =>
    ((store ⟨wr.heap.size, 1, none⟩ (.complex .f32 c d)).run prog w').andThen fun _ w' => (store ⟨wr.heap.size, 2, none⟩ (.complex .f32 e f)).run prog w').andThen fun _ w' => Result.ok Next.skip w') = Result.ok Next.skip (wr.alloc (.cells #[.complex .f32 a b, .complex .f32 c d, .complex .f32 e f] T)) := by
  rw [st1 _ _ _ (by simp) _ rfl]
  dsimp only [Result.andThen]
  rw [st1 _ _ _ (by simp) _ rfl]
  dsimp only
  rw [st1 _ _ _ (by simp) _ rfl]
  rfl
set_option maxHeartbeats 4000000 in
set_option maxRecDepth 100000 in
/-- The walk: 'hx', 'hy': what phasesOf says of the phases as they lie in memory. -/
theorem flow_walk (w : World) (a0 a1 : Option Addr) (n cap0 n1 cap1 : Nat) (R : Int) (rests : Bool) (P1 P2 P3 P1' P2' P3' Q1 Q2 Q3 Q1' Q2' Q3' : Nat → Nat) (x y : Nat → Str) (s1 s2 : Str)
    (hn : 1 ≤ n ∧ n ≤ 16) (hn1 : n1 = n) (hR : 0 ≤ R ∧ R ≤ 50)
    (hin : ∀ wr (k lo hi : Int), Calls prog 60 #[.int .i64 k, .int .i64 lo, .int .i64 hi] wr fun e w' => e = .returned (.bool (decide (lo ≤ k ∧ k ≤ hi))) ∧ Below wr.heap.size wr w')
    (hb1 : ∀ wr, Calls prog 113 #[.int .i64 R, .int .i64 1] wr fun e w' => e = .returned (.string (bstr s1)) ∧ Below wr.heap.size wr w')
    (hb2 : ∀ wr, Calls prog 113 #[.int .i64 (if rests then 1 else 0), .int .i64 1] wr fun e w' => e = .returned (.string (bstr s2)) ∧ Below wr.heap.size wr w')
    (hx : ∀ k, k < n → ∀ wr, Calls prog 114 #[.agg #[.complex .f32 (P1 k) (P1' k), .complex .f32 (P2 k) (P2' k), .complex .f32 (P3 k) (P3' k)]] wr fun e w' => e = .returned (.string (bstr (x k))) ∧ Below wr.heap.size wr w')
    (hy : ∀ k, k < n → ∀ wr, Calls prog 114 #[.agg #[.complex .f32 (Q1 k) (Q1' k), .complex .f32 (Q2 k) (Q2' k), .complex .f32 (Q3 k) (Q3' k)]] wr fun e w' => e = .returned (.string (bstr (y k))) ∧ Below wr.heap.size wr w')
    (hc0 : ∀ k, k < n → ∃ b o, a0 = some ⟨b, o, none⟩ ∧ b < w.heap.size ∧ w.cell? ⟨b, o + k * 3, none⟩ = some (.complex .f32 (P1 k) (P1' k)) ∧ w.cell? ⟨b, o + k * 3 + 1, none⟩ = some (.complex .f32 (P2 k) (P2' k)) ∧ w.cell? ⟨b, o + k * 3 + 2, none⟩ = some (.complex .f32 (P3 k) (P3' k)))
    (hc1 : ∀ k, k < n → ∃ b o, a1 = some ⟨b, o, none⟩ ∧ b < w.heap.size ∧ w.cell? ⟨b, o + k * 3, none⟩ = some (.complex .f32 (Q1 k) (Q1' k)) ∧ w.cell? ⟨b, o + k * 3 + 1, none⟩ = some (.complex .f32 (Q2 k) (Q2' k)) ∧ w.cell? ⟨b, o + k * 3 + 2, none⟩ = some (.complex .f32 (Q3 k) (Q3' k)))
    (hlen : s1.length + s2.length ≤ 1000 ∧ ∀ k, (x k).length ≤ 1000 ∧ (y k).length ≤ 1000) :
    Calls prog 84 #[.agg #[.slice a0 n cap0, .slice a1 n1 cap1, .int .i64 R, .bool rests]] w fun e w' => e = .returned (.tuple #[.string (bstr (flowT x y (s1 ++ s2) n)), .bool true]) ∧ Below w.heap.size w w' := by
  subst hn1
  obtain ⟨hl12, hlk⟩ := hlen
  have hs1 := bstr_size s1
  have hs2 := bstr_size s2
  obtain ⟨W0, hW0⟩ : ∃ W0, W0 = w.alloc (.cells #[.slice a0 n1 cap0, .slice a1 n1 cap1, .int .i64 R, .bool rests] 75) := ⟨_, rfl⟩
  have z0 : W0.heap.size = w.heap.size + 1 := by rw [hW0]; simp
  have bel0 : Below w.heap.size w W0 := by rw [hW0]; exact (Below.refl _ w).alloc (Nat.le_refl _) _
  have g0 : W0.cell? ⟨w.heap.size, 0, none⟩ = some (.slice a0 n1 cap0) := by rw [hW0, Lib.cell_of_heap (heap_alloc_new w _)]; rfl
  have g1 : W0.cell? ⟨w.heap.size, 1, none⟩ = some (.slice a1 n1 cap1) := by rw [hW0, Lib.cell_of_heap (heap_alloc_new w _)]; rfl
  have g2 : W0.cell? ⟨w.heap.size, 2, none⟩ = some (.int .i64 R) := by rw [hW0, Lib.cell_of_heap (heap_alloc_new w _)]; rfl
  have g3 : W0.cell? ⟨w.heap.size, 3, none⟩ = some (.bool rests) := by rw [hW0, Lib.cell_of_heap (heap_alloc_new w _)]; rfl
  go_enter Try.func84, Try.ntmps84
  go_wp2_with (go_at_call 60; refine (hin _ _ _ _).mono ?_)
  rw [← hW0]
  first | rintro e w1 ⟨rfl, b1⟩ | rintro e w1 rfl b1
  have hd1 : decide ((1 : Int) ≤ (n1 : Int) ∧ (n1 : Int) ≤ 16) = true := decide_eq_true ⟨by omega, by omega⟩
  have l1 : w.heap.size < W0.heap.size := by omega
  have g0 := (b1.cell (p := ⟨w.heap.size, 0, none⟩) l1).trans g0
  have g1 := (b1.cell (p := ⟨w.heap.size, 1, none⟩) l1).trans g1
  have g2 := (b1.cell (p := ⟨w.heap.size, 2, none⟩) l1).trans g2
  have g3 := (b1.cell (p := ⟨w.heap.size, 3, none⟩) l1).trans g3
  go_wp2_with (go_at_call 60; refine (hin _ _ _ _).mono ?_)
  first | rintro e w2 ⟨rfl, b2⟩ | rintro e w2 rfl b2
  have hd2 : decide ((0 : Int) ≤ R ∧ R ≤ 50) = true := decide_eq_true hR
  have l2 : w.heap.size < w1.heap.size := by have := b1.size; omega
  have g0 := (b2.cell (p := ⟨w.heap.size, 0, none⟩) l2).trans g0
  have g1 := (b2.cell (p := ⟨w.heap.size, 1, none⟩) l2).trans g1
  have g2 := (b2.cell (p := ⟨w.heap.size, 2, none⟩) l2).trans g2
  have g3 := (b2.cell (p := ⟨w.heap.size, 3, none⟩) l2).trans g3
  have l3 : w.heap.size < w2.heap.size := by have := b2.size; omega
  have bel2 : Below w.heap.size w w2 := (bel0.trans (b1.mono (by omega))).trans (b2.mono (by omega))
  clear b1 b2 hW0 z0 bel0 l1 l2
  obtain ⟨W2, hW2⟩ : ∃ W2, W2 = w2.alloc (.cells #[.pointer none, .slice none 0 0] 150) := ⟨_, rfl⟩
  have hB2 : Lib.IsBuilder 150 5 w2.heap.size w2.heap.size [] W2 := by rw [hW2]; exact Lib.fresh_isBuilder 150 5 w2
  have b2 : Below w2.heap.size w2 W2 := by rw [hW2]; exact (Below.refl _ w2).alloc (Nat.le_refl _) _
  have k0 := (b2.cell (p := ⟨w.heap.size, 0, none⟩) l3).trans g0
  have k1 := (b2.cell (p := ⟨w.heap.size, 1, none⟩) l3).trans g1
  have k2 := (b2.cell (p := ⟨w.heap.size, 2, none⟩) l3).trans g2
  have k3 := (b2.cell (p := ⟨w.heap.size, 3, none⟩) l3).trans g3
  cases rests
  · simp only [Bool.false_eq_true, if_false] at hb2
    go_wp2_with (go_at_call 113; refine (hb1 _).mono ?_)
    rw [← hW2]
    first | rintro e w3 ⟨rfl, b3⟩ | rintro e w3 rfl b3
    have hB3 := isb_kept hB2 b3
    have b23 := b2.trans (b3.mono b2.size)
    go_wp2_with (go_at_call 113; refine (hb2 _).mono ?_)
    first | rintro e w4 ⟨rfl, b4⟩ | rintro e w4 rfl b4
    have hB4 := isb_kept hB3 b4
    have b24 := b23.trans (b4.mono b23.size)
    clear hB2 hB3 b2 b3 b4 b23 k0 k1 k2 k3
    go_wp2_with (go_at_call 112; refine (ws_walk _ _ _ _ _ hB4 ?c1 b24.size).mono ?_)
    case c1 =>
      rw [bstr_append, bstr_size, List.length_append]
      show 0 + _ ≤ _
      omega
    first | rintro e w5 ⟨rfl, hB5, b5⟩ | rintro e w5 rfl hB5 b5
    rw [bstr_append, cells_str, List.nil_append] at hB5
    have b25 := b24.trans b5
    clear hB4 b24 b5
    have k0 := (b25.cell (p := ⟨w.heap.size, 0, none⟩) l3).trans g0
    have hB5 : Lib.IsBuilder 150 5 w2.heap.size w2.heap.size (Lib.byteCells (flowT x y (s1 ++ s2) 0)) w5 := Or.inr hB5
    go_wp2
    go_loopw [41] (fun i wr => ∃ k : Nat, k ≤ n1 ∧ i = .int .i64 k ∧ Lib.IsBuilder 150 5 w2.heap.size w2.heap.size (Lib.byteCells (flowT x y (s1 ++ s2) k)) wr ∧ Below w2.heap.size w2 wr)
      (fun i _ => n1 - (intOf i).toNat)
    case atStart => exact ⟨0, Nat.zero_le _, rfl, hB5, b25⟩
    case round =>
      obtain ⟨k, hk, rfl, hB, bel⟩ := hrel
      clear hB5 b25 k0
      by_cases hlt : k < n1
      · obtain ⟨b, o, rfl, hbl, c1, c2, c3⟩ := hc0 k hlt
        obtain ⟨b', o', rfl, hbl', d1, d2, d3⟩ := hc1 k hlt
        clear hc0 hc1
        have hs := bel2.size
        have e1 := (bel.cell (p := ⟨b, o + k * 3, none⟩) (by show b < _; omega)).trans ((bel2.cell (p := ⟨b, o + k * 3, none⟩) hbl).trans c1)
        have e2 := (bel.cell (p := ⟨b, o + k * 3 + 1, none⟩) (by show b < _; omega)).trans ((bel2.cell (p := ⟨b, o + k * 3 + 1, none⟩) hbl).trans c2)
        have e3 := (bel.cell (p := ⟨b, o + k * 3 + 2, none⟩) (by show b < _; omega)).trans ((bel2.cell (p := ⟨b, o + k * 3 + 2, none⟩) hbl).trans c3)
        go_wp2
        rw [put3]
        obtain ⟨Wv, hWv⟩ : ∃ Wv, Wv = wr.alloc (.cells #[.complex .f32 (P1 k) (P1' k), .complex .f32 (P2 k) (P2' k), .complex .f32 (P3 k) (P3' k)] 64) := ⟨_, rfl⟩
        have hv := heap_alloc_new wr (.cells #[.complex .f32 (P1 k) (P1' k), .complex .f32 (P2 k) (P2' k), .complex .f32 (P3 k) (P3' k)] 64)
        rw [← hWv] at hv ⊢
        have bv : Below wr.heap.size wr Wv := by rw [hWv]; exact (Below.refl _ wr).alloc (Nat.le_refl _) _
        have szv : Wv.heap.size = wr.heap.size + 1 := by rw [hWv]; simp
        have bel' : Below w2.heap.size w2 Wv := bel.trans (bv.mono bel.size)
        have hB' := isb_kept hB bv
        have v0 : Wv.cell? ⟨wr.heap.size, 0, none⟩ = some (.complex .f32 (P1 k) (P1' k)) := by rw [Lib.cell_of_heap hv]; rfl
        have v1 : Wv.cell? ⟨wr.heap.size, 1, none⟩ = some (.complex .f32 (P2 k) (P2' k)) := by rw [Lib.cell_of_heap hv]; rfl
        have v2 : Wv.cell? ⟨wr.heap.size, 2, none⟩ = some (.complex .f32 (P3 k) (P3' k)) := by rw [Lib.cell_of_heap hv]; rfl
        have f1 := (bel'.cell (p := ⟨w.heap.size, 1, none⟩) l3).trans g1
        have d1 := (bel'.cell (p := ⟨b', o' + k * 3, none⟩) (by show b' < _; omega)).trans ((bel2.cell (p := ⟨b', o' + k * 3, none⟩) hbl').trans d1)
        have d2 := (bel'.cell (p := ⟨b', o' + k * 3 + 1, none⟩) (by show b' < _; omega)).trans ((bel2.cell (p := ⟨b', o' + k * 3 + 1, none⟩) hbl').trans d2)
        have d3 := (bel'.cell (p := ⟨b', o' + k * 3 + 2, none⟩) (by show b' < _; omega)).trans ((bel2.cell (p := ⟨b', o' + k * 3 + 2, none⟩) hbl').trans d3)
        have hx := hx k hlt
        have hy := hy k hlt
        have hxs := bstr_size (x k)
        have hys := bstr_size (y k)
        have hk1 := (hlk k).1
        have hk2 := (hlk k).2
        have hsum : (9223372036854775807 < (x k).length + (y k).length) = False := eq_false (by omega)
        have hsum' : (9223372036854775807 < (bstr (x k)).size + (bstr (y k)).size) = False := eq_false (by omega)
        clear hWv e1 e2 e3 c1 c2 c3
        have hVlt : wr.heap.size < Wv.heap.size := by omega
        have hVge : w2.heap.size < wr.heap.size := by
          rcases hB with h | h
          · exact h.lt
          · exact h.lt
        generalize wr.heap.size = V at v0 v1 v2 szv hVlt hVge bv hv ⊢
        have hVk : ∀ w' : World, w'.heap[V]? = some (.cells #[.complex .f32 (P1 k) (P1' k), .complex .f32 (P2 k) (P2' k), .complex .f32 (P3 k) (P3' k)] 64 (0, 0)) → w'.cell? ⟨V, 0, none⟩ = some (.complex .f32 (P1 k) (P1' k)) ∧ w'.cell? ⟨V, 1, none⟩ = some (.complex .f32 (P2 k) (P2' k)) ∧ w'.cell? ⟨V, 2, none⟩ = some (.complex .f32 (P3 k) (P3' k)) := fun w' h => ⟨by rw [Lib.cell_of_heap h]; rfl, by rw [Lib.cell_of_heap h]; rfl, by rw [Lib.cell_of_heap h]; rfl⟩
        have kept : ∀ w', Below Wv.heap.size Wv w' → w'.cell? ⟨V, 0, none⟩ = some (.complex .f32 (P1 k) (P1' k)) ∧ w'.cell? ⟨V, 1, none⟩ = some (.complex .f32 (P2 k) (P2' k)) ∧ w'.cell? ⟨V, 2, none⟩ = some (.complex .f32 (P3 k) (P3' k)) ∧ w'.cell? ⟨w.heap.size, 1, none⟩ = some (.slice (some ⟨b', o', none⟩) n1 cap1) ∧ w'.cell? ⟨b', o' + k * 3, none⟩ = some (.complex .f32 (Q1 k) (Q1' k)) ∧ w'.cell? ⟨b', o' + k * 3 + 1, none⟩ = some (.complex .f32 (Q2 k) (Q2' k)) ∧ w'.cell? ⟨b', o' + k * 3 + 2, none⟩ = some (.complex .f32 (Q3 k) (Q3' k)) := fun w' h =>
          ⟨(h.cell hVlt).trans v0, (h.cell hVlt).trans v1, (h.cell hVlt).trans v2, (h.cell (by show w.heap.size < _; have := bel'.size; omega)).trans f1, (h.cell (by show b' < _; have := bel'.size; omega)).trans d1, (h.cell (by show b' < _; have := bel'.size; omega)).trans d2, (h.cell (by show b' < _; have := bel'.size; omega)).trans d3⟩
        have hx' : ∀ wr', Below Wv.heap.size Wv wr' → Calls prog 114 #[.agg #[.complex .f32 (P1 k) (P1' k), .complex .f32 (P2 k) (P2' k), .complex .f32 (P3 k) (P3' k)]] wr' fun e w' => e = .returned (.string (bstr (x k))) ∧ Below Wv.heap.size Wv w' ∧ w'.cell? ⟨V, 0, none⟩ = some (.complex .f32 (P1 k) (P1' k)) ∧ w'.cell? ⟨V, 1, none⟩ = some (.complex .f32 (P2 k) (P2' k)) ∧ w'.cell? ⟨V, 2, none⟩ = some (.complex .f32 (P3 k) (P3' k)) ∧ w'.cell? ⟨w.heap.size, 1, none⟩ = some (.slice (some ⟨b', o', none⟩) n1 cap1) ∧ w'.cell? ⟨b', o' + k * 3, none⟩ = some (.complex .f32 (Q1 k) (Q1' k)) ∧ w'.cell? ⟨b', o' + k * 3 + 1, none⟩ = some (.complex .f32 (Q2 k) (Q2' k)) ∧ w'.cell? ⟨b', o' + k * 3 + 2, none⟩ = some (.complex .f32 (Q3 k) (Q3' k)) := fun wr' h => (hx wr').mono fun e w' h' =>
          have q := h.trans (h'.2.mono h.size)
          ⟨h'.1, q, kept w' q⟩
        have hy' : ∀ wr', Below Wv.heap.size Wv wr' → Calls prog 114 #[.agg #[.complex .f32 (Q1 k) (Q1' k), .complex .f32 (Q2 k) (Q2' k), .complex .f32 (Q3 k) (Q3' k)]] wr' fun e w' => e = .returned (.string (bstr (y k))) ∧ Below Wv.heap.size Wv w' ∧ w'.cell? ⟨V, 0, none⟩ = some (.complex .f32 (P1 k) (P1' k)) ∧ w'.cell? ⟨V, 1, none⟩ = some (.complex .f32 (P2 k) (P2' k)) ∧ w'.cell? ⟨V, 2, none⟩ = some (.complex .f32 (P3 k) (P3' k)) ∧ w'.cell? ⟨w.heap.size, 1, none⟩ = some (.slice (some ⟨b', o', none⟩) n1 cap1) ∧ w'.cell? ⟨b', o' + k * 3, none⟩ = some (.complex .f32 (Q1 k) (Q1' k)) ∧ w'.cell? ⟨b', o' + k * 3 + 1, none⟩ = some (.complex .f32 (Q2 k) (Q2' k)) ∧ w'.cell? ⟨b', o' + k * 3 + 2, none⟩ = some (.complex .f32 (Q3 k) (Q3' k)) := fun wr' h => (hy wr').mono fun e w' h' =>
          have q := h.trans (h'.2.mono h.size)
          ⟨h'.1, q, kept w' q⟩
        have fl : ∀ j, (flowT x y (s1 ++ s2) j).length ≤ 1000 + 2000 * j := fun j => by
          induction j with
          | zero => show (s1 ++ s2).length ≤ _; rw [List.length_append]; omega
          | succ j ih =>
            show (flowT x y (s1 ++ s2) j ++ (x j ++ y j)).length ≤ _
            have h1 := hlk j
            rw [List.length_append, List.length_append]; omega
        have ws' : ∀ wr', Below Wv.heap.size Wv wr' → Calls prog 112 #[.pointer (some ⟨w2.heap.size, 0, none⟩), .string (bstr (x k) ++ bstr (y k))] wr' fun e w' => e = .returned (.tuple #[.int .i64 (bstr (x k) ++ bstr (y k)).size, .nilIface]) ∧ Lib.IsBuilder 150 5 w2.heap.size w2.heap.size (Lib.byteCells (flowT x y (s1 ++ s2) (k + 1))) w' ∧ Below w2.heap.size w2 w' ∧ w'.cell? ⟨V, 0, none⟩ = some (.complex .f32 (P1 k) (P1' k)) ∧ w'.cell? ⟨V, 1, none⟩ = some (.complex .f32 (P2 k) (P2' k)) ∧ w'.cell? ⟨V, 2, none⟩ = some (.complex .f32 (P3 k) (P3' k)) ∧ w'.cell? ⟨w.heap.size, 1, none⟩ = some (.slice (some ⟨b', o', none⟩) n1 cap1) ∧ w'.cell? ⟨b', o' + k * 3, none⟩ = some (.complex .f32 (Q1 k) (Q1' k)) ∧ w'.cell? ⟨b', o' + k * 3 + 1, none⟩ = some (.complex .f32 (Q2 k) (Q2' k)) ∧ w'.cell? ⟨b', o' + k * 3 + 2, none⟩ = some (.complex .f32 (Q3 k) (Q3' k)) := fun wr' h => by
          refine (ws_kept w2.heap.size w2.heap.size _ (bstr (x k) ++ bstr (y k)) wr' (isb_kept hB' h) ?_ (Nat.le_trans bel'.size h.size)).mono fun e w' h' => ⟨h'.1, Or.inr ?_, bel'.trans ((h.mono bel'.size).trans h'.2.2.1), (hVk w' (h'.2.2.2 _ _ ((h.block V hVlt).trans hv) (by intro hh; cases hh; omega) (fun c fz hh => by cases hh))).1, (hVk w' (h'.2.2.2 _ _ ((h.block V hVlt).trans hv) (by intro hh; cases hh; omega) (fun c fz hh => by cases hh))).2.1, (hVk w' (h'.2.2.2 _ _ ((h.block V hVlt).trans hv) (by intro hh; cases hh; omega) (fun c fz hh => by cases hh))).2.2, (h'.2.2.1.cell l3).trans (kept wr' h).2.2.2.1, (h'.2.2.1.cell (by show b' < _; omega)).trans (kept wr' h).2.2.2.2.1, (h'.2.2.1.cell (by show b' < _; omega)).trans (kept wr' h).2.2.2.2.2.1, (h'.2.2.1.cell (by show b' < _; omega)).trans (kept wr' h).2.2.2.2.2.2⟩
          · rw [bstr_append, bstr_size, Lib.byteCells_length, List.length_append]
            have := fl k
            omega
          · have := h'.2.1
            rw [bstr_append, cells_str, cells_app] at this
            exact this
        obtain ⟨Ph, hPh, hPx, hPy⟩ : ∃ Ph : Nat → Nat → Nat → Nat → Nat → Nat → Str → Prop, (∀ a1 a1' a2 a2' a3 a3' s, Ph a1 a1' a2 a2' a3 a3' s → ∀ wr', Below Wv.heap.size Wv wr' → Calls prog 114 #[.agg #[.complex .f32 a1 a1', .complex .f32 a2 a2', .complex .f32 a3 a3']] wr' fun e w' => e = .returned (.string (bstr s)) ∧ Below Wv.heap.size Wv w' ∧ w'.cell? ⟨V, 0, none⟩ = some (.complex .f32 (P1 k) (P1' k)) ∧ w'.cell? ⟨V, 1, none⟩ = some (.complex .f32 (P2 k) (P2' k)) ∧ w'.cell? ⟨V, 2, none⟩ = some (.complex .f32 (P3 k) (P3' k)) ∧ w'.cell? ⟨w.heap.size, 1, none⟩ = some (.slice (some ⟨b', o', none⟩) n1 cap1) ∧ w'.cell? ⟨b', o' + k * 3, none⟩ = some (.complex .f32 (Q1 k) (Q1' k)) ∧ w'.cell? ⟨b', o' + k * 3 + 1, none⟩ = some (.complex .f32 (Q2 k) (Q2' k)) ∧ w'.cell? ⟨b', o' + k * 3 + 2, none⟩ = some (.complex .f32 (Q3 k) (Q3' k))) ∧ Ph (P1 k) (P1' k) (P2 k) (P2' k) (P3 k) (P3' k) (x k) ∧ Ph (Q1 k) (Q1' k) (Q2 k) (Q2' k) (Q3 k) (Q3' k) (y k) :=
          ⟨fun a1 a1' a2 a2' a3 a3' s => ∀ wr', Below Wv.heap.size Wv wr' → Calls prog 114 #[.agg #[.complex .f32 a1 a1', .complex .f32 a2 a2', .complex .f32 a3 a3']] wr' fun e w' => e = .returned (.string (bstr s)) ∧ Below Wv.heap.size Wv w' ∧ w'.cell? ⟨V, 0, none⟩ = some (.complex .f32 (P1 k) (P1' k)) ∧ w'.cell? ⟨V, 1, none⟩ = some (.complex .f32 (P2 k) (P2' k)) ∧ w'.cell? ⟨V, 2, none⟩ = some (.complex .f32 (P3 k) (P3' k)) ∧ w'.cell? ⟨w.heap.size, 1, none⟩ = some (.slice (some ⟨b', o', none⟩) n1 cap1) ∧ w'.cell? ⟨b', o' + k * 3, none⟩ = some (.complex .f32 (Q1 k) (Q1' k)) ∧ w'.cell? ⟨b', o' + k * 3 + 1, none⟩ = some (.complex .f32 (Q2 k) (Q2' k)) ∧ w'.cell? ⟨b', o' + k * 3 + 2, none⟩ = some (.complex .f32 (Q3 k) (Q3' k)), fun _ _ _ _ _ _ _ h => h, hx', hy'⟩
        clear hB bel bv hB' bel' kept hx hy hVk hv hx' hy'
        go_wp2
        go_region_held3 (fun w' => w'.cell? ⟨V, 0, none⟩ = some (.complex .f32 (P1 k) (P1' k)) ∧ w'.cell? ⟨V, 1, none⟩ = some (.complex .f32 (P2 k) (P2' k)) ∧ w'.cell? ⟨V, 2, none⟩ = some (.complex .f32 (P3 k) (P3' k)) ∧ w'.cell? ⟨w.heap.size, 1, none⟩ = some (.slice (some ⟨b', o', none⟩) n1 cap1) ∧ w'.cell? ⟨b', o' + k * 3, none⟩ = some (.complex .f32 (Q1 k) (Q1' k)) ∧ w'.cell? ⟨b', o' + k * 3 + 1, none⟩ = some (.complex .f32 (Q2 k) (Q2' k)) ∧ w'.cell? ⟨b', o' + k * 3 + 2, none⟩ = some (.complex .f32 (Q3 k) (Q3' k)))
          (first | exact ⟨q0, q1, q2, q3, q4, q5, q6⟩ | exact ⟨v0, v1, v2, f1, d1, d2, d3⟩)
          (first
            | (go_at_call 114; refine (hPh _ _ _ _ _ _ _ (by assumption) _ (by first | assumption | exact (Below.refl _ _).drew | exact Below.refl _ _)).mono ?_; rintro e w' ⟨rfl, q, q0, q1, q2, q3, q4, q5, q6⟩)
            | (go_at_call 112; refine (ws' _ (by first | assumption | exact (Below.refl _ _).drew | exact Below.refl _ _)).mono ?_; rintro e w' ⟨rfl, hB6, b6, q0, q1, q2, q3, q4, q5, q6⟩))
        all_goals (
          go_wp2
          go_roundw
          case rel => exact ⟨k + 1, by omega, by go_num, hB6, b6⟩
          case measure => simp [intOf]; omega)
      · have hke : k = n1 := by omega
        subst hke
        go_wp2_with (go_at_call 115; refine (str_walk _ _ _ _ hB bel.size).mono ?_)
        first | rintro e w3 ⟨rfl, b3⟩ | rintro e w3 rfl b3
        go_wp2
        go_ret2
        exact ⟨rfl, bel2.trans ((bel.trans b3).mono (Nat.le_of_lt l3))⟩
  · simp only [if_true] at hb2
    go_wp2_with (go_at_call 113; refine (hb1 _).mono ?_)
    rw [← hW2]
    first | rintro e w3 ⟨rfl, b3⟩ | rintro e w3 rfl b3
    have hB3 := isb_kept hB2 b3
    have b23 := b2.trans (b3.mono b2.size)
    go_wp2_with (go_at_call 113; refine (hb2 _).mono ?_)
    first | rintro e w4 ⟨rfl, b4⟩ | rintro e w4 rfl b4
    have hB4 := isb_kept hB3 b4
    have b24 := b23.trans (b4.mono b23.size)
    clear hB2 hB3 b2 b3 b4 b23 k0 k1 k2 k3
    go_wp2_with (go_at_call 112; refine (ws_walk _ _ _ _ _ hB4 ?c1 b24.size).mono ?_)
    case c1 =>
      rw [bstr_append, bstr_size, List.length_append]
      show 0 + _ ≤ _
      omega
    first | rintro e w5 ⟨rfl, hB5, b5⟩ | rintro e w5 rfl hB5 b5
    rw [bstr_append, cells_str, List.nil_append] at hB5
    have b25 := b24.trans b5
    clear hB4 b24 b5
    have k0 := (b25.cell (p := ⟨w.heap.size, 0, none⟩) l3).trans g0
    have hB5 : Lib.IsBuilder 150 5 w2.heap.size w2.heap.size (Lib.byteCells (flowT x y (s1 ++ s2) 0)) w5 := Or.inr hB5
    go_wp2
    go_loopw [41] (fun i wr => ∃ k : Nat, k ≤ n1 ∧ i = .int .i64 k ∧ Lib.IsBuilder 150 5 w2.heap.size w2.heap.size (Lib.byteCells (flowT x y (s1 ++ s2) k)) wr ∧ Below w2.heap.size w2 wr)
      (fun i _ => n1 - (intOf i).toNat)
    case atStart => exact ⟨0, Nat.zero_le _, rfl, hB5, b25⟩
    case round =>
      obtain ⟨k, hk, rfl, hB, bel⟩ := hrel
      clear hB5 b25 k0
      by_cases hlt : k < n1
      · obtain ⟨b, o, rfl, hbl, c1, c2, c3⟩ := hc0 k hlt
        obtain ⟨b', o', rfl, hbl', d1, d2, d3⟩ := hc1 k hlt
        clear hc0 hc1
        have hs := bel2.size
        have e1 := (bel.cell (p := ⟨b, o + k * 3, none⟩) (by show b < _; omega)).trans ((bel2.cell (p := ⟨b, o + k * 3, none⟩) hbl).trans c1)
        have e2 := (bel.cell (p := ⟨b, o + k * 3 + 1, none⟩) (by show b < _; omega)).trans ((bel2.cell (p := ⟨b, o + k * 3 + 1, none⟩) hbl).trans c2)
        have e3 := (bel.cell (p := ⟨b, o + k * 3 + 2, none⟩) (by show b < _; omega)).trans ((bel2.cell (p := ⟨b, o + k * 3 + 2, none⟩) hbl).trans c3)
        go_wp2
        rw [put3]
        obtain ⟨Wv, hWv⟩ : ∃ Wv, Wv = wr.alloc (.cells #[.complex .f32 (P1 k) (P1' k), .complex .f32 (P2 k) (P2' k), .complex .f32 (P3 k) (P3' k)] 64) := ⟨_, rfl⟩
        have hv := heap_alloc_new wr (.cells #[.complex .f32 (P1 k) (P1' k), .complex .f32 (P2 k) (P2' k), .complex .f32 (P3 k) (P3' k)] 64)
        rw [← hWv] at hv ⊢
        have bv : Below wr.heap.size wr Wv := by rw [hWv]; exact (Below.refl _ wr).alloc (Nat.le_refl _) _
        have szv : Wv.heap.size = wr.heap.size + 1 := by rw [hWv]; simp
        have bel' : Below w2.heap.size w2 Wv := bel.trans (bv.mono bel.size)
        have hB' := isb_kept hB bv
        have v0 : Wv.cell? ⟨wr.heap.size, 0, none⟩ = some (.complex .f32 (P1 k) (P1' k)) := by rw [Lib.cell_of_heap hv]; rfl
        have v1 : Wv.cell? ⟨wr.heap.size, 1, none⟩ = some (.complex .f32 (P2 k) (P2' k)) := by rw [Lib.cell_of_heap hv]; rfl
        have v2 : Wv.cell? ⟨wr.heap.size, 2, none⟩ = some (.complex .f32 (P3 k) (P3' k)) := by rw [Lib.cell_of_heap hv]; rfl
        have f1 := (bel'.cell (p := ⟨w.heap.size, 1, none⟩) l3).trans g1
        have d1 := (bel'.cell (p := ⟨b', o' + k * 3, none⟩) (by show b' < _; omega)).trans ((bel2.cell (p := ⟨b', o' + k * 3, none⟩) hbl').trans d1)
        have d2 := (bel'.cell (p := ⟨b', o' + k * 3 + 1, none⟩) (by show b' < _; omega)).trans ((bel2.cell (p := ⟨b', o' + k * 3 + 1, none⟩) hbl').trans d2)
        have d3 := (bel'.cell (p := ⟨b', o' + k * 3 + 2, none⟩) (by show b' < _; omega)).trans ((bel2.cell (p := ⟨b', o' + k * 3 + 2, none⟩) hbl').trans d3)
        have hx := hx k hlt
        have hy := hy k hlt
        have hxs := bstr_size (x k)
        have hys := bstr_size (y k)
        have hk1 := (hlk k).1
        have hk2 := (hlk k).2
        have hsum : (9223372036854775807 < (x k).length + (y k).length) = False := eq_false (by omega)
        have hsum' : (9223372036854775807 < (bstr (x k)).size + (bstr (y k)).size) = False := eq_false (by omega)
        clear hWv e1 e2 e3 c1 c2 c3
        have hVlt : wr.heap.size < Wv.heap.size := by omega
        have hVge : w2.heap.size < wr.heap.size := by
          rcases hB with h | h
          · exact h.lt
          · exact h.lt
        generalize wr.heap.size = V at v0 v1 v2 szv hVlt hVge bv hv ⊢
        have hVk : ∀ w' : World, w'.heap[V]? = some (.cells #[.complex .f32 (P1 k) (P1' k), .complex .f32 (P2 k) (P2' k), .complex .f32 (P3 k) (P3' k)] 64 (0, 0)) → w'.cell? ⟨V, 0, none⟩ = some (.complex .f32 (P1 k) (P1' k)) ∧ w'.cell? ⟨V, 1, none⟩ = some (.complex .f32 (P2 k) (P2' k)) ∧ w'.cell? ⟨V, 2, none⟩ = some (.complex .f32 (P3 k) (P3' k)) := fun w' h => ⟨by rw [Lib.cell_of_heap h]; rfl, by rw [Lib.cell_of_heap h]; rfl, by rw [Lib.cell_of_heap h]; rfl⟩
        have kept : ∀ w', Below Wv.heap.size Wv w' → w'.cell? ⟨V, 0, none⟩ = some (.complex .f32 (P1 k) (P1' k)) ∧ w'.cell? ⟨V, 1, none⟩ = some (.complex .f32 (P2 k) (P2' k)) ∧ w'.cell? ⟨V, 2, none⟩ = some (.complex .f32 (P3 k) (P3' k)) ∧ w'.cell? ⟨w.heap.size, 1, none⟩ = some (.slice (some ⟨b', o', none⟩) n1 cap1) ∧ w'.cell? ⟨b', o' + k * 3, none⟩ = some (.complex .f32 (Q1 k) (Q1' k)) ∧ w'.cell? ⟨b', o' + k * 3 + 1, none⟩ = some (.complex .f32 (Q2 k) (Q2' k)) ∧ w'.cell? ⟨b', o' + k * 3 + 2, none⟩ = some (.complex .f32 (Q3 k) (Q3' k)) := fun w' h =>
          ⟨(h.cell hVlt).trans v0, (h.cell hVlt).trans v1, (h.cell hVlt).trans v2, (h.cell (by show w.heap.size < _; have := bel'.size; omega)).trans f1, (h.cell (by show b' < _; have := bel'.size; omega)).trans d1, (h.cell (by show b' < _; have := bel'.size; omega)).trans d2, (h.cell (by show b' < _; have := bel'.size; omega)).trans d3⟩
        have hx' : ∀ wr', Below Wv.heap.size Wv wr' → Calls prog 114 #[.agg #[.complex .f32 (P1 k) (P1' k), .complex .f32 (P2 k) (P2' k), .complex .f32 (P3 k) (P3' k)]] wr' fun e w' => e = .returned (.string (bstr (x k))) ∧ Below Wv.heap.size Wv w' ∧ w'.cell? ⟨V, 0, none⟩ = some (.complex .f32 (P1 k) (P1' k)) ∧ w'.cell? ⟨V, 1, none⟩ = some (.complex .f32 (P2 k) (P2' k)) ∧ w'.cell? ⟨V, 2, none⟩ = some (.complex .f32 (P3 k) (P3' k)) ∧ w'.cell? ⟨w.heap.size, 1, none⟩ = some (.slice (some ⟨b', o', none⟩) n1 cap1) ∧ w'.cell? ⟨b', o' + k * 3, none⟩ = some (.complex .f32 (Q1 k) (Q1' k)) ∧ w'.cell? ⟨b', o' + k * 3 + 1, none⟩ = some (.complex .f32 (Q2 k) (Q2' k)) ∧ w'.cell? ⟨b', o' + k * 3 + 2, none⟩ = some (.complex .f32 (Q3 k) (Q3' k)) := fun wr' h => (hx wr').mono fun e w' h' =>
          have q := h.trans (h'.2.mono h.size)
          ⟨h'.1, q, kept w' q⟩
        have hy' : ∀ wr', Below Wv.heap.size Wv wr' → Calls prog 114 #[.agg #[.complex .f32 (Q1 k) (Q1' k), .complex .f32 (Q2 k) (Q2' k), .complex .f32 (Q3 k) (Q3' k)]] wr' fun e w' => e = .returned (.string (bstr (y k))) ∧ Below Wv.heap.size Wv w' ∧ w'.cell? ⟨V, 0, none⟩ = some (.complex .f32 (P1 k) (P1' k)) ∧ w'.cell? ⟨V, 1, none⟩ = some (.complex .f32 (P2 k) (P2' k)) ∧ w'.cell? ⟨V, 2, none⟩ = some (.complex .f32 (P3 k) (P3' k)) ∧ w'.cell? ⟨w.heap.size, 1, none⟩ = some (.slice (some ⟨b', o', none⟩) n1 cap1) ∧ w'.cell? ⟨b', o' + k * 3, none⟩ = some (.complex .f32 (Q1 k) (Q1' k)) ∧ w'.cell? ⟨b', o' + k * 3 + 1, none⟩ = some (.complex .f32 (Q2 k) (Q2' k)) ∧ w'.cell? ⟨b', o' + k * 3 + 2, none⟩ = some (.complex .f32 (Q3 k) (Q3' k)) := fun wr' h => (hy wr').mono fun e w' h' =>
          have q := h.trans (h'.2.mono h.size)
          ⟨h'.1, q, kept w' q⟩
        have fl : ∀ j, (flowT x y (s1 ++ s2) j).length ≤ 1000 + 2000 * j := fun j => by
          induction j with
          | zero => show (s1 ++ s2).length ≤ _; rw [List.length_append]; omega
          | succ j ih =>
            show (flowT x y (s1 ++ s2) j ++ (x j ++ y j)).length ≤ _
            have h1 := hlk j
            rw [List.length_append, List.length_append]; omega
        have ws' : ∀ wr', Below Wv.heap.size Wv wr' → Calls prog 112 #[.pointer (some ⟨w2.heap.size, 0, none⟩), .string (bstr (x k) ++ bstr (y k))] wr' fun e w' => e = .returned (.tuple #[.int .i64 (bstr (x k) ++ bstr (y k)).size, .nilIface]) ∧ Lib.IsBuilder 150 5 w2.heap.size w2.heap.size (Lib.byteCells (flowT x y (s1 ++ s2) (k + 1))) w' ∧ Below w2.heap.size w2 w' ∧ w'.cell? ⟨V, 0, none⟩ = some (.complex .f32 (P1 k) (P1' k)) ∧ w'.cell? ⟨V, 1, none⟩ = some (.complex .f32 (P2 k) (P2' k)) ∧ w'.cell? ⟨V, 2, none⟩ = some (.complex .f32 (P3 k) (P3' k)) ∧ w'.cell? ⟨w.heap.size, 1, none⟩ = some (.slice (some ⟨b', o', none⟩) n1 cap1) ∧ w'.cell? ⟨b', o' + k * 3, none⟩ = some (.complex .f32 (Q1 k) (Q1' k)) ∧ w'.cell? ⟨b', o' + k * 3 + 1, none⟩ = some (.complex .f32 (Q2 k) (Q2' k)) ∧ w'.cell? ⟨b', o' + k * 3 + 2, none⟩ = some (.complex .f32 (Q3 k) (Q3' k)) := fun wr' h => by
          refine (ws_kept w2.heap.size w2.heap.size _ (bstr (x k) ++ bstr (y k)) wr' (isb_kept hB' h) ?_ (Nat.le_trans bel'.size h.size)).mono fun e w' h' => ⟨h'.1, Or.inr ?_, bel'.trans ((h.mono bel'.size).trans h'.2.2.1), (hVk w' (h'.2.2.2 _ _ ((h.block V hVlt).trans hv) (by intro hh; cases hh; omega) (fun c fz hh => by cases hh))).1, (hVk w' (h'.2.2.2 _ _ ((h.block V hVlt).trans hv) (by intro hh; cases hh; omega) (fun c fz hh => by cases hh))).2.1, (hVk w' (h'.2.2.2 _ _ ((h.block V hVlt).trans hv) (by intro hh; cases hh; omega) (fun c fz hh => by cases hh))).2.2, (h'.2.2.1.cell l3).trans (kept wr' h).2.2.2.1, (h'.2.2.1.cell (by show b' < _; omega)).trans (kept wr' h).2.2.2.2.1, (h'.2.2.1.cell (by show b' < _; omega)).trans (kept wr' h).2.2.2.2.2.1, (h'.2.2.1.cell (by show b' < _; omega)).trans (kept wr' h).2.2.2.2.2.2⟩
          · rw [bstr_append, bstr_size, Lib.byteCells_length, List.length_append]
            have := fl k
            omega
          · have := h'.2.1
            rw [bstr_append, cells_str, cells_app] at this
            exact this
        obtain ⟨Ph, hPh, hPx, hPy⟩ : ∃ Ph : Nat → Nat → Nat → Nat → Nat → Nat → Str → Prop, (∀ a1 a1' a2 a2' a3 a3' s, Ph a1 a1' a2 a2' a3 a3' s → ∀ wr', Below Wv.heap.size Wv wr' → Calls prog 114 #[.agg #[.complex .f32 a1 a1', .complex .f32 a2 a2', .complex .f32 a3 a3']] wr' fun e w' => e = .returned (.string (bstr s)) ∧ Below Wv.heap.size Wv w' ∧ w'.cell? ⟨V, 0, none⟩ = some (.complex .f32 (P1 k) (P1' k)) ∧ w'.cell? ⟨V, 1, none⟩ = some (.complex .f32 (P2 k) (P2' k)) ∧ w'.cell? ⟨V, 2, none⟩ = some (.complex .f32 (P3 k) (P3' k)) ∧ w'.cell? ⟨w.heap.size, 1, none⟩ = some (.slice (some ⟨b', o', none⟩) n1 cap1) ∧ w'.cell? ⟨b', o' + k * 3, none⟩ = some (.complex .f32 (Q1 k) (Q1' k)) ∧ w'.cell? ⟨b', o' + k * 3 + 1, none⟩ = some (.complex .f32 (Q2 k) (Q2' k)) ∧ w'.cell? ⟨b', o' + k * 3 + 2, none⟩ = some (.complex .f32 (Q3 k) (Q3' k))) ∧ Ph (P1 k) (P1' k) (P2 k) (P2' k) (P3 k) (P3' k) (x k) ∧ Ph (Q1 k) (Q1' k) (Q2 k) (Q2' k) (Q3 k) (Q3' k) (y k) :=
          ⟨fun a1 a1' a2 a2' a3 a3' s => ∀ wr', Below Wv.heap.size Wv wr' → Calls prog 114 #[.agg #[.complex .f32 a1 a1', .complex .f32 a2 a2', .complex .f32 a3 a3']] wr' fun e w' => e = .returned (.string (bstr s)) ∧ Below Wv.heap.size Wv w' ∧ w'.cell? ⟨V, 0, none⟩ = some (.complex .f32 (P1 k) (P1' k)) ∧ w'.cell? ⟨V, 1, none⟩ = some (.complex .f32 (P2 k) (P2' k)) ∧ w'.cell? ⟨V, 2, none⟩ = some (.complex .f32 (P3 k) (P3' k)) ∧ w'.cell? ⟨w.heap.size, 1, none⟩ = some (.slice (some ⟨b', o', none⟩) n1 cap1) ∧ w'.cell? ⟨b', o' + k * 3, none⟩ = some (.complex .f32 (Q1 k) (Q1' k)) ∧ w'.cell? ⟨b', o' + k * 3 + 1, none⟩ = some (.complex .f32 (Q2 k) (Q2' k)) ∧ w'.cell? ⟨b', o' + k * 3 + 2, none⟩ = some (.complex .f32 (Q3 k) (Q3' k)), fun _ _ _ _ _ _ _ h => h, hx', hy'⟩
        clear hB bel bv hB' bel' kept hx hy hVk hv hx' hy'
        go_wp2
        go_region_held3 (fun w' => w'.cell? ⟨V, 0, none⟩ = some (.complex .f32 (P1 k) (P1' k)) ∧ w'.cell? ⟨V, 1, none⟩ = some (.complex .f32 (P2 k) (P2' k)) ∧ w'.cell? ⟨V, 2, none⟩ = some (.complex .f32 (P3 k) (P3' k)) ∧ w'.cell? ⟨w.heap.size, 1, none⟩ = some (.slice (some ⟨b', o', none⟩) n1 cap1) ∧ w'.cell? ⟨b', o' + k * 3, none⟩ = some (.complex .f32 (Q1 k) (Q1' k)) ∧ w'.cell? ⟨b', o' + k * 3 + 1, none⟩ = some (.complex .f32 (Q2 k) (Q2' k)) ∧ w'.cell? ⟨b', o' + k * 3 + 2, none⟩ = some (.complex .f32 (Q3 k) (Q3' k)))
          (first | exact ⟨q0, q1, q2, q3, q4, q5, q6⟩ | exact ⟨v0, v1, v2, f1, d1, d2, d3⟩)
          (first
            | (go_at_call 114; refine (hPh _ _ _ _ _ _ _ (by assumption) _ (by first | assumption | exact (Below.refl _ _).drew | exact Below.refl _ _)).mono ?_; rintro e w' ⟨rfl, q, q0, q1, q2, q3, q4, q5, q6⟩)
            | (go_at_call 112; refine (ws' _ (by first | assumption | exact (Below.refl _ _).drew | exact Below.refl _ _)).mono ?_; rintro e w' ⟨rfl, hB6, b6, q0, q1, q2, q3, q4, q5, q6⟩))
        all_goals (
          go_wp2
          go_roundw
          case rel => exact ⟨k + 1, by omega, by go_num, hB6, b6⟩
          case measure => simp [intOf]; omega)
      · have hke : k = n1 := by omega
        subst hke
        go_wp2_with (go_at_call 115; refine (str_walk _ _ _ _ hB bel.size).mono ?_)
        first | rintro e w3 ⟨rfl, b3⟩ | rintro e w3 rfl b3
        go_wp2
        go_ret2
        exact ⟨rfl, bel2.trans ((bel.trans b3).mono (Nat.le_of_lt l3))⟩
end Go.Proofs.Ytolggocnbakokaa.AWN

namespace Go.Proofs.Ytolggocnbakokaa.AWN
open Go Go.Shelf Go.RowKit Go.Proofs.Try
set_option maxHeartbeats 4000000 in
set_option maxRecDepth 100000 in
theorem flow_no (w : World) (a0 a1 : Option Addr) (n cap0 n1 cap1 : Nat) (R : Int) (rests : Bool) (hbad : ¬ (1 ≤ n ∧ n ≤ 16 ∧ n1 = n ∧ 0 ≤ R ∧ R ≤ 50)) (hnm : n ≤ maxLen ∧ n1 ≤ maxLen)
    (hin : ∀ wr (k lo hi : Int), Calls prog 60 #[.int .i64 k, .int .i64 lo, .int .i64 hi] wr fun e w' => e = .returned (.bool (decide (lo ≤ k ∧ k ≤ hi))) ∧ Below wr.heap.size wr w') :
    Calls prog 84 #[.agg #[.slice a0 n cap0, .slice a1 n1 cap1, .int .i64 R, .bool rests]] w fun e w' => e = .returned (.tuple #[.string (bstr []), .bool false]) ∧ Below w.heap.size w w' := by
  obtain ⟨W0, hW0⟩ : ∃ W0, W0 = w.alloc (.cells #[.slice a0 n cap0, .slice a1 n1 cap1, .int .i64 R, .bool rests] 75) := ⟨_, rfl⟩
  have z0 : W0.heap.size = w.heap.size + 1 := by rw [hW0]; simp
  have bel0 : Below w.heap.size w W0 := by rw [hW0]; exact (Below.refl _ w).alloc (Nat.le_refl _) _
  have g0 : W0.cell? ⟨w.heap.size, 0, none⟩ = some (.slice a0 n cap0) := by rw [hW0, Lib.cell_of_heap (heap_alloc_new w _)]; rfl
  have g1 : W0.cell? ⟨w.heap.size, 1, none⟩ = some (.slice a1 n1 cap1) := by rw [hW0, Lib.cell_of_heap (heap_alloc_new w _)]; rfl
  have g2 : W0.cell? ⟨w.heap.size, 2, none⟩ = some (.int .i64 R) := by rw [hW0, Lib.cell_of_heap (heap_alloc_new w _)]; rfl
  unfold maxLen at hnm
  obtain ⟨hm, hm1⟩ := hnm
  go_enter Try.func84, Try.ntmps84
  go_wp2_with (go_at_call 60; refine (hin _ _ _ _).mono ?_)
  rw [← hW0]
  first | rintro e w1 ⟨rfl, b1⟩ | rintro e w1 rfl b1
  have l1 : w.heap.size < W0.heap.size := by omega
  have g0 := (b1.cell (p := ⟨w.heap.size, 0, none⟩) l1).trans g0
  have g1 := (b1.cell (p := ⟨w.heap.size, 1, none⟩) l1).trans g1
  have g2 := (b1.cell (p := ⟨w.heap.size, 2, none⟩) l1).trans g2
  have bel1 : Below w.heap.size w w1 := bel0.trans (b1.mono (by omega))
  by_cases h1 : 1 ≤ n ∧ n ≤ 16
  · have hd1 : decide ((1 : Int) ≤ (n : Int) ∧ (n : Int) ≤ 16) = true := decide_eq_true ⟨by omega, by omega⟩
    rw [hd1]
    by_cases h2 : n1 = n
    · subst h2
      have hd2 : decide ((0 : Int) ≤ R ∧ R ≤ 50) = false := decide_eq_false fun h => hbad ⟨h1.1, h1.2, rfl, h.1, h.2⟩
      go_wp2_with (go_at_call 60; refine (hin _ _ _ _).mono ?_)
      first | rintro e w2 ⟨rfl, b2⟩ | rintro e w2 rfl b2
      rw [hd2]
      have bel2 := bel1.trans (b2.mono bel1.size)
      go_wp2
      go_ret2
      exact ⟨rfl, bel2⟩
    · have h2' : ¬ (n1 : Int) = (n : Int) := by omega
      go_wp2
      go_ret2
      exact ⟨rfl, bel1⟩
  · have hd1 : decide ((1 : Int) ≤ (n : Int) ∧ (n : Int) ≤ 16) = false := decide_eq_false fun h => h1 ⟨by omega, by omega⟩
    rw [hd1]
    go_wp2
    go_ret2
    exact ⟨rfl, bel1⟩
end Go.Proofs.Ytolggocnbakokaa.AWN

namespace Go.Proofs.Ytolggocnbakokaa.AWN
open Go Go.Shelf Go.RowKit Go.Proofs.Try
def phs {α : Type} (ph : α → Option Str) : List α → Option (List Str)
  | [] => some []
  | a :: r => (ph a).bind fun s => (phs ph r).bind fun t => grd (s.length ≤ 1000) (some (s :: t))
theorem phs_get {α : Type} {ph : α → Option Str} : ∀ {l : List α} {r : List Str}, phs ph l = some r → (∀ k (h : k < l.length), ph l[k] = some (r.getD k [])) ∧ ∀ k, (r.getD k []).length ≤ 1000
  | [], r, h => by
    cases h
    exact ⟨fun k h => absurd h (Nat.not_lt_zero _), fun k => by simp⟩
  | a :: l, r, h => by
    unfold phs at h
    obtain ⟨s, hs, h⟩ := Option.bind_eq_some_iff.1 h
    obtain ⟨t, ht, h⟩ := Option.bind_eq_some_iff.1 h
    unfold grd at h
    split at h
    · cases h
      obtain ⟨i1, i2⟩ := phs_get ht
      refine ⟨fun k hk => ?_, fun k => ?_⟩
      · rcases k with _ | k
        · exact hs
        · exact i1 k (by simpa using hk)
      · rcases k with _ | k
        · assumption
        · exact i2 k
    · cases h
def CxAt (W : World) (a : Option Addr) (x1 y1 x2 y2 x3 y3 k : Nat) (P : Nat × Nat × Nat × Nat × Nat × Nat) : Prop :=
  (∃ b o, a = some ⟨b, o, none⟩ ∧ b < W.heap.size ∧ W.cell? ⟨b, o + k * 3, none⟩ = some (.complex .f32 P.1 P.2.1) ∧ W.cell? ⟨b, o + k * 3 + 1, none⟩ = some (.complex .f32 P.2.2.1 P.2.2.2.1) ∧ W.cell? ⟨b, o + k * 3 + 2, none⟩ = some (.complex .f32 P.2.2.2.2.1 P.2.2.2.2.2)) ∧
  ∀ W' hb H ok', Rel W' hb H ok' (.agg [.d (.cx .f32 x1 y1), .d (.cx .f32 x2 y2), .d (.cx .f32 x3 y3)]) (.agg #[.complex .f32 P.1 P.2.1, .complex .f32 P.2.2.1 P.2.2.2.1, .complex .f32 P.2.2.2.2.1 P.2.2.2.2.2])
section
variable {α : Type} {eP : α → List D} {p1 q1 p2 q2 p3 q3 : α → Nat} (hf : ∀ a, eP a = [.cx .f32 (p1 a) (q1 a), .cx .f32 (p2 a) (q2 a), .cx .f32 (p3 a) (q3 a)])
include hf
theorem open_ph {W : World} {ok : Nat → Prop} (hok : ∀ b, ok b → b < W.heap.size) {l : List α} {v : Value} (h : RelD W ok (.sl false (l.map eP)) v) :
    ∃ a cap, v = .slice a l.length cap ∧ l.length ≤ maxLen ∧ ∃ P : Nat → Nat × Nat × Nat × Nat × Nat × Nat, ∀ k, (hk : k < l.length) → CxAt W a (p1 l[k]) (q1 l[k]) (p2 l[k]) (q2 l[k]) (p3 l[k]) (q3 l[k]) k (P k) := by
  generalize hes : l.map eP = es at h
  cases h with
  | slnil =>
    have : l = [] := by simpa using hes
    subst this
    exact ⟨none, 0, rfl, Nat.zero_le _, fun _ => (0, 0, 0, 0, 0, 0), fun k hk => absurd hk (Nat.not_lt_zero _)⟩
  | sle =>
    have : l = [] := by simpa using hes
    subst this
    exact ⟨_, 0, rfl, Nat.zero_le _, fun _ => (0, 0, 0, 0, 0, 0), fun k hk => absurd hk (Nat.not_lt_zero _)⟩
  | sl sz vs k1 k2 k3 k4 k5 k6 k7 k8 =>
    rename_i b o len cap
    subst hes
    rw [List.length_map] at k2
    subst k2
    refine ⟨_, cap, rfl, k5, ?_⟩
    suffices h : ∀ k, ∃ P : Nat × Nat × Nat × Nat × Nat × Nat, ∀ (hk : k < l.length), CxAt W (some ⟨b, o, none⟩) (p1 l[k]) (q1 l[k]) (p2 l[k]) (q2 l[k]) (p3 l[k]) (q3 l[k]) k P from
      ⟨fun k => Classical.choose (h k), fun k hk => Classical.choose_spec (h k) hk⟩
    intro k
    by_cases hk : k < l.length
    · have e : (l.map eP).getD k [] = [.cx .f32 (p1 l[k]) (q1 l[k]), .cx .f32 (p2 l[k]) (q2 l[k]), .cx .f32 (p3 l[k]) (q3 l[k])] := by
        rw [List.getD_eq_getElem?_getD, List.getElem?_map, List.getElem?_eq_getElem hk]
        exact hf _
      have h6 := k6 k hk
      rw [e] at h6
      have h6 : 3 = sz := h6
      subst h6
      have c0 := k7 k 0 hk (by omega)
      have c1 := k7 k 1 hk (by omega)
      have c2 := k7 k 2 hk (by omega)
      have r0 := k8 k 0 hk (by omega)
      have r1 := k8 k 1 hk (by omega)
      have r2 := k8 k 2 hk (by omega)
      rw [e] at r0 r1 r2
      have r0 : RelD W ok (.cx .f32 (p1 l[k]) (q1 l[k])) (vs k 0) := r0
      have r1 : RelD W ok (.cx .f32 (p2 l[k]) (q2 l[k])) (vs k 1) := r1
      have r2 : RelD W ok (.cx .f32 (p3 l[k]) (q3 l[k])) (vs k 2) := r2
      generalize vs k 0 = u0 at c0 r0
      generalize vs k 1 = u1 at c1 r1
      generalize vs k 2 = u2 at c2 r2
      cases r0 with
      | cx a1 a2 a3 a4 =>
      cases r1 with
      | cx b1 b2 b3 b4 =>
      cases r2 with
      | cx d1 d2 d3 d4 =>
      refine ⟨(_, _, _, _, _, _), fun _ => ⟨⟨b, o, rfl, hok _ (k1 (by
        intro hnil
        have : l = [] := by simpa using hnil
        rw [this] at hk; exact absurd hk (Nat.not_lt_zero _))), by simpa using c0, by simpa [Nat.add_assoc] using c1, by simpa [Nat.add_assoc] using c2⟩, fun W' hb H ok' => .agg rfl fun i hi => ?_⟩⟩
      rcases i with _ | _ | _ | i
      · exact mk_cx a1 a2 a3 a4
      · exact mk_cx b1 b2 b3 b4
      · exact mk_cx d1 d2 d3 d4
      · simp at hi; omega
    · exact ⟨(0, 0, 0, 0, 0, 0), fun h => absurd h hk⟩
variable {byt : Int → Int → Option Str} {ph : α → Option Str}
def flowM (byt : Int → Int → Option Str) (ph : α → Option Str) (V C : List α) (R : Int) (rests : Bool) : Option (Str × Bool) :=
  if 1 ≤ V.length ∧ V.length ≤ 16 ∧ C.length = V.length ∧ 0 ≤ R ∧ R ≤ 50 then
    (byt R 1).bind fun s1 => (byt (if rests then 1 else 0) 1).bind fun s2 => grd (s1.length + s2.length ≤ 1000) ((phs ph V).bind fun xs => (phs ph C).bind fun ys =>
      some (flowT (fun k => xs.getD k []) (fun k => ys.getD k []) (s1 ++ s2) V.length, true))
  else some ([], false)
variable (hin : ∀ k lo hi, ACall prog false 60 [.d (.int .i64 k), .d (.int .i64 lo), .d (.int .i64 hi)] [] (fun v o n => v = .d (.bool (decide (lo ≤ k ∧ k ≤ hi))) ∧ o = [] ∧ n = []))
variable (hbyt : ∀ a b r, byt a b = some r → ACall prog false 113 [.d (.int .i64 a), .d (.int .i64 b)] [] (fun v o n => v = .d (.str (bstr r)) ∧ o = [] ∧ n = []))
variable (hph : ∀ a r, ph a = some r → ACall prog false 114 [.agg [.d (.cx .f32 (p1 a) (q1 a)), .d (.cx .f32 (p2 a) (q2 a)), .d (.cx .f32 (p3 a) (q3 a))]] [] (fun v o n => v = .d (.str (bstr r)) ∧ o = [] ∧ n = []))
omit hf in
theorem lay_any (W : World) : ∀ g vs, layMem g = some vs → ∃ T fr, W.heap[g]? = some (.cells vs T fr) := fun g vs h => by cases h
omit hf in
theorem relL_3 {W : World} {hb : Handle} {H : Nat → AObj} {ok : Nat → Prop} {x y z : V} {v u t : Value} (h : Rel W hb H ok x v) (h' : Rel W hb H ok y u) (h'' : Rel W hb H ok z t) : RelL W hb H ok [x, y, z] #[v, u, t] := ⟨rfl, fun i hi => by
  rcases i with _ | _ | _ | i
  · exact h
  · exact h'
  · exact h''
  · simp at hi; omega⟩
include hin hbyt hph
theorem flow_does {fr : Bool} {V C : List α} {R : Int} {rests : Bool} {r : Str × Bool} (h : flowM byt ph V C R rests = some r) :
    ACall prog fr 84 [.agg [.d (.sl false (V.map eP)), .d (.sl false (C.map eP)), .d (.int .i64 R), .d (.bool rests)]] [] (fun v o n => v = .tup [.d (.str (bstr r.1)), .d (.bool r.2)] ∧ o = [] ∧ n = []) := by
  refine acall_below fun W hb H ok vals hl hok hr => ?_
  obtain ⟨v, rfl, h1⟩ : ∃ v, vals = #[v] ∧ Rel W hb H ok (.agg [.d (.sl false (V.map eP)), .d (.sl false (C.map eP)), .d (.int .i64 R), .d (.bool rests)]) v := by
    obtain ⟨g1, g2⟩ := hr
    have hs : vals.size = 1 := by simp at g1; omega
    refine ⟨vals[0], ?_, ?_⟩
    · apply Array.ext
      · simp; omega
      · intro i hi hj
        simp at hj
        have : i = 0 := by omega
        subst this; rfl
    · have := g2 0 (by omega)
      simpa [Array.getD_eq_getD_getElem?, hs] using this
  obtain ⟨u0, u1, rfl, m0, m1⟩ : ∃ u0 u1, v = .agg #[u0, u1, .int .i64 R, .bool rests] ∧ RelD W ok (.sl false (V.map eP)) u0 ∧ RelD W ok (.sl false (C.map eP)) u1 := by
    cases h1 with
    | agg g1 g2 =>
      rename_i a
      have hs : a.size = 4 := by simp at g1; omega
      have r0 := g2 0 (by omega)
      have r1 := g2 1 (by omega)
      have r2 := rel_int (g2 2 (by omega))
      have r3 := rel_bool (g2 3 (by omega))
      have s0 : RelD W ok (.sl false (V.map eP)) (a.getD 0 undef) := by
        cases r0 with | d h => exact h
      have s1 : RelD W ok (.sl false (C.map eP)) (a.getD 1 undef) := by
        cases r1 with | d h => exact h
      refine ⟨a.getD 0 undef, a.getD 1 undef, ?_, s0, s1⟩
      congr 1
      apply Array.ext
      · simp; omega
      · intro i hi hj
        simp at hj
        have : i = 0 ∨ i = 1 ∨ i = 2 ∨ i = 3 := by omega
        rcases this with rfl | rfl | rfl | rfl
        · simp [Array.getD_eq_getD_getElem?, Array.getElem?_eq_getElem hi]
        · simp [Array.getD_eq_getD_getElem?, Array.getElem?_eq_getElem hi]
        · rw [Array.getD_eq_getD_getElem?, Array.getElem?_eq_getElem hi] at r2; exact r2
        · rw [Array.getD_eq_getD_getElem?, Array.getElem?_eq_getElem hi] at r3; exact r3
  obtain ⟨a0, cap0, rfl, n0, P, hP⟩ := open_ph hf hok m0
  obtain ⟨a1, cap1, rfl, n1, Q, hQ⟩ := open_ph hf hok m1
  have hin' : ∀ wr (k lo hi : Int), Calls prog 60 #[.int .i64 k, .int .i64 lo, .int .i64 hi] wr fun e w' => e = .returned (.bool (decide (lo ≤ k ∧ k ≤ hi))) ∧ Below wr.heap.size wr w' := fun wr k lo hi =>
    calls_of_acall (lay_any wr) (hin k lo hi) (relL_3 (mk_int _ _) (mk_int _ _) (mk_int _ _)) fun _ _ _ _ _ h => rel_bool h
  have fin : ∀ (e : Ending) (w' : World), (e = .returned (.tuple #[.string (bstr r.1), .bool r.2]) ∧ Below W.heap.size W w') → ∃ v, e = .returned v ∧ Below W.heap.size W w' ∧ ∀ hb H ok, Rel w' hb H ok (.tup [.d (.str (bstr r.1)), .d (.bool r.2)]) v := by
    rintro e w' ⟨rfl, bel⟩
    refine ⟨_, rfl, bel, fun hb H ok => .tup rfl fun i hi => ?_⟩
    rcases i with _ | _ | i
    · exact mk_str _
    · exact mk_bool _
    · simp at hi; omega
  unfold flowM at h
  by_cases hc : 1 ≤ V.length ∧ V.length ≤ 16 ∧ C.length = V.length ∧ 0 ≤ R ∧ R ≤ 50
  · rw [if_pos hc] at h
    obtain ⟨s1, e1, h⟩ := Option.bind_eq_some_iff.1 h
    obtain ⟨s2, e2, h⟩ := Option.bind_eq_some_iff.1 h
    unfold grd at h
    split at h
    · rename_i hs
      obtain ⟨xs, ex, h⟩ := Option.bind_eq_some_iff.1 h
      obtain ⟨ys, ey, h⟩ := Option.bind_eq_some_iff.1 h
      cases h
      obtain ⟨i1, i2⟩ := phs_get ex
      obtain ⟨j1, j2⟩ := phs_get ey
      refine (flow_walk W a0 a1 V.length cap0 C.length cap1 R rests (fun k => (P k).1) (fun k => (P k).2.2.1) (fun k => (P k).2.2.2.2.1) (fun k => (P k).2.1) (fun k => (P k).2.2.2.1) (fun k => (P k).2.2.2.2.2) (fun k => (Q k).1) (fun k => (Q k).2.2.1) (fun k => (Q k).2.2.2.2.1) (fun k => (Q k).2.1) (fun k => (Q k).2.2.2.1) (fun k => (Q k).2.2.2.2.2) (fun k => xs.getD k []) (fun k => ys.getD k []) s1 s2
        ⟨hc.1, hc.2.1⟩ hc.2.2.1 hc.2.2.2 hin'
        (fun wr => calls_of_acall (lay_any wr) (hbyt _ _ _ e1) (relL_2 (mk_int _ _) (mk_int _ _)) fun _ _ _ _ _ h => rel_str h)
        (fun wr => calls_of_acall (lay_any wr) (hbyt _ _ _ e2) (relL_2 (mk_int _ _) (mk_int _ _)) fun _ _ _ _ _ h => rel_str h)
        (fun k hk wr => calls_of_acall (lay_any wr) (hph _ _ (i1 k hk)) (relL_1 ((hP k hk).2 _ _ _ _)) fun _ _ _ _ _ h => rel_str h)
        (fun k hk wr => calls_of_acall (lay_any wr) (hph _ _ (j1 k (by omega))) (relL_1 ((hQ k (by omega)).2 _ _ _ _)) fun _ _ _ _ _ h => rel_str h)
        (fun k hk => (hP k hk).1) (fun k hk => (hQ k (by omega)).1) ⟨hs, fun k => ⟨i2 k, j2 k⟩⟩).mono fun e w' h => fin e w' h
    · cases h
  · rw [if_neg hc] at h
    cases h
    exact (flow_no W a0 a1 V.length cap0 C.length cap1 R rests hc ⟨n0, n1⟩ hin').mono fun e w' h => fin e w' h
end
end Go.Proofs.Ytolggocnbakokaa.AWN
