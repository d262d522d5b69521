/- The types of the program, as the calculus reads them. -/
import Derived.Test.YtolggocnbakokaaProg
import Derived.KernelRfl
import Derived.Test.YtolggocnbakokaaCalcB
import Derived.Test.YtolggocnbakokaaCalcC
set_option linter.unusedVariables false
set_option linter.unusedSimpArgs false
set_option linter.unusedSectionVars false
namespace Go.Proofs.Ytolggocnbakokaa.AWN
open Go Go.Proofs.Try
def TiOk (t : TypeId) (td : TD) : Prop := prog.underlying t = some td.desc ∧ ∃ i, prog.info? t = some i ∧ i.size = td.size ∧ i.bytes = td.bytes ∧ i.zero = some td.zero
theorem tiOk {t : TypeId} {td : TD} (h : prog.underlying t = some td.desc) (h' : (prog.info? t).map (fun i => (i.size, i.bytes, i.zero)) = some (td.size, td.bytes, some td.zero)) : TiOk t td := by
  refine ⟨h, ?_⟩
  cases hi : prog.info? t with
  | none => rw [hi] at h'; cases h'
  | some i =>
    rw [hi] at h'
    simp only [Option.map_some, Option.some.injEq, Prod.mk.injEq] at h'
    exact ⟨i, rfl, h'.1, h'.2.1, h'.2.2⟩

theorem ti1 : (prog.info? 1).map (fun i => (i.size, i.bytes, i.zero)) = some (1, 8, some (.nilFunc)) := by kernel_rfl
theorem ti2 : (prog.info? 2).map (fun i => (i.size, i.bytes, i.zero)) = some (1, 8, some (.int .i64 0)) := by kernel_rfl
theorem ti3 : (prog.info? 3).map (fun i => (i.size, i.bytes, i.zero)) = some (1, 8, some (.int .i64 0)) := by kernel_rfl
theorem ti4 : (prog.info? 4).map (fun i => (i.size, i.bytes, i.zero)) = some (1, 1, some (.bool false)) := by kernel_rfl
theorem ti5 : (prog.info? 5).map (fun i => (i.size, i.bytes, i.zero)) = some (1, 1, some (.int .u8 0)) := by kernel_rfl
theorem ti6 : (prog.info? 6).map (fun i => (i.size, i.bytes, i.zero)) = some (1, 1, some (.int .u8 0)) := by kernel_rfl
theorem ti7 : (prog.info? 7).map (fun i => (i.size, i.bytes, i.zero)) = some (4, 24, some (.agg #[.int .i64 0, .int .i64 0, .bool false, .int .u8 0])) := by kernel_rfl
theorem ti8 : (prog.info? 8).map (fun i => (i.size, i.bytes, i.zero)) = some (4, 24, some (.agg #[.int .i64 0, .int .i64 0, .bool false, .int .u8 0])) := by kernel_rfl
theorem ti9 : (prog.info? 9).map (fun i => (i.size, i.bytes, i.zero)) = some (1, 16, some (.string ⟨#[]⟩)) := by kernel_rfl
theorem ti10 : (prog.info? 10).map (fun i => (i.size, i.bytes, i.zero)) = some (1, 16, some (.string ⟨#[]⟩)) := by kernel_rfl
theorem ti11 : (prog.info? 11).map (fun i => (i.size, i.bytes, i.zero)) = some (1, 16, some (.string ⟨#[]⟩)) := by kernel_rfl
theorem ti12 : (prog.info? 12).map (fun i => (i.size, i.bytes, i.zero)) = some (1, 8, some (.int .u64 0)) := by kernel_rfl
theorem ti13 : (prog.info? 13).map (fun i => (i.size, i.bytes, i.zero)) = some (2, 24, some (.agg #[.string ⟨#[]⟩, .int .u64 0])) := by kernel_rfl
theorem ti14 : (prog.info? 14).map (fun i => (i.size, i.bytes, i.zero)) = some (2, 24, some (.agg #[.string ⟨#[]⟩, .int .u64 0])) := by kernel_rfl
theorem ti15 : (prog.info? 15).map (fun i => (i.size, i.bytes, i.zero)) = some (1, 8, some (.pointer none)) := by kernel_rfl
theorem ti16 : (prog.info? 16).map (fun i => (i.size, i.bytes, i.zero)) = some (1, 8, some (.pointer none)) := by kernel_rfl
theorem ti17 : (prog.info? 17).map (fun i => (i.size, i.bytes, i.zero)) = some (1, 8, some (.pointer none)) := by kernel_rfl
theorem ti18 : (prog.info? 18).map (fun i => (i.size, i.bytes, i.zero)) = some (1, 8, some (.agg #[.pointer none])) := by kernel_rfl
theorem ti19 : (prog.info? 19).map (fun i => (i.size, i.bytes, i.zero)) = some (1, 8, some (.agg #[.pointer none])) := by kernel_rfl
theorem ti21 : (prog.info? 21).map (fun i => (i.size, i.bytes, i.zero)) = some (1, 4, some (.int .i32 0)) := by kernel_rfl
theorem ti22 : (prog.info? 22).map (fun i => (i.size, i.bytes, i.zero)) = some (1, 24, some (.slice none 0 0)) := by kernel_rfl
theorem ti23 : (prog.info? 23).map (fun i => (i.size, i.bytes, i.zero)) = some (1, 8, some (.nilFunc)) := by kernel_rfl
theorem ti24 : (prog.info? 24).map (fun i => (i.size, i.bytes, i.zero)) = some (1, 8, some (.nilFunc)) := by kernel_rfl
theorem ti25 : (prog.info? 25).map (fun i => (i.size, i.bytes, i.zero)) = some (1, 24, some (.slice none 0 0)) := by kernel_rfl
theorem ti26 : (prog.info? 26).map (fun i => (i.size, i.bytes, i.zero)) = some (1, 8, some (.nilFunc)) := by kernel_rfl
theorem ti27 : (prog.info? 27).map (fun i => (i.size, i.bytes, i.zero)) = some (1, 8, some (.complex .f32 0 0)) := by kernel_rfl
theorem ti28 : (prog.info? 28).map (fun i => (i.size, i.bytes, i.zero)) = some (1, 8, some (.nilFunc)) := by kernel_rfl
theorem ti29 : (prog.info? 29).map (fun i => (i.size, i.bytes, i.zero)) = some (1, 8, some (.nilFunc)) := by kernel_rfl
theorem ti31 : (prog.info? 31).map (fun i => (i.size, i.bytes, i.zero)) = some (1, 8, some (.nilFunc)) := by kernel_rfl
theorem ti32 : (prog.info? 32).map (fun i => (i.size, i.bytes, i.zero)) = some (1, 8, some (.nilFunc)) := by kernel_rfl
theorem ti33 : (prog.info? 33).map (fun i => (i.size, i.bytes, i.zero)) = some (1, 8, some (.nilFunc)) := by kernel_rfl
theorem ti34 : (prog.info? 34).map (fun i => (i.size, i.bytes, i.zero)) = some (1, 4, some (.float .f32 0)) := by kernel_rfl
theorem ti36 : (prog.info? 36).map (fun i => (i.size, i.bytes, i.zero)) = some (1, 8, some (.nilFunc)) := by kernel_rfl
theorem ti37 : (prog.info? 37).map (fun i => (i.size, i.bytes, i.zero)) = some (1, 8, some (.nilFunc)) := by kernel_rfl
theorem ti38 : (prog.info? 38).map (fun i => (i.size, i.bytes, i.zero)) = some (1, 24, some (.slice none 0 0)) := by kernel_rfl
theorem ti39 : (prog.info? 39).map (fun i => (i.size, i.bytes, i.zero)) = some (2, 32, some (.agg #[.int .i64 0, .slice none 0 0])) := by kernel_rfl
theorem ti40 : (prog.info? 40).map (fun i => (i.size, i.bytes, i.zero)) = some (2, 32, some (.agg #[.int .i64 0, .slice none 0 0])) := by kernel_rfl
theorem ti41 : (prog.info? 41).map (fun i => (i.size, i.bytes, i.zero)) = some (1, 8, some (.nilFunc)) := by kernel_rfl
theorem ti43 : (prog.info? 43).map (fun i => (i.size, i.bytes, i.zero)) = some (1, 8, some (.nilFunc)) := by kernel_rfl
theorem ti45 : (prog.info? 45).map (fun i => (i.size, i.bytes, i.zero)) = some (1, 8, some (.nilFunc)) := by kernel_rfl
theorem ti46 : (prog.info? 46).map (fun i => (i.size, i.bytes, i.zero)) = some (1, 8, some (.nilFunc)) := by kernel_rfl
theorem ti47 : (prog.info? 47).map (fun i => (i.size, i.bytes, i.zero)) = some (1, 24, some (.slice none 0 0)) := by kernel_rfl
theorem ti48 : (prog.info? 48).map (fun i => (i.size, i.bytes, i.zero)) = some (1, 8, some (.nilFunc)) := by kernel_rfl
theorem ti49 : (prog.info? 49).map (fun i => (i.size, i.bytes, i.zero)) = some (1, 8, some (.nilFunc)) := by kernel_rfl
theorem ti50 : (prog.info? 50).map (fun i => (i.size, i.bytes, i.zero)) = some (1, 8, some (.nilFunc)) := by kernel_rfl
theorem ti51 : (prog.info? 51).map (fun i => (i.size, i.bytes, i.zero)) = some (1, 8, some (.nilFunc)) := by kernel_rfl
theorem ti52 : (prog.info? 52).map (fun i => (i.size, i.bytes, i.zero)) = some (1, 24, some (.slice none 0 0)) := by kernel_rfl
theorem ti53 : (prog.info? 53).map (fun i => (i.size, i.bytes, i.zero)) = some (2, 48, some (.agg #[.slice none 0 0, .slice none 0 0])) := by kernel_rfl
theorem ti54 : (prog.info? 54).map (fun i => (i.size, i.bytes, i.zero)) = some (2, 48, some (.agg #[.slice none 0 0, .slice none 0 0])) := by kernel_rfl
theorem ti55 : (prog.info? 55).map (fun i => (i.size, i.bytes, i.zero)) = some (1, 8, some (.nilFunc)) := by kernel_rfl
theorem ti56 : (prog.info? 56).map (fun i => (i.size, i.bytes, i.zero)) = some (1, 8, some (.nilFunc)) := by kernel_rfl
theorem ti58 : (prog.info? 58).map (fun i => (i.size, i.bytes, i.zero)) = some (1, 8, some (.nilFunc)) := by kernel_rfl
theorem ti59 : (prog.info? 59).map (fun i => (i.size, i.bytes, i.zero)) = some (1, 8, some (.nilFunc)) := by kernel_rfl
theorem ti60 : (prog.info? 60).map (fun i => (i.size, i.bytes, i.zero)) = some (1, 8, some (.nilFunc)) := by kernel_rfl
theorem ti61 : (prog.info? 61).map (fun i => (i.size, i.bytes, i.zero)) = some (1, 8, some (.nilFunc)) := by kernel_rfl
theorem ti62 : (prog.info? 62).map (fun i => (i.size, i.bytes, i.zero)) = some (1, 8, some (.nilFunc)) := by kernel_rfl
theorem ti63 : (prog.info? 63).map (fun i => (i.size, i.bytes, i.zero)) = some (3, 24, some (.agg #[.complex .f32 0 0, .complex .f32 0 0, .complex .f32 0 0])) := by kernel_rfl
theorem ti64 : (prog.info? 64).map (fun i => (i.size, i.bytes, i.zero)) = some (3, 24, some (.agg #[.complex .f32 0 0, .complex .f32 0 0, .complex .f32 0 0])) := by kernel_rfl
theorem ti65 : (prog.info? 65).map (fun i => (i.size, i.bytes, i.zero)) = some (1, 24, some (.slice none 0 0)) := by kernel_rfl
theorem ti66 : (prog.info? 66).map (fun i => (i.size, i.bytes, i.zero)) = some (4, 48, some (.agg #[.complex .f32 0 0, .complex .f32 0 0, .complex .f32 0 0, .slice none 0 0])) := by kernel_rfl
theorem ti67 : (prog.info? 67).map (fun i => (i.size, i.bytes, i.zero)) = some (4, 48, some (.agg #[.complex .f32 0 0, .complex .f32 0 0, .complex .f32 0 0, .slice none 0 0])) := by kernel_rfl
theorem ti68 : (prog.info? 68).map (fun i => (i.size, i.bytes, i.zero)) = some (1, 8, some (.nilFunc)) := by kernel_rfl
theorem ti69 : (prog.info? 69).map (fun i => (i.size, i.bytes, i.zero)) = some (1, 24, some (.slice none 0 0)) := by kernel_rfl
theorem ti71 : (prog.info? 71).map (fun i => (i.size, i.bytes, i.zero)) = some (1, 8, some (.nilFunc)) := by kernel_rfl
theorem ti72 : (prog.info? 72).map (fun i => (i.size, i.bytes, i.zero)) = some (1, 8, some (.nilFunc)) := by kernel_rfl
theorem ti73 : (prog.info? 73).map (fun i => (i.size, i.bytes, i.zero)) = some (1, 8, some (.nilFunc)) := by kernel_rfl
theorem ti74 : (prog.info? 74).map (fun i => (i.size, i.bytes, i.zero)) = some (4, 64, some (.agg #[.slice none 0 0, .slice none 0 0, .int .i64 0, .bool false])) := by kernel_rfl
theorem ti75 : (prog.info? 75).map (fun i => (i.size, i.bytes, i.zero)) = some (4, 64, some (.agg #[.slice none 0 0, .slice none 0 0, .int .i64 0, .bool false])) := by kernel_rfl
theorem ti77 : (prog.info? 77).map (fun i => (i.size, i.bytes, i.zero)) = some (1, 8, some (.nilFunc)) := by kernel_rfl
theorem ti78 : (prog.info? 78).map (fun i => (i.size, i.bytes, i.zero)) = some (1, 8, some (.nilFunc)) := by kernel_rfl
theorem ti79 : (prog.info? 79).map (fun i => (i.size, i.bytes, i.zero)) = some (1, 8, some (.nilFunc)) := by kernel_rfl
theorem ti80 : (prog.info? 80).map (fun i => (i.size, i.bytes, i.zero)) = some (1, 8, some (.nilFunc)) := by kernel_rfl
theorem ti81 : (prog.info? 81).map (fun i => (i.size, i.bytes, i.zero)) = some (1, 8, some (.pointer none)) := by kernel_rfl
theorem ti82 : (prog.info? 82).map (fun i => (i.size, i.bytes, i.zero)) = some (1, 8, some (.nilFunc)) := by kernel_rfl
theorem ti83 : (prog.info? 83).map (fun i => (i.size, i.bytes, i.zero)) = some (1, 8, some (.nilFunc)) := by kernel_rfl
theorem ti84 : (prog.info? 84).map (fun i => (i.size, i.bytes, i.zero)) = some (1, 8, some (.nilFunc)) := by kernel_rfl
theorem ti85 : (prog.info? 85).map (fun i => (i.size, i.bytes, i.zero)) = some (1, 8, some (.nilFunc)) := by kernel_rfl
theorem ti86 : (prog.info? 86).map (fun i => (i.size, i.bytes, i.zero)) = some (1, 8, some (.nilFunc)) := by kernel_rfl
theorem ti87 : (prog.info? 87).map (fun i => (i.size, i.bytes, i.zero)) = some (1, 8, some (.float .f64 0)) := by kernel_rfl
theorem ti88 : (prog.info? 88).map (fun i => (i.size, i.bytes, i.zero)) = some (1, 8, some (.nilFunc)) := by kernel_rfl
theorem ti89 : (prog.info? 89).map (fun i => (i.size, i.bytes, i.zero)) = some (1, 8, some (.nilFunc)) := by kernel_rfl
theorem ti90 : (prog.info? 90).map (fun i => (i.size, i.bytes, i.zero)) = some (1, 8, some (.nilFunc)) := by kernel_rfl
theorem ti91 : (prog.info? 91).map (fun i => (i.size, i.bytes, i.zero)) = some (1, 8, some (.nilFunc)) := by kernel_rfl
theorem ti92 : (prog.info? 92).map (fun i => (i.size, i.bytes, i.zero)) = some (1, 8, some (.nilFunc)) := by kernel_rfl
theorem ti93 : (prog.info? 93).map (fun i => (i.size, i.bytes, i.zero)) = some (1, 8, some (.nilFunc)) := by kernel_rfl
theorem ti94 : (prog.info? 94).map (fun i => (i.size, i.bytes, i.zero)) = some (1, 8, some (.nilFunc)) := by kernel_rfl
theorem ti95 : (prog.info? 95).map (fun i => (i.size, i.bytes, i.zero)) = some (1, 8, some (.nilFunc)) := by kernel_rfl
theorem ti96 : (prog.info? 96).map (fun i => (i.size, i.bytes, i.zero)) = some (1, 8, some (.nilFunc)) := by kernel_rfl
theorem ti97 : (prog.info? 97).map (fun i => (i.size, i.bytes, i.zero)) = some (1, 8, some (.nilFunc)) := by kernel_rfl
theorem ti98 : (prog.info? 98).map (fun i => (i.size, i.bytes, i.zero)) = some (1, 8, some (.nilFunc)) := by kernel_rfl
theorem ti99 : (prog.info? 99).map (fun i => (i.size, i.bytes, i.zero)) = some (1, 8, some (.nilFunc)) := by kernel_rfl
theorem ti100 : (prog.info? 100).map (fun i => (i.size, i.bytes, i.zero)) = some (1, 8, some (.pointer none)) := by kernel_rfl
theorem ti101 : (prog.info? 101).map (fun i => (i.size, i.bytes, i.zero)) = some (1, 8, some (.nilFunc)) := by kernel_rfl
theorem ti102 : (prog.info? 102).map (fun i => (i.size, i.bytes, i.zero)) = some (1, 8, some (.nilFunc)) := by kernel_rfl
theorem ti103 : (prog.info? 103).map (fun i => (i.size, i.bytes, i.zero)) = some (1, 8, some (.nilFunc)) := by kernel_rfl
theorem ti104 : (prog.info? 104).map (fun i => (i.size, i.bytes, i.zero)) = some (1, 8, some (.nilFunc)) := by kernel_rfl
theorem ti105 : (prog.info? 105).map (fun i => (i.size, i.bytes, i.zero)) = some (1, 8, some (.nilFunc)) := by kernel_rfl
theorem ti106 : (prog.info? 106).map (fun i => (i.size, i.bytes, i.zero)) = some (1, 8, some (.nilFunc)) := by kernel_rfl
theorem ti107 : (prog.info? 107).map (fun i => (i.size, i.bytes, i.zero)) = some (1, 8, some (.nilFunc)) := by kernel_rfl
theorem ti108 : (prog.info? 108).map (fun i => (i.size, i.bytes, i.zero)) = some (1, 8, some (.nilFunc)) := by kernel_rfl
theorem ti109 : (prog.info? 109).map (fun i => (i.size, i.bytes, i.zero)) = some (3, 32, some (.agg #[.string ⟨#[]⟩, .int .i64 0, .bool false])) := by kernel_rfl
theorem ti110 : (prog.info? 110).map (fun i => (i.size, i.bytes, i.zero)) = some (3, 32, some (.agg #[.string ⟨#[]⟩, .int .i64 0, .bool false])) := by kernel_rfl
theorem ti111 : (prog.info? 111).map (fun i => (i.size, i.bytes, i.zero)) = some (1, 8, some (.nilFunc)) := by kernel_rfl
theorem ti112 : (prog.info? 112).map (fun i => (i.size, i.bytes, i.zero)) = some (1, 8, some (.nilFunc)) := by kernel_rfl
theorem ti114 : (prog.info? 114).map (fun i => (i.size, i.bytes, i.zero)) = some (1, 8, some (.nilFunc)) := by kernel_rfl
theorem ti115 : (prog.info? 115).map (fun i => (i.size, i.bytes, i.zero)) = some (1, 8, some (.nilFunc)) := by kernel_rfl
theorem ti116 : (prog.info? 116).map (fun i => (i.size, i.bytes, i.zero)) = some (1, 8, some (.nilFunc)) := by kernel_rfl
theorem ti117 : (prog.info? 117).map (fun i => (i.size, i.bytes, i.zero)) = some (1, 8, some (.int .u64 0)) := by kernel_rfl
theorem ti118 : (prog.info? 118).map (fun i => (i.size, i.bytes, i.zero)) = some (3, 40, some (.agg #[.slice none 0 0, .int .i64 0, .int .u64 0])) := by kernel_rfl
theorem ti119 : (prog.info? 119).map (fun i => (i.size, i.bytes, i.zero)) = some (3, 40, some (.agg #[.slice none 0 0, .int .i64 0, .int .u64 0])) := by kernel_rfl
theorem ti120 : (prog.info? 120).map (fun i => (i.size, i.bytes, i.zero)) = some (1, 8, some (.nilFunc)) := by kernel_rfl
theorem ti121 : (prog.info? 121).map (fun i => (i.size, i.bytes, i.zero)) = some (1, 8, some (.nilFunc)) := by kernel_rfl
theorem ti122 : (prog.info? 122).map (fun i => (i.size, i.bytes, i.zero)) = some (1, 16, some (.complex .f64 0 0)) := by kernel_rfl
theorem ti123 : (prog.info? 123).map (fun i => (i.size, i.bytes, i.zero)) = some (1, 8, some (.nilFunc)) := by kernel_rfl
theorem ti124 : (prog.info? 124).map (fun i => (i.size, i.bytes, i.zero)) = some (1, 8, some (.nilFunc)) := by kernel_rfl
theorem ti126 : (prog.info? 126).map (fun i => (i.size, i.bytes, i.zero)) = some (1, 8, some (.nilFunc)) := by kernel_rfl
theorem ti127 : (prog.info? 127).map (fun i => (i.size, i.bytes, i.zero)) = some (1, 8, some (.nilFunc)) := by kernel_rfl
theorem ti128 : (prog.info? 128).map (fun i => (i.size, i.bytes, i.zero)) = some (1, 8, some (.pointer none)) := by kernel_rfl
theorem ti129 : (prog.info? 129).map (fun i => (i.size, i.bytes, i.zero)) = some (1, 8, some (.nilFunc)) := by kernel_rfl
theorem ti130 : (prog.info? 130).map (fun i => (i.size, i.bytes, i.zero)) = some (1, 8, some (.nilFunc)) := by kernel_rfl
theorem ti131 : (prog.info? 131).map (fun i => (i.size, i.bytes, i.zero)) = some (1, 8, some (.nilFunc)) := by kernel_rfl
theorem ti132 : (prog.info? 132).map (fun i => (i.size, i.bytes, i.zero)) = some (1, 8, some (.nilFunc)) := by kernel_rfl
theorem ti133 : (prog.info? 133).map (fun i => (i.size, i.bytes, i.zero)) = some (8, 64, some (.agg #[.int .i64 0, .complex .f32 0 0, .complex .f32 0 0, .int .i64 0, .complex .f32 0 0, .complex .f32 0 0, .complex .f32 0 0, .int .i64 0])) := by kernel_rfl
theorem ti134 : (prog.info? 134).map (fun i => (i.size, i.bytes, i.zero)) = some (8, 64, some (.agg #[.int .i64 0, .complex .f32 0 0, .complex .f32 0 0, .int .i64 0, .complex .f32 0 0, .complex .f32 0 0, .complex .f32 0 0, .int .i64 0])) := by kernel_rfl
theorem ti135 : (prog.info? 135).map (fun i => (i.size, i.bytes, i.zero)) = some (1, 8, some (.nilFunc)) := by kernel_rfl
theorem ti136 : (prog.info? 136).map (fun i => (i.size, i.bytes, i.zero)) = some (1, 8, some (.pointer none)) := by kernel_rfl
theorem ti137 : (prog.info? 137).map (fun i => (i.size, i.bytes, i.zero)) = some (1, 8, some (.nilFunc)) := by kernel_rfl
theorem ti138 : (prog.info? 138).map (fun i => (i.size, i.bytes, i.zero)) = some (1, 8, some (.nilFunc)) := by kernel_rfl
theorem ti139 : (prog.info? 139).map (fun i => (i.size, i.bytes, i.zero)) = some (1, 8, some (.nilFunc)) := by kernel_rfl
theorem ti140 : (prog.info? 140).map (fun i => (i.size, i.bytes, i.zero)) = some (1, 8, some (.pointer none)) := by kernel_rfl
theorem ti141 : (prog.info? 141).map (fun i => (i.size, i.bytes, i.zero)) = some (3, 32, some (.agg #[.string ⟨#[]⟩, .int .i64 0, .bool false])) := by kernel_rfl
theorem ti142 : (prog.info? 142).map (fun i => (i.size, i.bytes, i.zero)) = some (3, 32, some (.agg #[.string ⟨#[]⟩, .int .i64 0, .bool false])) := by kernel_rfl
theorem ti143 : (prog.info? 143).map (fun i => (i.size, i.bytes, i.zero)) = some (1, 8, some (.nilFunc)) := by kernel_rfl
theorem ti144 : (prog.info? 144).map (fun i => (i.size, i.bytes, i.zero)) = some (1, 8, some (.pointer none)) := by kernel_rfl
theorem ti145 : (prog.info? 145).map (fun i => (i.size, i.bytes, i.zero)) = some (1, 8, some (.pointer none)) := by kernel_rfl
theorem ti146 : (prog.info? 146).map (fun i => (i.size, i.bytes, i.zero)) = some (1, 8, some (.int .u64 0)) := by kernel_rfl
theorem ti147 : (prog.info? 147).map (fun i => (i.size, i.bytes, i.zero)) = some (1, 8, some (.nilFunc)) := by kernel_rfl
theorem ti148 : (prog.info? 148).map (fun i => (i.size, i.bytes, i.zero)) = some (1, 8, some (.pointer none)) := by kernel_rfl
theorem ti149 : (prog.info? 149).map (fun i => (i.size, i.bytes, i.zero)) = some (2, 32, some (.agg #[.pointer none, .slice none 0 0])) := by kernel_rfl
theorem ti150 : (prog.info? 150).map (fun i => (i.size, i.bytes, i.zero)) = some (2, 32, some (.agg #[.pointer none, .slice none 0 0])) := by kernel_rfl
theorem ti154 : (prog.info? 154).map (fun i => (i.size, i.bytes, i.zero)) = some (1, 8, some (.nilFunc)) := by kernel_rfl
theorem ti155 : (prog.info? 155).map (fun i => (i.size, i.bytes, i.zero)) = some (1, 8, some (.nilFunc)) := by kernel_rfl
theorem ti156 : (prog.info? 156).map (fun i => (i.size, i.bytes, i.zero)) = some (1, 8, some (.nilFunc)) := by kernel_rfl
theorem ti157 : (prog.info? 157).map (fun i => (i.size, i.bytes, i.zero)) = some (1, 8, some (.nilFunc)) := by kernel_rfl
theorem ti158 : (prog.info? 158).map (fun i => (i.size, i.bytes, i.zero)) = some (1, 8, some (.nilFunc)) := by kernel_rfl
theorem ti159 : (prog.info? 159).map (fun i => (i.size, i.bytes, i.zero)) = some (1, 8, some (.nilFunc)) := by kernel_rfl
theorem ti160 : (prog.info? 160).map (fun i => (i.size, i.bytes, i.zero)) = some (1, 8, some (.nilFunc)) := by kernel_rfl
theorem ti161 : (prog.info? 161).map (fun i => (i.size, i.bytes, i.zero)) = some (1, 8, some (.nilFunc)) := by kernel_rfl
theorem ti162 : (prog.info? 162).map (fun i => (i.size, i.bytes, i.zero)) = some (1, 8, some (.nilFunc)) := by kernel_rfl
theorem ti163 : (prog.info? 163).map (fun i => (i.size, i.bytes, i.zero)) = some (1, 4, some (.int .u32 0)) := by kernel_rfl
theorem ti164 : (prog.info? 164).map (fun i => (i.size, i.bytes, i.zero)) = some (1, 8, some (.nilFunc)) := by kernel_rfl
theorem ti165 : (prog.info? 165).map (fun i => (i.size, i.bytes, i.zero)) = some (1, 8, some (.nilFunc)) := by kernel_rfl
theorem ti166 : (prog.info? 166).map (fun i => (i.size, i.bytes, i.zero)) = some (1, 8, some (.nilFunc)) := by kernel_rfl
theorem ti167 : (prog.info? 167).map (fun i => (i.size, i.bytes, i.zero)) = some (1, 8, some (.nilFunc)) := by kernel_rfl
theorem ti168 : (prog.info? 168).map (fun i => (i.size, i.bytes, i.zero)) = some (1, 8, some (.nilFunc)) := by kernel_rfl
theorem ti169 : (prog.info? 169).map (fun i => (i.size, i.bytes, i.zero)) = some (1, 8, some (.nilFunc)) := by kernel_rfl
theorem ti170 : (prog.info? 170).map (fun i => (i.size, i.bytes, i.zero)) = some (1, 8, some (.nilFunc)) := by kernel_rfl
theorem ti171 : (prog.info? 171).map (fun i => (i.size, i.bytes, i.zero)) = some (1, 8, some (.pointer none)) := by kernel_rfl
theorem ti172 : (prog.info? 172).map (fun i => (i.size, i.bytes, i.zero)) = some (1, 8, some (.nilFunc)) := by kernel_rfl
theorem ti173 : (prog.info? 173).map (fun i => (i.size, i.bytes, i.zero)) = some (1, 8, some (.nilFunc)) := by kernel_rfl
theorem ti174 : (prog.info? 174).map (fun i => (i.size, i.bytes, i.zero)) = some (1, 8, some (.nilFunc)) := by kernel_rfl
theorem ti175 : (prog.info? 175).map (fun i => (i.size, i.bytes, i.zero)) = some (1, 8, some (.nilFunc)) := by kernel_rfl
theorem ti177 : (prog.info? 177).map (fun i => (i.size, i.bytes, i.zero)) = some (1, 8, some (.nilFunc)) := by kernel_rfl
theorem ti178 : (prog.info? 178).map (fun i => (i.size, i.bytes, i.zero)) = some (1, 8, some (.nilFunc)) := by kernel_rfl
theorem ti179 : (prog.info? 179).map (fun i => (i.size, i.bytes, i.zero)) = some (1, 8, some (.nilFunc)) := by kernel_rfl
theorem ti180 : (prog.info? 180).map (fun i => (i.size, i.bytes, i.zero)) = some (1, 8, some (.nilFunc)) := by kernel_rfl
theorem ti181 : (prog.info? 181).map (fun i => (i.size, i.bytes, i.zero)) = some (1, 8, some (.nilFunc)) := by kernel_rfl
theorem ti182 : (prog.info? 182).map (fun i => (i.size, i.bytes, i.zero)) = some (4, 40, some (.agg #[.pointer none, .pointer none, .pointer none, .string ⟨#[]⟩])) := by kernel_rfl
theorem ti183 : (prog.info? 183).map (fun i => (i.size, i.bytes, i.zero)) = some (4, 40, some (.agg #[.pointer none, .pointer none, .pointer none, .string ⟨#[]⟩])) := by kernel_rfl
theorem ti187 : (prog.info? 187).map (fun i => (i.size, i.bytes, i.zero)) = some (1, 8, some (.nilFunc)) := by kernel_rfl
theorem ti188 : (prog.info? 188).map (fun i => (i.size, i.bytes, i.zero)) = some (1, 1, some (.int .u8 0)) := by kernel_rfl
theorem ti189 : (prog.info? 189).map (fun i => (i.size, i.bytes, i.zero)) = some (1, 1, some (.int .u8 0)) := by kernel_rfl
theorem ti190 : (prog.info? 190).map (fun i => (i.size, i.bytes, i.zero)) = some (1, 8, some (.nilFunc)) := by kernel_rfl
theorem ti191 : (prog.info? 191).map (fun i => (i.size, i.bytes, i.zero)) = some (1, 4, some (.int .i32 0)) := by kernel_rfl
theorem ti192 : (prog.info? 192).map (fun i => (i.size, i.bytes, i.zero)) = some (1, 4, some (.int .i32 0)) := by kernel_rfl
theorem ti193 : (prog.info? 193).map (fun i => (i.size, i.bytes, i.zero)) = some (11, 48, some (.agg #[.int .u64 0, .int .u64 0, .int .u32 0, .int .u8 0, .int .u8 0, .int .u8 0, .int .u8 0, .nilFunc, .pointer none, .int .i32 0, .int .i32 0])) := by kernel_rfl
theorem ti194 : (prog.info? 194).map (fun i => (i.size, i.bytes, i.zero)) = some (11, 48, some (.agg #[.int .u64 0, .int .u64 0, .int .u32 0, .int .u8 0, .int .u8 0, .int .u8 0, .int .u8 0, .nilFunc, .pointer none, .int .i32 0, .int .i32 0])) := by kernel_rfl
theorem ti195 : (prog.info? 195).map (fun i => (i.size, i.bytes, i.zero)) = some (1, 8, some (.nilFunc)) := by kernel_rfl
def td1 : TD := ⟨(TypeDesc.func #[] #[] false), 1, 8, .nilFunc⟩
def td2 : TD := ⟨(TypeDesc.int IntKind.i64), 1, 8, .int .i64 0⟩
def td3 : TD := ⟨(TypeDesc.int IntKind.i64), 1, 8, .int .i64 0⟩
def td4 : TD := ⟨TypeDesc.bool, 1, 1, .bool false⟩
def td5 : TD := ⟨(TypeDesc.int IntKind.u8), 1, 1, .int .u8 0⟩
def td6 : TD := ⟨(TypeDesc.int IntKind.u8), 1, 1, .int .u8 0⟩
def td7 : TD := ⟨(TypeDesc.struct #[{ name := "x", type := 2, offset := 0, embedded := false, tag := "", pkgPath := "runtime", byteOffset := 0 }, { name := "y", type := 3, offset := 1, embedded := false, tag := "", pkgPath := "runtime", byteOffset := 8 }, { name := "signed", type := 4, offset := 2, embedded := false, tag := "", pkgPath := "runtime", byteOffset := 16 }, { name := "code", type := 6, offset := 3, embedded := false, tag := "", pkgPath := "runtime", byteOffset := 17 }]), 4, 24, .agg #[.int .i64 0, .int .i64 0, .bool false, .int .u8 0]⟩
def td8 : TD := ⟨(TypeDesc.struct #[{ name := "x", type := 2, offset := 0, embedded := false, tag := "", pkgPath := "runtime", byteOffset := 0 }, { name := "y", type := 3, offset := 1, embedded := false, tag := "", pkgPath := "runtime", byteOffset := 8 }, { name := "signed", type := 4, offset := 2, embedded := false, tag := "", pkgPath := "runtime", byteOffset := 16 }, { name := "code", type := 6, offset := 3, embedded := false, tag := "", pkgPath := "runtime", byteOffset := 17 }]), 4, 24, .agg #[.int .i64 0, .int .i64 0, .bool false, .int .u8 0]⟩
def td9 : TD := ⟨TypeDesc.string, 1, 16, .string ⟨#[]⟩⟩
def td10 : TD := ⟨TypeDesc.string, 1, 16, .string ⟨#[]⟩⟩
def td11 : TD := ⟨TypeDesc.string, 1, 16, .string ⟨#[]⟩⟩
def td12 : TD := ⟨(TypeDesc.int IntKind.u64), 1, 8, .int .u64 0⟩
def td13 : TD := ⟨(TypeDesc.struct #[{ name := "msg", type := 9, offset := 0, embedded := false, tag := "", pkgPath := "runtime", byteOffset := 0 }, { name := "addr", type := 12, offset := 1, embedded := false, tag := "", pkgPath := "runtime", byteOffset := 16 }]), 2, 24, .agg #[.string ⟨#[]⟩, .int .u64 0]⟩
def td14 : TD := ⟨(TypeDesc.struct #[{ name := "msg", type := 9, offset := 0, embedded := false, tag := "", pkgPath := "runtime", byteOffset := 0 }, { name := "addr", type := 12, offset := 1, embedded := false, tag := "", pkgPath := "runtime", byteOffset := 16 }]), 2, 24, .agg #[.string ⟨#[]⟩, .int .u64 0]⟩
def td15 : TD := ⟨(TypeDesc.pointer 183), 1, 8, .pointer none⟩
def td16 : TD := ⟨(TypeDesc.pointer 186), 1, 8, .pointer none⟩
def td17 : TD := ⟨(TypeDesc.pointer 194), 1, 8, .pointer none⟩
def td18 : TD := ⟨(TypeDesc.struct #[{ name := "typ", type := 17, offset := 0, embedded := false, tag := "", pkgPath := "internal/runtime/maps", byteOffset := 0 }]), 1, 8, .agg #[.pointer none]⟩
def td19 : TD := ⟨(TypeDesc.struct #[{ name := "typ", type := 17, offset := 0, embedded := false, tag := "", pkgPath := "internal/runtime/maps", byteOffset := 0 }]), 1, 8, .agg #[.pointer none]⟩
def td21 : TD := ⟨(TypeDesc.int IntKind.i32), 1, 4, .int .i32 0⟩
def td22 : TD := ⟨(TypeDesc.slice 5), 1, 24, .slice none 0 0⟩
def td23 : TD := ⟨(TypeDesc.func #[22, 22] #[4] false), 1, 8, .nilFunc⟩
def td24 : TD := ⟨(TypeDesc.func #[22, 2, 2] #[2] false), 1, 8, .nilFunc⟩
def td25 : TD := ⟨(TypeDesc.slice 27), 1, 24, .slice none 0 0⟩
def td26 : TD := ⟨(TypeDesc.func #[22, 2] #[25] false), 1, 8, .nilFunc⟩
def td27 : TD := ⟨(TypeDesc.complex FloatKind.f32), 1, 8, .complex .f32 0 0⟩
def td28 : TD := ⟨(TypeDesc.func #[27, 27] #[27] false), 1, 8, .nilFunc⟩
def td29 : TD := ⟨(TypeDesc.func #[27] #[27] false), 1, 8, .nilFunc⟩
def td31 : TD := ⟨(TypeDesc.func #[25] #[27, 4] false), 1, 8, .nilFunc⟩
def td32 : TD := ⟨(TypeDesc.func #[25, 25] #[27, 4] false), 1, 8, .nilFunc⟩
def td33 : TD := ⟨(TypeDesc.func #[22, 2, 2] #[25] false), 1, 8, .nilFunc⟩
def td34 : TD := ⟨(TypeDesc.float FloatKind.f32), 1, 4, .float .f32 0⟩
def td36 : TD := ⟨(TypeDesc.func #[25] #[34, 4] false), 1, 8, .nilFunc⟩
def td37 : TD := ⟨(TypeDesc.func #[27, 27] #[4] false), 1, 8, .nilFunc⟩
def td38 : TD := ⟨(TypeDesc.slice 2), 1, 24, .slice none 0 0⟩
def td39 : TD := ⟨(TypeDesc.struct #[{ name := "Digits", type := 2, offset := 0, embedded := false, tag := "", pkgPath := "", byteOffset := 0 }, { name := "Readings", type := 38, offset := 1, embedded := false, tag := "", pkgPath := "", byteOffset := 8 }]), 2, 32, .agg #[.int .i64 0, .slice none 0 0]⟩
def td40 : TD := ⟨(TypeDesc.struct #[{ name := "Digits", type := 2, offset := 0, embedded := false, tag := "", pkgPath := "", byteOffset := 0 }, { name := "Readings", type := 38, offset := 1, embedded := false, tag := "", pkgPath := "", byteOffset := 8 }]), 2, 32, .agg #[.int .i64 0, .slice none 0 0]⟩
def td41 : TD := ⟨(TypeDesc.func #[22, 2] #[40] false), 1, 8, .nilFunc⟩
def td43 : TD := ⟨(TypeDesc.func #[40] #[38, 4] false), 1, 8, .nilFunc⟩
def td45 : TD := ⟨(TypeDesc.func #[40] #[2, 4] false), 1, 8, .nilFunc⟩
def td46 : TD := ⟨(TypeDesc.func #[40, 47] #[38, 4] false), 1, 8, .nilFunc⟩
def td47 : TD := ⟨(TypeDesc.slice 40), 1, 24, .slice none 0 0⟩
def td48 : TD := ⟨(TypeDesc.func #[40, 38] #[38, 4] false), 1, 8, .nilFunc⟩
def td49 : TD := ⟨(TypeDesc.func #[40] #[34, 4] false), 1, 8, .nilFunc⟩
def td50 : TD := ⟨(TypeDesc.func #[47, 34] #[38, 4] false), 1, 8, .nilFunc⟩
def td51 : TD := ⟨(TypeDesc.func #[40] #[4] false), 1, 8, .nilFunc⟩
def td52 : TD := ⟨(TypeDesc.slice 34), 1, 24, .slice none 0 0⟩
def td53 : TD := ⟨(TypeDesc.struct #[{ name := "Currents", type := 52, offset := 0, embedded := false, tag := "", pkgPath := "", byteOffset := 0 }, { name := "Times", type := 52, offset := 1, embedded := false, tag := "", pkgPath := "", byteOffset := 24 }]), 2, 48, .agg #[.slice none 0 0, .slice none 0 0]⟩
def td54 : TD := ⟨(TypeDesc.struct #[{ name := "Currents", type := 52, offset := 0, embedded := false, tag := "", pkgPath := "", byteOffset := 0 }, { name := "Times", type := 52, offset := 1, embedded := false, tag := "", pkgPath := "", byteOffset := 24 }]), 2, 48, .agg #[.slice none 0 0, .slice none 0 0]⟩
def td55 : TD := ⟨(TypeDesc.func #[22] #[54] false), 1, 8, .nilFunc⟩
def td56 : TD := ⟨(TypeDesc.func #[54, 34] #[34, 4] false), 1, 8, .nilFunc⟩
def td58 : TD := ⟨(TypeDesc.func #[54, 34, 34] #[54, 4] false), 1, 8, .nilFunc⟩
def td59 : TD := ⟨(TypeDesc.func #[54, 54, 34] #[34, 4] false), 1, 8, .nilFunc⟩
def td60 : TD := ⟨(TypeDesc.func #[54, 54, 34, 34, 2] #[34, 4] false), 1, 8, .nilFunc⟩
def td61 : TD := ⟨(TypeDesc.func #[54] #[4] false), 1, 8, .nilFunc⟩
def td62 : TD := ⟨(TypeDesc.func #[54, 54] #[4] false), 1, 8, .nilFunc⟩
def td63 : TD := ⟨(TypeDesc.struct #[{ name := "A", type := 27, offset := 0, embedded := false, tag := "", pkgPath := "", byteOffset := 0 }, { name := "B", type := 27, offset := 1, embedded := false, tag := "", pkgPath := "", byteOffset := 8 }, { name := "C", type := 27, offset := 2, embedded := false, tag := "", pkgPath := "", byteOffset := 16 }]), 3, 24, .agg #[.complex .f32 0 0, .complex .f32 0 0, .complex .f32 0 0]⟩
def td64 : TD := ⟨(TypeDesc.struct #[{ name := "A", type := 27, offset := 0, embedded := false, tag := "", pkgPath := "", byteOffset := 0 }, { name := "B", type := 27, offset := 1, embedded := false, tag := "", pkgPath := "", byteOffset := 8 }, { name := "C", type := 27, offset := 2, embedded := false, tag := "", pkgPath := "", byteOffset := 16 }]), 3, 24, .agg #[.complex .f32 0 0, .complex .f32 0 0, .complex .f32 0 0]⟩
def td65 : TD := ⟨(TypeDesc.slice 134), 1, 24, .slice none 0 0⟩
def td66 : TD := ⟨(TypeDesc.struct #[{ name := "Source", type := 64, offset := 0, embedded := false, tag := "", pkgPath := "", byteOffset := 0 }, { name := "Buses", type := 65, offset := 3, embedded := false, tag := "", pkgPath := "", byteOffset := 24 }]), 4, 48, .agg #[.complex .f32 0 0, .complex .f32 0 0, .complex .f32 0 0, .slice none 0 0]⟩
def td67 : TD := ⟨(TypeDesc.struct #[{ name := "Source", type := 64, offset := 0, embedded := false, tag := "", pkgPath := "", byteOffset := 0 }, { name := "Buses", type := 65, offset := 3, embedded := false, tag := "", pkgPath := "", byteOffset := 24 }]), 4, 48, .agg #[.complex .f32 0 0, .complex .f32 0 0, .complex .f32 0 0, .slice none 0 0]⟩
def td68 : TD := ⟨(TypeDesc.func #[22] #[67] false), 1, 8, .nilFunc⟩
def td69 : TD := ⟨(TypeDesc.slice 64), 1, 24, .slice none 0 0⟩
def td71 : TD := ⟨(TypeDesc.func #[67, 69] #[69, 4] false), 1, 8, .nilFunc⟩
def td72 : TD := ⟨(TypeDesc.func #[67, 2] #[38, 4] false), 1, 8, .nilFunc⟩
def td73 : TD := ⟨(TypeDesc.func #[64, 64] #[64] false), 1, 8, .nilFunc⟩
def td74 : TD := ⟨(TypeDesc.struct #[{ name := "Voltages", type := 69, offset := 0, embedded := false, tag := "", pkgPath := "", byteOffset := 0 }, { name := "Currents", type := 69, offset := 1, embedded := false, tag := "", pkgPath := "", byteOffset := 24 }, { name := "Rounds", type := 2, offset := 2, embedded := false, tag := "", pkgPath := "", byteOffset := 48 }, { name := "Rests", type := 4, offset := 3, embedded := false, tag := "", pkgPath := "", byteOffset := 56 }]), 4, 64, .agg #[.slice none 0 0, .slice none 0 0, .int .i64 0, .bool false]⟩
def td75 : TD := ⟨(TypeDesc.struct #[{ name := "Voltages", type := 69, offset := 0, embedded := false, tag := "", pkgPath := "", byteOffset := 0 }, { name := "Currents", type := 69, offset := 1, embedded := false, tag := "", pkgPath := "", byteOffset := 24 }, { name := "Rounds", type := 2, offset := 2, embedded := false, tag := "", pkgPath := "", byteOffset := 48 }, { name := "Rests", type := 4, offset := 3, embedded := false, tag := "", pkgPath := "", byteOffset := 56 }]), 4, 64, .agg #[.slice none 0 0, .slice none 0 0, .int .i64 0, .bool false]⟩
def td77 : TD := ⟨(TypeDesc.func #[9, 2] #[75, 4] false), 1, 8, .nilFunc⟩
def td78 : TD := ⟨(TypeDesc.func #[75, 75] #[4] false), 1, 8, .nilFunc⟩
def td79 : TD := ⟨(TypeDesc.func #[75, 3] #[3] false), 1, 8, .nilFunc⟩
def td80 : TD := ⟨(TypeDesc.func #[9, 2] #[4] false), 1, 8, .nilFunc⟩
def td81 : TD := ⟨(TypeDesc.pointer 119), 1, 8, .pointer none⟩
def td82 : TD := ⟨(TypeDesc.func #[22] #[81] false), 1, 8, .nilFunc⟩
def td83 : TD := ⟨(TypeDesc.func #[81, 2] #[25] false), 1, 8, .nilFunc⟩
def td84 : TD := ⟨(TypeDesc.func #[25] #[4] false), 1, 8, .nilFunc⟩
def td85 : TD := ⟨(TypeDesc.func #[25] #[27] false), 1, 8, .nilFunc⟩
def td86 : TD := ⟨(TypeDesc.func #[2] #[2] false), 1, 8, .nilFunc⟩
def td87 : TD := ⟨(TypeDesc.float FloatKind.f64), 1, 8, .float .f64 0⟩
def td88 : TD := ⟨(TypeDesc.func #[27] #[87] false), 1, 8, .nilFunc⟩
def td89 : TD := ⟨(TypeDesc.func #[] #[38] false), 1, 8, .nilFunc⟩
def td90 : TD := ⟨(TypeDesc.func #[38] #[2] false), 1, 8, .nilFunc⟩
def td91 : TD := ⟨(TypeDesc.func #[34] #[4] false), 1, 8, .nilFunc⟩
def td92 : TD := ⟨(TypeDesc.func #[2, 2, 2] #[4] false), 1, 8, .nilFunc⟩
def td93 : TD := ⟨(TypeDesc.func #[38, 95] #[4] false), 1, 8, .nilFunc⟩
def td94 : TD := ⟨(TypeDesc.func #[] #[2] false), 1, 8, .nilFunc⟩
def td95 : TD := ⟨(TypeDesc.func #[2] #[4] false), 1, 8, .nilFunc⟩
def td96 : TD := ⟨(TypeDesc.func #[81] #[54] false), 1, 8, .nilFunc⟩
def td97 : TD := ⟨(TypeDesc.func #[34] #[34, 4] false), 1, 8, .nilFunc⟩
def td98 : TD := ⟨(TypeDesc.func #[52, 34] #[52] false), 1, 8, .nilFunc⟩
def td99 : TD := ⟨(TypeDesc.func #[100, 100, 34] #[34, 4] false), 1, 8, .nilFunc⟩
def td100 : TD := ⟨(TypeDesc.pointer 54), 1, 8, .pointer none⟩
def td101 : TD := ⟨(TypeDesc.func #[100, 100, 34, 34, 2] #[34, 4] false), 1, 8, .nilFunc⟩
def td102 : TD := ⟨(TypeDesc.func #[100] #[4] false), 1, 8, .nilFunc⟩
def td103 : TD := ⟨(TypeDesc.func #[52, 52] #[4] false), 1, 8, .nilFunc⟩
def td104 : TD := ⟨(TypeDesc.func #[81] #[67] false), 1, 8, .nilFunc⟩
def td105 : TD := ⟨(TypeDesc.func #[67, 69] #[4] false), 1, 8, .nilFunc⟩
def td106 : TD := ⟨(TypeDesc.func #[69, 137] #[69] false), 1, 8, .nilFunc⟩
def td107 : TD := ⟨(TypeDesc.func #[3, 64] #[64] false), 1, 8, .nilFunc⟩
def td108 : TD := ⟨(TypeDesc.func #[2] #[38] false), 1, 8, .nilFunc⟩
def td109 : TD := ⟨(TypeDesc.struct #[{ name := "s", type := 9, offset := 0, embedded := false, tag := "", pkgPath := "loop.example/g01212/impl", byteOffset := 0 }, { name := "at", type := 3, offset := 1, embedded := false, tag := "", pkgPath := "loop.example/g01212/impl", byteOffset := 16 }, { name := "short", type := 4, offset := 2, embedded := false, tag := "", pkgPath := "loop.example/g01212/impl", byteOffset := 24 }]), 3, 32, .agg #[.string ⟨#[]⟩, .int .i64 0, .bool false]⟩
def td110 : TD := ⟨(TypeDesc.struct #[{ name := "s", type := 9, offset := 0, embedded := false, tag := "", pkgPath := "loop.example/g01212/impl", byteOffset := 0 }, { name := "at", type := 3, offset := 1, embedded := false, tag := "", pkgPath := "loop.example/g01212/impl", byteOffset := 16 }, { name := "short", type := 4, offset := 2, embedded := false, tag := "", pkgPath := "loop.example/g01212/impl", byteOffset := 24 }]), 3, 32, .agg #[.string ⟨#[]⟩, .int .i64 0, .bool false]⟩
def td111 : TD := ⟨(TypeDesc.func #[3] #[2] false), 1, 8, .nilFunc⟩
def td112 : TD := ⟨(TypeDesc.func #[] #[64] false), 1, 8, .nilFunc⟩
def td114 : TD := ⟨(TypeDesc.func #[75] #[9, 4] false), 1, 8, .nilFunc⟩
def td115 : TD := ⟨(TypeDesc.func #[69, 69] #[4] false), 1, 8, .nilFunc⟩
def td116 : TD := ⟨(TypeDesc.func #[69, 3] #[3] false), 1, 8, .nilFunc⟩
def td117 : TD := ⟨(TypeDesc.int IntKind.u64), 1, 8, .int .u64 0⟩
def td118 : TD := ⟨(TypeDesc.struct #[{ name := "code", type := 22, offset := 0, embedded := false, tag := "", pkgPath := "loop.example/g01212/spec", byteOffset := 0 }, { name := "at", type := 3, offset := 1, embedded := false, tag := "", pkgPath := "loop.example/g01212/spec", byteOffset := 24 }, { name := "seed", type := 117, offset := 2, embedded := false, tag := "", pkgPath := "loop.example/g01212/spec", byteOffset := 32 }]), 3, 40, .agg #[.slice none 0 0, .int .i64 0, .int .u64 0]⟩
def td119 : TD := ⟨(TypeDesc.struct #[{ name := "code", type := 22, offset := 0, embedded := false, tag := "", pkgPath := "loop.example/g01212/spec", byteOffset := 0 }, { name := "at", type := 3, offset := 1, embedded := false, tag := "", pkgPath := "loop.example/g01212/spec", byteOffset := 24 }, { name := "seed", type := 117, offset := 2, embedded := false, tag := "", pkgPath := "loop.example/g01212/spec", byteOffset := 32 }]), 3, 40, .agg #[.slice none 0 0, .int .i64 0, .int .u64 0]⟩
def td120 : TD := ⟨(TypeDesc.func #[81] #[27] false), 1, 8, .nilFunc⟩
def td121 : TD := ⟨(TypeDesc.func #[122] #[27] false), 1, 8, .nilFunc⟩
def td122 : TD := ⟨(TypeDesc.complex FloatKind.f64), 1, 16, .complex .f64 0 0⟩
def td123 : TD := ⟨(TypeDesc.func #[122, 122] #[122] false), 1, 8, .nilFunc⟩
def td124 : TD := ⟨(TypeDesc.func #[27] #[122] false), 1, 8, .nilFunc⟩
def td126 : TD := ⟨(TypeDesc.func #[27] #[87, 87] false), 1, 8, .nilFunc⟩
def td127 : TD := ⟨(TypeDesc.func #[34, 34] #[4] false), 1, 8, .nilFunc⟩
def td128 : TD := ⟨(TypeDesc.pointer 40), 1, 8, .pointer none⟩
def td129 : TD := ⟨(TypeDesc.func #[38, 95] #[3] false), 1, 8, .nilFunc⟩
def td130 : TD := ⟨(TypeDesc.func #[52, 52, 127] #[4] false), 1, 8, .nilFunc⟩
def td131 : TD := ⟨(TypeDesc.func #[27] #[64] false), 1, 8, .nilFunc⟩
def td132 : TD := ⟨(TypeDesc.func #[81, 2] #[64] false), 1, 8, .nilFunc⟩
def td133 : TD := ⟨(TypeDesc.struct #[{ name := "Parent", type := 2, offset := 0, embedded := false, tag := "", pkgPath := "", byteOffset := 0 }, { name := "Own", type := 27, offset := 1, embedded := false, tag := "", pkgPath := "", byteOffset := 8 }, { name := "Shared", type := 27, offset := 2, embedded := false, tag := "", pkgPath := "", byteOffset := 16 }, { name := "Kind", type := 2, offset := 3, embedded := false, tag := "", pkgPath := "", byteOffset := 24 }, { name := "Load", type := 64, offset := 4, embedded := false, tag := "", pkgPath := "", byteOffset := 32 }, { name := "Customers", type := 2, offset := 7, embedded := false, tag := "", pkgPath := "", byteOffset := 56 }]), 8, 64, .agg #[.int .i64 0, .complex .f32 0 0, .complex .f32 0 0, .int .i64 0, .complex .f32 0 0, .complex .f32 0 0, .complex .f32 0 0, .int .i64 0]⟩
def td134 : TD := ⟨(TypeDesc.struct #[{ name := "Parent", type := 2, offset := 0, embedded := false, tag := "", pkgPath := "", byteOffset := 0 }, { name := "Own", type := 27, offset := 1, embedded := false, tag := "", pkgPath := "", byteOffset := 8 }, { name := "Shared", type := 27, offset := 2, embedded := false, tag := "", pkgPath := "", byteOffset := 16 }, { name := "Kind", type := 2, offset := 3, embedded := false, tag := "", pkgPath := "", byteOffset := 24 }, { name := "Load", type := 64, offset := 4, embedded := false, tag := "", pkgPath := "", byteOffset := 32 }, { name := "Customers", type := 2, offset := 7, embedded := false, tag := "", pkgPath := "", byteOffset := 56 }]), 8, 64, .agg #[.int .i64 0, .complex .f32 0 0, .complex .f32 0 0, .int .i64 0, .complex .f32 0 0, .complex .f32 0 0, .complex .f32 0 0, .int .i64 0]⟩
def td135 : TD := ⟨(TypeDesc.func #[67] #[4] false), 1, 8, .nilFunc⟩
def td136 : TD := ⟨(TypeDesc.pointer 67), 1, 8, .pointer none⟩
def td137 : TD := ⟨(TypeDesc.func #[3, 64] #[64] false), 1, 8, .nilFunc⟩
def td138 : TD := ⟨(TypeDesc.func #[69] #[69] false), 1, 8, .nilFunc⟩
def td139 : TD := ⟨(TypeDesc.func #[38, 2] #[4] false), 1, 8, .nilFunc⟩
def td140 : TD := ⟨(TypeDesc.pointer 142), 1, 8, .pointer none⟩
def td141 : TD := ⟨(TypeDesc.struct #[{ name := "text", type := 9, offset := 0, embedded := false, tag := "", pkgPath := "loop.example/g01212/spec", byteOffset := 0 }, { name := "at", type := 3, offset := 1, embedded := false, tag := "", pkgPath := "loop.example/g01212/spec", byteOffset := 16 }, { name := "fine", type := 4, offset := 2, embedded := false, tag := "", pkgPath := "loop.example/g01212/spec", byteOffset := 24 }]), 3, 32, .agg #[.string ⟨#[]⟩, .int .i64 0, .bool false]⟩
def td142 : TD := ⟨(TypeDesc.struct #[{ name := "text", type := 9, offset := 0, embedded := false, tag := "", pkgPath := "loop.example/g01212/spec", byteOffset := 0 }, { name := "at", type := 3, offset := 1, embedded := false, tag := "", pkgPath := "loop.example/g01212/spec", byteOffset := 16 }, { name := "fine", type := 4, offset := 2, embedded := false, tag := "", pkgPath := "loop.example/g01212/spec", byteOffset := 24 }]), 3, 32, .agg #[.string ⟨#[]⟩, .int .i64 0, .bool false]⟩
def td143 : TD := ⟨(TypeDesc.func #[144] #[9] false), 1, 8, .nilFunc⟩
def td144 : TD := ⟨(TypeDesc.pointer 75), 1, 8, .pointer none⟩
def td145 : TD := ⟨(TypeDesc.pointer 110), 1, 8, .pointer none⟩
def td146 : TD := ⟨(TypeDesc.int IntKind.u64), 1, 8, .int .u64 0⟩
def td147 : TD := ⟨(TypeDesc.func #[] #[27] false), 1, 8, .nilFunc⟩
def td148 : TD := ⟨(TypeDesc.pointer 150), 1, 8, .pointer none⟩
def td149 : TD := ⟨(TypeDesc.struct #[{ name := "addr", type := 148, offset := 0, embedded := false, tag := "", pkgPath := "strings", byteOffset := 0 }, { name := "buf", type := 22, offset := 1, embedded := false, tag := "", pkgPath := "strings", byteOffset := 8 }]), 2, 32, .agg #[.pointer none, .slice none 0 0]⟩
def td150 : TD := ⟨(TypeDesc.struct #[{ name := "addr", type := 148, offset := 0, embedded := false, tag := "", pkgPath := "strings", byteOffset := 0 }, { name := "buf", type := 22, offset := 1, embedded := false, tag := "", pkgPath := "strings", byteOffset := 8 }]), 2, 32, .agg #[.pointer none, .slice none 0 0]⟩
def td154 : TD := ⟨(TypeDesc.func #[9] #[3, 152] false), 1, 8, .nilFunc⟩
def td155 : TD := ⟨(TypeDesc.func #[2, 3] #[9] false), 1, 8, .nilFunc⟩
def td156 : TD := ⟨(TypeDesc.func #[64] #[9] false), 1, 8, .nilFunc⟩
def td157 : TD := ⟨(TypeDesc.func #[] #[9] false), 1, 8, .nilFunc⟩
def td158 : TD := ⟨(TypeDesc.func #[64, 64] #[4] false), 1, 8, .nilFunc⟩
def td159 : TD := ⟨(TypeDesc.func #[81] #[34] false), 1, 8, .nilFunc⟩
def td160 : TD := ⟨(TypeDesc.func #[87] #[34] false), 1, 8, .nilFunc⟩
def td161 : TD := ⟨(TypeDesc.func #[34] #[2] false), 1, 8, .nilFunc⟩
def td162 : TD := ⟨(TypeDesc.func #[100, 34] #[34, 4] false), 1, 8, .nilFunc⟩
def td163 : TD := ⟨(TypeDesc.int IntKind.u32), 1, 4, .int .u32 0⟩
def td164 : TD := ⟨(TypeDesc.func #[34] #[163] false), 1, 8, .nilFunc⟩
def td165 : TD := ⟨(TypeDesc.func #[87] #[27] false), 1, 8, .nilFunc⟩
def td166 : TD := ⟨(TypeDesc.func #[81, 2] #[27] false), 1, 8, .nilFunc⟩
def td167 : TD := ⟨(TypeDesc.func #[64, 64, 28] #[64] false), 1, 8, .nilFunc⟩
def td168 : TD := ⟨(TypeDesc.func #[38, 2] #[3] false), 1, 8, .nilFunc⟩
def td169 : TD := ⟨(TypeDesc.func #[] #[34] false), 1, 8, .nilFunc⟩
def td170 : TD := ⟨(TypeDesc.func #[27] #[9] false), 1, 8, .nilFunc⟩
def td171 : TD := ⟨(TypeDesc.pointer 5), 1, 8, .pointer none⟩
def td172 : TD := ⟨(TypeDesc.func #[122, 122] #[4] false), 1, 8, .nilFunc⟩
def td173 : TD := ⟨(TypeDesc.func #[2] #[34] false), 1, 8, .nilFunc⟩
def td174 : TD := ⟨(TypeDesc.func #[87] #[87] false), 1, 8, .nilFunc⟩
def td175 : TD := ⟨(TypeDesc.func #[2] #[34, 4] false), 1, 8, .nilFunc⟩
def td177 : TD := ⟨(TypeDesc.func #[176] #[176] false), 1, 8, .nilFunc⟩
def td178 : TD := ⟨(TypeDesc.func #[87, 87] #[4] false), 1, 8, .nilFunc⟩
def td179 : TD := ⟨(TypeDesc.func #[163] #[34] false), 1, 8, .nilFunc⟩
def td180 : TD := ⟨(TypeDesc.func #[] #[87] false), 1, 8, .nilFunc⟩
def td181 : TD := ⟨(TypeDesc.func #[117] #[87] false), 1, 8, .nilFunc⟩
def td182 : TD := ⟨(TypeDesc.struct #[{ name := "_interface", type := 17, offset := 0, embedded := false, tag := "", pkgPath := "runtime", byteOffset := 0 }, { name := "concrete", type := 17, offset := 1, embedded := false, tag := "", pkgPath := "runtime", byteOffset := 8 }, { name := "asserted", type := 17, offset := 2, embedded := false, tag := "", pkgPath := "runtime", byteOffset := 16 }, { name := "missingMethod", type := 9, offset := 3, embedded := false, tag := "", pkgPath := "runtime", byteOffset := 24 }]), 4, 40, .agg #[.pointer none, .pointer none, .pointer none, .string ⟨#[]⟩]⟩
def td183 : TD := ⟨(TypeDesc.struct #[{ name := "_interface", type := 17, offset := 0, embedded := false, tag := "", pkgPath := "runtime", byteOffset := 0 }, { name := "concrete", type := 17, offset := 1, embedded := false, tag := "", pkgPath := "runtime", byteOffset := 8 }, { name := "asserted", type := 17, offset := 2, embedded := false, tag := "", pkgPath := "runtime", byteOffset := 16 }, { name := "missingMethod", type := 9, offset := 3, embedded := false, tag := "", pkgPath := "runtime", byteOffset := 24 }]), 4, 40, .agg #[.pointer none, .pointer none, .pointer none, .string ⟨#[]⟩]⟩
def td187 : TD := ⟨(TypeDesc.func #[] #[3] false), 1, 8, .nilFunc⟩
def td188 : TD := ⟨(TypeDesc.int IntKind.u8), 1, 1, .int .u8 0⟩
def td189 : TD := ⟨(TypeDesc.int IntKind.u8), 1, 1, .int .u8 0⟩
def td190 : TD := ⟨(TypeDesc.func #[176, 176] #[4] false), 1, 8, .nilFunc⟩
def td191 : TD := ⟨(TypeDesc.int IntKind.i32), 1, 4, .int .i32 0⟩
def td192 : TD := ⟨(TypeDesc.int IntKind.i32), 1, 4, .int .i32 0⟩
def td193 : TD := ⟨(TypeDesc.struct #[{ name := "Size_", type := 12, offset := 0, embedded := false, tag := "", pkgPath := "", byteOffset := 0 }, { name := "PtrBytes", type := 12, offset := 1, embedded := false, tag := "", pkgPath := "", byteOffset := 8 }, { name := "Hash", type := 163, offset := 2, embedded := false, tag := "", pkgPath := "", byteOffset := 16 }, { name := "TFlag", type := 188, offset := 3, embedded := false, tag := "", pkgPath := "", byteOffset := 20 }, { name := "Align_", type := 5, offset := 4, embedded := false, tag := "", pkgPath := "", byteOffset := 21 }, { name := "FieldAlign_", type := 5, offset := 5, embedded := false, tag := "", pkgPath := "", byteOffset := 22 }, { name := "Kind_", type := 189, offset := 6, embedded := false, tag := "", pkgPath := "", byteOffset := 23 }, { name := "Equal", type := 190, offset := 7, embedded := false, tag := "", pkgPath := "", byteOffset := 24 }, { name := "GCData", type := 171, offset := 8, embedded := false, tag := "", pkgPath := "", byteOffset := 32 }, { name := "Str", type := 191, offset := 9, embedded := false, tag := "", pkgPath := "", byteOffset := 40 }, { name := "PtrToThis", type := 192, offset := 10, embedded := false, tag := "", pkgPath := "", byteOffset := 44 }]), 11, 48, .agg #[.int .u64 0, .int .u64 0, .int .u32 0, .int .u8 0, .int .u8 0, .int .u8 0, .int .u8 0, .nilFunc, .pointer none, .int .i32 0, .int .i32 0]⟩
def td194 : TD := ⟨(TypeDesc.struct #[{ name := "Size_", type := 12, offset := 0, embedded := false, tag := "", pkgPath := "", byteOffset := 0 }, { name := "PtrBytes", type := 12, offset := 1, embedded := false, tag := "", pkgPath := "", byteOffset := 8 }, { name := "Hash", type := 163, offset := 2, embedded := false, tag := "", pkgPath := "", byteOffset := 16 }, { name := "TFlag", type := 188, offset := 3, embedded := false, tag := "", pkgPath := "", byteOffset := 20 }, { name := "Align_", type := 5, offset := 4, embedded := false, tag := "", pkgPath := "", byteOffset := 21 }, { name := "FieldAlign_", type := 5, offset := 5, embedded := false, tag := "", pkgPath := "", byteOffset := 22 }, { name := "Kind_", type := 189, offset := 6, embedded := false, tag := "", pkgPath := "", byteOffset := 23 }, { name := "Equal", type := 190, offset := 7, embedded := false, tag := "", pkgPath := "", byteOffset := 24 }, { name := "GCData", type := 171, offset := 8, embedded := false, tag := "", pkgPath := "", byteOffset := 32 }, { name := "Str", type := 191, offset := 9, embedded := false, tag := "", pkgPath := "", byteOffset := 40 }, { name := "PtrToThis", type := 192, offset := 10, embedded := false, tag := "", pkgPath := "", byteOffset := 44 }]), 11, 48, .agg #[.int .u64 0, .int .u64 0, .int .u32 0, .int .u8 0, .int .u8 0, .int .u8 0, .int .u8 0, .nilFunc, .pointer none, .int .i32 0, .int .i32 0]⟩
def td195 : TD := ⟨(TypeDesc.func #[] #[52] false), 1, 8, .nilFunc⟩
inductive TT where
  | leaf
  | node (k : Nat) (v : TD) (l r : TT)
def findT : TT → TypeId → Option TD
  | .leaf, _ => none
  | .node k v l r, t => bif Nat.beq t k then some v else bif Nat.ble t k then findT l t else findT r t
def allT : TT → Prop
  | .leaf => True
  | .node k v l r => TiOk k v ∧ allT l ∧ allT r
theorem findT_ok : ∀ {x : TT}, allT x → TabOk prog (findT x)
  | .leaf, _ => fun t td h => by cases h
  | .node k v l r, h => fun t td ht => by
    unfold findT at ht
    cases hk : Nat.beq t k with
    | true =>
      rw [hk] at ht
      simp only [cond_true, Option.some.injEq] at ht
      subst ht
      rw [Nat.eq_of_beq_eq_true hk]
      have h1 := h.1
      unfold TiOk at h1
      exact h1
    | false =>
      rw [hk] at ht
      cases hl : Nat.ble t k with
      | true => rw [hl] at ht; exact findT_ok h.2.1 t td ht
      | false => rw [hl] at ht; exact findT_ok h.2.2 t td ht
def tabT : TT := (.node 98 td98 (.node 50 td50 (.node 24 td24 (.node 12 td12 (.node 6 td6 (.node 3 td3 (.node 2 td2 (.node 1 td1 .leaf .leaf) .leaf) (.node 5 td5 (.node 4 td4 .leaf .leaf) .leaf)) (.node 9 td9 (.node 8 td8 (.node 7 td7 .leaf .leaf) .leaf) (.node 11 td11 (.node 10 td10 .leaf .leaf) .leaf))) (.node 18 td18 (.node 15 td15 (.node 14 td14 (.node 13 td13 .leaf .leaf) .leaf) (.node 17 td17 (.node 16 td16 .leaf .leaf) .leaf)) (.node 22 td22 (.node 21 td21 (.node 19 td19 .leaf .leaf) .leaf) (.node 23 td23 .leaf .leaf)))) (.node 37 td37 (.node 31 td31 (.node 27 td27 (.node 26 td26 (.node 25 td25 .leaf .leaf) .leaf) (.node 29 td29 (.node 28 td28 .leaf .leaf) .leaf)) (.node 34 td34 (.node 33 td33 (.node 32 td32 .leaf .leaf) .leaf) (.node 36 td36 .leaf .leaf))) (.node 45 td45 (.node 40 td40 (.node 39 td39 (.node 38 td38 .leaf .leaf) .leaf) (.node 43 td43 (.node 41 td41 .leaf .leaf) .leaf)) (.node 48 td48 (.node 47 td47 (.node 46 td46 .leaf .leaf) .leaf) (.node 49 td49 .leaf .leaf))))) (.node 75 td75 (.node 63 td63 (.node 56 td56 (.node 53 td53 (.node 52 td52 (.node 51 td51 .leaf .leaf) .leaf) (.node 55 td55 (.node 54 td54 .leaf .leaf) .leaf)) (.node 60 td60 (.node 59 td59 (.node 58 td58 .leaf .leaf) .leaf) (.node 62 td62 (.node 61 td61 .leaf .leaf) .leaf))) (.node 69 td69 (.node 66 td66 (.node 65 td65 (.node 64 td64 .leaf .leaf) .leaf) (.node 68 td68 (.node 67 td67 .leaf .leaf) .leaf)) (.node 73 td73 (.node 72 td72 (.node 71 td71 .leaf .leaf) .leaf) (.node 74 td74 .leaf .leaf)))) (.node 87 td87 (.node 82 td82 (.node 79 td79 (.node 78 td78 (.node 77 td77 .leaf .leaf) .leaf) (.node 81 td81 (.node 80 td80 .leaf .leaf) .leaf)) (.node 85 td85 (.node 84 td84 (.node 83 td83 .leaf .leaf) .leaf) (.node 86 td86 .leaf .leaf))) (.node 93 td93 (.node 90 td90 (.node 89 td89 (.node 88 td88 .leaf .leaf) .leaf) (.node 92 td92 (.node 91 td91 .leaf .leaf) .leaf)) (.node 96 td96 (.node 95 td95 (.node 94 td94 .leaf .leaf) .leaf) (.node 97 td97 .leaf .leaf)))))) (.node 145 td145 (.node 122 td122 (.node 110 td110 (.node 104 td104 (.node 101 td101 (.node 100 td100 (.node 99 td99 .leaf .leaf) .leaf) (.node 103 td103 (.node 102 td102 .leaf .leaf) .leaf)) (.node 107 td107 (.node 106 td106 (.node 105 td105 .leaf .leaf) .leaf) (.node 109 td109 (.node 108 td108 .leaf .leaf) .leaf))) (.node 117 td117 (.node 114 td114 (.node 112 td112 (.node 111 td111 .leaf .leaf) .leaf) (.node 116 td116 (.node 115 td115 .leaf .leaf) .leaf)) (.node 120 td120 (.node 119 td119 (.node 118 td118 .leaf .leaf) .leaf) (.node 121 td121 .leaf .leaf)))) (.node 134 td134 (.node 129 td129 (.node 126 td126 (.node 124 td124 (.node 123 td123 .leaf .leaf) .leaf) (.node 128 td128 (.node 127 td127 .leaf .leaf) .leaf)) (.node 132 td132 (.node 131 td131 (.node 130 td130 .leaf .leaf) .leaf) (.node 133 td133 .leaf .leaf))) (.node 140 td140 (.node 137 td137 (.node 136 td136 (.node 135 td135 .leaf .leaf) .leaf) (.node 139 td139 (.node 138 td138 .leaf .leaf) .leaf)) (.node 143 td143 (.node 142 td142 (.node 141 td141 .leaf .leaf) .leaf) (.node 144 td144 .leaf .leaf))))) (.node 170 td170 (.node 159 td159 (.node 154 td154 (.node 148 td148 (.node 147 td147 (.node 146 td146 .leaf .leaf) .leaf) (.node 150 td150 (.node 149 td149 .leaf .leaf) .leaf)) (.node 157 td157 (.node 156 td156 (.node 155 td155 .leaf .leaf) .leaf) (.node 158 td158 .leaf .leaf))) (.node 165 td165 (.node 162 td162 (.node 161 td161 (.node 160 td160 .leaf .leaf) .leaf) (.node 164 td164 (.node 163 td163 .leaf .leaf) .leaf)) (.node 168 td168 (.node 167 td167 (.node 166 td166 .leaf .leaf) .leaf) (.node 169 td169 .leaf .leaf)))) (.node 182 td182 (.node 177 td177 (.node 173 td173 (.node 172 td172 (.node 171 td171 .leaf .leaf) .leaf) (.node 175 td175 (.node 174 td174 .leaf .leaf) .leaf)) (.node 180 td180 (.node 179 td179 (.node 178 td178 .leaf .leaf) .leaf) (.node 181 td181 .leaf .leaf))) (.node 191 td191 (.node 188 td188 (.node 187 td187 (.node 183 td183 .leaf .leaf) .leaf) (.node 190 td190 (.node 189 td189 .leaf .leaf) .leaf)) (.node 194 td194 (.node 193 td193 (.node 192 td192 .leaf .leaf) .leaf) (.node 195 td195 .leaf .leaf)))))))
abbrev tab : Tab := findT tabT
theorem hτ : TabOk prog tab := findT_ok (show allT tabT from ⟨tiOk underlying98 ti98, ⟨tiOk underlying50 ti50, ⟨tiOk underlying24 ti24, ⟨tiOk underlying12 ti12, ⟨tiOk underlying6 ti6, ⟨tiOk underlying3 ti3, ⟨tiOk underlying2 ti2, ⟨tiOk underlying1 ti1, trivial, trivial⟩, trivial⟩, ⟨tiOk underlying5 ti5, ⟨tiOk underlying4 ti4, trivial, trivial⟩, trivial⟩⟩, ⟨tiOk underlying9 ti9, ⟨tiOk underlying8 ti8, ⟨tiOk underlying7 ti7, trivial, trivial⟩, trivial⟩, ⟨tiOk underlying11 ti11, ⟨tiOk underlying10 ti10, trivial, trivial⟩, trivial⟩⟩⟩, ⟨tiOk underlying18 ti18, ⟨tiOk underlying15 ti15, ⟨tiOk underlying14 ti14, ⟨tiOk underlying13 ti13, trivial, trivial⟩, trivial⟩, ⟨tiOk underlying17 ti17, ⟨tiOk underlying16 ti16, trivial, trivial⟩, trivial⟩⟩, ⟨tiOk underlying22 ti22, ⟨tiOk underlying21 ti21, ⟨tiOk underlying19 ti19, trivial, trivial⟩, trivial⟩, ⟨tiOk underlying23 ti23, trivial, trivial⟩⟩⟩⟩, ⟨tiOk underlying37 ti37, ⟨tiOk underlying31 ti31, ⟨tiOk underlying27 ti27, ⟨tiOk underlying26 ti26, ⟨tiOk underlying25 ti25, trivial, trivial⟩, trivial⟩, ⟨tiOk underlying29 ti29, ⟨tiOk underlying28 ti28, trivial, trivial⟩, trivial⟩⟩, ⟨tiOk underlying34 ti34, ⟨tiOk underlying33 ti33, ⟨tiOk underlying32 ti32, trivial, trivial⟩, trivial⟩, ⟨tiOk underlying36 ti36, trivial, trivial⟩⟩⟩, ⟨tiOk underlying45 ti45, ⟨tiOk underlying40 ti40, ⟨tiOk underlying39 ti39, ⟨tiOk underlying38 ti38, trivial, trivial⟩, trivial⟩, ⟨tiOk underlying43 ti43, ⟨tiOk underlying41 ti41, trivial, trivial⟩, trivial⟩⟩, ⟨tiOk underlying48 ti48, ⟨tiOk underlying47 ti47, ⟨tiOk underlying46 ti46, trivial, trivial⟩, trivial⟩, ⟨tiOk underlying49 ti49, trivial, trivial⟩⟩⟩⟩⟩, ⟨tiOk underlying75 ti75, ⟨tiOk underlying63 ti63, ⟨tiOk underlying56 ti56, ⟨tiOk underlying53 ti53, ⟨tiOk underlying52 ti52, ⟨tiOk underlying51 ti51, trivial, trivial⟩, trivial⟩, ⟨tiOk underlying55 ti55, ⟨tiOk underlying54 ti54, trivial, trivial⟩, trivial⟩⟩, ⟨tiOk underlying60 ti60, ⟨tiOk underlying59 ti59, ⟨tiOk underlying58 ti58, trivial, trivial⟩, trivial⟩, ⟨tiOk underlying62 ti62, ⟨tiOk underlying61 ti61, trivial, trivial⟩, trivial⟩⟩⟩, ⟨tiOk underlying69 ti69, ⟨tiOk underlying66 ti66, ⟨tiOk underlying65 ti65, ⟨tiOk underlying64 ti64, trivial, trivial⟩, trivial⟩, ⟨tiOk underlying68 ti68, ⟨tiOk underlying67 ti67, trivial, trivial⟩, trivial⟩⟩, ⟨tiOk underlying73 ti73, ⟨tiOk underlying72 ti72, ⟨tiOk underlying71 ti71, trivial, trivial⟩, trivial⟩, ⟨tiOk underlying74 ti74, trivial, trivial⟩⟩⟩⟩, ⟨tiOk underlying87 ti87, ⟨tiOk underlying82 ti82, ⟨tiOk underlying79 ti79, ⟨tiOk underlying78 ti78, ⟨tiOk underlying77 ti77, trivial, trivial⟩, trivial⟩, ⟨tiOk underlying81 ti81, ⟨tiOk underlying80 ti80, trivial, trivial⟩, trivial⟩⟩, ⟨tiOk underlying85 ti85, ⟨tiOk underlying84 ti84, ⟨tiOk underlying83 ti83, trivial, trivial⟩, trivial⟩, ⟨tiOk underlying86 ti86, trivial, trivial⟩⟩⟩, ⟨tiOk underlying93 ti93, ⟨tiOk underlying90 ti90, ⟨tiOk underlying89 ti89, ⟨tiOk underlying88 ti88, trivial, trivial⟩, trivial⟩, ⟨tiOk underlying92 ti92, ⟨tiOk underlying91 ti91, trivial, trivial⟩, trivial⟩⟩, ⟨tiOk underlying96 ti96, ⟨tiOk underlying95 ti95, ⟨tiOk underlying94 ti94, trivial, trivial⟩, trivial⟩, ⟨tiOk underlying97 ti97, trivial, trivial⟩⟩⟩⟩⟩⟩, ⟨tiOk underlying145 ti145, ⟨tiOk underlying122 ti122, ⟨tiOk underlying110 ti110, ⟨tiOk underlying104 ti104, ⟨tiOk underlying101 ti101, ⟨tiOk underlying100 ti100, ⟨tiOk underlying99 ti99, trivial, trivial⟩, trivial⟩, ⟨tiOk underlying103 ti103, ⟨tiOk underlying102 ti102, trivial, trivial⟩, trivial⟩⟩, ⟨tiOk underlying107 ti107, ⟨tiOk underlying106 ti106, ⟨tiOk underlying105 ti105, trivial, trivial⟩, trivial⟩, ⟨tiOk underlying109 ti109, ⟨tiOk underlying108 ti108, trivial, trivial⟩, trivial⟩⟩⟩, ⟨tiOk underlying117 ti117, ⟨tiOk underlying114 ti114, ⟨tiOk underlying112 ti112, ⟨tiOk underlying111 ti111, trivial, trivial⟩, trivial⟩, ⟨tiOk underlying116 ti116, ⟨tiOk underlying115 ti115, trivial, trivial⟩, trivial⟩⟩, ⟨tiOk underlying120 ti120, ⟨tiOk underlying119 ti119, ⟨tiOk underlying118 ti118, trivial, trivial⟩, trivial⟩, ⟨tiOk underlying121 ti121, trivial, trivial⟩⟩⟩⟩, ⟨tiOk underlying134 ti134, ⟨tiOk underlying129 ti129, ⟨tiOk underlying126 ti126, ⟨tiOk underlying124 ti124, ⟨tiOk underlying123 ti123, trivial, trivial⟩, trivial⟩, ⟨tiOk underlying128 ti128, ⟨tiOk underlying127 ti127, trivial, trivial⟩, trivial⟩⟩, ⟨tiOk underlying132 ti132, ⟨tiOk underlying131 ti131, ⟨tiOk underlying130 ti130, trivial, trivial⟩, trivial⟩, ⟨tiOk underlying133 ti133, trivial, trivial⟩⟩⟩, ⟨tiOk underlying140 ti140, ⟨tiOk underlying137 ti137, ⟨tiOk underlying136 ti136, ⟨tiOk underlying135 ti135, trivial, trivial⟩, trivial⟩, ⟨tiOk underlying139 ti139, ⟨tiOk underlying138 ti138, trivial, trivial⟩, trivial⟩⟩, ⟨tiOk underlying143 ti143, ⟨tiOk underlying142 ti142, ⟨tiOk underlying141 ti141, trivial, trivial⟩, trivial⟩, ⟨tiOk underlying144 ti144, trivial, trivial⟩⟩⟩⟩⟩, ⟨tiOk underlying170 ti170, ⟨tiOk underlying159 ti159, ⟨tiOk underlying154 ti154, ⟨tiOk underlying148 ti148, ⟨tiOk underlying147 ti147, ⟨tiOk underlying146 ti146, trivial, trivial⟩, trivial⟩, ⟨tiOk underlying150 ti150, ⟨tiOk underlying149 ti149, trivial, trivial⟩, trivial⟩⟩, ⟨tiOk underlying157 ti157, ⟨tiOk underlying156 ti156, ⟨tiOk underlying155 ti155, trivial, trivial⟩, trivial⟩, ⟨tiOk underlying158 ti158, trivial, trivial⟩⟩⟩, ⟨tiOk underlying165 ti165, ⟨tiOk underlying162 ti162, ⟨tiOk underlying161 ti161, ⟨tiOk underlying160 ti160, trivial, trivial⟩, trivial⟩, ⟨tiOk underlying164 ti164, ⟨tiOk underlying163 ti163, trivial, trivial⟩, trivial⟩⟩, ⟨tiOk underlying168 ti168, ⟨tiOk underlying167 ti167, ⟨tiOk underlying166 ti166, trivial, trivial⟩, trivial⟩, ⟨tiOk underlying169 ti169, trivial, trivial⟩⟩⟩⟩, ⟨tiOk underlying182 ti182, ⟨tiOk underlying177 ti177, ⟨tiOk underlying173 ti173, ⟨tiOk underlying172 ti172, ⟨tiOk underlying171 ti171, trivial, trivial⟩, trivial⟩, ⟨tiOk underlying175 ti175, ⟨tiOk underlying174 ti174, trivial, trivial⟩, trivial⟩⟩, ⟨tiOk underlying180 ti180, ⟨tiOk underlying179 ti179, ⟨tiOk underlying178 ti178, trivial, trivial⟩, trivial⟩, ⟨tiOk underlying181 ti181, trivial, trivial⟩⟩⟩, ⟨tiOk underlying191 ti191, ⟨tiOk underlying188 ti188, ⟨tiOk underlying187 ti187, ⟨tiOk underlying183 ti183, trivial, trivial⟩, trivial⟩, ⟨tiOk underlying190 ti190, ⟨tiOk underlying189 ti189, trivial, trivial⟩, trivial⟩⟩, ⟨tiOk underlying194 ti194, ⟨tiOk underlying193 ti193, ⟨tiOk underlying192 ti192, trivial, trivial⟩, trivial⟩, ⟨tiOk underlying195 ti195, trivial, trivial⟩⟩⟩⟩⟩⟩⟩)
theorem mixed : prog.follows .mixedOrders = true := by kernel_rfl
end Go.Proofs.Ytolggocnbakokaa.AWN
