/- The types of the program, as the calculus reads them. -/
import Derived.Test.YtkagbffdmppbhabProg
import Derived.KernelRfl
import Derived.Test.YtkagbffdmppbhabCalcB
import Derived.Test.YtkagbffdmppbhabCalcC
set_option linter.unusedVariables false
set_option linter.unusedSimpArgs false
set_option linter.unusedSectionVars false
namespace Go.Proofs.Ytkagbffdmppbhab.AWN
open Go Go.Proofs.Try
def TiOk (t : TypeId) (td : TD) : Prop := prog.underlying t = some td.desc ∧ ∃ i, prog.info? t = some i ∧ i.size = td.size ∧ i.bytes = td.bytes ∧ i.zero = some td.zero
theorem tiOk {t : TypeId} {td : TD} (h : prog.underlying t = some td.desc) (h' : (prog.info? t).map (fun i => (i.size, i.bytes, i.zero)) = some (td.size, td.bytes, some td.zero)) : TiOk t td := by
  refine ⟨h, ?_⟩
  cases hi : prog.info? t with
  | none => rw [hi] at h'; cases h'
  | some i =>
    rw [hi] at h'
    simp only [Option.map_some, Option.some.injEq, Prod.mk.injEq] at h'
    exact ⟨i, rfl, h'.1, h'.2.1, h'.2.2⟩

theorem ti1 : (prog.info? 1).map (fun i => (i.size, i.bytes, i.zero)) = some (1, 8, some (.nilFunc)) := by kernel_rfl
theorem ti2 : (prog.info? 2).map (fun i => (i.size, i.bytes, i.zero)) = some (1, 8, some (.int .i64 0)) := by kernel_rfl
theorem ti3 : (prog.info? 3).map (fun i => (i.size, i.bytes, i.zero)) = some (1, 8, some (.int .i64 0)) := by kernel_rfl
theorem ti4 : (prog.info? 4).map (fun i => (i.size, i.bytes, i.zero)) = some (1, 1, some (.bool false)) := by kernel_rfl
theorem ti5 : (prog.info? 5).map (fun i => (i.size, i.bytes, i.zero)) = some (1, 1, some (.int .u8 0)) := by kernel_rfl
theorem ti6 : (prog.info? 6).map (fun i => (i.size, i.bytes, i.zero)) = some (1, 1, some (.int .u8 0)) := by kernel_rfl
theorem ti7 : (prog.info? 7).map (fun i => (i.size, i.bytes, i.zero)) = some (4, 24, some (.agg #[.int .i64 0, .int .i64 0, .bool false, .int .u8 0])) := by kernel_rfl
theorem ti8 : (prog.info? 8).map (fun i => (i.size, i.bytes, i.zero)) = some (4, 24, some (.agg #[.int .i64 0, .int .i64 0, .bool false, .int .u8 0])) := by kernel_rfl
theorem ti9 : (prog.info? 9).map (fun i => (i.size, i.bytes, i.zero)) = some (1, 16, some (.string ⟨#[]⟩)) := by kernel_rfl
theorem ti10 : (prog.info? 10).map (fun i => (i.size, i.bytes, i.zero)) = some (1, 16, some (.string ⟨#[]⟩)) := by kernel_rfl
theorem ti11 : (prog.info? 11).map (fun i => (i.size, i.bytes, i.zero)) = some (1, 16, some (.string ⟨#[]⟩)) := by kernel_rfl
theorem ti12 : (prog.info? 12).map (fun i => (i.size, i.bytes, i.zero)) = some (1, 8, some (.int .u64 0)) := by kernel_rfl
theorem ti13 : (prog.info? 13).map (fun i => (i.size, i.bytes, i.zero)) = some (2, 24, some (.agg #[.string ⟨#[]⟩, .int .u64 0])) := by kernel_rfl
theorem ti14 : (prog.info? 14).map (fun i => (i.size, i.bytes, i.zero)) = some (2, 24, some (.agg #[.string ⟨#[]⟩, .int .u64 0])) := by kernel_rfl
theorem ti15 : (prog.info? 15).map (fun i => (i.size, i.bytes, i.zero)) = some (1, 8, some (.pointer none)) := by kernel_rfl
theorem ti16 : (prog.info? 16).map (fun i => (i.size, i.bytes, i.zero)) = some (1, 8, some (.pointer none)) := by kernel_rfl
theorem ti17 : (prog.info? 17).map (fun i => (i.size, i.bytes, i.zero)) = some (1, 8, some (.pointer none)) := by kernel_rfl
theorem ti18 : (prog.info? 18).map (fun i => (i.size, i.bytes, i.zero)) = some (1, 8, some (.agg #[.pointer none])) := by kernel_rfl
theorem ti19 : (prog.info? 19).map (fun i => (i.size, i.bytes, i.zero)) = some (1, 8, some (.agg #[.pointer none])) := by kernel_rfl
theorem ti21 : (prog.info? 21).map (fun i => (i.size, i.bytes, i.zero)) = some (1, 4, some (.int .i32 0)) := by kernel_rfl
theorem ti22 : (prog.info? 22).map (fun i => (i.size, i.bytes, i.zero)) = some (1, 24, some (.slice none 0 0)) := by kernel_rfl
theorem ti23 : (prog.info? 23).map (fun i => (i.size, i.bytes, i.zero)) = some (1, 8, some (.nilFunc)) := by kernel_rfl
theorem ti24 : (prog.info? 24).map (fun i => (i.size, i.bytes, i.zero)) = some (1, 8, some (.complex .f32 0 0)) := by kernel_rfl
theorem ti25 : (prog.info? 25).map (fun i => (i.size, i.bytes, i.zero)) = some (3, 24, some (.agg #[.complex .f32 0 0, .complex .f32 0 0, .complex .f32 0 0])) := by kernel_rfl
theorem ti26 : (prog.info? 26).map (fun i => (i.size, i.bytes, i.zero)) = some (3, 24, some (.agg #[.complex .f32 0 0, .complex .f32 0 0, .complex .f32 0 0])) := by kernel_rfl
theorem ti27 : (prog.info? 27).map (fun i => (i.size, i.bytes, i.zero)) = some (1, 24, some (.slice none 0 0)) := by kernel_rfl
theorem ti28 : (prog.info? 28).map (fun i => (i.size, i.bytes, i.zero)) = some (4, 48, some (.agg #[.complex .f32 0 0, .complex .f32 0 0, .complex .f32 0 0, .slice none 0 0])) := by kernel_rfl
theorem ti29 : (prog.info? 29).map (fun i => (i.size, i.bytes, i.zero)) = some (4, 48, some (.agg #[.complex .f32 0 0, .complex .f32 0 0, .complex .f32 0 0, .slice none 0 0])) := by kernel_rfl
theorem ti30 : (prog.info? 30).map (fun i => (i.size, i.bytes, i.zero)) = some (1, 8, some (.nilFunc)) := by kernel_rfl
theorem ti31 : (prog.info? 31).map (fun i => (i.size, i.bytes, i.zero)) = some (1, 24, some (.slice none 0 0)) := by kernel_rfl
theorem ti32 : (prog.info? 32).map (fun i => (i.size, i.bytes, i.zero)) = some (1, 8, some (.nilFunc)) := by kernel_rfl
theorem ti33 : (prog.info? 33).map (fun i => (i.size, i.bytes, i.zero)) = some (1, 8, some (.nilFunc)) := by kernel_rfl
theorem ti35 : (prog.info? 35).map (fun i => (i.size, i.bytes, i.zero)) = some (1, 8, some (.nilFunc)) := by kernel_rfl
theorem ti36 : (prog.info? 36).map (fun i => (i.size, i.bytes, i.zero)) = some (4, 64, some (.agg #[.slice none 0 0, .slice none 0 0, .int .i64 0, .bool false])) := by kernel_rfl
theorem ti37 : (prog.info? 37).map (fun i => (i.size, i.bytes, i.zero)) = some (4, 64, some (.agg #[.slice none 0 0, .slice none 0 0, .int .i64 0, .bool false])) := by kernel_rfl
theorem ti39 : (prog.info? 39).map (fun i => (i.size, i.bytes, i.zero)) = some (1, 8, some (.nilFunc)) := by kernel_rfl
theorem ti40 : (prog.info? 40).map (fun i => (i.size, i.bytes, i.zero)) = some (1, 8, some (.nilFunc)) := by kernel_rfl
theorem ti41 : (prog.info? 41).map (fun i => (i.size, i.bytes, i.zero)) = some (1, 8, some (.nilFunc)) := by kernel_rfl
theorem ti42 : (prog.info? 42).map (fun i => (i.size, i.bytes, i.zero)) = some (1, 8, some (.nilFunc)) := by kernel_rfl
theorem ti43 : (prog.info? 43).map (fun i => (i.size, i.bytes, i.zero)) = some (1, 8, some (.nilFunc)) := by kernel_rfl
theorem ti44 : (prog.info? 44).map (fun i => (i.size, i.bytes, i.zero)) = some (1, 8, some (.nilFunc)) := by kernel_rfl
theorem ti45 : (prog.info? 45).map (fun i => (i.size, i.bytes, i.zero)) = some (1, 8, some (.nilFunc)) := by kernel_rfl
theorem ti46 : (prog.info? 46).map (fun i => (i.size, i.bytes, i.zero)) = some (1, 4, some (.float .f32 0)) := by kernel_rfl
theorem ti48 : (prog.info? 48).map (fun i => (i.size, i.bytes, i.zero)) = some (1, 8, some (.nilFunc)) := by kernel_rfl
theorem ti49 : (prog.info? 49).map (fun i => (i.size, i.bytes, i.zero)) = some (1, 24, some (.slice none 0 0)) := by kernel_rfl
theorem ti50 : (prog.info? 50).map (fun i => (i.size, i.bytes, i.zero)) = some (5, 72, some (.agg #[.complex .f32 0 0, .complex .f32 0 0, .complex .f32 0 0, .slice none 0 0, .slice none 0 0])) := by kernel_rfl
theorem ti51 : (prog.info? 51).map (fun i => (i.size, i.bytes, i.zero)) = some (5, 72, some (.agg #[.complex .f32 0 0, .complex .f32 0 0, .complex .f32 0 0, .slice none 0 0, .slice none 0 0])) := by kernel_rfl
theorem ti53 : (prog.info? 53).map (fun i => (i.size, i.bytes, i.zero)) = some (1, 8, some (.nilFunc)) := by kernel_rfl
theorem ti54 : (prog.info? 54).map (fun i => (i.size, i.bytes, i.zero)) = some (1, 8, some (.nilFunc)) := by kernel_rfl
theorem ti55 : (prog.info? 55).map (fun i => (i.size, i.bytes, i.zero)) = some (1, 8, some (.nilFunc)) := by kernel_rfl
theorem ti56 : (prog.info? 56).map (fun i => (i.size, i.bytes, i.zero)) = some (1, 8, some (.nilFunc)) := by kernel_rfl
theorem ti58 : (prog.info? 58).map (fun i => (i.size, i.bytes, i.zero)) = some (1, 8, some (.nilFunc)) := by kernel_rfl
theorem ti59 : (prog.info? 59).map (fun i => (i.size, i.bytes, i.zero)) = some (1, 24, some (.slice none 0 0)) := by kernel_rfl
theorem ti61 : (prog.info? 61).map (fun i => (i.size, i.bytes, i.zero)) = some (1, 8, some (.nilFunc)) := by kernel_rfl
theorem ti62 : (prog.info? 62).map (fun i => (i.size, i.bytes, i.zero)) = some (1, 24, some (.slice none 0 0)) := by kernel_rfl
theorem ti64 : (prog.info? 64).map (fun i => (i.size, i.bytes, i.zero)) = some (1, 8, some (.nilFunc)) := by kernel_rfl
theorem ti65 : (prog.info? 65).map (fun i => (i.size, i.bytes, i.zero)) = some (1, 8, some (.nilFunc)) := by kernel_rfl
theorem ti66 : (prog.info? 66).map (fun i => (i.size, i.bytes, i.zero)) = some (1, 8, some (.nilFunc)) := by kernel_rfl
theorem ti67 : (prog.info? 67).map (fun i => (i.size, i.bytes, i.zero)) = some (1, 8, some (.nilFunc)) := by kernel_rfl
theorem ti69 : (prog.info? 69).map (fun i => (i.size, i.bytes, i.zero)) = some (1, 8, some (.nilFunc)) := by kernel_rfl
theorem ti70 : (prog.info? 70).map (fun i => (i.size, i.bytes, i.zero)) = some (1, 8, some (.nilFunc)) := by kernel_rfl
theorem ti71 : (prog.info? 71).map (fun i => (i.size, i.bytes, i.zero)) = some (1, 8, some (.float .f64 0)) := by kernel_rfl
theorem ti72 : (prog.info? 72).map (fun i => (i.size, i.bytes, i.zero)) = some (1, 24, some (.slice none 0 0)) := by kernel_rfl
theorem ti73 : (prog.info? 73).map (fun i => (i.size, i.bytes, i.zero)) = some (1, 8, some (.nilFunc)) := by kernel_rfl
theorem ti75 : (prog.info? 75).map (fun i => (i.size, i.bytes, i.zero)) = some (1, 8, some (.nilFunc)) := by kernel_rfl
theorem ti76 : (prog.info? 76).map (fun i => (i.size, i.bytes, i.zero)) = some (1, 8, some (.nilFunc)) := by kernel_rfl
theorem ti77 : (prog.info? 77).map (fun i => (i.size, i.bytes, i.zero)) = some (1, 8, some (.nilFunc)) := by kernel_rfl
theorem ti78 : (prog.info? 78).map (fun i => (i.size, i.bytes, i.zero)) = some (1, 8, some (.nilFunc)) := by kernel_rfl
theorem ti79 : (prog.info? 79).map (fun i => (i.size, i.bytes, i.zero)) = some (1, 8, some (.nilFunc)) := by kernel_rfl
theorem ti80 : (prog.info? 80).map (fun i => (i.size, i.bytes, i.zero)) = some (1, 8, some (.nilFunc)) := by kernel_rfl
theorem ti81 : (prog.info? 81).map (fun i => (i.size, i.bytes, i.zero)) = some (1, 24, some (.slice none 0 0)) := by kernel_rfl
theorem ti83 : (prog.info? 83).map (fun i => (i.size, i.bytes, i.zero)) = some (1, 8, some (.nilFunc)) := by kernel_rfl
theorem ti84 : (prog.info? 84).map (fun i => (i.size, i.bytes, i.zero)) = some (1, 8, some (.nilFunc)) := by kernel_rfl
theorem ti85 : (prog.info? 85).map (fun i => (i.size, i.bytes, i.zero)) = some (1, 8, some (.nilFunc)) := by kernel_rfl
theorem ti86 : (prog.info? 86).map (fun i => (i.size, i.bytes, i.zero)) = some (1, 8, some (.nilFunc)) := by kernel_rfl
theorem ti87 : (prog.info? 87).map (fun i => (i.size, i.bytes, i.zero)) = some (1, 8, some (.nilFunc)) := by kernel_rfl
theorem ti89 : (prog.info? 89).map (fun i => (i.size, i.bytes, i.zero)) = some (1, 8, some (.nilFunc)) := by kernel_rfl
theorem ti90 : (prog.info? 90).map (fun i => (i.size, i.bytes, i.zero)) = some (1, 8, some (.nilFunc)) := by kernel_rfl
theorem ti91 : (prog.info? 91).map (fun i => (i.size, i.bytes, i.zero)) = some (1, 8, some (.nilFunc)) := by kernel_rfl
theorem ti92 : (prog.info? 92).map (fun i => (i.size, i.bytes, i.zero)) = some (1, 8, some (.nilFunc)) := by kernel_rfl
theorem ti93 : (prog.info? 93).map (fun i => (i.size, i.bytes, i.zero)) = some (1, 8, some (.nilFunc)) := by kernel_rfl
theorem ti94 : (prog.info? 94).map (fun i => (i.size, i.bytes, i.zero)) = some (1, 8, some (.nilFunc)) := by kernel_rfl
theorem ti95 : (prog.info? 95).map (fun i => (i.size, i.bytes, i.zero)) = some (1, 8, some (.nilFunc)) := by kernel_rfl
theorem ti96 : (prog.info? 96).map (fun i => (i.size, i.bytes, i.zero)) = some (1, 8, some (.nilFunc)) := by kernel_rfl
theorem ti97 : (prog.info? 97).map (fun i => (i.size, i.bytes, i.zero)) = some (1, 24, some (.slice none 0 0)) := by kernel_rfl
theorem ti98 : (prog.info? 98).map (fun i => (i.size, i.bytes, i.zero)) = some (1, 8, some (.nilFunc)) := by kernel_rfl
theorem ti99 : (prog.info? 99).map (fun i => (i.size, i.bytes, i.zero)) = some (1, 24, some (.slice none 0 0)) := by kernel_rfl
theorem ti100 : (prog.info? 100).map (fun i => (i.size, i.bytes, i.zero)) = some (1, 8, some (.nilFunc)) := by kernel_rfl
theorem ti102 : (prog.info? 102).map (fun i => (i.size, i.bytes, i.zero)) = some (1, 8, some (.nilFunc)) := by kernel_rfl
theorem ti103 : (prog.info? 103).map (fun i => (i.size, i.bytes, i.zero)) = some (8, 64, some (.agg #[.int .i64 0, .complex .f32 0 0, .complex .f32 0 0, .int .i64 0, .complex .f32 0 0, .complex .f32 0 0, .complex .f32 0 0, .int .i64 0])) := by kernel_rfl
theorem ti104 : (prog.info? 104).map (fun i => (i.size, i.bytes, i.zero)) = some (8, 64, some (.agg #[.int .i64 0, .complex .f32 0 0, .complex .f32 0 0, .int .i64 0, .complex .f32 0 0, .complex .f32 0 0, .complex .f32 0 0, .int .i64 0])) := by kernel_rfl
theorem ti105 : (prog.info? 105).map (fun i => (i.size, i.bytes, i.zero)) = some (1, 8, some (.nilFunc)) := by kernel_rfl
theorem ti106 : (prog.info? 106).map (fun i => (i.size, i.bytes, i.zero)) = some (1, 8, some (.nilFunc)) := by kernel_rfl
theorem ti108 : (prog.info? 108).map (fun i => (i.size, i.bytes, i.zero)) = some (1, 8, some (.nilFunc)) := by kernel_rfl
theorem ti109 : (prog.info? 109).map (fun i => (i.size, i.bytes, i.zero)) = some (1, 8, some (.nilFunc)) := by kernel_rfl
theorem ti110 : (prog.info? 110).map (fun i => (i.size, i.bytes, i.zero)) = some (1, 8, some (.nilFunc)) := by kernel_rfl
theorem ti112 : (prog.info? 112).map (fun i => (i.size, i.bytes, i.zero)) = some (1, 8, some (.nilFunc)) := by kernel_rfl
theorem ti113 : (prog.info? 113).map (fun i => (i.size, i.bytes, i.zero)) = some (3, 24, some (.agg #[.int .i64 0, .int .i64 0, .int .i64 0])) := by kernel_rfl
theorem ti114 : (prog.info? 114).map (fun i => (i.size, i.bytes, i.zero)) = some (3, 24, some (.agg #[.int .i64 0, .int .i64 0, .int .i64 0])) := by kernel_rfl
theorem ti115 : (prog.info? 115).map (fun i => (i.size, i.bytes, i.zero)) = some (1, 24, some (.slice none 0 0)) := by kernel_rfl
theorem ti116 : (prog.info? 116).map (fun i => (i.size, i.bytes, i.zero)) = some (6, 96, some (.agg #[.complex .f32 0 0, .complex .f32 0 0, .complex .f32 0 0, .slice none 0 0, .slice none 0 0, .slice none 0 0])) := by kernel_rfl
theorem ti117 : (prog.info? 117).map (fun i => (i.size, i.bytes, i.zero)) = some (6, 96, some (.agg #[.complex .f32 0 0, .complex .f32 0 0, .complex .f32 0 0, .slice none 0 0, .slice none 0 0, .slice none 0 0])) := by kernel_rfl
theorem ti119 : (prog.info? 119).map (fun i => (i.size, i.bytes, i.zero)) = some (1, 8, some (.nilFunc)) := by kernel_rfl
theorem ti120 : (prog.info? 120).map (fun i => (i.size, i.bytes, i.zero)) = some (1, 8, some (.nilFunc)) := by kernel_rfl
theorem ti121 : (prog.info? 121).map (fun i => (i.size, i.bytes, i.zero)) = some (1, 8, some (.nilFunc)) := by kernel_rfl
theorem ti123 : (prog.info? 123).map (fun i => (i.size, i.bytes, i.zero)) = some (1, 8, some (.nilFunc)) := by kernel_rfl
theorem ti124 : (prog.info? 124).map (fun i => (i.size, i.bytes, i.zero)) = some (1, 24, some (.slice none 0 0)) := by kernel_rfl
theorem ti125 : (prog.info? 125).map (fun i => (i.size, i.bytes, i.zero)) = some (1, 8, some (.nilFunc)) := by kernel_rfl
theorem ti126 : (prog.info? 126).map (fun i => (i.size, i.bytes, i.zero)) = some (1, 8, some (.nilFunc)) := by kernel_rfl
theorem ti127 : (prog.info? 127).map (fun i => (i.size, i.bytes, i.zero)) = some (1, 8, some (.nilFunc)) := by kernel_rfl
theorem ti128 : (prog.info? 128).map (fun i => (i.size, i.bytes, i.zero)) = some (1, 8, some (.nilFunc)) := by kernel_rfl
theorem ti129 : (prog.info? 129).map (fun i => (i.size, i.bytes, i.zero)) = some (2, 48, some (.agg #[.slice none 0 0, .slice none 0 0])) := by kernel_rfl
theorem ti130 : (prog.info? 130).map (fun i => (i.size, i.bytes, i.zero)) = some (2, 48, some (.agg #[.slice none 0 0, .slice none 0 0])) := by kernel_rfl
theorem ti131 : (prog.info? 131).map (fun i => (i.size, i.bytes, i.zero)) = some (3, 56, some (.agg #[.int .i64 0, .slice none 0 0, .slice none 0 0])) := by kernel_rfl
theorem ti132 : (prog.info? 132).map (fun i => (i.size, i.bytes, i.zero)) = some (3, 56, some (.agg #[.int .i64 0, .slice none 0 0, .slice none 0 0])) := by kernel_rfl
theorem ti133 : (prog.info? 133).map (fun i => (i.size, i.bytes, i.zero)) = some (1, 8, some (.nilFunc)) := by kernel_rfl
theorem ti134 : (prog.info? 134).map (fun i => (i.size, i.bytes, i.zero)) = some (1, 8, some (.nilFunc)) := by kernel_rfl
theorem ti135 : (prog.info? 135).map (fun i => (i.size, i.bytes, i.zero)) = some (1, 24, some (.slice none 0 0)) := by kernel_rfl
theorem ti137 : (prog.info? 137).map (fun i => (i.size, i.bytes, i.zero)) = some (1, 8, some (.nilFunc)) := by kernel_rfl
theorem ti138 : (prog.info? 138).map (fun i => (i.size, i.bytes, i.zero)) = some (1, 8, some (.nilFunc)) := by kernel_rfl
theorem ti139 : (prog.info? 139).map (fun i => (i.size, i.bytes, i.zero)) = some (1, 8, some (.pointer none)) := by kernel_rfl
theorem ti140 : (prog.info? 140).map (fun i => (i.size, i.bytes, i.zero)) = some (1, 8, some (.nilFunc)) := by kernel_rfl
theorem ti141 : (prog.info? 141).map (fun i => (i.size, i.bytes, i.zero)) = some (1, 8, some (.nilFunc)) := by kernel_rfl
theorem ti142 : (prog.info? 142).map (fun i => (i.size, i.bytes, i.zero)) = some (1, 8, some (.nilFunc)) := by kernel_rfl
theorem ti143 : (prog.info? 143).map (fun i => (i.size, i.bytes, i.zero)) = some (1, 8, some (.nilFunc)) := by kernel_rfl
theorem ti144 : (prog.info? 144).map (fun i => (i.size, i.bytes, i.zero)) = some (1, 8, some (.nilFunc)) := by kernel_rfl
theorem ti145 : (prog.info? 145).map (fun i => (i.size, i.bytes, i.zero)) = some (1, 8, some (.nilFunc)) := by kernel_rfl
theorem ti146 : (prog.info? 146).map (fun i => (i.size, i.bytes, i.zero)) = some (1, 8, some (.nilFunc)) := by kernel_rfl
theorem ti147 : (prog.info? 147).map (fun i => (i.size, i.bytes, i.zero)) = some (1, 8, some (.nilFunc)) := by kernel_rfl
theorem ti148 : (prog.info? 148).map (fun i => (i.size, i.bytes, i.zero)) = some (1, 8, some (.nilFunc)) := by kernel_rfl
theorem ti149 : (prog.info? 149).map (fun i => (i.size, i.bytes, i.zero)) = some (1, 8, some (.nilFunc)) := by kernel_rfl
theorem ti150 : (prog.info? 150).map (fun i => (i.size, i.bytes, i.zero)) = some (1, 8, some (.nilFunc)) := by kernel_rfl
theorem ti151 : (prog.info? 151).map (fun i => (i.size, i.bytes, i.zero)) = some (1, 8, some (.nilFunc)) := by kernel_rfl
theorem ti152 : (prog.info? 152).map (fun i => (i.size, i.bytes, i.zero)) = some (1, 8, some (.pointer none)) := by kernel_rfl
theorem ti153 : (prog.info? 153).map (fun i => (i.size, i.bytes, i.zero)) = some (1, 8, some (.pointer none)) := by kernel_rfl
theorem ti154 : (prog.info? 154).map (fun i => (i.size, i.bytes, i.zero)) = some (1, 8, some (.nilFunc)) := by kernel_rfl
theorem ti155 : (prog.info? 155).map (fun i => (i.size, i.bytes, i.zero)) = some (1, 8, some (.nilFunc)) := by kernel_rfl
theorem ti156 : (prog.info? 156).map (fun i => (i.size, i.bytes, i.zero)) = some (1, 8, some (.nilFunc)) := by kernel_rfl
theorem ti158 : (prog.info? 158).map (fun i => (i.size, i.bytes, i.zero)) = some (1, 8, some (.nilFunc)) := by kernel_rfl
theorem ti159 : (prog.info? 159).map (fun i => (i.size, i.bytes, i.zero)) = some (1, 8, some (.nilFunc)) := by kernel_rfl
theorem ti160 : (prog.info? 160).map (fun i => (i.size, i.bytes, i.zero)) = some (1, 8, some (.nilFunc)) := by kernel_rfl
theorem ti161 : (prog.info? 161).map (fun i => (i.size, i.bytes, i.zero)) = some (1, 8, some (.nilFunc)) := by kernel_rfl
theorem ti162 : (prog.info? 162).map (fun i => (i.size, i.bytes, i.zero)) = some (1, 8, some (.nilFunc)) := by kernel_rfl
theorem ti163 : (prog.info? 163).map (fun i => (i.size, i.bytes, i.zero)) = some (1, 8, some (.nilFunc)) := by kernel_rfl
theorem ti164 : (prog.info? 164).map (fun i => (i.size, i.bytes, i.zero)) = some (1, 8, some (.nilFunc)) := by kernel_rfl
theorem ti165 : (prog.info? 165).map (fun i => (i.size, i.bytes, i.zero)) = some (1, 8, some (.nilFunc)) := by kernel_rfl
theorem ti166 : (prog.info? 166).map (fun i => (i.size, i.bytes, i.zero)) = some (1, 8, some (.nilFunc)) := by kernel_rfl
theorem ti167 : (prog.info? 167).map (fun i => (i.size, i.bytes, i.zero)) = some (1, 8, some (.nilFunc)) := by kernel_rfl
theorem ti168 : (prog.info? 168).map (fun i => (i.size, i.bytes, i.zero)) = some (1, 8, some (.nilFunc)) := by kernel_rfl
theorem ti169 : (prog.info? 169).map (fun i => (i.size, i.bytes, i.zero)) = some (1, 8, some (.pointer none)) := by kernel_rfl
theorem ti170 : (prog.info? 170).map (fun i => (i.size, i.bytes, i.zero)) = some (1, 8, some (.nilFunc)) := by kernel_rfl
theorem ti171 : (prog.info? 171).map (fun i => (i.size, i.bytes, i.zero)) = some (1, 8, some (.nilFunc)) := by kernel_rfl
theorem ti172 : (prog.info? 172).map (fun i => (i.size, i.bytes, i.zero)) = some (1, 8, some (.nilFunc)) := by kernel_rfl
theorem ti173 : (prog.info? 173).map (fun i => (i.size, i.bytes, i.zero)) = some (5, 40, some (.agg #[.int .i64 0, .int .i64 0, .int .i64 0, .int .i64 0, .float .f32 0])) := by kernel_rfl
theorem ti174 : (prog.info? 174).map (fun i => (i.size, i.bytes, i.zero)) = some (5, 40, some (.agg #[.int .i64 0, .int .i64 0, .int .i64 0, .int .i64 0, .float .f32 0])) := by kernel_rfl
theorem ti175 : (prog.info? 175).map (fun i => (i.size, i.bytes, i.zero)) = some (1, 8, some (.nilFunc)) := by kernel_rfl
theorem ti176 : (prog.info? 176).map (fun i => (i.size, i.bytes, i.zero)) = some (1, 8, some (.nilFunc)) := by kernel_rfl
theorem ti177 : (prog.info? 177).map (fun i => (i.size, i.bytes, i.zero)) = some (1, 8, some (.nilFunc)) := by kernel_rfl
theorem ti178 : (prog.info? 178).map (fun i => (i.size, i.bytes, i.zero)) = some (1, 8, some (.nilFunc)) := by kernel_rfl
theorem ti179 : (prog.info? 179).map (fun i => (i.size, i.bytes, i.zero)) = some (1, 8, some (.nilFunc)) := by kernel_rfl
theorem ti180 : (prog.info? 180).map (fun i => (i.size, i.bytes, i.zero)) = some (1, 8, some (.nilFunc)) := by kernel_rfl
theorem ti181 : (prog.info? 181).map (fun i => (i.size, i.bytes, i.zero)) = some (1, 8, some (.nilFunc)) := by kernel_rfl
theorem ti182 : (prog.info? 182).map (fun i => (i.size, i.bytes, i.zero)) = some (1, 8, some (.nilFunc)) := by kernel_rfl
theorem ti183 : (prog.info? 183).map (fun i => (i.size, i.bytes, i.zero)) = some (1, 8, some (.nilFunc)) := by kernel_rfl
theorem ti184 : (prog.info? 184).map (fun i => (i.size, i.bytes, i.zero)) = some (1, 8, some (.nilFunc)) := by kernel_rfl
theorem ti185 : (prog.info? 185).map (fun i => (i.size, i.bytes, i.zero)) = some (1, 8, some (.nilFunc)) := by kernel_rfl
theorem ti186 : (prog.info? 186).map (fun i => (i.size, i.bytes, i.zero)) = some (1, 8, some (.nilFunc)) := by kernel_rfl
theorem ti187 : (prog.info? 187).map (fun i => (i.size, i.bytes, i.zero)) = some (1, 8, some (.nilFunc)) := by kernel_rfl
theorem ti188 : (prog.info? 188).map (fun i => (i.size, i.bytes, i.zero)) = some (1, 8, some (.nilFunc)) := by kernel_rfl
theorem ti189 : (prog.info? 189).map (fun i => (i.size, i.bytes, i.zero)) = some (1, 8, some (.nilFunc)) := by kernel_rfl
theorem ti190 : (prog.info? 190).map (fun i => (i.size, i.bytes, i.zero)) = some (1, 8, some (.nilFunc)) := by kernel_rfl
theorem ti191 : (prog.info? 191).map (fun i => (i.size, i.bytes, i.zero)) = some (1, 8, some (.nilFunc)) := by kernel_rfl
theorem ti192 : (prog.info? 192).map (fun i => (i.size, i.bytes, i.zero)) = some (1, 8, some (.nilFunc)) := by kernel_rfl
theorem ti193 : (prog.info? 193).map (fun i => (i.size, i.bytes, i.zero)) = some (3, 24, some (.agg #[.complex .f32 0 0, .complex .f32 0 0, .complex .f32 0 0])) := by kernel_rfl
theorem ti194 : (prog.info? 194).map (fun i => (i.size, i.bytes, i.zero)) = some (3, 24, some (.agg #[.complex .f32 0 0, .complex .f32 0 0, .complex .f32 0 0])) := by kernel_rfl
theorem ti196 : (prog.info? 196).map (fun i => (i.size, i.bytes, i.zero)) = some (1, 8, some (.nilFunc)) := by kernel_rfl
theorem ti197 : (prog.info? 197).map (fun i => (i.size, i.bytes, i.zero)) = some (1, 8, some (.nilFunc)) := by kernel_rfl
theorem ti199 : (prog.info? 199).map (fun i => (i.size, i.bytes, i.zero)) = some (1, 8, some (.nilFunc)) := by kernel_rfl
theorem ti200 : (prog.info? 200).map (fun i => (i.size, i.bytes, i.zero)) = some (1, 8, some (.nilFunc)) := by kernel_rfl
theorem ti201 : (prog.info? 201).map (fun i => (i.size, i.bytes, i.zero)) = some (1, 8, some (.nilFunc)) := by kernel_rfl
theorem ti202 : (prog.info? 202).map (fun i => (i.size, i.bytes, i.zero)) = some (1, 8, some (.nilFunc)) := by kernel_rfl
theorem ti203 : (prog.info? 203).map (fun i => (i.size, i.bytes, i.zero)) = some (1, 8, some (.nilFunc)) := by kernel_rfl
theorem ti204 : (prog.info? 204).map (fun i => (i.size, i.bytes, i.zero)) = some (1, 8, some (.nilFunc)) := by kernel_rfl
theorem ti205 : (prog.info? 205).map (fun i => (i.size, i.bytes, i.zero)) = some (1, 8, some (.nilFunc)) := by kernel_rfl
theorem ti206 : (prog.info? 206).map (fun i => (i.size, i.bytes, i.zero)) = some (1, 4, some (.int .u32 0)) := by kernel_rfl
theorem ti207 : (prog.info? 207).map (fun i => (i.size, i.bytes, i.zero)) = some (1, 8, some (.nilFunc)) := by kernel_rfl
theorem ti209 : (prog.info? 209).map (fun i => (i.size, i.bytes, i.zero)) = some (1, 8, some (.nilFunc)) := by kernel_rfl
theorem ti210 : (prog.info? 210).map (fun i => (i.size, i.bytes, i.zero)) = some (1, 8, some (.nilFunc)) := by kernel_rfl
theorem ti211 : (prog.info? 211).map (fun i => (i.size, i.bytes, i.zero)) = some (1, 8, some (.nilFunc)) := by kernel_rfl
theorem ti213 : (prog.info? 213).map (fun i => (i.size, i.bytes, i.zero)) = some (1, 8, some (.nilFunc)) := by kernel_rfl
theorem ti214 : (prog.info? 214).map (fun i => (i.size, i.bytes, i.zero)) = some (1, 8, some (.nilFunc)) := by kernel_rfl
theorem ti215 : (prog.info? 215).map (fun i => (i.size, i.bytes, i.zero)) = some (1, 8, some (.nilFunc)) := by kernel_rfl
theorem ti217 : (prog.info? 217).map (fun i => (i.size, i.bytes, i.zero)) = some (1, 8, some (.nilFunc)) := by kernel_rfl
theorem ti218 : (prog.info? 218).map (fun i => (i.size, i.bytes, i.zero)) = some (1, 8, some (.nilFunc)) := by kernel_rfl
theorem ti219 : (prog.info? 219).map (fun i => (i.size, i.bytes, i.zero)) = some (1, 8, some (.nilFunc)) := by kernel_rfl
theorem ti220 : (prog.info? 220).map (fun i => (i.size, i.bytes, i.zero)) = some (1, 8, some (.nilFunc)) := by kernel_rfl
theorem ti221 : (prog.info? 221).map (fun i => (i.size, i.bytes, i.zero)) = some (1, 8, some (.nilFunc)) := by kernel_rfl
theorem ti222 : (prog.info? 222).map (fun i => (i.size, i.bytes, i.zero)) = some (1, 8, some (.nilFunc)) := by kernel_rfl
theorem ti223 : (prog.info? 223).map (fun i => (i.size, i.bytes, i.zero)) = some (1, 8, some (.nilFunc)) := by kernel_rfl
theorem ti224 : (prog.info? 224).map (fun i => (i.size, i.bytes, i.zero)) = some (1, 8, some (.nilFunc)) := by kernel_rfl
theorem ti225 : (prog.info? 225).map (fun i => (i.size, i.bytes, i.zero)) = some (1, 8, some (.nilFunc)) := by kernel_rfl
theorem ti226 : (prog.info? 226).map (fun i => (i.size, i.bytes, i.zero)) = some (1, 8, some (.nilFunc)) := by kernel_rfl
theorem ti227 : (prog.info? 227).map (fun i => (i.size, i.bytes, i.zero)) = some (1, 8, some (.nilFunc)) := by kernel_rfl
theorem ti228 : (prog.info? 228).map (fun i => (i.size, i.bytes, i.zero)) = some (1, 8, some (.pointer none)) := by kernel_rfl
theorem ti229 : (prog.info? 229).map (fun i => (i.size, i.bytes, i.zero)) = some (1, 8, some (.nilFunc)) := by kernel_rfl
theorem ti231 : (prog.info? 231).map (fun i => (i.size, i.bytes, i.zero)) = some (1, 8, some (.nilFunc)) := by kernel_rfl
theorem ti232 : (prog.info? 232).map (fun i => (i.size, i.bytes, i.zero)) = some (1, 8, some (.nilFunc)) := by kernel_rfl
theorem ti233 : (prog.info? 233).map (fun i => (i.size, i.bytes, i.zero)) = some (1, 8, some (.nilFunc)) := by kernel_rfl
theorem ti234 : (prog.info? 234).map (fun i => (i.size, i.bytes, i.zero)) = some (1, 8, some (.nilFunc)) := by kernel_rfl
theorem ti235 : (prog.info? 235).map (fun i => (i.size, i.bytes, i.zero)) = some (1, 8, some (.nilFunc)) := by kernel_rfl
theorem ti236 : (prog.info? 236).map (fun i => (i.size, i.bytes, i.zero)) = some (1, 8, some (.int .u64 0)) := by kernel_rfl
theorem ti237 : (prog.info? 237).map (fun i => (i.size, i.bytes, i.zero)) = some (3, 40, some (.agg #[.slice none 0 0, .int .i64 0, .int .u64 0])) := by kernel_rfl
theorem ti238 : (prog.info? 238).map (fun i => (i.size, i.bytes, i.zero)) = some (3, 40, some (.agg #[.slice none 0 0, .int .i64 0, .int .u64 0])) := by kernel_rfl
theorem ti239 : (prog.info? 239).map (fun i => (i.size, i.bytes, i.zero)) = some (1, 8, some (.nilFunc)) := by kernel_rfl
theorem ti240 : (prog.info? 240).map (fun i => (i.size, i.bytes, i.zero)) = some (1, 8, some (.nilFunc)) := by kernel_rfl
theorem ti241 : (prog.info? 241).map (fun i => (i.size, i.bytes, i.zero)) = some (1, 8, some (.nilFunc)) := by kernel_rfl
theorem ti242 : (prog.info? 242).map (fun i => (i.size, i.bytes, i.zero)) = some (1, 8, some (.nilFunc)) := by kernel_rfl
theorem ti243 : (prog.info? 243).map (fun i => (i.size, i.bytes, i.zero)) = some (1, 8, some (.nilFunc)) := by kernel_rfl
theorem ti245 : (prog.info? 245).map (fun i => (i.size, i.bytes, i.zero)) = some (1, 8, some (.nilFunc)) := by kernel_rfl
theorem ti246 : (prog.info? 246).map (fun i => (i.size, i.bytes, i.zero)) = some (1, 8, some (.pointer none)) := by kernel_rfl
theorem ti247 : (prog.info? 247).map (fun i => (i.size, i.bytes, i.zero)) = some (3, 32, some (.agg #[.string ⟨#[]⟩, .int .i64 0, .bool false])) := by kernel_rfl
theorem ti248 : (prog.info? 248).map (fun i => (i.size, i.bytes, i.zero)) = some (3, 32, some (.agg #[.string ⟨#[]⟩, .int .i64 0, .bool false])) := by kernel_rfl
theorem ti249 : (prog.info? 249).map (fun i => (i.size, i.bytes, i.zero)) = some (1, 8, some (.nilFunc)) := by kernel_rfl
theorem ti250 : (prog.info? 250).map (fun i => (i.size, i.bytes, i.zero)) = some (1, 8, some (.nilFunc)) := by kernel_rfl
theorem ti251 : (prog.info? 251).map (fun i => (i.size, i.bytes, i.zero)) = some (1, 8, some (.nilFunc)) := by kernel_rfl
theorem ti252 : (prog.info? 252).map (fun i => (i.size, i.bytes, i.zero)) = some (5, 40, some (.agg #[.int .i64 0, .int .i64 0, .complex .f32 0 0, .complex .f32 0 0, .int .i64 0])) := by kernel_rfl
theorem ti253 : (prog.info? 253).map (fun i => (i.size, i.bytes, i.zero)) = some (5, 40, some (.agg #[.int .i64 0, .int .i64 0, .complex .f32 0 0, .complex .f32 0 0, .int .i64 0])) := by kernel_rfl
theorem ti254 : (prog.info? 254).map (fun i => (i.size, i.bytes, i.zero)) = some (1, 8, some (.nilFunc)) := by kernel_rfl
theorem ti255 : (prog.info? 255).map (fun i => (i.size, i.bytes, i.zero)) = some (1, 8, some (.nilFunc)) := by kernel_rfl
theorem ti256 : (prog.info? 256).map (fun i => (i.size, i.bytes, i.zero)) = some (1, 8, some (.pointer none)) := by kernel_rfl
theorem ti257 : (prog.info? 257).map (fun i => (i.size, i.bytes, i.zero)) = some (1, 8, some (.nilFunc)) := by kernel_rfl
theorem ti258 : (prog.info? 258).map (fun i => (i.size, i.bytes, i.zero)) = some (3, 32, some (.agg #[.string ⟨#[]⟩, .int .i64 0, .bool false])) := by kernel_rfl
theorem ti259 : (prog.info? 259).map (fun i => (i.size, i.bytes, i.zero)) = some (3, 32, some (.agg #[.string ⟨#[]⟩, .int .i64 0, .bool false])) := by kernel_rfl
theorem ti260 : (prog.info? 260).map (fun i => (i.size, i.bytes, i.zero)) = some (1, 8, some (.nilFunc)) := by kernel_rfl
theorem ti261 : (prog.info? 261).map (fun i => (i.size, i.bytes, i.zero)) = some (1, 8, some (.nilFunc)) := by kernel_rfl
theorem ti262 : (prog.info? 262).map (fun i => (i.size, i.bytes, i.zero)) = some (1, 8, some (.nilFunc)) := by kernel_rfl
theorem ti263 : (prog.info? 263).map (fun i => (i.size, i.bytes, i.zero)) = some (1, 8, some (.nilFunc)) := by kernel_rfl
theorem ti264 : (prog.info? 264).map (fun i => (i.size, i.bytes, i.zero)) = some (1, 8, some (.nilFunc)) := by kernel_rfl
theorem ti265 : (prog.info? 265).map (fun i => (i.size, i.bytes, i.zero)) = some (1, 8, some (.nilFunc)) := by kernel_rfl
theorem ti266 : (prog.info? 266).map (fun i => (i.size, i.bytes, i.zero)) = some (1, 16, some (.complex .f64 0 0)) := by kernel_rfl
theorem ti267 : (prog.info? 267).map (fun i => (i.size, i.bytes, i.zero)) = some (1, 8, some (.nilFunc)) := by kernel_rfl
theorem ti268 : (prog.info? 268).map (fun i => (i.size, i.bytes, i.zero)) = some (1, 8, some (.nilFunc)) := by kernel_rfl
theorem ti269 : (prog.info? 269).map (fun i => (i.size, i.bytes, i.zero)) = some (1, 8, some (.nilFunc)) := by kernel_rfl
theorem ti270 : (prog.info? 270).map (fun i => (i.size, i.bytes, i.zero)) = some (1, 8, some (.nilFunc)) := by kernel_rfl
theorem ti271 : (prog.info? 271).map (fun i => (i.size, i.bytes, i.zero)) = some (1, 8, some (.nilFunc)) := by kernel_rfl
theorem ti272 : (prog.info? 272).map (fun i => (i.size, i.bytes, i.zero)) = some (1, 8, some (.nilFunc)) := by kernel_rfl
theorem ti273 : (prog.info? 273).map (fun i => (i.size, i.bytes, i.zero)) = some (1, 8, some (.nilFunc)) := by kernel_rfl
theorem ti274 : (prog.info? 274).map (fun i => (i.size, i.bytes, i.zero)) = some (1, 8, some (.pointer none)) := by kernel_rfl
theorem ti275 : (prog.info? 275).map (fun i => (i.size, i.bytes, i.zero)) = some (1, 24, some (.slice none 0 0)) := by kernel_rfl
theorem ti276 : (prog.info? 276).map (fun i => (i.size, i.bytes, i.zero)) = some (1, 8, some (.pointer none)) := by kernel_rfl
theorem ti277 : (prog.info? 277).map (fun i => (i.size, i.bytes, i.zero)) = some (1, 8, some (.nilFunc)) := by kernel_rfl
theorem ti278 : (prog.info? 278).map (fun i => (i.size, i.bytes, i.zero)) = some (1, 8, some (.nilFunc)) := by kernel_rfl
theorem ti279 : (prog.info? 279).map (fun i => (i.size, i.bytes, i.zero)) = some (1, 8, some (.nilFunc)) := by kernel_rfl
theorem ti280 : (prog.info? 280).map (fun i => (i.size, i.bytes, i.zero)) = some (1, 8, some (.nilFunc)) := by kernel_rfl
theorem ti281 : (prog.info? 281).map (fun i => (i.size, i.bytes, i.zero)) = some (1, 8, some (.nilFunc)) := by kernel_rfl
theorem ti282 : (prog.info? 282).map (fun i => (i.size, i.bytes, i.zero)) = some (1, 8, some (.nilFunc)) := by kernel_rfl
theorem ti283 : (prog.info? 283).map (fun i => (i.size, i.bytes, i.zero)) = some (1, 8, some (.nilFunc)) := by kernel_rfl
theorem ti284 : (prog.info? 284).map (fun i => (i.size, i.bytes, i.zero)) = some (1, 8, some (.nilFunc)) := by kernel_rfl
theorem ti285 : (prog.info? 285).map (fun i => (i.size, i.bytes, i.zero)) = some (1, 8, some (.nilFunc)) := by kernel_rfl
theorem ti286 : (prog.info? 286).map (fun i => (i.size, i.bytes, i.zero)) = some (1, 8, some (.nilFunc)) := by kernel_rfl
theorem ti287 : (prog.info? 287).map (fun i => (i.size, i.bytes, i.zero)) = some (1, 8, some (.nilFunc)) := by kernel_rfl
theorem ti288 : (prog.info? 288).map (fun i => (i.size, i.bytes, i.zero)) = some (1, 8, some (.nilFunc)) := by kernel_rfl
theorem ti289 : (prog.info? 289).map (fun i => (i.size, i.bytes, i.zero)) = some (1, 8, some (.nilFunc)) := by kernel_rfl
theorem ti290 : (prog.info? 290).map (fun i => (i.size, i.bytes, i.zero)) = some (1, 8, some (.nilFunc)) := by kernel_rfl
theorem ti291 : (prog.info? 291).map (fun i => (i.size, i.bytes, i.zero)) = some (1, 8, some (.nilFunc)) := by kernel_rfl
theorem ti292 : (prog.info? 292).map (fun i => (i.size, i.bytes, i.zero)) = some (1, 8, some (.nilFunc)) := by kernel_rfl
theorem ti294 : (prog.info? 294).map (fun i => (i.size, i.bytes, i.zero)) = some (1, 8, some (.nilFunc)) := by kernel_rfl
theorem ti295 : (prog.info? 295).map (fun i => (i.size, i.bytes, i.zero)) = some (1, 8, some (.int .u64 0)) := by kernel_rfl
theorem ti296 : (prog.info? 296).map (fun i => (i.size, i.bytes, i.zero)) = some (1, 8, some (.nilFunc)) := by kernel_rfl
theorem ti297 : (prog.info? 297).map (fun i => (i.size, i.bytes, i.zero)) = some (1, 8, some (.nilFunc)) := by kernel_rfl
theorem ti298 : (prog.info? 298).map (fun i => (i.size, i.bytes, i.zero)) = some (1, 8, some (.nilFunc)) := by kernel_rfl
theorem ti299 : (prog.info? 299).map (fun i => (i.size, i.bytes, i.zero)) = some (1, 8, some (.nilFunc)) := by kernel_rfl
theorem ti300 : (prog.info? 300).map (fun i => (i.size, i.bytes, i.zero)) = some (1, 8, some (.nilFunc)) := by kernel_rfl
theorem ti301 : (prog.info? 301).map (fun i => (i.size, i.bytes, i.zero)) = some (1, 8, some (.nilFunc)) := by kernel_rfl
theorem ti302 : (prog.info? 302).map (fun i => (i.size, i.bytes, i.zero)) = some (1, 24, some (.slice none 0 0)) := by kernel_rfl
theorem ti303 : (prog.info? 303).map (fun i => (i.size, i.bytes, i.zero)) = some (1, 8, some (.nilFunc)) := by kernel_rfl
theorem ti304 : (prog.info? 304).map (fun i => (i.size, i.bytes, i.zero)) = some (1, 8, some (.nilFunc)) := by kernel_rfl
theorem ti305 : (prog.info? 305).map (fun i => (i.size, i.bytes, i.zero)) = some (1, 8, some (.nilFunc)) := by kernel_rfl
theorem ti306 : (prog.info? 306).map (fun i => (i.size, i.bytes, i.zero)) = some (1, 8, some (.nilFunc)) := by kernel_rfl
theorem ti307 : (prog.info? 307).map (fun i => (i.size, i.bytes, i.zero)) = some (1, 8, some (.nilFunc)) := by kernel_rfl
theorem ti309 : (prog.info? 309).map (fun i => (i.size, i.bytes, i.zero)) = some (1, 8, some (.nilFunc)) := by kernel_rfl
theorem ti310 : (prog.info? 310).map (fun i => (i.size, i.bytes, i.zero)) = some (1, 8, some (.nilFunc)) := by kernel_rfl
theorem ti311 : (prog.info? 311).map (fun i => (i.size, i.bytes, i.zero)) = some (1, 8, some (.pointer none)) := by kernel_rfl
theorem ti312 : (prog.info? 312).map (fun i => (i.size, i.bytes, i.zero)) = some (1, 8, some (.nilFunc)) := by kernel_rfl
theorem ti313 : (prog.info? 313).map (fun i => (i.size, i.bytes, i.zero)) = some (1, 8, some (.nilFunc)) := by kernel_rfl
theorem ti314 : (prog.info? 314).map (fun i => (i.size, i.bytes, i.zero)) = some (1, 8, some (.pointer none)) := by kernel_rfl
theorem ti315 : (prog.info? 315).map (fun i => (i.size, i.bytes, i.zero)) = some (1, 8, some (.nilFunc)) := by kernel_rfl
theorem ti316 : (prog.info? 316).map (fun i => (i.size, i.bytes, i.zero)) = some (1, 8, some (.nilFunc)) := by kernel_rfl
theorem ti317 : (prog.info? 317).map (fun i => (i.size, i.bytes, i.zero)) = some (1, 8, some (.pointer none)) := by kernel_rfl
theorem ti318 : (prog.info? 318).map (fun i => (i.size, i.bytes, i.zero)) = some (2, 32, some (.agg #[.pointer none, .slice none 0 0])) := by kernel_rfl
theorem ti319 : (prog.info? 319).map (fun i => (i.size, i.bytes, i.zero)) = some (2, 32, some (.agg #[.pointer none, .slice none 0 0])) := by kernel_rfl
theorem ti320 : (prog.info? 320).map (fun i => (i.size, i.bytes, i.zero)) = some (1, 24, some (.slice none 0 0)) := by kernel_rfl
theorem ti324 : (prog.info? 324).map (fun i => (i.size, i.bytes, i.zero)) = some (1, 8, some (.nilFunc)) := by kernel_rfl
theorem ti325 : (prog.info? 325).map (fun i => (i.size, i.bytes, i.zero)) = some (1, 8, some (.nilFunc)) := by kernel_rfl
theorem ti326 : (prog.info? 326).map (fun i => (i.size, i.bytes, i.zero)) = some (1, 8, some (.nilFunc)) := by kernel_rfl
theorem ti327 : (prog.info? 327).map (fun i => (i.size, i.bytes, i.zero)) = some (1, 8, some (.nilFunc)) := by kernel_rfl
theorem ti328 : (prog.info? 328).map (fun i => (i.size, i.bytes, i.zero)) = some (1, 8, some (.nilFunc)) := by kernel_rfl
theorem ti329 : (prog.info? 329).map (fun i => (i.size, i.bytes, i.zero)) = some (1, 8, some (.nilFunc)) := by kernel_rfl
theorem ti330 : (prog.info? 330).map (fun i => (i.size, i.bytes, i.zero)) = some (1, 8, some (.nilFunc)) := by kernel_rfl
theorem ti331 : (prog.info? 331).map (fun i => (i.size, i.bytes, i.zero)) = some (1, 8, some (.nilFunc)) := by kernel_rfl
theorem ti332 : (prog.info? 332).map (fun i => (i.size, i.bytes, i.zero)) = some (1, 8, some (.nilFunc)) := by kernel_rfl
theorem ti333 : (prog.info? 333).map (fun i => (i.size, i.bytes, i.zero)) = some (1, 8, some (.nilFunc)) := by kernel_rfl
theorem ti335 : (prog.info? 335).map (fun i => (i.size, i.bytes, i.zero)) = some (1, 8, some (.nilFunc)) := by kernel_rfl
theorem ti336 : (prog.info? 336).map (fun i => (i.size, i.bytes, i.zero)) = some (1, 8, some (.nilFunc)) := by kernel_rfl
theorem ti337 : (prog.info? 337).map (fun i => (i.size, i.bytes, i.zero)) = some (1, 8, some (.nilFunc)) := by kernel_rfl
theorem ti338 : (prog.info? 338).map (fun i => (i.size, i.bytes, i.zero)) = some (1, 8, some (.nilFunc)) := by kernel_rfl
theorem ti339 : (prog.info? 339).map (fun i => (i.size, i.bytes, i.zero)) = some (1, 8, some (.nilFunc)) := by kernel_rfl
theorem ti340 : (prog.info? 340).map (fun i => (i.size, i.bytes, i.zero)) = some (1, 8, some (.nilFunc)) := by kernel_rfl
theorem ti341 : (prog.info? 341).map (fun i => (i.size, i.bytes, i.zero)) = some (1, 8, some (.nilFunc)) := by kernel_rfl
theorem ti342 : (prog.info? 342).map (fun i => (i.size, i.bytes, i.zero)) = some (1, 8, some (.int .i64 0)) := by kernel_rfl
theorem ti344 : (prog.info? 344).map (fun i => (i.size, i.bytes, i.zero)) = some (1, 8, some (.nilFunc)) := by kernel_rfl
theorem ti345 : (prog.info? 345).map (fun i => (i.size, i.bytes, i.zero)) = some (1, 8, some (.nilFunc)) := by kernel_rfl
theorem ti346 : (prog.info? 346).map (fun i => (i.size, i.bytes, i.zero)) = some (1, 8, some (.nilFunc)) := by kernel_rfl
theorem ti348 : (prog.info? 348).map (fun i => (i.size, i.bytes, i.zero)) = some (1, 8, some (.nilFunc)) := by kernel_rfl
theorem ti349 : (prog.info? 349).map (fun i => (i.size, i.bytes, i.zero)) = some (1, 8, some (.nilFunc)) := by kernel_rfl
theorem ti350 : (prog.info? 350).map (fun i => (i.size, i.bytes, i.zero)) = some (1, 8, some (.nilFunc)) := by kernel_rfl
theorem ti351 : (prog.info? 351).map (fun i => (i.size, i.bytes, i.zero)) = some (1, 8, some (.nilFunc)) := by kernel_rfl
theorem ti353 : (prog.info? 353).map (fun i => (i.size, i.bytes, i.zero)) = some (1, 8, some (.nilFunc)) := by kernel_rfl
theorem ti355 : (prog.info? 355).map (fun i => (i.size, i.bytes, i.zero)) = some (1, 8, some (.nilFunc)) := by kernel_rfl
theorem ti356 : (prog.info? 356).map (fun i => (i.size, i.bytes, i.zero)) = some (1, 8, some (.nilFunc)) := by kernel_rfl
theorem ti357 : (prog.info? 357).map (fun i => (i.size, i.bytes, i.zero)) = some (1, 8, some (.pointer none)) := by kernel_rfl
theorem ti358 : (prog.info? 358).map (fun i => (i.size, i.bytes, i.zero)) = some (1, 8, some (.nilFunc)) := by kernel_rfl
theorem ti359 : (prog.info? 359).map (fun i => (i.size, i.bytes, i.zero)) = some (1, 8, some (.nilFunc)) := by kernel_rfl
theorem ti360 : (prog.info? 360).map (fun i => (i.size, i.bytes, i.zero)) = some (1, 8, some (.nilFunc)) := by kernel_rfl
theorem ti361 : (prog.info? 361).map (fun i => (i.size, i.bytes, i.zero)) = some (1, 8, some (.nilFunc)) := by kernel_rfl
theorem ti362 : (prog.info? 362).map (fun i => (i.size, i.bytes, i.zero)) = some (1, 8, some (.nilFunc)) := by kernel_rfl
theorem ti363 : (prog.info? 363).map (fun i => (i.size, i.bytes, i.zero)) = some (1, 8, some (.nilFunc)) := by kernel_rfl
theorem ti364 : (prog.info? 364).map (fun i => (i.size, i.bytes, i.zero)) = some (1, 8, some (.int .u64 0)) := by kernel_rfl
theorem ti365 : (prog.info? 365).map (fun i => (i.size, i.bytes, i.zero)) = some (1, 8, some (.nilFunc)) := by kernel_rfl
theorem ti366 : (prog.info? 366).map (fun i => (i.size, i.bytes, i.zero)) = some (1, 8, some (.nilFunc)) := by kernel_rfl
theorem ti367 : (prog.info? 367).map (fun i => (i.size, i.bytes, i.zero)) = some (1, 8, some (.nilFunc)) := by kernel_rfl
theorem ti368 : (prog.info? 368).map (fun i => (i.size, i.bytes, i.zero)) = some (1, 8, some (.pointer none)) := by kernel_rfl
theorem ti369 : (prog.info? 369).map (fun i => (i.size, i.bytes, i.zero)) = some (1, 8, some (.nilFunc)) := by kernel_rfl
theorem ti370 : (prog.info? 370).map (fun i => (i.size, i.bytes, i.zero)) = some (1, 8, some (.nilFunc)) := by kernel_rfl
theorem ti372 : (prog.info? 372).map (fun i => (i.size, i.bytes, i.zero)) = some (1, 8, some (.nilFunc)) := by kernel_rfl
theorem ti373 : (prog.info? 373).map (fun i => (i.size, i.bytes, i.zero)) = some (1, 8, some (.nilFunc)) := by kernel_rfl
theorem ti374 : (prog.info? 374).map (fun i => (i.size, i.bytes, i.zero)) = some (1, 8, some (.nilFunc)) := by kernel_rfl
theorem ti375 : (prog.info? 375).map (fun i => (i.size, i.bytes, i.zero)) = some (1, 8, some (.nilFunc)) := by kernel_rfl
theorem ti376 : (prog.info? 376).map (fun i => (i.size, i.bytes, i.zero)) = some (1, 8, some (.pointer none)) := by kernel_rfl
theorem ti378 : (prog.info? 378).map (fun i => (i.size, i.bytes, i.zero)) = some (1, 8, some (.nilFunc)) := by kernel_rfl
theorem ti379 : (prog.info? 379).map (fun i => (i.size, i.bytes, i.zero)) = some (1, 8, some (.nilFunc)) := by kernel_rfl
theorem ti380 : (prog.info? 380).map (fun i => (i.size, i.bytes, i.zero)) = some (4, 40, some (.agg #[.pointer none, .pointer none, .pointer none, .string ⟨#[]⟩])) := by kernel_rfl
theorem ti381 : (prog.info? 381).map (fun i => (i.size, i.bytes, i.zero)) = some (4, 40, some (.agg #[.pointer none, .pointer none, .pointer none, .string ⟨#[]⟩])) := by kernel_rfl
theorem ti385 : (prog.info? 385).map (fun i => (i.size, i.bytes, i.zero)) = some (1, 8, some (.nilFunc)) := by kernel_rfl
theorem ti386 : (prog.info? 386).map (fun i => (i.size, i.bytes, i.zero)) = some (1, 1, some (.int .u8 0)) := by kernel_rfl
theorem ti387 : (prog.info? 387).map (fun i => (i.size, i.bytes, i.zero)) = some (1, 1, some (.int .u8 0)) := by kernel_rfl
theorem ti388 : (prog.info? 388).map (fun i => (i.size, i.bytes, i.zero)) = some (1, 8, some (.nilFunc)) := by kernel_rfl
theorem ti389 : (prog.info? 389).map (fun i => (i.size, i.bytes, i.zero)) = some (1, 4, some (.int .i32 0)) := by kernel_rfl
theorem ti390 : (prog.info? 390).map (fun i => (i.size, i.bytes, i.zero)) = some (1, 4, some (.int .i32 0)) := by kernel_rfl
theorem ti391 : (prog.info? 391).map (fun i => (i.size, i.bytes, i.zero)) = some (11, 48, some (.agg #[.int .u64 0, .int .u64 0, .int .u32 0, .int .u8 0, .int .u8 0, .int .u8 0, .int .u8 0, .nilFunc, .pointer none, .int .i32 0, .int .i32 0])) := by kernel_rfl
theorem ti392 : (prog.info? 392).map (fun i => (i.size, i.bytes, i.zero)) = some (11, 48, some (.agg #[.int .u64 0, .int .u64 0, .int .u32 0, .int .u8 0, .int .u8 0, .int .u8 0, .int .u8 0, .nilFunc, .pointer none, .int .i32 0, .int .i32 0])) := by kernel_rfl
def td1 : TD := ⟨(TypeDesc.func #[] #[] false), 1, 8, .nilFunc⟩
def td2 : TD := ⟨(TypeDesc.int IntKind.i64), 1, 8, .int .i64 0⟩
def td3 : TD := ⟨(TypeDesc.int IntKind.i64), 1, 8, .int .i64 0⟩
def td4 : TD := ⟨TypeDesc.bool, 1, 1, .bool false⟩
def td5 : TD := ⟨(TypeDesc.int IntKind.u8), 1, 1, .int .u8 0⟩
def td6 : TD := ⟨(TypeDesc.int IntKind.u8), 1, 1, .int .u8 0⟩
def td7 : TD := ⟨(TypeDesc.struct #[{ name := "x", type := 2, offset := 0, embedded := false, tag := "", pkgPath := "runtime", byteOffset := 0 }, { name := "y", type := 3, offset := 1, embedded := false, tag := "", pkgPath := "runtime", byteOffset := 8 }, { name := "signed", type := 4, offset := 2, embedded := false, tag := "", pkgPath := "runtime", byteOffset := 16 }, { name := "code", type := 6, offset := 3, embedded := false, tag := "", pkgPath := "runtime", byteOffset := 17 }]), 4, 24, .agg #[.int .i64 0, .int .i64 0, .bool false, .int .u8 0]⟩
def td8 : TD := ⟨(TypeDesc.struct #[{ name := "x", type := 2, offset := 0, embedded := false, tag := "", pkgPath := "runtime", byteOffset := 0 }, { name := "y", type := 3, offset := 1, embedded := false, tag := "", pkgPath := "runtime", byteOffset := 8 }, { name := "signed", type := 4, offset := 2, embedded := false, tag := "", pkgPath := "runtime", byteOffset := 16 }, { name := "code", type := 6, offset := 3, embedded := false, tag := "", pkgPath := "runtime", byteOffset := 17 }]), 4, 24, .agg #[.int .i64 0, .int .i64 0, .bool false, .int .u8 0]⟩
def td9 : TD := ⟨TypeDesc.string, 1, 16, .string ⟨#[]⟩⟩
def td10 : TD := ⟨TypeDesc.string, 1, 16, .string ⟨#[]⟩⟩
def td11 : TD := ⟨TypeDesc.string, 1, 16, .string ⟨#[]⟩⟩
def td12 : TD := ⟨(TypeDesc.int IntKind.u64), 1, 8, .int .u64 0⟩
def td13 : TD := ⟨(TypeDesc.struct #[{ name := "msg", type := 9, offset := 0, embedded := false, tag := "", pkgPath := "runtime", byteOffset := 0 }, { name := "addr", type := 12, offset := 1, embedded := false, tag := "", pkgPath := "runtime", byteOffset := 16 }]), 2, 24, .agg #[.string ⟨#[]⟩, .int .u64 0]⟩
def td14 : TD := ⟨(TypeDesc.struct #[{ name := "msg", type := 9, offset := 0, embedded := false, tag := "", pkgPath := "runtime", byteOffset := 0 }, { name := "addr", type := 12, offset := 1, embedded := false, tag := "", pkgPath := "runtime", byteOffset := 16 }]), 2, 24, .agg #[.string ⟨#[]⟩, .int .u64 0]⟩
def td15 : TD := ⟨(TypeDesc.pointer 381), 1, 8, .pointer none⟩
def td16 : TD := ⟨(TypeDesc.pointer 384), 1, 8, .pointer none⟩
def td17 : TD := ⟨(TypeDesc.pointer 392), 1, 8, .pointer none⟩
def td18 : TD := ⟨(TypeDesc.struct #[{ name := "typ", type := 17, offset := 0, embedded := false, tag := "", pkgPath := "internal/runtime/maps", byteOffset := 0 }]), 1, 8, .agg #[.pointer none]⟩
def td19 : TD := ⟨(TypeDesc.struct #[{ name := "typ", type := 17, offset := 0, embedded := false, tag := "", pkgPath := "internal/runtime/maps", byteOffset := 0 }]), 1, 8, .agg #[.pointer none]⟩
def td21 : TD := ⟨(TypeDesc.int IntKind.i32), 1, 4, .int .i32 0⟩
def td22 : TD := ⟨(TypeDesc.slice 5), 1, 24, .slice none 0 0⟩
def td23 : TD := ⟨(TypeDesc.func #[22, 22] #[4] false), 1, 8, .nilFunc⟩
def td24 : TD := ⟨(TypeDesc.complex FloatKind.f32), 1, 8, .complex .f32 0 0⟩
def td25 : TD := ⟨(TypeDesc.struct #[{ name := "A", type := 24, offset := 0, embedded := false, tag := "", pkgPath := "", byteOffset := 0 }, { name := "B", type := 24, offset := 1, embedded := false, tag := "", pkgPath := "", byteOffset := 8 }, { name := "C", type := 24, offset := 2, embedded := false, tag := "", pkgPath := "", byteOffset := 16 }]), 3, 24, .agg #[.complex .f32 0 0, .complex .f32 0 0, .complex .f32 0 0]⟩
def td26 : TD := ⟨(TypeDesc.struct #[{ name := "A", type := 24, offset := 0, embedded := false, tag := "", pkgPath := "", byteOffset := 0 }, { name := "B", type := 24, offset := 1, embedded := false, tag := "", pkgPath := "", byteOffset := 8 }, { name := "C", type := 24, offset := 2, embedded := false, tag := "", pkgPath := "", byteOffset := 16 }]), 3, 24, .agg #[.complex .f32 0 0, .complex .f32 0 0, .complex .f32 0 0]⟩
def td27 : TD := ⟨(TypeDesc.slice 104), 1, 24, .slice none 0 0⟩
def td28 : TD := ⟨(TypeDesc.struct #[{ name := "Source", type := 26, offset := 0, embedded := false, tag := "", pkgPath := "", byteOffset := 0 }, { name := "Buses", type := 27, offset := 3, embedded := false, tag := "", pkgPath := "", byteOffset := 24 }]), 4, 48, .agg #[.complex .f32 0 0, .complex .f32 0 0, .complex .f32 0 0, .slice none 0 0]⟩
def td29 : TD := ⟨(TypeDesc.struct #[{ name := "Source", type := 26, offset := 0, embedded := false, tag := "", pkgPath := "", byteOffset := 0 }, { name := "Buses", type := 27, offset := 3, embedded := false, tag := "", pkgPath := "", byteOffset := 24 }]), 4, 48, .agg #[.complex .f32 0 0, .complex .f32 0 0, .complex .f32 0 0, .slice none 0 0]⟩
def td30 : TD := ⟨(TypeDesc.func #[22] #[29] false), 1, 8, .nilFunc⟩
def td31 : TD := ⟨(TypeDesc.slice 26), 1, 24, .slice none 0 0⟩
def td32 : TD := ⟨(TypeDesc.func #[22, 29] #[31] false), 1, 8, .nilFunc⟩
def td33 : TD := ⟨(TypeDesc.func #[22, 2, 2] #[2] false), 1, 8, .nilFunc⟩
def td35 : TD := ⟨(TypeDesc.func #[29, 31] #[31, 4] false), 1, 8, .nilFunc⟩
def td36 : TD := ⟨(TypeDesc.struct #[{ name := "Voltages", type := 31, offset := 0, embedded := false, tag := "", pkgPath := "", byteOffset := 0 }, { name := "Currents", type := 31, offset := 1, embedded := false, tag := "", pkgPath := "", byteOffset := 24 }, { name := "Rounds", type := 2, offset := 2, embedded := false, tag := "", pkgPath := "", byteOffset := 48 }, { name := "Rests", type := 4, offset := 3, embedded := false, tag := "", pkgPath := "", byteOffset := 56 }]), 4, 64, .agg #[.slice none 0 0, .slice none 0 0, .int .i64 0, .bool false]⟩
def td37 : TD := ⟨(TypeDesc.struct #[{ name := "Voltages", type := 31, offset := 0, embedded := false, tag := "", pkgPath := "", byteOffset := 0 }, { name := "Currents", type := 31, offset := 1, embedded := false, tag := "", pkgPath := "", byteOffset := 24 }, { name := "Rounds", type := 2, offset := 2, embedded := false, tag := "", pkgPath := "", byteOffset := 48 }, { name := "Rests", type := 4, offset := 3, embedded := false, tag := "", pkgPath := "", byteOffset := 56 }]), 4, 64, .agg #[.slice none 0 0, .slice none 0 0, .int .i64 0, .bool false]⟩
def td39 : TD := ⟨(TypeDesc.func #[29, 31] #[37, 4] false), 1, 8, .nilFunc⟩
def td40 : TD := ⟨(TypeDesc.func #[29, 31, 2] #[37, 4] false), 1, 8, .nilFunc⟩
def td41 : TD := ⟨(TypeDesc.func #[29, 37] #[4] false), 1, 8, .nilFunc⟩
def td42 : TD := ⟨(TypeDesc.func #[31, 31] #[4] false), 1, 8, .nilFunc⟩
def td43 : TD := ⟨(TypeDesc.func #[26, 26] #[4] false), 1, 8, .nilFunc⟩
def td44 : TD := ⟨(TypeDesc.func #[29] #[31, 4] false), 1, 8, .nilFunc⟩
def td45 : TD := ⟨(TypeDesc.func #[29, 2, 46] #[37, 4] false), 1, 8, .nilFunc⟩
def td46 : TD := ⟨(TypeDesc.float FloatKind.f32), 1, 4, .float .f32 0⟩
def td48 : TD := ⟨(TypeDesc.func #[31, 31] #[46, 4] false), 1, 8, .nilFunc⟩
def td49 : TD := ⟨(TypeDesc.slice 253), 1, 24, .slice none 0 0⟩
def td50 : TD := ⟨(TypeDesc.struct #[{ name := "Feeder", type := 29, offset := 0, embedded := false, tag := "", pkgPath := "", byteOffset := 0 }, { name := "Ties", type := 49, offset := 4, embedded := false, tag := "", pkgPath := "", byteOffset := 48 }]), 5, 72, .agg #[.complex .f32 0 0, .complex .f32 0 0, .complex .f32 0 0, .slice none 0 0, .slice none 0 0]⟩
def td51 : TD := ⟨(TypeDesc.struct #[{ name := "Feeder", type := 29, offset := 0, embedded := false, tag := "", pkgPath := "", byteOffset := 0 }, { name := "Ties", type := 49, offset := 4, embedded := false, tag := "", pkgPath := "", byteOffset := 48 }]), 5, 72, .agg #[.complex .f32 0 0, .complex .f32 0 0, .complex .f32 0 0, .slice none 0 0, .slice none 0 0]⟩
def td53 : TD := ⟨(TypeDesc.func #[9] #[51, 4] false), 1, 8, .nilFunc⟩
def td54 : TD := ⟨(TypeDesc.func #[51, 51] #[4] false), 1, 8, .nilFunc⟩
def td55 : TD := ⟨(TypeDesc.func #[51, 3] #[3] false), 1, 8, .nilFunc⟩
def td56 : TD := ⟨(TypeDesc.func #[9] #[4] false), 1, 8, .nilFunc⟩
def td58 : TD := ⟨(TypeDesc.func #[29, 37] #[2, 46, 4] false), 1, 8, .nilFunc⟩
def td59 : TD := ⟨(TypeDesc.slice 46), 1, 24, .slice none 0 0⟩
def td61 : TD := ⟨(TypeDesc.func #[29, 37, 2] #[59, 4] false), 1, 8, .nilFunc⟩
def td62 : TD := ⟨(TypeDesc.slice 2), 1, 24, .slice none 0 0⟩
def td64 : TD := ⟨(TypeDesc.func #[29, 2] #[62, 4] false), 1, 8, .nilFunc⟩
def td65 : TD := ⟨(TypeDesc.func #[29, 37] #[46, 4] false), 1, 8, .nilFunc⟩
def td66 : TD := ⟨(TypeDesc.func #[24] #[46] false), 1, 8, .nilFunc⟩
def td67 : TD := ⟨(TypeDesc.func #[26] #[46] false), 1, 8, .nilFunc⟩
def td69 : TD := ⟨(TypeDesc.func #[29, 2] #[29, 4] false), 1, 8, .nilFunc⟩
def td70 : TD := ⟨(TypeDesc.func #[26, 26, 71] #[4] false), 1, 8, .nilFunc⟩
def td71 : TD := ⟨(TypeDesc.float FloatKind.f64), 1, 8, .float .f64 0⟩
def td72 : TD := ⟨(TypeDesc.slice 174), 1, 24, .slice none 0 0⟩
def td73 : TD := ⟨(TypeDesc.func #[22, 29] #[72] false), 1, 8, .nilFunc⟩
def td75 : TD := ⟨(TypeDesc.func #[29, 72, 46, 46, 2, 2] #[72, 2, 4] false), 1, 8, .nilFunc⟩
def td76 : TD := ⟨(TypeDesc.func #[29, 72] #[4] false), 1, 8, .nilFunc⟩
def td77 : TD := ⟨(TypeDesc.func #[72, 72] #[4] false), 1, 8, .nilFunc⟩
def td78 : TD := ⟨(TypeDesc.func #[29, 72, 2] #[37, 4] false), 1, 8, .nilFunc⟩
def td79 : TD := ⟨(TypeDesc.func #[29, 37, 46, 46] #[62, 4] false), 1, 8, .nilFunc⟩
def td80 : TD := ⟨(TypeDesc.func #[62, 2] #[4] false), 1, 8, .nilFunc⟩
def td81 : TD := ⟨(TypeDesc.slice 24), 1, 24, .slice none 0 0⟩
def td83 : TD := ⟨(TypeDesc.func #[29, 37] #[81, 4] false), 1, 8, .nilFunc⟩
def td84 : TD := ⟨(TypeDesc.func #[29, 37, 46] #[62, 4] false), 1, 8, .nilFunc⟩
def td85 : TD := ⟨(TypeDesc.func #[29, 37, 2] #[46, 4] false), 1, 8, .nilFunc⟩
def td86 : TD := ⟨(TypeDesc.func #[22, 2] #[24] false), 1, 8, .nilFunc⟩
def td87 : TD := ⟨(TypeDesc.func #[24] #[26] false), 1, 8, .nilFunc⟩
def td89 : TD := ⟨(TypeDesc.func #[29, 2, 2, 24] #[26, 4] false), 1, 8, .nilFunc⟩
def td90 : TD := ⟨(TypeDesc.func #[29, 2, 2, 24, 2] #[26, 4] false), 1, 8, .nilFunc⟩
def td91 : TD := ⟨(TypeDesc.func #[29, 2, 24] #[59, 4] false), 1, 8, .nilFunc⟩
def td92 : TD := ⟨(TypeDesc.func #[29, 2, 24] #[2, 46, 4] false), 1, 8, .nilFunc⟩
def td93 : TD := ⟨(TypeDesc.func #[46, 46] #[4] false), 1, 8, .nilFunc⟩
def td94 : TD := ⟨(TypeDesc.func #[24, 24] #[71] false), 1, 8, .nilFunc⟩
def td95 : TD := ⟨(TypeDesc.func #[24, 24] #[24] false), 1, 8, .nilFunc⟩
def td96 : TD := ⟨(TypeDesc.func #[26] #[24] false), 1, 8, .nilFunc⟩
def td97 : TD := ⟨(TypeDesc.slice 114), 1, 24, .slice none 0 0⟩
def td98 : TD := ⟨(TypeDesc.func #[22, 29] #[97] false), 1, 8, .nilFunc⟩
def td99 : TD := ⟨(TypeDesc.slice 4), 1, 24, .slice none 0 0⟩
def td100 : TD := ⟨(TypeDesc.func #[29, 97, 2] #[62, 4] false), 1, 8, .nilFunc⟩
def td102 : TD := ⟨(TypeDesc.func #[29, 97, 2] #[2, 4] false), 1, 8, .nilFunc⟩
def td103 : TD := ⟨(TypeDesc.struct #[{ name := "Parent", type := 2, offset := 0, embedded := false, tag := "", pkgPath := "", byteOffset := 0 }, { name := "Own", type := 24, offset := 1, embedded := false, tag := "", pkgPath := "", byteOffset := 8 }, { name := "Shared", type := 24, offset := 2, embedded := false, tag := "", pkgPath := "", byteOffset := 16 }, { name := "Kind", type := 2, offset := 3, embedded := false, tag := "", pkgPath := "", byteOffset := 24 }, { name := "Load", type := 26, offset := 4, embedded := false, tag := "", pkgPath := "", byteOffset := 32 }, { name := "Customers", type := 2, offset := 7, embedded := false, tag := "", pkgPath := "", byteOffset := 56 }]), 8, 64, .agg #[.int .i64 0, .complex .f32 0 0, .complex .f32 0 0, .int .i64 0, .complex .f32 0 0, .complex .f32 0 0, .complex .f32 0 0, .int .i64 0]⟩
def td104 : TD := ⟨(TypeDesc.struct #[{ name := "Parent", type := 2, offset := 0, embedded := false, tag := "", pkgPath := "", byteOffset := 0 }, { name := "Own", type := 24, offset := 1, embedded := false, tag := "", pkgPath := "", byteOffset := 8 }, { name := "Shared", type := 24, offset := 2, embedded := false, tag := "", pkgPath := "", byteOffset := 16 }, { name := "Kind", type := 2, offset := 3, embedded := false, tag := "", pkgPath := "", byteOffset := 24 }, { name := "Load", type := 26, offset := 4, embedded := false, tag := "", pkgPath := "", byteOffset := 32 }, { name := "Customers", type := 2, offset := 7, embedded := false, tag := "", pkgPath := "", byteOffset := 56 }]), 8, 64, .agg #[.int .i64 0, .complex .f32 0 0, .complex .f32 0 0, .int .i64 0, .complex .f32 0 0, .complex .f32 0 0, .complex .f32 0 0, .int .i64 0]⟩
def td105 : TD := ⟨(TypeDesc.func #[29, 97] #[2, 4] false), 1, 8, .nilFunc⟩
def td106 : TD := ⟨(TypeDesc.func #[29] #[2, 4] false), 1, 8, .nilFunc⟩
def td108 : TD := ⟨(TypeDesc.func #[29, 97] #[46, 46, 46, 4] false), 1, 8, .nilFunc⟩
def td109 : TD := ⟨(TypeDesc.func #[29, 97] #[4] false), 1, 8, .nilFunc⟩
def td110 : TD := ⟨(TypeDesc.func #[2, 2] #[46] false), 1, 8, .nilFunc⟩
def td112 : TD := ⟨(TypeDesc.func #[29, 97] #[2, 2, 4] false), 1, 8, .nilFunc⟩
def td113 : TD := ⟨(TypeDesc.struct #[{ name := "Bus", type := 2, offset := 0, embedded := false, tag := "", pkgPath := "", byteOffset := 0 }, { name := "From", type := 2, offset := 1, embedded := false, tag := "", pkgPath := "", byteOffset := 8 }, { name := "Until", type := 2, offset := 2, embedded := false, tag := "", pkgPath := "", byteOffset := 16 }]), 3, 24, .agg #[.int .i64 0, .int .i64 0, .int .i64 0]⟩
def td114 : TD := ⟨(TypeDesc.struct #[{ name := "Bus", type := 2, offset := 0, embedded := false, tag := "", pkgPath := "", byteOffset := 0 }, { name := "From", type := 2, offset := 1, embedded := false, tag := "", pkgPath := "", byteOffset := 8 }, { name := "Until", type := 2, offset := 2, embedded := false, tag := "", pkgPath := "", byteOffset := 16 }]), 3, 24, .agg #[.int .i64 0, .int .i64 0, .int .i64 0]⟩
def td115 : TD := ⟨(TypeDesc.slice 37), 1, 24, .slice none 0 0⟩
def td116 : TD := ⟨(TypeDesc.struct #[{ name := "Grid", type := 51, offset := 0, embedded := false, tag := "", pkgPath := "", byteOffset := 0 }, { name := "Flows", type := 115, offset := 5, embedded := false, tag := "", pkgPath := "", byteOffset := 72 }]), 6, 96, .agg #[.complex .f32 0 0, .complex .f32 0 0, .complex .f32 0 0, .slice none 0 0, .slice none 0 0, .slice none 0 0]⟩
def td117 : TD := ⟨(TypeDesc.struct #[{ name := "Grid", type := 51, offset := 0, embedded := false, tag := "", pkgPath := "", byteOffset := 0 }, { name := "Flows", type := 115, offset := 5, embedded := false, tag := "", pkgPath := "", byteOffset := 72 }]), 6, 96, .agg #[.complex .f32 0 0, .complex .f32 0 0, .complex .f32 0 0, .slice none 0 0, .slice none 0 0, .slice none 0 0]⟩
def td119 : TD := ⟨(TypeDesc.func #[9] #[117, 2, 4] false), 1, 8, .nilFunc⟩
def td120 : TD := ⟨(TypeDesc.func #[117, 117] #[4] false), 1, 8, .nilFunc⟩
def td121 : TD := ⟨(TypeDesc.func #[117, 3] #[3] false), 1, 8, .nilFunc⟩
def td123 : TD := ⟨(TypeDesc.func #[9] #[117, 4] false), 1, 8, .nilFunc⟩
def td124 : TD := ⟨(TypeDesc.slice 132), 1, 24, .slice none 0 0⟩
def td125 : TD := ⟨(TypeDesc.func #[22, 29] #[124] false), 1, 8, .nilFunc⟩
def td126 : TD := ⟨(TypeDesc.func #[29, 124, 2] #[62, 4] false), 1, 8, .nilFunc⟩
def td127 : TD := ⟨(TypeDesc.func #[29, 124, 2, 46] #[2, 46, 4] false), 1, 8, .nilFunc⟩
def td128 : TD := ⟨(TypeDesc.func #[29, 124] #[4] false), 1, 8, .nilFunc⟩
def td129 : TD := ⟨(TypeDesc.struct #[{ name := "Currents", type := 59, offset := 0, embedded := false, tag := "", pkgPath := "", byteOffset := 0 }, { name := "Times", type := 59, offset := 1, embedded := false, tag := "", pkgPath := "", byteOffset := 24 }]), 2, 48, .agg #[.slice none 0 0, .slice none 0 0]⟩
def td130 : TD := ⟨(TypeDesc.struct #[{ name := "Currents", type := 59, offset := 0, embedded := false, tag := "", pkgPath := "", byteOffset := 0 }, { name := "Times", type := 59, offset := 1, embedded := false, tag := "", pkgPath := "", byteOffset := 24 }]), 2, 48, .agg #[.slice none 0 0, .slice none 0 0]⟩
def td131 : TD := ⟨(TypeDesc.struct #[{ name := "Bus", type := 2, offset := 0, embedded := false, tag := "", pkgPath := "", byteOffset := 0 }, { name := "Curve", type := 130, offset := 1, embedded := false, tag := "", pkgPath := "", byteOffset := 8 }]), 3, 56, .agg #[.int .i64 0, .slice none 0 0, .slice none 0 0]⟩
def td132 : TD := ⟨(TypeDesc.struct #[{ name := "Bus", type := 2, offset := 0, embedded := false, tag := "", pkgPath := "", byteOffset := 0 }, { name := "Curve", type := 130, offset := 1, embedded := false, tag := "", pkgPath := "", byteOffset := 8 }]), 3, 56, .agg #[.int .i64 0, .slice none 0 0, .slice none 0 0]⟩
def td133 : TD := ⟨(TypeDesc.func #[130, 46] #[46, 4] false), 1, 8, .nilFunc⟩
def td134 : TD := ⟨(TypeDesc.func #[29, 124, 59] #[62, 4] false), 1, 8, .nilFunc⟩
def td135 : TD := ⟨(TypeDesc.slice 62), 1, 24, .slice none 0 0⟩
def td137 : TD := ⟨(TypeDesc.func #[29, 124, 46, 46, 46, 2] #[135, 4] false), 1, 8, .nilFunc⟩
def td138 : TD := ⟨(TypeDesc.func #[130, 130, 46, 46, 2] #[46, 4] false), 1, 8, .nilFunc⟩
def td139 : TD := ⟨(TypeDesc.pointer 238), 1, 8, .pointer none⟩
def td140 : TD := ⟨(TypeDesc.func #[22] #[139] false), 1, 8, .nilFunc⟩
def td141 : TD := ⟨(TypeDesc.func #[139] #[29] false), 1, 8, .nilFunc⟩
def td142 : TD := ⟨(TypeDesc.func #[139, 2] #[26] false), 1, 8, .nilFunc⟩
def td143 : TD := ⟨(TypeDesc.func #[29, 31] #[4] false), 1, 8, .nilFunc⟩
def td144 : TD := ⟨(TypeDesc.func #[31] #[31] false), 1, 8, .nilFunc⟩
def td145 : TD := ⟨(TypeDesc.func #[31, 241] #[31] false), 1, 8, .nilFunc⟩
def td146 : TD := ⟨(TypeDesc.func #[3, 26] #[26] false), 1, 8, .nilFunc⟩
def td147 : TD := ⟨(TypeDesc.func #[31, 241] #[37] false), 1, 8, .nilFunc⟩
def td148 : TD := ⟨(TypeDesc.func #[2, 2, 2] #[4] false), 1, 8, .nilFunc⟩
def td149 : TD := ⟨(TypeDesc.func #[31, 2, 241] #[37] false), 1, 8, .nilFunc⟩
def td150 : TD := ⟨(TypeDesc.func #[29] #[4] false), 1, 8, .nilFunc⟩
def td151 : TD := ⟨(TypeDesc.func #[152, 153] #[4] false), 1, 8, .nilFunc⟩
def td152 : TD := ⟨(TypeDesc.pointer 29), 1, 8, .pointer none⟩
def td153 : TD := ⟨(TypeDesc.pointer 37), 1, 8, .pointer none⟩
def td154 : TD := ⟨(TypeDesc.func #[] #[31] false), 1, 8, .nilFunc⟩
def td155 : TD := ⟨(TypeDesc.func #[46] #[4] false), 1, 8, .nilFunc⟩
def td156 : TD := ⟨(TypeDesc.func #[31, 31] #[46] false), 1, 8, .nilFunc⟩
def td158 : TD := ⟨(TypeDesc.func #[9] #[51, 3, 4] false), 1, 8, .nilFunc⟩
def td159 : TD := ⟨(TypeDesc.func #[29, 29] #[4] false), 1, 8, .nilFunc⟩
def td160 : TD := ⟨(TypeDesc.func #[49, 49] #[4] false), 1, 8, .nilFunc⟩
def td161 : TD := ⟨(TypeDesc.func #[29, 3] #[3] false), 1, 8, .nilFunc⟩
def td162 : TD := ⟨(TypeDesc.func #[49, 3] #[3] false), 1, 8, .nilFunc⟩
def td163 : TD := ⟨(TypeDesc.func #[2] #[2] false), 1, 8, .nilFunc⟩
def td164 : TD := ⟨(TypeDesc.func #[31] #[2, 46, 4] false), 1, 8, .nilFunc⟩
def td165 : TD := ⟨(TypeDesc.func #[2] #[4] false), 1, 8, .nilFunc⟩
def td166 : TD := ⟨(TypeDesc.func #[2] #[62] false), 1, 8, .nilFunc⟩
def td167 : TD := ⟨(TypeDesc.func #[] #[59] false), 1, 8, .nilFunc⟩
def td168 : TD := ⟨(TypeDesc.func #[29] #[29] false), 1, 8, .nilFunc⟩
def td169 : TD := ⟨(TypeDesc.pointer 104), 1, 8, .pointer none⟩
def td170 : TD := ⟨(TypeDesc.func #[29] #[29, 4] false), 1, 8, .nilFunc⟩
def td171 : TD := ⟨(TypeDesc.func #[152] #[4] false), 1, 8, .nilFunc⟩
def td172 : TD := ⟨(TypeDesc.func #[26, 26] #[26] false), 1, 8, .nilFunc⟩
def td173 : TD := ⟨(TypeDesc.struct #[{ name := "Bus", type := 2, offset := 0, embedded := false, tag := "", pkgPath := "", byteOffset := 0 }, { name := "A", type := 2, offset := 1, embedded := false, tag := "", pkgPath := "", byteOffset := 8 }, { name := "B", type := 2, offset := 2, embedded := false, tag := "", pkgPath := "", byteOffset := 16 }, { name := "C", type := 2, offset := 3, embedded := false, tag := "", pkgPath := "", byteOffset := 24 }, { name := "Each", type := 46, offset := 4, embedded := false, tag := "", pkgPath := "", byteOffset := 32 }]), 5, 40, .agg #[.int .i64 0, .int .i64 0, .int .i64 0, .int .i64 0, .float .f32 0]⟩
def td174 : TD := ⟨(TypeDesc.struct #[{ name := "Bus", type := 2, offset := 0, embedded := false, tag := "", pkgPath := "", byteOffset := 0 }, { name := "A", type := 2, offset := 1, embedded := false, tag := "", pkgPath := "", byteOffset := 8 }, { name := "B", type := 2, offset := 2, embedded := false, tag := "", pkgPath := "", byteOffset := 16 }, { name := "C", type := 2, offset := 3, embedded := false, tag := "", pkgPath := "", byteOffset := 24 }, { name := "Each", type := 46, offset := 4, embedded := false, tag := "", pkgPath := "", byteOffset := 32 }]), 5, 40, .agg #[.int .i64 0, .int .i64 0, .int .i64 0, .int .i64 0, .float .f32 0]⟩
def td175 : TD := ⟨(TypeDesc.func #[59] #[4] true), 1, 8, .nilFunc⟩
def td176 : TD := ⟨(TypeDesc.func #[72] #[72] false), 1, 8, .nilFunc⟩
def td177 : TD := ⟨(TypeDesc.func #[72, 2] #[37] false), 1, 8, .nilFunc⟩
def td178 : TD := ⟨(TypeDesc.func #[26, 46, 46] #[174] false), 1, 8, .nilFunc⟩
def td179 : TD := ⟨(TypeDesc.func #[62, 62] #[4] false), 1, 8, .nilFunc⟩
def td180 : TD := ⟨(TypeDesc.func #[] #[62] false), 1, 8, .nilFunc⟩
def td181 : TD := ⟨(TypeDesc.func #[] #[4] false), 1, 8, .nilFunc⟩
def td182 : TD := ⟨(TypeDesc.func #[72, 72, 183] #[4] false), 1, 8, .nilFunc⟩
def td183 : TD := ⟨(TypeDesc.func #[174, 174] #[4] false), 1, 8, .nilFunc⟩
def td184 : TD := ⟨(TypeDesc.func #[31, 155] #[62] false), 1, 8, .nilFunc⟩
def td185 : TD := ⟨(TypeDesc.func #[139] #[26] false), 1, 8, .nilFunc⟩
def td186 : TD := ⟨(TypeDesc.func #[153] #[81] false), 1, 8, .nilFunc⟩
def td187 : TD := ⟨(TypeDesc.func #[] #[46] false), 1, 8, .nilFunc⟩
def td188 : TD := ⟨(TypeDesc.func #[59] #[46] false), 1, 8, .nilFunc⟩
def td189 : TD := ⟨(TypeDesc.func #[71] #[71] false), 1, 8, .nilFunc⟩
def td190 : TD := ⟨(TypeDesc.func #[24] #[71] false), 1, 8, .nilFunc⟩
def td191 : TD := ⟨(TypeDesc.func #[46] #[46] false), 1, 8, .nilFunc⟩
def td192 : TD := ⟨(TypeDesc.func #[71] #[24] false), 1, 8, .nilFunc⟩
def td193 : TD := ⟨(TypeDesc.struct #[{ name := "Zero", type := 24, offset := 0, embedded := false, tag := "", pkgPath := "", byteOffset := 0 }, { name := "Plus", type := 24, offset := 1, embedded := false, tag := "", pkgPath := "", byteOffset := 8 }, { name := "Minus", type := 24, offset := 2, embedded := false, tag := "", pkgPath := "", byteOffset := 16 }]), 3, 24, .agg #[.complex .f32 0 0, .complex .f32 0 0, .complex .f32 0 0]⟩
def td194 : TD := ⟨(TypeDesc.struct #[{ name := "Zero", type := 24, offset := 0, embedded := false, tag := "", pkgPath := "", byteOffset := 0 }, { name := "Plus", type := 24, offset := 1, embedded := false, tag := "", pkgPath := "", byteOffset := 8 }, { name := "Minus", type := 24, offset := 2, embedded := false, tag := "", pkgPath := "", byteOffset := 16 }]), 3, 24, .agg #[.complex .f32 0 0, .complex .f32 0 0, .complex .f32 0 0]⟩
def td196 : TD := ⟨(TypeDesc.func #[2, 2, 24] #[194, 4] false), 1, 8, .nilFunc⟩
def td197 : TD := ⟨(TypeDesc.func #[194] #[26] false), 1, 8, .nilFunc⟩
def td199 : TD := ⟨(TypeDesc.func #[24, 24] #[24, 24] false), 1, 8, .nilFunc⟩
def td200 : TD := ⟨(TypeDesc.func #[62] #[24, 24] false), 1, 8, .nilFunc⟩
def td201 : TD := ⟨(TypeDesc.func #[2, 2] #[62] false), 1, 8, .nilFunc⟩
def td202 : TD := ⟨(TypeDesc.func #[26] #[194] false), 1, 8, .nilFunc⟩
def td203 : TD := ⟨(TypeDesc.func #[3] #[71] false), 1, 8, .nilFunc⟩
def td204 : TD := ⟨(TypeDesc.func #[152, 2] #[4] false), 1, 8, .nilFunc⟩
def td205 : TD := ⟨(TypeDesc.func #[152, 2, 2, 24] #[194, 4] false), 1, 8, .nilFunc⟩
def td206 : TD := ⟨(TypeDesc.int IntKind.u32), 1, 4, .int .u32 0⟩
def td207 : TD := ⟨(TypeDesc.func #[46] #[206] false), 1, 8, .nilFunc⟩
def td209 : TD := ⟨(TypeDesc.func #[24] #[71, 71] false), 1, 8, .nilFunc⟩
def td210 : TD := ⟨(TypeDesc.func #[97, 211] #[4] false), 1, 8, .nilFunc⟩
def td211 : TD := ⟨(TypeDesc.func #[114] #[4] false), 1, 8, .nilFunc⟩
def td213 : TD := ⟨(TypeDesc.func #[97, 2] #[2, 2] false), 1, 8, .nilFunc⟩
def td214 : TD := ⟨(TypeDesc.func #[97] #[2, 2] false), 1, 8, .nilFunc⟩
def td215 : TD := ⟨(TypeDesc.func #[62] #[2] false), 1, 8, .nilFunc⟩
def td217 : TD := ⟨(TypeDesc.func #[9] #[117, 3, 4] false), 1, 8, .nilFunc⟩
def td218 : TD := ⟨(TypeDesc.func #[9, 2] #[37, 4] false), 1, 8, .nilFunc⟩
def td219 : TD := ⟨(TypeDesc.func #[2, 9] #[2, 4] false), 1, 8, .nilFunc⟩
def td220 : TD := ⟨(TypeDesc.func #[2, 3] #[9] false), 1, 8, .nilFunc⟩
def td221 : TD := ⟨(TypeDesc.func #[115, 115] #[4] false), 1, 8, .nilFunc⟩
def td222 : TD := ⟨(TypeDesc.func #[115, 3] #[3] false), 1, 8, .nilFunc⟩
def td223 : TD := ⟨(TypeDesc.func #[139] #[130] false), 1, 8, .nilFunc⟩
def td224 : TD := ⟨(TypeDesc.func #[152, 124, 2] #[62] false), 1, 8, .nilFunc⟩
def td225 : TD := ⟨(TypeDesc.func #[46] #[46, 4] false), 1, 8, .nilFunc⟩
def td226 : TD := ⟨(TypeDesc.func #[152, 124] #[4] false), 1, 8, .nilFunc⟩
def td227 : TD := ⟨(TypeDesc.func #[228, 46] #[46, 4] false), 1, 8, .nilFunc⟩
def td228 : TD := ⟨(TypeDesc.pointer 130), 1, 8, .pointer none⟩
def td229 : TD := ⟨(TypeDesc.func #[130] #[4] false), 1, 8, .nilFunc⟩
def td231 : TD := ⟨(TypeDesc.func #[62, 234] #[] false), 1, 8, .nilFunc⟩
def td232 : TD := ⟨(TypeDesc.func #[302] #[3] true), 1, 8, .nilFunc⟩
def td233 : TD := ⟨(TypeDesc.func #[46, 46] #[3] false), 1, 8, .nilFunc⟩
def td234 : TD := ⟨(TypeDesc.func #[2, 2] #[3] false), 1, 8, .nilFunc⟩
def td235 : TD := ⟨(TypeDesc.func #[228, 228, 46, 46, 2] #[46, 4] false), 1, 8, .nilFunc⟩
def td236 : TD := ⟨(TypeDesc.int IntKind.u64), 1, 8, .int .u64 0⟩
def td237 : TD := ⟨(TypeDesc.struct #[{ name := "code", type := 22, offset := 0, embedded := false, tag := "", pkgPath := "loop.example/g01212/spec", byteOffset := 0 }, { name := "at", type := 3, offset := 1, embedded := false, tag := "", pkgPath := "loop.example/g01212/spec", byteOffset := 24 }, { name := "seed", type := 236, offset := 2, embedded := false, tag := "", pkgPath := "loop.example/g01212/spec", byteOffset := 32 }]), 3, 40, .agg #[.slice none 0 0, .int .i64 0, .int .u64 0]⟩
def td238 : TD := ⟨(TypeDesc.struct #[{ name := "code", type := 22, offset := 0, embedded := false, tag := "", pkgPath := "loop.example/g01212/spec", byteOffset := 0 }, { name := "at", type := 3, offset := 1, embedded := false, tag := "", pkgPath := "loop.example/g01212/spec", byteOffset := 24 }, { name := "seed", type := 236, offset := 2, embedded := false, tag := "", pkgPath := "loop.example/g01212/spec", byteOffset := 32 }]), 3, 40, .agg #[.slice none 0 0, .int .i64 0, .int .u64 0]⟩
def td239 : TD := ⟨(TypeDesc.func #[139, 2] #[24] false), 1, 8, .nilFunc⟩
def td240 : TD := ⟨(TypeDesc.func #[104, 26] #[26] false), 1, 8, .nilFunc⟩
def td241 : TD := ⟨(TypeDesc.func #[3, 26] #[26] false), 1, 8, .nilFunc⟩
def td242 : TD := ⟨(TypeDesc.func #[24, 24] #[4] false), 1, 8, .nilFunc⟩
def td243 : TD := ⟨(TypeDesc.func #[31, 3] #[31] false), 1, 8, .nilFunc⟩
def td245 : TD := ⟨(TypeDesc.func #[] #[244] false), 1, 8, .nilFunc⟩
def td246 : TD := ⟨(TypeDesc.pointer 248), 1, 8, .pointer none⟩
def td247 : TD := ⟨(TypeDesc.struct #[{ name := "text", type := 9, offset := 0, embedded := false, tag := "", pkgPath := "loop.example/g01212/spec", byteOffset := 0 }, { name := "at", type := 3, offset := 1, embedded := false, tag := "", pkgPath := "loop.example/g01212/spec", byteOffset := 16 }, { name := "fine", type := 4, offset := 2, embedded := false, tag := "", pkgPath := "loop.example/g01212/spec", byteOffset := 24 }]), 3, 32, .agg #[.string ⟨#[]⟩, .int .i64 0, .bool false]⟩
def td248 : TD := ⟨(TypeDesc.struct #[{ name := "text", type := 9, offset := 0, embedded := false, tag := "", pkgPath := "loop.example/g01212/spec", byteOffset := 0 }, { name := "at", type := 3, offset := 1, embedded := false, tag := "", pkgPath := "loop.example/g01212/spec", byteOffset := 16 }, { name := "fine", type := 4, offset := 2, embedded := false, tag := "", pkgPath := "loop.example/g01212/spec", byteOffset := 24 }]), 3, 32, .agg #[.string ⟨#[]⟩, .int .i64 0, .bool false]⟩
def td249 : TD := ⟨(TypeDesc.func #[] #[26] false), 1, 8, .nilFunc⟩
def td250 : TD := ⟨(TypeDesc.func #[3] #[2] false), 1, 8, .nilFunc⟩
def td251 : TD := ⟨(TypeDesc.func #[] #[104] false), 1, 8, .nilFunc⟩
def td252 : TD := ⟨(TypeDesc.struct #[{ name := "A", type := 2, offset := 0, embedded := false, tag := "", pkgPath := "", byteOffset := 0 }, { name := "B", type := 2, offset := 1, embedded := false, tag := "", pkgPath := "", byteOffset := 8 }, { name := "Own", type := 24, offset := 2, embedded := false, tag := "", pkgPath := "", byteOffset := 16 }, { name := "Shared", type := 24, offset := 3, embedded := false, tag := "", pkgPath := "", byteOffset := 24 }, { name := "Most", type := 2, offset := 4, embedded := false, tag := "", pkgPath := "", byteOffset := 32 }]), 5, 40, .agg #[.int .i64 0, .int .i64 0, .complex .f32 0 0, .complex .f32 0 0, .int .i64 0]⟩
def td253 : TD := ⟨(TypeDesc.struct #[{ name := "A", type := 2, offset := 0, embedded := false, tag := "", pkgPath := "", byteOffset := 0 }, { name := "B", type := 2, offset := 1, embedded := false, tag := "", pkgPath := "", byteOffset := 8 }, { name := "Own", type := 24, offset := 2, embedded := false, tag := "", pkgPath := "", byteOffset := 16 }, { name := "Shared", type := 24, offset := 3, embedded := false, tag := "", pkgPath := "", byteOffset := 24 }, { name := "Most", type := 2, offset := 4, embedded := false, tag := "", pkgPath := "", byteOffset := 32 }]), 5, 40, .agg #[.int .i64 0, .int .i64 0, .complex .f32 0 0, .complex .f32 0 0, .int .i64 0]⟩
def td254 : TD := ⟨(TypeDesc.func #[] #[253] false), 1, 8, .nilFunc⟩
def td255 : TD := ⟨(TypeDesc.func #[256] #[4] false), 1, 8, .nilFunc⟩
def td256 : TD := ⟨(TypeDesc.pointer 51), 1, 8, .pointer none⟩
def td257 : TD := ⟨(TypeDesc.func #[256] #[9] false), 1, 8, .nilFunc⟩
def td258 : TD := ⟨(TypeDesc.struct #[{ name := "s", type := 9, offset := 0, embedded := false, tag := "", pkgPath := "loop.example/g01212/impl", byteOffset := 0 }, { name := "at", type := 3, offset := 1, embedded := false, tag := "", pkgPath := "loop.example/g01212/impl", byteOffset := 16 }, { name := "short", type := 4, offset := 2, embedded := false, tag := "", pkgPath := "loop.example/g01212/impl", byteOffset := 24 }]), 3, 32, .agg #[.string ⟨#[]⟩, .int .i64 0, .bool false]⟩
def td259 : TD := ⟨(TypeDesc.struct #[{ name := "s", type := 9, offset := 0, embedded := false, tag := "", pkgPath := "loop.example/g01212/impl", byteOffset := 0 }, { name := "at", type := 3, offset := 1, embedded := false, tag := "", pkgPath := "loop.example/g01212/impl", byteOffset := 16 }, { name := "short", type := 4, offset := 2, embedded := false, tag := "", pkgPath := "loop.example/g01212/impl", byteOffset := 24 }]), 3, 32, .agg #[.string ⟨#[]⟩, .int .i64 0, .bool false]⟩
def td260 : TD := ⟨(TypeDesc.func #[9, 9] #[4] false), 1, 8, .nilFunc⟩
def td261 : TD := ⟨(TypeDesc.func #[51] #[4] false), 1, 8, .nilFunc⟩
def td262 : TD := ⟨(TypeDesc.func #[51] #[9] false), 1, 8, .nilFunc⟩
def td263 : TD := ⟨(TypeDesc.func #[27, 27] #[4] false), 1, 8, .nilFunc⟩
def td264 : TD := ⟨(TypeDesc.func #[253, 253] #[4] false), 1, 8, .nilFunc⟩
def td265 : TD := ⟨(TypeDesc.func #[27, 3] #[3] false), 1, 8, .nilFunc⟩
def td266 : TD := ⟨(TypeDesc.complex FloatKind.f64), 1, 16, .complex .f64 0 0⟩
def td267 : TD := ⟨(TypeDesc.func #[] #[2] false), 1, 8, .nilFunc⟩
def td268 : TD := ⟨(TypeDesc.func #[62] #[] false), 1, 8, .nilFunc⟩
def td269 : TD := ⟨(TypeDesc.func #[71] #[46] false), 1, 8, .nilFunc⟩
def td270 : TD := ⟨(TypeDesc.func #[27] #[27] false), 1, 8, .nilFunc⟩
def td271 : TD := ⟨(TypeDesc.func #[169, 2] #[4] false), 1, 8, .nilFunc⟩
def td272 : TD := ⟨(TypeDesc.func #[59, 155] #[4] false), 1, 8, .nilFunc⟩
def td273 : TD := ⟨(TypeDesc.func #[72] #[241] false), 1, 8, .nilFunc⟩
def td274 : TD := ⟨(TypeDesc.pointer 2), 1, 8, .pointer none⟩
def td275 : TD := ⟨(TypeDesc.slice 274), 1, 24, .slice none 0 0⟩
def td276 : TD := ⟨(TypeDesc.pointer 174), 1, 8, .pointer none⟩
def td277 : TD := ⟨(TypeDesc.func #[62, 2] #[3] false), 1, 8, .nilFunc⟩
def td278 : TD := ⟨(TypeDesc.func #[26, 26] #[24] false), 1, 8, .nilFunc⟩
def td279 : TD := ⟨(TypeDesc.func #[] #[71] false), 1, 8, .nilFunc⟩
def td280 : TD := ⟨(TypeDesc.func #[206] #[46] false), 1, 8, .nilFunc⟩
def td281 : TD := ⟨(TypeDesc.func #[24, 24, 24, 2, 24] #[194, 4] false), 1, 8, .nilFunc⟩
def td282 : TD := ⟨(TypeDesc.func #[] #[24, 24] false), 1, 8, .nilFunc⟩
def td283 : TD := ⟨(TypeDesc.func #[24, 46] #[24] false), 1, 8, .nilFunc⟩
def td284 : TD := ⟨(TypeDesc.func #[236] #[71] false), 1, 8, .nilFunc⟩
def td285 : TD := ⟨(TypeDesc.func #[152, 2] #[24, 24] false), 1, 8, .nilFunc⟩
def td286 : TD := ⟨(TypeDesc.func #[24, 24, 24, 2, 24] #[194] false), 1, 8, .nilFunc⟩
def td287 : TD := ⟨(TypeDesc.func #[194] #[4] false), 1, 8, .nilFunc⟩
def td288 : TD := ⟨(TypeDesc.func #[] #[24] false), 1, 8, .nilFunc⟩
def td289 : TD := ⟨(TypeDesc.func #[97, 211] #[3] false), 1, 8, .nilFunc⟩
def td290 : TD := ⟨(TypeDesc.func #[97, 291] #[] false), 1, 8, .nilFunc⟩
def td291 : TD := ⟨(TypeDesc.func #[114, 114] #[3] false), 1, 8, .nilFunc⟩
def td292 : TD := ⟨(TypeDesc.func #[9, 153] #[9] false), 1, 8, .nilFunc⟩
def td294 : TD := ⟨(TypeDesc.func #[37] #[9, 4] false), 1, 8, .nilFunc⟩
def td295 : TD := ⟨(TypeDesc.int IntKind.u64), 1, 8, .int .u64 0⟩
def td296 : TD := ⟨(TypeDesc.func #[37, 37] #[4] false), 1, 8, .nilFunc⟩
def td297 : TD := ⟨(TypeDesc.func #[31, 3] #[3] false), 1, 8, .nilFunc⟩
def td298 : TD := ⟨(TypeDesc.func #[228] #[4] false), 1, 8, .nilFunc⟩
def td299 : TD := ⟨(TypeDesc.func #[152, 2] #[62] false), 1, 8, .nilFunc⟩
def td300 : TD := ⟨(TypeDesc.func #[62, 3, 3, 3, 234] #[] false), 1, 8, .nilFunc⟩
def td301 : TD := ⟨(TypeDesc.func #[295] #[3] false), 1, 8, .nilFunc⟩
def td302 : TD := ⟨(TypeDesc.slice 3), 1, 24, .slice none 0 0⟩
def td303 : TD := ⟨(TypeDesc.func #[228, 228, 46] #[46, 4] false), 1, 8, .nilFunc⟩
def td304 : TD := ⟨(TypeDesc.func #[139] #[46] false), 1, 8, .nilFunc⟩
def td305 : TD := ⟨(TypeDesc.func #[26, 26, 95] #[26] false), 1, 8, .nilFunc⟩
def td306 : TD := ⟨(TypeDesc.func #[24] #[24] false), 1, 8, .nilFunc⟩
def td307 : TD := ⟨(TypeDesc.func #[24, 24, 24] #[24] false), 1, 8, .nilFunc⟩
def td309 : TD := ⟨(TypeDesc.func #[295, 295] #[295, 295] false), 1, 8, .nilFunc⟩
def td310 : TD := ⟨(TypeDesc.func #[152, 311] #[4] false), 1, 8, .nilFunc⟩
def td311 : TD := ⟨(TypeDesc.pointer 253), 1, 8, .pointer none⟩
def td312 : TD := ⟨(TypeDesc.func #[26] #[9] false), 1, 8, .nilFunc⟩
def td313 : TD := ⟨(TypeDesc.func #[24] #[9] false), 1, 8, .nilFunc⟩
def td314 : TD := ⟨(TypeDesc.pointer 259), 1, 8, .pointer none⟩
def td315 : TD := ⟨(TypeDesc.func #[49, 316] #[4] false), 1, 8, .nilFunc⟩
def td316 : TD := ⟨(TypeDesc.func #[253] #[4] false), 1, 8, .nilFunc⟩
def td317 : TD := ⟨(TypeDesc.pointer 319), 1, 8, .pointer none⟩
def td318 : TD := ⟨(TypeDesc.struct #[{ name := "addr", type := 317, offset := 0, embedded := false, tag := "", pkgPath := "strings", byteOffset := 0 }, { name := "buf", type := 22, offset := 1, embedded := false, tag := "", pkgPath := "strings", byteOffset := 8 }]), 2, 32, .agg #[.pointer none, .slice none 0 0]⟩
def td319 : TD := ⟨(TypeDesc.struct #[{ name := "addr", type := 317, offset := 0, embedded := false, tag := "", pkgPath := "strings", byteOffset := 0 }, { name := "buf", type := 22, offset := 1, embedded := false, tag := "", pkgPath := "strings", byteOffset := 8 }]), 2, 32, .agg #[.pointer none, .slice none 0 0]⟩
def td320 : TD := ⟨(TypeDesc.slice 9), 1, 24, .slice none 0 0⟩
def td324 : TD := ⟨(TypeDesc.func #[9] #[3, 322] false), 1, 8, .nilFunc⟩
def td325 : TD := ⟨(TypeDesc.func #[320] #[] true), 1, 8, .nilFunc⟩
def td326 : TD := ⟨(TypeDesc.func #[] #[9] false), 1, 8, .nilFunc⟩
def td327 : TD := ⟨(TypeDesc.func #[266, 266] #[4] false), 1, 8, .nilFunc⟩
def td328 : TD := ⟨(TypeDesc.func #[104, 104] #[4] false), 1, 8, .nilFunc⟩
def td329 : TD := ⟨(TypeDesc.func #[266] #[24] false), 1, 8, .nilFunc⟩
def td330 : TD := ⟨(TypeDesc.func #[266, 266] #[266] false), 1, 8, .nilFunc⟩
def td331 : TD := ⟨(TypeDesc.func #[24] #[266] false), 1, 8, .nilFunc⟩
def td332 : TD := ⟨(TypeDesc.func #[2] #[46] false), 1, 8, .nilFunc⟩
def td333 : TD := ⟨(TypeDesc.func #[59, 155] #[3] false), 1, 8, .nilFunc⟩
def td335 : TD := ⟨(TypeDesc.func #[26, 59] #[26] false), 1, 8, .nilFunc⟩
def td336 : TD := ⟨(TypeDesc.func #[71] #[236] false), 1, 8, .nilFunc⟩
def td337 : TD := ⟨(TypeDesc.func #[24] #[4] false), 1, 8, .nilFunc⟩
def td338 : TD := ⟨(TypeDesc.func #[97, 3, 3, 3, 291] #[] false), 1, 8, .nilFunc⟩
def td339 : TD := ⟨(TypeDesc.func #[153] #[9] false), 1, 8, .nilFunc⟩
def td340 : TD := ⟨(TypeDesc.func #[2, 9] #[2] false), 1, 8, .nilFunc⟩
def td341 : TD := ⟨(TypeDesc.func #[62, 3, 3, 234] #[] false), 1, 8, .nilFunc⟩
def td342 : TD := ⟨(TypeDesc.int IntKind.i64), 1, 8, .int .i64 0⟩
def td344 : TD := ⟨(TypeDesc.func #[62, 3, 3, 234] #[3, 342] false), 1, 8, .nilFunc⟩
def td345 : TD := ⟨(TypeDesc.func #[62, 3, 3, 234] #[4] false), 1, 8, .nilFunc⟩
def td346 : TD := ⟨(TypeDesc.func #[62, 3, 3, 3, 234] #[3] false), 1, 8, .nilFunc⟩
def td348 : TD := ⟨(TypeDesc.func #[62, 3, 3, 3, 234] #[3, 4] false), 1, 8, .nilFunc⟩
def td349 : TD := ⟨(TypeDesc.func #[206] #[3] false), 1, 8, .nilFunc⟩
def td350 : TD := ⟨(TypeDesc.func #[236] #[3] false), 1, 8, .nilFunc⟩
def td351 : TD := ⟨(TypeDesc.func #[46] #[2] false), 1, 8, .nilFunc⟩
def td353 : TD := ⟨(TypeDesc.func #[206, 206] #[206, 206] false), 1, 8, .nilFunc⟩
def td355 : TD := ⟨(TypeDesc.func #[236, 236] #[236, 236] false), 1, 8, .nilFunc⟩
def td356 : TD := ⟨(TypeDesc.func #[49, 316] #[3] false), 1, 8, .nilFunc⟩
def td357 : TD := ⟨(TypeDesc.pointer 5), 1, 8, .pointer none⟩
def td358 : TD := ⟨(TypeDesc.func #[71, 71] #[4] false), 1, 8, .nilFunc⟩
def td359 : TD := ⟨(TypeDesc.func #[97, 3, 3, 291] #[] false), 1, 8, .nilFunc⟩
def td360 : TD := ⟨(TypeDesc.func #[97, 3, 3, 291] #[3, 342] false), 1, 8, .nilFunc⟩
def td361 : TD := ⟨(TypeDesc.func #[97, 3, 3, 291] #[4] false), 1, 8, .nilFunc⟩
def td362 : TD := ⟨(TypeDesc.func #[97, 3, 3, 3, 291] #[3] false), 1, 8, .nilFunc⟩
def td363 : TD := ⟨(TypeDesc.func #[97, 3, 3, 3, 291] #[3, 4] false), 1, 8, .nilFunc⟩
def td364 : TD := ⟨(TypeDesc.int IntKind.u64), 1, 8, .int .u64 0⟩
def td365 : TD := ⟨(TypeDesc.func #[3] #[295] false), 1, 8, .nilFunc⟩
def td366 : TD := ⟨(TypeDesc.func #[] #[236] false), 1, 8, .nilFunc⟩
def td367 : TD := ⟨(TypeDesc.func #[62, 3, 368, 234] #[3] false), 1, 8, .nilFunc⟩
def td368 : TD := ⟨(TypeDesc.pointer 3), 1, 8, .pointer none⟩
def td369 : TD := ⟨(TypeDesc.func #[62, 3, 3, 3, 368, 234] #[3] false), 1, 8, .nilFunc⟩
def td370 : TD := ⟨(TypeDesc.func #[2] #[46, 4] false), 1, 8, .nilFunc⟩
def td372 : TD := ⟨(TypeDesc.func #[371] #[371] false), 1, 8, .nilFunc⟩
def td373 : TD := ⟨(TypeDesc.func #[71, 71] #[71] false), 1, 8, .nilFunc⟩
def td374 : TD := ⟨(TypeDesc.func #[97, 3, 368, 291] #[3] false), 1, 8, .nilFunc⟩
def td375 : TD := ⟨(TypeDesc.func #[97, 3, 3, 3, 368, 291] #[3] false), 1, 8, .nilFunc⟩
def td376 : TD := ⟨(TypeDesc.pointer 364), 1, 8, .pointer none⟩
def td378 : TD := ⟨(TypeDesc.func #[62, 3, 3, 368, 234] #[3, 3] false), 1, 8, .nilFunc⟩
def td379 : TD := ⟨(TypeDesc.func #[97, 3, 3, 368, 291] #[3, 3] false), 1, 8, .nilFunc⟩
def td380 : TD := ⟨(TypeDesc.struct #[{ name := "_interface", type := 17, offset := 0, embedded := false, tag := "", pkgPath := "runtime", byteOffset := 0 }, { name := "concrete", type := 17, offset := 1, embedded := false, tag := "", pkgPath := "runtime", byteOffset := 8 }, { name := "asserted", type := 17, offset := 2, embedded := false, tag := "", pkgPath := "runtime", byteOffset := 16 }, { name := "missingMethod", type := 9, offset := 3, embedded := false, tag := "", pkgPath := "runtime", byteOffset := 24 }]), 4, 40, .agg #[.pointer none, .pointer none, .pointer none, .string ⟨#[]⟩]⟩
def td381 : TD := ⟨(TypeDesc.struct #[{ name := "_interface", type := 17, offset := 0, embedded := false, tag := "", pkgPath := "runtime", byteOffset := 0 }, { name := "concrete", type := 17, offset := 1, embedded := false, tag := "", pkgPath := "runtime", byteOffset := 8 }, { name := "asserted", type := 17, offset := 2, embedded := false, tag := "", pkgPath := "runtime", byteOffset := 16 }, { name := "missingMethod", type := 9, offset := 3, embedded := false, tag := "", pkgPath := "runtime", byteOffset := 24 }]), 4, 40, .agg #[.pointer none, .pointer none, .pointer none, .string ⟨#[]⟩]⟩
def td385 : TD := ⟨(TypeDesc.func #[] #[3] false), 1, 8, .nilFunc⟩
def td386 : TD := ⟨(TypeDesc.int IntKind.u8), 1, 1, .int .u8 0⟩
def td387 : TD := ⟨(TypeDesc.int IntKind.u8), 1, 1, .int .u8 0⟩
def td388 : TD := ⟨(TypeDesc.func #[371, 371] #[4] false), 1, 8, .nilFunc⟩
def td389 : TD := ⟨(TypeDesc.int IntKind.i32), 1, 4, .int .i32 0⟩
def td390 : TD := ⟨(TypeDesc.int IntKind.i32), 1, 4, .int .i32 0⟩
def td391 : TD := ⟨(TypeDesc.struct #[{ name := "Size_", type := 12, offset := 0, embedded := false, tag := "", pkgPath := "", byteOffset := 0 }, { name := "PtrBytes", type := 12, offset := 1, embedded := false, tag := "", pkgPath := "", byteOffset := 8 }, { name := "Hash", type := 206, offset := 2, embedded := false, tag := "", pkgPath := "", byteOffset := 16 }, { name := "TFlag", type := 386, offset := 3, embedded := false, tag := "", pkgPath := "", byteOffset := 20 }, { name := "Align_", type := 5, offset := 4, embedded := false, tag := "", pkgPath := "", byteOffset := 21 }, { name := "FieldAlign_", type := 5, offset := 5, embedded := false, tag := "", pkgPath := "", byteOffset := 22 }, { name := "Kind_", type := 387, offset := 6, embedded := false, tag := "", pkgPath := "", byteOffset := 23 }, { name := "Equal", type := 388, offset := 7, embedded := false, tag := "", pkgPath := "", byteOffset := 24 }, { name := "GCData", type := 357, offset := 8, embedded := false, tag := "", pkgPath := "", byteOffset := 32 }, { name := "Str", type := 389, offset := 9, embedded := false, tag := "", pkgPath := "", byteOffset := 40 }, { name := "PtrToThis", type := 390, offset := 10, embedded := false, tag := "", pkgPath := "", byteOffset := 44 }]), 11, 48, .agg #[.int .u64 0, .int .u64 0, .int .u32 0, .int .u8 0, .int .u8 0, .int .u8 0, .int .u8 0, .nilFunc, .pointer none, .int .i32 0, .int .i32 0]⟩
def td392 : TD := ⟨(TypeDesc.struct #[{ name := "Size_", type := 12, offset := 0, embedded := false, tag := "", pkgPath := "", byteOffset := 0 }, { name := "PtrBytes", type := 12, offset := 1, embedded := false, tag := "", pkgPath := "", byteOffset := 8 }, { name := "Hash", type := 206, offset := 2, embedded := false, tag := "", pkgPath := "", byteOffset := 16 }, { name := "TFlag", type := 386, offset := 3, embedded := false, tag := "", pkgPath := "", byteOffset := 20 }, { name := "Align_", type := 5, offset := 4, embedded := false, tag := "", pkgPath := "", byteOffset := 21 }, { name := "FieldAlign_", type := 5, offset := 5, embedded := false, tag := "", pkgPath := "", byteOffset := 22 }, { name := "Kind_", type := 387, offset := 6, embedded := false, tag := "", pkgPath := "", byteOffset := 23 }, { name := "Equal", type := 388, offset := 7, embedded := false, tag := "", pkgPath := "", byteOffset := 24 }, { name := "GCData", type := 357, offset := 8, embedded := false, tag := "", pkgPath := "", byteOffset := 32 }, { name := "Str", type := 389, offset := 9, embedded := false, tag := "", pkgPath := "", byteOffset := 40 }, { name := "PtrToThis", type := 390, offset := 10, embedded := false, tag := "", pkgPath := "", byteOffset := 44 }]), 11, 48, .agg #[.int .u64 0, .int .u64 0, .int .u32 0, .int .u8 0, .int .u8 0, .int .u8 0, .int .u8 0, .nilFunc, .pointer none, .int .i32 0, .int .i32 0]⟩
inductive TT where
  | leaf
  | node (k : Nat) (v : TD) (l r : TT)
def findT : TT → TypeId → Option TD
  | .leaf, _ => none
  | .node k v l r, t => bif Nat.beq t k then some v else bif Nat.ble t k then findT l t else findT r t
def allT : TT → Prop
  | .leaf => True
  | .node k v l r => TiOk k v ∧ allT l ∧ allT r
theorem findT_ok : ∀ {x : TT}, allT x → TabOk prog (findT x)
  | .leaf, _ => fun t td h => by cases h
  | .node k v l r, h => fun t td ht => by
    unfold findT at ht
    cases hk : Nat.beq t k with
    | true =>
      rw [hk] at ht
      simp only [cond_true, Option.some.injEq] at ht
      subst ht
      rw [Nat.eq_of_beq_eq_true hk]
      have h1 := h.1
      unfold TiOk at h1
      exact h1
    | false =>
      rw [hk] at ht
      cases hl : Nat.ble t k with
      | true => rw [hl] at ht; exact findT_ok h.2.1 t td ht
      | false => rw [hl] at ht; exact findT_ok h.2.2 t td ht
def tabT : TT := (.node 196 td196 (.node 100 td100 (.node 48 td48 (.node 23 td23 (.node 11 td11 (.node 6 td6 (.node 3 td3 (.node 2 td2 (.node 1 td1 .leaf .leaf) .leaf) (.node 5 td5 (.node 4 td4 .leaf .leaf) .leaf)) (.node 9 td9 (.node 8 td8 (.node 7 td7 .leaf .leaf) .leaf) (.node 10 td10 .leaf .leaf))) (.node 17 td17 (.node 14 td14 (.node 13 td13 (.node 12 td12 .leaf .leaf) .leaf) (.node 16 td16 (.node 15 td15 .leaf .leaf) .leaf)) (.node 21 td21 (.node 19 td19 (.node 18 td18 .leaf .leaf) .leaf) (.node 22 td22 .leaf .leaf)))) (.node 35 td35 (.node 29 td29 (.node 26 td26 (.node 25 td25 (.node 24 td24 .leaf .leaf) .leaf) (.node 28 td28 (.node 27 td27 .leaf .leaf) .leaf)) (.node 32 td32 (.node 31 td31 (.node 30 td30 .leaf .leaf) .leaf) (.node 33 td33 .leaf .leaf))) (.node 42 td42 (.node 39 td39 (.node 37 td37 (.node 36 td36 .leaf .leaf) .leaf) (.node 41 td41 (.node 40 td40 .leaf .leaf) .leaf)) (.node 45 td45 (.node 44 td44 (.node 43 td43 .leaf .leaf) .leaf) (.node 46 td46 .leaf .leaf))))) (.node 76 td76 (.node 62 td62 (.node 55 td55 (.node 51 td51 (.node 50 td50 (.node 49 td49 .leaf .leaf) .leaf) (.node 54 td54 (.node 53 td53 .leaf .leaf) .leaf)) (.node 59 td59 (.node 58 td58 (.node 56 td56 .leaf .leaf) .leaf) (.node 61 td61 .leaf .leaf))) (.node 70 td70 (.node 66 td66 (.node 65 td65 (.node 64 td64 .leaf .leaf) .leaf) (.node 69 td69 (.node 67 td67 .leaf .leaf) .leaf)) (.node 73 td73 (.node 72 td72 (.node 71 td71 .leaf .leaf) .leaf) (.node 75 td75 .leaf .leaf)))) (.node 89 td89 (.node 83 td83 (.node 79 td79 (.node 78 td78 (.node 77 td77 .leaf .leaf) .leaf) (.node 81 td81 (.node 80 td80 .leaf .leaf) .leaf)) (.node 86 td86 (.node 85 td85 (.node 84 td84 .leaf .leaf) .leaf) (.node 87 td87 .leaf .leaf))) (.node 95 td95 (.node 92 td92 (.node 91 td91 (.node 90 td90 .leaf .leaf) .leaf) (.node 94 td94 (.node 93 td93 .leaf .leaf) .leaf)) (.node 98 td98 (.node 97 td97 (.node 96 td96 .leaf .leaf) .leaf) (.node 99 td99 .leaf .leaf)))))) (.node 150 td150 (.node 127 td127 (.node 114 td114 (.node 108 td108 (.node 104 td104 (.node 103 td103 (.node 102 td102 .leaf .leaf) .leaf) (.node 106 td106 (.node 105 td105 .leaf .leaf) .leaf)) (.node 112 td112 (.node 110 td110 (.node 109 td109 .leaf .leaf) .leaf) (.node 113 td113 .leaf .leaf))) (.node 121 td121 (.node 117 td117 (.node 116 td116 (.node 115 td115 .leaf .leaf) .leaf) (.node 120 td120 (.node 119 td119 .leaf .leaf) .leaf)) (.node 125 td125 (.node 124 td124 (.node 123 td123 .leaf .leaf) .leaf) (.node 126 td126 .leaf .leaf)))) (.node 139 td139 (.node 133 td133 (.node 130 td130 (.node 129 td129 (.node 128 td128 .leaf .leaf) .leaf) (.node 132 td132 (.node 131 td131 .leaf .leaf) .leaf)) (.node 137 td137 (.node 135 td135 (.node 134 td134 .leaf .leaf) .leaf) (.node 138 td138 .leaf .leaf))) (.node 145 td145 (.node 142 td142 (.node 141 td141 (.node 140 td140 .leaf .leaf) .leaf) (.node 144 td144 (.node 143 td143 .leaf .leaf) .leaf)) (.node 148 td148 (.node 147 td147 (.node 146 td146 .leaf .leaf) .leaf) (.node 149 td149 .leaf .leaf))))) (.node 173 td173 (.node 162 td162 (.node 156 td156 (.node 153 td153 (.node 152 td152 (.node 151 td151 .leaf .leaf) .leaf) (.node 155 td155 (.node 154 td154 .leaf .leaf) .leaf)) (.node 160 td160 (.node 159 td159 (.node 158 td158 .leaf .leaf) .leaf) (.node 161 td161 .leaf .leaf))) (.node 168 td168 (.node 165 td165 (.node 164 td164 (.node 163 td163 .leaf .leaf) .leaf) (.node 167 td167 (.node 166 td166 .leaf .leaf) .leaf)) (.node 171 td171 (.node 170 td170 (.node 169 td169 .leaf .leaf) .leaf) (.node 172 td172 .leaf .leaf)))) (.node 184 td184 (.node 179 td179 (.node 176 td176 (.node 175 td175 (.node 174 td174 .leaf .leaf) .leaf) (.node 178 td178 (.node 177 td177 .leaf .leaf) .leaf)) (.node 182 td182 (.node 181 td181 (.node 180 td180 .leaf .leaf) .leaf) (.node 183 td183 .leaf .leaf))) (.node 190 td190 (.node 187 td187 (.node 186 td186 (.node 185 td185 .leaf .leaf) .leaf) (.node 189 td189 (.node 188 td188 .leaf .leaf) .leaf)) (.node 193 td193 (.node 192 td192 (.node 191 td191 .leaf .leaf) .leaf) (.node 194 td194 .leaf .leaf))))))) (.node 290 td290 (.node 246 td246 (.node 222 td222 (.node 209 td209 (.node 203 td203 (.node 200 td200 (.node 199 td199 (.node 197 td197 .leaf .leaf) .leaf) (.node 202 td202 (.node 201 td201 .leaf .leaf) .leaf)) (.node 206 td206 (.node 205 td205 (.node 204 td204 .leaf .leaf) .leaf) (.node 207 td207 .leaf .leaf))) (.node 217 td217 (.node 213 td213 (.node 211 td211 (.node 210 td210 .leaf .leaf) .leaf) (.node 215 td215 (.node 214 td214 .leaf .leaf) .leaf)) (.node 220 td220 (.node 219 td219 (.node 218 td218 .leaf .leaf) .leaf) (.node 221 td221 .leaf .leaf)))) (.node 234 td234 (.node 228 td228 (.node 225 td225 (.node 224 td224 (.node 223 td223 .leaf .leaf) .leaf) (.node 227 td227 (.node 226 td226 .leaf .leaf) .leaf)) (.node 232 td232 (.node 231 td231 (.node 229 td229 .leaf .leaf) .leaf) (.node 233 td233 .leaf .leaf))) (.node 240 td240 (.node 237 td237 (.node 236 td236 (.node 235 td235 .leaf .leaf) .leaf) (.node 239 td239 (.node 238 td238 .leaf .leaf) .leaf)) (.node 243 td243 (.node 242 td242 (.node 241 td241 .leaf .leaf) .leaf) (.node 245 td245 .leaf .leaf))))) (.node 268 td268 (.node 257 td257 (.node 252 td252 (.node 249 td249 (.node 248 td248 (.node 247 td247 .leaf .leaf) .leaf) (.node 251 td251 (.node 250 td250 .leaf .leaf) .leaf)) (.node 255 td255 (.node 254 td254 (.node 253 td253 .leaf .leaf) .leaf) (.node 256 td256 .leaf .leaf))) (.node 263 td263 (.node 260 td260 (.node 259 td259 (.node 258 td258 .leaf .leaf) .leaf) (.node 262 td262 (.node 261 td261 .leaf .leaf) .leaf)) (.node 266 td266 (.node 265 td265 (.node 264 td264 .leaf .leaf) .leaf) (.node 267 td267 .leaf .leaf)))) (.node 279 td279 (.node 274 td274 (.node 271 td271 (.node 270 td270 (.node 269 td269 .leaf .leaf) .leaf) (.node 273 td273 (.node 272 td272 .leaf .leaf) .leaf)) (.node 277 td277 (.node 276 td276 (.node 275 td275 .leaf .leaf) .leaf) (.node 278 td278 .leaf .leaf))) (.node 285 td285 (.node 282 td282 (.node 281 td281 (.node 280 td280 .leaf .leaf) .leaf) (.node 284 td284 (.node 283 td283 .leaf .leaf) .leaf)) (.node 288 td288 (.node 287 td287 (.node 286 td286 .leaf .leaf) .leaf) (.node 289 td289 .leaf .leaf)))))) (.node 340 td340 (.node 314 td314 (.node 302 td302 (.node 297 td297 (.node 294 td294 (.node 292 td292 (.node 291 td291 .leaf .leaf) .leaf) (.node 296 td296 (.node 295 td295 .leaf .leaf) .leaf)) (.node 300 td300 (.node 299 td299 (.node 298 td298 .leaf .leaf) .leaf) (.node 301 td301 .leaf .leaf))) (.node 309 td309 (.node 305 td305 (.node 304 td304 (.node 303 td303 .leaf .leaf) .leaf) (.node 307 td307 (.node 306 td306 .leaf .leaf) .leaf)) (.node 312 td312 (.node 311 td311 (.node 310 td310 .leaf .leaf) .leaf) (.node 313 td313 .leaf .leaf)))) (.node 328 td328 (.node 320 td320 (.node 317 td317 (.node 316 td316 (.node 315 td315 .leaf .leaf) .leaf) (.node 319 td319 (.node 318 td318 .leaf .leaf) .leaf)) (.node 326 td326 (.node 325 td325 (.node 324 td324 .leaf .leaf) .leaf) (.node 327 td327 .leaf .leaf))) (.node 335 td335 (.node 331 td331 (.node 330 td330 (.node 329 td329 .leaf .leaf) .leaf) (.node 333 td333 (.node 332 td332 .leaf .leaf) .leaf)) (.node 338 td338 (.node 337 td337 (.node 336 td336 .leaf .leaf) .leaf) (.node 339 td339 .leaf .leaf))))) (.node 366 td366 (.node 355 td355 (.node 348 td348 (.node 344 td344 (.node 342 td342 (.node 341 td341 .leaf .leaf) .leaf) (.node 346 td346 (.node 345 td345 .leaf .leaf) .leaf)) (.node 351 td351 (.node 350 td350 (.node 349 td349 .leaf .leaf) .leaf) (.node 353 td353 .leaf .leaf))) (.node 361 td361 (.node 358 td358 (.node 357 td357 (.node 356 td356 .leaf .leaf) .leaf) (.node 360 td360 (.node 359 td359 .leaf .leaf) .leaf)) (.node 364 td364 (.node 363 td363 (.node 362 td362 .leaf .leaf) .leaf) (.node 365 td365 .leaf .leaf)))) (.node 379 td379 (.node 373 td373 (.node 369 td369 (.node 368 td368 (.node 367 td367 .leaf .leaf) .leaf) (.node 372 td372 (.node 370 td370 .leaf .leaf) .leaf)) (.node 376 td376 (.node 375 td375 (.node 374 td374 .leaf .leaf) .leaf) (.node 378 td378 .leaf .leaf))) (.node 388 td388 (.node 385 td385 (.node 381 td381 (.node 380 td380 .leaf .leaf) .leaf) (.node 387 td387 (.node 386 td386 .leaf .leaf) .leaf)) (.node 391 td391 (.node 390 td390 (.node 389 td389 .leaf .leaf) .leaf) (.node 392 td392 .leaf .leaf))))))))
abbrev tab : Tab := findT tabT
theorem hτ : TabOk prog tab := findT_ok (show allT tabT from ⟨tiOk underlying196 ti196, ⟨tiOk underlying100 ti100, ⟨tiOk underlying48 ti48, ⟨tiOk underlying23 ti23, ⟨tiOk underlying11 ti11, ⟨tiOk underlying6 ti6, ⟨tiOk underlying3 ti3, ⟨tiOk underlying2 ti2, ⟨tiOk underlying1 ti1, trivial, trivial⟩, trivial⟩, ⟨tiOk underlying5 ti5, ⟨tiOk underlying4 ti4, trivial, trivial⟩, trivial⟩⟩, ⟨tiOk underlying9 ti9, ⟨tiOk underlying8 ti8, ⟨tiOk underlying7 ti7, trivial, trivial⟩, trivial⟩, ⟨tiOk underlying10 ti10, trivial, trivial⟩⟩⟩, ⟨tiOk underlying17 ti17, ⟨tiOk underlying14 ti14, ⟨tiOk underlying13 ti13, ⟨tiOk underlying12 ti12, trivial, trivial⟩, trivial⟩, ⟨tiOk underlying16 ti16, ⟨tiOk underlying15 ti15, trivial, trivial⟩, trivial⟩⟩, ⟨tiOk underlying21 ti21, ⟨tiOk underlying19 ti19, ⟨tiOk underlying18 ti18, trivial, trivial⟩, trivial⟩, ⟨tiOk underlying22 ti22, trivial, trivial⟩⟩⟩⟩, ⟨tiOk underlying35 ti35, ⟨tiOk underlying29 ti29, ⟨tiOk underlying26 ti26, ⟨tiOk underlying25 ti25, ⟨tiOk underlying24 ti24, trivial, trivial⟩, trivial⟩, ⟨tiOk underlying28 ti28, ⟨tiOk underlying27 ti27, trivial, trivial⟩, trivial⟩⟩, ⟨tiOk underlying32 ti32, ⟨tiOk underlying31 ti31, ⟨tiOk underlying30 ti30, trivial, trivial⟩, trivial⟩, ⟨tiOk underlying33 ti33, trivial, trivial⟩⟩⟩, ⟨tiOk underlying42 ti42, ⟨tiOk underlying39 ti39, ⟨tiOk underlying37 ti37, ⟨tiOk underlying36 ti36, trivial, trivial⟩, trivial⟩, ⟨tiOk underlying41 ti41, ⟨tiOk underlying40 ti40, trivial, trivial⟩, trivial⟩⟩, ⟨tiOk underlying45 ti45, ⟨tiOk underlying44 ti44, ⟨tiOk underlying43 ti43, trivial, trivial⟩, trivial⟩, ⟨tiOk underlying46 ti46, trivial, trivial⟩⟩⟩⟩⟩, ⟨tiOk underlying76 ti76, ⟨tiOk underlying62 ti62, ⟨tiOk underlying55 ti55, ⟨tiOk underlying51 ti51, ⟨tiOk underlying50 ti50, ⟨tiOk underlying49 ti49, trivial, trivial⟩, trivial⟩, ⟨tiOk underlying54 ti54, ⟨tiOk underlying53 ti53, trivial, trivial⟩, trivial⟩⟩, ⟨tiOk underlying59 ti59, ⟨tiOk underlying58 ti58, ⟨tiOk underlying56 ti56, trivial, trivial⟩, trivial⟩, ⟨tiOk underlying61 ti61, trivial, trivial⟩⟩⟩, ⟨tiOk underlying70 ti70, ⟨tiOk underlying66 ti66, ⟨tiOk underlying65 ti65, ⟨tiOk underlying64 ti64, trivial, trivial⟩, trivial⟩, ⟨tiOk underlying69 ti69, ⟨tiOk underlying67 ti67, trivial, trivial⟩, trivial⟩⟩, ⟨tiOk underlying73 ti73, ⟨tiOk underlying72 ti72, ⟨tiOk underlying71 ti71, trivial, trivial⟩, trivial⟩, ⟨tiOk underlying75 ti75, trivial, trivial⟩⟩⟩⟩, ⟨tiOk underlying89 ti89, ⟨tiOk underlying83 ti83, ⟨tiOk underlying79 ti79, ⟨tiOk underlying78 ti78, ⟨tiOk underlying77 ti77, trivial, trivial⟩, trivial⟩, ⟨tiOk underlying81 ti81, ⟨tiOk underlying80 ti80, trivial, trivial⟩, trivial⟩⟩, ⟨tiOk underlying86 ti86, ⟨tiOk underlying85 ti85, ⟨tiOk underlying84 ti84, trivial, trivial⟩, trivial⟩, ⟨tiOk underlying87 ti87, trivial, trivial⟩⟩⟩, ⟨tiOk underlying95 ti95, ⟨tiOk underlying92 ti92, ⟨tiOk underlying91 ti91, ⟨tiOk underlying90 ti90, trivial, trivial⟩, trivial⟩, ⟨tiOk underlying94 ti94, ⟨tiOk underlying93 ti93, trivial, trivial⟩, trivial⟩⟩, ⟨tiOk underlying98 ti98, ⟨tiOk underlying97 ti97, ⟨tiOk underlying96 ti96, trivial, trivial⟩, trivial⟩, ⟨tiOk underlying99 ti99, trivial, trivial⟩⟩⟩⟩⟩⟩, ⟨tiOk underlying150 ti150, ⟨tiOk underlying127 ti127, ⟨tiOk underlying114 ti114, ⟨tiOk underlying108 ti108, ⟨tiOk underlying104 ti104, ⟨tiOk underlying103 ti103, ⟨tiOk underlying102 ti102, trivial, trivial⟩, trivial⟩, ⟨tiOk underlying106 ti106, ⟨tiOk underlying105 ti105, trivial, trivial⟩, trivial⟩⟩, ⟨tiOk underlying112 ti112, ⟨tiOk underlying110 ti110, ⟨tiOk underlying109 ti109, trivial, trivial⟩, trivial⟩, ⟨tiOk underlying113 ti113, trivial, trivial⟩⟩⟩, ⟨tiOk underlying121 ti121, ⟨tiOk underlying117 ti117, ⟨tiOk underlying116 ti116, ⟨tiOk underlying115 ti115, trivial, trivial⟩, trivial⟩, ⟨tiOk underlying120 ti120, ⟨tiOk underlying119 ti119, trivial, trivial⟩, trivial⟩⟩, ⟨tiOk underlying125 ti125, ⟨tiOk underlying124 ti124, ⟨tiOk underlying123 ti123, trivial, trivial⟩, trivial⟩, ⟨tiOk underlying126 ti126, trivial, trivial⟩⟩⟩⟩, ⟨tiOk underlying139 ti139, ⟨tiOk underlying133 ti133, ⟨tiOk underlying130 ti130, ⟨tiOk underlying129 ti129, ⟨tiOk underlying128 ti128, trivial, trivial⟩, trivial⟩, ⟨tiOk underlying132 ti132, ⟨tiOk underlying131 ti131, trivial, trivial⟩, trivial⟩⟩, ⟨tiOk underlying137 ti137, ⟨tiOk underlying135 ti135, ⟨tiOk underlying134 ti134, trivial, trivial⟩, trivial⟩, ⟨tiOk underlying138 ti138, trivial, trivial⟩⟩⟩, ⟨tiOk underlying145 ti145, ⟨tiOk underlying142 ti142, ⟨tiOk underlying141 ti141, ⟨tiOk underlying140 ti140, trivial, trivial⟩, trivial⟩, ⟨tiOk underlying144 ti144, ⟨tiOk underlying143 ti143, trivial, trivial⟩, trivial⟩⟩, ⟨tiOk underlying148 ti148, ⟨tiOk underlying147 ti147, ⟨tiOk underlying146 ti146, trivial, trivial⟩, trivial⟩, ⟨tiOk underlying149 ti149, trivial, trivial⟩⟩⟩⟩⟩, ⟨tiOk underlying173 ti173, ⟨tiOk underlying162 ti162, ⟨tiOk underlying156 ti156, ⟨tiOk underlying153 ti153, ⟨tiOk underlying152 ti152, ⟨tiOk underlying151 ti151, trivial, trivial⟩, trivial⟩, ⟨tiOk underlying155 ti155, ⟨tiOk underlying154 ti154, trivial, trivial⟩, trivial⟩⟩, ⟨tiOk underlying160 ti160, ⟨tiOk underlying159 ti159, ⟨tiOk underlying158 ti158, trivial, trivial⟩, trivial⟩, ⟨tiOk underlying161 ti161, trivial, trivial⟩⟩⟩, ⟨tiOk underlying168 ti168, ⟨tiOk underlying165 ti165, ⟨tiOk underlying164 ti164, ⟨tiOk underlying163 ti163, trivial, trivial⟩, trivial⟩, ⟨tiOk underlying167 ti167, ⟨tiOk underlying166 ti166, trivial, trivial⟩, trivial⟩⟩, ⟨tiOk underlying171 ti171, ⟨tiOk underlying170 ti170, ⟨tiOk underlying169 ti169, trivial, trivial⟩, trivial⟩, ⟨tiOk underlying172 ti172, trivial, trivial⟩⟩⟩⟩, ⟨tiOk underlying184 ti184, ⟨tiOk underlying179 ti179, ⟨tiOk underlying176 ti176, ⟨tiOk underlying175 ti175, ⟨tiOk underlying174 ti174, trivial, trivial⟩, trivial⟩, ⟨tiOk underlying178 ti178, ⟨tiOk underlying177 ti177, trivial, trivial⟩, trivial⟩⟩, ⟨tiOk underlying182 ti182, ⟨tiOk underlying181 ti181, ⟨tiOk underlying180 ti180, trivial, trivial⟩, trivial⟩, ⟨tiOk underlying183 ti183, trivial, trivial⟩⟩⟩, ⟨tiOk underlying190 ti190, ⟨tiOk underlying187 ti187, ⟨tiOk underlying186 ti186, ⟨tiOk underlying185 ti185, trivial, trivial⟩, trivial⟩, ⟨tiOk underlying189 ti189, ⟨tiOk underlying188 ti188, trivial, trivial⟩, trivial⟩⟩, ⟨tiOk underlying193 ti193, ⟨tiOk underlying192 ti192, ⟨tiOk underlying191 ti191, trivial, trivial⟩, trivial⟩, ⟨tiOk underlying194 ti194, trivial, trivial⟩⟩⟩⟩⟩⟩⟩, ⟨tiOk underlying290 ti290, ⟨tiOk underlying246 ti246, ⟨tiOk underlying222 ti222, ⟨tiOk underlying209 ti209, ⟨tiOk underlying203 ti203, ⟨tiOk underlying200 ti200, ⟨tiOk underlying199 ti199, ⟨tiOk underlying197 ti197, trivial, trivial⟩, trivial⟩, ⟨tiOk underlying202 ti202, ⟨tiOk underlying201 ti201, trivial, trivial⟩, trivial⟩⟩, ⟨tiOk underlying206 ti206, ⟨tiOk underlying205 ti205, ⟨tiOk underlying204 ti204, trivial, trivial⟩, trivial⟩, ⟨tiOk underlying207 ti207, trivial, trivial⟩⟩⟩, ⟨tiOk underlying217 ti217, ⟨tiOk underlying213 ti213, ⟨tiOk underlying211 ti211, ⟨tiOk underlying210 ti210, trivial, trivial⟩, trivial⟩, ⟨tiOk underlying215 ti215, ⟨tiOk underlying214 ti214, trivial, trivial⟩, trivial⟩⟩, ⟨tiOk underlying220 ti220, ⟨tiOk underlying219 ti219, ⟨tiOk underlying218 ti218, trivial, trivial⟩, trivial⟩, ⟨tiOk underlying221 ti221, trivial, trivial⟩⟩⟩⟩, ⟨tiOk underlying234 ti234, ⟨tiOk underlying228 ti228, ⟨tiOk underlying225 ti225, ⟨tiOk underlying224 ti224, ⟨tiOk underlying223 ti223, trivial, trivial⟩, trivial⟩, ⟨tiOk underlying227 ti227, ⟨tiOk underlying226 ti226, trivial, trivial⟩, trivial⟩⟩, ⟨tiOk underlying232 ti232, ⟨tiOk underlying231 ti231, ⟨tiOk underlying229 ti229, trivial, trivial⟩, trivial⟩, ⟨tiOk underlying233 ti233, trivial, trivial⟩⟩⟩, ⟨tiOk underlying240 ti240, ⟨tiOk underlying237 ti237, ⟨tiOk underlying236 ti236, ⟨tiOk underlying235 ti235, trivial, trivial⟩, trivial⟩, ⟨tiOk underlying239 ti239, ⟨tiOk underlying238 ti238, trivial, trivial⟩, trivial⟩⟩, ⟨tiOk underlying243 ti243, ⟨tiOk underlying242 ti242, ⟨tiOk underlying241 ti241, trivial, trivial⟩, trivial⟩, ⟨tiOk underlying245 ti245, trivial, trivial⟩⟩⟩⟩⟩, ⟨tiOk underlying268 ti268, ⟨tiOk underlying257 ti257, ⟨tiOk underlying252 ti252, ⟨tiOk underlying249 ti249, ⟨tiOk underlying248 ti248, ⟨tiOk underlying247 ti247, trivial, trivial⟩, trivial⟩, ⟨tiOk underlying251 ti251, ⟨tiOk underlying250 ti250, trivial, trivial⟩, trivial⟩⟩, ⟨tiOk underlying255 ti255, ⟨tiOk underlying254 ti254, ⟨tiOk underlying253 ti253, trivial, trivial⟩, trivial⟩, ⟨tiOk underlying256 ti256, trivial, trivial⟩⟩⟩, ⟨tiOk underlying263 ti263, ⟨tiOk underlying260 ti260, ⟨tiOk underlying259 ti259, ⟨tiOk underlying258 ti258, trivial, trivial⟩, trivial⟩, ⟨tiOk underlying262 ti262, ⟨tiOk underlying261 ti261, trivial, trivial⟩, trivial⟩⟩, ⟨tiOk underlying266 ti266, ⟨tiOk underlying265 ti265, ⟨tiOk underlying264 ti264, trivial, trivial⟩, trivial⟩, ⟨tiOk underlying267 ti267, trivial, trivial⟩⟩⟩⟩, ⟨tiOk underlying279 ti279, ⟨tiOk underlying274 ti274, ⟨tiOk underlying271 ti271, ⟨tiOk underlying270 ti270, ⟨tiOk underlying269 ti269, trivial, trivial⟩, trivial⟩, ⟨tiOk underlying273 ti273, ⟨tiOk underlying272 ti272, trivial, trivial⟩, trivial⟩⟩, ⟨tiOk underlying277 ti277, ⟨tiOk underlying276 ti276, ⟨tiOk underlying275 ti275, trivial, trivial⟩, trivial⟩, ⟨tiOk underlying278 ti278, trivial, trivial⟩⟩⟩, ⟨tiOk underlying285 ti285, ⟨tiOk underlying282 ti282, ⟨tiOk underlying281 ti281, ⟨tiOk underlying280 ti280, trivial, trivial⟩, trivial⟩, ⟨tiOk underlying284 ti284, ⟨tiOk underlying283 ti283, trivial, trivial⟩, trivial⟩⟩, ⟨tiOk underlying288 ti288, ⟨tiOk underlying287 ti287, ⟨tiOk underlying286 ti286, trivial, trivial⟩, trivial⟩, ⟨tiOk underlying289 ti289, trivial, trivial⟩⟩⟩⟩⟩⟩, ⟨tiOk underlying340 ti340, ⟨tiOk underlying314 ti314, ⟨tiOk underlying302 ti302, ⟨tiOk underlying297 ti297, ⟨tiOk underlying294 ti294, ⟨tiOk underlying292 ti292, ⟨tiOk underlying291 ti291, trivial, trivial⟩, trivial⟩, ⟨tiOk underlying296 ti296, ⟨tiOk underlying295 ti295, trivial, trivial⟩, trivial⟩⟩, ⟨tiOk underlying300 ti300, ⟨tiOk underlying299 ti299, ⟨tiOk underlying298 ti298, trivial, trivial⟩, trivial⟩, ⟨tiOk underlying301 ti301, trivial, trivial⟩⟩⟩, ⟨tiOk underlying309 ti309, ⟨tiOk underlying305 ti305, ⟨tiOk underlying304 ti304, ⟨tiOk underlying303 ti303, trivial, trivial⟩, trivial⟩, ⟨tiOk underlying307 ti307, ⟨tiOk underlying306 ti306, trivial, trivial⟩, trivial⟩⟩, ⟨tiOk underlying312 ti312, ⟨tiOk underlying311 ti311, ⟨tiOk underlying310 ti310, trivial, trivial⟩, trivial⟩, ⟨tiOk underlying313 ti313, trivial, trivial⟩⟩⟩⟩, ⟨tiOk underlying328 ti328, ⟨tiOk underlying320 ti320, ⟨tiOk underlying317 ti317, ⟨tiOk underlying316 ti316, ⟨tiOk underlying315 ti315, trivial, trivial⟩, trivial⟩, ⟨tiOk underlying319 ti319, ⟨tiOk underlying318 ti318, trivial, trivial⟩, trivial⟩⟩, ⟨tiOk underlying326 ti326, ⟨tiOk underlying325 ti325, ⟨tiOk underlying324 ti324, trivial, trivial⟩, trivial⟩, ⟨tiOk underlying327 ti327, trivial, trivial⟩⟩⟩, ⟨tiOk underlying335 ti335, ⟨tiOk underlying331 ti331, ⟨tiOk underlying330 ti330, ⟨tiOk underlying329 ti329, trivial, trivial⟩, trivial⟩, ⟨tiOk underlying333 ti333, ⟨tiOk underlying332 ti332, trivial, trivial⟩, trivial⟩⟩, ⟨tiOk underlying338 ti338, ⟨tiOk underlying337 ti337, ⟨tiOk underlying336 ti336, trivial, trivial⟩, trivial⟩, ⟨tiOk underlying339 ti339, trivial, trivial⟩⟩⟩⟩⟩, ⟨tiOk underlying366 ti366, ⟨tiOk underlying355 ti355, ⟨tiOk underlying348 ti348, ⟨tiOk underlying344 ti344, ⟨tiOk underlying342 ti342, ⟨tiOk underlying341 ti341, trivial, trivial⟩, trivial⟩, ⟨tiOk underlying346 ti346, ⟨tiOk underlying345 ti345, trivial, trivial⟩, trivial⟩⟩, ⟨tiOk underlying351 ti351, ⟨tiOk underlying350 ti350, ⟨tiOk underlying349 ti349, trivial, trivial⟩, trivial⟩, ⟨tiOk underlying353 ti353, trivial, trivial⟩⟩⟩, ⟨tiOk underlying361 ti361, ⟨tiOk underlying358 ti358, ⟨tiOk underlying357 ti357, ⟨tiOk underlying356 ti356, trivial, trivial⟩, trivial⟩, ⟨tiOk underlying360 ti360, ⟨tiOk underlying359 ti359, trivial, trivial⟩, trivial⟩⟩, ⟨tiOk underlying364 ti364, ⟨tiOk underlying363 ti363, ⟨tiOk underlying362 ti362, trivial, trivial⟩, trivial⟩, ⟨tiOk underlying365 ti365, trivial, trivial⟩⟩⟩⟩, ⟨tiOk underlying379 ti379, ⟨tiOk underlying373 ti373, ⟨tiOk underlying369 ti369, ⟨tiOk underlying368 ti368, ⟨tiOk underlying367 ti367, trivial, trivial⟩, trivial⟩, ⟨tiOk underlying372 ti372, ⟨tiOk underlying370 ti370, trivial, trivial⟩, trivial⟩⟩, ⟨tiOk underlying376 ti376, ⟨tiOk underlying375 ti375, ⟨tiOk underlying374 ti374, trivial, trivial⟩, trivial⟩, ⟨tiOk underlying378 ti378, trivial, trivial⟩⟩⟩, ⟨tiOk underlying388 ti388, ⟨tiOk underlying385 ti385, ⟨tiOk underlying381 ti381, ⟨tiOk underlying380 ti380, trivial, trivial⟩, trivial⟩, ⟨tiOk underlying387 ti387, ⟨tiOk underlying386 ti386, trivial, trivial⟩, trivial⟩⟩, ⟨tiOk underlying391 ti391, ⟨tiOk underlying390 ti390, ⟨tiOk underlying389 ti389, trivial, trivial⟩, trivial⟩, ⟨tiOk underlying392 ti392, trivial, trivial⟩⟩⟩⟩⟩⟩⟩⟩)
theorem mixed : prog.follows .mixedOrders = true := by kernel_rfl
end Go.Proofs.Ytkagbffdmppbhab.AWN
