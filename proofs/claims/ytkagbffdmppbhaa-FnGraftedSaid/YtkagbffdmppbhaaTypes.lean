/- The types of the program, as the calculus reads them. -/
import Derived.Test.YtkagbffdmppbhaaProg
import Derived.KernelRfl
import Derived.Test.YtkagbffdmppbhaaCalcB
import Derived.Test.YtkagbffdmppbhaaCalcC
set_option linter.unusedVariables false
set_option linter.unusedSimpArgs false
namespace Go.Proofs.Ytkagbffdmppbhaa.AWN
open Go Go.Proofs.Try
def TiOk (t : TypeId) (td : TD) : Prop := prog.underlying t = some td.desc ∧ ∃ i, prog.info? t = some i ∧ i.size = td.size ∧ i.bytes = td.bytes ∧ i.zero = some td.zero
theorem tiOk {t : TypeId} {td : TD} (h : prog.underlying t = some td.desc) (h' : (prog.info? t).map (fun i => (i.size, i.bytes, i.zero)) = some (td.size, td.bytes, some td.zero)) : TiOk t td := by
  refine ⟨h, ?_⟩
  cases hi : prog.info? t with
  | none => rw [hi] at h'; cases h'
  | some i =>
    rw [hi] at h'
    simp only [Option.map_some, Option.some.injEq, Prod.mk.injEq] at h'
    exact ⟨i, rfl, h'.1, h'.2.1, h'.2.2⟩

theorem ti1 : (prog.info? 1).map (fun i => (i.size, i.bytes, i.zero)) = some (1, 8, some (.nilFunc)) := by kernel_rfl
theorem ti2 : (prog.info? 2).map (fun i => (i.size, i.bytes, i.zero)) = some (1, 8, some (.int .i64 0)) := by kernel_rfl
theorem ti3 : (prog.info? 3).map (fun i => (i.size, i.bytes, i.zero)) = some (1, 8, some (.int .i64 0)) := by kernel_rfl
theorem ti4 : (prog.info? 4).map (fun i => (i.size, i.bytes, i.zero)) = some (1, 1, some (.bool false)) := by kernel_rfl
theorem ti5 : (prog.info? 5).map (fun i => (i.size, i.bytes, i.zero)) = some (1, 1, some (.int .u8 0)) := by kernel_rfl
theorem ti6 : (prog.info? 6).map (fun i => (i.size, i.bytes, i.zero)) = some (1, 1, some (.int .u8 0)) := by kernel_rfl
theorem ti7 : (prog.info? 7).map (fun i => (i.size, i.bytes, i.zero)) = some (4, 24, some (.agg #[.int .i64 0, .int .i64 0, .bool false, .int .u8 0])) := by kernel_rfl
theorem ti8 : (prog.info? 8).map (fun i => (i.size, i.bytes, i.zero)) = some (4, 24, some (.agg #[.int .i64 0, .int .i64 0, .bool false, .int .u8 0])) := by kernel_rfl
theorem ti9 : (prog.info? 9).map (fun i => (i.size, i.bytes, i.zero)) = some (1, 16, some (.string ⟨#[]⟩)) := by kernel_rfl
theorem ti10 : (prog.info? 10).map (fun i => (i.size, i.bytes, i.zero)) = some (1, 16, some (.string ⟨#[]⟩)) := by kernel_rfl
theorem ti11 : (prog.info? 11).map (fun i => (i.size, i.bytes, i.zero)) = some (1, 16, some (.string ⟨#[]⟩)) := by kernel_rfl
theorem ti12 : (prog.info? 12).map (fun i => (i.size, i.bytes, i.zero)) = some (1, 8, some (.int .u64 0)) := by kernel_rfl
theorem ti13 : (prog.info? 13).map (fun i => (i.size, i.bytes, i.zero)) = some (2, 24, some (.agg #[.string ⟨#[]⟩, .int .u64 0])) := by kernel_rfl
theorem ti14 : (prog.info? 14).map (fun i => (i.size, i.bytes, i.zero)) = some (2, 24, some (.agg #[.string ⟨#[]⟩, .int .u64 0])) := by kernel_rfl
theorem ti15 : (prog.info? 15).map (fun i => (i.size, i.bytes, i.zero)) = some (1, 8, some (.pointer none)) := by kernel_rfl
theorem ti16 : (prog.info? 16).map (fun i => (i.size, i.bytes, i.zero)) = some (1, 8, some (.pointer none)) := by kernel_rfl
theorem ti17 : (prog.info? 17).map (fun i => (i.size, i.bytes, i.zero)) = some (1, 8, some (.pointer none)) := by kernel_rfl
theorem ti18 : (prog.info? 18).map (fun i => (i.size, i.bytes, i.zero)) = some (1, 8, some (.agg #[.pointer none])) := by kernel_rfl
theorem ti19 : (prog.info? 19).map (fun i => (i.size, i.bytes, i.zero)) = some (1, 8, some (.agg #[.pointer none])) := by kernel_rfl
theorem ti21 : (prog.info? 21).map (fun i => (i.size, i.bytes, i.zero)) = some (1, 4, some (.int .i32 0)) := by kernel_rfl
theorem ti22 : (prog.info? 22).map (fun i => (i.size, i.bytes, i.zero)) = some (1, 24, some (.slice none 0 0)) := by kernel_rfl
theorem ti23 : (prog.info? 23).map (fun i => (i.size, i.bytes, i.zero)) = some (1, 8, some (.nilFunc)) := by kernel_rfl
theorem ti24 : (prog.info? 24).map (fun i => (i.size, i.bytes, i.zero)) = some (1, 8, some (.complex .f32 0 0)) := by kernel_rfl
theorem ti25 : (prog.info? 25).map (fun i => (i.size, i.bytes, i.zero)) = some (3, 24, some (.agg #[.complex .f32 0 0, .complex .f32 0 0, .complex .f32 0 0])) := by kernel_rfl
theorem ti26 : (prog.info? 26).map (fun i => (i.size, i.bytes, i.zero)) = some (3, 24, some (.agg #[.complex .f32 0 0, .complex .f32 0 0, .complex .f32 0 0])) := by kernel_rfl
theorem ti27 : (prog.info? 27).map (fun i => (i.size, i.bytes, i.zero)) = some (1, 24, some (.slice none 0 0)) := by kernel_rfl
theorem ti28 : (prog.info? 28).map (fun i => (i.size, i.bytes, i.zero)) = some (4, 48, some (.agg #[.complex .f32 0 0, .complex .f32 0 0, .complex .f32 0 0, .slice none 0 0])) := by kernel_rfl
theorem ti29 : (prog.info? 29).map (fun i => (i.size, i.bytes, i.zero)) = some (4, 48, some (.agg #[.complex .f32 0 0, .complex .f32 0 0, .complex .f32 0 0, .slice none 0 0])) := by kernel_rfl
theorem ti30 : (prog.info? 30).map (fun i => (i.size, i.bytes, i.zero)) = some (1, 8, some (.nilFunc)) := by kernel_rfl
theorem ti31 : (prog.info? 31).map (fun i => (i.size, i.bytes, i.zero)) = some (1, 8, some (.nilFunc)) := by kernel_rfl
theorem ti32 : (prog.info? 32).map (fun i => (i.size, i.bytes, i.zero)) = some (1, 24, some (.slice none 0 0)) := by kernel_rfl
theorem ti34 : (prog.info? 34).map (fun i => (i.size, i.bytes, i.zero)) = some (1, 8, some (.nilFunc)) := by kernel_rfl
theorem ti36 : (prog.info? 36).map (fun i => (i.size, i.bytes, i.zero)) = some (1, 8, some (.nilFunc)) := by kernel_rfl
theorem ti37 : (prog.info? 37).map (fun i => (i.size, i.bytes, i.zero)) = some (1, 8, some (.nilFunc)) := by kernel_rfl
theorem ti38 : (prog.info? 38).map (fun i => (i.size, i.bytes, i.zero)) = some (1, 8, some (.nilFunc)) := by kernel_rfl
theorem ti39 : (prog.info? 39).map (fun i => (i.size, i.bytes, i.zero)) = some (8, 64, some (.agg #[.int .i64 0, .complex .f32 0 0, .complex .f32 0 0, .int .i64 0, .complex .f32 0 0, .complex .f32 0 0, .complex .f32 0 0, .int .i64 0])) := by kernel_rfl
theorem ti40 : (prog.info? 40).map (fun i => (i.size, i.bytes, i.zero)) = some (8, 64, some (.agg #[.int .i64 0, .complex .f32 0 0, .complex .f32 0 0, .int .i64 0, .complex .f32 0 0, .complex .f32 0 0, .complex .f32 0 0, .int .i64 0])) := by kernel_rfl
theorem ti41 : (prog.info? 41).map (fun i => (i.size, i.bytes, i.zero)) = some (1, 8, some (.nilFunc)) := by kernel_rfl
theorem ti43 : (prog.info? 43).map (fun i => (i.size, i.bytes, i.zero)) = some (1, 8, some (.nilFunc)) := by kernel_rfl
theorem ti44 : (prog.info? 44).map (fun i => (i.size, i.bytes, i.zero)) = some (1, 8, some (.nilFunc)) := by kernel_rfl
theorem ti45 : (prog.info? 45).map (fun i => (i.size, i.bytes, i.zero)) = some (1, 8, some (.nilFunc)) := by kernel_rfl
theorem ti47 : (prog.info? 47).map (fun i => (i.size, i.bytes, i.zero)) = some (1, 8, some (.nilFunc)) := by kernel_rfl
theorem ti48 : (prog.info? 48).map (fun i => (i.size, i.bytes, i.zero)) = some (1, 8, some (.nilFunc)) := by kernel_rfl
theorem ti49 : (prog.info? 49).map (fun i => (i.size, i.bytes, i.zero)) = some (1, 24, some (.slice none 0 0)) := by kernel_rfl
theorem ti50 : (prog.info? 50).map (fun i => (i.size, i.bytes, i.zero)) = some (1, 8, some (.nilFunc)) := by kernel_rfl
theorem ti51 : (prog.info? 51).map (fun i => (i.size, i.bytes, i.zero)) = some (1, 24, some (.slice none 0 0)) := by kernel_rfl
theorem ti52 : (prog.info? 52).map (fun i => (i.size, i.bytes, i.zero)) = some (1, 8, some (.nilFunc)) := by kernel_rfl
theorem ti53 : (prog.info? 53).map (fun i => (i.size, i.bytes, i.zero)) = some (1, 8, some (.nilFunc)) := by kernel_rfl
theorem ti54 : (prog.info? 54).map (fun i => (i.size, i.bytes, i.zero)) = some (4, 64, some (.agg #[.slice none 0 0, .slice none 0 0, .int .i64 0, .bool false])) := by kernel_rfl
theorem ti55 : (prog.info? 55).map (fun i => (i.size, i.bytes, i.zero)) = some (4, 64, some (.agg #[.slice none 0 0, .slice none 0 0, .int .i64 0, .bool false])) := by kernel_rfl
theorem ti57 : (prog.info? 57).map (fun i => (i.size, i.bytes, i.zero)) = some (1, 8, some (.nilFunc)) := by kernel_rfl
theorem ti58 : (prog.info? 58).map (fun i => (i.size, i.bytes, i.zero)) = some (1, 8, some (.nilFunc)) := by kernel_rfl
theorem ti59 : (prog.info? 59).map (fun i => (i.size, i.bytes, i.zero)) = some (1, 8, some (.nilFunc)) := by kernel_rfl
theorem ti60 : (prog.info? 60).map (fun i => (i.size, i.bytes, i.zero)) = some (1, 8, some (.nilFunc)) := by kernel_rfl
theorem ti61 : (prog.info? 61).map (fun i => (i.size, i.bytes, i.zero)) = some (1, 8, some (.nilFunc)) := by kernel_rfl
theorem ti62 : (prog.info? 62).map (fun i => (i.size, i.bytes, i.zero)) = some (1, 8, some (.nilFunc)) := by kernel_rfl
theorem ti63 : (prog.info? 63).map (fun i => (i.size, i.bytes, i.zero)) = some (1, 8, some (.nilFunc)) := by kernel_rfl
theorem ti64 : (prog.info? 64).map (fun i => (i.size, i.bytes, i.zero)) = some (1, 4, some (.float .f32 0)) := by kernel_rfl
theorem ti65 : (prog.info? 65).map (fun i => (i.size, i.bytes, i.zero)) = some (1, 24, some (.slice none 0 0)) := by kernel_rfl
theorem ti66 : (prog.info? 66).map (fun i => (i.size, i.bytes, i.zero)) = some (1, 8, some (.nilFunc)) := by kernel_rfl
theorem ti67 : (prog.info? 67).map (fun i => (i.size, i.bytes, i.zero)) = some (1, 8, some (.nilFunc)) := by kernel_rfl
theorem ti69 : (prog.info? 69).map (fun i => (i.size, i.bytes, i.zero)) = some (1, 8, some (.nilFunc)) := by kernel_rfl
theorem ti70 : (prog.info? 70).map (fun i => (i.size, i.bytes, i.zero)) = some (1, 8, some (.nilFunc)) := by kernel_rfl
theorem ti72 : (prog.info? 72).map (fun i => (i.size, i.bytes, i.zero)) = some (1, 8, some (.nilFunc)) := by kernel_rfl
theorem ti73 : (prog.info? 73).map (fun i => (i.size, i.bytes, i.zero)) = some (1, 24, some (.slice none 0 0)) := by kernel_rfl
theorem ti74 : (prog.info? 74).map (fun i => (i.size, i.bytes, i.zero)) = some (6, 96, some (.agg #[.complex .f32 0 0, .complex .f32 0 0, .complex .f32 0 0, .slice none 0 0, .slice none 0 0, .slice none 0 0])) := by kernel_rfl
theorem ti75 : (prog.info? 75).map (fun i => (i.size, i.bytes, i.zero)) = some (6, 96, some (.agg #[.complex .f32 0 0, .complex .f32 0 0, .complex .f32 0 0, .slice none 0 0, .slice none 0 0, .slice none 0 0])) := by kernel_rfl
theorem ti76 : (prog.info? 76).map (fun i => (i.size, i.bytes, i.zero)) = some (1, 8, some (.nilFunc)) := by kernel_rfl
theorem ti77 : (prog.info? 77).map (fun i => (i.size, i.bytes, i.zero)) = some (1, 8, some (.nilFunc)) := by kernel_rfl
theorem ti78 : (prog.info? 78).map (fun i => (i.size, i.bytes, i.zero)) = some (1, 8, some (.nilFunc)) := by kernel_rfl
theorem ti79 : (prog.info? 79).map (fun i => (i.size, i.bytes, i.zero)) = some (1, 8, some (.nilFunc)) := by kernel_rfl
theorem ti80 : (prog.info? 80).map (fun i => (i.size, i.bytes, i.zero)) = some (1, 8, some (.nilFunc)) := by kernel_rfl
theorem ti82 : (prog.info? 82).map (fun i => (i.size, i.bytes, i.zero)) = some (1, 8, some (.nilFunc)) := by kernel_rfl
theorem ti83 : (prog.info? 83).map (fun i => (i.size, i.bytes, i.zero)) = some (1, 8, some (.nilFunc)) := by kernel_rfl
theorem ti84 : (prog.info? 84).map (fun i => (i.size, i.bytes, i.zero)) = some (3, 24, some (.agg #[.complex .f32 0 0, .complex .f32 0 0, .complex .f32 0 0])) := by kernel_rfl
theorem ti85 : (prog.info? 85).map (fun i => (i.size, i.bytes, i.zero)) = some (3, 24, some (.agg #[.complex .f32 0 0, .complex .f32 0 0, .complex .f32 0 0])) := by kernel_rfl
theorem ti86 : (prog.info? 86).map (fun i => (i.size, i.bytes, i.zero)) = some (1, 8, some (.nilFunc)) := by kernel_rfl
theorem ti88 : (prog.info? 88).map (fun i => (i.size, i.bytes, i.zero)) = some (1, 8, some (.nilFunc)) := by kernel_rfl
theorem ti90 : (prog.info? 90).map (fun i => (i.size, i.bytes, i.zero)) = some (1, 8, some (.nilFunc)) := by kernel_rfl
theorem ti91 : (prog.info? 91).map (fun i => (i.size, i.bytes, i.zero)) = some (1, 8, some (.nilFunc)) := by kernel_rfl
theorem ti92 : (prog.info? 92).map (fun i => (i.size, i.bytes, i.zero)) = some (1, 8, some (.float .f64 0)) := by kernel_rfl
theorem ti93 : (prog.info? 93).map (fun i => (i.size, i.bytes, i.zero)) = some (1, 8, some (.nilFunc)) := by kernel_rfl
theorem ti94 : (prog.info? 94).map (fun i => (i.size, i.bytes, i.zero)) = some (1, 8, some (.nilFunc)) := by kernel_rfl
theorem ti95 : (prog.info? 95).map (fun i => (i.size, i.bytes, i.zero)) = some (1, 8, some (.nilFunc)) := by kernel_rfl
theorem ti96 : (prog.info? 96).map (fun i => (i.size, i.bytes, i.zero)) = some (1, 8, some (.nilFunc)) := by kernel_rfl
theorem ti97 : (prog.info? 97).map (fun i => (i.size, i.bytes, i.zero)) = some (1, 8, some (.nilFunc)) := by kernel_rfl
theorem ti98 : (prog.info? 98).map (fun i => (i.size, i.bytes, i.zero)) = some (1, 8, some (.nilFunc)) := by kernel_rfl
theorem ti99 : (prog.info? 99).map (fun i => (i.size, i.bytes, i.zero)) = some (1, 8, some (.nilFunc)) := by kernel_rfl
theorem ti101 : (prog.info? 101).map (fun i => (i.size, i.bytes, i.zero)) = some (1, 8, some (.nilFunc)) := by kernel_rfl
theorem ti103 : (prog.info? 103).map (fun i => (i.size, i.bytes, i.zero)) = some (1, 8, some (.nilFunc)) := by kernel_rfl
theorem ti104 : (prog.info? 104).map (fun i => (i.size, i.bytes, i.zero)) = some (1, 24, some (.slice none 0 0)) := by kernel_rfl
theorem ti106 : (prog.info? 106).map (fun i => (i.size, i.bytes, i.zero)) = some (1, 8, some (.nilFunc)) := by kernel_rfl
theorem ti107 : (prog.info? 107).map (fun i => (i.size, i.bytes, i.zero)) = some (1, 8, some (.nilFunc)) := by kernel_rfl
theorem ti108 : (prog.info? 108).map (fun i => (i.size, i.bytes, i.zero)) = some (1, 8, some (.nilFunc)) := by kernel_rfl
theorem ti110 : (prog.info? 110).map (fun i => (i.size, i.bytes, i.zero)) = some (1, 8, some (.nilFunc)) := by kernel_rfl
theorem ti111 : (prog.info? 111).map (fun i => (i.size, i.bytes, i.zero)) = some (5, 40, some (.agg #[.int .i64 0, .int .i64 0, .int .i64 0, .int .i64 0, .float .f32 0])) := by kernel_rfl
theorem ti112 : (prog.info? 112).map (fun i => (i.size, i.bytes, i.zero)) = some (5, 40, some (.agg #[.int .i64 0, .int .i64 0, .int .i64 0, .int .i64 0, .float .f32 0])) := by kernel_rfl
theorem ti113 : (prog.info? 113).map (fun i => (i.size, i.bytes, i.zero)) = some (1, 8, some (.nilFunc)) := by kernel_rfl
theorem ti115 : (prog.info? 115).map (fun i => (i.size, i.bytes, i.zero)) = some (1, 8, some (.nilFunc)) := by kernel_rfl
theorem ti116 : (prog.info? 116).map (fun i => (i.size, i.bytes, i.zero)) = some (1, 8, some (.nilFunc)) := by kernel_rfl
theorem ti117 : (prog.info? 117).map (fun i => (i.size, i.bytes, i.zero)) = some (1, 8, some (.pointer none)) := by kernel_rfl
theorem ti118 : (prog.info? 118).map (fun i => (i.size, i.bytes, i.zero)) = some (1, 8, some (.nilFunc)) := by kernel_rfl
theorem ti119 : (prog.info? 119).map (fun i => (i.size, i.bytes, i.zero)) = some (1, 8, some (.nilFunc)) := by kernel_rfl
theorem ti120 : (prog.info? 120).map (fun i => (i.size, i.bytes, i.zero)) = some (1, 8, some (.nilFunc)) := by kernel_rfl
theorem ti121 : (prog.info? 121).map (fun i => (i.size, i.bytes, i.zero)) = some (1, 8, some (.nilFunc)) := by kernel_rfl
theorem ti122 : (prog.info? 122).map (fun i => (i.size, i.bytes, i.zero)) = some (1, 8, some (.nilFunc)) := by kernel_rfl
theorem ti123 : (prog.info? 123).map (fun i => (i.size, i.bytes, i.zero)) = some (1, 8, some (.nilFunc)) := by kernel_rfl
theorem ti124 : (prog.info? 124).map (fun i => (i.size, i.bytes, i.zero)) = some (1, 8, some (.nilFunc)) := by kernel_rfl
theorem ti125 : (prog.info? 125).map (fun i => (i.size, i.bytes, i.zero)) = some (1, 8, some (.nilFunc)) := by kernel_rfl
theorem ti126 : (prog.info? 126).map (fun i => (i.size, i.bytes, i.zero)) = some (1, 8, some (.nilFunc)) := by kernel_rfl
theorem ti127 : (prog.info? 127).map (fun i => (i.size, i.bytes, i.zero)) = some (1, 8, some (.nilFunc)) := by kernel_rfl
theorem ti128 : (prog.info? 128).map (fun i => (i.size, i.bytes, i.zero)) = some (1, 8, some (.nilFunc)) := by kernel_rfl
theorem ti129 : (prog.info? 129).map (fun i => (i.size, i.bytes, i.zero)) = some (1, 8, some (.nilFunc)) := by kernel_rfl
theorem ti130 : (prog.info? 130).map (fun i => (i.size, i.bytes, i.zero)) = some (1, 8, some (.nilFunc)) := by kernel_rfl
theorem ti131 : (prog.info? 131).map (fun i => (i.size, i.bytes, i.zero)) = some (1, 8, some (.nilFunc)) := by kernel_rfl
theorem ti132 : (prog.info? 132).map (fun i => (i.size, i.bytes, i.zero)) = some (1, 8, some (.nilFunc)) := by kernel_rfl
theorem ti133 : (prog.info? 133).map (fun i => (i.size, i.bytes, i.zero)) = some (1, 8, some (.nilFunc)) := by kernel_rfl
theorem ti134 : (prog.info? 134).map (fun i => (i.size, i.bytes, i.zero)) = some (1, 8, some (.nilFunc)) := by kernel_rfl
theorem ti135 : (prog.info? 135).map (fun i => (i.size, i.bytes, i.zero)) = some (1, 8, some (.nilFunc)) := by kernel_rfl
theorem ti136 : (prog.info? 136).map (fun i => (i.size, i.bytes, i.zero)) = some (1, 8, some (.nilFunc)) := by kernel_rfl
theorem ti137 : (prog.info? 137).map (fun i => (i.size, i.bytes, i.zero)) = some (1, 8, some (.nilFunc)) := by kernel_rfl
theorem ti138 : (prog.info? 138).map (fun i => (i.size, i.bytes, i.zero)) = some (1, 8, some (.nilFunc)) := by kernel_rfl
theorem ti139 : (prog.info? 139).map (fun i => (i.size, i.bytes, i.zero)) = some (1, 8, some (.nilFunc)) := by kernel_rfl
theorem ti140 : (prog.info? 140).map (fun i => (i.size, i.bytes, i.zero)) = some (1, 8, some (.nilFunc)) := by kernel_rfl
theorem ti141 : (prog.info? 141).map (fun i => (i.size, i.bytes, i.zero)) = some (1, 8, some (.nilFunc)) := by kernel_rfl
theorem ti142 : (prog.info? 142).map (fun i => (i.size, i.bytes, i.zero)) = some (1, 8, some (.nilFunc)) := by kernel_rfl
theorem ti143 : (prog.info? 143).map (fun i => (i.size, i.bytes, i.zero)) = some (1, 8, some (.nilFunc)) := by kernel_rfl
theorem ti144 : (prog.info? 144).map (fun i => (i.size, i.bytes, i.zero)) = some (1, 8, some (.nilFunc)) := by kernel_rfl
theorem ti145 : (prog.info? 145).map (fun i => (i.size, i.bytes, i.zero)) = some (1, 8, some (.nilFunc)) := by kernel_rfl
theorem ti146 : (prog.info? 146).map (fun i => (i.size, i.bytes, i.zero)) = some (1, 8, some (.nilFunc)) := by kernel_rfl
theorem ti147 : (prog.info? 147).map (fun i => (i.size, i.bytes, i.zero)) = some (1, 8, some (.nilFunc)) := by kernel_rfl
theorem ti148 : (prog.info? 148).map (fun i => (i.size, i.bytes, i.zero)) = some (1, 8, some (.nilFunc)) := by kernel_rfl
theorem ti149 : (prog.info? 149).map (fun i => (i.size, i.bytes, i.zero)) = some (1, 8, some (.nilFunc)) := by kernel_rfl
theorem ti150 : (prog.info? 150).map (fun i => (i.size, i.bytes, i.zero)) = some (1, 8, some (.nilFunc)) := by kernel_rfl
theorem ti151 : (prog.info? 151).map (fun i => (i.size, i.bytes, i.zero)) = some (1, 8, some (.nilFunc)) := by kernel_rfl
theorem ti152 : (prog.info? 152).map (fun i => (i.size, i.bytes, i.zero)) = some (1, 8, some (.nilFunc)) := by kernel_rfl
theorem ti153 : (prog.info? 153).map (fun i => (i.size, i.bytes, i.zero)) = some (1, 8, some (.nilFunc)) := by kernel_rfl
theorem ti154 : (prog.info? 154).map (fun i => (i.size, i.bytes, i.zero)) = some (1, 8, some (.nilFunc)) := by kernel_rfl
theorem ti155 : (prog.info? 155).map (fun i => (i.size, i.bytes, i.zero)) = some (1, 8, some (.nilFunc)) := by kernel_rfl
theorem ti156 : (prog.info? 156).map (fun i => (i.size, i.bytes, i.zero)) = some (1, 8, some (.nilFunc)) := by kernel_rfl
theorem ti157 : (prog.info? 157).map (fun i => (i.size, i.bytes, i.zero)) = some (1, 8, some (.nilFunc)) := by kernel_rfl
theorem ti158 : (prog.info? 158).map (fun i => (i.size, i.bytes, i.zero)) = some (1, 8, some (.nilFunc)) := by kernel_rfl
theorem ti159 : (prog.info? 159).map (fun i => (i.size, i.bytes, i.zero)) = some (1, 8, some (.pointer none)) := by kernel_rfl
theorem ti160 : (prog.info? 160).map (fun i => (i.size, i.bytes, i.zero)) = some (1, 8, some (.nilFunc)) := by kernel_rfl
theorem ti161 : (prog.info? 161).map (fun i => (i.size, i.bytes, i.zero)) = some (1, 8, some (.nilFunc)) := by kernel_rfl
theorem ti162 : (prog.info? 162).map (fun i => (i.size, i.bytes, i.zero)) = some (1, 8, some (.nilFunc)) := by kernel_rfl
theorem ti163 : (prog.info? 163).map (fun i => (i.size, i.bytes, i.zero)) = some (1, 8, some (.nilFunc)) := by kernel_rfl
theorem ti164 : (prog.info? 164).map (fun i => (i.size, i.bytes, i.zero)) = some (1, 8, some (.nilFunc)) := by kernel_rfl
theorem ti165 : (prog.info? 165).map (fun i => (i.size, i.bytes, i.zero)) = some (1, 8, some (.nilFunc)) := by kernel_rfl
theorem ti166 : (prog.info? 166).map (fun i => (i.size, i.bytes, i.zero)) = some (1, 8, some (.nilFunc)) := by kernel_rfl
theorem ti167 : (prog.info? 167).map (fun i => (i.size, i.bytes, i.zero)) = some (1, 8, some (.int .u64 0)) := by kernel_rfl
theorem ti168 : (prog.info? 168).map (fun i => (i.size, i.bytes, i.zero)) = some (3, 40, some (.agg #[.slice none 0 0, .int .i64 0, .int .u64 0])) := by kernel_rfl
theorem ti169 : (prog.info? 169).map (fun i => (i.size, i.bytes, i.zero)) = some (3, 40, some (.agg #[.slice none 0 0, .int .i64 0, .int .u64 0])) := by kernel_rfl
theorem ti170 : (prog.info? 170).map (fun i => (i.size, i.bytes, i.zero)) = some (1, 8, some (.pointer none)) := by kernel_rfl
theorem ti171 : (prog.info? 171).map (fun i => (i.size, i.bytes, i.zero)) = some (1, 8, some (.nilFunc)) := by kernel_rfl
theorem ti172 : (prog.info? 172).map (fun i => (i.size, i.bytes, i.zero)) = some (1, 8, some (.nilFunc)) := by kernel_rfl
theorem ti173 : (prog.info? 173).map (fun i => (i.size, i.bytes, i.zero)) = some (1, 8, some (.nilFunc)) := by kernel_rfl
theorem ti174 : (prog.info? 174).map (fun i => (i.size, i.bytes, i.zero)) = some (1, 4, some (.int .u32 0)) := by kernel_rfl
theorem ti175 : (prog.info? 175).map (fun i => (i.size, i.bytes, i.zero)) = some (1, 8, some (.nilFunc)) := by kernel_rfl
theorem ti176 : (prog.info? 176).map (fun i => (i.size, i.bytes, i.zero)) = some (1, 8, some (.nilFunc)) := by kernel_rfl
theorem ti177 : (prog.info? 177).map (fun i => (i.size, i.bytes, i.zero)) = some (1, 8, some (.nilFunc)) := by kernel_rfl
theorem ti178 : (prog.info? 178).map (fun i => (i.size, i.bytes, i.zero)) = some (1, 8, some (.nilFunc)) := by kernel_rfl
theorem ti180 : (prog.info? 180).map (fun i => (i.size, i.bytes, i.zero)) = some (1, 8, some (.nilFunc)) := by kernel_rfl
theorem ti181 : (prog.info? 181).map (fun i => (i.size, i.bytes, i.zero)) = some (1, 8, some (.pointer none)) := by kernel_rfl
theorem ti182 : (prog.info? 182).map (fun i => (i.size, i.bytes, i.zero)) = some (1, 8, some (.nilFunc)) := by kernel_rfl
theorem ti183 : (prog.info? 183).map (fun i => (i.size, i.bytes, i.zero)) = some (1, 8, some (.nilFunc)) := by kernel_rfl
theorem ti184 : (prog.info? 184).map (fun i => (i.size, i.bytes, i.zero)) = some (1, 8, some (.nilFunc)) := by kernel_rfl
theorem ti186 : (prog.info? 186).map (fun i => (i.size, i.bytes, i.zero)) = some (1, 8, some (.nilFunc)) := by kernel_rfl
theorem ti187 : (prog.info? 187).map (fun i => (i.size, i.bytes, i.zero)) = some (1, 8, some (.nilFunc)) := by kernel_rfl
theorem ti188 : (prog.info? 188).map (fun i => (i.size, i.bytes, i.zero)) = some (1, 8, some (.nilFunc)) := by kernel_rfl
theorem ti189 : (prog.info? 189).map (fun i => (i.size, i.bytes, i.zero)) = some (1, 8, some (.nilFunc)) := by kernel_rfl
theorem ti190 : (prog.info? 190).map (fun i => (i.size, i.bytes, i.zero)) = some (1, 8, some (.nilFunc)) := by kernel_rfl
theorem ti191 : (prog.info? 191).map (fun i => (i.size, i.bytes, i.zero)) = some (1, 8, some (.nilFunc)) := by kernel_rfl
theorem ti192 : (prog.info? 192).map (fun i => (i.size, i.bytes, i.zero)) = some (1, 8, some (.nilFunc)) := by kernel_rfl
theorem ti193 : (prog.info? 193).map (fun i => (i.size, i.bytes, i.zero)) = some (3, 24, some (.agg #[.int .i64 0, .int .i64 0, .int .i64 0])) := by kernel_rfl
theorem ti194 : (prog.info? 194).map (fun i => (i.size, i.bytes, i.zero)) = some (3, 24, some (.agg #[.int .i64 0, .int .i64 0, .int .i64 0])) := by kernel_rfl
theorem ti195 : (prog.info? 195).map (fun i => (i.size, i.bytes, i.zero)) = some (1, 8, some (.nilFunc)) := by kernel_rfl
theorem ti196 : (prog.info? 196).map (fun i => (i.size, i.bytes, i.zero)) = some (1, 8, some (.nilFunc)) := by kernel_rfl
theorem ti198 : (prog.info? 198).map (fun i => (i.size, i.bytes, i.zero)) = some (1, 8, some (.nilFunc)) := by kernel_rfl
theorem ti199 : (prog.info? 199).map (fun i => (i.size, i.bytes, i.zero)) = some (1, 8, some (.nilFunc)) := by kernel_rfl
theorem ti200 : (prog.info? 200).map (fun i => (i.size, i.bytes, i.zero)) = some (1, 8, some (.nilFunc)) := by kernel_rfl
theorem ti201 : (prog.info? 201).map (fun i => (i.size, i.bytes, i.zero)) = some (1, 8, some (.nilFunc)) := by kernel_rfl
theorem ti202 : (prog.info? 202).map (fun i => (i.size, i.bytes, i.zero)) = some (1, 8, some (.nilFunc)) := by kernel_rfl
theorem ti203 : (prog.info? 203).map (fun i => (i.size, i.bytes, i.zero)) = some (1, 8, some (.pointer none)) := by kernel_rfl
theorem ti204 : (prog.info? 204).map (fun i => (i.size, i.bytes, i.zero)) = some (1, 24, some (.slice none 0 0)) := by kernel_rfl
theorem ti205 : (prog.info? 205).map (fun i => (i.size, i.bytes, i.zero)) = some (1, 8, some (.nilFunc)) := by kernel_rfl
theorem ti206 : (prog.info? 206).map (fun i => (i.size, i.bytes, i.zero)) = some (1, 8, some (.nilFunc)) := by kernel_rfl
theorem ti207 : (prog.info? 207).map (fun i => (i.size, i.bytes, i.zero)) = some (1, 8, some (.int .u64 0)) := by kernel_rfl
theorem ti208 : (prog.info? 208).map (fun i => (i.size, i.bytes, i.zero)) = some (1, 8, some (.nilFunc)) := by kernel_rfl
theorem ti209 : (prog.info? 209).map (fun i => (i.size, i.bytes, i.zero)) = some (1, 16, some (.complex .f64 0 0)) := by kernel_rfl
theorem ti210 : (prog.info? 210).map (fun i => (i.size, i.bytes, i.zero)) = some (1, 8, some (.nilFunc)) := by kernel_rfl
theorem ti211 : (prog.info? 211).map (fun i => (i.size, i.bytes, i.zero)) = some (1, 8, some (.nilFunc)) := by kernel_rfl
theorem ti212 : (prog.info? 212).map (fun i => (i.size, i.bytes, i.zero)) = some (1, 8, some (.nilFunc)) := by kernel_rfl
theorem ti214 : (prog.info? 214).map (fun i => (i.size, i.bytes, i.zero)) = some (1, 8, some (.nilFunc)) := by kernel_rfl
theorem ti215 : (prog.info? 215).map (fun i => (i.size, i.bytes, i.zero)) = some (1, 8, some (.nilFunc)) := by kernel_rfl
theorem ti216 : (prog.info? 216).map (fun i => (i.size, i.bytes, i.zero)) = some (1, 8, some (.nilFunc)) := by kernel_rfl
theorem ti217 : (prog.info? 217).map (fun i => (i.size, i.bytes, i.zero)) = some (1, 8, some (.nilFunc)) := by kernel_rfl
theorem ti218 : (prog.info? 218).map (fun i => (i.size, i.bytes, i.zero)) = some (1, 8, some (.nilFunc)) := by kernel_rfl
theorem ti219 : (prog.info? 219).map (fun i => (i.size, i.bytes, i.zero)) = some (1, 8, some (.nilFunc)) := by kernel_rfl
theorem ti220 : (prog.info? 220).map (fun i => (i.size, i.bytes, i.zero)) = some (1, 8, some (.nilFunc)) := by kernel_rfl
theorem ti221 : (prog.info? 221).map (fun i => (i.size, i.bytes, i.zero)) = some (1, 8, some (.nilFunc)) := by kernel_rfl
theorem ti223 : (prog.info? 223).map (fun i => (i.size, i.bytes, i.zero)) = some (1, 8, some (.nilFunc)) := by kernel_rfl
theorem ti225 : (prog.info? 225).map (fun i => (i.size, i.bytes, i.zero)) = some (1, 8, some (.nilFunc)) := by kernel_rfl
theorem ti226 : (prog.info? 226).map (fun i => (i.size, i.bytes, i.zero)) = some (1, 8, some (.nilFunc)) := by kernel_rfl
theorem ti227 : (prog.info? 227).map (fun i => (i.size, i.bytes, i.zero)) = some (1, 8, some (.nilFunc)) := by kernel_rfl
theorem ti228 : (prog.info? 228).map (fun i => (i.size, i.bytes, i.zero)) = some (1, 8, some (.nilFunc)) := by kernel_rfl
theorem ti229 : (prog.info? 229).map (fun i => (i.size, i.bytes, i.zero)) = some (1, 8, some (.nilFunc)) := by kernel_rfl
theorem ti230 : (prog.info? 230).map (fun i => (i.size, i.bytes, i.zero)) = some (4, 40, some (.agg #[.pointer none, .pointer none, .pointer none, .string ⟨#[]⟩])) := by kernel_rfl
theorem ti231 : (prog.info? 231).map (fun i => (i.size, i.bytes, i.zero)) = some (4, 40, some (.agg #[.pointer none, .pointer none, .pointer none, .string ⟨#[]⟩])) := by kernel_rfl
theorem ti235 : (prog.info? 235).map (fun i => (i.size, i.bytes, i.zero)) = some (1, 8, some (.nilFunc)) := by kernel_rfl
theorem ti236 : (prog.info? 236).map (fun i => (i.size, i.bytes, i.zero)) = some (1, 1, some (.int .u8 0)) := by kernel_rfl
theorem ti237 : (prog.info? 237).map (fun i => (i.size, i.bytes, i.zero)) = some (1, 1, some (.int .u8 0)) := by kernel_rfl
theorem ti238 : (prog.info? 238).map (fun i => (i.size, i.bytes, i.zero)) = some (1, 8, some (.nilFunc)) := by kernel_rfl
theorem ti239 : (prog.info? 239).map (fun i => (i.size, i.bytes, i.zero)) = some (1, 8, some (.pointer none)) := by kernel_rfl
theorem ti240 : (prog.info? 240).map (fun i => (i.size, i.bytes, i.zero)) = some (1, 4, some (.int .i32 0)) := by kernel_rfl
theorem ti241 : (prog.info? 241).map (fun i => (i.size, i.bytes, i.zero)) = some (1, 4, some (.int .i32 0)) := by kernel_rfl
theorem ti242 : (prog.info? 242).map (fun i => (i.size, i.bytes, i.zero)) = some (11, 48, some (.agg #[.int .u64 0, .int .u64 0, .int .u32 0, .int .u8 0, .int .u8 0, .int .u8 0, .int .u8 0, .nilFunc, .pointer none, .int .i32 0, .int .i32 0])) := by kernel_rfl
theorem ti243 : (prog.info? 243).map (fun i => (i.size, i.bytes, i.zero)) = some (11, 48, some (.agg #[.int .u64 0, .int .u64 0, .int .u32 0, .int .u8 0, .int .u8 0, .int .u8 0, .int .u8 0, .nilFunc, .pointer none, .int .i32 0, .int .i32 0])) := by kernel_rfl
def td1 : TD := ⟨(TypeDesc.func #[] #[] false), 1, 8, .nilFunc⟩
def td2 : TD := ⟨(TypeDesc.int IntKind.i64), 1, 8, .int .i64 0⟩
def td3 : TD := ⟨(TypeDesc.int IntKind.i64), 1, 8, .int .i64 0⟩
def td4 : TD := ⟨TypeDesc.bool, 1, 1, .bool false⟩
def td5 : TD := ⟨(TypeDesc.int IntKind.u8), 1, 1, .int .u8 0⟩
def td6 : TD := ⟨(TypeDesc.int IntKind.u8), 1, 1, .int .u8 0⟩
def td7 : TD := ⟨(TypeDesc.struct #[{ name := "x", type := 2, offset := 0, embedded := false, tag := "", pkgPath := "runtime", byteOffset := 0 }, { name := "y", type := 3, offset := 1, embedded := false, tag := "", pkgPath := "runtime", byteOffset := 8 }, { name := "signed", type := 4, offset := 2, embedded := false, tag := "", pkgPath := "runtime", byteOffset := 16 }, { name := "code", type := 6, offset := 3, embedded := false, tag := "", pkgPath := "runtime", byteOffset := 17 }]), 4, 24, .agg #[.int .i64 0, .int .i64 0, .bool false, .int .u8 0]⟩
def td8 : TD := ⟨(TypeDesc.struct #[{ name := "x", type := 2, offset := 0, embedded := false, tag := "", pkgPath := "runtime", byteOffset := 0 }, { name := "y", type := 3, offset := 1, embedded := false, tag := "", pkgPath := "runtime", byteOffset := 8 }, { name := "signed", type := 4, offset := 2, embedded := false, tag := "", pkgPath := "runtime", byteOffset := 16 }, { name := "code", type := 6, offset := 3, embedded := false, tag := "", pkgPath := "runtime", byteOffset := 17 }]), 4, 24, .agg #[.int .i64 0, .int .i64 0, .bool false, .int .u8 0]⟩
def td9 : TD := ⟨TypeDesc.string, 1, 16, .string ⟨#[]⟩⟩
def td10 : TD := ⟨TypeDesc.string, 1, 16, .string ⟨#[]⟩⟩
def td11 : TD := ⟨TypeDesc.string, 1, 16, .string ⟨#[]⟩⟩
def td12 : TD := ⟨(TypeDesc.int IntKind.u64), 1, 8, .int .u64 0⟩
def td13 : TD := ⟨(TypeDesc.struct #[{ name := "msg", type := 9, offset := 0, embedded := false, tag := "", pkgPath := "runtime", byteOffset := 0 }, { name := "addr", type := 12, offset := 1, embedded := false, tag := "", pkgPath := "runtime", byteOffset := 16 }]), 2, 24, .agg #[.string ⟨#[]⟩, .int .u64 0]⟩
def td14 : TD := ⟨(TypeDesc.struct #[{ name := "msg", type := 9, offset := 0, embedded := false, tag := "", pkgPath := "runtime", byteOffset := 0 }, { name := "addr", type := 12, offset := 1, embedded := false, tag := "", pkgPath := "runtime", byteOffset := 16 }]), 2, 24, .agg #[.string ⟨#[]⟩, .int .u64 0]⟩
def td15 : TD := ⟨(TypeDesc.pointer 231), 1, 8, .pointer none⟩
def td16 : TD := ⟨(TypeDesc.pointer 234), 1, 8, .pointer none⟩
def td17 : TD := ⟨(TypeDesc.pointer 243), 1, 8, .pointer none⟩
def td18 : TD := ⟨(TypeDesc.struct #[{ name := "typ", type := 17, offset := 0, embedded := false, tag := "", pkgPath := "internal/runtime/maps", byteOffset := 0 }]), 1, 8, .agg #[.pointer none]⟩
def td19 : TD := ⟨(TypeDesc.struct #[{ name := "typ", type := 17, offset := 0, embedded := false, tag := "", pkgPath := "internal/runtime/maps", byteOffset := 0 }]), 1, 8, .agg #[.pointer none]⟩
def td21 : TD := ⟨(TypeDesc.int IntKind.i32), 1, 4, .int .i32 0⟩
def td22 : TD := ⟨(TypeDesc.slice 5), 1, 24, .slice none 0 0⟩
def td23 : TD := ⟨(TypeDesc.func #[22, 22] #[4] false), 1, 8, .nilFunc⟩
def td24 : TD := ⟨(TypeDesc.complex FloatKind.f32), 1, 8, .complex .f32 0 0⟩
def td25 : TD := ⟨(TypeDesc.struct #[{ name := "A", type := 24, offset := 0, embedded := false, tag := "", pkgPath := "", byteOffset := 0 }, { name := "B", type := 24, offset := 1, embedded := false, tag := "", pkgPath := "", byteOffset := 8 }, { name := "C", type := 24, offset := 2, embedded := false, tag := "", pkgPath := "", byteOffset := 16 }]), 3, 24, .agg #[.complex .f32 0 0, .complex .f32 0 0, .complex .f32 0 0]⟩
def td26 : TD := ⟨(TypeDesc.struct #[{ name := "A", type := 24, offset := 0, embedded := false, tag := "", pkgPath := "", byteOffset := 0 }, { name := "B", type := 24, offset := 1, embedded := false, tag := "", pkgPath := "", byteOffset := 8 }, { name := "C", type := 24, offset := 2, embedded := false, tag := "", pkgPath := "", byteOffset := 16 }]), 3, 24, .agg #[.complex .f32 0 0, .complex .f32 0 0, .complex .f32 0 0]⟩
def td27 : TD := ⟨(TypeDesc.slice 40), 1, 24, .slice none 0 0⟩
def td28 : TD := ⟨(TypeDesc.struct #[{ name := "Source", type := 26, offset := 0, embedded := false, tag := "", pkgPath := "", byteOffset := 0 }, { name := "Buses", type := 27, offset := 3, embedded := false, tag := "", pkgPath := "", byteOffset := 24 }]), 4, 48, .agg #[.complex .f32 0 0, .complex .f32 0 0, .complex .f32 0 0, .slice none 0 0]⟩
def td29 : TD := ⟨(TypeDesc.struct #[{ name := "Source", type := 26, offset := 0, embedded := false, tag := "", pkgPath := "", byteOffset := 0 }, { name := "Buses", type := 27, offset := 3, embedded := false, tag := "", pkgPath := "", byteOffset := 24 }]), 4, 48, .agg #[.complex .f32 0 0, .complex .f32 0 0, .complex .f32 0 0, .slice none 0 0]⟩
def td30 : TD := ⟨(TypeDesc.func #[22] #[29] false), 1, 8, .nilFunc⟩
def td31 : TD := ⟨(TypeDesc.func #[22, 2, 2] #[2] false), 1, 8, .nilFunc⟩
def td32 : TD := ⟨(TypeDesc.slice 2), 1, 24, .slice none 0 0⟩
def td34 : TD := ⟨(TypeDesc.func #[29, 2] #[32, 4] false), 1, 8, .nilFunc⟩
def td36 : TD := ⟨(TypeDesc.func #[29] #[2, 4] false), 1, 8, .nilFunc⟩
def td37 : TD := ⟨(TypeDesc.func #[29] #[32, 4] false), 1, 8, .nilFunc⟩
def td38 : TD := ⟨(TypeDesc.func #[29] #[4] false), 1, 8, .nilFunc⟩
def td39 : TD := ⟨(TypeDesc.struct #[{ name := "Parent", type := 2, offset := 0, embedded := false, tag := "", pkgPath := "", byteOffset := 0 }, { name := "Own", type := 24, offset := 1, embedded := false, tag := "", pkgPath := "", byteOffset := 8 }, { name := "Shared", type := 24, offset := 2, embedded := false, tag := "", pkgPath := "", byteOffset := 16 }, { name := "Kind", type := 2, offset := 3, embedded := false, tag := "", pkgPath := "", byteOffset := 24 }, { name := "Load", type := 26, offset := 4, embedded := false, tag := "", pkgPath := "", byteOffset := 32 }, { name := "Customers", type := 2, offset := 7, embedded := false, tag := "", pkgPath := "", byteOffset := 56 }]), 8, 64, .agg #[.int .i64 0, .complex .f32 0 0, .complex .f32 0 0, .int .i64 0, .complex .f32 0 0, .complex .f32 0 0, .complex .f32 0 0, .int .i64 0]⟩
def td40 : TD := ⟨(TypeDesc.struct #[{ name := "Parent", type := 2, offset := 0, embedded := false, tag := "", pkgPath := "", byteOffset := 0 }, { name := "Own", type := 24, offset := 1, embedded := false, tag := "", pkgPath := "", byteOffset := 8 }, { name := "Shared", type := 24, offset := 2, embedded := false, tag := "", pkgPath := "", byteOffset := 16 }, { name := "Kind", type := 2, offset := 3, embedded := false, tag := "", pkgPath := "", byteOffset := 24 }, { name := "Load", type := 26, offset := 4, embedded := false, tag := "", pkgPath := "", byteOffset := 32 }, { name := "Customers", type := 2, offset := 7, embedded := false, tag := "", pkgPath := "", byteOffset := 56 }]), 8, 64, .agg #[.int .i64 0, .complex .f32 0 0, .complex .f32 0 0, .int .i64 0, .complex .f32 0 0, .complex .f32 0 0, .complex .f32 0 0, .int .i64 0]⟩
def td41 : TD := ⟨(TypeDesc.func #[32, 2] #[4] false), 1, 8, .nilFunc⟩
def td43 : TD := ⟨(TypeDesc.func #[29, 2] #[29, 4] false), 1, 8, .nilFunc⟩
def td44 : TD := ⟨(TypeDesc.func #[29, 2, 26] #[29, 4] false), 1, 8, .nilFunc⟩
def td45 : TD := ⟨(TypeDesc.func #[29, 2, 29, 24, 24] #[29, 4] false), 1, 8, .nilFunc⟩
def td47 : TD := ⟨(TypeDesc.func #[29, 2] #[24, 24, 4] false), 1, 8, .nilFunc⟩
def td48 : TD := ⟨(TypeDesc.func #[24, 24] #[4] false), 1, 8, .nilFunc⟩
def td49 : TD := ⟨(TypeDesc.slice 26), 1, 24, .slice none 0 0⟩
def td50 : TD := ⟨(TypeDesc.func #[22, 29] #[49] false), 1, 8, .nilFunc⟩
def td51 : TD := ⟨(TypeDesc.slice 112), 1, 24, .slice none 0 0⟩
def td52 : TD := ⟨(TypeDesc.func #[22, 29] #[51] false), 1, 8, .nilFunc⟩
def td53 : TD := ⟨(TypeDesc.func #[29] #[29, 4] false), 1, 8, .nilFunc⟩
def td54 : TD := ⟨(TypeDesc.struct #[{ name := "Voltages", type := 49, offset := 0, embedded := false, tag := "", pkgPath := "", byteOffset := 0 }, { name := "Currents", type := 49, offset := 1, embedded := false, tag := "", pkgPath := "", byteOffset := 24 }, { name := "Rounds", type := 2, offset := 2, embedded := false, tag := "", pkgPath := "", byteOffset := 48 }, { name := "Rests", type := 4, offset := 3, embedded := false, tag := "", pkgPath := "", byteOffset := 56 }]), 4, 64, .agg #[.slice none 0 0, .slice none 0 0, .int .i64 0, .bool false]⟩
def td55 : TD := ⟨(TypeDesc.struct #[{ name := "Voltages", type := 49, offset := 0, embedded := false, tag := "", pkgPath := "", byteOffset := 0 }, { name := "Currents", type := 49, offset := 1, embedded := false, tag := "", pkgPath := "", byteOffset := 24 }, { name := "Rounds", type := 2, offset := 2, embedded := false, tag := "", pkgPath := "", byteOffset := 48 }, { name := "Rests", type := 4, offset := 3, embedded := false, tag := "", pkgPath := "", byteOffset := 56 }]), 4, 64, .agg #[.slice none 0 0, .slice none 0 0, .int .i64 0, .bool false]⟩
def td57 : TD := ⟨(TypeDesc.func #[29, 49] #[55, 4] false), 1, 8, .nilFunc⟩
def td58 : TD := ⟨(TypeDesc.func #[49] #[49] false), 1, 8, .nilFunc⟩
def td59 : TD := ⟨(TypeDesc.func #[29, 51, 49] #[55, 4] false), 1, 8, .nilFunc⟩
def td60 : TD := ⟨(TypeDesc.func #[51] #[51] false), 1, 8, .nilFunc⟩
def td61 : TD := ⟨(TypeDesc.func #[55, 55] #[4] false), 1, 8, .nilFunc⟩
def td62 : TD := ⟨(TypeDesc.func #[55] #[55] false), 1, 8, .nilFunc⟩
def td63 : TD := ⟨(TypeDesc.func #[29, 51] #[4] false), 1, 8, .nilFunc⟩
def td64 : TD := ⟨(TypeDesc.float FloatKind.f32), 1, 4, .float .f32 0⟩
def td65 : TD := ⟨(TypeDesc.slice 64), 1, 24, .slice none 0 0⟩
def td66 : TD := ⟨(TypeDesc.func #[29, 2, 65, 2] #[2, 4] false), 1, 8, .nilFunc⟩
def td67 : TD := ⟨(TypeDesc.func #[29, 2, 64] #[29, 4] false), 1, 8, .nilFunc⟩
def td69 : TD := ⟨(TypeDesc.func #[29] #[49, 4] false), 1, 8, .nilFunc⟩
def td70 : TD := ⟨(TypeDesc.func #[29, 49, 2] #[55, 4] false), 1, 8, .nilFunc⟩
def td72 : TD := ⟨(TypeDesc.func #[29, 55] #[2, 64, 4] false), 1, 8, .nilFunc⟩
def td73 : TD := ⟨(TypeDesc.slice 194), 1, 24, .slice none 0 0⟩
def td74 : TD := ⟨(TypeDesc.struct #[{ name := "Feeder", type := 29, offset := 0, embedded := false, tag := "", pkgPath := "", byteOffset := 0 }, { name := "Taps", type := 51, offset := 4, embedded := false, tag := "", pkgPath := "", byteOffset := 48 }, { name := "List", type := 73, offset := 5, embedded := false, tag := "", pkgPath := "", byteOffset := 72 }]), 6, 96, .agg #[.complex .f32 0 0, .complex .f32 0 0, .complex .f32 0 0, .slice none 0 0, .slice none 0 0, .slice none 0 0]⟩
def td75 : TD := ⟨(TypeDesc.struct #[{ name := "Feeder", type := 29, offset := 0, embedded := false, tag := "", pkgPath := "", byteOffset := 0 }, { name := "Taps", type := 51, offset := 4, embedded := false, tag := "", pkgPath := "", byteOffset := 48 }, { name := "List", type := 73, offset := 5, embedded := false, tag := "", pkgPath := "", byteOffset := 72 }]), 6, 96, .agg #[.complex .f32 0 0, .complex .f32 0 0, .complex .f32 0 0, .slice none 0 0, .slice none 0 0, .slice none 0 0]⟩
def td76 : TD := ⟨(TypeDesc.func #[] #[75] false), 1, 8, .nilFunc⟩
def td77 : TD := ⟨(TypeDesc.func #[75, 75] #[4] false), 1, 8, .nilFunc⟩
def td78 : TD := ⟨(TypeDesc.func #[75, 3] #[3] false), 1, 8, .nilFunc⟩
def td79 : TD := ⟨(TypeDesc.func #[] #[4] false), 1, 8, .nilFunc⟩
def td80 : TD := ⟨(TypeDesc.func #[29, 2, 2] #[32, 4] false), 1, 8, .nilFunc⟩
def td82 : TD := ⟨(TypeDesc.func #[29, 2, 2, 24, 2] #[26, 4] false), 1, 8, .nilFunc⟩
def td83 : TD := ⟨(TypeDesc.func #[85] #[26] false), 1, 8, .nilFunc⟩
def td84 : TD := ⟨(TypeDesc.struct #[{ name := "Zero", type := 24, offset := 0, embedded := false, tag := "", pkgPath := "", byteOffset := 0 }, { name := "Plus", type := 24, offset := 1, embedded := false, tag := "", pkgPath := "", byteOffset := 8 }, { name := "Minus", type := 24, offset := 2, embedded := false, tag := "", pkgPath := "", byteOffset := 16 }]), 3, 24, .agg #[.complex .f32 0 0, .complex .f32 0 0, .complex .f32 0 0]⟩
def td85 : TD := ⟨(TypeDesc.struct #[{ name := "Zero", type := 24, offset := 0, embedded := false, tag := "", pkgPath := "", byteOffset := 0 }, { name := "Plus", type := 24, offset := 1, embedded := false, tag := "", pkgPath := "", byteOffset := 8 }, { name := "Minus", type := 24, offset := 2, embedded := false, tag := "", pkgPath := "", byteOffset := 16 }]), 3, 24, .agg #[.complex .f32 0 0, .complex .f32 0 0, .complex .f32 0 0]⟩
def td86 : TD := ⟨(TypeDesc.func #[26] #[85] false), 1, 8, .nilFunc⟩
def td88 : TD := ⟨(TypeDesc.func #[24, 24] #[24, 24] false), 1, 8, .nilFunc⟩
def td90 : TD := ⟨(TypeDesc.func #[24, 24, 24, 2, 24] #[85, 4] false), 1, 8, .nilFunc⟩
def td91 : TD := ⟨(TypeDesc.func #[29, 2, 2, 24] #[26, 4] false), 1, 8, .nilFunc⟩
def td92 : TD := ⟨(TypeDesc.float FloatKind.f64), 1, 8, .float .f64 0⟩
def td93 : TD := ⟨(TypeDesc.func #[24, 24] #[92] false), 1, 8, .nilFunc⟩
def td94 : TD := ⟨(TypeDesc.func #[26, 26] #[4] false), 1, 8, .nilFunc⟩
def td95 : TD := ⟨(TypeDesc.func #[85, 85] #[4] false), 1, 8, .nilFunc⟩
def td96 : TD := ⟨(TypeDesc.func #[29, 2, 64] #[55, 4] false), 1, 8, .nilFunc⟩
def td97 : TD := ⟨(TypeDesc.func #[22, 2] #[26] false), 1, 8, .nilFunc⟩
def td98 : TD := ⟨(TypeDesc.func #[29, 29] #[4] false), 1, 8, .nilFunc⟩
def td99 : TD := ⟨(TypeDesc.func #[26] #[26] false), 1, 8, .nilFunc⟩
def td101 : TD := ⟨(TypeDesc.func #[29, 55] #[24, 4] false), 1, 8, .nilFunc⟩
def td103 : TD := ⟨(TypeDesc.func #[29, 55] #[64, 4] false), 1, 8, .nilFunc⟩
def td104 : TD := ⟨(TypeDesc.slice 24), 1, 24, .slice none 0 0⟩
def td106 : TD := ⟨(TypeDesc.func #[29, 55] #[104, 4] false), 1, 8, .nilFunc⟩
def td107 : TD := ⟨(TypeDesc.func #[26] #[64] false), 1, 8, .nilFunc⟩
def td108 : TD := ⟨(TypeDesc.func #[104] #[24, 4] false), 1, 8, .nilFunc⟩
def td110 : TD := ⟨(TypeDesc.func #[112] #[65, 4] false), 1, 8, .nilFunc⟩
def td111 : TD := ⟨(TypeDesc.struct #[{ name := "Bus", type := 2, offset := 0, embedded := false, tag := "", pkgPath := "", byteOffset := 0 }, { name := "A", type := 2, offset := 1, embedded := false, tag := "", pkgPath := "", byteOffset := 8 }, { name := "B", type := 2, offset := 2, embedded := false, tag := "", pkgPath := "", byteOffset := 16 }, { name := "C", type := 2, offset := 3, embedded := false, tag := "", pkgPath := "", byteOffset := 24 }, { name := "Each", type := 64, offset := 4, embedded := false, tag := "", pkgPath := "", byteOffset := 32 }]), 5, 40, .agg #[.int .i64 0, .int .i64 0, .int .i64 0, .int .i64 0, .float .f32 0]⟩
def td112 : TD := ⟨(TypeDesc.struct #[{ name := "Bus", type := 2, offset := 0, embedded := false, tag := "", pkgPath := "", byteOffset := 0 }, { name := "A", type := 2, offset := 1, embedded := false, tag := "", pkgPath := "", byteOffset := 8 }, { name := "B", type := 2, offset := 2, embedded := false, tag := "", pkgPath := "", byteOffset := 16 }, { name := "C", type := 2, offset := 3, embedded := false, tag := "", pkgPath := "", byteOffset := 24 }, { name := "Each", type := 64, offset := 4, embedded := false, tag := "", pkgPath := "", byteOffset := 32 }]), 5, 40, .agg #[.int .i64 0, .int .i64 0, .int .i64 0, .int .i64 0, .float .f32 0]⟩
def td113 : TD := ⟨(TypeDesc.func #[22] #[26] false), 1, 8, .nilFunc⟩
def td115 : TD := ⟨(TypeDesc.func #[112, 26, 64, 64] #[112, 4] false), 1, 8, .nilFunc⟩
def td116 : TD := ⟨(TypeDesc.func #[24] #[64] false), 1, 8, .nilFunc⟩
def td117 : TD := ⟨(TypeDesc.pointer 169), 1, 8, .pointer none⟩
def td118 : TD := ⟨(TypeDesc.func #[22] #[117] false), 1, 8, .nilFunc⟩
def td119 : TD := ⟨(TypeDesc.func #[117] #[29] false), 1, 8, .nilFunc⟩
def td120 : TD := ⟨(TypeDesc.func #[2] #[4] false), 1, 8, .nilFunc⟩
def td121 : TD := ⟨(TypeDesc.func #[2] #[32] false), 1, 8, .nilFunc⟩
def td122 : TD := ⟨(TypeDesc.func #[32] #[2] false), 1, 8, .nilFunc⟩
def td123 : TD := ⟨(TypeDesc.func #[2, 2, 2] #[4] false), 1, 8, .nilFunc⟩
def td124 : TD := ⟨(TypeDesc.func #[26, 32] #[29] false), 1, 8, .nilFunc⟩
def td125 : TD := ⟨(TypeDesc.func #[29] #[29] false), 1, 8, .nilFunc⟩
def td126 : TD := ⟨(TypeDesc.func #[32] #[24, 24] false), 1, 8, .nilFunc⟩
def td127 : TD := ⟨(TypeDesc.func #[64, 64] #[4] false), 1, 8, .nilFunc⟩
def td128 : TD := ⟨(TypeDesc.func #[117, 2] #[26] false), 1, 8, .nilFunc⟩
def td129 : TD := ⟨(TypeDesc.func #[2] #[2] false), 1, 8, .nilFunc⟩
def td130 : TD := ⟨(TypeDesc.func #[29, 49] #[4] false), 1, 8, .nilFunc⟩
def td131 : TD := ⟨(TypeDesc.func #[49, 133] #[55] false), 1, 8, .nilFunc⟩
def td132 : TD := ⟨(TypeDesc.func #[3, 26] #[26] false), 1, 8, .nilFunc⟩
def td133 : TD := ⟨(TypeDesc.func #[3, 26] #[26] false), 1, 8, .nilFunc⟩
def td134 : TD := ⟨(TypeDesc.func #[51] #[133] false), 1, 8, .nilFunc⟩
def td135 : TD := ⟨(TypeDesc.func #[49, 49, 94] #[4] false), 1, 8, .nilFunc⟩
def td136 : TD := ⟨(TypeDesc.func #[24] #[26] false), 1, 8, .nilFunc⟩
def td137 : TD := ⟨(TypeDesc.func #[49] #[2, 64, 4] false), 1, 8, .nilFunc⟩
def td138 : TD := ⟨(TypeDesc.func #[49, 2, 133] #[55] false), 1, 8, .nilFunc⟩
def td139 : TD := ⟨(TypeDesc.func #[] #[49] false), 1, 8, .nilFunc⟩
def td140 : TD := ⟨(TypeDesc.func #[64] #[4] false), 1, 8, .nilFunc⟩
def td141 : TD := ⟨(TypeDesc.func #[24, 24] #[24] false), 1, 8, .nilFunc⟩
def td142 : TD := ⟨(TypeDesc.func #[29, 55] #[4] false), 1, 8, .nilFunc⟩
def td143 : TD := ⟨(TypeDesc.func #[51, 51] #[4] false), 1, 8, .nilFunc⟩
def td144 : TD := ⟨(TypeDesc.func #[73, 73] #[4] false), 1, 8, .nilFunc⟩
def td145 : TD := ⟨(TypeDesc.func #[29, 3] #[3] false), 1, 8, .nilFunc⟩
def td146 : TD := ⟨(TypeDesc.func #[51, 3] #[3] false), 1, 8, .nilFunc⟩
def td147 : TD := ⟨(TypeDesc.func #[73, 3] #[3] false), 1, 8, .nilFunc⟩
def td148 : TD := ⟨(TypeDesc.func #[117] #[26] false), 1, 8, .nilFunc⟩
def td149 : TD := ⟨(TypeDesc.func #[2, 2] #[32] false), 1, 8, .nilFunc⟩
def td150 : TD := ⟨(TypeDesc.func #[2, 2, 24] #[85, 4] false), 1, 8, .nilFunc⟩
def td151 : TD := ⟨(TypeDesc.func #[] #[24, 24] false), 1, 8, .nilFunc⟩
def td152 : TD := ⟨(TypeDesc.func #[24, 64] #[24] false), 1, 8, .nilFunc⟩
def td153 : TD := ⟨(TypeDesc.func #[24] #[4] false), 1, 8, .nilFunc⟩
def td154 : TD := ⟨(TypeDesc.func #[49, 49] #[64] false), 1, 8, .nilFunc⟩
def td155 : TD := ⟨(TypeDesc.func #[22, 2] #[24] false), 1, 8, .nilFunc⟩
def td156 : TD := ⟨(TypeDesc.func #[27, 27, 157] #[4] false), 1, 8, .nilFunc⟩
def td157 : TD := ⟨(TypeDesc.func #[40, 40] #[4] false), 1, 8, .nilFunc⟩
def td158 : TD := ⟨(TypeDesc.func #[159] #[24] false), 1, 8, .nilFunc⟩
def td159 : TD := ⟨(TypeDesc.pointer 55), 1, 8, .pointer none⟩
def td160 : TD := ⟨(TypeDesc.func #[104] #[24] false), 1, 8, .nilFunc⟩
def td161 : TD := ⟨(TypeDesc.func #[159] #[104] false), 1, 8, .nilFunc⟩
def td162 : TD := ⟨(TypeDesc.func #[26, 26] #[26] false), 1, 8, .nilFunc⟩
def td163 : TD := ⟨(TypeDesc.func #[] #[65] false), 1, 8, .nilFunc⟩
def td164 : TD := ⟨(TypeDesc.func #[65] #[64] false), 1, 8, .nilFunc⟩
def td165 : TD := ⟨(TypeDesc.func #[65] #[4] true), 1, 8, .nilFunc⟩
def td166 : TD := ⟨(TypeDesc.func #[26, 64, 64] #[112] false), 1, 8, .nilFunc⟩
def td167 : TD := ⟨(TypeDesc.int IntKind.u64), 1, 8, .int .u64 0⟩
def td168 : TD := ⟨(TypeDesc.struct #[{ name := "code", type := 22, offset := 0, embedded := false, tag := "", pkgPath := "loop.example/g01212/spec", byteOffset := 0 }, { name := "at", type := 3, offset := 1, embedded := false, tag := "", pkgPath := "loop.example/g01212/spec", byteOffset := 24 }, { name := "seed", type := 167, offset := 2, embedded := false, tag := "", pkgPath := "loop.example/g01212/spec", byteOffset := 32 }]), 3, 40, .agg #[.slice none 0 0, .int .i64 0, .int .u64 0]⟩
def td169 : TD := ⟨(TypeDesc.struct #[{ name := "code", type := 22, offset := 0, embedded := false, tag := "", pkgPath := "loop.example/g01212/spec", byteOffset := 0 }, { name := "at", type := 3, offset := 1, embedded := false, tag := "", pkgPath := "loop.example/g01212/spec", byteOffset := 24 }, { name := "seed", type := 167, offset := 2, embedded := false, tag := "", pkgPath := "loop.example/g01212/spec", byteOffset := 32 }]), 3, 40, .agg #[.slice none 0 0, .int .i64 0, .int .u64 0]⟩
def td170 : TD := ⟨(TypeDesc.pointer 29), 1, 8, .pointer none⟩
def td171 : TD := ⟨(TypeDesc.func #[32] #[] false), 1, 8, .nilFunc⟩
def td172 : TD := ⟨(TypeDesc.func #[32, 2] #[3] false), 1, 8, .nilFunc⟩
def td173 : TD := ⟨(TypeDesc.func #[27] #[27] false), 1, 8, .nilFunc⟩
def td174 : TD := ⟨(TypeDesc.int IntKind.u32), 1, 4, .int .u32 0⟩
def td175 : TD := ⟨(TypeDesc.func #[64] #[174] false), 1, 8, .nilFunc⟩
def td176 : TD := ⟨(TypeDesc.func #[117, 2] #[24] false), 1, 8, .nilFunc⟩
def td177 : TD := ⟨(TypeDesc.func #[] #[2] false), 1, 8, .nilFunc⟩
def td178 : TD := ⟨(TypeDesc.func #[49, 133] #[49] false), 1, 8, .nilFunc⟩
def td180 : TD := ⟨(TypeDesc.func #[26, 65] #[26] false), 1, 8, .nilFunc⟩
def td181 : TD := ⟨(TypeDesc.pointer 112), 1, 8, .pointer none⟩
def td182 : TD := ⟨(TypeDesc.func #[] #[32] false), 1, 8, .nilFunc⟩
def td183 : TD := ⟨(TypeDesc.func #[92] #[24] false), 1, 8, .nilFunc⟩
def td184 : TD := ⟨(TypeDesc.func #[49, 3] #[49] false), 1, 8, .nilFunc⟩
def td186 : TD := ⟨(TypeDesc.func #[24] #[92, 92] false), 1, 8, .nilFunc⟩
def td187 : TD := ⟨(TypeDesc.func #[24] #[24] false), 1, 8, .nilFunc⟩
def td188 : TD := ⟨(TypeDesc.func #[24] #[92] false), 1, 8, .nilFunc⟩
def td189 : TD := ⟨(TypeDesc.func #[170, 159] #[4] false), 1, 8, .nilFunc⟩
def td190 : TD := ⟨(TypeDesc.func #[27, 27] #[4] false), 1, 8, .nilFunc⟩
def td191 : TD := ⟨(TypeDesc.func #[112, 112] #[4] false), 1, 8, .nilFunc⟩
def td192 : TD := ⟨(TypeDesc.func #[194, 194] #[4] false), 1, 8, .nilFunc⟩
def td193 : TD := ⟨(TypeDesc.struct #[{ name := "Bus", type := 2, offset := 0, embedded := false, tag := "", pkgPath := "", byteOffset := 0 }, { name := "From", type := 2, offset := 1, embedded := false, tag := "", pkgPath := "", byteOffset := 8 }, { name := "Until", type := 2, offset := 2, embedded := false, tag := "", pkgPath := "", byteOffset := 16 }]), 3, 24, .agg #[.int .i64 0, .int .i64 0, .int .i64 0]⟩
def td194 : TD := ⟨(TypeDesc.struct #[{ name := "Bus", type := 2, offset := 0, embedded := false, tag := "", pkgPath := "", byteOffset := 0 }, { name := "From", type := 2, offset := 1, embedded := false, tag := "", pkgPath := "", byteOffset := 8 }, { name := "Until", type := 2, offset := 2, embedded := false, tag := "", pkgPath := "", byteOffset := 16 }]), 3, 24, .agg #[.int .i64 0, .int .i64 0, .int .i64 0]⟩
def td195 : TD := ⟨(TypeDesc.func #[27, 3] #[3] false), 1, 8, .nilFunc⟩
def td196 : TD := ⟨(TypeDesc.func #[92] #[92] false), 1, 8, .nilFunc⟩
def td198 : TD := ⟨(TypeDesc.func #[] #[197] false), 1, 8, .nilFunc⟩
def td199 : TD := ⟨(TypeDesc.func #[26, 26] #[24] false), 1, 8, .nilFunc⟩
def td200 : TD := ⟨(TypeDesc.func #[40, 26] #[26] false), 1, 8, .nilFunc⟩
def td201 : TD := ⟨(TypeDesc.func #[26, 26, 141] #[26] false), 1, 8, .nilFunc⟩
def td202 : TD := ⟨(TypeDesc.func #[65, 140] #[4] false), 1, 8, .nilFunc⟩
def td203 : TD := ⟨(TypeDesc.pointer 2), 1, 8, .pointer none⟩
def td204 : TD := ⟨(TypeDesc.slice 203), 1, 24, .slice none 0 0⟩
def td205 : TD := ⟨(TypeDesc.func #[92] #[64] false), 1, 8, .nilFunc⟩
def td206 : TD := ⟨(TypeDesc.func #[117] #[64] false), 1, 8, .nilFunc⟩
def td207 : TD := ⟨(TypeDesc.int IntKind.u64), 1, 8, .int .u64 0⟩
def td208 : TD := ⟨(TypeDesc.func #[209] #[24] false), 1, 8, .nilFunc⟩
def td209 : TD := ⟨(TypeDesc.complex FloatKind.f64), 1, 16, .complex .f64 0 0⟩
def td210 : TD := ⟨(TypeDesc.func #[209, 209] #[209] false), 1, 8, .nilFunc⟩
def td211 : TD := ⟨(TypeDesc.func #[24] #[209] false), 1, 8, .nilFunc⟩
def td212 : TD := ⟨(TypeDesc.func #[2] #[64] false), 1, 8, .nilFunc⟩
def td214 : TD := ⟨(TypeDesc.func #[207, 207] #[207, 207] false), 1, 8, .nilFunc⟩
def td215 : TD := ⟨(TypeDesc.func #[] #[64] false), 1, 8, .nilFunc⟩
def td216 : TD := ⟨(TypeDesc.func #[209, 209] #[4] false), 1, 8, .nilFunc⟩
def td217 : TD := ⟨(TypeDesc.func #[92, 92] #[4] false), 1, 8, .nilFunc⟩
def td218 : TD := ⟨(TypeDesc.func #[24, 24, 24] #[24] false), 1, 8, .nilFunc⟩
def td219 : TD := ⟨(TypeDesc.func #[65, 140] #[3] false), 1, 8, .nilFunc⟩
def td220 : TD := ⟨(TypeDesc.func #[174] #[64] false), 1, 8, .nilFunc⟩
def td221 : TD := ⟨(TypeDesc.func #[] #[92] false), 1, 8, .nilFunc⟩
def td223 : TD := ⟨(TypeDesc.func #[174, 174] #[174, 174] false), 1, 8, .nilFunc⟩
def td225 : TD := ⟨(TypeDesc.func #[167, 167] #[167, 167] false), 1, 8, .nilFunc⟩
def td226 : TD := ⟨(TypeDesc.func #[167] #[92] false), 1, 8, .nilFunc⟩
def td227 : TD := ⟨(TypeDesc.func #[92] #[167] false), 1, 8, .nilFunc⟩
def td228 : TD := ⟨(TypeDesc.func #[92, 92] #[92] false), 1, 8, .nilFunc⟩
def td229 : TD := ⟨(TypeDesc.func #[] #[9] false), 1, 8, .nilFunc⟩
def td230 : TD := ⟨(TypeDesc.struct #[{ name := "_interface", type := 17, offset := 0, embedded := false, tag := "", pkgPath := "runtime", byteOffset := 0 }, { name := "concrete", type := 17, offset := 1, embedded := false, tag := "", pkgPath := "runtime", byteOffset := 8 }, { name := "asserted", type := 17, offset := 2, embedded := false, tag := "", pkgPath := "runtime", byteOffset := 16 }, { name := "missingMethod", type := 9, offset := 3, embedded := false, tag := "", pkgPath := "runtime", byteOffset := 24 }]), 4, 40, .agg #[.pointer none, .pointer none, .pointer none, .string ⟨#[]⟩]⟩
def td231 : TD := ⟨(TypeDesc.struct #[{ name := "_interface", type := 17, offset := 0, embedded := false, tag := "", pkgPath := "runtime", byteOffset := 0 }, { name := "concrete", type := 17, offset := 1, embedded := false, tag := "", pkgPath := "runtime", byteOffset := 8 }, { name := "asserted", type := 17, offset := 2, embedded := false, tag := "", pkgPath := "runtime", byteOffset := 16 }, { name := "missingMethod", type := 9, offset := 3, embedded := false, tag := "", pkgPath := "runtime", byteOffset := 24 }]), 4, 40, .agg #[.pointer none, .pointer none, .pointer none, .string ⟨#[]⟩]⟩
def td235 : TD := ⟨(TypeDesc.func #[] #[3] false), 1, 8, .nilFunc⟩
def td236 : TD := ⟨(TypeDesc.int IntKind.u8), 1, 1, .int .u8 0⟩
def td237 : TD := ⟨(TypeDesc.int IntKind.u8), 1, 1, .int .u8 0⟩
def td238 : TD := ⟨(TypeDesc.func #[244, 244] #[4] false), 1, 8, .nilFunc⟩
def td239 : TD := ⟨(TypeDesc.pointer 5), 1, 8, .pointer none⟩
def td240 : TD := ⟨(TypeDesc.int IntKind.i32), 1, 4, .int .i32 0⟩
def td241 : TD := ⟨(TypeDesc.int IntKind.i32), 1, 4, .int .i32 0⟩
def td242 : TD := ⟨(TypeDesc.struct #[{ name := "Size_", type := 12, offset := 0, embedded := false, tag := "", pkgPath := "", byteOffset := 0 }, { name := "PtrBytes", type := 12, offset := 1, embedded := false, tag := "", pkgPath := "", byteOffset := 8 }, { name := "Hash", type := 174, offset := 2, embedded := false, tag := "", pkgPath := "", byteOffset := 16 }, { name := "TFlag", type := 236, offset := 3, embedded := false, tag := "", pkgPath := "", byteOffset := 20 }, { name := "Align_", type := 5, offset := 4, embedded := false, tag := "", pkgPath := "", byteOffset := 21 }, { name := "FieldAlign_", type := 5, offset := 5, embedded := false, tag := "", pkgPath := "", byteOffset := 22 }, { name := "Kind_", type := 237, offset := 6, embedded := false, tag := "", pkgPath := "", byteOffset := 23 }, { name := "Equal", type := 238, offset := 7, embedded := false, tag := "", pkgPath := "", byteOffset := 24 }, { name := "GCData", type := 239, offset := 8, embedded := false, tag := "", pkgPath := "", byteOffset := 32 }, { name := "Str", type := 240, offset := 9, embedded := false, tag := "", pkgPath := "", byteOffset := 40 }, { name := "PtrToThis", type := 241, offset := 10, embedded := false, tag := "", pkgPath := "", byteOffset := 44 }]), 11, 48, .agg #[.int .u64 0, .int .u64 0, .int .u32 0, .int .u8 0, .int .u8 0, .int .u8 0, .int .u8 0, .nilFunc, .pointer none, .int .i32 0, .int .i32 0]⟩
def td243 : TD := ⟨(TypeDesc.struct #[{ name := "Size_", type := 12, offset := 0, embedded := false, tag := "", pkgPath := "", byteOffset := 0 }, { name := "PtrBytes", type := 12, offset := 1, embedded := false, tag := "", pkgPath := "", byteOffset := 8 }, { name := "Hash", type := 174, offset := 2, embedded := false, tag := "", pkgPath := "", byteOffset := 16 }, { name := "TFlag", type := 236, offset := 3, embedded := false, tag := "", pkgPath := "", byteOffset := 20 }, { name := "Align_", type := 5, offset := 4, embedded := false, tag := "", pkgPath := "", byteOffset := 21 }, { name := "FieldAlign_", type := 5, offset := 5, embedded := false, tag := "", pkgPath := "", byteOffset := 22 }, { name := "Kind_", type := 237, offset := 6, embedded := false, tag := "", pkgPath := "", byteOffset := 23 }, { name := "Equal", type := 238, offset := 7, embedded := false, tag := "", pkgPath := "", byteOffset := 24 }, { name := "GCData", type := 239, offset := 8, embedded := false, tag := "", pkgPath := "", byteOffset := 32 }, { name := "Str", type := 240, offset := 9, embedded := false, tag := "", pkgPath := "", byteOffset := 40 }, { name := "PtrToThis", type := 241, offset := 10, embedded := false, tag := "", pkgPath := "", byteOffset := 44 }]), 11, 48, .agg #[.int .u64 0, .int .u64 0, .int .u32 0, .int .u8 0, .int .u8 0, .int .u8 0, .int .u8 0, .nilFunc, .pointer none, .int .i32 0, .int .i32 0]⟩
inductive TT where
  | leaf
  | node (k : Nat) (v : TD) (l r : TT)
def findT : TT → TypeId → Option TD
  | .leaf, _ => none
  | .node k v l r, t => bif Nat.beq t k then some v else bif Nat.ble t k then findT l t else findT r t
def allT : TT → Prop
  | .leaf => True
  | .node k v l r => TiOk k v ∧ allT l ∧ allT r
theorem findT_ok : ∀ {x : TT}, allT x → TabOk prog (findT x)
  | .leaf, _ => fun t td h => by cases h
  | .node k v l r, h => fun t td ht => by
    unfold findT at ht
    cases hk : Nat.beq t k with
    | true =>
      rw [hk] at ht
      simp only [cond_true, Option.some.injEq] at ht
      subst ht
      rw [Nat.eq_of_beq_eq_true hk]
      have h1 := h.1
      unfold TiOk at h1
      exact h1
    | false =>
      rw [hk] at ht
      cases hl : Nat.ble t k with
      | true => rw [hl] at ht; exact findT_ok h.2.1 t td ht
      | false => rw [hl] at ht; exact findT_ok h.2.2 t td ht
def tabT : TT := (.node 126 td126 (.node 61 td61 (.node 29 td29 (.node 14 td14 (.node 7 td7 (.node 4 td4 (.node 2 td2 (.node 1 td1 .leaf .leaf) (.node 3 td3 .leaf .leaf)) (.node 6 td6 (.node 5 td5 .leaf .leaf) .leaf)) (.node 11 td11 (.node 9 td9 (.node 8 td8 .leaf .leaf) (.node 10 td10 .leaf .leaf)) (.node 13 td13 (.node 12 td12 .leaf .leaf) .leaf))) (.node 22 td22 (.node 18 td18 (.node 16 td16 (.node 15 td15 .leaf .leaf) (.node 17 td17 .leaf .leaf)) (.node 21 td21 (.node 19 td19 .leaf .leaf) .leaf)) (.node 26 td26 (.node 24 td24 (.node 23 td23 .leaf .leaf) (.node 25 td25 .leaf .leaf)) (.node 28 td28 (.node 27 td27 .leaf .leaf) .leaf)))) (.node 47 td47 (.node 38 td38 (.node 34 td34 (.node 31 td31 (.node 30 td30 .leaf .leaf) (.node 32 td32 .leaf .leaf)) (.node 37 td37 (.node 36 td36 .leaf .leaf) .leaf)) (.node 43 td43 (.node 40 td40 (.node 39 td39 .leaf .leaf) (.node 41 td41 .leaf .leaf)) (.node 45 td45 (.node 44 td44 .leaf .leaf) .leaf))) (.node 54 td54 (.node 51 td51 (.node 49 td49 (.node 48 td48 .leaf .leaf) (.node 50 td50 .leaf .leaf)) (.node 53 td53 (.node 52 td52 .leaf .leaf) .leaf)) (.node 58 td58 (.node 57 td57 (.node 55 td55 .leaf .leaf) .leaf) (.node 60 td60 (.node 59 td59 .leaf .leaf) .leaf))))) (.node 94 td94 (.node 77 td77 (.node 69 td69 (.node 65 td65 (.node 63 td63 (.node 62 td62 .leaf .leaf) (.node 64 td64 .leaf .leaf)) (.node 67 td67 (.node 66 td66 .leaf .leaf) .leaf)) (.node 74 td74 (.node 72 td72 (.node 70 td70 .leaf .leaf) (.node 73 td73 .leaf .leaf)) (.node 76 td76 (.node 75 td75 .leaf .leaf) .leaf))) (.node 85 td85 (.node 82 td82 (.node 79 td79 (.node 78 td78 .leaf .leaf) (.node 80 td80 .leaf .leaf)) (.node 84 td84 (.node 83 td83 .leaf .leaf) .leaf)) (.node 91 td91 (.node 88 td88 (.node 86 td86 .leaf .leaf) (.node 90 td90 .leaf .leaf)) (.node 93 td93 (.node 92 td92 .leaf .leaf) .leaf)))) (.node 112 td112 (.node 103 td103 (.node 98 td98 (.node 96 td96 (.node 95 td95 .leaf .leaf) (.node 97 td97 .leaf .leaf)) (.node 101 td101 (.node 99 td99 .leaf .leaf) .leaf)) (.node 108 td108 (.node 106 td106 (.node 104 td104 .leaf .leaf) (.node 107 td107 .leaf .leaf)) (.node 111 td111 (.node 110 td110 .leaf .leaf) .leaf))) (.node 120 td120 (.node 117 td117 (.node 115 td115 (.node 113 td113 .leaf .leaf) (.node 116 td116 .leaf .leaf)) (.node 119 td119 (.node 118 td118 .leaf .leaf) .leaf)) (.node 123 td123 (.node 122 td122 (.node 121 td121 .leaf .leaf) .leaf) (.node 125 td125 (.node 124 td124 .leaf .leaf) .leaf)))))) (.node 182 td182 (.node 154 td154 (.node 140 td140 (.node 133 td133 (.node 130 td130 (.node 128 td128 (.node 127 td127 .leaf .leaf) (.node 129 td129 .leaf .leaf)) (.node 132 td132 (.node 131 td131 .leaf .leaf) .leaf)) (.node 137 td137 (.node 135 td135 (.node 134 td134 .leaf .leaf) (.node 136 td136 .leaf .leaf)) (.node 139 td139 (.node 138 td138 .leaf .leaf) .leaf))) (.node 147 td147 (.node 144 td144 (.node 142 td142 (.node 141 td141 .leaf .leaf) (.node 143 td143 .leaf .leaf)) (.node 146 td146 (.node 145 td145 .leaf .leaf) .leaf)) (.node 151 td151 (.node 149 td149 (.node 148 td148 .leaf .leaf) (.node 150 td150 .leaf .leaf)) (.node 153 td153 (.node 152 td152 .leaf .leaf) .leaf)))) (.node 168 td168 (.node 161 td161 (.node 158 td158 (.node 156 td156 (.node 155 td155 .leaf .leaf) (.node 157 td157 .leaf .leaf)) (.node 160 td160 (.node 159 td159 .leaf .leaf) .leaf)) (.node 165 td165 (.node 163 td163 (.node 162 td162 .leaf .leaf) (.node 164 td164 .leaf .leaf)) (.node 167 td167 (.node 166 td166 .leaf .leaf) .leaf))) (.node 175 td175 (.node 172 td172 (.node 170 td170 (.node 169 td169 .leaf .leaf) (.node 171 td171 .leaf .leaf)) (.node 174 td174 (.node 173 td173 .leaf .leaf) .leaf)) (.node 178 td178 (.node 177 td177 (.node 176 td176 .leaf .leaf) .leaf) (.node 181 td181 (.node 180 td180 .leaf .leaf) .leaf))))) (.node 211 td211 (.node 198 td198 (.node 190 td190 (.node 187 td187 (.node 184 td184 (.node 183 td183 .leaf .leaf) (.node 186 td186 .leaf .leaf)) (.node 189 td189 (.node 188 td188 .leaf .leaf) .leaf)) (.node 194 td194 (.node 192 td192 (.node 191 td191 .leaf .leaf) (.node 193 td193 .leaf .leaf)) (.node 196 td196 (.node 195 td195 .leaf .leaf) .leaf))) (.node 205 td205 (.node 202 td202 (.node 200 td200 (.node 199 td199 .leaf .leaf) (.node 201 td201 .leaf .leaf)) (.node 204 td204 (.node 203 td203 .leaf .leaf) .leaf)) (.node 208 td208 (.node 207 td207 (.node 206 td206 .leaf .leaf) .leaf) (.node 210 td210 (.node 209 td209 .leaf .leaf) .leaf)))) (.node 228 td228 (.node 219 td219 (.node 216 td216 (.node 214 td214 (.node 212 td212 .leaf .leaf) (.node 215 td215 .leaf .leaf)) (.node 218 td218 (.node 217 td217 .leaf .leaf) .leaf)) (.node 225 td225 (.node 221 td221 (.node 220 td220 .leaf .leaf) (.node 223 td223 .leaf .leaf)) (.node 227 td227 (.node 226 td226 .leaf .leaf) .leaf))) (.node 238 td238 (.node 235 td235 (.node 230 td230 (.node 229 td229 .leaf .leaf) (.node 231 td231 .leaf .leaf)) (.node 237 td237 (.node 236 td236 .leaf .leaf) .leaf)) (.node 241 td241 (.node 240 td240 (.node 239 td239 .leaf .leaf) .leaf) (.node 243 td243 (.node 242 td242 .leaf .leaf) .leaf)))))))
abbrev tab : Tab := findT tabT
theorem hτ : TabOk prog tab := findT_ok (show allT tabT from ⟨tiOk underlying126 ti126, ⟨tiOk underlying61 ti61, ⟨tiOk underlying29 ti29, ⟨tiOk underlying14 ti14, ⟨tiOk underlying7 ti7, ⟨tiOk underlying4 ti4, ⟨tiOk underlying2 ti2, ⟨tiOk underlying1 ti1, trivial, trivial⟩, ⟨tiOk underlying3 ti3, trivial, trivial⟩⟩, ⟨tiOk underlying6 ti6, ⟨tiOk underlying5 ti5, trivial, trivial⟩, trivial⟩⟩, ⟨tiOk underlying11 ti11, ⟨tiOk underlying9 ti9, ⟨tiOk underlying8 ti8, trivial, trivial⟩, ⟨tiOk underlying10 ti10, trivial, trivial⟩⟩, ⟨tiOk underlying13 ti13, ⟨tiOk underlying12 ti12, trivial, trivial⟩, trivial⟩⟩⟩, ⟨tiOk underlying22 ti22, ⟨tiOk underlying18 ti18, ⟨tiOk underlying16 ti16, ⟨tiOk underlying15 ti15, trivial, trivial⟩, ⟨tiOk underlying17 ti17, trivial, trivial⟩⟩, ⟨tiOk underlying21 ti21, ⟨tiOk underlying19 ti19, trivial, trivial⟩, trivial⟩⟩, ⟨tiOk underlying26 ti26, ⟨tiOk underlying24 ti24, ⟨tiOk underlying23 ti23, trivial, trivial⟩, ⟨tiOk underlying25 ti25, trivial, trivial⟩⟩, ⟨tiOk underlying28 ti28, ⟨tiOk underlying27 ti27, trivial, trivial⟩, trivial⟩⟩⟩⟩, ⟨tiOk underlying47 ti47, ⟨tiOk underlying38 ti38, ⟨tiOk underlying34 ti34, ⟨tiOk underlying31 ti31, ⟨tiOk underlying30 ti30, trivial, trivial⟩, ⟨tiOk underlying32 ti32, trivial, trivial⟩⟩, ⟨tiOk underlying37 ti37, ⟨tiOk underlying36 ti36, trivial, trivial⟩, trivial⟩⟩, ⟨tiOk underlying43 ti43, ⟨tiOk underlying40 ti40, ⟨tiOk underlying39 ti39, trivial, trivial⟩, ⟨tiOk underlying41 ti41, trivial, trivial⟩⟩, ⟨tiOk underlying45 ti45, ⟨tiOk underlying44 ti44, trivial, trivial⟩, trivial⟩⟩⟩, ⟨tiOk underlying54 ti54, ⟨tiOk underlying51 ti51, ⟨tiOk underlying49 ti49, ⟨tiOk underlying48 ti48, trivial, trivial⟩, ⟨tiOk underlying50 ti50, trivial, trivial⟩⟩, ⟨tiOk underlying53 ti53, ⟨tiOk underlying52 ti52, trivial, trivial⟩, trivial⟩⟩, ⟨tiOk underlying58 ti58, ⟨tiOk underlying57 ti57, ⟨tiOk underlying55 ti55, trivial, trivial⟩, trivial⟩, ⟨tiOk underlying60 ti60, ⟨tiOk underlying59 ti59, trivial, trivial⟩, trivial⟩⟩⟩⟩⟩, ⟨tiOk underlying94 ti94, ⟨tiOk underlying77 ti77, ⟨tiOk underlying69 ti69, ⟨tiOk underlying65 ti65, ⟨tiOk underlying63 ti63, ⟨tiOk underlying62 ti62, trivial, trivial⟩, ⟨tiOk underlying64 ti64, trivial, trivial⟩⟩, ⟨tiOk underlying67 ti67, ⟨tiOk underlying66 ti66, trivial, trivial⟩, trivial⟩⟩, ⟨tiOk underlying74 ti74, ⟨tiOk underlying72 ti72, ⟨tiOk underlying70 ti70, trivial, trivial⟩, ⟨tiOk underlying73 ti73, trivial, trivial⟩⟩, ⟨tiOk underlying76 ti76, ⟨tiOk underlying75 ti75, trivial, trivial⟩, trivial⟩⟩⟩, ⟨tiOk underlying85 ti85, ⟨tiOk underlying82 ti82, ⟨tiOk underlying79 ti79, ⟨tiOk underlying78 ti78, trivial, trivial⟩, ⟨tiOk underlying80 ti80, trivial, trivial⟩⟩, ⟨tiOk underlying84 ti84, ⟨tiOk underlying83 ti83, trivial, trivial⟩, trivial⟩⟩, ⟨tiOk underlying91 ti91, ⟨tiOk underlying88 ti88, ⟨tiOk underlying86 ti86, trivial, trivial⟩, ⟨tiOk underlying90 ti90, trivial, trivial⟩⟩, ⟨tiOk underlying93 ti93, ⟨tiOk underlying92 ti92, trivial, trivial⟩, trivial⟩⟩⟩⟩, ⟨tiOk underlying112 ti112, ⟨tiOk underlying103 ti103, ⟨tiOk underlying98 ti98, ⟨tiOk underlying96 ti96, ⟨tiOk underlying95 ti95, trivial, trivial⟩, ⟨tiOk underlying97 ti97, trivial, trivial⟩⟩, ⟨tiOk underlying101 ti101, ⟨tiOk underlying99 ti99, trivial, trivial⟩, trivial⟩⟩, ⟨tiOk underlying108 ti108, ⟨tiOk underlying106 ti106, ⟨tiOk underlying104 ti104, trivial, trivial⟩, ⟨tiOk underlying107 ti107, trivial, trivial⟩⟩, ⟨tiOk underlying111 ti111, ⟨tiOk underlying110 ti110, trivial, trivial⟩, trivial⟩⟩⟩, ⟨tiOk underlying120 ti120, ⟨tiOk underlying117 ti117, ⟨tiOk underlying115 ti115, ⟨tiOk underlying113 ti113, trivial, trivial⟩, ⟨tiOk underlying116 ti116, trivial, trivial⟩⟩, ⟨tiOk underlying119 ti119, ⟨tiOk underlying118 ti118, trivial, trivial⟩, trivial⟩⟩, ⟨tiOk underlying123 ti123, ⟨tiOk underlying122 ti122, ⟨tiOk underlying121 ti121, trivial, trivial⟩, trivial⟩, ⟨tiOk underlying125 ti125, ⟨tiOk underlying124 ti124, trivial, trivial⟩, trivial⟩⟩⟩⟩⟩⟩, ⟨tiOk underlying182 ti182, ⟨tiOk underlying154 ti154, ⟨tiOk underlying140 ti140, ⟨tiOk underlying133 ti133, ⟨tiOk underlying130 ti130, ⟨tiOk underlying128 ti128, ⟨tiOk underlying127 ti127, trivial, trivial⟩, ⟨tiOk underlying129 ti129, trivial, trivial⟩⟩, ⟨tiOk underlying132 ti132, ⟨tiOk underlying131 ti131, trivial, trivial⟩, trivial⟩⟩, ⟨tiOk underlying137 ti137, ⟨tiOk underlying135 ti135, ⟨tiOk underlying134 ti134, trivial, trivial⟩, ⟨tiOk underlying136 ti136, trivial, trivial⟩⟩, ⟨tiOk underlying139 ti139, ⟨tiOk underlying138 ti138, trivial, trivial⟩, trivial⟩⟩⟩, ⟨tiOk underlying147 ti147, ⟨tiOk underlying144 ti144, ⟨tiOk underlying142 ti142, ⟨tiOk underlying141 ti141, trivial, trivial⟩, ⟨tiOk underlying143 ti143, trivial, trivial⟩⟩, ⟨tiOk underlying146 ti146, ⟨tiOk underlying145 ti145, trivial, trivial⟩, trivial⟩⟩, ⟨tiOk underlying151 ti151, ⟨tiOk underlying149 ti149, ⟨tiOk underlying148 ti148, trivial, trivial⟩, ⟨tiOk underlying150 ti150, trivial, trivial⟩⟩, ⟨tiOk underlying153 ti153, ⟨tiOk underlying152 ti152, trivial, trivial⟩, trivial⟩⟩⟩⟩, ⟨tiOk underlying168 ti168, ⟨tiOk underlying161 ti161, ⟨tiOk underlying158 ti158, ⟨tiOk underlying156 ti156, ⟨tiOk underlying155 ti155, trivial, trivial⟩, ⟨tiOk underlying157 ti157, trivial, trivial⟩⟩, ⟨tiOk underlying160 ti160, ⟨tiOk underlying159 ti159, trivial, trivial⟩, trivial⟩⟩, ⟨tiOk underlying165 ti165, ⟨tiOk underlying163 ti163, ⟨tiOk underlying162 ti162, trivial, trivial⟩, ⟨tiOk underlying164 ti164, trivial, trivial⟩⟩, ⟨tiOk underlying167 ti167, ⟨tiOk underlying166 ti166, trivial, trivial⟩, trivial⟩⟩⟩, ⟨tiOk underlying175 ti175, ⟨tiOk underlying172 ti172, ⟨tiOk underlying170 ti170, ⟨tiOk underlying169 ti169, trivial, trivial⟩, ⟨tiOk underlying171 ti171, trivial, trivial⟩⟩, ⟨tiOk underlying174 ti174, ⟨tiOk underlying173 ti173, trivial, trivial⟩, trivial⟩⟩, ⟨tiOk underlying178 ti178, ⟨tiOk underlying177 ti177, ⟨tiOk underlying176 ti176, trivial, trivial⟩, trivial⟩, ⟨tiOk underlying181 ti181, ⟨tiOk underlying180 ti180, trivial, trivial⟩, trivial⟩⟩⟩⟩⟩, ⟨tiOk underlying211 ti211, ⟨tiOk underlying198 ti198, ⟨tiOk underlying190 ti190, ⟨tiOk underlying187 ti187, ⟨tiOk underlying184 ti184, ⟨tiOk underlying183 ti183, trivial, trivial⟩, ⟨tiOk underlying186 ti186, trivial, trivial⟩⟩, ⟨tiOk underlying189 ti189, ⟨tiOk underlying188 ti188, trivial, trivial⟩, trivial⟩⟩, ⟨tiOk underlying194 ti194, ⟨tiOk underlying192 ti192, ⟨tiOk underlying191 ti191, trivial, trivial⟩, ⟨tiOk underlying193 ti193, trivial, trivial⟩⟩, ⟨tiOk underlying196 ti196, ⟨tiOk underlying195 ti195, trivial, trivial⟩, trivial⟩⟩⟩, ⟨tiOk underlying205 ti205, ⟨tiOk underlying202 ti202, ⟨tiOk underlying200 ti200, ⟨tiOk underlying199 ti199, trivial, trivial⟩, ⟨tiOk underlying201 ti201, trivial, trivial⟩⟩, ⟨tiOk underlying204 ti204, ⟨tiOk underlying203 ti203, trivial, trivial⟩, trivial⟩⟩, ⟨tiOk underlying208 ti208, ⟨tiOk underlying207 ti207, ⟨tiOk underlying206 ti206, trivial, trivial⟩, trivial⟩, ⟨tiOk underlying210 ti210, ⟨tiOk underlying209 ti209, trivial, trivial⟩, trivial⟩⟩⟩⟩, ⟨tiOk underlying228 ti228, ⟨tiOk underlying219 ti219, ⟨tiOk underlying216 ti216, ⟨tiOk underlying214 ti214, ⟨tiOk underlying212 ti212, trivial, trivial⟩, ⟨tiOk underlying215 ti215, trivial, trivial⟩⟩, ⟨tiOk underlying218 ti218, ⟨tiOk underlying217 ti217, trivial, trivial⟩, trivial⟩⟩, ⟨tiOk underlying225 ti225, ⟨tiOk underlying221 ti221, ⟨tiOk underlying220 ti220, trivial, trivial⟩, ⟨tiOk underlying223 ti223, trivial, trivial⟩⟩, ⟨tiOk underlying227 ti227, ⟨tiOk underlying226 ti226, trivial, trivial⟩, trivial⟩⟩⟩, ⟨tiOk underlying238 ti238, ⟨tiOk underlying235 ti235, ⟨tiOk underlying230 ti230, ⟨tiOk underlying229 ti229, trivial, trivial⟩, ⟨tiOk underlying231 ti231, trivial, trivial⟩⟩, ⟨tiOk underlying237 ti237, ⟨tiOk underlying236 ti236, trivial, trivial⟩, trivial⟩⟩, ⟨tiOk underlying241 ti241, ⟨tiOk underlying240 ti240, ⟨tiOk underlying239 ti239, trivial, trivial⟩, trivial⟩, ⟨tiOk underlying243 ti243, ⟨tiOk underlying242 ti242, trivial, trivial⟩, trivial⟩⟩⟩⟩⟩⟩⟩)
theorem mixed : prog.follows .mixedOrders = true := by kernel_rfl
end Go.Proofs.Ytkagbffdmppbhaa.AWN
