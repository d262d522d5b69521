/- The types of the program, as the calculus reads them. -/
import Derived.Test.YtkagbffdmppbhaaDoorProg
import Derived.KernelRfl
import Derived.Test.YtkagbffdmppbhaaDoorCalcB
import Derived.Test.YtkagbffdmppbhaaDoorCalcC
import Derived.Shelf.Strconv.Itoa4
import Derived.Shelf.SlGeneric
import Derived.Shelf.Strings.Builder1
import Derived.Lib.Builder
import Derived.Lib.AppendStr
import Derived.BigCall
import Derived.LoopTactic
set_option linter.unusedVariables false
set_option linter.unusedSimpArgs false
set_option linter.unusedSectionVars false
namespace Go.Proofs.YtkagbffdmppbhaaDoor.AWN
open Go Go.Proofs.Tryd
def TiOk (t : TypeId) (td : TD) : Prop := prog.underlying t = some td.desc ∧ ∃ i, prog.info? t = some i ∧ i.size = td.size ∧ i.bytes = td.bytes ∧ i.zero = some td.zero
theorem tiOk {t : TypeId} {td : TD} (h : prog.underlying t = some td.desc) (h' : (prog.info? t).map (fun i => (i.size, i.bytes, i.zero)) = some (td.size, td.bytes, some td.zero)) : TiOk t td := by
  refine ⟨h, ?_⟩
  cases hi : prog.info? t with
  | none => rw [hi] at h'; cases h'
  | some i =>
    rw [hi] at h'
    simp only [Option.map_some, Option.some.injEq, Prod.mk.injEq] at h'
    exact ⟨i, rfl, h'.1, h'.2.1, h'.2.2⟩

theorem ti1 : (prog.info? 1).map (fun i => (i.size, i.bytes, i.zero)) = some (1, 8, some (.nilFunc)) := by kernel_rfl
theorem ti2 : (prog.info? 2).map (fun i => (i.size, i.bytes, i.zero)) = some (1, 8, some (.int .i64 0)) := by kernel_rfl
theorem ti3 : (prog.info? 3).map (fun i => (i.size, i.bytes, i.zero)) = some (1, 8, some (.int .i64 0)) := by kernel_rfl
theorem ti4 : (prog.info? 4).map (fun i => (i.size, i.bytes, i.zero)) = some (1, 1, some (.bool false)) := by kernel_rfl
theorem ti5 : (prog.info? 5).map (fun i => (i.size, i.bytes, i.zero)) = some (1, 1, some (.int .u8 0)) := by kernel_rfl
theorem ti6 : (prog.info? 6).map (fun i => (i.size, i.bytes, i.zero)) = some (1, 1, some (.int .u8 0)) := by kernel_rfl
theorem ti7 : (prog.info? 7).map (fun i => (i.size, i.bytes, i.zero)) = some (4, 24, some (.agg #[.int .i64 0, .int .i64 0, .bool false, .int .u8 0])) := by kernel_rfl
theorem ti8 : (prog.info? 8).map (fun i => (i.size, i.bytes, i.zero)) = some (4, 24, some (.agg #[.int .i64 0, .int .i64 0, .bool false, .int .u8 0])) := by kernel_rfl
theorem ti9 : (prog.info? 9).map (fun i => (i.size, i.bytes, i.zero)) = some (1, 16, some (.string ⟨#[]⟩)) := by kernel_rfl
theorem ti10 : (prog.info? 10).map (fun i => (i.size, i.bytes, i.zero)) = some (1, 16, some (.string ⟨#[]⟩)) := by kernel_rfl
theorem ti11 : (prog.info? 11).map (fun i => (i.size, i.bytes, i.zero)) = some (1, 16, some (.string ⟨#[]⟩)) := by kernel_rfl
theorem ti12 : (prog.info? 12).map (fun i => (i.size, i.bytes, i.zero)) = some (1, 8, some (.int .u64 0)) := by kernel_rfl
theorem ti13 : (prog.info? 13).map (fun i => (i.size, i.bytes, i.zero)) = some (2, 24, some (.agg #[.string ⟨#[]⟩, .int .u64 0])) := by kernel_rfl
theorem ti14 : (prog.info? 14).map (fun i => (i.size, i.bytes, i.zero)) = some (2, 24, some (.agg #[.string ⟨#[]⟩, .int .u64 0])) := by kernel_rfl
theorem ti15 : (prog.info? 15).map (fun i => (i.size, i.bytes, i.zero)) = some (1, 8, some (.pointer none)) := by kernel_rfl
theorem ti16 : (prog.info? 16).map (fun i => (i.size, i.bytes, i.zero)) = some (1, 8, some (.pointer none)) := by kernel_rfl
theorem ti17 : (prog.info? 17).map (fun i => (i.size, i.bytes, i.zero)) = some (1, 8, some (.pointer none)) := by kernel_rfl
theorem ti18 : (prog.info? 18).map (fun i => (i.size, i.bytes, i.zero)) = some (1, 8, some (.agg #[.pointer none])) := by kernel_rfl
theorem ti19 : (prog.info? 19).map (fun i => (i.size, i.bytes, i.zero)) = some (1, 8, some (.agg #[.pointer none])) := by kernel_rfl
theorem ti21 : (prog.info? 21).map (fun i => (i.size, i.bytes, i.zero)) = some (1, 4, some (.int .i32 0)) := by kernel_rfl
theorem ti22 : (prog.info? 22).map (fun i => (i.size, i.bytes, i.zero)) = some (1, 24, some (.slice none 0 0)) := by kernel_rfl
theorem ti23 : (prog.info? 23).map (fun i => (i.size, i.bytes, i.zero)) = some (1, 8, some (.nilFunc)) := by kernel_rfl
theorem ti24 : (prog.info? 24).map (fun i => (i.size, i.bytes, i.zero)) = some (1, 8, some (.complex .f32 0 0)) := by kernel_rfl
theorem ti25 : (prog.info? 25).map (fun i => (i.size, i.bytes, i.zero)) = some (3, 24, some (.agg #[.complex .f32 0 0, .complex .f32 0 0, .complex .f32 0 0])) := by kernel_rfl
theorem ti26 : (prog.info? 26).map (fun i => (i.size, i.bytes, i.zero)) = some (3, 24, some (.agg #[.complex .f32 0 0, .complex .f32 0 0, .complex .f32 0 0])) := by kernel_rfl
theorem ti27 : (prog.info? 27).map (fun i => (i.size, i.bytes, i.zero)) = some (1, 24, some (.slice none 0 0)) := by kernel_rfl
theorem ti28 : (prog.info? 28).map (fun i => (i.size, i.bytes, i.zero)) = some (4, 48, some (.agg #[.complex .f32 0 0, .complex .f32 0 0, .complex .f32 0 0, .slice none 0 0])) := by kernel_rfl
theorem ti29 : (prog.info? 29).map (fun i => (i.size, i.bytes, i.zero)) = some (4, 48, some (.agg #[.complex .f32 0 0, .complex .f32 0 0, .complex .f32 0 0, .slice none 0 0])) := by kernel_rfl
theorem ti30 : (prog.info? 30).map (fun i => (i.size, i.bytes, i.zero)) = some (1, 24, some (.slice none 0 0)) := by kernel_rfl
theorem ti31 : (prog.info? 31).map (fun i => (i.size, i.bytes, i.zero)) = some (5, 72, some (.agg #[.complex .f32 0 0, .complex .f32 0 0, .complex .f32 0 0, .slice none 0 0, .slice none 0 0])) := by kernel_rfl
theorem ti32 : (prog.info? 32).map (fun i => (i.size, i.bytes, i.zero)) = some (5, 72, some (.agg #[.complex .f32 0 0, .complex .f32 0 0, .complex .f32 0 0, .slice none 0 0, .slice none 0 0])) := by kernel_rfl
theorem ti33 : (prog.info? 33).map (fun i => (i.size, i.bytes, i.zero)) = some (1, 8, some (.nilFunc)) := by kernel_rfl
theorem ti34 : (prog.info? 34).map (fun i => (i.size, i.bytes, i.zero)) = some (1, 8, some (.nilFunc)) := by kernel_rfl
theorem ti35 : (prog.info? 35).map (fun i => (i.size, i.bytes, i.zero)) = some (1, 8, some (.nilFunc)) := by kernel_rfl
theorem ti36 : (prog.info? 36).map (fun i => (i.size, i.bytes, i.zero)) = some (1, 24, some (.slice none 0 0)) := by kernel_rfl
theorem ti37 : (prog.info? 37).map (fun i => (i.size, i.bytes, i.zero)) = some (5, 40, some (.agg #[.int .i64 0, .int .i64 0, .complex .f32 0 0, .complex .f32 0 0, .int .i64 0])) := by kernel_rfl
theorem ti38 : (prog.info? 38).map (fun i => (i.size, i.bytes, i.zero)) = some (5, 40, some (.agg #[.int .i64 0, .int .i64 0, .complex .f32 0 0, .complex .f32 0 0, .int .i64 0])) := by kernel_rfl
theorem ti40 : (prog.info? 40).map (fun i => (i.size, i.bytes, i.zero)) = some (1, 8, some (.nilFunc)) := by kernel_rfl
theorem ti41 : (prog.info? 41).map (fun i => (i.size, i.bytes, i.zero)) = some (1, 24, some (.slice none 0 0)) := by kernel_rfl
theorem ti43 : (prog.info? 43).map (fun i => (i.size, i.bytes, i.zero)) = some (1, 8, some (.nilFunc)) := by kernel_rfl
theorem ti44 : (prog.info? 44).map (fun i => (i.size, i.bytes, i.zero)) = some (1, 8, some (.nilFunc)) := by kernel_rfl
theorem ti46 : (prog.info? 46).map (fun i => (i.size, i.bytes, i.zero)) = some (1, 8, some (.nilFunc)) := by kernel_rfl
theorem ti47 : (prog.info? 47).map (fun i => (i.size, i.bytes, i.zero)) = some (1, 8, some (.nilFunc)) := by kernel_rfl
theorem ti49 : (prog.info? 49).map (fun i => (i.size, i.bytes, i.zero)) = some (1, 8, some (.nilFunc)) := by kernel_rfl
theorem ti50 : (prog.info? 50).map (fun i => (i.size, i.bytes, i.zero)) = some (1, 24, some (.slice none 0 0)) := by kernel_rfl
theorem ti51 : (prog.info? 51).map (fun i => (i.size, i.bytes, i.zero)) = some (1, 8, some (.nilFunc)) := by kernel_rfl
theorem ti53 : (prog.info? 53).map (fun i => (i.size, i.bytes, i.zero)) = some (1, 8, some (.nilFunc)) := by kernel_rfl
theorem ti54 : (prog.info? 54).map (fun i => (i.size, i.bytes, i.zero)) = some (1, 8, some (.nilFunc)) := by kernel_rfl
theorem ti55 : (prog.info? 55).map (fun i => (i.size, i.bytes, i.zero)) = some (1, 8, some (.nilFunc)) := by kernel_rfl
theorem ti56 : (prog.info? 56).map (fun i => (i.size, i.bytes, i.zero)) = some (1, 8, some (.nilFunc)) := by kernel_rfl
theorem ti58 : (prog.info? 58).map (fun i => (i.size, i.bytes, i.zero)) = some (1, 8, some (.nilFunc)) := by kernel_rfl
theorem ti59 : (prog.info? 59).map (fun i => (i.size, i.bytes, i.zero)) = some (1, 8, some (.nilFunc)) := by kernel_rfl
theorem ti60 : (prog.info? 60).map (fun i => (i.size, i.bytes, i.zero)) = some (1, 8, some (.int .u64 0)) := by kernel_rfl
theorem ti62 : (prog.info? 62).map (fun i => (i.size, i.bytes, i.zero)) = some (1, 8, some (.nilFunc)) := by kernel_rfl
theorem ti63 : (prog.info? 63).map (fun i => (i.size, i.bytes, i.zero)) = some (1, 8, some (.nilFunc)) := by kernel_rfl
theorem ti64 : (prog.info? 64).map (fun i => (i.size, i.bytes, i.zero)) = some (1, 8, some (.pointer none)) := by kernel_rfl
theorem ti65 : (prog.info? 65).map (fun i => (i.size, i.bytes, i.zero)) = some (1, 8, some (.nilFunc)) := by kernel_rfl
theorem ti66 : (prog.info? 66).map (fun i => (i.size, i.bytes, i.zero)) = some (1, 8, some (.nilFunc)) := by kernel_rfl
theorem ti67 : (prog.info? 67).map (fun i => (i.size, i.bytes, i.zero)) = some (1, 8, some (.nilFunc)) := by kernel_rfl
theorem ti68 : (prog.info? 68).map (fun i => (i.size, i.bytes, i.zero)) = some (1, 8, some (.nilFunc)) := by kernel_rfl
theorem ti69 : (prog.info? 69).map (fun i => (i.size, i.bytes, i.zero)) = some (1, 8, some (.nilFunc)) := by kernel_rfl
theorem ti70 : (prog.info? 70).map (fun i => (i.size, i.bytes, i.zero)) = some (1, 8, some (.nilFunc)) := by kernel_rfl
theorem ti71 : (prog.info? 71).map (fun i => (i.size, i.bytes, i.zero)) = some (1, 8, some (.nilFunc)) := by kernel_rfl
theorem ti72 : (prog.info? 72).map (fun i => (i.size, i.bytes, i.zero)) = some (1, 8, some (.nilFunc)) := by kernel_rfl
theorem ti73 : (prog.info? 73).map (fun i => (i.size, i.bytes, i.zero)) = some (1, 8, some (.nilFunc)) := by kernel_rfl
theorem ti74 : (prog.info? 74).map (fun i => (i.size, i.bytes, i.zero)) = some (1, 8, some (.nilFunc)) := by kernel_rfl
theorem ti75 : (prog.info? 75).map (fun i => (i.size, i.bytes, i.zero)) = some (1, 8, some (.nilFunc)) := by kernel_rfl
theorem ti76 : (prog.info? 76).map (fun i => (i.size, i.bytes, i.zero)) = some (1, 8, some (.nilFunc)) := by kernel_rfl
theorem ti77 : (prog.info? 77).map (fun i => (i.size, i.bytes, i.zero)) = some (1, 8, some (.nilFunc)) := by kernel_rfl
theorem ti78 : (prog.info? 78).map (fun i => (i.size, i.bytes, i.zero)) = some (1, 8, some (.pointer none)) := by kernel_rfl
theorem ti79 : (prog.info? 79).map (fun i => (i.size, i.bytes, i.zero)) = some (2, 32, some (.agg #[.pointer none, .slice none 0 0])) := by kernel_rfl
theorem ti80 : (prog.info? 80).map (fun i => (i.size, i.bytes, i.zero)) = some (2, 32, some (.agg #[.pointer none, .slice none 0 0])) := by kernel_rfl
theorem ti81 : (prog.info? 81).map (fun i => (i.size, i.bytes, i.zero)) = some (1, 8, some (.nilFunc)) := by kernel_rfl
theorem ti82 : (prog.info? 82).map (fun i => (i.size, i.bytes, i.zero)) = some (1, 8, some (.nilFunc)) := by kernel_rfl
theorem ti83 : (prog.info? 83).map (fun i => (i.size, i.bytes, i.zero)) = some (1, 8, some (.nilFunc)) := by kernel_rfl
theorem ti87 : (prog.info? 87).map (fun i => (i.size, i.bytes, i.zero)) = some (1, 8, some (.nilFunc)) := by kernel_rfl
theorem ti88 : (prog.info? 88).map (fun i => (i.size, i.bytes, i.zero)) = some (1, 8, some (.nilFunc)) := by kernel_rfl
theorem ti89 : (prog.info? 89).map (fun i => (i.size, i.bytes, i.zero)) = some (1, 8, some (.nilFunc)) := by kernel_rfl
theorem ti90 : (prog.info? 90).map (fun i => (i.size, i.bytes, i.zero)) = some (1, 8, some (.nilFunc)) := by kernel_rfl
theorem ti91 : (prog.info? 91).map (fun i => (i.size, i.bytes, i.zero)) = some (1, 8, some (.nilFunc)) := by kernel_rfl
theorem ti92 : (prog.info? 92).map (fun i => (i.size, i.bytes, i.zero)) = some (1, 8, some (.nilFunc)) := by kernel_rfl
theorem ti93 : (prog.info? 93).map (fun i => (i.size, i.bytes, i.zero)) = some (1, 8, some (.nilFunc)) := by kernel_rfl
theorem ti95 : (prog.info? 95).map (fun i => (i.size, i.bytes, i.zero)) = some (1, 8, some (.nilFunc)) := by kernel_rfl
theorem ti96 : (prog.info? 96).map (fun i => (i.size, i.bytes, i.zero)) = some (1, 8, some (.nilFunc)) := by kernel_rfl
theorem ti97 : (prog.info? 97).map (fun i => (i.size, i.bytes, i.zero)) = some (1, 8, some (.nilFunc)) := by kernel_rfl
theorem ti99 : (prog.info? 99).map (fun i => (i.size, i.bytes, i.zero)) = some (1, 8, some (.nilFunc)) := by kernel_rfl
theorem ti100 : (prog.info? 100).map (fun i => (i.size, i.bytes, i.zero)) = some (1, 8, some (.nilFunc)) := by kernel_rfl
theorem ti101 : (prog.info? 101).map (fun i => (i.size, i.bytes, i.zero)) = some (1, 8, some (.int .u64 0)) := by kernel_rfl
theorem ti102 : (prog.info? 102).map (fun i => (i.size, i.bytes, i.zero)) = some (3, 40, some (.agg #[.slice none 0 0, .int .i64 0, .int .u64 0])) := by kernel_rfl
theorem ti103 : (prog.info? 103).map (fun i => (i.size, i.bytes, i.zero)) = some (3, 40, some (.agg #[.slice none 0 0, .int .i64 0, .int .u64 0])) := by kernel_rfl
theorem ti104 : (prog.info? 104).map (fun i => (i.size, i.bytes, i.zero)) = some (1, 8, some (.nilFunc)) := by kernel_rfl
theorem ti105 : (prog.info? 105).map (fun i => (i.size, i.bytes, i.zero)) = some (1, 8, some (.nilFunc)) := by kernel_rfl
theorem ti106 : (prog.info? 106).map (fun i => (i.size, i.bytes, i.zero)) = some (8, 64, some (.agg #[.int .i64 0, .complex .f32 0 0, .complex .f32 0 0, .int .i64 0, .complex .f32 0 0, .complex .f32 0 0, .complex .f32 0 0, .int .i64 0])) := by kernel_rfl
theorem ti107 : (prog.info? 107).map (fun i => (i.size, i.bytes, i.zero)) = some (8, 64, some (.agg #[.int .i64 0, .complex .f32 0 0, .complex .f32 0 0, .int .i64 0, .complex .f32 0 0, .complex .f32 0 0, .complex .f32 0 0, .int .i64 0])) := by kernel_rfl
theorem ti108 : (prog.info? 108).map (fun i => (i.size, i.bytes, i.zero)) = some (1, 8, some (.nilFunc)) := by kernel_rfl
theorem ti109 : (prog.info? 109).map (fun i => (i.size, i.bytes, i.zero)) = some (1, 8, some (.nilFunc)) := by kernel_rfl
theorem ti110 : (prog.info? 110).map (fun i => (i.size, i.bytes, i.zero)) = some (1, 8, some (.pointer none)) := by kernel_rfl
theorem ti111 : (prog.info? 111).map (fun i => (i.size, i.bytes, i.zero)) = some (1, 8, some (.pointer none)) := by kernel_rfl
theorem ti112 : (prog.info? 112).map (fun i => (i.size, i.bytes, i.zero)) = some (1, 8, some (.pointer none)) := by kernel_rfl
theorem ti113 : (prog.info? 113).map (fun i => (i.size, i.bytes, i.zero)) = some (1, 8, some (.nilFunc)) := by kernel_rfl
theorem ti114 : (prog.info? 114).map (fun i => (i.size, i.bytes, i.zero)) = some (1, 8, some (.nilFunc)) := by kernel_rfl
theorem ti115 : (prog.info? 115).map (fun i => (i.size, i.bytes, i.zero)) = some (1, 8, some (.nilFunc)) := by kernel_rfl
theorem ti116 : (prog.info? 116).map (fun i => (i.size, i.bytes, i.zero)) = some (1, 8, some (.nilFunc)) := by kernel_rfl
theorem ti117 : (prog.info? 117).map (fun i => (i.size, i.bytes, i.zero)) = some (1, 8, some (.nilFunc)) := by kernel_rfl
theorem ti118 : (prog.info? 118).map (fun i => (i.size, i.bytes, i.zero)) = some (1, 8, some (.nilFunc)) := by kernel_rfl
theorem ti119 : (prog.info? 119).map (fun i => (i.size, i.bytes, i.zero)) = some (1, 8, some (.nilFunc)) := by kernel_rfl
theorem ti120 : (prog.info? 120).map (fun i => (i.size, i.bytes, i.zero)) = some (1, 8, some (.pointer none)) := by kernel_rfl
theorem ti121 : (prog.info? 121).map (fun i => (i.size, i.bytes, i.zero)) = some (1, 24, some (.slice none 0 0)) := by kernel_rfl
theorem ti122 : (prog.info? 122).map (fun i => (i.size, i.bytes, i.zero)) = some (1, 8, some (.nilFunc)) := by kernel_rfl
theorem ti123 : (prog.info? 123).map (fun i => (i.size, i.bytes, i.zero)) = some (1, 8, some (.nilFunc)) := by kernel_rfl
theorem ti124 : (prog.info? 124).map (fun i => (i.size, i.bytes, i.zero)) = some (1, 8, some (.nilFunc)) := by kernel_rfl
theorem ti125 : (prog.info? 125).map (fun i => (i.size, i.bytes, i.zero)) = some (1, 4, some (.float .f32 0)) := by kernel_rfl
theorem ti126 : (prog.info? 126).map (fun i => (i.size, i.bytes, i.zero)) = some (1, 8, some (.nilFunc)) := by kernel_rfl
theorem ti127 : (prog.info? 127).map (fun i => (i.size, i.bytes, i.zero)) = some (1, 8, some (.nilFunc)) := by kernel_rfl
theorem ti128 : (prog.info? 128).map (fun i => (i.size, i.bytes, i.zero)) = some (1, 8, some (.nilFunc)) := by kernel_rfl
theorem ti129 : (prog.info? 129).map (fun i => (i.size, i.bytes, i.zero)) = some (1, 8, some (.nilFunc)) := by kernel_rfl
theorem ti130 : (prog.info? 130).map (fun i => (i.size, i.bytes, i.zero)) = some (1, 4, some (.int .u32 0)) := by kernel_rfl
theorem ti131 : (prog.info? 131).map (fun i => (i.size, i.bytes, i.zero)) = some (1, 8, some (.nilFunc)) := by kernel_rfl
theorem ti133 : (prog.info? 133).map (fun i => (i.size, i.bytes, i.zero)) = some (1, 8, some (.nilFunc)) := by kernel_rfl
theorem ti134 : (prog.info? 134).map (fun i => (i.size, i.bytes, i.zero)) = some (1, 8, some (.float .f64 0)) := by kernel_rfl
theorem ti135 : (prog.info? 135).map (fun i => (i.size, i.bytes, i.zero)) = some (1, 8, some (.nilFunc)) := by kernel_rfl
theorem ti136 : (prog.info? 136).map (fun i => (i.size, i.bytes, i.zero)) = some (1, 8, some (.nilFunc)) := by kernel_rfl
theorem ti137 : (prog.info? 137).map (fun i => (i.size, i.bytes, i.zero)) = some (1, 8, some (.nilFunc)) := by kernel_rfl
theorem ti140 : (prog.info? 140).map (fun i => (i.size, i.bytes, i.zero)) = some (1, 8, some (.nilFunc)) := by kernel_rfl
theorem ti142 : (prog.info? 142).map (fun i => (i.size, i.bytes, i.zero)) = some (1, 8, some (.nilFunc)) := by kernel_rfl
theorem ti144 : (prog.info? 144).map (fun i => (i.size, i.bytes, i.zero)) = some (1, 8, some (.nilFunc)) := by kernel_rfl
theorem ti145 : (prog.info? 145).map (fun i => (i.size, i.bytes, i.zero)) = some (1, 8, some (.nilFunc)) := by kernel_rfl
theorem ti146 : (prog.info? 146).map (fun i => (i.size, i.bytes, i.zero)) = some (1, 16, some (.complex .f64 0 0)) := by kernel_rfl
theorem ti147 : (prog.info? 147).map (fun i => (i.size, i.bytes, i.zero)) = some (1, 8, some (.nilFunc)) := by kernel_rfl
theorem ti148 : (prog.info? 148).map (fun i => (i.size, i.bytes, i.zero)) = some (1, 8, some (.nilFunc)) := by kernel_rfl
theorem ti149 : (prog.info? 149).map (fun i => (i.size, i.bytes, i.zero)) = some (1, 8, some (.nilFunc)) := by kernel_rfl
theorem ti150 : (prog.info? 150).map (fun i => (i.size, i.bytes, i.zero)) = some (1, 8, some (.nilFunc)) := by kernel_rfl
theorem ti151 : (prog.info? 151).map (fun i => (i.size, i.bytes, i.zero)) = some (1, 8, some (.nilFunc)) := by kernel_rfl
theorem ti152 : (prog.info? 152).map (fun i => (i.size, i.bytes, i.zero)) = some (1, 8, some (.nilFunc)) := by kernel_rfl
theorem ti154 : (prog.info? 154).map (fun i => (i.size, i.bytes, i.zero)) = some (1, 8, some (.nilFunc)) := by kernel_rfl
theorem ti155 : (prog.info? 155).map (fun i => (i.size, i.bytes, i.zero)) = some (1, 8, some (.nilFunc)) := by kernel_rfl
theorem ti158 : (prog.info? 158).map (fun i => (i.size, i.bytes, i.zero)) = some (1, 8, some (.nilFunc)) := by kernel_rfl
theorem ti159 : (prog.info? 159).map (fun i => (i.size, i.bytes, i.zero)) = some (1, 8, some (.nilFunc)) := by kernel_rfl
theorem ti160 : (prog.info? 160).map (fun i => (i.size, i.bytes, i.zero)) = some (1, 8, some (.nilFunc)) := by kernel_rfl
theorem ti161 : (prog.info? 161).map (fun i => (i.size, i.bytes, i.zero)) = some (4, 40, some (.agg #[.pointer none, .pointer none, .pointer none, .string ⟨#[]⟩])) := by kernel_rfl
theorem ti162 : (prog.info? 162).map (fun i => (i.size, i.bytes, i.zero)) = some (4, 40, some (.agg #[.pointer none, .pointer none, .pointer none, .string ⟨#[]⟩])) := by kernel_rfl
theorem ti166 : (prog.info? 166).map (fun i => (i.size, i.bytes, i.zero)) = some (1, 1, some (.int .u8 0)) := by kernel_rfl
theorem ti167 : (prog.info? 167).map (fun i => (i.size, i.bytes, i.zero)) = some (1, 1, some (.int .u8 0)) := by kernel_rfl
theorem ti168 : (prog.info? 168).map (fun i => (i.size, i.bytes, i.zero)) = some (1, 8, some (.nilFunc)) := by kernel_rfl
theorem ti169 : (prog.info? 169).map (fun i => (i.size, i.bytes, i.zero)) = some (1, 4, some (.int .i32 0)) := by kernel_rfl
theorem ti170 : (prog.info? 170).map (fun i => (i.size, i.bytes, i.zero)) = some (1, 4, some (.int .i32 0)) := by kernel_rfl
theorem ti171 : (prog.info? 171).map (fun i => (i.size, i.bytes, i.zero)) = some (11, 48, some (.agg #[.int .u64 0, .int .u64 0, .int .u32 0, .int .u8 0, .int .u8 0, .int .u8 0, .int .u8 0, .nilFunc, .pointer none, .int .i32 0, .int .i32 0])) := by kernel_rfl
theorem ti172 : (prog.info? 172).map (fun i => (i.size, i.bytes, i.zero)) = some (11, 48, some (.agg #[.int .u64 0, .int .u64 0, .int .u32 0, .int .u8 0, .int .u8 0, .int .u8 0, .int .u8 0, .nilFunc, .pointer none, .int .i32 0, .int .i32 0])) := by kernel_rfl
theorem ti173 : (prog.info? 173).map (fun i => (i.size, i.bytes, i.zero)) = some (1, 8, some (.nilFunc)) := by kernel_rfl
theorem ti174 : (prog.info? 174).map (fun i => (i.size, i.bytes, i.zero)) = some (1, 24, some (.slice none 0 0)) := by kernel_rfl
def td1 : TD := ⟨(TypeDesc.func #[] #[] false), 1, 8, .nilFunc⟩
def td2 : TD := ⟨(TypeDesc.int IntKind.i64), 1, 8, .int .i64 0⟩
def td3 : TD := ⟨(TypeDesc.int IntKind.i64), 1, 8, .int .i64 0⟩
def td4 : TD := ⟨TypeDesc.bool, 1, 1, .bool false⟩
def td5 : TD := ⟨(TypeDesc.int IntKind.u8), 1, 1, .int .u8 0⟩
def td6 : TD := ⟨(TypeDesc.int IntKind.u8), 1, 1, .int .u8 0⟩
def td7 : TD := ⟨(TypeDesc.struct #[{ name := "x", type := 2, offset := 0, embedded := false, tag := "", pkgPath := "runtime", byteOffset := 0 }, { name := "y", type := 3, offset := 1, embedded := false, tag := "", pkgPath := "runtime", byteOffset := 8 }, { name := "signed", type := 4, offset := 2, embedded := false, tag := "", pkgPath := "runtime", byteOffset := 16 }, { name := "code", type := 6, offset := 3, embedded := false, tag := "", pkgPath := "runtime", byteOffset := 17 }]), 4, 24, .agg #[.int .i64 0, .int .i64 0, .bool false, .int .u8 0]⟩
def td8 : TD := ⟨(TypeDesc.struct #[{ name := "x", type := 2, offset := 0, embedded := false, tag := "", pkgPath := "runtime", byteOffset := 0 }, { name := "y", type := 3, offset := 1, embedded := false, tag := "", pkgPath := "runtime", byteOffset := 8 }, { name := "signed", type := 4, offset := 2, embedded := false, tag := "", pkgPath := "runtime", byteOffset := 16 }, { name := "code", type := 6, offset := 3, embedded := false, tag := "", pkgPath := "runtime", byteOffset := 17 }]), 4, 24, .agg #[.int .i64 0, .int .i64 0, .bool false, .int .u8 0]⟩
def td9 : TD := ⟨TypeDesc.string, 1, 16, .string ⟨#[]⟩⟩
def td10 : TD := ⟨TypeDesc.string, 1, 16, .string ⟨#[]⟩⟩
def td11 : TD := ⟨TypeDesc.string, 1, 16, .string ⟨#[]⟩⟩
def td12 : TD := ⟨(TypeDesc.int IntKind.u64), 1, 8, .int .u64 0⟩
def td13 : TD := ⟨(TypeDesc.struct #[{ name := "msg", type := 9, offset := 0, embedded := false, tag := "", pkgPath := "runtime", byteOffset := 0 }, { name := "addr", type := 12, offset := 1, embedded := false, tag := "", pkgPath := "runtime", byteOffset := 16 }]), 2, 24, .agg #[.string ⟨#[]⟩, .int .u64 0]⟩
def td14 : TD := ⟨(TypeDesc.struct #[{ name := "msg", type := 9, offset := 0, embedded := false, tag := "", pkgPath := "runtime", byteOffset := 0 }, { name := "addr", type := 12, offset := 1, embedded := false, tag := "", pkgPath := "runtime", byteOffset := 16 }]), 2, 24, .agg #[.string ⟨#[]⟩, .int .u64 0]⟩
def td15 : TD := ⟨(TypeDesc.pointer 162), 1, 8, .pointer none⟩
def td16 : TD := ⟨(TypeDesc.pointer 165), 1, 8, .pointer none⟩
def td17 : TD := ⟨(TypeDesc.pointer 172), 1, 8, .pointer none⟩
def td18 : TD := ⟨(TypeDesc.struct #[{ name := "typ", type := 17, offset := 0, embedded := false, tag := "", pkgPath := "internal/runtime/maps", byteOffset := 0 }]), 1, 8, .agg #[.pointer none]⟩
def td19 : TD := ⟨(TypeDesc.struct #[{ name := "typ", type := 17, offset := 0, embedded := false, tag := "", pkgPath := "internal/runtime/maps", byteOffset := 0 }]), 1, 8, .agg #[.pointer none]⟩
def td21 : TD := ⟨(TypeDesc.int IntKind.i32), 1, 4, .int .i32 0⟩
def td22 : TD := ⟨(TypeDesc.slice 5), 1, 24, .slice none 0 0⟩
def td23 : TD := ⟨(TypeDesc.func #[22, 22] #[4] false), 1, 8, .nilFunc⟩
def td24 : TD := ⟨(TypeDesc.complex FloatKind.f32), 1, 8, .complex .f32 0 0⟩
def td25 : TD := ⟨(TypeDesc.struct #[{ name := "A", type := 24, offset := 0, embedded := false, tag := "", pkgPath := "", byteOffset := 0 }, { name := "B", type := 24, offset := 1, embedded := false, tag := "", pkgPath := "", byteOffset := 8 }, { name := "C", type := 24, offset := 2, embedded := false, tag := "", pkgPath := "", byteOffset := 16 }]), 3, 24, .agg #[.complex .f32 0 0, .complex .f32 0 0, .complex .f32 0 0]⟩
def td26 : TD := ⟨(TypeDesc.struct #[{ name := "A", type := 24, offset := 0, embedded := false, tag := "", pkgPath := "", byteOffset := 0 }, { name := "B", type := 24, offset := 1, embedded := false, tag := "", pkgPath := "", byteOffset := 8 }, { name := "C", type := 24, offset := 2, embedded := false, tag := "", pkgPath := "", byteOffset := 16 }]), 3, 24, .agg #[.complex .f32 0 0, .complex .f32 0 0, .complex .f32 0 0]⟩
def td27 : TD := ⟨(TypeDesc.slice 107), 1, 24, .slice none 0 0⟩
def td28 : TD := ⟨(TypeDesc.struct #[{ name := "Source", type := 26, offset := 0, embedded := false, tag := "", pkgPath := "", byteOffset := 0 }, { name := "Buses", type := 27, offset := 3, embedded := false, tag := "", pkgPath := "", byteOffset := 24 }]), 4, 48, .agg #[.complex .f32 0 0, .complex .f32 0 0, .complex .f32 0 0, .slice none 0 0]⟩
def td29 : TD := ⟨(TypeDesc.struct #[{ name := "Source", type := 26, offset := 0, embedded := false, tag := "", pkgPath := "", byteOffset := 0 }, { name := "Buses", type := 27, offset := 3, embedded := false, tag := "", pkgPath := "", byteOffset := 24 }]), 4, 48, .agg #[.complex .f32 0 0, .complex .f32 0 0, .complex .f32 0 0, .slice none 0 0]⟩
def td30 : TD := ⟨(TypeDesc.slice 38), 1, 24, .slice none 0 0⟩
def td31 : TD := ⟨(TypeDesc.struct #[{ name := "Feeder", type := 29, offset := 0, embedded := false, tag := "", pkgPath := "", byteOffset := 0 }, { name := "Ties", type := 30, offset := 4, embedded := false, tag := "", pkgPath := "", byteOffset := 48 }]), 5, 72, .agg #[.complex .f32 0 0, .complex .f32 0 0, .complex .f32 0 0, .slice none 0 0, .slice none 0 0]⟩
def td32 : TD := ⟨(TypeDesc.struct #[{ name := "Feeder", type := 29, offset := 0, embedded := false, tag := "", pkgPath := "", byteOffset := 0 }, { name := "Ties", type := 30, offset := 4, embedded := false, tag := "", pkgPath := "", byteOffset := 48 }]), 5, 72, .agg #[.complex .f32 0 0, .complex .f32 0 0, .complex .f32 0 0, .slice none 0 0, .slice none 0 0]⟩
def td33 : TD := ⟨(TypeDesc.func #[22] #[32] false), 1, 8, .nilFunc⟩
def td34 : TD := ⟨(TypeDesc.func #[32] #[4] false), 1, 8, .nilFunc⟩
def td35 : TD := ⟨(TypeDesc.func #[22, 2, 2] #[2] false), 1, 8, .nilFunc⟩
def td36 : TD := ⟨(TypeDesc.slice 2), 1, 24, .slice none 0 0⟩
def td37 : TD := ⟨(TypeDesc.struct #[{ name := "A", type := 2, offset := 0, embedded := false, tag := "", pkgPath := "", byteOffset := 0 }, { name := "B", type := 2, offset := 1, embedded := false, tag := "", pkgPath := "", byteOffset := 8 }, { name := "Own", type := 24, offset := 2, embedded := false, tag := "", pkgPath := "", byteOffset := 16 }, { name := "Shared", type := 24, offset := 3, embedded := false, tag := "", pkgPath := "", byteOffset := 24 }, { name := "Most", type := 2, offset := 4, embedded := false, tag := "", pkgPath := "", byteOffset := 32 }]), 5, 40, .agg #[.int .i64 0, .int .i64 0, .complex .f32 0 0, .complex .f32 0 0, .int .i64 0]⟩
def td38 : TD := ⟨(TypeDesc.struct #[{ name := "A", type := 2, offset := 0, embedded := false, tag := "", pkgPath := "", byteOffset := 0 }, { name := "B", type := 2, offset := 1, embedded := false, tag := "", pkgPath := "", byteOffset := 8 }, { name := "Own", type := 24, offset := 2, embedded := false, tag := "", pkgPath := "", byteOffset := 16 }, { name := "Shared", type := 24, offset := 3, embedded := false, tag := "", pkgPath := "", byteOffset := 24 }, { name := "Most", type := 2, offset := 4, embedded := false, tag := "", pkgPath := "", byteOffset := 32 }]), 5, 40, .agg #[.int .i64 0, .int .i64 0, .complex .f32 0 0, .complex .f32 0 0, .int .i64 0]⟩
def td40 : TD := ⟨(TypeDesc.func #[32, 2] #[36, 4] false), 1, 8, .nilFunc⟩
def td41 : TD := ⟨(TypeDesc.slice 36), 1, 24, .slice none 0 0⟩
def td43 : TD := ⟨(TypeDesc.func #[32, 2] #[41, 4] false), 1, 8, .nilFunc⟩
def td44 : TD := ⟨(TypeDesc.func #[32, 2, 36] #[36, 4] false), 1, 8, .nilFunc⟩
def td46 : TD := ⟨(TypeDesc.func #[32, 2, 36] #[4, 4] false), 1, 8, .nilFunc⟩
def td47 : TD := ⟨(TypeDesc.func #[36, 2] #[4] false), 1, 8, .nilFunc⟩
def td49 : TD := ⟨(TypeDesc.func #[32, 2, 36] #[2, 4] false), 1, 8, .nilFunc⟩
def td50 : TD := ⟨(TypeDesc.slice 9), 1, 24, .slice none 0 0⟩
def td51 : TD := ⟨(TypeDesc.func #[50, 3] #[3] false), 1, 8, .nilFunc⟩
def td53 : TD := ⟨(TypeDesc.func #[50] #[9, 4] false), 1, 8, .nilFunc⟩
def td54 : TD := ⟨(TypeDesc.func #[50] #[50] false), 1, 8, .nilFunc⟩
def td55 : TD := ⟨(TypeDesc.func #[50, 50] #[4] false), 1, 8, .nilFunc⟩
def td56 : TD := ⟨(TypeDesc.func #[50] #[4] false), 1, 8, .nilFunc⟩
def td58 : TD := ⟨(TypeDesc.func #[32, 2] #[36, 2, 4] false), 1, 8, .nilFunc⟩
def td59 : TD := ⟨(TypeDesc.func #[32, 2, 36] #[4] false), 1, 8, .nilFunc⟩
def td60 : TD := ⟨(TypeDesc.int IntKind.u64), 1, 8, .int .u64 0⟩
def td62 : TD := ⟨(TypeDesc.func #[9] #[50, 2, 4] false), 1, 8, .nilFunc⟩
def td63 : TD := ⟨(TypeDesc.func #[9] #[4] false), 1, 8, .nilFunc⟩
def td64 : TD := ⟨(TypeDesc.pointer 103), 1, 8, .pointer none⟩
def td65 : TD := ⟨(TypeDesc.func #[22] #[64] false), 1, 8, .nilFunc⟩
def td66 : TD := ⟨(TypeDesc.func #[64] #[32] false), 1, 8, .nilFunc⟩
def td67 : TD := ⟨(TypeDesc.func #[29] #[4] false), 1, 8, .nilFunc⟩
def td68 : TD := ⟨(TypeDesc.func #[30, 70] #[4] false), 1, 8, .nilFunc⟩
def td69 : TD := ⟨(TypeDesc.func #[2] #[4] false), 1, 8, .nilFunc⟩
def td70 : TD := ⟨(TypeDesc.func #[38] #[4] false), 1, 8, .nilFunc⟩
def td71 : TD := ⟨(TypeDesc.func #[2] #[36] false), 1, 8, .nilFunc⟩
def td72 : TD := ⟨(TypeDesc.func #[2, 36] #[4] false), 1, 8, .nilFunc⟩
def td73 : TD := ⟨(TypeDesc.func #[60] #[36] false), 1, 8, .nilFunc⟩
def td74 : TD := ⟨(TypeDesc.func #[2, 36, 2] #[60] false), 1, 8, .nilFunc⟩
def td75 : TD := ⟨(TypeDesc.func #[2, 36] #[36] false), 1, 8, .nilFunc⟩
def td76 : TD := ⟨(TypeDesc.func #[2, 36] #[2] false), 1, 8, .nilFunc⟩
def td77 : TD := ⟨(TypeDesc.func #[50] #[9] false), 1, 8, .nilFunc⟩
def td78 : TD := ⟨(TypeDesc.pointer 80), 1, 8, .pointer none⟩
def td79 : TD := ⟨(TypeDesc.struct #[{ name := "addr", type := 78, offset := 0, embedded := false, tag := "", pkgPath := "strings", byteOffset := 0 }, { name := "buf", type := 22, offset := 1, embedded := false, tag := "", pkgPath := "strings", byteOffset := 8 }]), 2, 32, .agg #[.pointer none, .slice none 0 0]⟩
def td80 : TD := ⟨(TypeDesc.struct #[{ name := "addr", type := 78, offset := 0, embedded := false, tag := "", pkgPath := "strings", byteOffset := 0 }, { name := "buf", type := 22, offset := 1, embedded := false, tag := "", pkgPath := "strings", byteOffset := 8 }]), 2, 32, .agg #[.pointer none, .slice none 0 0]⟩
def td81 : TD := ⟨(TypeDesc.func #[9, 9] #[4] false), 1, 8, .nilFunc⟩
def td82 : TD := ⟨(TypeDesc.func #[] #[3] false), 1, 8, .nilFunc⟩
def td83 : TD := ⟨(TypeDesc.func #[2, 9] #[2, 4] false), 1, 8, .nilFunc⟩
def td87 : TD := ⟨(TypeDesc.func #[9] #[3, 85] false), 1, 8, .nilFunc⟩
def td88 : TD := ⟨(TypeDesc.func #[2] #[9] false), 1, 8, .nilFunc⟩
def td89 : TD := ⟨(TypeDesc.func #[] #[9] false), 1, 8, .nilFunc⟩
def td90 : TD := ⟨(TypeDesc.func #[121] #[3] true), 1, 8, .nilFunc⟩
def td91 : TD := ⟨(TypeDesc.func #[2, 2] #[3] false), 1, 8, .nilFunc⟩
def td92 : TD := ⟨(TypeDesc.func #[3, 3] #[3] false), 1, 8, .nilFunc⟩
def td93 : TD := ⟨(TypeDesc.func #[36, 36] #[3] false), 1, 8, .nilFunc⟩
def td95 : TD := ⟨(TypeDesc.func #[9] #[50, 9] false), 1, 8, .nilFunc⟩
def td96 : TD := ⟨(TypeDesc.func #[2, 9] #[2] false), 1, 8, .nilFunc⟩
def td97 : TD := ⟨(TypeDesc.func #[9, 5] #[3] false), 1, 8, .nilFunc⟩
def td99 : TD := ⟨(TypeDesc.func #[9, 9] #[9, 9, 4] false), 1, 8, .nilFunc⟩
def td100 : TD := ⟨(TypeDesc.func #[3] #[9] false), 1, 8, .nilFunc⟩
def td101 : TD := ⟨(TypeDesc.int IntKind.u64), 1, 8, .int .u64 0⟩
def td102 : TD := ⟨(TypeDesc.struct #[{ name := "code", type := 22, offset := 0, embedded := false, tag := "", pkgPath := "loop.example/g01212/spec", byteOffset := 0 }, { name := "at", type := 3, offset := 1, embedded := false, tag := "", pkgPath := "loop.example/g01212/spec", byteOffset := 24 }, { name := "seed", type := 101, offset := 2, embedded := false, tag := "", pkgPath := "loop.example/g01212/spec", byteOffset := 32 }]), 3, 40, .agg #[.slice none 0 0, .int .i64 0, .int .u64 0]⟩
def td103 : TD := ⟨(TypeDesc.struct #[{ name := "code", type := 22, offset := 0, embedded := false, tag := "", pkgPath := "loop.example/g01212/spec", byteOffset := 0 }, { name := "at", type := 3, offset := 1, embedded := false, tag := "", pkgPath := "loop.example/g01212/spec", byteOffset := 24 }, { name := "seed", type := 101, offset := 2, embedded := false, tag := "", pkgPath := "loop.example/g01212/spec", byteOffset := 32 }]), 3, 40, .agg #[.slice none 0 0, .int .i64 0, .int .u64 0]⟩
def td104 : TD := ⟨(TypeDesc.func #[64] #[29] false), 1, 8, .nilFunc⟩
def td105 : TD := ⟨(TypeDesc.func #[2] #[2] false), 1, 8, .nilFunc⟩
def td106 : TD := ⟨(TypeDesc.struct #[{ name := "Parent", type := 2, offset := 0, embedded := false, tag := "", pkgPath := "", byteOffset := 0 }, { name := "Own", type := 24, offset := 1, embedded := false, tag := "", pkgPath := "", byteOffset := 8 }, { name := "Shared", type := 24, offset := 2, embedded := false, tag := "", pkgPath := "", byteOffset := 16 }, { name := "Kind", type := 2, offset := 3, embedded := false, tag := "", pkgPath := "", byteOffset := 24 }, { name := "Load", type := 26, offset := 4, embedded := false, tag := "", pkgPath := "", byteOffset := 32 }, { name := "Customers", type := 2, offset := 7, embedded := false, tag := "", pkgPath := "", byteOffset := 56 }]), 8, 64, .agg #[.int .i64 0, .complex .f32 0 0, .complex .f32 0 0, .int .i64 0, .complex .f32 0 0, .complex .f32 0 0, .complex .f32 0 0, .int .i64 0]⟩
def td107 : TD := ⟨(TypeDesc.struct #[{ name := "Parent", type := 2, offset := 0, embedded := false, tag := "", pkgPath := "", byteOffset := 0 }, { name := "Own", type := 24, offset := 1, embedded := false, tag := "", pkgPath := "", byteOffset := 8 }, { name := "Shared", type := 24, offset := 2, embedded := false, tag := "", pkgPath := "", byteOffset := 16 }, { name := "Kind", type := 2, offset := 3, embedded := false, tag := "", pkgPath := "", byteOffset := 24 }, { name := "Load", type := 26, offset := 4, embedded := false, tag := "", pkgPath := "", byteOffset := 32 }, { name := "Customers", type := 2, offset := 7, embedded := false, tag := "", pkgPath := "", byteOffset := 56 }]), 8, 64, .agg #[.int .i64 0, .complex .f32 0 0, .complex .f32 0 0, .int .i64 0, .complex .f32 0 0, .complex .f32 0 0, .complex .f32 0 0, .int .i64 0]⟩
def td108 : TD := ⟨(TypeDesc.func #[2, 2, 2] #[4] false), 1, 8, .nilFunc⟩
def td109 : TD := ⟨(TypeDesc.func #[30, 70] #[3] false), 1, 8, .nilFunc⟩
def td110 : TD := ⟨(TypeDesc.pointer 38), 1, 8, .pointer none⟩
def td111 : TD := ⟨(TypeDesc.pointer 32), 1, 8, .pointer none⟩
def td112 : TD := ⟨(TypeDesc.pointer 29), 1, 8, .pointer none⟩
def td113 : TD := ⟨(TypeDesc.func #[60] #[3] false), 1, 8, .nilFunc⟩
def td114 : TD := ⟨(TypeDesc.func #[2, 2] #[] false), 1, 8, .nilFunc⟩
def td115 : TD := ⟨(TypeDesc.func #[36, 3, 3] #[36] false), 1, 8, .nilFunc⟩
def td116 : TD := ⟨(TypeDesc.func #[36] #[36] false), 1, 8, .nilFunc⟩
def td117 : TD := ⟨(TypeDesc.func #[36] #[2] false), 1, 8, .nilFunc⟩
def td118 : TD := ⟨(TypeDesc.func #[9, 9] #[3] false), 1, 8, .nilFunc⟩
def td119 : TD := ⟨(TypeDesc.func #[2, 3] #[9] false), 1, 8, .nilFunc⟩
def td120 : TD := ⟨(TypeDesc.pointer 5), 1, 8, .pointer none⟩
def td121 : TD := ⟨(TypeDesc.slice 3), 1, 24, .slice none 0 0⟩
def td122 : TD := ⟨(TypeDesc.func #[3] #[4] false), 1, 8, .nilFunc⟩
def td123 : TD := ⟨(TypeDesc.func #[9, 5] #[50] false), 1, 8, .nilFunc⟩
def td124 : TD := ⟨(TypeDesc.func #[24] #[26] false), 1, 8, .nilFunc⟩
def td125 : TD := ⟨(TypeDesc.float FloatKind.f32), 1, 4, .float .f32 0⟩
def td126 : TD := ⟨(TypeDesc.func #[64, 2] #[26] false), 1, 8, .nilFunc⟩
def td127 : TD := ⟨(TypeDesc.func #[] #[2] false), 1, 8, .nilFunc⟩
def td128 : TD := ⟨(TypeDesc.func #[36, 2] #[3] false), 1, 8, .nilFunc⟩
def td129 : TD := ⟨(TypeDesc.func #[130] #[3] false), 1, 8, .nilFunc⟩
def td130 : TD := ⟨(TypeDesc.int IntKind.u32), 1, 4, .int .u32 0⟩
def td131 : TD := ⟨(TypeDesc.func #[101] #[3] false), 1, 8, .nilFunc⟩
def td133 : TD := ⟨(TypeDesc.func #[132] #[132] false), 1, 8, .nilFunc⟩
def td134 : TD := ⟨(TypeDesc.float FloatKind.f64), 1, 8, .float .f64 0⟩
def td135 : TD := ⟨(TypeDesc.func #[24, 24] #[24] false), 1, 8, .nilFunc⟩
def td136 : TD := ⟨(TypeDesc.func #[134] #[24] false), 1, 8, .nilFunc⟩
def td137 : TD := ⟨(TypeDesc.func #[64, 2] #[24] false), 1, 8, .nilFunc⟩
def td140 : TD := ⟨(TypeDesc.func #[3] #[3] false), 1, 8, .nilFunc⟩
def td142 : TD := ⟨(TypeDesc.func #[22, 101] #[] false), 1, 8, .nilFunc⟩
def td144 : TD := ⟨(TypeDesc.func #[22, 101, 3, 4, 4] #[22, 9] false), 1, 8, .nilFunc⟩
def td145 : TD := ⟨(TypeDesc.func #[146] #[24] false), 1, 8, .nilFunc⟩
def td146 : TD := ⟨(TypeDesc.complex FloatKind.f64), 1, 16, .complex .f64 0 0⟩
def td147 : TD := ⟨(TypeDesc.func #[146, 146] #[146] false), 1, 8, .nilFunc⟩
def td148 : TD := ⟨(TypeDesc.func #[24] #[146] false), 1, 8, .nilFunc⟩
def td149 : TD := ⟨(TypeDesc.func #[2] #[125] false), 1, 8, .nilFunc⟩
def td150 : TD := ⟨(TypeDesc.func #[134] #[134] false), 1, 8, .nilFunc⟩
def td151 : TD := ⟨(TypeDesc.func #[134] #[125] false), 1, 8, .nilFunc⟩
def td152 : TD := ⟨(TypeDesc.func #[64] #[125] false), 1, 8, .nilFunc⟩
def td154 : TD := ⟨(TypeDesc.func #[9] #[130, 130] false), 1, 8, .nilFunc⟩
def td155 : TD := ⟨(TypeDesc.func #[4] #[3] false), 1, 8, .nilFunc⟩
def td158 : TD := ⟨(TypeDesc.func #[130] #[125] false), 1, 8, .nilFunc⟩
def td159 : TD := ⟨(TypeDesc.func #[] #[134] false), 1, 8, .nilFunc⟩
def td160 : TD := ⟨(TypeDesc.func #[101] #[134] false), 1, 8, .nilFunc⟩
def td161 : TD := ⟨(TypeDesc.struct #[{ name := "_interface", type := 17, offset := 0, embedded := false, tag := "", pkgPath := "runtime", byteOffset := 0 }, { name := "concrete", type := 17, offset := 1, embedded := false, tag := "", pkgPath := "runtime", byteOffset := 8 }, { name := "asserted", type := 17, offset := 2, embedded := false, tag := "", pkgPath := "runtime", byteOffset := 16 }, { name := "missingMethod", type := 9, offset := 3, embedded := false, tag := "", pkgPath := "runtime", byteOffset := 24 }]), 4, 40, .agg #[.pointer none, .pointer none, .pointer none, .string ⟨#[]⟩]⟩
def td162 : TD := ⟨(TypeDesc.struct #[{ name := "_interface", type := 17, offset := 0, embedded := false, tag := "", pkgPath := "runtime", byteOffset := 0 }, { name := "concrete", type := 17, offset := 1, embedded := false, tag := "", pkgPath := "runtime", byteOffset := 8 }, { name := "asserted", type := 17, offset := 2, embedded := false, tag := "", pkgPath := "runtime", byteOffset := 16 }, { name := "missingMethod", type := 9, offset := 3, embedded := false, tag := "", pkgPath := "runtime", byteOffset := 24 }]), 4, 40, .agg #[.pointer none, .pointer none, .pointer none, .string ⟨#[]⟩]⟩
def td166 : TD := ⟨(TypeDesc.int IntKind.u8), 1, 1, .int .u8 0⟩
def td167 : TD := ⟨(TypeDesc.int IntKind.u8), 1, 1, .int .u8 0⟩
def td168 : TD := ⟨(TypeDesc.func #[132, 132] #[4] false), 1, 8, .nilFunc⟩
def td169 : TD := ⟨(TypeDesc.int IntKind.i32), 1, 4, .int .i32 0⟩
def td170 : TD := ⟨(TypeDesc.int IntKind.i32), 1, 4, .int .i32 0⟩
def td171 : TD := ⟨(TypeDesc.struct #[{ name := "Size_", type := 12, offset := 0, embedded := false, tag := "", pkgPath := "", byteOffset := 0 }, { name := "PtrBytes", type := 12, offset := 1, embedded := false, tag := "", pkgPath := "", byteOffset := 8 }, { name := "Hash", type := 130, offset := 2, embedded := false, tag := "", pkgPath := "", byteOffset := 16 }, { name := "TFlag", type := 166, offset := 3, embedded := false, tag := "", pkgPath := "", byteOffset := 20 }, { name := "Align_", type := 5, offset := 4, embedded := false, tag := "", pkgPath := "", byteOffset := 21 }, { name := "FieldAlign_", type := 5, offset := 5, embedded := false, tag := "", pkgPath := "", byteOffset := 22 }, { name := "Kind_", type := 167, offset := 6, embedded := false, tag := "", pkgPath := "", byteOffset := 23 }, { name := "Equal", type := 168, offset := 7, embedded := false, tag := "", pkgPath := "", byteOffset := 24 }, { name := "GCData", type := 120, offset := 8, embedded := false, tag := "", pkgPath := "", byteOffset := 32 }, { name := "Str", type := 169, offset := 9, embedded := false, tag := "", pkgPath := "", byteOffset := 40 }, { name := "PtrToThis", type := 170, offset := 10, embedded := false, tag := "", pkgPath := "", byteOffset := 44 }]), 11, 48, .agg #[.int .u64 0, .int .u64 0, .int .u32 0, .int .u8 0, .int .u8 0, .int .u8 0, .int .u8 0, .nilFunc, .pointer none, .int .i32 0, .int .i32 0]⟩
def td172 : TD := ⟨(TypeDesc.struct #[{ name := "Size_", type := 12, offset := 0, embedded := false, tag := "", pkgPath := "", byteOffset := 0 }, { name := "PtrBytes", type := 12, offset := 1, embedded := false, tag := "", pkgPath := "", byteOffset := 8 }, { name := "Hash", type := 130, offset := 2, embedded := false, tag := "", pkgPath := "", byteOffset := 16 }, { name := "TFlag", type := 166, offset := 3, embedded := false, tag := "", pkgPath := "", byteOffset := 20 }, { name := "Align_", type := 5, offset := 4, embedded := false, tag := "", pkgPath := "", byteOffset := 21 }, { name := "FieldAlign_", type := 5, offset := 5, embedded := false, tag := "", pkgPath := "", byteOffset := 22 }, { name := "Kind_", type := 167, offset := 6, embedded := false, tag := "", pkgPath := "", byteOffset := 23 }, { name := "Equal", type := 168, offset := 7, embedded := false, tag := "", pkgPath := "", byteOffset := 24 }, { name := "GCData", type := 120, offset := 8, embedded := false, tag := "", pkgPath := "", byteOffset := 32 }, { name := "Str", type := 169, offset := 9, embedded := false, tag := "", pkgPath := "", byteOffset := 40 }, { name := "PtrToThis", type := 170, offset := 10, embedded := false, tag := "", pkgPath := "", byteOffset := 44 }]), 11, 48, .agg #[.int .u64 0, .int .u64 0, .int .u32 0, .int .u8 0, .int .u8 0, .int .u8 0, .int .u8 0, .nilFunc, .pointer none, .int .i32 0, .int .i32 0]⟩
def td173 : TD := ⟨(TypeDesc.func #[] #[174] false), 1, 8, .nilFunc⟩
def td174 : TD := ⟨(TypeDesc.slice 125), 1, 24, .slice none 0 0⟩
inductive TT where
  | leaf
  | node (k : Nat) (v : TD) (l r : TT)
def findT : TT → TypeId → Option TD
  | .leaf, _ => none
  | .node k v l r, t => bif Nat.beq t k then some v else bif Nat.ble t k then findT l t else findT r t
def allT : TT → Prop
  | .leaf => True
  | .node k v l r => TiOk k v ∧ allT l ∧ allT r
theorem findT_ok : ∀ {x : TT}, allT x → TabOk prog (findT x)
  | .leaf, _ => fun t td h => by cases h
  | .node k v l r, h => fun t td ht => by
    unfold findT at ht
    cases hk : Nat.beq t k with
    | true =>
      rw [hk] at ht
      simp only [cond_true, Option.some.injEq] at ht
      subst ht
      rw [Nat.eq_of_beq_eq_true hk]
      have h1 := h.1
      unfold TiOk at h1
      exact h1
    | false =>
      rw [hk] at ht
      cases hl : Nat.ble t k with
      | true => rw [hl] at ht; exact findT_ok h.2.1 t td ht
      | false => rw [hl] at ht; exact findT_ok h.2.2 t td ht
def tabT : TT := (.node 87 td87 (.node 40 td40 (.node 19 td19 (.node 10 td10 (.node 5 td5 (.node 3 td3 (.node 2 td2 (.node 1 td1 .leaf .leaf) .leaf) (.node 4 td4 .leaf .leaf)) (.node 8 td8 (.node 7 td7 (.node 6 td6 .leaf .leaf) .leaf) (.node 9 td9 .leaf .leaf))) (.node 15 td15 (.node 13 td13 (.node 12 td12 (.node 11 td11 .leaf .leaf) .leaf) (.node 14 td14 .leaf .leaf)) (.node 17 td17 (.node 16 td16 .leaf .leaf) (.node 18 td18 .leaf .leaf)))) (.node 30 td30 (.node 25 td25 (.node 23 td23 (.node 22 td22 (.node 21 td21 .leaf .leaf) .leaf) (.node 24 td24 .leaf .leaf)) (.node 28 td28 (.node 27 td27 (.node 26 td26 .leaf .leaf) .leaf) (.node 29 td29 .leaf .leaf))) (.node 35 td35 (.node 33 td33 (.node 32 td32 (.node 31 td31 .leaf .leaf) .leaf) (.node 34 td34 .leaf .leaf)) (.node 37 td37 (.node 36 td36 .leaf .leaf) (.node 38 td38 .leaf .leaf))))) (.node 65 td65 (.node 54 td54 (.node 47 td47 (.node 44 td44 (.node 43 td43 (.node 41 td41 .leaf .leaf) .leaf) (.node 46 td46 .leaf .leaf)) (.node 51 td51 (.node 50 td50 (.node 49 td49 .leaf .leaf) .leaf) (.node 53 td53 .leaf .leaf))) (.node 60 td60 (.node 58 td58 (.node 56 td56 (.node 55 td55 .leaf .leaf) .leaf) (.node 59 td59 .leaf .leaf)) (.node 63 td63 (.node 62 td62 .leaf .leaf) (.node 64 td64 .leaf .leaf)))) (.node 75 td75 (.node 70 td70 (.node 68 td68 (.node 67 td67 (.node 66 td66 .leaf .leaf) .leaf) (.node 69 td69 .leaf .leaf)) (.node 73 td73 (.node 72 td72 (.node 71 td71 .leaf .leaf) .leaf) (.node 74 td74 .leaf .leaf))) (.node 80 td80 (.node 78 td78 (.node 77 td77 (.node 76 td76 .leaf .leaf) .leaf) (.node 79 td79 .leaf .leaf)) (.node 82 td82 (.node 81 td81 .leaf .leaf) (.node 83 td83 .leaf .leaf)))))) (.node 127 td127 (.node 108 td108 (.node 99 td99 (.node 92 td92 (.node 90 td90 (.node 89 td89 (.node 88 td88 .leaf .leaf) .leaf) (.node 91 td91 .leaf .leaf)) (.node 96 td96 (.node 95 td95 (.node 93 td93 .leaf .leaf) .leaf) (.node 97 td97 .leaf .leaf))) (.node 104 td104 (.node 102 td102 (.node 101 td101 (.node 100 td100 .leaf .leaf) .leaf) (.node 103 td103 .leaf .leaf)) (.node 106 td106 (.node 105 td105 .leaf .leaf) (.node 107 td107 .leaf .leaf)))) (.node 118 td118 (.node 113 td113 (.node 111 td111 (.node 110 td110 (.node 109 td109 .leaf .leaf) .leaf) (.node 112 td112 .leaf .leaf)) (.node 116 td116 (.node 115 td115 (.node 114 td114 .leaf .leaf) .leaf) (.node 117 td117 .leaf .leaf))) (.node 123 td123 (.node 121 td121 (.node 120 td120 (.node 119 td119 .leaf .leaf) .leaf) (.node 122 td122 .leaf .leaf)) (.node 125 td125 (.node 124 td124 .leaf .leaf) (.node 126 td126 .leaf .leaf))))) (.node 151 td151 (.node 140 td140 (.node 133 td133 (.node 130 td130 (.node 129 td129 (.node 128 td128 .leaf .leaf) .leaf) (.node 131 td131 .leaf .leaf)) (.node 136 td136 (.node 135 td135 (.node 134 td134 .leaf .leaf) .leaf) (.node 137 td137 .leaf .leaf))) (.node 147 td147 (.node 145 td145 (.node 144 td144 (.node 142 td142 .leaf .leaf) .leaf) (.node 146 td146 .leaf .leaf)) (.node 149 td149 (.node 148 td148 .leaf .leaf) (.node 150 td150 .leaf .leaf)))) (.node 166 td166 (.node 159 td159 (.node 155 td155 (.node 154 td154 (.node 152 td152 .leaf .leaf) .leaf) (.node 158 td158 .leaf .leaf)) (.node 161 td161 (.node 160 td160 .leaf .leaf) (.node 162 td162 .leaf .leaf))) (.node 171 td171 (.node 169 td169 (.node 168 td168 (.node 167 td167 .leaf .leaf) .leaf) (.node 170 td170 .leaf .leaf)) (.node 173 td173 (.node 172 td172 .leaf .leaf) (.node 174 td174 .leaf .leaf)))))))
abbrev tab : Tab := findT tabT
theorem hτ : TabOk prog tab := findT_ok (show allT tabT from ⟨tiOk underlying87 ti87, ⟨tiOk underlying40 ti40, ⟨tiOk underlying19 ti19, ⟨tiOk underlying10 ti10, ⟨tiOk underlying5 ti5, ⟨tiOk underlying3 ti3, ⟨tiOk underlying2 ti2, ⟨tiOk underlying1 ti1, trivial, trivial⟩, trivial⟩, ⟨tiOk underlying4 ti4, trivial, trivial⟩⟩, ⟨tiOk underlying8 ti8, ⟨tiOk underlying7 ti7, ⟨tiOk underlying6 ti6, trivial, trivial⟩, trivial⟩, ⟨tiOk underlying9 ti9, trivial, trivial⟩⟩⟩, ⟨tiOk underlying15 ti15, ⟨tiOk underlying13 ti13, ⟨tiOk underlying12 ti12, ⟨tiOk underlying11 ti11, trivial, trivial⟩, trivial⟩, ⟨tiOk underlying14 ti14, trivial, trivial⟩⟩, ⟨tiOk underlying17 ti17, ⟨tiOk underlying16 ti16, trivial, trivial⟩, ⟨tiOk underlying18 ti18, trivial, trivial⟩⟩⟩⟩, ⟨tiOk underlying30 ti30, ⟨tiOk underlying25 ti25, ⟨tiOk underlying23 ti23, ⟨tiOk underlying22 ti22, ⟨tiOk underlying21 ti21, trivial, trivial⟩, trivial⟩, ⟨tiOk underlying24 ti24, trivial, trivial⟩⟩, ⟨tiOk underlying28 ti28, ⟨tiOk underlying27 ti27, ⟨tiOk underlying26 ti26, trivial, trivial⟩, trivial⟩, ⟨tiOk underlying29 ti29, trivial, trivial⟩⟩⟩, ⟨tiOk underlying35 ti35, ⟨tiOk underlying33 ti33, ⟨tiOk underlying32 ti32, ⟨tiOk underlying31 ti31, trivial, trivial⟩, trivial⟩, ⟨tiOk underlying34 ti34, trivial, trivial⟩⟩, ⟨tiOk underlying37 ti37, ⟨tiOk underlying36 ti36, trivial, trivial⟩, ⟨tiOk underlying38 ti38, trivial, trivial⟩⟩⟩⟩⟩, ⟨tiOk underlying65 ti65, ⟨tiOk underlying54 ti54, ⟨tiOk underlying47 ti47, ⟨tiOk underlying44 ti44, ⟨tiOk underlying43 ti43, ⟨tiOk underlying41 ti41, trivial, trivial⟩, trivial⟩, ⟨tiOk underlying46 ti46, trivial, trivial⟩⟩, ⟨tiOk underlying51 ti51, ⟨tiOk underlying50 ti50, ⟨tiOk underlying49 ti49, trivial, trivial⟩, trivial⟩, ⟨tiOk underlying53 ti53, trivial, trivial⟩⟩⟩, ⟨tiOk underlying60 ti60, ⟨tiOk underlying58 ti58, ⟨tiOk underlying56 ti56, ⟨tiOk underlying55 ti55, trivial, trivial⟩, trivial⟩, ⟨tiOk underlying59 ti59, trivial, trivial⟩⟩, ⟨tiOk underlying63 ti63, ⟨tiOk underlying62 ti62, trivial, trivial⟩, ⟨tiOk underlying64 ti64, trivial, trivial⟩⟩⟩⟩, ⟨tiOk underlying75 ti75, ⟨tiOk underlying70 ti70, ⟨tiOk underlying68 ti68, ⟨tiOk underlying67 ti67, ⟨tiOk underlying66 ti66, trivial, trivial⟩, trivial⟩, ⟨tiOk underlying69 ti69, trivial, trivial⟩⟩, ⟨tiOk underlying73 ti73, ⟨tiOk underlying72 ti72, ⟨tiOk underlying71 ti71, trivial, trivial⟩, trivial⟩, ⟨tiOk underlying74 ti74, trivial, trivial⟩⟩⟩, ⟨tiOk underlying80 ti80, ⟨tiOk underlying78 ti78, ⟨tiOk underlying77 ti77, ⟨tiOk underlying76 ti76, trivial, trivial⟩, trivial⟩, ⟨tiOk underlying79 ti79, trivial, trivial⟩⟩, ⟨tiOk underlying82 ti82, ⟨tiOk underlying81 ti81, trivial, trivial⟩, ⟨tiOk underlying83 ti83, trivial, trivial⟩⟩⟩⟩⟩⟩, ⟨tiOk underlying127 ti127, ⟨tiOk underlying108 ti108, ⟨tiOk underlying99 ti99, ⟨tiOk underlying92 ti92, ⟨tiOk underlying90 ti90, ⟨tiOk underlying89 ti89, ⟨tiOk underlying88 ti88, trivial, trivial⟩, trivial⟩, ⟨tiOk underlying91 ti91, trivial, trivial⟩⟩, ⟨tiOk underlying96 ti96, ⟨tiOk underlying95 ti95, ⟨tiOk underlying93 ti93, trivial, trivial⟩, trivial⟩, ⟨tiOk underlying97 ti97, trivial, trivial⟩⟩⟩, ⟨tiOk underlying104 ti104, ⟨tiOk underlying102 ti102, ⟨tiOk underlying101 ti101, ⟨tiOk underlying100 ti100, trivial, trivial⟩, trivial⟩, ⟨tiOk underlying103 ti103, trivial, trivial⟩⟩, ⟨tiOk underlying106 ti106, ⟨tiOk underlying105 ti105, trivial, trivial⟩, ⟨tiOk underlying107 ti107, trivial, trivial⟩⟩⟩⟩, ⟨tiOk underlying118 ti118, ⟨tiOk underlying113 ti113, ⟨tiOk underlying111 ti111, ⟨tiOk underlying110 ti110, ⟨tiOk underlying109 ti109, trivial, trivial⟩, trivial⟩, ⟨tiOk underlying112 ti112, trivial, trivial⟩⟩, ⟨tiOk underlying116 ti116, ⟨tiOk underlying115 ti115, ⟨tiOk underlying114 ti114, trivial, trivial⟩, trivial⟩, ⟨tiOk underlying117 ti117, trivial, trivial⟩⟩⟩, ⟨tiOk underlying123 ti123, ⟨tiOk underlying121 ti121, ⟨tiOk underlying120 ti120, ⟨tiOk underlying119 ti119, trivial, trivial⟩, trivial⟩, ⟨tiOk underlying122 ti122, trivial, trivial⟩⟩, ⟨tiOk underlying125 ti125, ⟨tiOk underlying124 ti124, trivial, trivial⟩, ⟨tiOk underlying126 ti126, trivial, trivial⟩⟩⟩⟩⟩, ⟨tiOk underlying151 ti151, ⟨tiOk underlying140 ti140, ⟨tiOk underlying133 ti133, ⟨tiOk underlying130 ti130, ⟨tiOk underlying129 ti129, ⟨tiOk underlying128 ti128, trivial, trivial⟩, trivial⟩, ⟨tiOk underlying131 ti131, trivial, trivial⟩⟩, ⟨tiOk underlying136 ti136, ⟨tiOk underlying135 ti135, ⟨tiOk underlying134 ti134, trivial, trivial⟩, trivial⟩, ⟨tiOk underlying137 ti137, trivial, trivial⟩⟩⟩, ⟨tiOk underlying147 ti147, ⟨tiOk underlying145 ti145, ⟨tiOk underlying144 ti144, ⟨tiOk underlying142 ti142, trivial, trivial⟩, trivial⟩, ⟨tiOk underlying146 ti146, trivial, trivial⟩⟩, ⟨tiOk underlying149 ti149, ⟨tiOk underlying148 ti148, trivial, trivial⟩, ⟨tiOk underlying150 ti150, trivial, trivial⟩⟩⟩⟩, ⟨tiOk underlying166 ti166, ⟨tiOk underlying159 ti159, ⟨tiOk underlying155 ti155, ⟨tiOk underlying154 ti154, ⟨tiOk underlying152 ti152, trivial, trivial⟩, trivial⟩, ⟨tiOk underlying158 ti158, trivial, trivial⟩⟩, ⟨tiOk underlying161 ti161, ⟨tiOk underlying160 ti160, trivial, trivial⟩, ⟨tiOk underlying162 ti162, trivial, trivial⟩⟩⟩, ⟨tiOk underlying171 ti171, ⟨tiOk underlying169 ti169, ⟨tiOk underlying168 ti168, ⟨tiOk underlying167 ti167, trivial, trivial⟩, trivial⟩, ⟨tiOk underlying170 ti170, trivial, trivial⟩⟩, ⟨tiOk underlying173 ti173, ⟨tiOk underlying172 ti172, trivial, trivial⟩, ⟨tiOk underlying174 ti174, trivial, trivial⟩⟩⟩⟩⟩⟩⟩)
theorem mixed : prog.follows .mixedOrders = true := by kernel_rfl
end Go.Proofs.YtkagbffdmppbhaaDoor.AWN

namespace Go.Proofs.YtkagbffdmppbhaaDoor.AWN
open Go Go.Shelf Go.Proofs.Tryd
def fmt173_ren : Go.Shelf.Ren := ⟨fun | 173 => 74 | 246 => 89 | 283 => 97 | 284 => 98 | 285 => 99 | 286 => 100 | 129 => 110 | 317 => 109 | 318 => 111 | 319 => 112 | 320 => 67 | 337 => 85 | 338 => 86 | n => n, fun | 2 => 2 | 3 => 3 | 9 => 9 | 4 => 4 | 171 => 141 | 0 => 0 | 53 => 101 | 37 => 22 | 5 => 5 | 173 => 143 | 212 => 156 | 51 => 130 | 20 => 20 | 213 => 157 | 46 => 60 | 232 => 138 | 233 => 139 | n => n, fun | 17 => 3 | 18 => 0 | 19 => 1 | n => n⟩
theorem fmt173 : Go.Proofs.LaysM.n173 prog fmt173_ren := {
  mixed := by kernel_rfl
  f129 := Tryd.func110.trans (congrArg some (by kernel_rfl))
  f173 := Tryd.func74.trans (congrArg some (by kernel_rfl))
  f246 := Tryd.func89.trans (congrArg some (by kernel_rfl))
  f283 := Tryd.func97.trans (congrArg some (by kernel_rfl))
  f284 := Tryd.func98.trans (congrArg some (by kernel_rfl))
  f285 := Tryd.func99.trans (congrArg some (by kernel_rfl))
  f286 := Tryd.func100.trans (congrArg some (by kernel_rfl))
  f317 := Tryd.func109.trans (congrArg some (by kernel_rfl))
  f318 := Tryd.func111.trans (congrArg some (by kernel_rfl))
  f319 := Tryd.func112.trans (congrArg some (by kernel_rfl))
  f320 := Tryd.func67.trans (congrArg some (by kernel_rfl))
  f337 := Tryd.func85.trans (congrArg some (by kernel_rfl))
  f338 := Tryd.func86.trans (congrArg some (by kernel_rfl))
  t0 := Tryd.underlying0
  a0 := Tryd.isAgg0
  z0 := Tryd.sizeOf0
  v0 := Tryd.zeroValue0
  t2 := Tryd.underlying2
  a2 := Tryd.isAgg2
  z2 := Tryd.sizeOf2
  v2 := Tryd.zeroValue2
  t3 := Tryd.underlying3
  a3 := Tryd.isAgg3
  z3 := Tryd.sizeOf3
  v3 := Tryd.zeroValue3
  t4 := Tryd.underlying4
  a4 := Tryd.isAgg4
  z4 := Tryd.sizeOf4
  v4 := Tryd.zeroValue4
  t5 := Tryd.underlying5
  a5 := Tryd.isAgg5
  z5 := Tryd.sizeOf5
  v5 := Tryd.zeroValue5
  t9 := Tryd.underlying9
  a9 := Tryd.isAgg9
  z9 := Tryd.sizeOf9
  v9 := Tryd.zeroValue9
  t20 := Tryd.underlying20
  a20 := Tryd.isAgg20
  z20 := Tryd.sizeOf20
  v20 := Tryd.zeroValue20
  t37 := Tryd.underlying22
  a37 := Tryd.isAgg22
  z37 := Tryd.sizeOf22
  v37 := Tryd.zeroValue22
  t46 := Tryd.underlying60
  a46 := Tryd.isAgg60
  z46 := Tryd.sizeOf60
  v46 := Tryd.zeroValue60
  t51 := Tryd.underlying130
  a51 := Tryd.isAgg130
  z51 := Tryd.sizeOf130
  v51 := Tryd.zeroValue130
  t53 := Tryd.underlying101
  a53 := Tryd.isAgg101
  z53 := Tryd.sizeOf101
  v53 := Tryd.zeroValue101
  t171 := Tryd.underlying141
  a171 := Tryd.isAgg141
  z171 := Tryd.sizeOf141
  v171 := Tryd.zeroValue141
  t173 := Tryd.underlying143
  a173 := Tryd.isAgg143
  z173 := Tryd.sizeOf143
  v173 := Tryd.zeroValue143
  t212 := Tryd.underlying156
  a212 := Tryd.isAgg156
  z212 := Tryd.sizeOf156
  v212 := Tryd.zeroValue156
  t213 := Tryd.underlying157
  a213 := Tryd.isAgg157
  z213 := Tryd.sizeOf157
  t232 := Tryd.underlying138
  a232 := Tryd.isAgg138
  z232 := Tryd.sizeOf138
  v232 := Tryd.zeroValue138
  t233 := Tryd.underlying139
  a233 := Tryd.isAgg139
  z233 := Tryd.sizeOf139
  v233 := Tryd.zeroValue139
  g17 := by kernel_rfl
  g18 := by kernel_rfl
  g19 := by kernel_rfl
  i0 := by kernel_rfl
  i2 := by kernel_rfl
  i3 := by kernel_rfl
  i4 := by kernel_rfl
  i5 := by kernel_rfl
  i9 := by kernel_rfl
  i20 := by kernel_rfl
  i37 := by kernel_rfl
  i46 := by kernel_rfl
  i51 := by kernel_rfl
  i53 := by kernel_rfl
  i171 := by kernel_rfl
  i173 := by kernel_rfl
  i212 := by kernel_rfl
  i232 := by kernel_rfl
  i233 := by kernel_rfl
  m17 := by kernel_rfl
  m18 := by kernel_rfl
  m19 := by kernel_rfl }
def dec10 (x b : Int) : Option Str := if b = 10 ∧ -9223372036854775808 ≤ x ∧ x ≤ 9223372036854775807 then some (Lib.itoa x) else none
theorem powT_tab : powT = Lib.pow10Tab := by decide
theorem dec_does {x b : Int} {r : Str} (h : dec10 x b = some r) : ∀ (W : World) (hb : Handle) (H : Nat → AObj) (ok : Nat → Prop) (vals : Array Value), (∀ g vs, layMem g = some vs → ∃ T f, W.heap[g]? = some (.cells vs T f)) → RelL W hb H ok [.d (.int .i64 x), .d (.int .i64 b)] vals →
    Calls prog 74 vals W (fun e W' => ∃ v, e = .returned v ∧ (∃ q os, W' = Sort.grow (W.drewN q) os) ∧ ∀ hb H ok, Rel W' hb H ok (.d (.str (bstr r))) v) := by
  intro W hb H ok vals hl hr
  obtain ⟨v, u, rfl, h1, h2⟩ := two_args hr
  obtain rfl := rel_int h1
  obtain rfl := rel_int h2
  unfold dec10 at h
  split at h
  · rename_i hc
    obtain ⟨rfl, c1, c2⟩ := hc
    cases h
    obtain ⟨T, f, hm⟩ := hl 3 _ layMem_3
    have htab : Lib.TabIs prog W "internal/strconv.uint64pow10" .u64 Lib.pow10Tab := by
      unfold Lib.TabIs World.var?
      rw [show prog.globalNamed "internal/strconv.uint64pow10" = some 3 by kernel_rfl, Option.bind_some, hm, powT_tab]
    have e74 : fmt173_ren.f 173 = 74 := rfl
    have := Any.strconv_FormatInt_10 fmt173 x c1 c2 W htab
    rw [e74] at this
    refine this.mono ?_
    rintro e w' ⟨rfl, k, os, rfl⟩
    exact ⟨_, rfl, ⟨k, os, rfl⟩, fun _ _ _ => mk_str _⟩
  · cases h
end Go.Proofs.YtkagbffdmppbhaaDoor.AWN

namespace Go.Proofs.YtkagbffdmppbhaaDoor.AWN
open Go Go.Shelf Go.RowKit Go.Proofs.Tryd
def bLen_ren : Go.Shelf.Ren := ⟨fun | 170 => 46 | n => n, fun | 70 => 78 | 3 => 3 | 0 => 0 | 72 => 80 | 37 => 22 | 5 => 5 | n => n, fun | n => n⟩
theorem bLen : Go.Proofs.Lays.n170 prog bLen_ren := {
  mixed := by kernel_rfl
  f170 := Tryd.func46.trans (congrArg some (by kernel_rfl))
  t0 := Tryd.underlying0
  a0 := Tryd.isAgg0
  z0 := Tryd.sizeOf0
  v0 := Tryd.zeroValue0
  t3 := Tryd.underlying3
  a3 := Tryd.isAgg3
  z3 := Tryd.sizeOf3
  v3 := Tryd.zeroValue3
  t37 := Tryd.underlying22
  a37 := Tryd.isAgg22
  z37 := Tryd.sizeOf22
  v37 := Tryd.zeroValue22
  t70 := Tryd.underlying78
  a70 := Tryd.isAgg78
  z70 := Tryd.sizeOf78
  v70 := Tryd.zeroValue78
  t72 := Tryd.underlying80
  a72 := Tryd.isAgg80
  z72 := Tryd.sizeOf80
  v72 := Tryd.zeroValue80 }
def bStr_ren : Go.Shelf.Ren := ⟨fun | 169 => 50 | n => n, fun | 70 => 78 | 9 => 9 | 0 => 0 | 72 => 80 | 37 => 22 | 127 => 120 | 3 => 3 | 5 => 5 | n => n, fun | n => n⟩
theorem bStr : Go.Proofs.Lays.n169 prog bStr_ren := {
  mixed := by kernel_rfl
  f169 := Tryd.func50.trans (congrArg some (by kernel_rfl))
  t0 := Tryd.underlying0
  a0 := Tryd.isAgg0
  z0 := Tryd.sizeOf0
  v0 := Tryd.zeroValue0
  t3 := Tryd.underlying3
  a3 := Tryd.isAgg3
  z3 := Tryd.sizeOf3
  v3 := Tryd.zeroValue3
  t9 := Tryd.underlying9
  a9 := Tryd.isAgg9
  z9 := Tryd.sizeOf9
  v9 := Tryd.zeroValue9
  t37 := Tryd.underlying22
  a37 := Tryd.isAgg22
  z37 := Tryd.sizeOf22
  v37 := Tryd.zeroValue22
  t70 := Tryd.underlying78
  a70 := Tryd.isAgg78
  z70 := Tryd.sizeOf78
  v70 := Tryd.zeroValue78
  t72 := Tryd.underlying80
  a72 := Tryd.isAgg80
  z72 := Tryd.sizeOf80
  v72 := Tryd.zeroValue80
  t127 := Tryd.underlying120
  a127 := Tryd.isAgg120
  z127 := Tryd.sizeOf120
  v127 := Tryd.zeroValue120 }

theorem szB : (prog.info? 80).map (·.size) = some 2 := by kernel_rfl
theorem liesB : liesAt prog prog.depth 80 (2 / prog.cellsOf 80) 0 80 1 = true := by kernel_rfl
theorem infB : (prog.info? 5).map (fun i => (i.zero, i.size, i.bytes)) = some (some (.int .u8 0), 1, 1) := by kernel_rfl
theorem mixB : prog.follows .mixedOrders = true := by kernel_rfl
set_option maxHeartbeats 1000000 in
set_option maxRecDepth 100000 in
theorem cc_used (b : Nat) (w : World) (h0 : w.cell? ⟨b, 0, none⟩ = some (.pointer (some ⟨b, 0, none⟩))) :
    Calls prog 73 #[.pointer (some ⟨b, 0, none⟩)] w fun e w' => e = .returned (.tuple #[]) ∧ w' = w := by
  obtain ⟨j, hj, _⟩ := Option.map_eq_some_iff.1 szB
  have mixed := mixB
  have t72 := Tryd.underlying80; have a72 := Tryd.isAgg80; have z72 := Tryd.sizeOf80; have v72 := Tryd.zeroValue80; have u72 := run_underlying Tryd.underlying80
  have t70 := Tryd.underlying78; have a70 := Tryd.isAgg78; have z70 := Tryd.sizeOf78; have v70 := Tryd.zeroValue78; have u70 := run_underlying Tryd.underlying78
  have t9 := Tryd.underlying9; have a9 := Tryd.isAgg9; have z9 := Tryd.sizeOf9; have v9 := Tryd.zeroValue9; have u9 := run_underlying Tryd.underlying9
  have t4 := Tryd.underlying4; have a4 := Tryd.isAgg4; have z4 := Tryd.sizeOf4; have v4 := Tryd.zeroValue4; have u4 := run_underlying Tryd.underlying4
  have t164 := Tryd.underlying132; have a164 := Tryd.isAgg132; have z164 := Tryd.sizeOf132; have v164 := Tryd.zeroValue132; have u164 := run_underlying Tryd.underlying132
  go_enter Tryd.func73, Tryd.ntmps73
  go_wp2
  rw [Lib.run_neq_ptr_same w _ Tryd.underlying78 hj]
  go_wp2
  go_end0
  exact ⟨rfl, rfl⟩
set_option maxHeartbeats 1000000 in
set_option maxRecDepth 100000 in
theorem cc_fresh (b : Nat) (w : World) (h0 : w.cell? ⟨b, 0, none⟩ = some (.pointer none)) (hsh : w.shape? b = some (80, 2)) (hfz : w.frozen? ⟨b, 0, none⟩ = false) :
    Calls prog 73 #[.pointer (some ⟨b, 0, none⟩)] w fun e w' => e = .returned (.tuple #[]) ∧ w' = w.setCell ⟨b, 0, none⟩ (.pointer (some ⟨b, 0, none⟩)) := by
  obtain ⟨j, hj, hjs⟩ := Option.map_eq_some_iff.1 szB
  have mixed := mixB
  have t72 := Tryd.underlying80; have a72 := Tryd.isAgg80; have z72 := Tryd.sizeOf80; have v72 := Tryd.zeroValue80; have u72 := run_underlying Tryd.underlying80
  have t70 := Tryd.underlying78; have a70 := Tryd.isAgg78; have z70 := Tryd.sizeOf78; have v70 := Tryd.zeroValue78; have u70 := run_underlying Tryd.underlying78
  have t9 := Tryd.underlying9; have a9 := Tryd.isAgg9; have z9 := Tryd.sizeOf9; have v9 := Tryd.zeroValue9; have u9 := run_underlying Tryd.underlying9
  have t4 := Tryd.underlying4; have a4 := Tryd.isAgg4; have z4 := Tryd.sizeOf4; have v4 := Tryd.zeroValue4; have u4 := run_underlying Tryd.underlying4
  have t164 := Tryd.underlying132; have a164 := Tryd.isAgg132; have z164 := Tryd.sizeOf132; have v164 := Tryd.zeroValue132; have u164 := run_underlying Tryd.underlying132
  go_enter Tryd.func73, Tryd.ntmps73
  go_wp2
  rw [Lib.run_to_unsafe w ⟨b, 0, none⟩ Tryd.underlying78 Tryd.underlying132 hj (by rw [hjs]; decide) hsh (Nat.zero_lt_succ 1)]
  simp only [Result.andThen]
  rw [Oper.upon_value]
  go_wp2
  rw [run_callFunc_extern Tryd.func88 (by kernel_rfl) (by kernel_rfl) (by kernel_rfl) (e := Extern.AbiNoEscape.same) (by kernel_rfl)]
  rw [Lib.run_noEscape]
  simp only [Result.andThen]
  rw [Oper.upon_value]
  go_wp2
  rw [Lib.run_from_unsafe w ⟨b, 0, none⟩ Tryd.underlying132 Tryd.underlying78 hj hsh liesB]
  simp only [Result.andThen]
  rw [Oper.upon_value]
  go_wp2
  go_end0
  exact ⟨rfl, rfl⟩
theorem cc_walk (B b : Nat) (bs : List Value) (w : World) (h : Lib.IsBuilder 80 5 B b bs w) :
    Calls prog 73 #[.pointer (some ⟨b, 0, none⟩)] w fun e w' => e = .returned (.tuple #[]) ∧ (Lib.BuilderAt 80 5 B b (.pointer (some ⟨b, 0, none⟩)) bs w' ∧ Below B w w') := by
  rcases h with h | h
  · refine (cc_fresh b w h.cell0 h.shape h.frozen0).mono ?_
    rintro e w' ⟨rfl, rfl⟩
    exact ⟨rfl, h.used _, (Below.refl B w).setCell (p := ⟨b, 0, none⟩) h.1 _⟩
  · refine (cc_used b w h.cell0).mono ?_
    rintro e w' ⟨rfl, rfl⟩
    exact ⟨rfl, h, Below.refl B _⟩
set_option maxHeartbeats 2000000 in
set_option maxRecDepth 100000 in
theorem ws_walk (B b : Nat) (bs : List Value) (s : ByteArray) (w : World) (h : Lib.IsBuilder 80 5 B b bs w) (hlen : bs.length + s.size ≤ 140737488355328) (hBw : B ≤ w.heap.size) :
    Calls prog 48 #[.pointer (some ⟨b, 0, none⟩), .string s] w fun e w' => e = .returned (.tuple #[.int .i64 s.size, .nilIface]) ∧ (Lib.BuilderAt 80 5 B b (.pointer (some ⟨b, 0, none⟩)) (bs ++ Lib.strCells s) w' ∧ Below B w w') := by
  obtain ⟨i0, hi, hz0, hz1, hz2⟩ := info_parts infB
  have mixed := mixB
  have t72 := Tryd.underlying80; have a72 := Tryd.isAgg80; have z72 := Tryd.sizeOf80; have v72 := Tryd.zeroValue80; have u72 := run_underlying Tryd.underlying80
  have t70 := Tryd.underlying78; have a70 := Tryd.isAgg78; have z70 := Tryd.sizeOf78; have v70 := Tryd.zeroValue78; have u70 := run_underlying Tryd.underlying78
  have t37 := Tryd.underlying22; have a37 := Tryd.isAgg22; have z37 := Tryd.sizeOf22; have v37 := Tryd.zeroValue22; have u37 := run_underlying Tryd.underlying22
  have t3 := Tryd.underlying3; have a3 := Tryd.isAgg3; have z3 := Tryd.sizeOf3; have v3 := Tryd.zeroValue3; have u3 := run_underlying Tryd.underlying3
  have t9 := Tryd.underlying9; have a9 := Tryd.isAgg9; have z9 := Tryd.sizeOf9; have v9 := Tryd.zeroValue9; have u9 := run_underlying Tryd.underlying9
  have t4 := Tryd.underlying4; have a4 := Tryd.isAgg4; have z4 := Tryd.sizeOf4; have v4 := Tryd.zeroValue4; have u4 := run_underlying Tryd.underlying4
  have t164 := Tryd.underlying132; have a164 := Tryd.isAgg132; have z164 := Tryd.sizeOf132; have v164 := Tryd.zeroValue132; have u164 := run_underlying Tryd.underlying132
  have t5 := Tryd.underlying5; have a5 := Tryd.isAgg5; have z5 := Tryd.sizeOf5; have v5 := Tryd.zeroValue5; have u5 := run_underlying Tryd.underlying5
  have e240 : ∀ args w, (callFunc 73 args).run prog w = .ok (.enter 73 args) w := enters_of Tryd.func73 (by kernel_rfl) rfl
  go_enter Tryd.func48, Tryd.ntmps48
  go_wp2_with (go_at_fn 73; refine (cc_walk B b bs _ h).mono ?_)
  rintro e w1 ⟨rfl, h1, hb1⟩
  obtain ⟨hB, v, hbk, hown, hne⟩ := h1
  have c0 : w1.cell? ⟨b, 0, none⟩ = some (.pointer (some ⟨b, 0, none⟩)) := by rw [Lib.cell_of_heap hbk]; rfl
  have c1 : w1.cell? ⟨b, 1, none⟩ = some v := by rw [Lib.cell_of_heap hbk]; rfl
  go_wp2_with (at_builtin; refine Lib.wpList_append_own_string _ rfl _ _ 22 9 rfl B 5 i0 Tryd.underlying22 Tryd.underlying9 hi hz0 hz1 hz2 _ _ _ rfl hown s rfl ?c3 ?c4 ?c5 ?_)
  case c3 => unfold maxLen; omega
  case c4 => omega
  case c5 => have := hb1.size; omega
  intro v' w2 hown' hgrow _
  have hlt : b < w1.heap.size := by
    rcases Nat.lt_or_ge b w1.heap.size with h' | h'
    · exact h'
    · simp [Array.getElem?_eq_none h'] at hbk
  have hb2 : w2.heap[b]? = some (.cells #[.pointer (some ⟨b, 0, none⟩), v] 80 (0, 0)) := by
    rw [hgrow.block b hlt (fun e => hne e.symm)]
    exact hbk
  have d0 : w2.cell? ⟨b, 0, none⟩ = some (.pointer (some ⟨b, 0, none⟩)) := by rw [Lib.cell_of_heap hb2]; rfl
  have d1 : w2.cell? ⟨b, 1, none⟩ = some v := by rw [Lib.cell_of_heap hb2]; rfl
  have f1 : w2.frozen? ⟨b, 1, none⟩ = false := Lib.frozen_of_heap hb2 1
  obtain ⟨ao, n', cap, rfl⟩ : ∃ ao n' cap, v' = .slice ao n' cap := by
    rcases hown'.2 with ⟨hv, _⟩ | ⟨g, cap, cur, hv, _⟩
    · exact ⟨_, _, _, hv⟩
    · exact ⟨_, _, _, hv⟩
  go_wp2
  go_ret2
  refine ⟨rfl, ?_, ?_⟩
  · exact Lib.BuilderAt.put (T := 80) (e := 5) hB hb2 (bs' := bs ++ Lib.strCells s) (by simpa [Lib.strCells_length] using hown') (by decide)
  · exact (hb1.grown hgrow (by have := hb1.size; omega) (fun k hk => (hown.lt k hk).1)).setCell (p := ⟨b, 1, none⟩) hB _
theorem len_walk (B b : Nat) (bs : List Value) (w : World) (h : Lib.IsBuilder 80 5 B b bs w) :
    Calls prog 46 #[.pointer (some ⟨b, 0, none⟩)] w fun e w' => e = .returned (.int .i64 bs.length) ∧ w' = w := Any.Builder_Len bLen B b bs w h
set_option maxRecDepth 100000 in
theorem exB : Builder.Extra prog bStr_ren := {
  sizeBuilder := szB
  liesBuilder := liesB
  t5 := Tryd.underlying5
  a5 := Tryd.isAgg5
  z5 := Tryd.sizeOf5
  v5 := Tryd.zeroValue5
  infoByte := infB
  cellsByte := by kernel_rfl
  sizeByte := by kernel_rfl
  neB5 := by decide }
theorem str_walk (B b : Nat) (l : List UInt8) (w : World) (h : Lib.IsBuilder 80 5 B b (Lib.byteCells l) w) (hBw : B ≤ w.heap.size) :
    Calls prog 50 #[.pointer (some ⟨b, 0, none⟩)] w fun e w' => e = .returned (.string ⟨l.toArray⟩) ∧ Below B w w' :=
  (Any.Builder_String_any bStr exB B b l w h hBw).mono fun e w' h => ⟨h.1, by first | exact h.2 | exact h.2.2 | exact h.2.1⟩
end Go.Proofs.YtkagbffdmppbhaaDoor.AWN

namespace Go.Proofs.YtkagbffdmppbhaaDoor.AWN
open Go Go.Shelf Go.RowKit Go.Proofs.Tryd

/-- A function of data alone, out of a walk that leaves all old memory as it was. -/
theorem acall_below {P : Program} {fr : Bool} {k : FuncId} {args : List V} {rv : V}
    (h : ∀ (W : World) (hb : Handle) (H : Nat → AObj) (ok : Nat → Prop) (vals : Array Value), (∀ g vs, layMem g = some vs → ∃ T f, W.heap[g]? = some (.cells vs T f)) → (∀ b, ok b → b < W.heap.size) → RelL W hb H ok args vals →
      Calls P k vals W (fun e W' => ∃ v, e = .returned v ∧ Below W.heap.size W W' ∧ ∀ hb H ok, Rel W' hb H ok rv v)) :
    ACall P fr k args [] (fun v o n => v = rv ∧ o = [] ∧ n = []) := by
  intro W A hb okA vals h1 h2 h3 h4
  refine (h W hb _ _ vals (fun g vs hg => (h3.lay g vs hg).1) (fun b hb => hb.1) h4).mono ?_
  rintro e W' ⟨v, rfl, bel, hv⟩
  refine ⟨v, rv, [], [], hb, rfl, ⟨rfl, rfl, rfl⟩, rfl, ?_, hv _ _ _⟩
  exact { obj := fun j => by unfold ObjOk; rw [show heapOf ([] ++ []) j = .none from heapOf_nil j]; trivial, inj := fun i j b hi => absurd (heapOf_nil i) hi, hnd := fun j b hj => absurd (heapOf_nil j) hj, fresh := fun j _ => heapOf_nil j, ext := ⟨fun i hi _ => bel.block i hi, bel.size, bel.tape, bel.os, bel.output⟩, keep := ⟨fun j cs hj => (by rw [h1, heapOf_nil] at hj; cases hj), fun j sz es hj => (by rw [h1, heapOf_nil] at hj; cases hj)⟩, lay := h3.lay }
/-- .. and back: a contract of a function of data alone, as a walk takes it. -/
theorem calls_of_acall {P : Program} {k : FuncId} {args : List V} {vals : Array Value} {W : World} {rv : V} {v0 : Value} (hlay : ∀ g vs, layMem g = some vs → ∃ T fr, W.heap[g]? = some (.cells vs T fr)) (hc : ACall P false k args [] (fun r o n => r = rv ∧ o = [] ∧ n = []))
    (hrel : RelL W (fun _ => none) (heapOf []) (okF W (fun _ => True) (fun _ => none) (heapOf []) W) args vals) (hv0 : ∀ W' hb H ok v, Rel W' hb H ok rv v → v = v0) : Calls P k vals W (fun e W' => e = .returned v0 ∧ Below W.heap.size W W') := by
  have hs : HSim W ⟨heapOf [], fun _ => none⟩ (fun _ => True) (fun _ => none) (heapOf []) ([] : List AObj).length W :=
    { obj := fun j => by unfold ObjOk; rw [heapOf_nil]; trivial, inj := fun i j b hi => absurd (heapOf_nil i) hi, hnd := fun j b hj => absurd (heapOf_nil j) hj, fresh := fun j _ => heapOf_nil j, ext := Ext.refl _ _, keep := MovesR.refl _ _ _, lay := fun g vs hg => ⟨hlay g vs hg, fun ⟨j, hj, _⟩ => hj (heapOf_nil j)⟩ }
  refine (hc W ⟨heapOf [], fun _ => none⟩ (fun _ => none) (fun _ => True) vals rfl rfl hs hrel).mono fun e W' ⟨v, r, o, n, hb', he, ⟨hr, ho, hn⟩, _, hs', hv⟩ => ?_
  subst hr
  have := hv0 _ _ _ _ _ hv
  subst this
  have hx := hs'.ext
  exact ⟨he, hx.os, hx.tape, hx.output, hx.size, fun k hk => hx.kept k hk (fun ⟨j, hj, _⟩ => hj (heapOf_nil j))⟩
theorem relL_1 {W : World} {hb : Handle} {H : Nat → AObj} {ok : Nat → Prop} {x : V} {v : Value} (h : Rel W hb H ok x v) : RelL W hb H ok [x] #[v] := ⟨rfl, fun i hi => by
  rcases i with _ | i
  · exact h
  · simp at hi⟩
theorem relL_2 {W : World} {hb : Handle} {H : Nat → AObj} {ok : Nat → Prop} {x y : V} {v u : Value} (h : Rel W hb H ok x v) (h' : Rel W hb H ok y u) : RelL W hb H ok [x, y] #[v, u] := ⟨rfl, fun i hi => by
  rcases i with _ | _ | i
  · exact h
  · exact h'
  · simp at hi; omega⟩
theorem rel_ib {W : World} {hb : Handle} {H : Nat → AObj} {ok : Nat → Prop} {x : Int} {b : Bool} {v : Value} (h : Rel W hb H ok (.tup [.d (.int .i64 x), .d (.bool b)]) v) : v = .tuple #[.int .i64 x, .bool b] := by
  cases h with
  | tup h1 h2 =>
    rename_i a
    have h0 := rel_int (h2 0 (by simp at h1; omega))
    have h3 := rel_bool (h2 1 (by simp at h1; omega))
    congr 1
    apply Array.ext
    · simp at h1; simp; omega
    · intro i hi hj
      simp at hj
      have : i = 0 ∨ i = 1 := by omega
      rcases this with rfl | rfl
      · rw [Array.getD_eq_getD_getElem?, Array.getElem?_eq_getElem hi] at h0; exact h0
      · rw [Array.getD_eq_getD_getElem?, Array.getElem?_eq_getElem hi] at h3; exact h3

/-! ### The journal -/
section
variable (cont : Str → Option Bool) (chk : Int → Str → Option (Int × Bool)) (dec : Int → Option Str)
def jrnM : List Str → Int → Str → Option (Str × Bool)
  | [], _, out => if 6000 < out.length then some ([], false) else some (out, true)
  | l :: r, c, out => if 6000 < l.length then some ([], false) else (cont l).bind fun b => if b = true then some ([], false) else if 6000 < out.length then some ([], false) else
      (chk c l).bind fun x => (dec x.1).bind fun d => grd (d.length ≤ 90000) (jrnM r x.1 (out ++ (d ++ [32] ++ l ++ [10])))
end
section
variable {cont : Str → Option Bool} {chk : Int → Str → Option (Int × Bool)} {dec : Int → Option Str}
variable (hcont : ∀ s r, cont s = some r → ACall prog false 45 [.d (.str (bstr s)), .d (.str (bstr [10]))] [] (fun v o n => v = .d (.bool r) ∧ o = [] ∧ n = []))
variable (hchk : ∀ c s r, chk c s = some r → ACall prog false 47 [.d (.int .i64 c), .d (.str (bstr s))] [] (fun v o n => v = .tup [.d (.int .i64 r.1), .d (.bool r.2)] ∧ o = [] ∧ n = []))
variable (hdec : ∀ c r, dec c = some r → ACall prog false 49 [.d (.int .i64 c)] [] (fun v o n => v = .d (.str (bstr r)) ∧ o = [] ∧ n = []))
def LayAt (W : World) : Prop := ∀ g vs, layMem g = some vs → ∃ T fr, W.heap[g]? = some (.cells vs T fr)
include hcont in
theorem cont_calls {s : Str} {r : Bool} (h : cont s = some r) {W : World} (hl : LayAt W) : Calls prog 45 #[.string (bstr s), .string ⟨#[10]⟩] W fun e W' => e = .returned (.bool r) ∧ Below W.heap.size W W' :=
  calls_of_acall hl (hcont s r h) (relL_2 (mk_str _) (mk_str _)) fun _ _ _ _ _ h => rel_bool h
include hchk in
theorem chk_calls {c : Int} {s : Str} {r : Int × Bool} (h : chk c s = some r) {W : World} (hl : LayAt W) : Calls prog 47 #[.int .i64 c, .string (bstr s)] W fun e W' => e = .returned (.tuple #[.int .i64 r.1, .bool r.2]) ∧ Below W.heap.size W W' :=
  calls_of_acall hl (hchk c s r h) (relL_2 (mk_int _ _) (mk_str _)) fun _ _ _ _ _ h => rel_ib h
include hdec in
theorem dec_calls {c : Int} {r : Str} (h : dec c = some r) {W : World} (hl : LayAt W) : Calls prog 49 #[.int .i64 c] W fun e W' => e = .returned (.string (bstr r)) ∧ Below W.heap.size W W' :=
  calls_of_acall hl (hdec c r h) (relL_1 (mk_int _ _)) fun _ _ _ _ _ h => rel_str h
theorem LayAt.below {W W' : World} (h : LayAt W) (b : Below W.heap.size W W') : LayAt W' := fun g vs hg => by
  obtain ⟨T, fr, e⟩ := h g vs hg
  exact ⟨T, fr, by rw [b.block g (by
    rcases Nat.lt_or_ge g W.heap.size with h' | h'
    · exact h'
    · simp [Array.getElem?_eq_none h'] at e), e]⟩
end
end Go.Proofs.YtkagbffdmppbhaaDoor.AWN

namespace Go.Proofs.YtkagbffdmppbhaaDoor.AWN
open Go Go.Shelf Go.RowKit Go.Proofs.Tryd
theorem bld_kept {B b : Nat} {p : Value} {bs : List Value} {w w' : World} (h : Lib.BuilderAt 80 5 B b p bs w) (k : Below w.heap.size w w') : Lib.BuilderAt 80 5 B b p bs w' := by
  have hlt := h.lt
  obtain ⟨hB, v, hb, hown, hne⟩ := h
  refine ⟨hB, v, (k.block b hlt).trans hb, hown.kept (row := none) ⟨k.os, k.tape, k.output, k.size, fun i hi _ => k.block i hi⟩ (by cases hv : v.ownBlock <;> simp), hne⟩
theorem isb_kept {B b : Nat} {bs : List Value} {w w' : World} (h : Lib.IsBuilder 80 5 B b bs w) (k : Below w.heap.size w w') : Lib.IsBuilder 80 5 B b bs w' := h.imp (fun h => bld_kept h k) fun h => bld_kept h k
theorem hcat_row (d l : Str) : bstr d ++ { data := #[32] } ++ bstr l ++ { data := #[10] } = bstr (d ++ [32] ++ l ++ [10]) := by
  rw [show ({ data := #[32] } : ByteArray) = bstr [32] from rfl, show ({ data := #[10] } : ByteArray) = bstr [10] from rfl, bstr_append, bstr_append, bstr_append]
theorem cells_str (s : Str) : Lib.strCells (bstr s) = Lib.byteCells s := by
  rw [Lib.strCells_eq]; rfl
theorem cells_app (s t : Str) : Lib.byteCells s ++ Lib.byteCells t = Lib.byteCells (s ++ t) := by
  unfold Lib.byteCells; rw [List.map_append]
section
variable {cont : Str → Option Bool} {chk : Int → Str → Option (Int × Bool)} {dec : Int → Option Str}
variable (hcont : ∀ s r, cont s = some r → ACall prog false 45 [.d (.str (bstr s)), .d (.str (bstr [10]))] [] (fun v o n => v = .d (.bool r) ∧ o = [] ∧ n = []))
variable (hchk : ∀ c s r, chk c s = some r → ACall prog false 47 [.d (.int .i64 c), .d (.str (bstr s))] [] (fun v o n => v = .tup [.d (.int .i64 r.1), .d (.bool r.2)] ∧ o = [] ∧ n = []))
variable (hdec : ∀ c r, dec c = some r → ACall prog false 49 [.d (.int .i64 c)] [] (fun v o n => v = .d (.str (bstr r)) ∧ o = [] ∧ n = []))
include hcont hchk hdec
set_option maxHeartbeats 4000000 in
set_option maxRecDepth 100000 in
theorem jrn_walk (w : World) (hl : LayAt w) (lines : List Str) (a : Option Addr) (len cap : Nat) (hlen : lines.length = len) (hle : len ≤ maxLen)
    (hc : ∀ i, i < len → ∃ b o, a = some ⟨b, o, none⟩ ∧ b < w.heap.size ∧ w.cell? ⟨b, o + i, none⟩ = some (.string (bstr (lines.getD i [])))) {r : Str × Bool} (h : jrnM cont chk dec lines 0 [] = some r) :
    Calls prog 21 #[.slice a len cap] w fun e w' => e = .returned (.tuple #[.string (bstr r.1), .bool r.2]) ∧ Below w.heap.size w w' := by
  have h0 : Lib.IsBuilder 80 5 w.heap.size w.heap.size (Lib.byteCells []) (w.alloc (.cells #[.pointer none, .slice none 0 0] 80)) := Lib.fresh_isBuilder 80 5 w
  have b0 : Below w.heap.size w (w.alloc (.cells #[.pointer none, .slice none 0 0] 80)) := (Below.refl _ w).alloc (Nat.le_refl _) _
  unfold maxLen at hle
  go_enter Tryd.func21, Tryd.ntmps21
  go_wp2
  go_loopw [5, 11] (fun c i wr => ∃ (k : Nat) (c' : Int) (out : Str), k ≤ len ∧ i = .int .i64 k ∧ c = .int .i64 c' ∧ jrnM cont chk dec (lines.drop k) c' out = some r ∧ Lib.IsBuilder 80 5 w.heap.size w.heap.size (Lib.byteCells out) wr ∧ Below w.heap.size w wr)
    (fun _ i _ => len - (intOf i).toNat)
  case atStart => exact ⟨0, 0, [], Nat.zero_le _, rfl, rfl, h, h0, b0⟩
  case round =>
    obtain ⟨k, c', out, hk, rfl, rfl, hj, hB, bel⟩ := hrel
    clear h0 b0
    by_cases hlt : k < len
    · obtain ⟨b, o, rfl, hbl, hcell⟩ := hc k hlt
      have hcell := (bel.cell hbl).trans hcell
      clear hc
      have hlr : LayAt wr := fun g vs hg => by
        obtain ⟨T, fr, e⟩ := hl g vs hg
        exact ⟨T, fr, by rw [bel.block g (by
          rcases Nat.lt_or_ge g w.heap.size with h' | h'
          · exact h'
          · simp [Array.getElem?_eq_none h'] at e), e]⟩
      have hsz := bel.size
      have hbel : ∀ {w1 : World}, Below wr.heap.size wr w1 → Below w.heap.size w w1 := fun h => bel.trans (h.mono hsz)
      have hd : lines.drop k = lines.getD k [] :: lines.drop (k + 1) := by
        rw [List.drop_eq_getElem_cons (by omega), List.getD_eq_getElem?_getD, List.getElem?_eq_getElem (by omega)]; rfl
      rw [hd] at hj
      generalize lines.getD k [] = l at hj hcell hd
      have hls := bstr_size l
      unfold jrnM at hj
      by_cases h1 : 6000 < l.length
      · rw [if_pos h1] at hj
        cases hj
        go_wp2
        go_ret2
        exact ⟨rfl, bel⟩
      · rw [if_neg h1] at hj
        obtain ⟨bb, hb, hj⟩ := Option.bind_eq_some_iff.1 hj
        cases bb with
        | true =>
          rw [if_pos rfl] at hj
          cases hj
          go_wp2_with (go_at_call 45; refine (cont_calls hcont hb hlr).mono ?_)
          rintro e w1 ⟨rfl, b1⟩
          go_wp2
          go_ret2
          exact ⟨rfl, hbel b1⟩
        | false =>
          rw [if_neg (by decide)] at hj
          go_wp2_with (go_at_call 45; refine (cont_calls hcont hb hlr).mono ?_)
          rintro e w1 ⟨rfl, b1⟩
          have hB1 := isb_kept hB b1
          have hl1 := hlr.below b1
          have hbel1 := hbel b1
          have hbl1 : (Lib.byteCells out).length = out.length := Lib.byteCells_length out
          go_wp2_with (go_at_call 46; refine (len_walk _ _ _ _ hB1).mono ?_)
          rintro e w2 ⟨rfl, rfl⟩
          by_cases h2 : 6000 < out.length
          · rw [if_pos h2] at hj
            cases hj
            go_wp2
            go_ret2
            exact ⟨rfl, hbel1⟩
          · rw [if_neg h2] at hj
            obtain ⟨⟨x, y⟩, hx, hj⟩ := Option.bind_eq_some_iff.1 hj
            obtain ⟨d, hdd, hj⟩ := Option.bind_eq_some_iff.1 hj
            go_wp2_with (go_at_call 47; refine (chk_calls hchk hx hl1).mono ?_)
            rintro e w3 rfl b3
            have hB3 := isb_kept hB1 b3
            have hl3 := hl1.below b3
            have hbel3 := hbel1.trans (b3.mono hbel1.size)
            go_wp2_with (go_at_call 49; refine (dec_calls hdec hdd hl3).mono ?_)
            first | rintro e w4 ⟨rfl, b4⟩ | rintro e w4 rfl b4
            have hB4 := isb_kept hB3 b4
            have hbel4 := hbel3.trans (b4.mono hbel3.size)
            unfold grd at hj
            by_cases h3 : d.length ≤ 90000
            · rw [if_pos h3] at hj
              have hds := bstr_size d
              go_wp2_with (go_at_call 48; refine (ws_walk _ _ _ _ _ hB4 ?c1 hbel4.size).mono ?_)
              case c1 =>
                rw [hcat_row, bstr_size, hbl1]
                simp only [List.length_append, List.length_cons, List.length_nil]
                omega
              first | rintro e w5 ⟨rfl, hB5, b5⟩ | rintro e w5 rfl hB5 b5
              rw [hcat_row, cells_str, cells_app] at hB5
              have hbel5 := hbel4.trans b5
              clear hB hB1 hB3 hB4
              go_wp2
              go_roundw
              case rel => exact ⟨k + 1, x, _, by omega, by go_num, rfl, hj, Or.inr hB5, hbel5⟩
              case measure => simp [intOf]; omega
            · rw [if_neg h3] at hj; cases hj
    · have hke : k = len := by omega
      rw [List.drop_eq_nil_of_le (by omega)] at hj
      unfold jrnM at hj
      have hbl1 : (Lib.byteCells out).length = out.length := Lib.byteCells_length out
      go_wp2_with (go_at_call 46; refine (len_walk _ _ _ _ hB).mono ?_)
      first | rintro e w2 ⟨rfl, rfl⟩ | rintro e w2 rfl rfl
      by_cases h2 : 6000 < out.length
      · rw [if_pos h2] at hj
        cases hj
        go_wp2
        go_ret2
        exact ⟨rfl, bel⟩
      · rw [if_neg h2] at hj
        cases hj
        go_wp2_with (go_at_call 50; refine (str_walk _ _ _ _ hB bel.size).mono ?_)
        first | rintro e w3 ⟨rfl, b3⟩ | rintro e w3 rfl b3
        go_wp2
        go_ret2
        exact ⟨rfl, bel.trans b3⟩
theorem jrn_does {fr : Bool} {eS : Str → List D} (hf : ∀ s, eS s = [.str (bstr s)]) {lines : List Str} {r : Str × Bool} (h : jrnM cont chk dec lines 0 [] = some r) :
    ACall prog fr 21 [.d (.sl false (lines.map eS))] [] (fun v o n => v = .tup [.d (.str (bstr r.1)), .d (.bool r.2)] ∧ o = [] ∧ n = []) := by
  refine acall_below fun W hb H ok vals hl hok hr => ?_
  obtain ⟨v, rfl, h1⟩ : ∃ v, vals = #[v] ∧ Rel W hb H ok (.d (.sl false (lines.map eS))) v := by
    obtain ⟨g1, g2⟩ := hr
    have hs : vals.size = 1 := by simp at g1; omega
    refine ⟨vals[0], ?_, ?_⟩
    · apply Array.ext
      · simp; omega
      · intro i hi hj
        simp at hj
        have : i = 0 := by omega
        subst this; rfl
    · have := g2 0 (by omega)
      simpa [Array.getD_eq_getD_getElem?, hs] using this
  have main : ∃ a len cap, v = .slice a len cap ∧ lines.length = len ∧ len ≤ maxLen ∧ ∀ i, i < len → ∃ b o, a = some ⟨b, o, none⟩ ∧ b < W.heap.size ∧ W.cell? ⟨b, o + i, none⟩ = some (.string (bstr (lines.getD i []))) := by
    cases h1 with
    | d h1 =>
      generalize hes : lines.map eS = es at h1
      cases h1 with
      | slnil =>
        have : lines = [] := by simpa using hes
        subst this
        exact ⟨none, 0, 0, rfl, rfl, Nat.zero_le _, fun i hi => absurd hi (by omega)⟩
      | sle =>
        have : lines = [] := by simpa using hes
        subst this
        exact ⟨_, 0, 0, rfl, rfl, Nat.zero_le _, fun i hi => absurd hi (by omega)⟩
      | sl sz vs k1 k2 k3 k4 k5 k6 k7 k8 =>
        rename_i b o len cap
        subst hes
        rw [List.length_map] at k2
        refine ⟨_, len, cap, rfl, k2, k5, fun i hi => ⟨b, o, rfl, hok _ (k1 (by
          intro hnil
          have : lines = [] := by simpa using hnil
          rw [this] at k2; simp at k2; omega)), ?_⟩⟩
        have e : (lines.map eS).getD i [] = [.str (bstr (lines.getD i []))] := by
          rw [List.getD_eq_getElem?_getD, List.getElem?_map, List.getD_eq_getElem?_getD, List.getElem?_eq_getElem (by omega)]
          exact hf _
        have h6 := k6 i hi
        rw [e] at h6
        have h6 : 1 = sz := h6
        subst h6
        have h7 := k7 i 0 hi (by omega)
        have h8 := k8 i 0 hi (by omega)
        rw [e] at h8
        have h8 := relD_str h8
        rw [h8] at h7
        simpa using h7
  obtain ⟨a, len, cap, rfl, hlen, hle, hcs⟩ := main
  refine (jrn_walk hcont hchk hdec W hl lines a len cap hlen hle hcs h).mono ?_
  rintro e w' ⟨rfl, bel⟩
  refine ⟨_, rfl, bel, fun hb H ok => .tup rfl fun i hi => ?_⟩
  rcases i with _ | _ | i
  · exact mk_str _
  · exact mk_bool _
  · simp at hi; omega
end
end Go.Proofs.YtkagbffdmppbhaaDoor.AWN
