/- The types of the program, as the calculus reads them. -/
import Derived.Test.YtdgkahieegcmeaaDoorProg
import Derived.KernelRfl
import Derived.Test.YtdgkahieegcmeaaDoorPCalcB
import Derived.Test.YtdgkahieegcmeaaDoorPCalcC
import Derived.Shelf.SlGeneric
import Derived.Shelf.Strings.Builder1
import Derived.Lib.Builder
import Derived.Lib.AppendStr
import Derived.BigCall
import Derived.Lib.OthersKept
import Derived.Lib.OwnKind
import Derived.Shelf.Strings.Builder2
import Derived.LoopTactic
import Derived.BigGuard
set_option linter.unusedVariables false
set_option linter.unusedSimpArgs false
set_option linter.unusedSectionVars false
namespace Go.Proofs.YtdgkahieegcmeaaDoor.AWN
open Go Go.Proofs.Tryd
def TiOk (t : TypeId) (td : TD) : Prop := prog.underlying t = some td.desc ∧ ∃ i, prog.info? t = some i ∧ i.size = td.size ∧ i.bytes = td.bytes ∧ i.zero = some td.zero
theorem tiOk {t : TypeId} {td : TD} (h : prog.underlying t = some td.desc) (h' : (prog.info? t).map (fun i => (i.size, i.bytes, i.zero)) = some (td.size, td.bytes, some td.zero)) : TiOk t td := by
  refine ⟨h, ?_⟩
  cases hi : prog.info? t with
  | none => rw [hi] at h'; cases h'
  | some i =>
    rw [hi] at h'
    simp only [Option.map_some, Option.some.injEq, Prod.mk.injEq] at h'
    exact ⟨i, rfl, h'.1, h'.2.1, h'.2.2⟩

theorem ti1 : (prog.info? 1).map (fun i => (i.size, i.bytes, i.zero)) = some (1, 8, some (.nilFunc)) := by kernel_rfl
theorem ti2 : (prog.info? 2).map (fun i => (i.size, i.bytes, i.zero)) = some (1, 8, some (.int .i64 0)) := by kernel_rfl
theorem ti3 : (prog.info? 3).map (fun i => (i.size, i.bytes, i.zero)) = some (1, 8, some (.int .i64 0)) := by kernel_rfl
theorem ti4 : (prog.info? 4).map (fun i => (i.size, i.bytes, i.zero)) = some (1, 1, some (.bool false)) := by kernel_rfl
theorem ti5 : (prog.info? 5).map (fun i => (i.size, i.bytes, i.zero)) = some (1, 1, some (.int .u8 0)) := by kernel_rfl
theorem ti6 : (prog.info? 6).map (fun i => (i.size, i.bytes, i.zero)) = some (1, 1, some (.int .u8 0)) := by kernel_rfl
theorem ti7 : (prog.info? 7).map (fun i => (i.size, i.bytes, i.zero)) = some (4, 24, some (.agg #[.int .i64 0, .int .i64 0, .bool false, .int .u8 0])) := by kernel_rfl
theorem ti8 : (prog.info? 8).map (fun i => (i.size, i.bytes, i.zero)) = some (4, 24, some (.agg #[.int .i64 0, .int .i64 0, .bool false, .int .u8 0])) := by kernel_rfl
theorem ti9 : (prog.info? 9).map (fun i => (i.size, i.bytes, i.zero)) = some (1, 16, some (.string ⟨#[]⟩)) := by kernel_rfl
theorem ti10 : (prog.info? 10).map (fun i => (i.size, i.bytes, i.zero)) = some (1, 16, some (.string ⟨#[]⟩)) := by kernel_rfl
theorem ti11 : (prog.info? 11).map (fun i => (i.size, i.bytes, i.zero)) = some (1, 16, some (.string ⟨#[]⟩)) := by kernel_rfl
theorem ti12 : (prog.info? 12).map (fun i => (i.size, i.bytes, i.zero)) = some (1, 8, some (.int .u64 0)) := by kernel_rfl
theorem ti13 : (prog.info? 13).map (fun i => (i.size, i.bytes, i.zero)) = some (2, 24, some (.agg #[.string ⟨#[]⟩, .int .u64 0])) := by kernel_rfl
theorem ti14 : (prog.info? 14).map (fun i => (i.size, i.bytes, i.zero)) = some (2, 24, some (.agg #[.string ⟨#[]⟩, .int .u64 0])) := by kernel_rfl
theorem ti15 : (prog.info? 15).map (fun i => (i.size, i.bytes, i.zero)) = some (1, 8, some (.pointer none)) := by kernel_rfl
theorem ti16 : (prog.info? 16).map (fun i => (i.size, i.bytes, i.zero)) = some (1, 8, some (.pointer none)) := by kernel_rfl
theorem ti17 : (prog.info? 17).map (fun i => (i.size, i.bytes, i.zero)) = some (1, 8, some (.pointer none)) := by kernel_rfl
theorem ti18 : (prog.info? 18).map (fun i => (i.size, i.bytes, i.zero)) = some (1, 8, some (.agg #[.pointer none])) := by kernel_rfl
theorem ti19 : (prog.info? 19).map (fun i => (i.size, i.bytes, i.zero)) = some (1, 8, some (.agg #[.pointer none])) := by kernel_rfl
theorem ti21 : (prog.info? 21).map (fun i => (i.size, i.bytes, i.zero)) = some (1, 4, some (.int .i32 0)) := by kernel_rfl
theorem ti22 : (prog.info? 22).map (fun i => (i.size, i.bytes, i.zero)) = some (1, 24, some (.slice none 0 0)) := by kernel_rfl
theorem ti23 : (prog.info? 23).map (fun i => (i.size, i.bytes, i.zero)) = some (1, 8, some (.nilFunc)) := by kernel_rfl
theorem ti24 : (prog.info? 24).map (fun i => (i.size, i.bytes, i.zero)) = some (1, 8, some (.complex .f32 0 0)) := by kernel_rfl
theorem ti25 : (prog.info? 25).map (fun i => (i.size, i.bytes, i.zero)) = some (1, 24, some (.slice none 0 0)) := by kernel_rfl
theorem ti26 : (prog.info? 26).map (fun i => (i.size, i.bytes, i.zero)) = some (1, 8, some (.nilFunc)) := by kernel_rfl
theorem ti27 : (prog.info? 27).map (fun i => (i.size, i.bytes, i.zero)) = some (1, 8, some (.nilFunc)) := by kernel_rfl
theorem ti28 : (prog.info? 28).map (fun i => (i.size, i.bytes, i.zero)) = some (1, 4, some (.float .f32 0)) := by kernel_rfl
theorem ti29 : (prog.info? 29).map (fun i => (i.size, i.bytes, i.zero)) = some (1, 8, some (.nilFunc)) := by kernel_rfl
theorem ti30 : (prog.info? 30).map (fun i => (i.size, i.bytes, i.zero)) = some (1, 8, some (.nilFunc)) := by kernel_rfl
theorem ti31 : (prog.info? 31).map (fun i => (i.size, i.bytes, i.zero)) = some (1, 8, some (.nilFunc)) := by kernel_rfl
theorem ti32 : (prog.info? 32).map (fun i => (i.size, i.bytes, i.zero)) = some (1, 8, some (.nilFunc)) := by kernel_rfl
theorem ti33 : (prog.info? 33).map (fun i => (i.size, i.bytes, i.zero)) = some (1, 8, some (.nilFunc)) := by kernel_rfl
theorem ti34 : (prog.info? 34).map (fun i => (i.size, i.bytes, i.zero)) = some (1, 8, some (.nilFunc)) := by kernel_rfl
theorem ti35 : (prog.info? 35).map (fun i => (i.size, i.bytes, i.zero)) = some (1, 8, some (.nilFunc)) := by kernel_rfl
theorem ti37 : (prog.info? 37).map (fun i => (i.size, i.bytes, i.zero)) = some (1, 8, some (.nilFunc)) := by kernel_rfl
theorem ti39 : (prog.info? 39).map (fun i => (i.size, i.bytes, i.zero)) = some (1, 8, some (.nilFunc)) := by kernel_rfl
theorem ti40 : (prog.info? 40).map (fun i => (i.size, i.bytes, i.zero)) = some (1, 8, some (.nilFunc)) := by kernel_rfl
theorem ti42 : (prog.info? 42).map (fun i => (i.size, i.bytes, i.zero)) = some (1, 8, some (.nilFunc)) := by kernel_rfl
theorem ti43 : (prog.info? 43).map (fun i => (i.size, i.bytes, i.zero)) = some (1, 8, some (.nilFunc)) := by kernel_rfl
theorem ti44 : (prog.info? 44).map (fun i => (i.size, i.bytes, i.zero)) = some (1, 8, some (.nilFunc)) := by kernel_rfl
theorem ti45 : (prog.info? 45).map (fun i => (i.size, i.bytes, i.zero)) = some (1, 16, some (.complex .f64 0 0)) := by kernel_rfl
theorem ti46 : (prog.info? 46).map (fun i => (i.size, i.bytes, i.zero)) = some (1, 8, some (.float .f64 0)) := by kernel_rfl
theorem ti47 : (prog.info? 47).map (fun i => (i.size, i.bytes, i.zero)) = some (1, 8, some (.nilFunc)) := by kernel_rfl
theorem ti48 : (prog.info? 48).map (fun i => (i.size, i.bytes, i.zero)) = some (1, 8, some (.nilFunc)) := by kernel_rfl
theorem ti49 : (prog.info? 49).map (fun i => (i.size, i.bytes, i.zero)) = some (1, 8, some (.nilFunc)) := by kernel_rfl
theorem ti50 : (prog.info? 50).map (fun i => (i.size, i.bytes, i.zero)) = some (1, 8, some (.nilFunc)) := by kernel_rfl
theorem ti51 : (prog.info? 51).map (fun i => (i.size, i.bytes, i.zero)) = some (1, 8, some (.nilFunc)) := by kernel_rfl
theorem ti52 : (prog.info? 52).map (fun i => (i.size, i.bytes, i.zero)) = some (1, 24, some (.slice none 0 0)) := by kernel_rfl
theorem ti53 : (prog.info? 53).map (fun i => (i.size, i.bytes, i.zero)) = some (1, 8, some (.nilFunc)) := by kernel_rfl
theorem ti54 : (prog.info? 54).map (fun i => (i.size, i.bytes, i.zero)) = some (1, 8, some (.nilFunc)) := by kernel_rfl
theorem ti55 : (prog.info? 55).map (fun i => (i.size, i.bytes, i.zero)) = some (1, 8, some (.nilFunc)) := by kernel_rfl
theorem ti57 : (prog.info? 57).map (fun i => (i.size, i.bytes, i.zero)) = some (1, 8, some (.nilFunc)) := by kernel_rfl
theorem ti58 : (prog.info? 58).map (fun i => (i.size, i.bytes, i.zero)) = some (1, 8, some (.nilFunc)) := by kernel_rfl
theorem ti59 : (prog.info? 59).map (fun i => (i.size, i.bytes, i.zero)) = some (1, 8, some (.nilFunc)) := by kernel_rfl
theorem ti60 : (prog.info? 60).map (fun i => (i.size, i.bytes, i.zero)) = some (1, 24, some (.slice none 0 0)) := by kernel_rfl
theorem ti61 : (prog.info? 61).map (fun i => (i.size, i.bytes, i.zero)) = some (1, 8, some (.nilFunc)) := by kernel_rfl
theorem ti62 : (prog.info? 62).map (fun i => (i.size, i.bytes, i.zero)) = some (3, 24, some (.agg #[.complex .f32 0 0, .complex .f32 0 0, .complex .f32 0 0])) := by kernel_rfl
theorem ti63 : (prog.info? 63).map (fun i => (i.size, i.bytes, i.zero)) = some (3, 24, some (.agg #[.complex .f32 0 0, .complex .f32 0 0, .complex .f32 0 0])) := by kernel_rfl
theorem ti64 : (prog.info? 64).map (fun i => (i.size, i.bytes, i.zero)) = some (1, 24, some (.slice none 0 0)) := by kernel_rfl
theorem ti65 : (prog.info? 65).map (fun i => (i.size, i.bytes, i.zero)) = some (4, 48, some (.agg #[.complex .f32 0 0, .complex .f32 0 0, .complex .f32 0 0, .slice none 0 0])) := by kernel_rfl
theorem ti66 : (prog.info? 66).map (fun i => (i.size, i.bytes, i.zero)) = some (4, 48, some (.agg #[.complex .f32 0 0, .complex .f32 0 0, .complex .f32 0 0, .slice none 0 0])) := by kernel_rfl
theorem ti67 : (prog.info? 67).map (fun i => (i.size, i.bytes, i.zero)) = some (1, 24, some (.slice none 0 0)) := by kernel_rfl
theorem ti68 : (prog.info? 68).map (fun i => (i.size, i.bytes, i.zero)) = some (1, 24, some (.slice none 0 0)) := by kernel_rfl
theorem ti69 : (prog.info? 69).map (fun i => (i.size, i.bytes, i.zero)) = some (6, 96, some (.agg #[.complex .f32 0 0, .complex .f32 0 0, .complex .f32 0 0, .slice none 0 0, .slice none 0 0, .slice none 0 0])) := by kernel_rfl
theorem ti70 : (prog.info? 70).map (fun i => (i.size, i.bytes, i.zero)) = some (6, 96, some (.agg #[.complex .f32 0 0, .complex .f32 0 0, .complex .f32 0 0, .slice none 0 0, .slice none 0 0, .slice none 0 0])) := by kernel_rfl
theorem ti71 : (prog.info? 71).map (fun i => (i.size, i.bytes, i.zero)) = some (1, 8, some (.nilFunc)) := by kernel_rfl
theorem ti72 : (prog.info? 72).map (fun i => (i.size, i.bytes, i.zero)) = some (1, 8, some (.nilFunc)) := by kernel_rfl
theorem ti74 : (prog.info? 74).map (fun i => (i.size, i.bytes, i.zero)) = some (1, 8, some (.nilFunc)) := by kernel_rfl
theorem ti75 : (prog.info? 75).map (fun i => (i.size, i.bytes, i.zero)) = some (1, 8, some (.pointer none)) := by kernel_rfl
theorem ti76 : (prog.info? 76).map (fun i => (i.size, i.bytes, i.zero)) = some (1, 8, some (.nilFunc)) := by kernel_rfl
theorem ti77 : (prog.info? 77).map (fun i => (i.size, i.bytes, i.zero)) = some (1, 8, some (.nilFunc)) := by kernel_rfl
theorem ti79 : (prog.info? 79).map (fun i => (i.size, i.bytes, i.zero)) = some (1, 8, some (.nilFunc)) := by kernel_rfl
theorem ti80 : (prog.info? 80).map (fun i => (i.size, i.bytes, i.zero)) = some (1, 8, some (.nilFunc)) := by kernel_rfl
theorem ti81 : (prog.info? 81).map (fun i => (i.size, i.bytes, i.zero)) = some (1, 8, some (.nilFunc)) := by kernel_rfl
theorem ti82 : (prog.info? 82).map (fun i => (i.size, i.bytes, i.zero)) = some (1, 8, some (.nilFunc)) := by kernel_rfl
theorem ti83 : (prog.info? 83).map (fun i => (i.size, i.bytes, i.zero)) = some (1, 8, some (.nilFunc)) := by kernel_rfl
theorem ti84 : (prog.info? 84).map (fun i => (i.size, i.bytes, i.zero)) = some (1, 8, some (.nilFunc)) := by kernel_rfl
theorem ti85 : (prog.info? 85).map (fun i => (i.size, i.bytes, i.zero)) = some (1, 8, some (.nilFunc)) := by kernel_rfl
theorem ti86 : (prog.info? 86).map (fun i => (i.size, i.bytes, i.zero)) = some (1, 8, some (.nilFunc)) := by kernel_rfl
theorem ti87 : (prog.info? 87).map (fun i => (i.size, i.bytes, i.zero)) = some (1, 8, some (.nilFunc)) := by kernel_rfl
theorem ti88 : (prog.info? 88).map (fun i => (i.size, i.bytes, i.zero)) = some (1, 8, some (.nilFunc)) := by kernel_rfl
theorem ti89 : (prog.info? 89).map (fun i => (i.size, i.bytes, i.zero)) = some (1, 8, some (.nilFunc)) := by kernel_rfl
theorem ti90 : (prog.info? 90).map (fun i => (i.size, i.bytes, i.zero)) = some (1, 8, some (.nilFunc)) := by kernel_rfl
theorem ti91 : (prog.info? 91).map (fun i => (i.size, i.bytes, i.zero)) = some (1, 8, some (.nilFunc)) := by kernel_rfl
theorem ti92 : (prog.info? 92).map (fun i => (i.size, i.bytes, i.zero)) = some (1, 8, some (.nilFunc)) := by kernel_rfl
theorem ti93 : (prog.info? 93).map (fun i => (i.size, i.bytes, i.zero)) = some (1, 4, some (.int .u32 0)) := by kernel_rfl
theorem ti94 : (prog.info? 94).map (fun i => (i.size, i.bytes, i.zero)) = some (1, 8, some (.nilFunc)) := by kernel_rfl
theorem ti95 : (prog.info? 95).map (fun i => (i.size, i.bytes, i.zero)) = some (1, 8, some (.nilFunc)) := by kernel_rfl
theorem ti96 : (prog.info? 96).map (fun i => (i.size, i.bytes, i.zero)) = some (1, 8, some (.nilFunc)) := by kernel_rfl
theorem ti97 : (prog.info? 97).map (fun i => (i.size, i.bytes, i.zero)) = some (1, 8, some (.nilFunc)) := by kernel_rfl
theorem ti98 : (prog.info? 98).map (fun i => (i.size, i.bytes, i.zero)) = some (1, 8, some (.nilFunc)) := by kernel_rfl
theorem ti99 : (prog.info? 99).map (fun i => (i.size, i.bytes, i.zero)) = some (1, 8, some (.nilFunc)) := by kernel_rfl
theorem ti100 : (prog.info? 100).map (fun i => (i.size, i.bytes, i.zero)) = some (1, 8, some (.nilFunc)) := by kernel_rfl
theorem ti101 : (prog.info? 101).map (fun i => (i.size, i.bytes, i.zero)) = some (1, 8, some (.nilFunc)) := by kernel_rfl
theorem ti102 : (prog.info? 102).map (fun i => (i.size, i.bytes, i.zero)) = some (1, 8, some (.nilFunc)) := by kernel_rfl
theorem ti103 : (prog.info? 103).map (fun i => (i.size, i.bytes, i.zero)) = some (1, 8, some (.pointer none)) := by kernel_rfl
theorem ti104 : (prog.info? 104).map (fun i => (i.size, i.bytes, i.zero)) = some (1, 8, some (.nilFunc)) := by kernel_rfl
theorem ti105 : (prog.info? 105).map (fun i => (i.size, i.bytes, i.zero)) = some (1, 8, some (.pointer none)) := by kernel_rfl
theorem ti106 : (prog.info? 106).map (fun i => (i.size, i.bytes, i.zero)) = some (2, 32, some (.agg #[.pointer none, .slice none 0 0])) := by kernel_rfl
theorem ti107 : (prog.info? 107).map (fun i => (i.size, i.bytes, i.zero)) = some (2, 32, some (.agg #[.pointer none, .slice none 0 0])) := by kernel_rfl
theorem ti108 : (prog.info? 108).map (fun i => (i.size, i.bytes, i.zero)) = some (1, 8, some (.nilFunc)) := by kernel_rfl
theorem ti109 : (prog.info? 109).map (fun i => (i.size, i.bytes, i.zero)) = some (1, 8, some (.nilFunc)) := by kernel_rfl
theorem ti111 : (prog.info? 111).map (fun i => (i.size, i.bytes, i.zero)) = some (1, 8, some (.nilFunc)) := by kernel_rfl
theorem ti115 : (prog.info? 115).map (fun i => (i.size, i.bytes, i.zero)) = some (1, 8, some (.nilFunc)) := by kernel_rfl
theorem ti116 : (prog.info? 116).map (fun i => (i.size, i.bytes, i.zero)) = some (1, 8, some (.nilFunc)) := by kernel_rfl
theorem ti117 : (prog.info? 117).map (fun i => (i.size, i.bytes, i.zero)) = some (1, 8, some (.nilFunc)) := by kernel_rfl
theorem ti118 : (prog.info? 118).map (fun i => (i.size, i.bytes, i.zero)) = some (1, 8, some (.nilFunc)) := by kernel_rfl
theorem ti120 : (prog.info? 120).map (fun i => (i.size, i.bytes, i.zero)) = some (1, 8, some (.nilFunc)) := by kernel_rfl
theorem ti121 : (prog.info? 121).map (fun i => (i.size, i.bytes, i.zero)) = some (1, 8, some (.int .u64 0)) := by kernel_rfl
theorem ti122 : (prog.info? 122).map (fun i => (i.size, i.bytes, i.zero)) = some (3, 40, some (.agg #[.slice none 0 0, .int .i64 0, .int .u64 0])) := by kernel_rfl
theorem ti123 : (prog.info? 123).map (fun i => (i.size, i.bytes, i.zero)) = some (3, 40, some (.agg #[.slice none 0 0, .int .i64 0, .int .u64 0])) := by kernel_rfl
theorem ti124 : (prog.info? 124).map (fun i => (i.size, i.bytes, i.zero)) = some (1, 8, some (.nilFunc)) := by kernel_rfl
theorem ti125 : (prog.info? 125).map (fun i => (i.size, i.bytes, i.zero)) = some (1, 8, some (.nilFunc)) := by kernel_rfl
theorem ti126 : (prog.info? 126).map (fun i => (i.size, i.bytes, i.zero)) = some (1, 8, some (.nilFunc)) := by kernel_rfl
theorem ti127 : (prog.info? 127).map (fun i => (i.size, i.bytes, i.zero)) = some (1, 8, some (.nilFunc)) := by kernel_rfl
theorem ti128 : (prog.info? 128).map (fun i => (i.size, i.bytes, i.zero)) = some (1, 24, some (.slice none 0 0)) := by kernel_rfl
theorem ti129 : (prog.info? 129).map (fun i => (i.size, i.bytes, i.zero)) = some (1, 8, some (.nilFunc)) := by kernel_rfl
theorem ti130 : (prog.info? 130).map (fun i => (i.size, i.bytes, i.zero)) = some (1, 8, some (.nilFunc)) := by kernel_rfl
theorem ti131 : (prog.info? 131).map (fun i => (i.size, i.bytes, i.zero)) = some (1, 8, some (.nilFunc)) := by kernel_rfl
theorem ti132 : (prog.info? 132).map (fun i => (i.size, i.bytes, i.zero)) = some (1, 8, some (.nilFunc)) := by kernel_rfl
theorem ti133 : (prog.info? 133).map (fun i => (i.size, i.bytes, i.zero)) = some (1, 8, some (.nilFunc)) := by kernel_rfl
theorem ti134 : (prog.info? 134).map (fun i => (i.size, i.bytes, i.zero)) = some (1, 8, some (.nilFunc)) := by kernel_rfl
theorem ti135 : (prog.info? 135).map (fun i => (i.size, i.bytes, i.zero)) = some (1, 8, some (.nilFunc)) := by kernel_rfl
theorem ti136 : (prog.info? 136).map (fun i => (i.size, i.bytes, i.zero)) = some (1, 8, some (.nilFunc)) := by kernel_rfl
theorem ti137 : (prog.info? 137).map (fun i => (i.size, i.bytes, i.zero)) = some (1, 8, some (.pointer none)) := by kernel_rfl
theorem ti138 : (prog.info? 138).map (fun i => (i.size, i.bytes, i.zero)) = some (1, 8, some (.nilFunc)) := by kernel_rfl
theorem ti139 : (prog.info? 139).map (fun i => (i.size, i.bytes, i.zero)) = some (1, 8, some (.nilFunc)) := by kernel_rfl
theorem ti140 : (prog.info? 140).map (fun i => (i.size, i.bytes, i.zero)) = some (1, 8, some (.nilFunc)) := by kernel_rfl
theorem ti141 : (prog.info? 141).map (fun i => (i.size, i.bytes, i.zero)) = some (1, 8, some (.nilFunc)) := by kernel_rfl
theorem ti142 : (prog.info? 142).map (fun i => (i.size, i.bytes, i.zero)) = some (1, 8, some (.nilFunc)) := by kernel_rfl
theorem ti143 : (prog.info? 143).map (fun i => (i.size, i.bytes, i.zero)) = some (1, 8, some (.pointer none)) := by kernel_rfl
theorem ti144 : (prog.info? 144).map (fun i => (i.size, i.bytes, i.zero)) = some (1, 8, some (.int .u64 0)) := by kernel_rfl
theorem ti145 : (prog.info? 145).map (fun i => (i.size, i.bytes, i.zero)) = some (1, 8, some (.nilFunc)) := by kernel_rfl
theorem ti146 : (prog.info? 146).map (fun i => (i.size, i.bytes, i.zero)) = some (1, 8, some (.nilFunc)) := by kernel_rfl
theorem ti147 : (prog.info? 147).map (fun i => (i.size, i.bytes, i.zero)) = some (1, 8, some (.nilFunc)) := by kernel_rfl
theorem ti148 : (prog.info? 148).map (fun i => (i.size, i.bytes, i.zero)) = some (1, 8, some (.nilFunc)) := by kernel_rfl
theorem ti149 : (prog.info? 149).map (fun i => (i.size, i.bytes, i.zero)) = some (1, 8, some (.nilFunc)) := by kernel_rfl
theorem ti150 : (prog.info? 150).map (fun i => (i.size, i.bytes, i.zero)) = some (1, 8, some (.nilFunc)) := by kernel_rfl
theorem ti151 : (prog.info? 151).map (fun i => (i.size, i.bytes, i.zero)) = some (8, 64, some (.agg #[.int .i64 0, .complex .f32 0 0, .complex .f32 0 0, .int .i64 0, .complex .f32 0 0, .complex .f32 0 0, .complex .f32 0 0, .int .i64 0])) := by kernel_rfl
theorem ti152 : (prog.info? 152).map (fun i => (i.size, i.bytes, i.zero)) = some (8, 64, some (.agg #[.int .i64 0, .complex .f32 0 0, .complex .f32 0 0, .int .i64 0, .complex .f32 0 0, .complex .f32 0 0, .complex .f32 0 0, .int .i64 0])) := by kernel_rfl
theorem ti153 : (prog.info? 153).map (fun i => (i.size, i.bytes, i.zero)) = some (1, 8, some (.nilFunc)) := by kernel_rfl
theorem ti154 : (prog.info? 154).map (fun i => (i.size, i.bytes, i.zero)) = some (5, 40, some (.agg #[.int .i64 0, .int .i64 0, .int .i64 0, .int .i64 0, .float .f32 0])) := by kernel_rfl
theorem ti155 : (prog.info? 155).map (fun i => (i.size, i.bytes, i.zero)) = some (5, 40, some (.agg #[.int .i64 0, .int .i64 0, .int .i64 0, .int .i64 0, .float .f32 0])) := by kernel_rfl
theorem ti156 : (prog.info? 156).map (fun i => (i.size, i.bytes, i.zero)) = some (1, 8, some (.nilFunc)) := by kernel_rfl
theorem ti157 : (prog.info? 157).map (fun i => (i.size, i.bytes, i.zero)) = some (1, 8, some (.nilFunc)) := by kernel_rfl
theorem ti158 : (prog.info? 158).map (fun i => (i.size, i.bytes, i.zero)) = some (1, 8, some (.pointer none)) := by kernel_rfl
theorem ti159 : (prog.info? 159).map (fun i => (i.size, i.bytes, i.zero)) = some (3, 24, some (.agg #[.int .i64 0, .int .i64 0, .int .i64 0])) := by kernel_rfl
theorem ti160 : (prog.info? 160).map (fun i => (i.size, i.bytes, i.zero)) = some (3, 24, some (.agg #[.int .i64 0, .int .i64 0, .int .i64 0])) := by kernel_rfl
theorem ti162 : (prog.info? 162).map (fun i => (i.size, i.bytes, i.zero)) = some (1, 8, some (.nilFunc)) := by kernel_rfl
theorem ti163 : (prog.info? 163).map (fun i => (i.size, i.bytes, i.zero)) = some (1, 8, some (.nilFunc)) := by kernel_rfl
theorem ti164 : (prog.info? 164).map (fun i => (i.size, i.bytes, i.zero)) = some (1, 8, some (.nilFunc)) := by kernel_rfl
theorem ti165 : (prog.info? 165).map (fun i => (i.size, i.bytes, i.zero)) = some (1, 8, some (.nilFunc)) := by kernel_rfl
theorem ti166 : (prog.info? 166).map (fun i => (i.size, i.bytes, i.zero)) = some (1, 8, some (.nilFunc)) := by kernel_rfl
theorem ti168 : (prog.info? 168).map (fun i => (i.size, i.bytes, i.zero)) = some (1, 8, some (.nilFunc)) := by kernel_rfl
theorem ti169 : (prog.info? 169).map (fun i => (i.size, i.bytes, i.zero)) = some (1, 8, some (.nilFunc)) := by kernel_rfl
theorem ti171 : (prog.info? 171).map (fun i => (i.size, i.bytes, i.zero)) = some (1, 8, some (.nilFunc)) := by kernel_rfl
theorem ti172 : (prog.info? 172).map (fun i => (i.size, i.bytes, i.zero)) = some (1, 8, some (.nilFunc)) := by kernel_rfl
theorem ti173 : (prog.info? 173).map (fun i => (i.size, i.bytes, i.zero)) = some (1, 8, some (.nilFunc)) := by kernel_rfl
theorem ti175 : (prog.info? 175).map (fun i => (i.size, i.bytes, i.zero)) = some (1, 8, some (.nilFunc)) := by kernel_rfl
theorem ti176 : (prog.info? 176).map (fun i => (i.size, i.bytes, i.zero)) = some (1, 8, some (.nilFunc)) := by kernel_rfl
theorem ti177 : (prog.info? 177).map (fun i => (i.size, i.bytes, i.zero)) = some (1, 8, some (.nilFunc)) := by kernel_rfl
theorem ti178 : (prog.info? 178).map (fun i => (i.size, i.bytes, i.zero)) = some (1, 8, some (.nilFunc)) := by kernel_rfl
theorem ti180 : (prog.info? 180).map (fun i => (i.size, i.bytes, i.zero)) = some (1, 8, some (.nilFunc)) := by kernel_rfl
theorem ti181 : (prog.info? 181).map (fun i => (i.size, i.bytes, i.zero)) = some (1, 8, some (.nilFunc)) := by kernel_rfl
theorem ti184 : (prog.info? 184).map (fun i => (i.size, i.bytes, i.zero)) = some (1, 8, some (.nilFunc)) := by kernel_rfl
theorem ti185 : (prog.info? 185).map (fun i => (i.size, i.bytes, i.zero)) = some (1, 8, some (.nilFunc)) := by kernel_rfl
theorem ti186 : (prog.info? 186).map (fun i => (i.size, i.bytes, i.zero)) = some (1, 8, some (.nilFunc)) := by kernel_rfl
theorem ti188 : (prog.info? 188).map (fun i => (i.size, i.bytes, i.zero)) = some (2, 2, some (.agg #[.int .u8 0, .int .u8 0])) := by kernel_rfl
theorem ti189 : (prog.info? 189).map (fun i => (i.size, i.bytes, i.zero)) = some (2, 2, some (.agg #[.int .u8 0, .int .u8 0])) := by kernel_rfl
theorem ti193 : (prog.info? 193).map (fun i => (i.size, i.bytes, i.zero)) = some (4, 40, some (.agg #[.pointer none, .pointer none, .pointer none, .string ⟨#[]⟩])) := by kernel_rfl
theorem ti194 : (prog.info? 194).map (fun i => (i.size, i.bytes, i.zero)) = some (4, 40, some (.agg #[.pointer none, .pointer none, .pointer none, .string ⟨#[]⟩])) := by kernel_rfl
theorem ti198 : (prog.info? 198).map (fun i => (i.size, i.bytes, i.zero)) = some (1, 1, some (.int .u8 0)) := by kernel_rfl
theorem ti199 : (prog.info? 199).map (fun i => (i.size, i.bytes, i.zero)) = some (1, 1, some (.int .u8 0)) := by kernel_rfl
theorem ti200 : (prog.info? 200).map (fun i => (i.size, i.bytes, i.zero)) = some (1, 8, some (.nilFunc)) := by kernel_rfl
theorem ti201 : (prog.info? 201).map (fun i => (i.size, i.bytes, i.zero)) = some (1, 4, some (.int .i32 0)) := by kernel_rfl
theorem ti202 : (prog.info? 202).map (fun i => (i.size, i.bytes, i.zero)) = some (1, 4, some (.int .i32 0)) := by kernel_rfl
theorem ti203 : (prog.info? 203).map (fun i => (i.size, i.bytes, i.zero)) = some (11, 48, some (.agg #[.int .u64 0, .int .u64 0, .int .u32 0, .int .u8 0, .int .u8 0, .int .u8 0, .int .u8 0, .nilFunc, .pointer none, .int .i32 0, .int .i32 0])) := by kernel_rfl
theorem ti204 : (prog.info? 204).map (fun i => (i.size, i.bytes, i.zero)) = some (11, 48, some (.agg #[.int .u64 0, .int .u64 0, .int .u32 0, .int .u8 0, .int .u8 0, .int .u8 0, .int .u8 0, .nilFunc, .pointer none, .int .i32 0, .int .i32 0])) := by kernel_rfl
theorem ti205 : (prog.info? 205).map (fun i => (i.size, i.bytes, i.zero)) = some (1, 8, some (.nilFunc)) := by kernel_rfl
theorem ti206 : (prog.info? 206).map (fun i => (i.size, i.bytes, i.zero)) = some (1, 8, some (.nilFunc)) := by kernel_rfl
theorem ti207 : (prog.info? 207).map (fun i => (i.size, i.bytes, i.zero)) = some (1, 8, some (.nilFunc)) := by kernel_rfl
def td1 : TD := ⟨(TypeDesc.func #[] #[] false), 1, 8, .nilFunc⟩
def td2 : TD := ⟨(TypeDesc.int IntKind.i64), 1, 8, .int .i64 0⟩
def td3 : TD := ⟨(TypeDesc.int IntKind.i64), 1, 8, .int .i64 0⟩
def td4 : TD := ⟨TypeDesc.bool, 1, 1, .bool false⟩
def td5 : TD := ⟨(TypeDesc.int IntKind.u8), 1, 1, .int .u8 0⟩
def td6 : TD := ⟨(TypeDesc.int IntKind.u8), 1, 1, .int .u8 0⟩
def td7 : TD := ⟨(TypeDesc.struct #[{ name := "x", type := 2, offset := 0, embedded := false, tag := "", pkgPath := "runtime", byteOffset := 0 }, { name := "y", type := 3, offset := 1, embedded := false, tag := "", pkgPath := "runtime", byteOffset := 8 }, { name := "signed", type := 4, offset := 2, embedded := false, tag := "", pkgPath := "runtime", byteOffset := 16 }, { name := "code", type := 6, offset := 3, embedded := false, tag := "", pkgPath := "runtime", byteOffset := 17 }]), 4, 24, .agg #[.int .i64 0, .int .i64 0, .bool false, .int .u8 0]⟩
def td8 : TD := ⟨(TypeDesc.struct #[{ name := "x", type := 2, offset := 0, embedded := false, tag := "", pkgPath := "runtime", byteOffset := 0 }, { name := "y", type := 3, offset := 1, embedded := false, tag := "", pkgPath := "runtime", byteOffset := 8 }, { name := "signed", type := 4, offset := 2, embedded := false, tag := "", pkgPath := "runtime", byteOffset := 16 }, { name := "code", type := 6, offset := 3, embedded := false, tag := "", pkgPath := "runtime", byteOffset := 17 }]), 4, 24, .agg #[.int .i64 0, .int .i64 0, .bool false, .int .u8 0]⟩
def td9 : TD := ⟨TypeDesc.string, 1, 16, .string ⟨#[]⟩⟩
def td10 : TD := ⟨TypeDesc.string, 1, 16, .string ⟨#[]⟩⟩
def td11 : TD := ⟨TypeDesc.string, 1, 16, .string ⟨#[]⟩⟩
def td12 : TD := ⟨(TypeDesc.int IntKind.u64), 1, 8, .int .u64 0⟩
def td13 : TD := ⟨(TypeDesc.struct #[{ name := "msg", type := 9, offset := 0, embedded := false, tag := "", pkgPath := "runtime", byteOffset := 0 }, { name := "addr", type := 12, offset := 1, embedded := false, tag := "", pkgPath := "runtime", byteOffset := 16 }]), 2, 24, .agg #[.string ⟨#[]⟩, .int .u64 0]⟩
def td14 : TD := ⟨(TypeDesc.struct #[{ name := "msg", type := 9, offset := 0, embedded := false, tag := "", pkgPath := "runtime", byteOffset := 0 }, { name := "addr", type := 12, offset := 1, embedded := false, tag := "", pkgPath := "runtime", byteOffset := 16 }]), 2, 24, .agg #[.string ⟨#[]⟩, .int .u64 0]⟩
def td15 : TD := ⟨(TypeDesc.pointer 194), 1, 8, .pointer none⟩
def td16 : TD := ⟨(TypeDesc.pointer 197), 1, 8, .pointer none⟩
def td17 : TD := ⟨(TypeDesc.pointer 204), 1, 8, .pointer none⟩
def td18 : TD := ⟨(TypeDesc.struct #[{ name := "typ", type := 17, offset := 0, embedded := false, tag := "", pkgPath := "internal/runtime/maps", byteOffset := 0 }]), 1, 8, .agg #[.pointer none]⟩
def td19 : TD := ⟨(TypeDesc.struct #[{ name := "typ", type := 17, offset := 0, embedded := false, tag := "", pkgPath := "internal/runtime/maps", byteOffset := 0 }]), 1, 8, .agg #[.pointer none]⟩
def td21 : TD := ⟨(TypeDesc.int IntKind.i32), 1, 4, .int .i32 0⟩
def td22 : TD := ⟨(TypeDesc.slice 5), 1, 24, .slice none 0 0⟩
def td23 : TD := ⟨(TypeDesc.func #[22, 22] #[4] false), 1, 8, .nilFunc⟩
def td24 : TD := ⟨(TypeDesc.complex FloatKind.f32), 1, 8, .complex .f32 0 0⟩
def td25 : TD := ⟨(TypeDesc.slice 24), 1, 24, .slice none 0 0⟩
def td26 : TD := ⟨(TypeDesc.func #[22, 2, 2] #[25] false), 1, 8, .nilFunc⟩
def td27 : TD := ⟨(TypeDesc.func #[24, 24] #[24] false), 1, 8, .nilFunc⟩
def td28 : TD := ⟨(TypeDesc.float FloatKind.f32), 1, 4, .float .f32 0⟩
def td29 : TD := ⟨(TypeDesc.func #[24] #[28] false), 1, 8, .nilFunc⟩
def td30 : TD := ⟨(TypeDesc.func #[24] #[24] false), 1, 8, .nilFunc⟩
def td31 : TD := ⟨(TypeDesc.func #[28, 28] #[4] false), 1, 8, .nilFunc⟩
def td32 : TD := ⟨(TypeDesc.func #[28] #[28] false), 1, 8, .nilFunc⟩
def td33 : TD := ⟨(TypeDesc.func #[24, 28] #[24] false), 1, 8, .nilFunc⟩
def td34 : TD := ⟨(TypeDesc.func #[22, 2] #[25] false), 1, 8, .nilFunc⟩
def td35 : TD := ⟨(TypeDesc.func #[22, 2, 2] #[2] false), 1, 8, .nilFunc⟩
def td37 : TD := ⟨(TypeDesc.func #[25] #[9, 4] false), 1, 8, .nilFunc⟩
def td39 : TD := ⟨(TypeDesc.func #[9] #[25, 4] false), 1, 8, .nilFunc⟩
def td40 : TD := ⟨(TypeDesc.func #[22] #[28] false), 1, 8, .nilFunc⟩
def td42 : TD := ⟨(TypeDesc.func #[2] #[28, 4] false), 1, 8, .nilFunc⟩
def td43 : TD := ⟨(TypeDesc.func #[28] #[2] false), 1, 8, .nilFunc⟩
def td44 : TD := ⟨(TypeDesc.func #[22] #[24] false), 1, 8, .nilFunc⟩
def td45 : TD := ⟨(TypeDesc.complex FloatKind.f64), 1, 16, .complex .f64 0 0⟩
def td46 : TD := ⟨(TypeDesc.float FloatKind.f64), 1, 8, .float .f64 0⟩
def td47 : TD := ⟨(TypeDesc.func #[25, 25] #[4] false), 1, 8, .nilFunc⟩
def td48 : TD := ⟨(TypeDesc.func #[24, 24] #[4] false), 1, 8, .nilFunc⟩
def td49 : TD := ⟨(TypeDesc.func #[45] #[24] false), 1, 8, .nilFunc⟩
def td50 : TD := ⟨(TypeDesc.func #[24] #[4] false), 1, 8, .nilFunc⟩
def td51 : TD := ⟨(TypeDesc.func #[28] #[4] false), 1, 8, .nilFunc⟩
def td52 : TD := ⟨(TypeDesc.slice 28), 1, 24, .slice none 0 0⟩
def td53 : TD := ⟨(TypeDesc.func #[22, 2] #[52] false), 1, 8, .nilFunc⟩
def td54 : TD := ⟨(TypeDesc.func #[52] #[28, 4] false), 1, 8, .nilFunc⟩
def td55 : TD := ⟨(TypeDesc.func #[52] #[9, 4] false), 1, 8, .nilFunc⟩
def td57 : TD := ⟨(TypeDesc.func #[9] #[52, 4] false), 1, 8, .nilFunc⟩
def td58 : TD := ⟨(TypeDesc.func #[28, 28] #[28] false), 1, 8, .nilFunc⟩
def td59 : TD := ⟨(TypeDesc.func #[46] #[28] false), 1, 8, .nilFunc⟩
def td60 : TD := ⟨(TypeDesc.slice 9), 1, 24, .slice none 0 0⟩
def td61 : TD := ⟨(TypeDesc.func #[22, 70] #[60] false), 1, 8, .nilFunc⟩
def td62 : TD := ⟨(TypeDesc.struct #[{ name := "A", type := 24, offset := 0, embedded := false, tag := "", pkgPath := "", byteOffset := 0 }, { name := "B", type := 24, offset := 1, embedded := false, tag := "", pkgPath := "", byteOffset := 8 }, { name := "C", type := 24, offset := 2, embedded := false, tag := "", pkgPath := "", byteOffset := 16 }]), 3, 24, .agg #[.complex .f32 0 0, .complex .f32 0 0, .complex .f32 0 0]⟩
def td63 : TD := ⟨(TypeDesc.struct #[{ name := "A", type := 24, offset := 0, embedded := false, tag := "", pkgPath := "", byteOffset := 0 }, { name := "B", type := 24, offset := 1, embedded := false, tag := "", pkgPath := "", byteOffset := 8 }, { name := "C", type := 24, offset := 2, embedded := false, tag := "", pkgPath := "", byteOffset := 16 }]), 3, 24, .agg #[.complex .f32 0 0, .complex .f32 0 0, .complex .f32 0 0]⟩
def td64 : TD := ⟨(TypeDesc.slice 152), 1, 24, .slice none 0 0⟩
def td65 : TD := ⟨(TypeDesc.struct #[{ name := "Source", type := 63, offset := 0, embedded := false, tag := "", pkgPath := "", byteOffset := 0 }, { name := "Buses", type := 64, offset := 3, embedded := false, tag := "", pkgPath := "", byteOffset := 24 }]), 4, 48, .agg #[.complex .f32 0 0, .complex .f32 0 0, .complex .f32 0 0, .slice none 0 0]⟩
def td66 : TD := ⟨(TypeDesc.struct #[{ name := "Source", type := 63, offset := 0, embedded := false, tag := "", pkgPath := "", byteOffset := 0 }, { name := "Buses", type := 64, offset := 3, embedded := false, tag := "", pkgPath := "", byteOffset := 24 }]), 4, 48, .agg #[.complex .f32 0 0, .complex .f32 0 0, .complex .f32 0 0, .slice none 0 0]⟩
def td67 : TD := ⟨(TypeDesc.slice 155), 1, 24, .slice none 0 0⟩
def td68 : TD := ⟨(TypeDesc.slice 160), 1, 24, .slice none 0 0⟩
def td69 : TD := ⟨(TypeDesc.struct #[{ name := "Feeder", type := 66, offset := 0, embedded := false, tag := "", pkgPath := "", byteOffset := 0 }, { name := "Taps", type := 67, offset := 4, embedded := false, tag := "", pkgPath := "", byteOffset := 48 }, { name := "List", type := 68, offset := 5, embedded := false, tag := "", pkgPath := "", byteOffset := 72 }]), 6, 96, .agg #[.complex .f32 0 0, .complex .f32 0 0, .complex .f32 0 0, .slice none 0 0, .slice none 0 0, .slice none 0 0]⟩
def td70 : TD := ⟨(TypeDesc.struct #[{ name := "Feeder", type := 66, offset := 0, embedded := false, tag := "", pkgPath := "", byteOffset := 0 }, { name := "Taps", type := 67, offset := 4, embedded := false, tag := "", pkgPath := "", byteOffset := 48 }, { name := "List", type := 68, offset := 5, embedded := false, tag := "", pkgPath := "", byteOffset := 72 }]), 6, 96, .agg #[.complex .f32 0 0, .complex .f32 0 0, .complex .f32 0 0, .slice none 0 0, .slice none 0 0, .slice none 0 0]⟩
def td71 : TD := ⟨(TypeDesc.func #[22] #[70] false), 1, 8, .nilFunc⟩
def td72 : TD := ⟨(TypeDesc.func #[60] #[9, 4] false), 1, 8, .nilFunc⟩
def td74 : TD := ⟨(TypeDesc.func #[9] #[60, 2, 4] false), 1, 8, .nilFunc⟩
def td75 : TD := ⟨(TypeDesc.pointer 123), 1, 8, .pointer none⟩
def td76 : TD := ⟨(TypeDesc.func #[22] #[75] false), 1, 8, .nilFunc⟩
def td77 : TD := ⟨(TypeDesc.func #[2] #[2] false), 1, 8, .nilFunc⟩
def td79 : TD := ⟨(TypeDesc.func #[24] #[46, 46] false), 1, 8, .nilFunc⟩
def td80 : TD := ⟨(TypeDesc.func #[24] #[46] false), 1, 8, .nilFunc⟩
def td81 : TD := ⟨(TypeDesc.func #[46] #[46] false), 1, 8, .nilFunc⟩
def td82 : TD := ⟨(TypeDesc.func #[75, 2] #[25] false), 1, 8, .nilFunc⟩
def td83 : TD := ⟨(TypeDesc.func #[25] #[4] false), 1, 8, .nilFunc⟩
def td84 : TD := ⟨(TypeDesc.func #[28] #[9] false), 1, 8, .nilFunc⟩
def td85 : TD := ⟨(TypeDesc.func #[60] #[9] false), 1, 8, .nilFunc⟩
def td86 : TD := ⟨(TypeDesc.func #[9] #[60] false), 1, 8, .nilFunc⟩
def td87 : TD := ⟨(TypeDesc.func #[9] #[28, 4] false), 1, 8, .nilFunc⟩
def td88 : TD := ⟨(TypeDesc.func #[2] #[4] false), 1, 8, .nilFunc⟩
def td89 : TD := ⟨(TypeDesc.func #[2] #[28] false), 1, 8, .nilFunc⟩
def td90 : TD := ⟨(TypeDesc.func #[75] #[28] false), 1, 8, .nilFunc⟩
def td91 : TD := ⟨(TypeDesc.func #[2, 2, 2] #[4] false), 1, 8, .nilFunc⟩
def td92 : TD := ⟨(TypeDesc.func #[93] #[28] false), 1, 8, .nilFunc⟩
def td93 : TD := ⟨(TypeDesc.int IntKind.u32), 1, 4, .int .u32 0⟩
def td94 : TD := ⟨(TypeDesc.func #[28] #[93] false), 1, 8, .nilFunc⟩
def td95 : TD := ⟨(TypeDesc.func #[75] #[24] false), 1, 8, .nilFunc⟩
def td96 : TD := ⟨(TypeDesc.func #[52] #[4] true), 1, 8, .nilFunc⟩
def td97 : TD := ⟨(TypeDesc.func #[75, 2] #[52] false), 1, 8, .nilFunc⟩
def td98 : TD := ⟨(TypeDesc.func #[52] #[4] false), 1, 8, .nilFunc⟩
def td99 : TD := ⟨(TypeDesc.func #[52] #[28] false), 1, 8, .nilFunc⟩
def td100 : TD := ⟨(TypeDesc.func #[] #[46] false), 1, 8, .nilFunc⟩
def td101 : TD := ⟨(TypeDesc.func #[] #[28] false), 1, 8, .nilFunc⟩
def td102 : TD := ⟨(TypeDesc.func #[75, 103] #[9] false), 1, 8, .nilFunc⟩
def td103 : TD := ⟨(TypeDesc.pointer 70), 1, 8, .pointer none⟩
def td104 : TD := ⟨(TypeDesc.func #[75] #[70] false), 1, 8, .nilFunc⟩
def td105 : TD := ⟨(TypeDesc.pointer 107), 1, 8, .pointer none⟩
def td106 : TD := ⟨(TypeDesc.struct #[{ name := "addr", type := 105, offset := 0, embedded := false, tag := "", pkgPath := "strings", byteOffset := 0 }, { name := "buf", type := 22, offset := 1, embedded := false, tag := "", pkgPath := "strings", byteOffset := 8 }]), 2, 32, .agg #[.pointer none, .slice none 0 0]⟩
def td107 : TD := ⟨(TypeDesc.struct #[{ name := "addr", type := 105, offset := 0, embedded := false, tag := "", pkgPath := "strings", byteOffset := 0 }, { name := "buf", type := 22, offset := 1, embedded := false, tag := "", pkgPath := "strings", byteOffset := 8 }]), 2, 32, .agg #[.pointer none, .slice none 0 0]⟩
def td108 : TD := ⟨(TypeDesc.func #[9, 9] #[4] false), 1, 8, .nilFunc⟩
def td109 : TD := ⟨(TypeDesc.func #[] #[3] false), 1, 8, .nilFunc⟩
def td111 : TD := ⟨(TypeDesc.func #[2, 9] #[2, 4] false), 1, 8, .nilFunc⟩
def td115 : TD := ⟨(TypeDesc.func #[9] #[3, 113] false), 1, 8, .nilFunc⟩
def td116 : TD := ⟨(TypeDesc.func #[2] #[9] false), 1, 8, .nilFunc⟩
def td117 : TD := ⟨(TypeDesc.func #[] #[9] false), 1, 8, .nilFunc⟩
def td118 : TD := ⟨(TypeDesc.func #[9, 5] #[3] false), 1, 8, .nilFunc⟩
def td120 : TD := ⟨(TypeDesc.func #[9, 9] #[9, 9, 4] false), 1, 8, .nilFunc⟩
def td121 : TD := ⟨(TypeDesc.int IntKind.u64), 1, 8, .int .u64 0⟩
def td122 : TD := ⟨(TypeDesc.struct #[{ name := "code", type := 22, offset := 0, embedded := false, tag := "", pkgPath := "loop.example/g01212/spec", byteOffset := 0 }, { name := "at", type := 3, offset := 1, embedded := false, tag := "", pkgPath := "loop.example/g01212/spec", byteOffset := 24 }, { name := "seed", type := 121, offset := 2, embedded := false, tag := "", pkgPath := "loop.example/g01212/spec", byteOffset := 32 }]), 3, 40, .agg #[.slice none 0 0, .int .i64 0, .int .u64 0]⟩
def td123 : TD := ⟨(TypeDesc.struct #[{ name := "code", type := 22, offset := 0, embedded := false, tag := "", pkgPath := "loop.example/g01212/spec", byteOffset := 0 }, { name := "at", type := 3, offset := 1, embedded := false, tag := "", pkgPath := "loop.example/g01212/spec", byteOffset := 24 }, { name := "seed", type := 121, offset := 2, embedded := false, tag := "", pkgPath := "loop.example/g01212/spec", byteOffset := 32 }]), 3, 40, .agg #[.slice none 0 0, .int .i64 0, .int .u64 0]⟩
def td124 : TD := ⟨(TypeDesc.func #[] #[2] false), 1, 8, .nilFunc⟩
def td125 : TD := ⟨(TypeDesc.func #[60, 9] #[9] false), 1, 8, .nilFunc⟩
def td126 : TD := ⟨(TypeDesc.func #[9, 9] #[60] false), 1, 8, .nilFunc⟩
def td127 : TD := ⟨(TypeDesc.func #[128] #[2] false), 1, 8, .nilFunc⟩
def td128 : TD := ⟨(TypeDesc.slice 2), 1, 24, .slice none 0 0⟩
def td129 : TD := ⟨(TypeDesc.func #[52, 51] #[4] false), 1, 8, .nilFunc⟩
def td130 : TD := ⟨(TypeDesc.func #[121] #[46] false), 1, 8, .nilFunc⟩
def td131 : TD := ⟨(TypeDesc.func #[46] #[121] false), 1, 8, .nilFunc⟩
def td132 : TD := ⟨(TypeDesc.func #[63] #[9] false), 1, 8, .nilFunc⟩
def td133 : TD := ⟨(TypeDesc.func #[75, 2] #[63] false), 1, 8, .nilFunc⟩
def td134 : TD := ⟨(TypeDesc.func #[25] #[9] false), 1, 8, .nilFunc⟩
def td135 : TD := ⟨(TypeDesc.func #[75] #[66] false), 1, 8, .nilFunc⟩
def td136 : TD := ⟨(TypeDesc.func #[75, 137] #[67] false), 1, 8, .nilFunc⟩
def td137 : TD := ⟨(TypeDesc.pointer 66), 1, 8, .pointer none⟩
def td138 : TD := ⟨(TypeDesc.func #[137, 67] #[4] false), 1, 8, .nilFunc⟩
def td139 : TD := ⟨(TypeDesc.func #[75, 137] #[68] false), 1, 8, .nilFunc⟩
def td140 : TD := ⟨(TypeDesc.func #[137, 68] #[4] false), 1, 8, .nilFunc⟩
def td141 : TD := ⟨(TypeDesc.func #[9, 9] #[3] false), 1, 8, .nilFunc⟩
def td142 : TD := ⟨(TypeDesc.func #[2, 3] #[9] false), 1, 8, .nilFunc⟩
def td143 : TD := ⟨(TypeDesc.pointer 5), 1, 8, .pointer none⟩
def td144 : TD := ⟨(TypeDesc.int IntKind.u64), 1, 8, .int .u64 0⟩
def td145 : TD := ⟨(TypeDesc.func #[3] #[] false), 1, 8, .nilFunc⟩
def td146 : TD := ⟨(TypeDesc.func #[9, 9, 3, 3] #[60] false), 1, 8, .nilFunc⟩
def td147 : TD := ⟨(TypeDesc.func #[52, 51] #[3] false), 1, 8, .nilFunc⟩
def td148 : TD := ⟨(TypeDesc.func #[75, 2] #[24] false), 1, 8, .nilFunc⟩
def td149 : TD := ⟨(TypeDesc.func #[24] #[9] false), 1, 8, .nilFunc⟩
def td150 : TD := ⟨(TypeDesc.func #[24] #[63] false), 1, 8, .nilFunc⟩
def td151 : TD := ⟨(TypeDesc.struct #[{ name := "Parent", type := 2, offset := 0, embedded := false, tag := "", pkgPath := "", byteOffset := 0 }, { name := "Own", type := 24, offset := 1, embedded := false, tag := "", pkgPath := "", byteOffset := 8 }, { name := "Shared", type := 24, offset := 2, embedded := false, tag := "", pkgPath := "", byteOffset := 16 }, { name := "Kind", type := 2, offset := 3, embedded := false, tag := "", pkgPath := "", byteOffset := 24 }, { name := "Load", type := 63, offset := 4, embedded := false, tag := "", pkgPath := "", byteOffset := 32 }, { name := "Customers", type := 2, offset := 7, embedded := false, tag := "", pkgPath := "", byteOffset := 56 }]), 8, 64, .agg #[.int .i64 0, .complex .f32 0 0, .complex .f32 0 0, .int .i64 0, .complex .f32 0 0, .complex .f32 0 0, .complex .f32 0 0, .int .i64 0]⟩
def td152 : TD := ⟨(TypeDesc.struct #[{ name := "Parent", type := 2, offset := 0, embedded := false, tag := "", pkgPath := "", byteOffset := 0 }, { name := "Own", type := 24, offset := 1, embedded := false, tag := "", pkgPath := "", byteOffset := 8 }, { name := "Shared", type := 24, offset := 2, embedded := false, tag := "", pkgPath := "", byteOffset := 16 }, { name := "Kind", type := 2, offset := 3, embedded := false, tag := "", pkgPath := "", byteOffset := 24 }, { name := "Load", type := 63, offset := 4, embedded := false, tag := "", pkgPath := "", byteOffset := 32 }, { name := "Customers", type := 2, offset := 7, embedded := false, tag := "", pkgPath := "", byteOffset := 56 }]), 8, 64, .agg #[.int .i64 0, .complex .f32 0 0, .complex .f32 0 0, .int .i64 0, .complex .f32 0 0, .complex .f32 0 0, .complex .f32 0 0, .int .i64 0]⟩
def td153 : TD := ⟨(TypeDesc.func #[2, 2] #[2] false), 1, 8, .nilFunc⟩
def td154 : TD := ⟨(TypeDesc.struct #[{ name := "Bus", type := 2, offset := 0, embedded := false, tag := "", pkgPath := "", byteOffset := 0 }, { name := "A", type := 2, offset := 1, embedded := false, tag := "", pkgPath := "", byteOffset := 8 }, { name := "B", type := 2, offset := 2, embedded := false, tag := "", pkgPath := "", byteOffset := 16 }, { name := "C", type := 2, offset := 3, embedded := false, tag := "", pkgPath := "", byteOffset := 24 }, { name := "Each", type := 28, offset := 4, embedded := false, tag := "", pkgPath := "", byteOffset := 32 }]), 5, 40, .agg #[.int .i64 0, .int .i64 0, .int .i64 0, .int .i64 0, .float .f32 0]⟩
def td155 : TD := ⟨(TypeDesc.struct #[{ name := "Bus", type := 2, offset := 0, embedded := false, tag := "", pkgPath := "", byteOffset := 0 }, { name := "A", type := 2, offset := 1, embedded := false, tag := "", pkgPath := "", byteOffset := 8 }, { name := "B", type := 2, offset := 2, embedded := false, tag := "", pkgPath := "", byteOffset := 16 }, { name := "C", type := 2, offset := 3, embedded := false, tag := "", pkgPath := "", byteOffset := 24 }, { name := "Each", type := 28, offset := 4, embedded := false, tag := "", pkgPath := "", byteOffset := 32 }]), 5, 40, .agg #[.int .i64 0, .int .i64 0, .int .i64 0, .int .i64 0, .float .f32 0]⟩
def td156 : TD := ⟨(TypeDesc.func #[75, 2] #[155] false), 1, 8, .nilFunc⟩
def td157 : TD := ⟨(TypeDesc.func #[158] #[4] false), 1, 8, .nilFunc⟩
def td158 : TD := ⟨(TypeDesc.pointer 155), 1, 8, .pointer none⟩
def td159 : TD := ⟨(TypeDesc.struct #[{ name := "Bus", type := 2, offset := 0, embedded := false, tag := "", pkgPath := "", byteOffset := 0 }, { name := "From", type := 2, offset := 1, embedded := false, tag := "", pkgPath := "", byteOffset := 8 }, { name := "Until", type := 2, offset := 2, embedded := false, tag := "", pkgPath := "", byteOffset := 16 }]), 3, 24, .agg #[.int .i64 0, .int .i64 0, .int .i64 0]⟩
def td160 : TD := ⟨(TypeDesc.struct #[{ name := "Bus", type := 2, offset := 0, embedded := false, tag := "", pkgPath := "", byteOffset := 0 }, { name := "From", type := 2, offset := 1, embedded := false, tag := "", pkgPath := "", byteOffset := 8 }, { name := "Until", type := 2, offset := 2, embedded := false, tag := "", pkgPath := "", byteOffset := 16 }]), 3, 24, .agg #[.int .i64 0, .int .i64 0, .int .i64 0]⟩
def td162 : TD := ⟨(TypeDesc.func #[161] #[161] false), 1, 8, .nilFunc⟩
def td163 : TD := ⟨(TypeDesc.func #[9, 3] #[60] false), 1, 8, .nilFunc⟩
def td164 : TD := ⟨(TypeDesc.func #[46] #[24] false), 1, 8, .nilFunc⟩
def td165 : TD := ⟨(TypeDesc.func #[3] #[3] false), 1, 8, .nilFunc⟩
def td166 : TD := ⟨(TypeDesc.func #[3] #[9] false), 1, 8, .nilFunc⟩
def td168 : TD := ⟨(TypeDesc.func #[121] #[3] false), 1, 8, .nilFunc⟩
def td169 : TD := ⟨(TypeDesc.func #[22, 121] #[] false), 1, 8, .nilFunc⟩
def td171 : TD := ⟨(TypeDesc.func #[22, 121, 3, 4, 4] #[22, 9] false), 1, 8, .nilFunc⟩
def td172 : TD := ⟨(TypeDesc.func #[3] #[22] false), 1, 8, .nilFunc⟩
def td173 : TD := ⟨(TypeDesc.func #[9] #[3] false), 1, 8, .nilFunc⟩
def td175 : TD := ⟨(TypeDesc.func #[9] #[21, 3] false), 1, 8, .nilFunc⟩
def td176 : TD := ⟨(TypeDesc.func #[46, 46] #[46] false), 1, 8, .nilFunc⟩
def td177 : TD := ⟨(TypeDesc.func #[45, 45] #[45] false), 1, 8, .nilFunc⟩
def td178 : TD := ⟨(TypeDesc.func #[24] #[45] false), 1, 8, .nilFunc⟩
def td180 : TD := ⟨(TypeDesc.func #[9] #[93, 93] false), 1, 8, .nilFunc⟩
def td181 : TD := ⟨(TypeDesc.func #[4] #[3] false), 1, 8, .nilFunc⟩
def td184 : TD := ⟨(TypeDesc.func #[3] #[4] false), 1, 8, .nilFunc⟩
def td185 : TD := ⟨(TypeDesc.func #[144] #[3] false), 1, 8, .nilFunc⟩
def td186 : TD := ⟨(TypeDesc.func #[93] #[3] false), 1, 8, .nilFunc⟩
def td188 : TD := ⟨(TypeDesc.struct #[{ name := "lo", type := 5, offset := 0, embedded := false, tag := "", pkgPath := "unicode/utf8", byteOffset := 0 }, { name := "hi", type := 5, offset := 1, embedded := false, tag := "", pkgPath := "unicode/utf8", byteOffset := 1 }]), 2, 2, .agg #[.int .u8 0, .int .u8 0]⟩
def td189 : TD := ⟨(TypeDesc.struct #[{ name := "lo", type := 5, offset := 0, embedded := false, tag := "", pkgPath := "unicode/utf8", byteOffset := 0 }, { name := "hi", type := 5, offset := 1, embedded := false, tag := "", pkgPath := "unicode/utf8", byteOffset := 1 }]), 2, 2, .agg #[.int .u8 0, .int .u8 0]⟩
def td193 : TD := ⟨(TypeDesc.struct #[{ name := "_interface", type := 17, offset := 0, embedded := false, tag := "", pkgPath := "runtime", byteOffset := 0 }, { name := "concrete", type := 17, offset := 1, embedded := false, tag := "", pkgPath := "runtime", byteOffset := 8 }, { name := "asserted", type := 17, offset := 2, embedded := false, tag := "", pkgPath := "runtime", byteOffset := 16 }, { name := "missingMethod", type := 9, offset := 3, embedded := false, tag := "", pkgPath := "runtime", byteOffset := 24 }]), 4, 40, .agg #[.pointer none, .pointer none, .pointer none, .string ⟨#[]⟩]⟩
def td194 : TD := ⟨(TypeDesc.struct #[{ name := "_interface", type := 17, offset := 0, embedded := false, tag := "", pkgPath := "runtime", byteOffset := 0 }, { name := "concrete", type := 17, offset := 1, embedded := false, tag := "", pkgPath := "runtime", byteOffset := 8 }, { name := "asserted", type := 17, offset := 2, embedded := false, tag := "", pkgPath := "runtime", byteOffset := 16 }, { name := "missingMethod", type := 9, offset := 3, embedded := false, tag := "", pkgPath := "runtime", byteOffset := 24 }]), 4, 40, .agg #[.pointer none, .pointer none, .pointer none, .string ⟨#[]⟩]⟩
def td198 : TD := ⟨(TypeDesc.int IntKind.u8), 1, 1, .int .u8 0⟩
def td199 : TD := ⟨(TypeDesc.int IntKind.u8), 1, 1, .int .u8 0⟩
def td200 : TD := ⟨(TypeDesc.func #[161, 161] #[4] false), 1, 8, .nilFunc⟩
def td201 : TD := ⟨(TypeDesc.int IntKind.i32), 1, 4, .int .i32 0⟩
def td202 : TD := ⟨(TypeDesc.int IntKind.i32), 1, 4, .int .i32 0⟩
def td203 : TD := ⟨(TypeDesc.struct #[{ name := "Size_", type := 12, offset := 0, embedded := false, tag := "", pkgPath := "", byteOffset := 0 }, { name := "PtrBytes", type := 12, offset := 1, embedded := false, tag := "", pkgPath := "", byteOffset := 8 }, { name := "Hash", type := 93, offset := 2, embedded := false, tag := "", pkgPath := "", byteOffset := 16 }, { name := "TFlag", type := 198, offset := 3, embedded := false, tag := "", pkgPath := "", byteOffset := 20 }, { name := "Align_", type := 5, offset := 4, embedded := false, tag := "", pkgPath := "", byteOffset := 21 }, { name := "FieldAlign_", type := 5, offset := 5, embedded := false, tag := "", pkgPath := "", byteOffset := 22 }, { name := "Kind_", type := 199, offset := 6, embedded := false, tag := "", pkgPath := "", byteOffset := 23 }, { name := "Equal", type := 200, offset := 7, embedded := false, tag := "", pkgPath := "", byteOffset := 24 }, { name := "GCData", type := 143, offset := 8, embedded := false, tag := "", pkgPath := "", byteOffset := 32 }, { name := "Str", type := 201, offset := 9, embedded := false, tag := "", pkgPath := "", byteOffset := 40 }, { name := "PtrToThis", type := 202, offset := 10, embedded := false, tag := "", pkgPath := "", byteOffset := 44 }]), 11, 48, .agg #[.int .u64 0, .int .u64 0, .int .u32 0, .int .u8 0, .int .u8 0, .int .u8 0, .int .u8 0, .nilFunc, .pointer none, .int .i32 0, .int .i32 0]⟩
def td204 : TD := ⟨(TypeDesc.struct #[{ name := "Size_", type := 12, offset := 0, embedded := false, tag := "", pkgPath := "", byteOffset := 0 }, { name := "PtrBytes", type := 12, offset := 1, embedded := false, tag := "", pkgPath := "", byteOffset := 8 }, { name := "Hash", type := 93, offset := 2, embedded := false, tag := "", pkgPath := "", byteOffset := 16 }, { name := "TFlag", type := 198, offset := 3, embedded := false, tag := "", pkgPath := "", byteOffset := 20 }, { name := "Align_", type := 5, offset := 4, embedded := false, tag := "", pkgPath := "", byteOffset := 21 }, { name := "FieldAlign_", type := 5, offset := 5, embedded := false, tag := "", pkgPath := "", byteOffset := 22 }, { name := "Kind_", type := 199, offset := 6, embedded := false, tag := "", pkgPath := "", byteOffset := 23 }, { name := "Equal", type := 200, offset := 7, embedded := false, tag := "", pkgPath := "", byteOffset := 24 }, { name := "GCData", type := 143, offset := 8, embedded := false, tag := "", pkgPath := "", byteOffset := 32 }, { name := "Str", type := 201, offset := 9, embedded := false, tag := "", pkgPath := "", byteOffset := 40 }, { name := "PtrToThis", type := 202, offset := 10, embedded := false, tag := "", pkgPath := "", byteOffset := 44 }]), 11, 48, .agg #[.int .u64 0, .int .u64 0, .int .u32 0, .int .u8 0, .int .u8 0, .int .u8 0, .int .u8 0, .nilFunc, .pointer none, .int .i32 0, .int .i32 0]⟩
def td205 : TD := ⟨(TypeDesc.func #[] #[52] false), 1, 8, .nilFunc⟩
def td206 : TD := ⟨(TypeDesc.func #[63, 28, 28] #[155] false), 1, 8, .nilFunc⟩
def td207 : TD := ⟨(TypeDesc.func #[] #[4] false), 1, 8, .nilFunc⟩
inductive TT where
  | leaf
  | node (k : Nat) (v : TD) (l r : TT)
def findT : TT → TypeId → Option TD
  | .leaf, _ => none
  | .node k v l r, t => bif Nat.beq t k then some v else bif Nat.ble t k then findT l t else findT r t
def allT : TT → Prop
  | .leaf => True
  | .node k v l r => TiOk k v ∧ allT l ∧ allT r
theorem findT_ok : ∀ {x : TT}, allT x → TabOk prog (findT x)
  | .leaf, _ => fun t td h => by cases h
  | .node k v l r, h => fun t td ht => by
    unfold findT at ht
    cases hk : Nat.beq t k with
    | true =>
      rw [hk] at ht
      simp only [cond_true, Option.some.injEq] at ht
      subst ht
      rw [Nat.eq_of_beq_eq_true hk]
      have h1 := h.1
      unfold TiOk at h1
      exact h1
    | false =>
      rw [hk] at ht
      cases hl : Nat.ble t k with
      | true => rw [hl] at ht; exact findT_ok h.2.1 t td ht
      | false => rw [hl] at ht; exact findT_ok h.2.2 t td ht
def tabT : TT := (.node 98 td98 (.node 50 td50 (.node 24 td24 (.node 12 td12 (.node 6 td6 (.node 3 td3 (.node 2 td2 (.node 1 td1 .leaf .leaf) .leaf) (.node 5 td5 (.node 4 td4 .leaf .leaf) .leaf)) (.node 9 td9 (.node 8 td8 (.node 7 td7 .leaf .leaf) .leaf) (.node 11 td11 (.node 10 td10 .leaf .leaf) .leaf))) (.node 18 td18 (.node 15 td15 (.node 14 td14 (.node 13 td13 .leaf .leaf) .leaf) (.node 17 td17 (.node 16 td16 .leaf .leaf) .leaf)) (.node 22 td22 (.node 21 td21 (.node 19 td19 .leaf .leaf) .leaf) (.node 23 td23 .leaf .leaf)))) (.node 37 td37 (.node 30 td30 (.node 27 td27 (.node 26 td26 (.node 25 td25 .leaf .leaf) .leaf) (.node 29 td29 (.node 28 td28 .leaf .leaf) .leaf)) (.node 33 td33 (.node 32 td32 (.node 31 td31 .leaf .leaf) .leaf) (.node 35 td35 (.node 34 td34 .leaf .leaf) .leaf))) (.node 45 td45 (.node 42 td42 (.node 40 td40 (.node 39 td39 .leaf .leaf) .leaf) (.node 44 td44 (.node 43 td43 .leaf .leaf) .leaf)) (.node 48 td48 (.node 47 td47 (.node 46 td46 .leaf .leaf) .leaf) (.node 49 td49 .leaf .leaf))))) (.node 75 td75 (.node 63 td63 (.node 57 td57 (.node 53 td53 (.node 52 td52 (.node 51 td51 .leaf .leaf) .leaf) (.node 55 td55 (.node 54 td54 .leaf .leaf) .leaf)) (.node 60 td60 (.node 59 td59 (.node 58 td58 .leaf .leaf) .leaf) (.node 62 td62 (.node 61 td61 .leaf .leaf) .leaf))) (.node 69 td69 (.node 66 td66 (.node 65 td65 (.node 64 td64 .leaf .leaf) .leaf) (.node 68 td68 (.node 67 td67 .leaf .leaf) .leaf)) (.node 72 td72 (.node 71 td71 (.node 70 td70 .leaf .leaf) .leaf) (.node 74 td74 .leaf .leaf)))) (.node 87 td87 (.node 82 td82 (.node 79 td79 (.node 77 td77 (.node 76 td76 .leaf .leaf) .leaf) (.node 81 td81 (.node 80 td80 .leaf .leaf) .leaf)) (.node 85 td85 (.node 84 td84 (.node 83 td83 .leaf .leaf) .leaf) (.node 86 td86 .leaf .leaf))) (.node 93 td93 (.node 90 td90 (.node 89 td89 (.node 88 td88 .leaf .leaf) .leaf) (.node 92 td92 (.node 91 td91 .leaf .leaf) .leaf)) (.node 96 td96 (.node 95 td95 (.node 94 td94 .leaf .leaf) .leaf) (.node 97 td97 .leaf .leaf)))))) (.node 149 td149 (.node 126 td126 (.node 111 td111 (.node 104 td104 (.node 101 td101 (.node 100 td100 (.node 99 td99 .leaf .leaf) .leaf) (.node 103 td103 (.node 102 td102 .leaf .leaf) .leaf)) (.node 107 td107 (.node 106 td106 (.node 105 td105 .leaf .leaf) .leaf) (.node 109 td109 (.node 108 td108 .leaf .leaf) .leaf))) (.node 121 td121 (.node 117 td117 (.node 116 td116 (.node 115 td115 .leaf .leaf) .leaf) (.node 120 td120 (.node 118 td118 .leaf .leaf) .leaf)) (.node 124 td124 (.node 123 td123 (.node 122 td122 .leaf .leaf) .leaf) (.node 125 td125 .leaf .leaf)))) (.node 138 td138 (.node 132 td132 (.node 129 td129 (.node 128 td128 (.node 127 td127 .leaf .leaf) .leaf) (.node 131 td131 (.node 130 td130 .leaf .leaf) .leaf)) (.node 135 td135 (.node 134 td134 (.node 133 td133 .leaf .leaf) .leaf) (.node 137 td137 (.node 136 td136 .leaf .leaf) .leaf))) (.node 144 td144 (.node 141 td141 (.node 140 td140 (.node 139 td139 .leaf .leaf) .leaf) (.node 143 td143 (.node 142 td142 .leaf .leaf) .leaf)) (.node 147 td147 (.node 146 td146 (.node 145 td145 .leaf .leaf) .leaf) (.node 148 td148 .leaf .leaf))))) (.node 176 td176 (.node 162 td162 (.node 155 td155 (.node 152 td152 (.node 151 td151 (.node 150 td150 .leaf .leaf) .leaf) (.node 154 td154 (.node 153 td153 .leaf .leaf) .leaf)) (.node 158 td158 (.node 157 td157 (.node 156 td156 .leaf .leaf) .leaf) (.node 160 td160 (.node 159 td159 .leaf .leaf) .leaf))) (.node 169 td169 (.node 165 td165 (.node 164 td164 (.node 163 td163 .leaf .leaf) .leaf) (.node 168 td168 (.node 166 td166 .leaf .leaf) .leaf)) (.node 173 td173 (.node 172 td172 (.node 171 td171 .leaf .leaf) .leaf) (.node 175 td175 .leaf .leaf)))) (.node 194 td194 (.node 185 td185 (.node 180 td180 (.node 178 td178 (.node 177 td177 .leaf .leaf) .leaf) (.node 184 td184 (.node 181 td181 .leaf .leaf) .leaf)) (.node 189 td189 (.node 188 td188 (.node 186 td186 .leaf .leaf) .leaf) (.node 193 td193 .leaf .leaf))) (.node 203 td203 (.node 200 td200 (.node 199 td199 (.node 198 td198 .leaf .leaf) .leaf) (.node 202 td202 (.node 201 td201 .leaf .leaf) .leaf)) (.node 206 td206 (.node 205 td205 (.node 204 td204 .leaf .leaf) .leaf) (.node 207 td207 .leaf .leaf)))))))
abbrev tab : Tab := findT tabT
theorem hτ : TabOk prog tab := findT_ok (show allT tabT from ⟨tiOk underlying98 ti98, ⟨tiOk underlying50 ti50, ⟨tiOk underlying24 ti24, ⟨tiOk underlying12 ti12, ⟨tiOk underlying6 ti6, ⟨tiOk underlying3 ti3, ⟨tiOk underlying2 ti2, ⟨tiOk underlying1 ti1, trivial, trivial⟩, trivial⟩, ⟨tiOk underlying5 ti5, ⟨tiOk underlying4 ti4, trivial, trivial⟩, trivial⟩⟩, ⟨tiOk underlying9 ti9, ⟨tiOk underlying8 ti8, ⟨tiOk underlying7 ti7, trivial, trivial⟩, trivial⟩, ⟨tiOk underlying11 ti11, ⟨tiOk underlying10 ti10, trivial, trivial⟩, trivial⟩⟩⟩, ⟨tiOk underlying18 ti18, ⟨tiOk underlying15 ti15, ⟨tiOk underlying14 ti14, ⟨tiOk underlying13 ti13, trivial, trivial⟩, trivial⟩, ⟨tiOk underlying17 ti17, ⟨tiOk underlying16 ti16, trivial, trivial⟩, trivial⟩⟩, ⟨tiOk underlying22 ti22, ⟨tiOk underlying21 ti21, ⟨tiOk underlying19 ti19, trivial, trivial⟩, trivial⟩, ⟨tiOk underlying23 ti23, trivial, trivial⟩⟩⟩⟩, ⟨tiOk underlying37 ti37, ⟨tiOk underlying30 ti30, ⟨tiOk underlying27 ti27, ⟨tiOk underlying26 ti26, ⟨tiOk underlying25 ti25, trivial, trivial⟩, trivial⟩, ⟨tiOk underlying29 ti29, ⟨tiOk underlying28 ti28, trivial, trivial⟩, trivial⟩⟩, ⟨tiOk underlying33 ti33, ⟨tiOk underlying32 ti32, ⟨tiOk underlying31 ti31, trivial, trivial⟩, trivial⟩, ⟨tiOk underlying35 ti35, ⟨tiOk underlying34 ti34, trivial, trivial⟩, trivial⟩⟩⟩, ⟨tiOk underlying45 ti45, ⟨tiOk underlying42 ti42, ⟨tiOk underlying40 ti40, ⟨tiOk underlying39 ti39, trivial, trivial⟩, trivial⟩, ⟨tiOk underlying44 ti44, ⟨tiOk underlying43 ti43, trivial, trivial⟩, trivial⟩⟩, ⟨tiOk underlying48 ti48, ⟨tiOk underlying47 ti47, ⟨tiOk underlying46 ti46, trivial, trivial⟩, trivial⟩, ⟨tiOk underlying49 ti49, trivial, trivial⟩⟩⟩⟩⟩, ⟨tiOk underlying75 ti75, ⟨tiOk underlying63 ti63, ⟨tiOk underlying57 ti57, ⟨tiOk underlying53 ti53, ⟨tiOk underlying52 ti52, ⟨tiOk underlying51 ti51, trivial, trivial⟩, trivial⟩, ⟨tiOk underlying55 ti55, ⟨tiOk underlying54 ti54, trivial, trivial⟩, trivial⟩⟩, ⟨tiOk underlying60 ti60, ⟨tiOk underlying59 ti59, ⟨tiOk underlying58 ti58, trivial, trivial⟩, trivial⟩, ⟨tiOk underlying62 ti62, ⟨tiOk underlying61 ti61, trivial, trivial⟩, trivial⟩⟩⟩, ⟨tiOk underlying69 ti69, ⟨tiOk underlying66 ti66, ⟨tiOk underlying65 ti65, ⟨tiOk underlying64 ti64, trivial, trivial⟩, trivial⟩, ⟨tiOk underlying68 ti68, ⟨tiOk underlying67 ti67, trivial, trivial⟩, trivial⟩⟩, ⟨tiOk underlying72 ti72, ⟨tiOk underlying71 ti71, ⟨tiOk underlying70 ti70, trivial, trivial⟩, trivial⟩, ⟨tiOk underlying74 ti74, trivial, trivial⟩⟩⟩⟩, ⟨tiOk underlying87 ti87, ⟨tiOk underlying82 ti82, ⟨tiOk underlying79 ti79, ⟨tiOk underlying77 ti77, ⟨tiOk underlying76 ti76, trivial, trivial⟩, trivial⟩, ⟨tiOk underlying81 ti81, ⟨tiOk underlying80 ti80, trivial, trivial⟩, trivial⟩⟩, ⟨tiOk underlying85 ti85, ⟨tiOk underlying84 ti84, ⟨tiOk underlying83 ti83, trivial, trivial⟩, trivial⟩, ⟨tiOk underlying86 ti86, trivial, trivial⟩⟩⟩, ⟨tiOk underlying93 ti93, ⟨tiOk underlying90 ti90, ⟨tiOk underlying89 ti89, ⟨tiOk underlying88 ti88, trivial, trivial⟩, trivial⟩, ⟨tiOk underlying92 ti92, ⟨tiOk underlying91 ti91, trivial, trivial⟩, trivial⟩⟩, ⟨tiOk underlying96 ti96, ⟨tiOk underlying95 ti95, ⟨tiOk underlying94 ti94, trivial, trivial⟩, trivial⟩, ⟨tiOk underlying97 ti97, trivial, trivial⟩⟩⟩⟩⟩⟩, ⟨tiOk underlying149 ti149, ⟨tiOk underlying126 ti126, ⟨tiOk underlying111 ti111, ⟨tiOk underlying104 ti104, ⟨tiOk underlying101 ti101, ⟨tiOk underlying100 ti100, ⟨tiOk underlying99 ti99, trivial, trivial⟩, trivial⟩, ⟨tiOk underlying103 ti103, ⟨tiOk underlying102 ti102, trivial, trivial⟩, trivial⟩⟩, ⟨tiOk underlying107 ti107, ⟨tiOk underlying106 ti106, ⟨tiOk underlying105 ti105, trivial, trivial⟩, trivial⟩, ⟨tiOk underlying109 ti109, ⟨tiOk underlying108 ti108, trivial, trivial⟩, trivial⟩⟩⟩, ⟨tiOk underlying121 ti121, ⟨tiOk underlying117 ti117, ⟨tiOk underlying116 ti116, ⟨tiOk underlying115 ti115, trivial, trivial⟩, trivial⟩, ⟨tiOk underlying120 ti120, ⟨tiOk underlying118 ti118, trivial, trivial⟩, trivial⟩⟩, ⟨tiOk underlying124 ti124, ⟨tiOk underlying123 ti123, ⟨tiOk underlying122 ti122, trivial, trivial⟩, trivial⟩, ⟨tiOk underlying125 ti125, trivial, trivial⟩⟩⟩⟩, ⟨tiOk underlying138 ti138, ⟨tiOk underlying132 ti132, ⟨tiOk underlying129 ti129, ⟨tiOk underlying128 ti128, ⟨tiOk underlying127 ti127, trivial, trivial⟩, trivial⟩, ⟨tiOk underlying131 ti131, ⟨tiOk underlying130 ti130, trivial, trivial⟩, trivial⟩⟩, ⟨tiOk underlying135 ti135, ⟨tiOk underlying134 ti134, ⟨tiOk underlying133 ti133, trivial, trivial⟩, trivial⟩, ⟨tiOk underlying137 ti137, ⟨tiOk underlying136 ti136, trivial, trivial⟩, trivial⟩⟩⟩, ⟨tiOk underlying144 ti144, ⟨tiOk underlying141 ti141, ⟨tiOk underlying140 ti140, ⟨tiOk underlying139 ti139, trivial, trivial⟩, trivial⟩, ⟨tiOk underlying143 ti143, ⟨tiOk underlying142 ti142, trivial, trivial⟩, trivial⟩⟩, ⟨tiOk underlying147 ti147, ⟨tiOk underlying146 ti146, ⟨tiOk underlying145 ti145, trivial, trivial⟩, trivial⟩, ⟨tiOk underlying148 ti148, trivial, trivial⟩⟩⟩⟩⟩, ⟨tiOk underlying176 ti176, ⟨tiOk underlying162 ti162, ⟨tiOk underlying155 ti155, ⟨tiOk underlying152 ti152, ⟨tiOk underlying151 ti151, ⟨tiOk underlying150 ti150, trivial, trivial⟩, trivial⟩, ⟨tiOk underlying154 ti154, ⟨tiOk underlying153 ti153, trivial, trivial⟩, trivial⟩⟩, ⟨tiOk underlying158 ti158, ⟨tiOk underlying157 ti157, ⟨tiOk underlying156 ti156, trivial, trivial⟩, trivial⟩, ⟨tiOk underlying160 ti160, ⟨tiOk underlying159 ti159, trivial, trivial⟩, trivial⟩⟩⟩, ⟨tiOk underlying169 ti169, ⟨tiOk underlying165 ti165, ⟨tiOk underlying164 ti164, ⟨tiOk underlying163 ti163, trivial, trivial⟩, trivial⟩, ⟨tiOk underlying168 ti168, ⟨tiOk underlying166 ti166, trivial, trivial⟩, trivial⟩⟩, ⟨tiOk underlying173 ti173, ⟨tiOk underlying172 ti172, ⟨tiOk underlying171 ti171, trivial, trivial⟩, trivial⟩, ⟨tiOk underlying175 ti175, trivial, trivial⟩⟩⟩⟩, ⟨tiOk underlying194 ti194, ⟨tiOk underlying185 ti185, ⟨tiOk underlying180 ti180, ⟨tiOk underlying178 ti178, ⟨tiOk underlying177 ti177, trivial, trivial⟩, trivial⟩, ⟨tiOk underlying184 ti184, ⟨tiOk underlying181 ti181, trivial, trivial⟩, trivial⟩⟩, ⟨tiOk underlying189 ti189, ⟨tiOk underlying188 ti188, ⟨tiOk underlying186 ti186, trivial, trivial⟩, trivial⟩, ⟨tiOk underlying193 ti193, trivial, trivial⟩⟩⟩, ⟨tiOk underlying203 ti203, ⟨tiOk underlying200 ti200, ⟨tiOk underlying199 ti199, ⟨tiOk underlying198 ti198, trivial, trivial⟩, trivial⟩, ⟨tiOk underlying202 ti202, ⟨tiOk underlying201 ti201, trivial, trivial⟩, trivial⟩⟩, ⟨tiOk underlying206 ti206, ⟨tiOk underlying205 ti205, ⟨tiOk underlying204 ti204, trivial, trivial⟩, trivial⟩, ⟨tiOk underlying207 ti207, trivial, trivial⟩⟩⟩⟩⟩⟩⟩)
theorem mixed : prog.follows .mixedOrders = true := by kernel_rfl
end Go.Proofs.YtdgkahieegcmeaaDoor.AWN

namespace Go.Proofs.YtdgkahieegcmeaaDoor.AWN
open Go Go.Shelf Go.RowKit Go.Proofs.Tryd
def bStr_ren : Go.Shelf.Ren := ⟨fun | 169 => 85 | n => n, fun | 70 => 105 | 9 => 9 | 0 => 0 | 72 => 107 | 37 => 22 | 127 => 143 | 3 => 3 | 5 => 5 | n => n, fun | n => n⟩
theorem bStr : Go.Proofs.Lays.n169 prog bStr_ren := {
  mixed := by kernel_rfl
  f169 := Tryd.func85.trans (congrArg some (by kernel_rfl))
  t0 := Tryd.underlying0
  a0 := Tryd.isAgg0
  z0 := Tryd.sizeOf0
  v0 := Tryd.zeroValue0
  t3 := Tryd.underlying3
  a3 := Tryd.isAgg3
  z3 := Tryd.sizeOf3
  v3 := Tryd.zeroValue3
  t9 := Tryd.underlying9
  a9 := Tryd.isAgg9
  z9 := Tryd.sizeOf9
  v9 := Tryd.zeroValue9
  t37 := Tryd.underlying22
  a37 := Tryd.isAgg22
  z37 := Tryd.sizeOf22
  v37 := Tryd.zeroValue22
  t70 := Tryd.underlying105
  a70 := Tryd.isAgg105
  z70 := Tryd.sizeOf105
  v70 := Tryd.zeroValue105
  t72 := Tryd.underlying107
  a72 := Tryd.isAgg107
  z72 := Tryd.sizeOf107
  v72 := Tryd.zeroValue107
  t127 := Tryd.underlying143
  a127 := Tryd.isAgg143
  z127 := Tryd.sizeOf143
  v127 := Tryd.zeroValue143 }
def bLen_ren : Go.Shelf.Ren := ⟨fun | 170 => 81 | n => n, fun | 70 => 105 | 3 => 3 | 0 => 0 | 72 => 107 | 37 => 22 | 5 => 5 | n => n, fun | n => n⟩
theorem bLen : Go.Proofs.Lays.n170 prog bLen_ren := {
  mixed := by kernel_rfl
  f170 := Tryd.func81.trans (congrArg some (by kernel_rfl))
  t0 := Tryd.underlying0
  a0 := Tryd.isAgg0
  z0 := Tryd.sizeOf0
  v0 := Tryd.zeroValue0
  t3 := Tryd.underlying3
  a3 := Tryd.isAgg3
  z3 := Tryd.sizeOf3
  v3 := Tryd.zeroValue3
  t37 := Tryd.underlying22
  a37 := Tryd.isAgg22
  z37 := Tryd.sizeOf22
  v37 := Tryd.zeroValue22
  t70 := Tryd.underlying105
  a70 := Tryd.isAgg105
  z70 := Tryd.sizeOf105
  v70 := Tryd.zeroValue105
  t72 := Tryd.underlying107
  a72 := Tryd.isAgg107
  z72 := Tryd.sizeOf107
  v72 := Tryd.zeroValue107 }

theorem szB : (prog.info? 107).map (·.size) = some 2 := by kernel_rfl
theorem liesB : liesAt prog prog.depth 107 (2 / prog.cellsOf 107) 0 107 1 = true := by kernel_rfl
theorem infB : (prog.info? 5).map (fun i => (i.zero, i.size, i.bytes)) = some (some (.int .u8 0), 1, 1) := by kernel_rfl
theorem mixB : prog.follows .mixedOrders = true := by kernel_rfl
set_option maxHeartbeats 1000000 in
set_option maxRecDepth 100000 in
theorem cc_used (b : Nat) (w : World) (h0 : w.cell? ⟨b, 0, none⟩ = some (.pointer (some ⟨b, 0, none⟩))) :
    Calls prog 114 #[.pointer (some ⟨b, 0, none⟩)] w fun e w' => e = .returned (.tuple #[]) ∧ w' = w := by
  obtain ⟨j, hj, _⟩ := Option.map_eq_some_iff.1 szB
  have mixed := mixB
  have t72 := Tryd.underlying107; have a72 := Tryd.isAgg107; have z72 := Tryd.sizeOf107; have v72 := Tryd.zeroValue107; have u72 := run_underlying Tryd.underlying107
  have t70 := Tryd.underlying105; have a70 := Tryd.isAgg105; have z70 := Tryd.sizeOf105; have v70 := Tryd.zeroValue105; have u70 := run_underlying Tryd.underlying105
  have t9 := Tryd.underlying9; have a9 := Tryd.isAgg9; have z9 := Tryd.sizeOf9; have v9 := Tryd.zeroValue9; have u9 := run_underlying Tryd.underlying9
  have t4 := Tryd.underlying4; have a4 := Tryd.isAgg4; have z4 := Tryd.sizeOf4; have v4 := Tryd.zeroValue4; have u4 := run_underlying Tryd.underlying4
  have t164 := Tryd.underlying161; have a164 := Tryd.isAgg161; have z164 := Tryd.sizeOf161; have v164 := Tryd.zeroValue161; have u164 := run_underlying Tryd.underlying161
  go_enter Tryd.func114, Tryd.ntmps114
  go_wp2
  rw [Lib.run_neq_ptr_same w _ Tryd.underlying105 hj]
  go_wp2
  go_end0
  exact ⟨rfl, rfl⟩
set_option maxHeartbeats 1000000 in
set_option maxRecDepth 100000 in
theorem cc_fresh (b : Nat) (w : World) (h0 : w.cell? ⟨b, 0, none⟩ = some (.pointer none)) (hsh : w.shape? b = some (107, 2)) (hfz : w.frozen? ⟨b, 0, none⟩ = false) :
    Calls prog 114 #[.pointer (some ⟨b, 0, none⟩)] w fun e w' => e = .returned (.tuple #[]) ∧ w' = w.setCell ⟨b, 0, none⟩ (.pointer (some ⟨b, 0, none⟩)) := by
  obtain ⟨j, hj, hjs⟩ := Option.map_eq_some_iff.1 szB
  have mixed := mixB
  have t72 := Tryd.underlying107; have a72 := Tryd.isAgg107; have z72 := Tryd.sizeOf107; have v72 := Tryd.zeroValue107; have u72 := run_underlying Tryd.underlying107
  have t70 := Tryd.underlying105; have a70 := Tryd.isAgg105; have z70 := Tryd.sizeOf105; have v70 := Tryd.zeroValue105; have u70 := run_underlying Tryd.underlying105
  have t9 := Tryd.underlying9; have a9 := Tryd.isAgg9; have z9 := Tryd.sizeOf9; have v9 := Tryd.zeroValue9; have u9 := run_underlying Tryd.underlying9
  have t4 := Tryd.underlying4; have a4 := Tryd.isAgg4; have z4 := Tryd.sizeOf4; have v4 := Tryd.zeroValue4; have u4 := run_underlying Tryd.underlying4
  have t164 := Tryd.underlying161; have a164 := Tryd.isAgg161; have z164 := Tryd.sizeOf161; have v164 := Tryd.zeroValue161; have u164 := run_underlying Tryd.underlying161
  go_enter Tryd.func114, Tryd.ntmps114
  go_wp2
  rw [Lib.run_to_unsafe w ⟨b, 0, none⟩ Tryd.underlying105 Tryd.underlying161 hj (by rw [hjs]; decide) hsh (Nat.zero_lt_succ 1)]
  simp only [Result.andThen]
  rw [Oper.upon_value]
  go_wp2
  rw [run_callFunc_extern Tryd.func130 (by kernel_rfl) (by kernel_rfl) (by kernel_rfl) (e := Extern.AbiNoEscape.same) (by kernel_rfl)]
  rw [Lib.run_noEscape]
  simp only [Result.andThen]
  rw [Oper.upon_value]
  go_wp2
  rw [Lib.run_from_unsafe w ⟨b, 0, none⟩ Tryd.underlying161 Tryd.underlying105 hj hsh liesB]
  simp only [Result.andThen]
  rw [Oper.upon_value]
  go_wp2
  go_end0
  exact ⟨rfl, rfl⟩
theorem cc_walk (B b : Nat) (bs : List Value) (w : World) (h : Lib.IsBuilder 107 5 B b bs w) :
    Calls prog 114 #[.pointer (some ⟨b, 0, none⟩)] w fun e w' => e = .returned (.tuple #[]) ∧ (Lib.BuilderAt 107 5 B b (.pointer (some ⟨b, 0, none⟩)) bs w' ∧ Below B w w' ∧ Lib.OthersKept 5 (some b) w w') := by
  rcases h with h | h
  · refine (cc_fresh b w h.cell0 h.shape h.frozen0).mono ?_
    rintro e w' ⟨rfl, rfl⟩
    exact ⟨rfl, h.used _, (Below.refl B w).setCell (p := ⟨b, 0, none⟩) h.1 _, (Lib.OthersKept.refl _ _ w).setCell ⟨b, 0, none⟩ rfl _⟩
  · refine (cc_used b w h.cell0).mono ?_
    rintro e w' ⟨rfl, rfl⟩
    exact ⟨rfl, h, Below.refl B _, Lib.OthersKept.refl _ _ _⟩
set_option maxHeartbeats 2000000 in
set_option maxRecDepth 100000 in
theorem ws_kept (B b : Nat) (bs : List Value) (s : ByteArray) (w : World) (h : Lib.IsBuilder 107 5 B b bs w) (hlen : bs.length + s.size ≤ 140737488355328) (hBw : B ≤ w.heap.size) :
    Calls prog 83 #[.pointer (some ⟨b, 0, none⟩), .string s] w fun e w' => e = .returned (.tuple #[.int .i64 s.size, .nilIface]) ∧ (Lib.BuilderAt 107 5 B b (.pointer (some ⟨b, 0, none⟩)) (bs ++ Lib.strCells s) w' ∧ Below B w w' ∧ Lib.OthersKept 5 (some b) w w') := by
  obtain ⟨i0, hi, hz0, hz1, hz2⟩ := info_parts infB
  have mixed := mixB
  have t72 := Tryd.underlying107; have a72 := Tryd.isAgg107; have z72 := Tryd.sizeOf107; have v72 := Tryd.zeroValue107; have u72 := run_underlying Tryd.underlying107
  have t70 := Tryd.underlying105; have a70 := Tryd.isAgg105; have z70 := Tryd.sizeOf105; have v70 := Tryd.zeroValue105; have u70 := run_underlying Tryd.underlying105
  have t37 := Tryd.underlying22; have a37 := Tryd.isAgg22; have z37 := Tryd.sizeOf22; have v37 := Tryd.zeroValue22; have u37 := run_underlying Tryd.underlying22
  have t3 := Tryd.underlying3; have a3 := Tryd.isAgg3; have z3 := Tryd.sizeOf3; have v3 := Tryd.zeroValue3; have u3 := run_underlying Tryd.underlying3
  have t9 := Tryd.underlying9; have a9 := Tryd.isAgg9; have z9 := Tryd.sizeOf9; have v9 := Tryd.zeroValue9; have u9 := run_underlying Tryd.underlying9
  have t4 := Tryd.underlying4; have a4 := Tryd.isAgg4; have z4 := Tryd.sizeOf4; have v4 := Tryd.zeroValue4; have u4 := run_underlying Tryd.underlying4
  have t164 := Tryd.underlying161; have a164 := Tryd.isAgg161; have z164 := Tryd.sizeOf161; have v164 := Tryd.zeroValue161; have u164 := run_underlying Tryd.underlying161
  have t5 := Tryd.underlying5; have a5 := Tryd.isAgg5; have z5 := Tryd.sizeOf5; have v5 := Tryd.zeroValue5; have u5 := run_underlying Tryd.underlying5
  have e240 : ∀ args w, (callFunc 114 args).run prog w = .ok (.enter 114 args) w := enters_of Tryd.func114 (by kernel_rfl) rfl
  go_enter Tryd.func83, Tryd.ntmps83
  go_wp2_with (go_at_fn 114; refine (cc_walk B b bs _ h).mono ?_)
  rintro e w1 ⟨rfl, h1, hb1, hk1⟩
  obtain ⟨hB, v, hbk, hown, hne⟩ := h1
  have c0 : w1.cell? ⟨b, 0, none⟩ = some (.pointer (some ⟨b, 0, none⟩)) := by rw [Lib.cell_of_heap hbk]; rfl
  have c1 : w1.cell? ⟨b, 1, none⟩ = some v := by rw [Lib.cell_of_heap hbk]; rfl
  go_wp2_with (at_builtin; refine Lib.wpList_append_own_string _ rfl _ _ 22 9 rfl B 5 i0 Tryd.underlying22 Tryd.underlying9 hi hz0 hz1 hz2 _ _ _ rfl hown s rfl ?c3 ?c4 ?c5 ?_)
  case c3 => unfold maxLen; omega
  case c4 => omega
  case c5 => have := hb1.size; omega
  intro v' w2 hown' hgrow _
  have hlt : b < w1.heap.size := by
    rcases Nat.lt_or_ge b w1.heap.size with h' | h'
    · exact h'
    · simp [Array.getElem?_eq_none h'] at hbk
  have hb2 : w2.heap[b]? = some (.cells #[.pointer (some ⟨b, 0, none⟩), v] 107 (0, 0)) := by
    rw [hgrow.block b hlt (fun e => hne e.symm)]
    exact hbk
  have d0 : w2.cell? ⟨b, 0, none⟩ = some (.pointer (some ⟨b, 0, none⟩)) := by rw [Lib.cell_of_heap hb2]; rfl
  have d1 : w2.cell? ⟨b, 1, none⟩ = some v := by rw [Lib.cell_of_heap hb2]; rfl
  have f1 : w2.frozen? ⟨b, 1, none⟩ = false := Lib.frozen_of_heap hb2 1
  obtain ⟨ao, n', cap, rfl⟩ : ∃ ao n' cap, v' = .slice ao n' cap := by
    rcases hown'.2 with ⟨hv, _⟩ | ⟨g, cap, cur, hv, _⟩
    · exact ⟨_, _, _, hv⟩
    · exact ⟨_, _, _, hv⟩
  go_wp2
  go_ret2
  refine ⟨rfl, ?_, ?_, (hk1.grown hgrow (Lib.ownsRow_kind hown)).setCell ⟨b, 1, none⟩ rfl _⟩
  · exact Lib.BuilderAt.put (T := 107) (e := 5) hB hb2 (bs' := bs ++ Lib.strCells s) (by simpa [Lib.strCells_length] using hown') (by decide)
  · exact (hb1.grown hgrow (by have := hb1.size; omega) (fun k hk => (hown.lt k hk).1)).setCell (p := ⟨b, 1, none⟩) hB _
theorem ws_walk (B b : Nat) (bs : List Value) (s : ByteArray) (w : World) (h : Lib.IsBuilder 107 5 B b bs w) (hlen : bs.length + s.size ≤ 140737488355328) (hBw : B ≤ w.heap.size) :
    Calls prog 83 #[.pointer (some ⟨b, 0, none⟩), .string s] w fun e w' => e = .returned (.tuple #[.int .i64 s.size, .nilIface]) ∧ (Lib.BuilderAt 107 5 B b (.pointer (some ⟨b, 0, none⟩)) (bs ++ Lib.strCells s) w' ∧ Below B w w') :=
  (ws_kept B b bs s w h hlen hBw).mono fun e w' h => ⟨h.1, h.2.1, h.2.2.1⟩
theorem len_walk (B b : Nat) (bs : List Value) (w : World) (h : Lib.IsBuilder 107 5 B b bs w) :
    Calls prog 81 #[.pointer (some ⟨b, 0, none⟩)] w fun e w' => e = .returned (.int .i64 bs.length) ∧ w' = w := Any.Builder_Len bLen B b bs w h
set_option maxRecDepth 100000 in
theorem exB : Builder.Extra prog bStr_ren := {
  sizeBuilder := szB
  liesBuilder := liesB
  t5 := Tryd.underlying5
  a5 := Tryd.isAgg5
  z5 := Tryd.sizeOf5
  v5 := Tryd.zeroValue5
  infoByte := infB
  cellsByte := by kernel_rfl
  sizeByte := by kernel_rfl
  neB5 := by decide }
theorem str_walk (B b : Nat) (l : List UInt8) (w : World) (h : Lib.IsBuilder 107 5 B b (Lib.byteCells l) w) (hBw : B ≤ w.heap.size) :
    Calls prog 85 #[.pointer (some ⟨b, 0, none⟩)] w fun e w' => e = .returned (.string ⟨l.toArray⟩) ∧ Below B w w' :=
  (Any.Builder_String_any bStr exB B b l w h hBw).mono fun e w' h => ⟨h.1, by first | exact h.2 | exact h.2.2 | exact h.2.1⟩
end Go.Proofs.YtdgkahieegcmeaaDoor.AWN

namespace Go.Proofs.YtdgkahieegcmeaaDoor.AWN
open Go Go.Shelf Go.RowKit Go.Proofs.Tryd
def bGrow_ren : Go.Shelf.Ren := ⟨fun | 241 => 133 | 277 => 147 | n => n, fun | 70 => 105 | 3 => 3 | 0 => 0 | 72 => 107 | 37 => 22 | 5 => 5 | n => n, fun | n => n⟩
theorem bGrow : Go.Proofs.Lays.n241 prog bGrow_ren := {
  mixed := by kernel_rfl
  f241 := Tryd.func133.trans (congrArg some (by kernel_rfl))
  f277 := Tryd.func147.trans (congrArg some (by kernel_rfl))
  t0 := Tryd.underlying0
  a0 := Tryd.isAgg0
  z0 := Tryd.sizeOf0
  v0 := Tryd.zeroValue0
  t3 := Tryd.underlying3
  a3 := Tryd.isAgg3
  z3 := Tryd.sizeOf3
  v3 := Tryd.zeroValue3
  t37 := Tryd.underlying22
  a37 := Tryd.isAgg22
  z37 := Tryd.sizeOf22
  v37 := Tryd.zeroValue22
  t70 := Tryd.underlying105
  a70 := Tryd.isAgg105
  z70 := Tryd.sizeOf105
  v70 := Tryd.zeroValue105
  t72 := Tryd.underlying107
  a72 := Tryd.isAgg107
  z72 := Tryd.sizeOf107
  v72 := Tryd.zeroValue107 }
set_option maxRecDepth 1000000 in
theorem exGrow : Builder.Extra prog bGrow_ren := {
  sizeBuilder := szB
  liesBuilder := liesB
  t5 := Tryd.underlying5
  a5 := Tryd.isAgg5
  z5 := Tryd.sizeOf5
  v5 := Tryd.zeroValue5
  infoByte := infB
  cellsByte := by kernel_rfl
  sizeByte := by kernel_rfl
  neB5 := by decide }
set_option maxHeartbeats 2000000 in
set_option maxRecDepth 1000000 in
/-- Room for more bytes at a builder that is as it was made. -/
theorem grow_walk (B b n : Nat) (w : World) (hB : B ≤ b) (hb : w.heap[b]? = some (.cells #[.pointer none, .slice none 0 0] 107 (0, 0))) (hw : B ≤ w.heap.size) (hn : n ≤ 281474976710656) :
    Calls prog 118 #[.pointer (some ⟨b, 0, none⟩), .int .i64 n] w fun e w' => e = .returned (.tuple #[]) ∧ Lib.BuilderAt 107 5 B b (.pointer (some ⟨b, 0, none⟩)) [] w' ∧ Below B w w' := by
  have h1 : (w.setCell ⟨b, 0, none⟩ (.pointer (some ⟨b, 0, none⟩))).heap[b]? = some (.cells #[.pointer (some ⟨b, 0, none⟩), .slice none 0 0] 107 (0, 0)) := by
    simp [World.setCell, Array.getElem?_modify, hb]
  have k1 : Below B w (w.setCell ⟨b, 0, none⟩ (.pointer (some ⟨b, 0, none⟩))) := (Below.refl B w).setCell (p := ⟨b, 0, none⟩) hB _
  have s1 : B ≤ (w.setCell ⟨b, 0, none⟩ (.pointer (some ⟨b, 0, none⟩))).heap.size := Nat.le_trans hw k1.size
  have c0 : (w.setCell ⟨b, 0, none⟩ (.pointer (some ⟨b, 0, none⟩))).cell? ⟨b, 1, none⟩ = some (.slice none 0 0) := by rw [Lib.cell_of_heap h1]; rfl
  have c1 : (w.setCell ⟨b, 0, none⟩ (.pointer (some ⟨b, 0, none⟩))).drew.cell? ⟨b, 1, none⟩ = some (.slice none 0 0) := c0
  have own : Lib.BuilderAt 107 5 B b (.pointer (some ⟨b, 0, none⟩)) [] (w.setCell ⟨b, 0, none⟩ (.pointer (some ⟨b, 0, none⟩))) := ⟨hB, .slice none 0 0, h1, World.ownsRow_nil _ _ _ _, by simp [Value.ownBlock]⟩
  have mixed := mixB
  have t107 := Tryd.underlying107; have a107 := Tryd.isAgg107; have z107 := Tryd.sizeOf107; have v107 := Tryd.zeroValue107; have u107 := run_underlying Tryd.underlying107
  have t105 := Tryd.underlying105; have a105 := Tryd.isAgg105; have z105 := Tryd.sizeOf105; have v105 := Tryd.zeroValue105; have u105 := run_underlying Tryd.underlying105
  have t22 := Tryd.underlying22; have a22 := Tryd.isAgg22; have z22 := Tryd.sizeOf22; have v22 := Tryd.zeroValue22; have u22 := run_underlying Tryd.underlying22
  have t3 := Tryd.underlying3; have a3 := Tryd.isAgg3; have z3 := Tryd.sizeOf3; have v3 := Tryd.zeroValue3; have u3 := run_underlying Tryd.underlying3
  have t9 := Tryd.underlying9; have a9 := Tryd.isAgg9; have z9 := Tryd.sizeOf9; have v9 := Tryd.zeroValue9; have u9 := run_underlying Tryd.underlying9
  have t4 := Tryd.underlying4; have a4 := Tryd.isAgg4; have z4 := Tryd.sizeOf4; have v4 := Tryd.zeroValue4; have u4 := run_underlying Tryd.underlying4
  have t161 := Tryd.underlying161; have a161 := Tryd.isAgg161; have z161 := Tryd.sizeOf161; have v161 := Tryd.zeroValue161; have u161 := run_underlying Tryd.underlying161
  have t60 := Tryd.underlying60; have a60 := Tryd.isAgg60; have z60 := Tryd.sizeOf60; have v60 := Tryd.zeroValue60; have u60 := run_underlying Tryd.underlying60
  have t5 := Tryd.underlying5; have a5 := Tryd.isAgg5; have z5 := Tryd.sizeOf5; have v5 := Tryd.zeroValue5; have u5 := run_underlying Tryd.underlying5
  have ecc : ∀ args w, (callFunc 114 args).run prog w = .ok (.enter 114 args) w := enters_of Tryd.func114 (by kernel_rfl) rfl
  have egr : ∀ args w, (callFunc 133 args).run prog w = .ok (.enter 133 args) w := enters_of Tryd.func133 (by kernel_rfl) rfl
  go_enter Tryd.func118, Tryd.ntmps118
  go_wp2_with (go_at_fn 114; refine (cc_fresh b w (by rw [Lib.cell_of_heap hb]; rfl) (by simp [World.shape?, hb]) (Lib.frozen_of_heap hb 0)).mono ?_; rintro e w' ⟨rfl, rfl⟩)
  go_region_o
  all_goals go_wp2_with (go_at_fn 133; refine (Any.Builder_grow_fresh bGrow exGrow B b n (w.setCell ⟨b, 0, none⟩ (.pointer (some ⟨b, 0, none⟩))).drew hB h1 s1 hn).mono ?_; rintro e w' ⟨rfl, g1, g2⟩)
  all_goals first
    | (go_end0; exact ⟨rfl, g1, k1.drew.trans g2⟩)
    | (go_end0; exact ⟨rfl, own.drew, k1.drew⟩)

/-! ### What is joined -/
def joinT (sep : Str) : Str → List Str → Str
  | out, [] => out
  | out, y :: r => joinT sep (out ++ sep ++ y) r
theorem joinT_take (sep : Str) : ∀ (r : List Str) (out : Str) (k : Nat) (h : k < r.length), joinT sep out (r.take (k + 1)) = joinT sep out (r.take k) ++ sep ++ r.getD k []
  | [], _, k, h => by simp at h
  | y :: r, out, 0, h => rfl
  | y :: r, out, k + 1, h => by
    rw [List.take_succ_cons, List.take_succ_cons]
    show joinT sep (out ++ sep ++ y) (r.take (k + 1)) = joinT sep (out ++ sep ++ y) (r.take k) ++ sep ++ r.getD k []
    exact joinT_take sep r _ k (by simpa using h)
theorem joinT_le (sep : Str) : ∀ (r : List Str) (out : Str) (k : Nat), (joinT sep out (r.take k)).length ≤ (joinT sep out r).length ∧ out.length ≤ (joinT sep out r).length
  | [], out, k => by rw [List.take_nil]; exact ⟨Nat.le_refl _, Nat.le_refl _⟩
  | y :: r, out, k => by
    have h2 := (joinT_le sep r (out ++ sep ++ y) 0).2
    have h3 : out.length ≤ (out ++ sep ++ y).length := by simp only [List.length_append]; omega
    refine ⟨?_, Nat.le_trans h3 h2⟩
    cases k with
    | zero => exact Nat.le_trans h3 h2
    | succ k => exact (joinT_le sep r (out ++ sep ++ y) k).1
/-- How long the first texts are together. -/
def sumL (xs : List Str) : Nat → Nat
  | 0 => 0
  | k + 1 => sumL xs k + (xs.getD k []).length
theorem sumL_le (xs : List Str) (B : Nat) (hb : ∀ k, (xs.getD k []).length ≤ B) : ∀ k, sumL xs k ≤ B * k
  | 0 => Nat.le_refl _
  | k + 1 => by
    have := sumL_le xs B hb k
    have := hb k
    show sumL xs k + _ ≤ B * (k + 1)
    rw [Nat.mul_add]; omega
def joinM (l : List Str) (sep : Str) : Option Str := match l with
  | [] => some []
  | [x] => some x
  | x :: y :: r => grd (r.length + 2 ≤ 10000 ∧ sep.length ≤ 10000 ∧ (∀ z ∈ x :: y :: r, z.length ≤ 10000) ∧ (joinT sep x (y :: r)).length ≤ 1000000000) (some (joinT sep x (y :: r)))
theorem cells_str' (s : Str) : Lib.strCells (bstr s) = Lib.byteCells s := by
  rw [Lib.strCells_eq]; rfl
theorem cells_app' (s t : Str) : Lib.byteCells s ++ Lib.byteCells t = Lib.byteCells (s ++ t) := by
  unfold Lib.byteCells; rw [List.map_append]

set_option maxHeartbeats 4000000 in
set_option maxRecDepth 100000 in
theorem join_many (w : World) (bk o cap : Nat) (xs : List Str) (x0 : Str) (r : List Str) (sep : Str) (hxs : xs = x0 :: r) (h1 : 1 ≤ r.length) (hN : xs.length ≤ 10000) (hcap : xs.length ≤ cap) (hbk : bk < w.heap.size)
    (hs : sep.length ≤ 10000) (hB : ∀ k, (xs.getD k []).length ≤ 10000) (hJ : (joinT sep x0 r).length ≤ 1000000000)
    (hc : ∀ k, k < xs.length → w.cell? ⟨bk, o + k, none⟩ = some (.string (bstr (xs.getD k [])))) :
    Calls prog 92 #[.slice (some ⟨bk, o, none⟩) xs.length cap, .string (bstr sep)] w fun e w' => e = .returned (.string (bstr (joinT sep x0 r))) ∧ Below w.heap.size w w' := by
  have hl2 : 2 ≤ xs.length := by rw [hxs, List.length_cons]; omega
  have Hrl : Hid (r.length = xs.length - 1) := by show r.length = xs.length - 1; rw [hxs, List.length_cons]; omega
  have Hxs : Hid (xs = x0 :: r) := hxs
  have Hc : Hid (∀ k, k < xs.length → w.cell? ⟨bk, o + k, none⟩ = some (.string (bstr (xs.getD k [])))) := hc
  have HB : Hid (∀ k, (xs.getD k []).length ≤ 10000) := hB
  have hss := bstr_size sep
  -- numbers
  have hprod0 : sep.length * (xs.length - 1) ≤ 10000 * 10000 := Nat.mul_le_mul hs (by omega)
  obtain ⟨M, hM⟩ : ∃ M, M = sep.length * (xs.length - 1) := ⟨_, rfl⟩
  rw [← hM] at hprod0
  have hcast : ((xs.length : Int) - 1) = ((xs.length - 1 : Nat) : Int) := by omega
  have hq : 900000000000000 ≤ 9223372036854775807 / (xs.length - 1) := by
    rw [Nat.le_div_iff_mul_le (by omega)]
    have : 900000000000000 * (xs.length - 1) ≤ 900000000000000 * 10000 := Nat.mul_le_mul_left _ (by omega)
    omega
  have hdv : ¬ (9223372036854775807 / ((xs.length : Int) - 1) ≤ ((bstr sep).size : Int)) := by
    have e : (9223372036854775807 : Int) / ((xs.length - 1 : Nat) : Int) = ((9223372036854775807 / (xs.length - 1) : Nat) : Int) := IntWalk.up_div (x := 9223372036854775807) rfl rfl
    rw [hcast, e, hss]
    generalize 9223372036854775807 / (xs.length - 1) = q at hq
    omega
  have hprod : wrap64 (((bstr sep).size : Int) * ((xs.length : Int) - 1)) = (M : Int) := by
    have e : ((bstr sep).size : Int) * ((xs.length - 1 : Nat) : Int) = (((bstr sep).size * (xs.length - 1) : Nat) : Int) := IntWalk.up_mul rfl rfl
    rw [hcast, e, hss, ← hM]
    exact IntWalk.wrap64_in _ ⟨by omega, by omega⟩
  have hM0 : (bstr sep).size = 0 → M = 0 := fun h => by rw [hM, ← hss, h, Nat.zero_mul]
  have hsum := sumL_le xs 10000 hB
  have Hsum : Hid (∀ k, sumL xs k ≤ 10000 * k) := hsum
  have HM : Hid (M = sep.length * (xs.length - 1)) := hM
  have Hss : Hid ((bstr sep).size = sep.length) := hss
  clear hcast hq hxs hc hB hsum hM hss
  have hne0 : ((xs.length : Int) == 0) = false := beq_eq_false_iff_ne.2 (by omega)
  have hne1 : ((xs.length : Int) == 1) = false := beq_eq_false_iff_ne.2 (by omega)
  have mixed := mixB
  have t107 := Tryd.underlying107; have a107 := Tryd.isAgg107; have z107 := Tryd.sizeOf107; have v107 := Tryd.zeroValue107; have u107 := run_underlying Tryd.underlying107
  have t105 := Tryd.underlying105; have a105 := Tryd.isAgg105; have z105 := Tryd.sizeOf105; have v105 := Tryd.zeroValue105; have u105 := run_underlying Tryd.underlying105
  have t22 := Tryd.underlying22; have a22 := Tryd.isAgg22; have z22 := Tryd.sizeOf22; have v22 := Tryd.zeroValue22; have u22 := run_underlying Tryd.underlying22
  have t3 := Tryd.underlying3; have a3 := Tryd.isAgg3; have z3 := Tryd.sizeOf3; have v3 := Tryd.zeroValue3; have u3 := run_underlying Tryd.underlying3
  have t9 := Tryd.underlying9; have a9 := Tryd.isAgg9; have z9 := Tryd.sizeOf9; have v9 := Tryd.zeroValue9; have u9 := run_underlying Tryd.underlying9
  have t4 := Tryd.underlying4; have a4 := Tryd.isAgg4; have z4 := Tryd.sizeOf4; have v4 := Tryd.zeroValue4; have u4 := run_underlying Tryd.underlying4
  have t161 := Tryd.underlying161; have a161 := Tryd.isAgg161; have z161 := Tryd.sizeOf161; have v161 := Tryd.zeroValue161; have u161 := run_underlying Tryd.underlying161
  have t60 := Tryd.underlying60; have a60 := Tryd.isAgg60; have z60 := Tryd.sizeOf60; have v60 := Tryd.zeroValue60; have u60 := run_underlying Tryd.underlying60
  have t5 := Tryd.underlying5; have a5 := Tryd.isAgg5; have z5 := Tryd.sizeOf5; have v5 := Tryd.zeroValue5; have u5 := run_underlying Tryd.underlying5
  go_enter Tryd.func92, Tryd.ntmps92
  go_wp2_with fail
  all_goals (
    go_loop [5, 41] (fun n i => ∃ k : Nat, k ≤ xs.length ∧ i = .int .i64 k ∧ n = .int .i64 ((M + sumL xs k : Nat) : Int)) (fun _ i => xs.length - (intOf i).toNat)
    case atStart => exact ⟨0, Nat.zero_le _, rfl, by first | (simp [sumL]; done) | (have := hM0 (by omega); simp [sumL, this])⟩
    case round =>
      obtain ⟨k, hk, rfl, rfl⟩ := hrel
      have hsk := Hsum.out k
      have hsk' : 10000 * k ≤ 10000 * 10000 := Nat.mul_le_mul_left _ (by omega)
      by_cases hkn : k < xs.length
      · have hck := Hc.out k hkn
        have hbk' := HB.out k
        have hzs := bstr_size (xs.getD k [])
        have hstep : sumL xs (k + 1) = sumL xs k + (xs.getD k []).length := rfl
        generalize xs.getD k [] = z at hck hbk' hzs hstep
        obtain ⟨A1, hA1⟩ : ∃ A1, A1 = sumL xs (k + 1) := ⟨_, rfl⟩
        rw [← hA1] at hstep
        have HA1 : Hid (A1 = sumL xs (k + 1)) := hA1
        clear hA1
        generalize sumL xs k = A0 at hstep hsk
        go_wp2
        exact ⟨⟨k + 1, by omega, by go_num, by rw [← HA1.out]; refine congrArg _ ?_; omega⟩, by simp [intOf]; omega⟩
      · have hke : k = xs.length := by omega
        subst hke
        generalize sumL xs xs.length = T at hsk
        go_wp2_with fail
        have hMT : ((M : Int) + (T : Int)) = ((M + T : Nat) : Int) := by omega
        rw [hMT]
        refine (grow_walk w.heap.size w.heap.size (M + T) _ (Nat.le_refl _) (heap_alloc_new w _) (by simp) (by omega)).mono ?_
        rintro e w1 ⟨rfl, g1, g2⟩
        have hb1 : Below w.heap.size w w1 := ((Below.refl w.heap.size w).alloc (Nat.le_refl _) _).trans g2
        have c0 : w1.cell? ⟨bk, o, none⟩ = some (.string (bstr x0)) := by
          have := (hb1.cell (p := ⟨bk, o, none⟩) hbk).trans (Hc.out 0 (by omega))
          rw [this, Hxs.out]; rfl
        have hx0 : x0.length ≤ 10000 := by have := HB.out 0; rw [Hxs.out] at this; exact this
        have G1 : Hid (Lib.IsBuilder 107 5 w.heap.size w.heap.size [] w1) := Or.inr g1
        have B1 : Hid (Below w.heap.size w w1) := hb1
        have z1 : w.heap.size ≤ w1.heap.size := hb1.size
        have HJ : Hid (∀ k, (joinT sep x0 (r.take k)).length ≤ 1000000000) := fun k => by
          have := (joinT_le sep r x0 k).1; omega
        have Hx0 : Hid ((bstr x0).size = x0.length) := bstr_size x0
        clear g1 g2 hb1 hMT
        go_wp2_with fail
        refine (ws_walk w.heap.size w.heap.size [] (bstr x0) w1 G1.out (by rw [Hx0.out]; show 0 + _ ≤ _; omega) z1).mono ?_
        rintro e w2 ⟨rfl, g3, g4⟩
        rw [cells_str', List.nil_append] at g3
        have G2 : Hid (Lib.IsBuilder 107 5 w.heap.size w.heap.size (Lib.byteCells (joinT sep x0 (r.take 0))) w2) := Or.inr (by rw [List.take_zero]; exact g3)
        have B2 : Hid (Below w.heap.size w w2) := B1.out.trans g4
        clear g3 g4
        go_wp2_with fail
        go_loopw [65] (fun i wr => ∃ k : Nat, k ≤ r.length ∧ i = .int .i64 k ∧ Hid (Lib.IsBuilder 107 5 w.heap.size w.heap.size (Lib.byteCells (joinT sep x0 (r.take k))) wr) ∧ Hid (Below w.heap.size w wr)) (fun i _ => r.length - (intOf i).toNat)
        case atStart => exact ⟨0, Nat.zero_le _, rfl, G2, B2⟩
        case round =>
          obtain ⟨k, hk', rfl, HG, HW⟩ := hrel
          by_cases hkr : k < r.length
          · have cy : wr.cell? ⟨bk, o + 1 + k, none⟩ = some (.string (bstr (r.getD k []))) := by
              have := (HW.out.cell (p := ⟨bk, o + (k + 1), none⟩) hbk).trans (Hc.out (k + 1) (by have := Hrl.out; omega))
              rw [show o + 1 + k = o + (k + 1) by omega, this, Hxs.out]; rfl
            have zr : w.heap.size ≤ wr.heap.size := HW.out.size
            have hy : (r.getD k []).length ≤ 10000 := by have := HB.out (k + 1); rw [Hxs.out] at this; exact this
            have Hnext : Hid (joinT sep x0 (r.take (k + 1)) = joinT sep x0 (r.take k) ++ sep ++ r.getD k []) := joinT_take sep r x0 k hkr
            have hj := HJ.out k
            generalize r.getD k [] = y at cy hy Hnext
            have Hy : Hid ((bstr y).size = y.length) := bstr_size y
            have Hl : Hid ((Lib.byteCells (joinT sep x0 (r.take k))).length = (joinT sep x0 (r.take k)).length) := Lib.byteCells_length _
            have Hkr : Hid (k < r.length) := hkr
            have hkx : (k : Int) < (xs.length : Int) - 1 := by have := Hrl.out; omega
            go_wp2_with fail
            refine (ws_walk w.heap.size w.heap.size _ (bstr sep) wr HG.out (by rw [Hl.out, Hss.out]; omega) zr).mono ?_
            rintro e w3 ⟨rfl, g5, g6⟩
            have z3 : w.heap.size ≤ w3.heap.size := Nat.le_trans zr g6.size
            rw [cells_str', cells_app'] at g5
            have G5 : Hid (Lib.BuilderAt 107 5 w.heap.size w.heap.size (.pointer (some ⟨w.heap.size, 0, none⟩)) (Lib.byteCells (joinT sep x0 (r.take k) ++ sep)) w3) := g5
            have B5 : Hid (Below w.heap.size wr w3) := g6
            have cy3 : w3.cell? ⟨bk, o + 1 + k, none⟩ = some (.string (bstr y)) := (B5.out.cell (p := ⟨bk, o + 1 + k, none⟩) hbk).trans cy
            clear g5 g6
            go_wp2_with fail
            refine (ws_walk w.heap.size w.heap.size _ (bstr y) w3 (Or.inr G5.out) (by rw [Lib.byteCells_length, List.length_append, Hy.out]; omega) z3).mono ?_
            rintro e w4 ⟨rfl, g7, g8⟩
            rw [cells_str', cells_app', ← Hnext.out] at g7
            have G7 : Hid (Lib.IsBuilder 107 5 w.heap.size w.heap.size (Lib.byteCells (joinT sep x0 (r.take (k + 1)))) w4) := Or.inr g7
            have B7 : Hid (Below w.heap.size w w4) := (HW.out.trans B5.out).trans g8
            clear g7 g8
            go_wp2
            exact ⟨⟨k + 1, by omega, by go_num, G7, B7⟩, by simp [intOf]; omega⟩
          · have hkr' : k = r.length := by omega
            subst hkr'
            have gb := HG.out
            rw [List.take_length] at gb
            have zr : w.heap.size ≤ wr.heap.size := HW.out.size
            have hkx : ¬ ((r.length : Int) < (xs.length : Int) - 1) := by have := Hrl.out; omega
            go_wp2_with fail
            refine (str_walk w.heap.size w.heap.size _ wr gb zr).mono ?_
            rintro e w5 ⟨rfl, g9⟩
            have B9 : Hid (Below w.heap.size w w5) := HW.out.trans g9
            clear g9 gb
            go_wp2
            go_ret
            exact ⟨rfl, B9.out⟩)
theorem join_none (w : World) (a : Option Addr) (c : Nat) (sep : Str) :
    Calls prog 92 #[.slice a 0 c, .string (bstr sep)] w fun e w' => e = .returned (.string (bstr [])) ∧ Below w.heap.size w w' := by
  have mixed := mixB
  have t107 := Tryd.underlying107; have a107 := Tryd.isAgg107; have z107 := Tryd.sizeOf107; have v107 := Tryd.zeroValue107; have u107 := run_underlying Tryd.underlying107
  have t105 := Tryd.underlying105; have a105 := Tryd.isAgg105; have z105 := Tryd.sizeOf105; have v105 := Tryd.zeroValue105; have u105 := run_underlying Tryd.underlying105
  have t22 := Tryd.underlying22; have a22 := Tryd.isAgg22; have z22 := Tryd.sizeOf22; have v22 := Tryd.zeroValue22; have u22 := run_underlying Tryd.underlying22
  have t3 := Tryd.underlying3; have a3 := Tryd.isAgg3; have z3 := Tryd.sizeOf3; have v3 := Tryd.zeroValue3; have u3 := run_underlying Tryd.underlying3
  have t9 := Tryd.underlying9; have a9 := Tryd.isAgg9; have z9 := Tryd.sizeOf9; have v9 := Tryd.zeroValue9; have u9 := run_underlying Tryd.underlying9
  have t4 := Tryd.underlying4; have a4 := Tryd.isAgg4; have z4 := Tryd.sizeOf4; have v4 := Tryd.zeroValue4; have u4 := run_underlying Tryd.underlying4
  have t161 := Tryd.underlying161; have a161 := Tryd.isAgg161; have z161 := Tryd.sizeOf161; have v161 := Tryd.zeroValue161; have u161 := run_underlying Tryd.underlying161
  have t60 := Tryd.underlying60; have a60 := Tryd.isAgg60; have z60 := Tryd.sizeOf60; have v60 := Tryd.zeroValue60; have u60 := run_underlying Tryd.underlying60
  have t5 := Tryd.underlying5; have a5 := Tryd.isAgg5; have z5 := Tryd.sizeOf5; have v5 := Tryd.zeroValue5; have u5 := run_underlying Tryd.underlying5
  go_enter Tryd.func92, Tryd.ntmps92
  go_wp2
  go_ret
  exact ⟨rfl, Below.refl _ _⟩
theorem join_one (w : World) (bk o c : Nat) (x sep : Str) (hc : w.cell? ⟨bk, o, none⟩ = some (.string (bstr x))) :
    Calls prog 92 #[.slice (some ⟨bk, o, none⟩) 1 c, .string (bstr sep)] w fun e w' => e = .returned (.string (bstr x)) ∧ Below w.heap.size w w' := by
  have mixed := mixB
  have t107 := Tryd.underlying107; have a107 := Tryd.isAgg107; have z107 := Tryd.sizeOf107; have v107 := Tryd.zeroValue107; have u107 := run_underlying Tryd.underlying107
  have t105 := Tryd.underlying105; have a105 := Tryd.isAgg105; have z105 := Tryd.sizeOf105; have v105 := Tryd.zeroValue105; have u105 := run_underlying Tryd.underlying105
  have t22 := Tryd.underlying22; have a22 := Tryd.isAgg22; have z22 := Tryd.sizeOf22; have v22 := Tryd.zeroValue22; have u22 := run_underlying Tryd.underlying22
  have t3 := Tryd.underlying3; have a3 := Tryd.isAgg3; have z3 := Tryd.sizeOf3; have v3 := Tryd.zeroValue3; have u3 := run_underlying Tryd.underlying3
  have t9 := Tryd.underlying9; have a9 := Tryd.isAgg9; have z9 := Tryd.sizeOf9; have v9 := Tryd.zeroValue9; have u9 := run_underlying Tryd.underlying9
  have t4 := Tryd.underlying4; have a4 := Tryd.isAgg4; have z4 := Tryd.sizeOf4; have v4 := Tryd.zeroValue4; have u4 := run_underlying Tryd.underlying4
  have t161 := Tryd.underlying161; have a161 := Tryd.isAgg161; have z161 := Tryd.sizeOf161; have v161 := Tryd.zeroValue161; have u161 := run_underlying Tryd.underlying161
  have t60 := Tryd.underlying60; have a60 := Tryd.isAgg60; have z60 := Tryd.sizeOf60; have v60 := Tryd.zeroValue60; have u60 := run_underlying Tryd.underlying60
  have t5 := Tryd.underlying5; have a5 := Tryd.isAgg5; have z5 := Tryd.sizeOf5; have v5 := Tryd.zeroValue5; have u5 := run_underlying Tryd.underlying5
  go_enter Tryd.func92, Tryd.ntmps92
  go_wp2
  go_ret
  exact ⟨rfl, Below.refl _ _⟩
theorem join_does {fr : Bool} {eS : Str → List D} (hf : ∀ s, eS s = [.str (bstr s)]) {l : List Str} {sep r : Str} (h : joinM l sep = some r) :
    ACall prog fr 92 [.d (.sl false (l.map eS)), .d (.str (bstr sep))] [] (fun v o n => v = .d (.str (bstr r)) ∧ o = [] ∧ n = []) := by
  refine acall_below fun W hb H ok vals hl hok hr => ?_
  obtain ⟨v, u, rfl, h1, h2⟩ := two_args hr
  obtain rfl := rel_str h2
  have main : ∃ a len cap, v = .slice a len cap ∧ l.length = len ∧ len ≤ cap ∧ (0 < len → ∃ b o, a = some ⟨b, o, none⟩ ∧ b < W.heap.size ∧ ∀ i, i < len → W.cell? ⟨b, o + i, none⟩ = some (.string (bstr (l.getD i [])))) := by
    cases h1 with
    | d h1 =>
      generalize hes : l.map eS = es at h1
      cases h1 with
      | slnil =>
        have : l = [] := by simpa using hes
        subst this
        exact ⟨none, 0, 0, rfl, rfl, Nat.le_refl _, fun hi => absurd hi (by omega)⟩
      | sle =>
        have : l = [] := by simpa using hes
        subst this
        exact ⟨_, 0, 0, rfl, rfl, Nat.le_refl _, fun hi => absurd hi (by omega)⟩
      | sl sz vs k1 k2 k3 k4 k5 k6 k7 k8 =>
        rename_i b o len cap
        subst hes
        rw [List.length_map] at k2
        refine ⟨_, len, cap, rfl, k2, k3, fun h0 => ⟨b, o, rfl, hok _ (k1 (by
          intro hnil
          have : l = [] := by simpa using hnil
          rw [this] at k2; simp at k2; omega)), fun i hi => ?_⟩⟩
        have e : (l.map eS).getD i [] = [.str (bstr (l.getD i []))] := by
          rw [List.getD_eq_getElem?_getD, List.getElem?_map, List.getD_eq_getElem?_getD, List.getElem?_eq_getElem (by omega)]
          exact hf _
        have h6 := k6 i hi
        rw [e] at h6
        have h6 : 1 = sz := h6
        subst h6
        have h7 := k7 i 0 hi (by omega)
        have h8 := k8 i 0 hi (by omega)
        rw [e] at h8
        have h8 := relD_str h8
        rw [h8] at h7
        simpa using h7
  obtain ⟨a, len, cap, rfl, hlen, hcap, hcs⟩ := main
  have fin : Calls prog 92 #[.slice a len cap, .string (bstr sep)] W fun e w' => e = .returned (.string (bstr r)) ∧ Below W.heap.size W w' := by
    match l, h, hlen, hcs with
    | [], h, hlen, _ =>
      cases h
      have : len = 0 := by rw [← hlen]; rfl
      subst this
      exact join_none W a cap sep
    | [x], h, hlen, hcs =>
      cases h
      have : len = 1 := by rw [← hlen]; rfl
      subst this
      obtain ⟨b, o, rfl, _, hc⟩ := hcs (by omega)
      exact join_one W b o cap _ sep (hc 0 (by omega))
    | x :: y :: t, h, hlen, hcs =>
      obtain ⟨hg, h⟩ := grd_some (show grd _ _ = some r from h)
      cases h
      have h0 : 0 < len := by rw [← hlen, List.length_cons]; omega
      obtain ⟨b, o, rfl, hbl, hc⟩ := hcs h0
      have hB : ∀ k, ((x :: y :: t).getD k []).length ≤ 10000 := fun k => by
        rw [List.getD_eq_getElem?_getD]
        cases he : (x :: y :: t)[k]? with
        | none => exact Nat.zero_le _
        | some z => exact hg.2.2.1 z (List.mem_of_getElem? he)
      have := join_many W b o cap (x :: y :: t) x (y :: t) sep rfl (by simp) (by have := hg.1; simp only [List.length_cons]; omega) (by rw [hlen]; exact hcap) hbl hg.2.1 hB hg.2.2.2 (fun k hk => hc k (by rw [← hlen]; exact hk))
      rw [hlen] at this
      exact this
  refine fin.mono ?_
  rintro e w' ⟨rfl, bel⟩
  exact ⟨_, rfl, bel, fun hb H ok => mk_str _⟩
end Go.Proofs.YtdgkahieegcmeaaDoor.AWN

namespace Go.Proofs.YtdgkahieegcmeaaDoor.AWN
open Go Go.RowKit Go.Proofs.Tryd
def absM (x : Nat) : Nat := if isnan .f32 x then qnan .f32 else canon .f32 (ibits .andNot .u32 (x : Int) (2147483648 : Int)).toNat
theorem run_bits (b : Nat) (w : World) : (callFunc 62 #[.float .f32 b]).run prog w = .ok (.value (.int .u32 b)) w := by
  rw [run_callFunc_extern (e := Extern.MathFloatBits.float32bits) Tryd.func62 rfl rfl (by kernel_rfl) (by kernel_rfl)]
  rfl
theorem run_frombits (z : Int) (w : World) : (callFunc 60 #[.int .u32 z]).run prog w = .ok (.value (.float .f32 z.toNat)) w := by
  rw [run_callFunc_extern (e := Extern.MathFloatBits.float32frombits) Tryd.func60 rfl rfl (by kernel_rfl) (by kernel_rfl)]
  rfl
theorem abs_walk (W : World) (b : Nat) : Calls prog 72 #[.float .f32 b] W fun e w' => e = .returned (.float .f32 (ibits .andNot .u32 (b : Int) (2147483648 : Int)).toNat) ∧ Below W.heap.size W w' := by
  have h1 := run_bits
  have h2 := run_frombits
  go_enter Tryd.func72, Tryd.ntmps72
  go_wp2
  all_goals (go_ret; exact ⟨rfl, Below.refl _ _⟩)
theorem clr_word {b : Nat} (h : b < 4294967296) : ibits .andNot .u32 (b : Int) (2147483648 : Int) = ((b % 2147483648 : Nat) : Int) := by
  have hb : (BitVec.ofInt 32 (b : Int)).toNat = b := by
    rw [BitVec.ofInt_natCast, BitVec.toNat_ofNat]; exact Nat.mod_eq_of_lt h
  unfold ibits
  have e : (BitVec.ofInt 32 (b : Int) &&& ~~~ BitVec.ofInt 32 (2147483648 : Int)).toNat = b % 2147483648 := by
    rw [BitVec.toNat_and, hb, show (~~~ BitVec.ofInt 32 (2147483648 : Int)).toNat = 2 ^ 31 - 1 by decide, Nat.and_two_pow_sub_one_eq_mod]
  show IntKind.wrap .u32 ((BitVec.ofInt 32 (b : Int) &&& ~~~ BitVec.ofInt 32 (2147483648 : Int)).toNat : Int) = _
  rw [e]
  simp only [IntKind.wrap, IntKind.signed, IntKind.bits]
  simp
  omega
theorem isnan_clr (b : Nat) : isnan .f32 (b % 2147483648) = isnan .f32 b := by
  have hsw : FloatKind.f32.format.signWeight = 2147483648 := by decide
  unfold isnan Ieee.Format.read
  simp only [hsw, Nat.mod_mod]
  split
  · rfl
  · split
    · rfl
    · split <;> rfl
theorem abs_does {fr : Bool} (x : Nat) : ACall prog fr 72 [.d (.fl .f32 x)] [] (fun v o n => v = .d (.fl .f32 (absM x)) ∧ o = [] ∧ n = []) := by
  refine acall_below fun W hb H ok vals hl hok hr => ?_
  obtain ⟨v, rfl, h1⟩ := one_args hr
  obtain ⟨b, rfl, h2, h3⟩ := rel_fl h1
  have h3' : b < 4294967296 := h3
  refine (abs_walk W b).mono ?_
  rintro e w' ⟨rfl, bel⟩
  refine ⟨_, rfl, bel, fun hb H ok => mk_fl ?_ ?_⟩
  · rw [clr_word h3', Int.toNat_natCast]
    unfold absM
    have hn : isnan .f32 x = isnan .f32 b := by rw [← h2, isnan_canon]
    cases hx : isnan .f32 x with
    | true => exact canon_of_nan (by rw [isnan_clr, ← hn, hx])
    | false =>
      have : x = b := by rw [← h2]; exact canon_of_not (by rw [← hn, hx])
      subst this
      rw [if_neg (by decide), clr_word h3', Int.toNat_natCast]
  · rw [clr_word h3', Int.toNat_natCast]
    show _ < 4294967296
    omega
end Go.Proofs.YtdgkahieegcmeaaDoor.AWN
