/- The types of the program, as the calculus reads them. -/
import Derived.Test.YtmllgpkgjniomaaProg
import Derived.KernelRfl
import Derived.Test.YtmllgpkgjniomaaCalcB
import Derived.Test.YtmllgpkgjniomaaCalcC
import Derived.Shelf.Strings.Builder1
import Derived.Lib.Builder
import Derived.Lib.AppendStr
import Derived.BigCall
import Derived.Lib.OthersKept
import Derived.Lib.OwnKind
import Derived.LoopTactic
import Derived.Deep.RegionHeld3
set_option linter.unusedVariables false
set_option linter.unusedSimpArgs false
set_option linter.unusedSectionVars false
namespace Go.Proofs.Ytmllgpkgjniomaa.AWN
open Go Go.Proofs.Try
def TiOk (t:TypeId) (td:TD):Prop:=prog.underlying t = some td.desc∧∃ i,prog.info? t = some i∧i.size = td.size∧i.bytes = td.bytes∧i.zero = some td.zero
theorem tiOk {t:TypeId} {td:TD} (h:prog.underlying t = some td.desc) (h':(prog.info? t).map (fun i=>(i.size,i.bytes,i.zero)) = some (td.size,td.bytes,some td.zero)):TiOk t td:=by
  refine ⟨h,?_⟩
  cases hi:prog.info? t with
  | none=>rw [hi] at h';cases h'
  | some i =>
    rw [hi] at h'
    simp only [Option.map_some,Option.some.injEq,Prod.mk.injEq] at h'
    exact ⟨i,rfl,h'.1,h'.2.1,h'.2.2⟩

theorem ti1:(prog.info? 1).map (fun i=>(i.size,i.bytes,i.zero)) = some (1,8,some (.nilFunc)):=by kernel_rfl
theorem ti2:(prog.info? 2).map (fun i=>(i.size,i.bytes,i.zero)) = some (1,8,some (.int .i64 0)):=by kernel_rfl
theorem ti3:(prog.info? 3).map (fun i=>(i.size,i.bytes,i.zero)) = some (1,8,some (.int .i64 0)):=by kernel_rfl
theorem ti4:(prog.info? 4).map (fun i=>(i.size,i.bytes,i.zero)) = some (1,1,some (.bool false)):=by kernel_rfl
theorem ti5:(prog.info? 5).map (fun i=>(i.size,i.bytes,i.zero)) = some (1,1,some (.int .u8 0)):=by kernel_rfl
theorem ti6:(prog.info? 6).map (fun i=>(i.size,i.bytes,i.zero)) = some (1,1,some (.int .u8 0)):=by kernel_rfl
theorem ti7:(prog.info? 7).map (fun i=>(i.size,i.bytes,i.zero)) = some (4,24,some (.agg #[.int .i64 0,.int .i64 0,.bool false,.int .u8 0])):=by kernel_rfl
theorem ti8:(prog.info? 8).map (fun i=>(i.size,i.bytes,i.zero)) = some (4,24,some (.agg #[.int .i64 0,.int .i64 0,.bool false,.int .u8 0])):=by kernel_rfl
theorem ti9:(prog.info? 9).map (fun i=>(i.size,i.bytes,i.zero)) = some (1,16,some (.string ⟨#[]⟩)):=by kernel_rfl
theorem ti10:(prog.info? 10).map (fun i=>(i.size,i.bytes,i.zero)) = some (1,16,some (.string ⟨#[]⟩)):=by kernel_rfl
theorem ti12:(prog.info? 12).map (fun i=>(i.size,i.bytes,i.zero)) = some (1,8,some (.int .u64 0)):=by kernel_rfl
theorem ti13:(prog.info? 13).map (fun i=>(i.size,i.bytes,i.zero)) = some (2,24,some (.agg #[.string ⟨#[]⟩,.int .u64 0])):=by kernel_rfl
theorem ti14:(prog.info? 14).map (fun i=>(i.size,i.bytes,i.zero)) = some (2,24,some (.agg #[.string ⟨#[]⟩,.int .u64 0])):=by kernel_rfl
theorem ti15:(prog.info? 15).map (fun i=>(i.size,i.bytes,i.zero)) = some (1,8,some (.pointer none)):=by kernel_rfl
theorem ti16:(prog.info? 16).map (fun i=>(i.size,i.bytes,i.zero)) = some (1,8,some (.pointer none)):=by kernel_rfl
theorem ti17:(prog.info? 17).map (fun i=>(i.size,i.bytes,i.zero)) = some (1,8,some (.pointer none)):=by kernel_rfl
theorem ti18:(prog.info? 18).map (fun i=>(i.size,i.bytes,i.zero)) = some (1,8,some (.agg #[.pointer none])):=by kernel_rfl
theorem ti19:(prog.info? 19).map (fun i=>(i.size,i.bytes,i.zero)) = some (1,8,some (.agg #[.pointer none])):=by kernel_rfl
theorem ti21:(prog.info? 21).map (fun i=>(i.size,i.bytes,i.zero)) = some (1,4,some (.int .i32 0)):=by kernel_rfl
theorem ti22:(prog.info? 22).map (fun i=>(i.size,i.bytes,i.zero)) = some (1,8,some (.complex .f32 0 0)):=by kernel_rfl
theorem ti24:(prog.info? 24).map (fun i=>(i.size,i.bytes,i.zero)) = some (3,24,some (.agg #[.complex .f32 0 0,.complex .f32 0 0,.complex .f32 0 0])):=by kernel_rfl
theorem ti25:(prog.info? 25).map (fun i=>(i.size,i.bytes,i.zero)) = some (1,24,some (.slice none 0 0)):=by kernel_rfl
theorem ti26:(prog.info? 26).map (fun i=>(i.size,i.bytes,i.zero)) = some (4,48,some (.agg #[.complex .f32 0 0,.complex .f32 0 0,.complex .f32 0 0,.slice none 0 0])):=by kernel_rfl
theorem ti27:(prog.info? 27).map (fun i=>(i.size,i.bytes,i.zero)) = some (4,48,some (.agg #[.complex .f32 0 0,.complex .f32 0 0,.complex .f32 0 0,.slice none 0 0])):=by kernel_rfl
theorem ti28:(prog.info? 28).map (fun i=>(i.size,i.bytes,i.zero)) = some (1,24,some (.slice none 0 0)):=by kernel_rfl
theorem ti29:(prog.info? 29).map (fun i=>(i.size,i.bytes,i.zero)) = some (5,72,some (.agg #[.complex .f32 0 0,.complex .f32 0 0,.complex .f32 0 0,.slice none 0 0,.slice none 0 0])):=by kernel_rfl
theorem ti30:(prog.info? 30).map (fun i=>(i.size,i.bytes,i.zero)) = some (5,72,some (.agg #[.complex .f32 0 0,.complex .f32 0 0,.complex .f32 0 0,.slice none 0 0,.slice none 0 0])):=by kernel_rfl
theorem ti32:(prog.info? 32).map (fun i=>(i.size,i.bytes,i.zero)) = some (1,8,some (.nilFunc)):=by kernel_rfl
theorem ti33:(prog.info? 33).map (fun i=>(i.size,i.bytes,i.zero)) = some (1,8,some (.nilFunc)):=by kernel_rfl
theorem ti35:(prog.info? 35).map (fun i=>(i.size,i.bytes,i.zero)) = some (1,8,some (.nilFunc)):=by kernel_rfl
theorem ti36:(prog.info? 36).map (fun i=>(i.size,i.bytes,i.zero)) = some (1,24,some (.slice none 0 0)):=by kernel_rfl
theorem ti37:(prog.info? 37).map (fun i=>(i.size,i.bytes,i.zero)) = some (6,96,some (.agg #[.complex .f32 0 0,.complex .f32 0 0,.complex .f32 0 0,.slice none 0 0,.slice none 0 0,.slice none 0 0])):=by kernel_rfl
theorem ti38:(prog.info? 38).map (fun i=>(i.size,i.bytes,i.zero)) = some (6,96,some (.agg #[.complex .f32 0 0,.complex .f32 0 0,.complex .f32 0 0,.slice none 0 0,.slice none 0 0,.slice none 0 0])):=by kernel_rfl
theorem ti42:(prog.info? 42).map (fun i=>(i.size,i.bytes,i.zero)) = some (1,8,some (.nilFunc)):=by kernel_rfl
theorem ti45:(prog.info? 45).map (fun i=>(i.size,i.bytes,i.zero)) = some (1,24,some (.slice none 0 0)):=by kernel_rfl
theorem ti47:(prog.info? 47).map (fun i=>(i.size,i.bytes,i.zero)) = some (1,8,some (.nilFunc)):=by kernel_rfl
theorem ti49:(prog.info? 49).map (fun i=>(i.size,i.bytes,i.zero)) = some (1,8,some (.nilFunc)):=by kernel_rfl
theorem ti51:(prog.info? 51).map (fun i=>(i.size,i.bytes,i.zero)) = some (1,4,some (.float .f32 0)):=by kernel_rfl
theorem ti52:(prog.info? 52).map (fun i=>(i.size,i.bytes,i.zero)) = some (1,24,some (.slice none 0 0)):=by kernel_rfl
theorem ti54:(prog.info? 54).map (fun i=>(i.size,i.bytes,i.zero)) = some (1,8,some (.nilFunc)):=by kernel_rfl
theorem ti56:(prog.info? 56).map (fun i=>(i.size,i.bytes,i.zero)) = some (1,8,some (.nilFunc)):=by kernel_rfl
theorem ti58:(prog.info? 58).map (fun i=>(i.size,i.bytes,i.zero)) = some (1,8,some (.nilFunc)):=by kernel_rfl
theorem ti59:(prog.info? 59).map (fun i=>(i.size,i.bytes,i.zero)) = some (1,8,some (.nilFunc)):=by kernel_rfl
theorem ti60:(prog.info? 60).map (fun i=>(i.size,i.bytes,i.zero)) = some (1,24,some (.slice none 0 0)):=by kernel_rfl
theorem ti61:(prog.info? 61).map (fun i=>(i.size,i.bytes,i.zero)) = some (2,48,some (.agg #[.slice none 0 0,.slice none 0 0])):=by kernel_rfl
theorem ti62:(prog.info? 62).map (fun i=>(i.size,i.bytes,i.zero)) = some (2,48,some (.agg #[.slice none 0 0,.slice none 0 0])):=by kernel_rfl
theorem ti63:(prog.info? 63).map (fun i=>(i.size,i.bytes,i.zero)) = some (3,56,some (.agg #[.int .i64 0,.slice none 0 0,.slice none 0 0])):=by kernel_rfl
theorem ti64:(prog.info? 64).map (fun i=>(i.size,i.bytes,i.zero)) = some (3,56,some (.agg #[.int .i64 0,.slice none 0 0,.slice none 0 0])):=by kernel_rfl
theorem ti68:(prog.info? 68).map (fun i=>(i.size,i.bytes,i.zero)) = some (1,24,some (.slice none 0 0)):=by kernel_rfl
theorem ti70:(prog.info? 70).map (fun i=>(i.size,i.bytes,i.zero)) = some (1,8,some (.nilFunc)):=by kernel_rfl
theorem ti75:(prog.info? 75).map (fun i=>(i.size,i.bytes,i.zero)) = some (1,8,some (.nilFunc)):=by kernel_rfl
theorem ti80:(prog.info? 80).map (fun i=>(i.size,i.bytes,i.zero)) = some (1,24,some (.slice none 0 0)):=by kernel_rfl
theorem ti82:(prog.info? 82).map (fun i=>(i.size,i.bytes,i.zero)) = some (4,64,some (.agg #[.slice none 0 0,.slice none 0 0,.int .i64 0,.bool false])):=by kernel_rfl
theorem ti84:(prog.info? 84).map (fun i=>(i.size,i.bytes,i.zero)) = some (1,8,some (.nilFunc)):=by kernel_rfl
theorem ti86:(prog.info? 86).map (fun i=>(i.size,i.bytes,i.zero)) = some (1,8,some (.nilFunc)):=by kernel_rfl
theorem ti87:(prog.info? 87).map (fun i=>(i.size,i.bytes,i.zero)) = some (1,8,some (.nilFunc)):=by kernel_rfl
theorem ti88:(prog.info? 88).map (fun i=>(i.size,i.bytes,i.zero)) = some (1,8,some (.nilFunc)):=by kernel_rfl
theorem ti89:(prog.info? 89).map (fun i=>(i.size,i.bytes,i.zero)) = some (1,8,some (.nilFunc)):=by kernel_rfl
theorem ti91:(prog.info? 91).map (fun i=>(i.size,i.bytes,i.zero)) = some (1,8,some (.nilFunc)):=by kernel_rfl
theorem ti96:(prog.info? 96).map (fun i=>(i.size,i.bytes,i.zero)) = some (1,8,some (.pointer none)):=by kernel_rfl
theorem ti99:(prog.info? 99).map (fun i=>(i.size,i.bytes,i.zero)) = some (1,8,some (.nilFunc)):=by kernel_rfl
theorem ti103:(prog.info? 103).map (fun i=>(i.size,i.bytes,i.zero)) = some (1,8,some (.nilFunc)):=by kernel_rfl
theorem ti108:(prog.info? 108).map (fun i=>(i.size,i.bytes,i.zero)) = some (1,8,some (.nilFunc)):=by kernel_rfl
theorem ti114:(prog.info? 114).map (fun i=>(i.size,i.bytes,i.zero)) = some (1,8,some (.pointer none)):=by kernel_rfl
theorem ti116:(prog.info? 116).map (fun i=>(i.size,i.bytes,i.zero)) = some (3,32,some (.agg #[.string ⟨#[]⟩,.int .i64 0,.bool false])):=by kernel_rfl
theorem ti120:(prog.info? 120).map (fun i=>(i.size,i.bytes,i.zero)) = some (8,64,some (.agg #[.int .i64 0,.complex .f32 0 0,.complex .f32 0 0,.int .i64 0,.complex .f32 0 0,.complex .f32 0 0,.complex .f32 0 0,.int .i64 0])):=by kernel_rfl
theorem ti123:(prog.info? 123).map (fun i=>(i.size,i.bytes,i.zero)) = some (5,40,some (.agg #[.int .i64 0,.int .i64 0,.complex .f32 0 0,.complex .f32 0 0,.int .i64 0])):=by kernel_rfl
theorem ti126:(prog.info? 126).map (fun i=>(i.size,i.bytes,i.zero)) = some (1,8,some (.pointer none)):=by kernel_rfl
theorem ti129:(prog.info? 129).map (fun i=>(i.size,i.bytes,i.zero)) = some (3,32,some (.agg #[.string ⟨#[]⟩,.int .i64 0,.bool false])):=by kernel_rfl
theorem ti134:(prog.info? 134).map (fun i=>(i.size,i.bytes,i.zero)) = some (1,8,some (.nilFunc)):=by kernel_rfl
theorem ti135:(prog.info? 135).map (fun i=>(i.size,i.bytes,i.zero)) = some (1,8,some (.nilFunc)):=by kernel_rfl
theorem ti137:(prog.info? 137).map (fun i=>(i.size,i.bytes,i.zero)) = some (1,16,some (.complex .f64 0 0)):=by kernel_rfl
theorem ti138:(prog.info? 138).map (fun i=>(i.size,i.bytes,i.zero)) = some (1,8,some (.float .f64 0)):=by kernel_rfl
theorem ti140:(prog.info? 140).map (fun i=>(i.size,i.bytes,i.zero)) = some (1,8,some (.pointer none)):=by kernel_rfl
theorem ti143:(prog.info? 143).map (fun i=>(i.size,i.bytes,i.zero)) = some (1,8,some (.int .u64 0)):=by kernel_rfl
theorem ti144:(prog.info? 144).map (fun i=>(i.size,i.bytes,i.zero)) = some (1,8,some (.nilFunc)):=by kernel_rfl
theorem ti146:(prog.info? 146).map (fun i=>(i.size,i.bytes,i.zero)) = some (1,8,some (.int .u64 0)):=by kernel_rfl
theorem ti147:(prog.info? 147).map (fun i=>(i.size,i.bytes,i.zero)) = some (3,40,some (.agg #[.slice none 0 0,.int .i64 0,.int .u64 0])):=by kernel_rfl
theorem ti151:(prog.info? 151).map (fun i=>(i.size,i.bytes,i.zero)) = some (1,8,some (.nilFunc)):=by kernel_rfl
theorem ti153:(prog.info? 153).map (fun i=>(i.size,i.bytes,i.zero)) = some (1,8,some (.pointer none)):=by kernel_rfl
theorem ti154:(prog.info? 154).map (fun i=>(i.size,i.bytes,i.zero)) = some (1,8,some (.nilFunc)):=by kernel_rfl
theorem ti159:(prog.info? 159).map (fun i=>(i.size,i.bytes,i.zero)) = some (1,8,some (.nilFunc)):=by kernel_rfl
theorem ti164:(prog.info? 164).map (fun i=>(i.size,i.bytes,i.zero)) = some (1,8,some (.nilFunc)):=by kernel_rfl
theorem ti166:(prog.info? 166).map (fun i=>(i.size,i.bytes,i.zero)) = some (1,8,some (.pointer none)):=by kernel_rfl
theorem ti169:(prog.info? 169).map (fun i=>(i.size,i.bytes,i.zero)) = some (1,8,some (.pointer none)):=by kernel_rfl
theorem ti170:(prog.info? 170).map (fun i=>(i.size,i.bytes,i.zero)) = some (1,8,some (.nilFunc)):=by kernel_rfl
theorem ti171:(prog.info? 171).map (fun i=>(i.size,i.bytes,i.zero)) = some (1,8,some (.nilFunc)):=by kernel_rfl
theorem ti172:(prog.info? 172).map (fun i=>(i.size,i.bytes,i.zero)) = some (1,8,some (.pointer none)):=by kernel_rfl
theorem ti173:(prog.info? 173).map (fun i=>(i.size,i.bytes,i.zero)) = some (2,32,some (.agg #[.pointer none,.slice none 0 0])):=by kernel_rfl
theorem ti174:(prog.info? 174).map (fun i=>(i.size,i.bytes,i.zero)) = some (2,32,some (.agg #[.pointer none,.slice none 0 0])):=by kernel_rfl
theorem ti175:(prog.info? 175).map (fun i=>(i.size,i.bytes,i.zero)) = some (1,24,some (.slice none 0 0)):=by kernel_rfl
theorem ti180:(prog.info? 180).map (fun i=>(i.size,i.bytes,i.zero)) = some (1,8,some (.nilFunc)):=by kernel_rfl
theorem ti192:(prog.info? 192).map (fun i=>(i.size,i.bytes,i.zero)) = some (1,8,some (.int .i64 0)):=by kernel_rfl
theorem ti200:(prog.info? 200).map (fun i=>(i.size,i.bytes,i.zero)) = some (1,4,some (.int .u32 0)):=by kernel_rfl
theorem ti207:(prog.info? 207).map (fun i=>(i.size,i.bytes,i.zero)) = some (1,8,some (.pointer none)):=by kernel_rfl
theorem ti214:(prog.info? 214).map (fun i=>(i.size,i.bytes,i.zero)) = some (1,8,some (.nilFunc)):=by kernel_rfl
theorem ti217:(prog.info? 217).map (fun i=>(i.size,i.bytes,i.zero)) = some (1,8,some (.nilFunc)):=by kernel_rfl
theorem ti218:(prog.info? 218).map (fun i=>(i.size,i.bytes,i.zero)) = some (1,8,some (.nilFunc)):=by kernel_rfl
theorem ti233:(prog.info? 233).map (fun i=>(i.size,i.bytes,i.zero)) = some (4,40,some (.agg #[.pointer none,.pointer none,.pointer none,.string ⟨#[]⟩])):=by kernel_rfl
theorem ti238:(prog.info? 238).map (fun i=>(i.size,i.bytes,i.zero)) = some (1,1,some (.int .u8 0)):=by kernel_rfl
theorem ti239:(prog.info? 239).map (fun i=>(i.size,i.bytes,i.zero)) = some (1,1,some (.int .u8 0)):=by kernel_rfl
theorem ti240:(prog.info? 240).map (fun i=>(i.size,i.bytes,i.zero)) = some (1,8,some (.nilFunc)):=by kernel_rfl
theorem ti241:(prog.info? 241).map (fun i=>(i.size,i.bytes,i.zero)) = some (1,4,some (.int .i32 0)):=by kernel_rfl
theorem ti242:(prog.info? 242).map (fun i=>(i.size,i.bytes,i.zero)) = some (1,4,some (.int .i32 0)):=by kernel_rfl
theorem ti244:(prog.info? 244).map (fun i=>(i.size,i.bytes,i.zero)) = some (11,48,some (.agg #[.int .u64 0,.int .u64 0,.int .u32 0,.int .u8 0,.int .u8 0,.int .u8 0,.int .u8 0,.nilFunc,.pointer none,.int .i32 0,.int .i32 0])):=by kernel_rfl
def td1:TD:=⟨(TypeDesc.func #[] #[] false),1,8,.nilFunc⟩
def td2:TD:=⟨(TypeDesc.int IntKind.i64),1,8,.int .i64 0⟩
def td3:TD:=⟨(TypeDesc.int IntKind.i64),1,8,.int .i64 0⟩
def td4:TD:=⟨TypeDesc.bool,1,1,.bool false⟩
def td5:TD:=⟨(TypeDesc.int IntKind.u8),1,1,.int .u8 0⟩
def td6:TD:=⟨(TypeDesc.int IntKind.u8),1,1,.int .u8 0⟩
def td7:TD:=⟨(TypeDesc.struct #[{ name:= "x",type:=2,offset:=0,embedded:=false,tag:= "",pkgPath:= "runtime",byteOffset:=0 },{ name:= "y",type:=3,offset:=1,embedded:=false,tag:= "",pkgPath:= "runtime",byteOffset:=8 },{ name:= "signed",type:=4,offset:=2,embedded:=false,tag:= "",pkgPath:= "runtime",byteOffset:=16 },{ name:= "code",type:=6,offset:=3,embedded:=false,tag:= "",pkgPath:= "runtime",byteOffset:=17 }]),4,24,.agg #[.int .i64 0,.int .i64 0,.bool false,.int .u8 0]⟩
def td8:TD:=⟨(TypeDesc.struct #[{ name:= "x",type:=2,offset:=0,embedded:=false,tag:= "",pkgPath:= "runtime",byteOffset:=0 },{ name:= "y",type:=3,offset:=1,embedded:=false,tag:= "",pkgPath:= "runtime",byteOffset:=8 },{ name:= "signed",type:=4,offset:=2,embedded:=false,tag:= "",pkgPath:= "runtime",byteOffset:=16 },{ name:= "code",type:=6,offset:=3,embedded:=false,tag:= "",pkgPath:= "runtime",byteOffset:=17 }]),4,24,.agg #[.int .i64 0,.int .i64 0,.bool false,.int .u8 0]⟩
def td9:TD:=⟨TypeDesc.string,1,16,.string ⟨#[]⟩⟩
def td10:TD:=⟨TypeDesc.string,1,16,.string ⟨#[]⟩⟩
def td12:TD:=⟨(TypeDesc.int IntKind.u64),1,8,.int .u64 0⟩
def td13:TD:=⟨(TypeDesc.struct #[{ name:= "msg",type:=9,offset:=0,embedded:=false,tag:= "",pkgPath:= "runtime",byteOffset:=0 },{ name:= "addr",type:=12,offset:=1,embedded:=false,tag:= "",pkgPath:= "runtime",byteOffset:=16 }]),2,24,.agg #[.string ⟨#[]⟩,.int .u64 0]⟩
def td14:TD:=⟨(TypeDesc.struct #[{ name:= "msg",type:=9,offset:=0,embedded:=false,tag:= "",pkgPath:= "runtime",byteOffset:=0 },{ name:= "addr",type:=12,offset:=1,embedded:=false,tag:= "",pkgPath:= "runtime",byteOffset:=16 }]),2,24,.agg #[.string ⟨#[]⟩,.int .u64 0]⟩
def td15:TD:=⟨(TypeDesc.pointer 233),1,8,.pointer none⟩
def td16:TD:=⟨(TypeDesc.pointer 236),1,8,.pointer none⟩
def td17:TD:=⟨(TypeDesc.pointer 244),1,8,.pointer none⟩
def td18:TD:=⟨(TypeDesc.struct #[{ name:= "typ",type:=17,offset:=0,embedded:=false,tag:= "",pkgPath:= "internal/runtime/maps",byteOffset:=0 }]),1,8,.agg #[.pointer none]⟩
def td19:TD:=⟨(TypeDesc.struct #[{ name:= "typ",type:=17,offset:=0,embedded:=false,tag:= "",pkgPath:= "internal/runtime/maps",byteOffset:=0 }]),1,8,.agg #[.pointer none]⟩
def td21:TD:=⟨(TypeDesc.int IntKind.i32),1,4,.int .i32 0⟩
def td22:TD:=⟨(TypeDesc.complex FloatKind.f32),1,8,.complex .f32 0 0⟩
def td24:TD:=⟨(TypeDesc.struct #[{ name:= "A",type:=22,offset:=0,embedded:=false,tag:= "",pkgPath:= "",byteOffset:=0 },{ name:= "B",type:=22,offset:=1,embedded:=false,tag:= "",pkgPath:= "",byteOffset:=8 },{ name:= "C",type:=22,offset:=2,embedded:=false,tag:= "",pkgPath:= "",byteOffset:=16 }]),3,24,.agg #[.complex .f32 0 0,.complex .f32 0 0,.complex .f32 0 0]⟩
def td25:TD:=⟨(TypeDesc.slice 120),1,24,.slice none 0 0⟩
def td26:TD:=⟨(TypeDesc.struct #[{ name:= "Source",type:=24,offset:=0,embedded:=false,tag:= "",pkgPath:= "",byteOffset:=0 },{ name:= "Buses",type:=25,offset:=3,embedded:=false,tag:= "",pkgPath:= "",byteOffset:=24 }]),4,48,.agg #[.complex .f32 0 0,.complex .f32 0 0,.complex .f32 0 0,.slice none 0 0]⟩
def td27:TD:=⟨(TypeDesc.struct #[{ name:= "Source",type:=24,offset:=0,embedded:=false,tag:= "",pkgPath:= "",byteOffset:=0 },{ name:= "Buses",type:=25,offset:=3,embedded:=false,tag:= "",pkgPath:= "",byteOffset:=24 }]),4,48,.agg #[.complex .f32 0 0,.complex .f32 0 0,.complex .f32 0 0,.slice none 0 0]⟩
def td28:TD:=⟨(TypeDesc.slice 123),1,24,.slice none 0 0⟩
def td29:TD:=⟨(TypeDesc.struct #[{ name:= "Feeder",type:=27,offset:=0,embedded:=false,tag:= "",pkgPath:= "",byteOffset:=0 },{ name:= "Ties",type:=28,offset:=4,embedded:=false,tag:= "",pkgPath:= "",byteOffset:=48 }]),5,72,.agg #[.complex .f32 0 0,.complex .f32 0 0,.complex .f32 0 0,.slice none 0 0,.slice none 0 0]⟩
def td30:TD:=⟨(TypeDesc.struct #[{ name:= "Feeder",type:=27,offset:=0,embedded:=false,tag:= "",pkgPath:= "",byteOffset:=0 },{ name:= "Ties",type:=28,offset:=4,embedded:=false,tag:= "",pkgPath:= "",byteOffset:=48 }]),5,72,.agg #[.complex .f32 0 0,.complex .f32 0 0,.complex .f32 0 0,.slice none 0 0,.slice none 0 0]⟩
def td32:TD:=⟨(TypeDesc.func #[9] #[30,4] false),1,8,.nilFunc⟩
def td33:TD:=⟨(TypeDesc.func #[30,30] #[4] false),1,8,.nilFunc⟩
def td35:TD:=⟨(TypeDesc.func #[9] #[4] false),1,8,.nilFunc⟩
def td36:TD:=⟨(TypeDesc.slice 82),1,24,.slice none 0 0⟩
def td37:TD:=⟨(TypeDesc.struct #[{ name:= "Grid",type:=30,offset:=0,embedded:=false,tag:= "",pkgPath:= "",byteOffset:=0 },{ name:= "Flows",type:=36,offset:=5,embedded:=false,tag:= "",pkgPath:= "",byteOffset:=72 }]),6,96,.agg #[.complex .f32 0 0,.complex .f32 0 0,.complex .f32 0 0,.slice none 0 0,.slice none 0 0,.slice none 0 0]⟩
def td38:TD:=⟨(TypeDesc.struct #[{ name:= "Grid",type:=30,offset:=0,embedded:=false,tag:= "",pkgPath:= "",byteOffset:=0 },{ name:= "Flows",type:=36,offset:=5,embedded:=false,tag:= "",pkgPath:= "",byteOffset:=72 }]),6,96,.agg #[.complex .f32 0 0,.complex .f32 0 0,.complex .f32 0 0,.slice none 0 0,.slice none 0 0,.slice none 0 0]⟩
def td42:TD:=⟨(TypeDesc.func #[38,3] #[3] false),1,8,.nilFunc⟩
def td45:TD:=⟨(TypeDesc.slice 5),1,24,.slice none 0 0⟩
def td47:TD:=⟨(TypeDesc.func #[45] #[27] false),1,8,.nilFunc⟩
def td49:TD:=⟨(TypeDesc.func #[45,27] #[48] false),1,8,.nilFunc⟩
def td51:TD:=⟨(TypeDesc.float FloatKind.f32),1,4,.float .f32 0⟩
def td52:TD:=⟨(TypeDesc.slice 2),1,24,.slice none 0 0⟩
def td54:TD:=⟨(TypeDesc.func #[27,48,2] #[52,4] false),1,8,.nilFunc⟩
def td56:TD:=⟨(TypeDesc.func #[27,48,2,51] #[2,51,4] false),1,8,.nilFunc⟩
def td58:TD:=⟨(TypeDesc.func #[27,48] #[4] false),1,8,.nilFunc⟩
def td59:TD:=⟨(TypeDesc.func #[52,2] #[4] false),1,8,.nilFunc⟩
def td60:TD:=⟨(TypeDesc.slice 51),1,24,.slice none 0 0⟩
def td61:TD:=⟨(TypeDesc.struct #[{ name:= "Currents",type:=60,offset:=0,embedded:=false,tag:= "",pkgPath:= "",byteOffset:=0 },{ name:= "Times",type:=60,offset:=1,embedded:=false,tag:= "",pkgPath:= "",byteOffset:=24 }]),2,48,.agg #[.slice none 0 0,.slice none 0 0]⟩
def td62:TD:=⟨(TypeDesc.struct #[{ name:= "Currents",type:=60,offset:=0,embedded:=false,tag:= "",pkgPath:= "",byteOffset:=0 },{ name:= "Times",type:=60,offset:=1,embedded:=false,tag:= "",pkgPath:= "",byteOffset:=24 }]),2,48,.agg #[.slice none 0 0,.slice none 0 0]⟩
def td63:TD:=⟨(TypeDesc.struct #[{ name:= "Bus",type:=2,offset:=0,embedded:=false,tag:= "",pkgPath:= "",byteOffset:=0 },{ name:= "Curve",type:=62,offset:=1,embedded:=false,tag:= "",pkgPath:= "",byteOffset:=8 }]),3,56,.agg #[.int .i64 0,.slice none 0 0,.slice none 0 0]⟩
def td64:TD:=⟨(TypeDesc.struct #[{ name:= "Bus",type:=2,offset:=0,embedded:=false,tag:= "",pkgPath:= "",byteOffset:=0 },{ name:= "Curve",type:=62,offset:=1,embedded:=false,tag:= "",pkgPath:= "",byteOffset:=8 }]),3,56,.agg #[.int .i64 0,.slice none 0 0,.slice none 0 0]⟩
def td68:TD:=⟨(TypeDesc.slice 52),1,24,.slice none 0 0⟩
def td70:TD:=⟨(TypeDesc.func #[27,48,51,51,51,2] #[68,4] false),1,8,.nilFunc⟩
def td75:TD:=⟨(TypeDesc.func #[28,28] #[4] false),1,8,.nilFunc⟩
def td80:TD:=⟨(TypeDesc.slice 24),1,24,.slice none 0 0⟩
def td82:TD:=⟨(TypeDesc.struct #[{ name:= "Voltages",type:=80,offset:=0,embedded:=false,tag:= "",pkgPath:= "",byteOffset:=0 },{ name:= "Currents",type:=80,offset:=1,embedded:=false,tag:= "",pkgPath:= "",byteOffset:=24 },{ name:= "Rounds",type:=2,offset:=2,embedded:=false,tag:= "",pkgPath:= "",byteOffset:=48 },{ name:= "Rests",type:=4,offset:=3,embedded:=false,tag:= "",pkgPath:= "",byteOffset:=56 }]),4,64,.agg #[.slice none 0 0,.slice none 0 0,.int .i64 0,.bool false]⟩
def td84:TD:=⟨(TypeDesc.func #[9,2] #[82,4] false),1,8,.nilFunc⟩
def td86:TD:=⟨(TypeDesc.func #[2,9] #[2,4] false),1,8,.nilFunc⟩
def td87:TD:=⟨(TypeDesc.func #[2,3] #[9] false),1,8,.nilFunc⟩
def td88:TD:=⟨(TypeDesc.func #[36,36] #[4] false),1,8,.nilFunc⟩
def td89:TD:=⟨(TypeDesc.func #[36,3] #[3] false),1,8,.nilFunc⟩
def td91:TD:=⟨(TypeDesc.func #[45] #[90] false),1,8,.nilFunc⟩
def td96:TD:=⟨(TypeDesc.pointer 27),1,8,.pointer none⟩
def td99:TD:=⟨(TypeDesc.func #[96,48] #[4] false),1,8,.nilFunc⟩
def td103:TD:=⟨(TypeDesc.func #[2] #[52] false),1,8,.nilFunc⟩
def td108:TD:=⟨(TypeDesc.func #[52,111] #[] false),1,8,.nilFunc⟩
def td114:TD:=⟨(TypeDesc.pointer 116),1,8,.pointer none⟩
def td116:TD:=⟨(TypeDesc.struct #[{ name:= "text",type:=9,offset:=0,embedded:=false,tag:= "",pkgPath:= "loop.example/g01212/spec",byteOffset:=0 },{ name:= "at",type:=3,offset:=1,embedded:=false,tag:= "",pkgPath:= "loop.example/g01212/spec",byteOffset:=16 },{ name:= "fine",type:=4,offset:=2,embedded:=false,tag:= "",pkgPath:= "loop.example/g01212/spec",byteOffset:=24 }]),3,32,.agg #[.string ⟨#[]⟩,.int .i64 0,.bool false]⟩
def td120:TD:=⟨(TypeDesc.struct #[{ name:= "Parent",type:=2,offset:=0,embedded:=false,tag:= "",pkgPath:= "",byteOffset:=0 },{ name:= "Own",type:=22,offset:=1,embedded:=false,tag:= "",pkgPath:= "",byteOffset:=8 },{ name:= "Shared",type:=22,offset:=2,embedded:=false,tag:= "",pkgPath:= "",byteOffset:=16 },{ name:= "Kind",type:=2,offset:=3,embedded:=false,tag:= "",pkgPath:= "",byteOffset:=24 },{ name:= "Load",type:=24,offset:=4,embedded:=false,tag:= "",pkgPath:= "",byteOffset:=32 },{ name:= "Customers",type:=2,offset:=7,embedded:=false,tag:= "",pkgPath:= "",byteOffset:=56 }]),8,64,.agg #[.int .i64 0,.complex .f32 0 0,.complex .f32 0 0,.int .i64 0,.complex .f32 0 0,.complex .f32 0 0,.complex .f32 0 0,.int .i64 0]⟩
def td123:TD:=⟨(TypeDesc.struct #[{ name:= "A",type:=2,offset:=0,embedded:=false,tag:= "",pkgPath:= "",byteOffset:=0 },{ name:= "B",type:=2,offset:=1,embedded:=false,tag:= "",pkgPath:= "",byteOffset:=8 },{ name:= "Own",type:=22,offset:=2,embedded:=false,tag:= "",pkgPath:= "",byteOffset:=16 },{ name:= "Shared",type:=22,offset:=3,embedded:=false,tag:= "",pkgPath:= "",byteOffset:=24 },{ name:= "Most",type:=2,offset:=4,embedded:=false,tag:= "",pkgPath:= "",byteOffset:=32 }]),5,40,.agg #[.int .i64 0,.int .i64 0,.complex .f32 0 0,.complex .f32 0 0,.int .i64 0]⟩
def td126:TD:=⟨(TypeDesc.pointer 30),1,8,.pointer none⟩
def td129:TD:=⟨(TypeDesc.struct #[{ name:= "s",type:=9,offset:=0,embedded:=false,tag:= "",pkgPath:= "loop.example/g01212/impl",byteOffset:=0 },{ name:= "at",type:=3,offset:=1,embedded:=false,tag:= "",pkgPath:= "loop.example/g01212/impl",byteOffset:=16 },{ name:= "short",type:=4,offset:=2,embedded:=false,tag:= "",pkgPath:= "loop.example/g01212/impl",byteOffset:=24 }]),3,32,.agg #[.string ⟨#[]⟩,.int .i64 0,.bool false]⟩
def td134:TD:=⟨(TypeDesc.func #[25,25] #[4] false),1,8,.nilFunc⟩
def td135:TD:=⟨(TypeDesc.func #[123,123] #[4] false),1,8,.nilFunc⟩
def td137:TD:=⟨(TypeDesc.complex FloatKind.f64),1,16,.complex .f64 0 0⟩
def td138:TD:=⟨(TypeDesc.float FloatKind.f64),1,8,.float .f64 0⟩
def td140:TD:=⟨(TypeDesc.pointer 82),1,8,.pointer none⟩
def td143:TD:=⟨(TypeDesc.int IntKind.u64),1,8,.int .u64 0⟩
def td144:TD:=⟨(TypeDesc.func #[82,82] #[4] false),1,8,.nilFunc⟩
def td146:TD:=⟨(TypeDesc.int IntKind.u64),1,8,.int .u64 0⟩
def td147:TD:=⟨(TypeDesc.struct #[{ name:= "code",type:=45,offset:=0,embedded:=false,tag:= "",pkgPath:= "loop.example/g01212/spec",byteOffset:=0 },{ name:= "at",type:=3,offset:=1,embedded:=false,tag:= "",pkgPath:= "loop.example/g01212/spec",byteOffset:=24 },{ name:= "seed",type:=146,offset:=2,embedded:=false,tag:= "",pkgPath:= "loop.example/g01212/spec",byteOffset:=32 }]),3,40,.agg #[.slice none 0 0,.int .i64 0,.int .u64 0]⟩
def td151:TD:=⟨(TypeDesc.func #[90,2] #[24] false),1,8,.nilFunc⟩
def td153:TD:=⟨(TypeDesc.pointer 120),1,8,.pointer none⟩
def td154:TD:=⟨(TypeDesc.func #[102] #[4] false),1,8,.nilFunc⟩
def td159:TD:=⟨(TypeDesc.func #[143] #[3] false),1,8,.nilFunc⟩
def td164:TD:=⟨(TypeDesc.func #[] #[22] false),1,8,.nilFunc⟩
def td166:TD:=⟨(TypeDesc.pointer 123),1,8,.pointer none⟩
def td169:TD:=⟨(TypeDesc.pointer 129),1,8,.pointer none⟩
def td170:TD:=⟨(TypeDesc.func #[28,171] #[4] false),1,8,.nilFunc⟩
def td171:TD:=⟨(TypeDesc.func #[123] #[4] false),1,8,.nilFunc⟩
def td172:TD:=⟨(TypeDesc.pointer 174),1,8,.pointer none⟩
def td173:TD:=⟨(TypeDesc.struct #[{ name:= "addr",type:=172,offset:=0,embedded:=false,tag:= "",pkgPath:= "strings",byteOffset:=0 },{ name:= "buf",type:=45,offset:=1,embedded:=false,tag:= "",pkgPath:= "strings",byteOffset:=8 }]),2,32,.agg #[.pointer none,.slice none 0 0]⟩
def td174:TD:=⟨(TypeDesc.struct #[{ name:= "addr",type:=172,offset:=0,embedded:=false,tag:= "",pkgPath:= "strings",byteOffset:=0 },{ name:= "buf",type:=45,offset:=1,embedded:=false,tag:= "",pkgPath:= "strings",byteOffset:=8 }]),2,32,.agg #[.pointer none,.slice none 0 0]⟩
def td175:TD:=⟨(TypeDesc.slice 9),1,24,.slice none 0 0⟩
def td180:TD:=⟨(TypeDesc.func #[175] #[] true),1,8,.nilFunc⟩
def td192:TD:=⟨(TypeDesc.int IntKind.i64),1,8,.int .i64 0⟩
def td200:TD:=⟨(TypeDesc.int IntKind.u32),1,4,.int .u32 0⟩
def td207:TD:=⟨(TypeDesc.pointer 5),1,8,.pointer none⟩
def td214:TD:=⟨(TypeDesc.func #[90] #[51] false),1,8,.nilFunc⟩
def td217:TD:=⟨(TypeDesc.func #[] #[146] false),1,8,.nilFunc⟩
def td218:TD:=⟨(TypeDesc.func #[52,3,219,111] #[3] false),1,8,.nilFunc⟩
def td233:TD:=⟨(TypeDesc.struct #[{ name:= "_interface",type:=17,offset:=0,embedded:=false,tag:= "",pkgPath:= "runtime",byteOffset:=0 },{ name:= "concrete",type:=17,offset:=1,embedded:=false,tag:= "",pkgPath:= "runtime",byteOffset:=8 },{ name:= "asserted",type:=17,offset:=2,embedded:=false,tag:= "",pkgPath:= "runtime",byteOffset:=16 },{ name:= "missingMethod",type:=9,offset:=3,embedded:=false,tag:= "",pkgPath:= "runtime",byteOffset:=24 }]),4,40,.agg #[.pointer none,.pointer none,.pointer none,.string ⟨#[]⟩]⟩
def td238:TD:=⟨(TypeDesc.int IntKind.u8),1,1,.int .u8 0⟩
def td239:TD:=⟨(TypeDesc.int IntKind.u8),1,1,.int .u8 0⟩
def td240:TD:=⟨(TypeDesc.func #[224,224] #[4] false),1,8,.nilFunc⟩
def td241:TD:=⟨(TypeDesc.int IntKind.i32),1,4,.int .i32 0⟩
def td242:TD:=⟨(TypeDesc.int IntKind.i32),1,4,.int .i32 0⟩
def td244:TD:=⟨(TypeDesc.struct #[{ name:= "Size_",type:=12,offset:=0,embedded:=false,tag:= "",pkgPath:= "",byteOffset:=0 },{ name:= "PtrBytes",type:=12,offset:=1,embedded:=false,tag:= "",pkgPath:= "",byteOffset:=8 },{ name:= "Hash",type:=200,offset:=2,embedded:=false,tag:= "",pkgPath:= "",byteOffset:=16 },{ name:= "TFlag",type:=238,offset:=3,embedded:=false,tag:= "",pkgPath:= "",byteOffset:=20 },{ name:= "Align_",type:=5,offset:=4,embedded:=false,tag:= "",pkgPath:= "",byteOffset:=21 },{ name:= "FieldAlign_",type:=5,offset:=5,embedded:=false,tag:= "",pkgPath:= "",byteOffset:=22 },{ name:= "Kind_",type:=239,offset:=6,embedded:=false,tag:= "",pkgPath:= "",byteOffset:=23 },{ name:= "Equal",type:=240,offset:=7,embedded:=false,tag:= "",pkgPath:= "",byteOffset:=24 },{ name:= "GCData",type:=207,offset:=8,embedded:=false,tag:= "",pkgPath:= "",byteOffset:=32 },{ name:= "Str",type:=241,offset:=9,embedded:=false,tag:= "",pkgPath:= "",byteOffset:=40 },{ name:= "PtrToThis",type:=242,offset:=10,embedded:=false,tag:= "",pkgPath:= "",byteOffset:=44 }]),11,48,.agg #[.int .u64 0,.int .u64 0,.int .u32 0,.int .u8 0,.int .u8 0,.int .u8 0,.int .u8 0,.nilFunc,.pointer none,.int .i32 0,.int .i32 0]⟩
inductive TT where
  | leaf
  | node (k:Nat) (v:TD) (l r:TT)
def qtb:TT→TypeId→Option TD
  | .leaf,_=>none
  | .node k v l r,t=>bif Nat.beq t k then some v else bif Nat.ble t k then qtb l t else qtb r t
def allT:TT→Prop
  | .leaf=>True
  | .node k v l r=>TiOk k v∧allT l∧allT r
theorem qp5:∀ {x:TT},allT x→qg7 prog (qtb x)
  | .leaf,_=>fun t td h=>by cases h
  | .node k v l r,h=>fun t td ht=>by
    unfold qtb at ht
    cases hk:Nat.beq t k with
    | true =>
      rw [hk] at ht
      simp only [cond_true,Option.some.injEq] at ht
      subst ht
      rw [Nat.eq_of_beq_eq_true hk]
      have h1:=h.1
      unfold TiOk at h1
      exact h1
    | false =>
      rw [hk] at ht
      cases hl:Nat.ble t k with
      | true=>rw [hl] at ht;exact qp5 h.2.1 t td ht
      | false=>rw [hl] at ht;exact qp5 h.2.2 t td ht
def tabT:TT:=(.node 82 td82 (.node 30 td30 (.node 15 td15 (.node 7 td7 (.node 4 td4 (.node 2 td2 (.node 1 td1 .leaf .leaf) (.node 3 td3 .leaf .leaf)) (.node 6 td6 (.node 5 td5 .leaf .leaf) .leaf)) (.node 12 td12 (.node 9 td9 (.node 8 td8 .leaf .leaf) (.node 10 td10 .leaf .leaf)) (.node 14 td14 (.node 13 td13 .leaf .leaf) .leaf))) (.node 24 td24 (.node 19 td19 (.node 17 td17 (.node 16 td16 .leaf .leaf) (.node 18 td18 .leaf .leaf)) (.node 22 td22 (.node 21 td21 .leaf .leaf) .leaf)) (.node 27 td27 (.node 26 td26 (.node 25 td25 .leaf .leaf) .leaf) (.node 29 td29 (.node 28 td28 .leaf .leaf) .leaf)))) (.node 54 td54 (.node 42 td42 (.node 36 td36 (.node 33 td33 (.node 32 td32 .leaf .leaf) (.node 35 td35 .leaf .leaf)) (.node 38 td38 (.node 37 td37 .leaf .leaf) .leaf)) (.node 49 td49 (.node 47 td47 (.node 45 td45 .leaf .leaf) .leaf) (.node 52 td52 (.node 51 td51 .leaf .leaf) .leaf))) (.node 63 td63 (.node 60 td60 (.node 58 td58 (.node 56 td56 .leaf .leaf) (.node 59 td59 .leaf .leaf)) (.node 62 td62 (.node 61 td61 .leaf .leaf) .leaf)) (.node 70 td70 (.node 68 td68 (.node 64 td64 .leaf .leaf) .leaf) (.node 80 td80 (.node 75 td75 .leaf .leaf) .leaf))))) (.node 153 td153 (.node 123 td123 (.node 96 td96 (.node 88 td88 (.node 86 td86 (.node 84 td84 .leaf .leaf) (.node 87 td87 .leaf .leaf)) (.node 91 td91 (.node 89 td89 .leaf .leaf) .leaf)) (.node 114 td114 (.node 103 td103 (.node 99 td99 .leaf .leaf) (.node 108 td108 .leaf .leaf)) (.node 120 td120 (.node 116 td116 .leaf .leaf) .leaf))) (.node 140 td140 (.node 135 td135 (.node 129 td129 (.node 126 td126 .leaf .leaf) (.node 134 td134 .leaf .leaf)) (.node 138 td138 (.node 137 td137 .leaf .leaf) .leaf)) (.node 146 td146 (.node 144 td144 (.node 143 td143 .leaf .leaf) .leaf) (.node 151 td151 (.node 147 td147 .leaf .leaf) .leaf)))) (.node 192 td192 (.node 171 td171 (.node 166 td166 (.node 159 td159 (.node 154 td154 .leaf .leaf) (.node 164 td164 .leaf .leaf)) (.node 170 td170 (.node 169 td169 .leaf .leaf) .leaf)) (.node 174 td174 (.node 173 td173 (.node 172 td172 .leaf .leaf) .leaf) (.node 180 td180 (.node 175 td175 .leaf .leaf) .leaf))) (.node 238 td238 (.node 217 td217 (.node 207 td207 (.node 200 td200 .leaf .leaf) (.node 214 td214 .leaf .leaf)) (.node 233 td233 (.node 218 td218 .leaf .leaf) .leaf)) (.node 241 td241 (.node 240 td240 (.node 239 td239 .leaf .leaf) .leaf) (.node 244 td244 (.node 242 td242 .leaf .leaf) .leaf))))))
abbrev tab:Tab:=qtb tabT
theorem hτ:qg7 prog tab:=qp5 (show allT tabT from ⟨tiOk underlying82 ti82,⟨tiOk underlying30 ti30,⟨tiOk underlying15 ti15,⟨tiOk underlying7 ti7,⟨tiOk underlying4 ti4,⟨tiOk underlying2 ti2,⟨tiOk underlying1 ti1,trivial,trivial⟩,⟨tiOk underlying3 ti3,trivial,trivial⟩⟩,⟨tiOk underlying6 ti6,⟨tiOk underlying5 ti5,trivial,trivial⟩,trivial⟩⟩,⟨tiOk underlying12 ti12,⟨tiOk underlying9 ti9,⟨tiOk underlying8 ti8,trivial,trivial⟩,⟨tiOk underlying10 ti10,trivial,trivial⟩⟩,⟨tiOk underlying14 ti14,⟨tiOk underlying13 ti13,trivial,trivial⟩,trivial⟩⟩⟩,⟨tiOk underlying24 ti24,⟨tiOk underlying19 ti19,⟨tiOk underlying17 ti17,⟨tiOk underlying16 ti16,trivial,trivial⟩,⟨tiOk underlying18 ti18,trivial,trivial⟩⟩,⟨tiOk underlying22 ti22,⟨tiOk underlying21 ti21,trivial,trivial⟩,trivial⟩⟩,⟨tiOk underlying27 ti27,⟨tiOk underlying26 ti26,⟨tiOk underlying25 ti25,trivial,trivial⟩,trivial⟩,⟨tiOk underlying29 ti29,⟨tiOk underlying28 ti28,trivial,trivial⟩,trivial⟩⟩⟩⟩,⟨tiOk underlying54 ti54,⟨tiOk underlying42 ti42,⟨tiOk underlying36 ti36,⟨tiOk underlying33 ti33,⟨tiOk underlying32 ti32,trivial,trivial⟩,⟨tiOk underlying35 ti35,trivial,trivial⟩⟩,⟨tiOk underlying38 ti38,⟨tiOk underlying37 ti37,trivial,trivial⟩,trivial⟩⟩,⟨tiOk underlying49 ti49,⟨tiOk underlying47 ti47,⟨tiOk underlying45 ti45,trivial,trivial⟩,trivial⟩,⟨tiOk underlying52 ti52,⟨tiOk underlying51 ti51,trivial,trivial⟩,trivial⟩⟩⟩,⟨tiOk underlying63 ti63,⟨tiOk underlying60 ti60,⟨tiOk underlying58 ti58,⟨tiOk underlying56 ti56,trivial,trivial⟩,⟨tiOk underlying59 ti59,trivial,trivial⟩⟩,⟨tiOk underlying62 ti62,⟨tiOk underlying61 ti61,trivial,trivial⟩,trivial⟩⟩,⟨tiOk underlying70 ti70,⟨tiOk underlying68 ti68,⟨tiOk underlying64 ti64,trivial,trivial⟩,trivial⟩,⟨tiOk underlying80 ti80,⟨tiOk underlying75 ti75,trivial,trivial⟩,trivial⟩⟩⟩⟩⟩,⟨tiOk underlying153 ti153,⟨tiOk underlying123 ti123,⟨tiOk underlying96 ti96,⟨tiOk underlying88 ti88,⟨tiOk underlying86 ti86,⟨tiOk underlying84 ti84,trivial,trivial⟩,⟨tiOk underlying87 ti87,trivial,trivial⟩⟩,⟨tiOk underlying91 ti91,⟨tiOk underlying89 ti89,trivial,trivial⟩,trivial⟩⟩,⟨tiOk underlying114 ti114,⟨tiOk underlying103 ti103,⟨tiOk underlying99 ti99,trivial,trivial⟩,⟨tiOk underlying108 ti108,trivial,trivial⟩⟩,⟨tiOk underlying120 ti120,⟨tiOk underlying116 ti116,trivial,trivial⟩,trivial⟩⟩⟩,⟨tiOk underlying140 ti140,⟨tiOk underlying135 ti135,⟨tiOk underlying129 ti129,⟨tiOk underlying126 ti126,trivial,trivial⟩,⟨tiOk underlying134 ti134,trivial,trivial⟩⟩,⟨tiOk underlying138 ti138,⟨tiOk underlying137 ti137,trivial,trivial⟩,trivial⟩⟩,⟨tiOk underlying146 ti146,⟨tiOk underlying144 ti144,⟨tiOk underlying143 ti143,trivial,trivial⟩,trivial⟩,⟨tiOk underlying151 ti151,⟨tiOk underlying147 ti147,trivial,trivial⟩,trivial⟩⟩⟩⟩,⟨tiOk underlying192 ti192,⟨tiOk underlying171 ti171,⟨tiOk underlying166 ti166,⟨tiOk underlying159 ti159,⟨tiOk underlying154 ti154,trivial,trivial⟩,⟨tiOk underlying164 ti164,trivial,trivial⟩⟩,⟨tiOk underlying170 ti170,⟨tiOk underlying169 ti169,trivial,trivial⟩,trivial⟩⟩,⟨tiOk underlying174 ti174,⟨tiOk underlying173 ti173,⟨tiOk underlying172 ti172,trivial,trivial⟩,trivial⟩,⟨tiOk underlying180 ti180,⟨tiOk underlying175 ti175,trivial,trivial⟩,trivial⟩⟩⟩,⟨tiOk underlying238 ti238,⟨tiOk underlying217 ti217,⟨tiOk underlying207 ti207,⟨tiOk underlying200 ti200,trivial,trivial⟩,⟨tiOk underlying214 ti214,trivial,trivial⟩⟩,⟨tiOk underlying233 ti233,⟨tiOk underlying218 ti218,trivial,trivial⟩,trivial⟩⟩,⟨tiOk underlying241 ti241,⟨tiOk underlying240 ti240,⟨tiOk underlying239 ti239,trivial,trivial⟩,trivial⟩,⟨tiOk underlying244 ti244,⟨tiOk underlying242 ti242,trivial,trivial⟩,trivial⟩⟩⟩⟩⟩⟩)
theorem mixed:prog.follows .mixedOrders = true:=by kernel_rfl
end Go.Proofs.Ytmllgpkgjniomaa.AWN

namespace Go.Proofs.Ytmllgpkgjniomaa.AWN
open Go Go.Shelf Go.RowKit Go.Proofs.Try
def qrn:Go.Shelf.Ren:=⟨fun | 169=>130 | n=>n,fun | 70=>172 | 9=>9 | 0=>0 | 72=>174 | 37=>45 | 127=>207 | 3=>3 | 5=>5 | n=>n,fun | n=>n⟩
theorem bStr:Go.Proofs.Lays.n169 prog qrn:={
  mixed:=by kernel_rfl
  f169:=Try.func130.trans (congrArg some (by kernel_rfl))
  t0:=Try.underlying0
  a0:=Try.isAgg0
  z0:=Try.sizeOf0
  v0:=Try.zeroValue0
  t3:=Try.underlying3
  a3:=Try.isAgg3
  z3:=Try.sizeOf3
  v3:=Try.zeroValue3
  t9:=Try.underlying9
  a9:=Try.isAgg9
  z9:=Try.sizeOf9
  v9:=Try.zeroValue9
  t37:=Try.underlying45
  a37:=Try.isAgg45
  z37:=Try.sizeOf45
  v37:=Try.zeroValue45
  t70:=Try.underlying172
  a70:=Try.isAgg172
  z70:=Try.sizeOf172
  v70:=Try.zeroValue172
  t72:=Try.underlying174
  a72:=Try.isAgg174
  z72:=Try.sizeOf174
  v72:=Try.zeroValue174
  t127:=Try.underlying207
  a127:=Try.isAgg207
  z127:=Try.sizeOf207
  v127:=Try.zeroValue207 }
theorem szB:(prog.info? 174).map (·.size) = some 2:=by kernel_rfl
theorem qv6:liesAt prog prog.depth 174 (2 / prog.cellsOf 174) 0 174 1 = true:=by kernel_rfl
theorem infB:(prog.info? 5).map (fun i=>(i.zero,i.size,i.bytes)) = some (some (.int .u8 0),1,1):=by kernel_rfl
theorem mixB:prog.follows .mixedOrders = true:=by kernel_rfl
set_option maxHeartbeats 1000000 in
set_option maxRecDepth 100000 in
theorem cc_used (b:Nat) (w:World) (h0:w.cell? ⟨b,0,none⟩ = some (.pointer (some ⟨b,0,none⟩))) :
    Calls prog 157 #[.pointer (some ⟨b,0,none⟩)] w fun e w'=>e = .returned (.tuple #[])∧w' = w:=by
  obtain ⟨j,hj,_⟩:=Option.map_eq_some_iff.1 szB
  have mixed:=mixB
  have t72:=Try.underlying174;have a72:=Try.isAgg174;have z72:=Try.sizeOf174;have v72:=Try.zeroValue174;have u72:=run_underlying Try.underlying174
  have t70:=Try.underlying172;have a70:=Try.isAgg172;have z70:=Try.sizeOf172;have v70:=Try.zeroValue172;have u70:=run_underlying Try.underlying172
  have t9:=Try.underlying9;have a9:=Try.isAgg9;have z9:=Try.sizeOf9;have v9:=Try.zeroValue9;have u9:=run_underlying Try.underlying9
  have t4:=Try.underlying4;have a4:=Try.isAgg4;have z4:=Try.sizeOf4;have v4:=Try.zeroValue4;have u4:=run_underlying Try.underlying4
  have t164:=Try.underlying224;have a164:=Try.isAgg224;have z164:=Try.sizeOf224;have v164:=Try.zeroValue224;have u164:=run_underlying Try.underlying224
  go_enter Try.func157,Try.ntmps157
  go_wp2
  rw [Lib.run_neq_ptr_same w _ Try.underlying172 hj]
  go_wp2
  go_end0
  exact ⟨rfl,rfl⟩
set_option maxHeartbeats 1000000 in
set_option maxRecDepth 100000 in
theorem cc_fresh (b:Nat) (w:World) (h0:w.cell? ⟨b,0,none⟩ = some (.pointer none)) (hsh:w.shape? b = some (174,2)) (hfz:w.frozen? ⟨b,0,none⟩ = false) :
    Calls prog 157 #[.pointer (some ⟨b,0,none⟩)] w fun e w'=>e = .returned (.tuple #[])∧w' = w.setCell ⟨b,0,none⟩ (.pointer (some ⟨b,0,none⟩)):=by
  obtain ⟨j,hj,hjs⟩:=Option.map_eq_some_iff.1 szB
  have mixed:=mixB
  have t72:=Try.underlying174;have a72:=Try.isAgg174;have z72:=Try.sizeOf174;have v72:=Try.zeroValue174;have u72:=run_underlying Try.underlying174
  have t70:=Try.underlying172;have a70:=Try.isAgg172;have z70:=Try.sizeOf172;have v70:=Try.zeroValue172;have u70:=run_underlying Try.underlying172
  have t9:=Try.underlying9;have a9:=Try.isAgg9;have z9:=Try.sizeOf9;have v9:=Try.zeroValue9;have u9:=run_underlying Try.underlying9
  have t4:=Try.underlying4;have a4:=Try.isAgg4;have z4:=Try.sizeOf4;have v4:=Try.zeroValue4;have u4:=run_underlying Try.underlying4
  have t164:=Try.underlying224;have a164:=Try.isAgg224;have z164:=Try.sizeOf224;have v164:=Try.zeroValue224;have u164:=run_underlying Try.underlying224
  go_enter Try.func157,Try.ntmps157
  go_wp2
  rw [Lib.run_to_unsafe w ⟨b,0,none⟩ Try.underlying172 Try.underlying224 hj (by rw [hjs];decide) hsh (Nat.zero_lt_succ 1)]
  simp only [Result.andThen]
  rw [Oper.upon_value]
  go_wp2
  rw [run_callFunc_extern Try.func175 (by kernel_rfl) (by kernel_rfl) (by kernel_rfl) (e:=Extern.AbiNoEscape.same) (by kernel_rfl)]
  rw [Lib.run_noEscape]
  simp only [Result.andThen]
  rw [Oper.upon_value]
  go_wp2
  rw [Lib.run_from_unsafe w ⟨b,0,none⟩ Try.underlying224 Try.underlying172 hj hsh qv6]
  simp only [Result.andThen]
  rw [Oper.upon_value]
  go_wp2
  go_end0
  exact ⟨rfl,rfl⟩
theorem cc_walk (B b:Nat) (bs:List Value) (w:World) (h:Lib.IsBuilder 174 5 B b bs w) :
    Calls prog 157 #[.pointer (some ⟨b,0,none⟩)] w fun e w'=>e = .returned (.tuple #[])∧(Lib.BuilderAt 174 5 B b (.pointer (some ⟨b,0,none⟩)) bs w'∧Below B w w'∧Lib.OthersKept 5 (some b) w w'):=by
  rcases h with h | h
  · refine (cc_fresh b w h.cell0 h.shape h.frozen0).mono ?_
    rintro e w' ⟨rfl,rfl⟩
    exact ⟨rfl,h.used _,(Below.refl B w).setCell (p:=⟨b,0,none⟩) h.1 _,(Lib.OthersKept.refl _ _ w).setCell ⟨b,0,none⟩ rfl _⟩
  · refine (cc_used b w h.cell0).mono ?_
    rintro e w' ⟨rfl,rfl⟩
    exact ⟨rfl,h,Below.refl B _,Lib.OthersKept.refl _ _ _⟩
set_option maxHeartbeats 2000000 in
set_option maxRecDepth 100000 in
theorem qpt (B b:Nat) (bs:List Value) (s:ByteArray) (w:World) (h:Lib.IsBuilder 174 5 B b bs w) (hlen:bs.length + s.size ≤ 140737488355328) (hBw:B ≤ w.heap.size) :
    Calls prog 127 #[.pointer (some ⟨b,0,none⟩),.string s] w fun e w'=>e = .returned (.tuple #[.int .i64 s.size,.nilIface])∧(Lib.BuilderAt 174 5 B b (.pointer (some ⟨b,0,none⟩)) (bs ++ Lib.strCells s) w'∧Below B w w'∧Lib.OthersKept 5 (some b) w w'):=by
  obtain ⟨i0,hi,hz0,hz1,hz2⟩:=info_parts infB
  have mixed:=mixB
  have t72:=Try.underlying174;have a72:=Try.isAgg174;have z72:=Try.sizeOf174;have v72:=Try.zeroValue174;have u72:=run_underlying Try.underlying174
  have t70:=Try.underlying172;have a70:=Try.isAgg172;have z70:=Try.sizeOf172;have v70:=Try.zeroValue172;have u70:=run_underlying Try.underlying172
  have t37:=Try.underlying45;have a37:=Try.isAgg45;have z37:=Try.sizeOf45;have v37:=Try.zeroValue45;have u37:=run_underlying Try.underlying45
  have t3:=Try.underlying3;have a3:=Try.isAgg3;have z3:=Try.sizeOf3;have v3:=Try.zeroValue3;have u3:=run_underlying Try.underlying3
  have t9:=Try.underlying9;have a9:=Try.isAgg9;have z9:=Try.sizeOf9;have v9:=Try.zeroValue9;have u9:=run_underlying Try.underlying9
  have t4:=Try.underlying4;have a4:=Try.isAgg4;have z4:=Try.sizeOf4;have v4:=Try.zeroValue4;have u4:=run_underlying Try.underlying4
  have t164:=Try.underlying224;have a164:=Try.isAgg224;have z164:=Try.sizeOf224;have v164:=Try.zeroValue224;have u164:=run_underlying Try.underlying224
  have t5:=Try.underlying5;have a5:=Try.isAgg5;have z5:=Try.sizeOf5;have v5:=Try.zeroValue5;have u5:=run_underlying Try.underlying5
  have e240:∀ args w,(callFunc 157 args).run prog w = .ok (.enter 157 args) w:=enters_of Try.func157 (by kernel_rfl) rfl
  go_enter Try.func127,Try.ntmps127
  go_wp2_with (go_at_fn 157;refine (cc_walk B b bs _ h).mono ?_)
  rintro e w1 ⟨rfl,h1,hb1,hk1⟩
  obtain ⟨hB,v,hbk,hown,hne⟩:=h1
  have c0:w1.cell? ⟨b,0,none⟩ = some (.pointer (some ⟨b,0,none⟩)):=by rw [Lib.cell_of_heap hbk];rfl
  have c1:w1.cell? ⟨b,1,none⟩ = some v:=by rw [Lib.cell_of_heap hbk];rfl
  go_wp2_with (at_builtin;refine Lib.wpList_append_own_string _ rfl _ _ 45 9 rfl B 5 i0 Try.underlying45 Try.underlying9 hi hz0 hz1 hz2 _ _ _ rfl hown s rfl ?c3 ?c4 ?c5 ?_)
  case c3=>unfold maxLen;omega
  case c4=>omega
  case c5=>have:=hb1.size;omega
  intro v' w2 hown' hgrow _
  have hlt:b < w1.heap.size:=by
    rcases Nat.lt_or_ge b w1.heap.size with h' | h'
    · exact h'
    · simp [Array.getElem?_eq_none h'] at hbk
  have hb2:w2.heap[b]? = some (.cells #[.pointer (some ⟨b,0,none⟩),v] 174 (0,0)):=by
    rw [hgrow.block b hlt (fun e=>hne e.symm)]
    exact hbk
  have d0:w2.cell? ⟨b,0,none⟩ = some (.pointer (some ⟨b,0,none⟩)):=by rw [Lib.cell_of_heap hb2];rfl
  have d1:w2.cell? ⟨b,1,none⟩ = some v:=by rw [Lib.cell_of_heap hb2];rfl
  have f1:w2.frozen? ⟨b,1,none⟩ = false:=Lib.frozen_of_heap hb2 1
  obtain ⟨ao,n',cap,rfl⟩:∃ ao n' cap,v' = .slice ao n' cap:=by
    rcases hown'.2 with ⟨hv,_⟩ | ⟨g,cap,cur,hv,_⟩
    · exact ⟨_,_,_,hv⟩
    · exact ⟨_,_,_,hv⟩
  go_wp2
  go_ret2
  refine ⟨rfl,?_,?_,(hk1.grown hgrow (Lib.ownsRow_kind hown)).setCell ⟨b,1,none⟩ rfl _⟩
  · exact Lib.BuilderAt.put (T:=174) (e:=5) hB hb2 (bs':=bs ++ Lib.strCells s) (by simpa [Lib.strCells_length] using hown') (by decide)
  · exact (hb1.grown hgrow (by have:=hb1.size;omega) (fun k hk=>(hown.lt k hk).1)).setCell (p:=⟨b,1,none⟩) hB _
theorem qu4 (B b:Nat) (bs:List Value) (s:ByteArray) (w:World) (h:Lib.IsBuilder 174 5 B b bs w) (hlen:bs.length + s.size ≤ 140737488355328) (hBw:B ≤ w.heap.size) :
    Calls prog 127 #[.pointer (some ⟨b,0,none⟩),.string s] w fun e w'=>e = .returned (.tuple #[.int .i64 s.size,.nilIface])∧(Lib.BuilderAt 174 5 B b (.pointer (some ⟨b,0,none⟩)) (bs ++ Lib.strCells s) w'∧Below B w w') :=
  (qpt B b bs s w h hlen hBw).mono fun e w' h=>⟨h.1,h.2.1,h.2.2.1⟩
set_option maxRecDepth 100000 in
theorem exB:Builder.Extra prog qrn:={
  sizeBuilder:=szB
  liesBuilder:=qv6
  t5:=Try.underlying5
  a5:=Try.isAgg5
  z5:=Try.sizeOf5
  v5:=Try.zeroValue5
  infoByte:=infB
  cellsByte:=by kernel_rfl
  sizeByte:=by kernel_rfl
  neB5:=by decide }
theorem qpr (B b:Nat) (l:List UInt8) (w:World) (h:Lib.IsBuilder 174 5 B b (Lib.byteCells l) w) (hBw:B ≤ w.heap.size) :
    Calls prog 130 #[.pointer (some ⟨b,0,none⟩)] w fun e w'=>e = .returned (.string ⟨l.toArray⟩)∧Below B w w' :=
  (Any.Builder_String_any bStr exB B b l w h hBw).mono fun e w' h=>⟨h.1,by first | exact h.2 | exact h.2.2 | exact h.2.1⟩
end Go.Proofs.Ytmllgpkgjniomaa.AWN

namespace Go.Proofs.Ytmllgpkgjniomaa.AWN
open Go Go.Shelf Go.RowKit Go.Proofs.Try
theorem qkh (s:Str):Lib.strCells (bstr s) = Lib.byteCells s:=by
  rw [Lib.strCells_eq];rfl
theorem qmw (s t:Str):Lib.byteCells s ++ Lib.byteCells t = Lib.byteCells (s ++ t):=by
  unfold Lib.byteCells;rw [List.map_append]
def upTo (f:Nat→Str) (out:Str):Nat→Str
  | 0=>out
  | k + 1=>upTo f out k ++ f k
set_option maxHeartbeats 4000000 in
set_option maxRecDepth 100000 in
theorem put_walk (B b g o n cap:Nat) (out:Str) (f:Nat→Str) (w:World) (cs:Array Value) (T:TypeId) (fz:Nat × Nat)
    (hB:Lib.IsBuilder 174 5 B b (Lib.byteCells out) w) (hBw:B ≤ w.heap.size)
    (hg:w.heap[g]? = some (.cells cs T fz)) (hgb:g ≠ b) (hgT:T ≠ 5) (hn:n ≤ 10) (hc:∀ k,k < n→cs[o + k]? = some (.string (bstr (f k)))) (hlen:out.length ≤ 100000000∧∀ k,(f k).length ≤ 100000) :
    Calls prog 126 #[.slice (some ⟨g,o,none⟩) n cap,.pointer (some ⟨b,0,none⟩)] w fun e w'=>e = .returned (.tuple #[])∧Lib.IsBuilder 174 5 B b (Lib.byteCells (upTo f out n)) w'∧Below B w w'∧Lib.OthersKept 5 (some b) w w':=by
  have fl:∀ j,(upTo f out j).length ≤ 100000000 + 100000 * j:=fun j=>by
    induction j with
    | zero=>exact hlen.1
    | succ j ih =>
      show (upTo f out j ++ f j).length ≤ _
      have h1:=hlen.2 j
      rw [List.length_append];omega
  go_enter Try.func126,Try.ntmps126
  go_wp2
  go_loopw [7] (fun i wr=>∃ k:Nat,k ≤ n∧i = .int .i64 k∧Lib.IsBuilder 174 5 B b (Lib.byteCells (upTo f out k)) wr∧Below B w wr∧Lib.OthersKept 5 (some b) w wr)
    (fun i _=>n - (intOf i).toNat)
  case atStart=>exact ⟨0,Nat.zero_le _,rfl,hB,Below.refl _ _,Lib.OthersKept.refl _ _ _⟩
  case round =>
    obtain ⟨k,hk,rfl,hB',bel,oth⟩:=hrel
    clear hB
    by_cases hlt:k < n
    · have hg':=oth g _ hg (by intro e;cases e;exact hgb rfl) (fun c fz h=>by cases h;exact hgT rfl)
      have c0:wr.cell? ⟨g,o + k,none⟩ = some (.string (bstr (f k))):=by rw [Lib.cell_of_heap hg'];exact hc k hlt
      have hs:=bel.size
      have hbs:=qfu (f k)
      have hf:=hlen.2 k
      have hfl:=fl k
      go_wp2_with (go_at_call 127;refine (qpt B b _ (bstr (f k)) _ hB' ?c1 (Nat.le_trans hBw hs)).mono ?_)
      case c1 =>
        rw [Lib.byteCells_length,hbs]
        omega
      rintro e w1 ⟨rfl,hB1,b1,o1⟩
      rw [qkh,qmw] at hB1
      go_wp2
      go_roundw
      case rel=>exact ⟨k + 1,by omega,by go_num,Or.inr hB1,bel.trans b1,oth.trans o1⟩
      case measure=>simp [intOf];omega
    · have hke:k = n:=by omega
      subst hke
      go_wp2
      go_end0
      exact ⟨rfl,hB',bel,oth⟩
end Go.Proofs.Ytmllgpkgjniomaa.AWN

namespace Go.Proofs.Ytmllgpkgjniomaa.AWN
open Go Go.Shelf Go.RowKit Go.Proofs.Try
theorem qro {B b:Nat} {p:Value} {bs:List Value} {w w':World} (h:Lib.BuilderAt 174 5 B b p bs w) (k:Below w.heap.size w w'):Lib.BuilderAt 174 5 B b p bs w':=by
  have hlt:=h.lt
  obtain ⟨hB,v,hb,hown,hne⟩:=h
  refine ⟨hB,v,(k.block b hlt).trans hb,hown.kept (row:=none) ⟨k.os,k.tape,k.output,k.size,fun i hi _=>k.block i hi⟩ (by cases hv:v.ownBlock <;> simp),hne⟩
theorem qgy {B b:Nat} {bs:List Value} {w w':World} (h:Lib.IsBuilder 174 5 B b bs w) (k:Below w.heap.size w w'):Lib.IsBuilder 174 5 B b bs w':=h.imp (fun h=>qro h k) fun h=>qro h k
theorem qpk (B b:Nat) (out:Str) (parts:List Str) (wr:World) (cs:Array Value) (T:TypeId) (n:Nat) (hB:Lib.IsBuilder 174 5 B b (Lib.byteCells out) wr) (hBw:B ≤ wr.heap.size) (hT:T ≠ 5) (hcs:cs = (parts.map fun s=>Value.string (bstr s)).toArray) (hn:n = parts.length) (h10:parts.length ≤ 10) (hl:out.length ≤ 100000000) (hp:∀ s ∈ parts,s.length ≤ 100000) :
    Calls prog 126 #[.slice (some ⟨wr.heap.size,0,none⟩) n n,.pointer (some ⟨b,0,none⟩)] (wr.alloc (.cells cs T)) fun e w'=>e = .returned (.tuple #[])∧Lib.IsBuilder 174 5 B b (Lib.byteCells (out ++ parts.flatten)) w'∧Below B wr w'∧Lib.OthersKept 5 (some b) wr w':=by
  have hlt:b < wr.heap.size:=by
    rcases hB with h | h
    · exact h.lt
    · exact h.lt
  have bel:Below wr.heap.size wr (wr.alloc (.cells cs T)):=(Below.refl _ wr).alloc (Nat.le_refl _) _
  have hp':∀ k,(parts.getD k []).length ≤ 100000:=fun k=>by
    rw [List.getD_eq_getElem?_getD]
    cases he:parts[k]? with
    | none=>exact Nat.zero_le _
    | some z=>exact hp z (List.mem_of_getElem? he)
  have sh:∀ (k:Nat) (f:Nat→Str) (o:Str),upTo f o (k + 1) = upTo (fun i=>f (i + 1)) (o ++ f 0) k:=by
    intro k
    induction k with
    | zero=>intro f o;rfl
    | succ k ih =>
      intro f o
      show upTo f o (k + 1) ++ f (k + 1) = _
      rw [ih f o];rfl
  have hup:∀ (ps:List Str) (o:Str) (f:Nat→Str),(∀ k,k < ps.length→f k = ps.getD k [])→upTo f o ps.length = o ++ ps.flatten:=by
    intro ps
    induction ps with
    | nil=>intro o f _;show o = o ++ [];rw [List.append_nil]
    | cons x l ih =>
      intro o f h
      rw [List.length_cons,sh,ih (o ++ f 0) (fun i=>f (i + 1)) fun k hk=>by
        rw [h (k + 1) (by rw [List.length_cons];omega)];rfl]
      rw [h 0 (by rw [List.length_cons];omega)]
      simp
  subst hn
  refine (put_walk B b wr.heap.size 0 parts.length parts.length out (fun k=>parts.getD k []) _ cs T (0,0) (qgy hB bel) (Nat.le_trans hBw bel.size) (heap_alloc_new wr _) (by omega) hT h10 (fun k hk=>?_) ⟨hl,hp'⟩).mono ?_
  · subst hcs
    rw [Nat.zero_add,List.getElem?_toArray,List.getElem?_map,List.getD_eq_getElem?_getD,List.getElem?_eq_getElem hk];rfl
  · rintro e w' ⟨rfl,h1,h2,h3⟩
    rw [hup parts out _ fun k _=>rfl] at h1
    exact ⟨rfl,h1,((Below.refl B wr).alloc hBw _).trans h2,((Lib.OthersKept.refl _ _ wr).alloc _).trans h3⟩
end Go.Proofs.Ytmllgpkgjniomaa.AWN

namespace Go.Proofs.Ytmllgpkgjniomaa.AWN
open Go Go.Shelf Go.RowKit Go.Proofs.Try
theorem st1 (wr:World) (i:Nat) (cs:Array Value) (hi:i < cs.size) (v:Value) (hv:v.oneCell' = true) (T:TypeId):(store ⟨wr.heap.size,i,none⟩ v).run prog (wr.alloc (.cells cs T)) = .ok () (wr.alloc (.cells (cs.modify i fun _=>v) T)):=by
  have h:(wr.alloc (.cells cs T)).heap[wr.heap.size]? = some (.cells cs T (0,0)):=heap_alloc_new wr _
  rw [run_store _ _ _ _ _ hv,Lib.cell_of_heap h,Array.getElem?_eq_getElem hi]
  dsimp only
  rw [Lib.frozen_of_heap h,World.setCell_alloc_at _ _ _ _ _ rfl]
  rfl
theorem stB1 (wr:World) (x0 x1 x2 x3 x4 x5 x6 x7:Value) (a c:Nat):(store ⟨wr.heap.size,1,none⟩ (.complex .f32 a c)).run prog (wr.alloc (.cells #[x0,x1,x2,x3,x4,x5,x6,x7] 120)) = .ok () (wr.alloc (.cells #[x0,.complex .f32 a c,x2,x3,x4,x5,x6,x7] 120)):=by
  rw [st1 _ _ _ (by simp) _ rfl]
  rfl
theorem stB2 (wr:World) (x0 x1 x2 x3 x4 x5 x6 x7:Value) (a c:Nat):(store ⟨wr.heap.size,2,none⟩ (.complex .f32 a c)).run prog (wr.alloc (.cells #[x0,x1,x2,x3,x4,x5,x6,x7] 120)) = .ok () (wr.alloc (.cells #[x0,x1,.complex .f32 a c,x3,x4,x5,x6,x7] 120)):=by
  rw [st1 _ _ _ (by simp) _ rfl]
  rfl
theorem stB4 (wr:World) (x0 x1 x2 x3 x4 x5 x6 x7:Value) (a c:Nat):(store ⟨wr.heap.size,4,none⟩ (.complex .f32 a c)).run prog (wr.alloc (.cells #[x0,x1,x2,x3,x4,x5,x6,x7] 120)) = .ok () (wr.alloc (.cells #[x0,x1,x2,x3,.complex .f32 a c,x5,x6,x7] 120)):=by
  rw [st1 _ _ _ (by simp) _ rfl]
  rfl
theorem stB5 (wr:World) (x0 x1 x2 x3 x4 x5 x6 x7:Value) (a c:Nat):(store ⟨wr.heap.size,5,none⟩ (.complex .f32 a c)).run prog (wr.alloc (.cells #[x0,x1,x2,x3,x4,x5,x6,x7] 120)) = .ok () (wr.alloc (.cells #[x0,x1,x2,x3,x4,.complex .f32 a c,x6,x7] 120)):=by
  rw [st1 _ _ _ (by simp) _ rfl]
  rfl
theorem stB6 (wr:World) (x0 x1 x2 x3 x4 x5 x6 x7:Value) (a c:Nat):(store ⟨wr.heap.size,6,none⟩ (.complex .f32 a c)).run prog (wr.alloc (.cells #[x0,x1,x2,x3,x4,x5,x6,x7] 120)) = .ok () (wr.alloc (.cells #[x0,x1,x2,x3,x4,x5,.complex .f32 a c,x7] 120)):=by
  rw [st1 _ _ _ (by simp) _ rfl]
  rfl
theorem stT2 (wr:World) (x0 x1 x2 x3 x4:Value) (a c:Nat):(store ⟨wr.heap.size,2,none⟩ (.complex .f32 a c)).run prog (wr.alloc (.cells #[x0,x1,x2,x3,x4] 123)) = .ok () (wr.alloc (.cells #[x0,x1,.complex .f32 a c,x3,x4] 123)):=by
  rw [st1 _ _ _ (by simp) _ rfl]
  rfl
theorem stT3 (wr:World) (x0 x1 x2 x3 x4:Value) (a c:Nat):(store ⟨wr.heap.size,3,none⟩ (.complex .f32 a c)).run prog (wr.alloc (.cells #[x0,x1,x2,x3,x4] 123)) = .ok () (wr.alloc (.cells #[x0,x1,x2,.complex .f32 a c,x4] 123)):=by
  rw [st1 _ _ _ (by simp) _ rfl]
  rfl
section
variable (byt:Int→Int→Str→Prop) (cpx:Nat→Nat→Str→Prop) (pha:Nat→Nat→Nat→Nat→Nat→Nat→Str→Prop)
variable (hbyt:∀ a c s,byt a c s→∀ wr,Calls prog 44 #[.int .i64 a,.int .i64 c] wr fun e w'=>e = .returned (.string (bstr s))∧Below wr.heap.size wr w')
variable (hcpx:∀ a c s,cpx a c s→∀ wr,Calls prog 129 #[.complex .f32 a c] wr fun e w'=>e = .returned (.string (bstr s))∧Below wr.heap.size wr w')
variable (hpha:∀ a a' b b' c c' s,pha a a' b b' c c' s→∀ wr,Calls prog 128 #[.agg #[.complex .f32 a a',.complex .f32 b b',.complex .f32 c c']] wr fun e w'=>e = .returned (.string (bstr s))∧Below wr.heap.size wr w')
include hbyt hcpx hpha
set_option maxHeartbeats 8000000 in
set_option maxRecDepth 100000 in
theorem stored_walk (w:World) (S1 S1' S2 S2' S3 S3':Nat) (a0 a1:Option Addr) (n0 cap0 n1 cap1:Nat) (src nb nt:Str)
    (hsrc:pha S1 S1' S2 S2' S3 S3' src) (hnb:byt (n0:Int) 1 nb) (hnt:byt (n1:Int) 1 nt) (hn:n0 ≤ 1000∧n1 ≤ 1000)
    (hsl:src.length ≤ 1000∧nb.length ≤ 1000∧nt.length ≤ 1000)
    (BP BK BC:Nat→Int) (BO BO' BS BS' L1 L1' L2 L2' L3 L3':Nat→Nat) (tp to ts tk tl tc:Nat→Str)
    (hbus:∀ k,k < n0→byt (BP k + 1) 1 (tp k)∧cpx (BO k) (BO' k) (to k)∧cpx (BS k) (BS' k) (ts k)∧byt (BK k) 1 (tk k)∧pha (L1 k) (L1' k) (L2 k) (L2' k) (L3 k) (L3' k) (tl k)∧byt (BC k) 4 (tc k)∧IntKind.i64.wrap (BP k + 1) = BP k + 1)
    (hbl:∀ k,(tp k).length ≤ 1000∧(to k).length ≤ 1000∧(ts k).length ≤ 1000∧(tk k).length ≤ 1000∧(tl k).length ≤ 1000∧(tc k).length ≤ 1000)
    (hbc:∀ k,k < n0→∃ b o,a0 = some ⟨b,o,none⟩∧b < w.heap.size∧w.cell? ⟨b,o + k * 8,none⟩ = some (.int .i64 (BP k))∧w.cell? ⟨b,o + k * 8 + 1,none⟩ = some (.complex .f32 (BO k) (BO' k))∧w.cell? ⟨b,o + k * 8 + 2,none⟩ = some (.complex .f32 (BS k) (BS' k))∧w.cell? ⟨b,o + k * 8 + 3,none⟩ = some (.int .i64 (BK k))∧w.cell? ⟨b,o + k * 8 + 4,none⟩ = some (.complex .f32 (L1 k) (L1' k))∧w.cell? ⟨b,o + k * 8 + 5,none⟩ = some (.complex .f32 (L2 k) (L2' k))∧w.cell? ⟨b,o + k * 8 + 6,none⟩ = some (.complex .f32 (L3 k) (L3' k))∧w.cell? ⟨b,o + k * 8 + 7,none⟩ = some (.int .i64 (BC k)))
    (TA TB TM:Nat→Int) (TO TO' TS TS':Nat→Nat) (xa xb xo xs xm:Nat→Str)
    (htie:∀ m,m < n1→byt (TA m) 1 (xa m)∧byt (TB m) 1 (xb m)∧cpx (TO m) (TO' m) (xo m)∧cpx (TS m) (TS' m) (xs m)∧byt (TM m) 4 (xm m))
    (htl:∀ m,(xa m).length ≤ 1000∧(xb m).length ≤ 1000∧(xo m).length ≤ 1000∧(xs m).length ≤ 1000∧(xm m).length ≤ 1000)
    (htc:∀ m,m < n1→∃ b o,a1 = some ⟨b,o,none⟩∧b < w.heap.size∧w.cell? ⟨b,o + m * 5,none⟩ = some (.int .i64 (TA m))∧w.cell? ⟨b,o + m * 5 + 1,none⟩ = some (.int .i64 (TB m))∧w.cell? ⟨b,o + m * 5 + 2,none⟩ = some (.complex .f32 (TO m) (TO' m))∧w.cell? ⟨b,o + m * 5 + 3,none⟩ = some (.complex .f32 (TS m) (TS' m))∧w.cell? ⟨b,o + m * 5 + 4,none⟩ = some (.int .i64 (TM m))) :
    Calls prog 84 #[.agg #[.complex .f32 S1 S1',.complex .f32 S2 S2',.complex .f32 S3 S3',.slice a0 n0 cap0,.slice a1 n1 cap1]] w fun e w'=>e = .returned (.string (bstr (upTo (fun m=>xa m ++ xb m ++ xo m ++ xs m ++ xm m) (upTo (fun k=>tp k ++ to k ++ ts k ++ tk k ++ tl k ++ tc k) ([70,68,82,49] ++ src ++ nb) n0 ++ nt) n1)))∧Below w.heap.size w w':=by
  go_enter Try.func84,Try.ntmps84
  go_wp2
  obtain ⟨W1,hW1⟩:∃ W1,W1 = w.alloc (.cells #[.complex .f32 S1 S1',.complex .f32 S2 S2',.complex .f32 S3 S3',.slice a0 n0 cap0,.slice a1 n1 cap1] 30):=⟨_,rfl⟩
  have z1:W1.heap.size = w.heap.size + 1:=by rw [hW1];simp
  have hv1:W1.heap[w.heap.size]? = some (.cells #[.complex .f32 S1 S1',.complex .f32 S2 S2',.complex .f32 S3 S3',.slice a0 n0 cap0,.slice a1 n1 cap1] 30 (0,0)):=by rw [hW1];exact heap_alloc_new w _
  have bel1:Below w.heap.size w W1:=by rw [hW1];exact (Below.refl _ w).alloc (Nat.le_refl _) _
  have hb:w.heap.size + 1 = W1.heap.size:=z1.symm
  rw [← hW1,hb]
  obtain ⟨W2,hW2⟩:∃ W2,W2 = W1.alloc (.cells #[.pointer none,.slice none 0 0] 174):=⟨_,rfl⟩
  have hB2:Lib.IsBuilder 174 5 W1.heap.size W1.heap.size (Lib.byteCells []) W2:=by rw [hW2];exact Lib.fresh_isBuilder 174 5 W1
  have b2:Below W1.heap.size W1 W2:=by rw [hW2];exact (Below.refl _ W1).alloc (Nat.le_refl _) _
  have s2:=b2.size
  rw [← hW2]
  -- the grid's own box,wherever all below the builder is kept
  have box:∀ w',Below W1.heap.size W1 w'→w'.cell? ⟨w.heap.size,0,none⟩ = some (.complex .f32 S1 S1')∧w'.cell? ⟨w.heap.size,1,none⟩ = some (.complex .f32 S2 S2')∧w'.cell? ⟨w.heap.size,2,none⟩ = some (.complex .f32 S3 S3')∧w'.cell? ⟨w.heap.size,3,none⟩ = some (.slice a0 n0 cap0)∧w'.cell? ⟨w.heap.size,4,none⟩ = some (.slice a1 n1 cap1):=fun w' h=>by
    have hh:=(h.block w.heap.size (by omega)).trans hv1
    exact ⟨by rw [Lib.cell_of_heap hh];rfl,by rw [Lib.cell_of_heap hh];rfl,by rw [Lib.cell_of_heap hh];rfl,by rw [Lib.cell_of_heap hh];rfl,by rw [Lib.cell_of_heap hh];rfl⟩
  have hph':∀ a a' b b' c c' s,pha a a' b b' c c' s→∀ wr',Below W2.heap.size W2 wr'→Calls prog 128 #[.agg #[.complex .f32 a a',.complex .f32 b b',.complex .f32 c c']] wr' fun e w'=>e = .returned (.string (bstr s))∧Below W2.heap.size W2 w'∧w'.cell? ⟨w.heap.size,0,none⟩ = some (.complex .f32 S1 S1')∧w'.cell? ⟨w.heap.size,1,none⟩ = some (.complex .f32 S2 S2')∧w'.cell? ⟨w.heap.size,2,none⟩ = some (.complex .f32 S3 S3')∧w'.cell? ⟨w.heap.size,3,none⟩ = some (.slice a0 n0 cap0)∧w'.cell? ⟨w.heap.size,4,none⟩ = some (.slice a1 n1 cap1):=fun a a' b b' c c' s hs wr' h=>(hpha a a' b b' c c' s hs wr').mono fun e w' h' =>
    have q:=h.trans (h'.2.mono h.size)
    ⟨h'.1,q,box w' (b2.trans (q.mono s2))⟩
  have hby':∀ a c s,byt a c s→∀ wr',Below W2.heap.size W2 wr'→Calls prog 44 #[.int .i64 a,.int .i64 c] wr' fun e w'=>e = .returned (.string (bstr s))∧Below W2.heap.size W2 w'∧w'.cell? ⟨w.heap.size,0,none⟩ = some (.complex .f32 S1 S1')∧w'.cell? ⟨w.heap.size,1,none⟩ = some (.complex .f32 S2 S2')∧w'.cell? ⟨w.heap.size,2,none⟩ = some (.complex .f32 S3 S3')∧w'.cell? ⟨w.heap.size,3,none⟩ = some (.slice a0 n0 cap0)∧w'.cell? ⟨w.heap.size,4,none⟩ = some (.slice a1 n1 cap1):=fun a c s hs wr' h=>(hbyt a c s hs wr').mono fun e w' h' =>
    have q:=h.trans (h'.2.mono h.size)
    ⟨h'.1,q,box w' (b2.trans (q.mono s2))⟩
  have put':∀ T,T ≠ 5→∀ wr',Below W2.heap.size W2 wr'→Calls prog 126 #[.slice (some ⟨wr'.heap.size,0,none⟩) 3 3,.pointer (some ⟨W1.heap.size,0,none⟩)] (wr'.alloc (.cells #[.string { data:=#[70,68,82,49] },.string (bstr src),.string (bstr nb)] T)) fun e w'=>e = .returned (.tuple #[])∧Lib.IsBuilder 174 5 W1.heap.size W1.heap.size (Lib.byteCells ([70,68,82,49] ++ src ++ nb)) w'∧Below W1.heap.size W1 w'∧w'.cell? ⟨w.heap.size,0,none⟩ = some (.complex .f32 S1 S1')∧w'.cell? ⟨w.heap.size,1,none⟩ = some (.complex .f32 S2 S2')∧w'.cell? ⟨w.heap.size,2,none⟩ = some (.complex .f32 S3 S3')∧w'.cell? ⟨w.heap.size,3,none⟩ = some (.slice a0 n0 cap0)∧w'.cell? ⟨w.heap.size,4,none⟩ = some (.slice a1 n1 cap1):=fun T hT wr' h=>by
    refine (qpk W1.heap.size W1.heap.size [] [[70,68,82,49],src,nb] wr' _ T 3 (qgy hB2 h) (Nat.le_trans s2 h.size) hT rfl rfl (by show 3 ≤ 10;decide) (by decide) (fun s hs=>?_)).mono ?_
    · simp at hs
      rcases hs with rfl | rfl | rfl
      · decide
      · have:=hsl.1;omega
      · have:=hsl.2.1;omega
    · rintro e w' ⟨rfl,h1,h2,_⟩
      have q:=(b2.trans (h.mono s2)).trans h2
      refine ⟨rfl,?_,q,box w' q⟩
      have e:([]:Str) ++ [[70,68,82,49],src,nb].flatten = [70,68,82,49] ++ src ++ nb:=by simp
      rw [e] at h1;exact h1
  obtain ⟨g0,g1,g2,g3,g4⟩:=box W2 b2
  have al:∀ w' o,Below W2.heap.size W2 w'→(w'.alloc o).cell? ⟨w.heap.size,0,none⟩ = some (.complex .f32 S1 S1')∧(w'.alloc o).cell? ⟨w.heap.size,1,none⟩ = some (.complex .f32 S2 S2')∧(w'.alloc o).cell? ⟨w.heap.size,2,none⟩ = some (.complex .f32 S3 S3')∧(w'.alloc o).cell? ⟨w.heap.size,3,none⟩ = some (.slice a0 n0 cap0)∧(w'.alloc o).cell? ⟨w.heap.size,4,none⟩ = some (.slice a1 n1 cap1):=fun w' o h=>box _ ((b2.trans (h.mono s2)).trans ((Below.refl _ w').alloc (Nat.le_trans s2 h.size) _))
  have hlt1:w.heap.size < W1.heap.size:=by omega
  clear hW1 hW2 hv1 hb z1
  go_region_held3 (fun w'=>w'.cell? ⟨w.heap.size,0,none⟩ = some (.complex .f32 S1 S1')∧w'.cell? ⟨w.heap.size,1,none⟩ = some (.complex .f32 S2 S2')∧w'.cell? ⟨w.heap.size,2,none⟩ = some (.complex .f32 S3 S3')∧w'.cell? ⟨w.heap.size,3,none⟩ = some (.slice a0 n0 cap0)∧w'.cell? ⟨w.heap.size,4,none⟩ = some (.slice a1 n1 cap1))
    (first | exact ⟨q0,q1,q2,q3,q4⟩ | exact ⟨g0,g1,g2,g3,g4⟩ | exact al _ _ (by assumption))
    (first
      | (go_at_call 128;refine (hph' _ _ _ _ _ _ _ (by assumption) _ (by first | assumption | exact (Below.refl _ _).drew | exact Below.refl _ _)).mono ?_;rintro e w' ⟨rfl,q,q0,q1,q2,q3,q4⟩)
      | (go_at_call 44;refine (hby' _ _ _ (by assumption) _ (by first | assumption | exact (Below.refl _ _).drew | exact Below.refl _ _)).mono ?_;rintro e w' ⟨rfl,q,q0,q1,q2,q3,q4⟩)
      | (go_at_call 126;refine (put' _ (by decide) _ (by first | assumption | exact (Below.refl _ _).drew | exact Below.refl _ _)).mono ?_;rintro e w' ⟨rfl,hB6,b6,q0,q1,q2,q3,q4⟩))
  have bel6:Below w.heap.size w w':=bel1.trans (b6.mono (by omega))
  clear hph' hby' put' al hB2 b2 s2 g0 g1 g2 g3 g4
  go_wp2
  go_loopw [27] (fun i wr=>∃ k:Nat,k ≤ n0∧i = .int .i64 k∧Lib.IsBuilder 174 5 W1.heap.size W1.heap.size (Lib.byteCells (upTo (fun k=>tp k ++ to k ++ ts k ++ tk k ++ tl k ++ tc k) ([70,68,82,49] ++ src ++ nb) k)) wr∧Below W1.heap.size W1 wr)
    (fun i _=>n0 - (intOf i).toNat)
  case atStart=>exact ⟨0,Nat.zero_le _,rfl,hB6,b6⟩
  case round =>
    obtain ⟨k,hk,rfl,hB,bel⟩:=hrel
    clear hB6 b6 bel6 q0 q1 q2 q3 q4
    by_cases hlt:k < n0
    · obtain ⟨b,o,rfl,hbl',c0,c1,c2,c3,c4,c5,c6,c7⟩:=hbc k hlt
      clear hbc
      have hs:=bel1.size
      have cc:∀ (j:Nat) (v:Value),w.cell? ⟨b,o + k * 8 + j,none⟩ = some v→wr.cell? ⟨b,o + k * 8 + j,none⟩ = some v:=fun j v h=>(bel.cell (p:=⟨b,o + k * 8 + j,none⟩) (by show b < _;omega)).trans ((bel1.cell (p:=⟨b,o + k * 8 + j,none⟩) hbl').trans h)
      have c0:=cc 0 _ c0
      have c1:=cc 1 _ c1
      have c2:=cc 2 _ c2
      have c3:=cc 3 _ c3
      have c4:=cc 4 _ c4
      have c5:=cc 5 _ c5
      have c6:=cc 6 _ c6
      have c7:=cc 7 _ c7
      rw [Nat.add_zero] at c0
      clear cc
      have e1:=stB1 wr
      have e2:=stB2 wr
      have e4:=stB4 wr
      have e5:=stB5 wr
      have e6:=stB6 wr
      go_wp2
      obtain ⟨u0,u1,u2,u3,u4,u5,u6⟩:=hbus k hlt
      obtain ⟨l0,l1,l2,l3,l4,l5⟩:=hbl k
      have fl:∀ j,(upTo (fun k=>tp k ++ to k ++ ts k ++ tk k ++ tl k ++ tc k) ([70,68,82,49] ++ src ++ nb) j).length ≤ 4000 + 6000 * j:=fun j=>by
        induction j with
        | zero=>show ([70,68,82,49] ++ src ++ nb).length ≤ _;rw [List.length_append,List.length_append];show 4 + _ + _ ≤ _;omega
        | succ j ih =>
          show (upTo (fun k=>tp k ++ to k ++ ts k ++ tk k ++ tl k ++ tc k) ([70,68,82,49] ++ src ++ nb) j ++ (tp j ++ to j ++ ts j ++ tk j ++ tl j ++ tc j)).length ≤ _
          have h1:=hbl j
          simp only [List.length_append] at ih ⊢;omega
      clear hbus hbl c0 c1 c2 c3 c4 c5 c6 c7 e1 e2 e4 e5 e6
      obtain ⟨Wv,hWv⟩:∃ Wv,Wv = wr.alloc (.cells #[.int .i64 (BP k),.complex .f32 (BO k) (BO' k),.complex .f32 (BS k) (BS' k),.int .i64 (BK k),.complex .f32 (L1 k) (L1' k),.complex .f32 (L2 k) (L2' k),.complex .f32 (L3 k) (L3' k),.int .i64 (BC k)] 120):=⟨_,rfl⟩
      have hv:Wv.heap[wr.heap.size]? = some (.cells #[.int .i64 (BP k),.complex .f32 (BO k) (BO' k),.complex .f32 (BS k) (BS' k),.int .i64 (BK k),.complex .f32 (L1 k) (L1' k),.complex .f32 (L2 k) (L2' k),.complex .f32 (L3 k) (L3' k),.int .i64 (BC k)] 120 (0,0)):=by rw [hWv];exact heap_alloc_new wr _
      have bv:Below wr.heap.size wr Wv:=by rw [hWv];exact (Below.refl _ wr).alloc (Nat.le_refl _) _
      have szv:Wv.heap.size = wr.heap.size + 1:=by rw [hWv];simp
      rw [← hWv]
      have bel':Below W1.heap.size W1 Wv:=bel.trans (bv.mono bel.size)
      have hB':=qgy hB bv
      have hVlt:wr.heap.size < Wv.heap.size:=by omega
      have hVne:wr.heap.size ≠ W1.heap.size:=by
        rcases hB with h | h
        · have:=h.lt;omega
        · have:=h.lt;omega
      clear hWv szv
      generalize wr.heap.size = V at hv hVlt hVne bv ⊢
      have hVk:∀ w':World,w'.heap[V]? = some (.cells #[.int .i64 (BP k),.complex .f32 (BO k) (BO' k),.complex .f32 (BS k) (BS' k),.int .i64 (BK k),.complex .f32 (L1 k) (L1' k),.complex .f32 (L2 k) (L2' k),.complex .f32 (L3 k) (L3' k),.int .i64 (BC k)] 120 (0,0))→w'.cell? ⟨V,0,none⟩ = some (.int .i64 (BP k))∧w'.cell? ⟨V,1,none⟩ = some (.complex .f32 (BO k) (BO' k))∧w'.cell? ⟨V,2,none⟩ = some (.complex .f32 (BS k) (BS' k))∧w'.cell? ⟨V,3,none⟩ = some (.int .i64 (BK k))∧w'.cell? ⟨V,4,none⟩ = some (.complex .f32 (L1 k) (L1' k))∧w'.cell? ⟨V,5,none⟩ = some (.complex .f32 (L2 k) (L2' k))∧w'.cell? ⟨V,6,none⟩ = some (.complex .f32 (L3 k) (L3' k))∧w'.cell? ⟨V,7,none⟩ = some (.int .i64 (BC k)):=fun w' h=>⟨by rw [Lib.cell_of_heap h];rfl,by rw [Lib.cell_of_heap h];rfl,by rw [Lib.cell_of_heap h];rfl,by rw [Lib.cell_of_heap h];rfl,by rw [Lib.cell_of_heap h];rfl,by rw [Lib.cell_of_heap h];rfl,by rw [Lib.cell_of_heap h];rfl,by rw [Lib.cell_of_heap h];rfl⟩
      have sv:=bel'.size
      have kept:∀ w',Below Wv.heap.size Wv w'→w'.cell? ⟨V,0,none⟩ = some (.int .i64 (BP k))∧w'.cell? ⟨V,1,none⟩ = some (.complex .f32 (BO k) (BO' k))∧w'.cell? ⟨V,2,none⟩ = some (.complex .f32 (BS k) (BS' k))∧w'.cell? ⟨V,3,none⟩ = some (.int .i64 (BK k))∧w'.cell? ⟨V,4,none⟩ = some (.complex .f32 (L1 k) (L1' k))∧w'.cell? ⟨V,5,none⟩ = some (.complex .f32 (L2 k) (L2' k))∧w'.cell? ⟨V,6,none⟩ = some (.complex .f32 (L3 k) (L3' k))∧w'.cell? ⟨V,7,none⟩ = some (.int .i64 (BC k)):=fun w' h=>hVk w' ((h.block V hVlt).trans hv)
      have hph':∀ a a' b b' c c' s,pha a a' b b' c c' s→∀ wr',Below Wv.heap.size Wv wr'→Calls prog 128 #[.agg #[.complex .f32 a a',.complex .f32 b b',.complex .f32 c c']] wr' fun e w'=>e = .returned (.string (bstr s))∧Below Wv.heap.size Wv w'∧w'.cell? ⟨V,0,none⟩ = some (.int .i64 (BP k))∧w'.cell? ⟨V,1,none⟩ = some (.complex .f32 (BO k) (BO' k))∧w'.cell? ⟨V,2,none⟩ = some (.complex .f32 (BS k) (BS' k))∧w'.cell? ⟨V,3,none⟩ = some (.int .i64 (BK k))∧w'.cell? ⟨V,4,none⟩ = some (.complex .f32 (L1 k) (L1' k))∧w'.cell? ⟨V,5,none⟩ = some (.complex .f32 (L2 k) (L2' k))∧w'.cell? ⟨V,6,none⟩ = some (.complex .f32 (L3 k) (L3' k))∧w'.cell? ⟨V,7,none⟩ = some (.int .i64 (BC k)):=fun a a' b b' c c' s hs wr' h=>(hpha a a' b b' c c' s hs wr').mono fun e w' h' =>
        have q:=h.trans (h'.2.mono h.size)
        ⟨h'.1,q,kept w' q⟩
      have hby':∀ a c s,byt a c s→∀ wr',Below Wv.heap.size Wv wr'→Calls prog 44 #[.int .i64 a,.int .i64 c] wr' fun e w'=>e = .returned (.string (bstr s))∧Below Wv.heap.size Wv w'∧w'.cell? ⟨V,0,none⟩ = some (.int .i64 (BP k))∧w'.cell? ⟨V,1,none⟩ = some (.complex .f32 (BO k) (BO' k))∧w'.cell? ⟨V,2,none⟩ = some (.complex .f32 (BS k) (BS' k))∧w'.cell? ⟨V,3,none⟩ = some (.int .i64 (BK k))∧w'.cell? ⟨V,4,none⟩ = some (.complex .f32 (L1 k) (L1' k))∧w'.cell? ⟨V,5,none⟩ = some (.complex .f32 (L2 k) (L2' k))∧w'.cell? ⟨V,6,none⟩ = some (.complex .f32 (L3 k) (L3' k))∧w'.cell? ⟨V,7,none⟩ = some (.int .i64 (BC k)):=fun a c s hs wr' h=>(hbyt a c s hs wr').mono fun e w' h' =>
        have q:=h.trans (h'.2.mono h.size)
        ⟨h'.1,q,kept w' q⟩
      have hcx':∀ a c s,cpx a c s→∀ wr',Below Wv.heap.size Wv wr'→Calls prog 129 #[.complex .f32 a c] wr' fun e w'=>e = .returned (.string (bstr s))∧Below Wv.heap.size Wv w'∧w'.cell? ⟨V,0,none⟩ = some (.int .i64 (BP k))∧w'.cell? ⟨V,1,none⟩ = some (.complex .f32 (BO k) (BO' k))∧w'.cell? ⟨V,2,none⟩ = some (.complex .f32 (BS k) (BS' k))∧w'.cell? ⟨V,3,none⟩ = some (.int .i64 (BK k))∧w'.cell? ⟨V,4,none⟩ = some (.complex .f32 (L1 k) (L1' k))∧w'.cell? ⟨V,5,none⟩ = some (.complex .f32 (L2 k) (L2' k))∧w'.cell? ⟨V,6,none⟩ = some (.complex .f32 (L3 k) (L3' k))∧w'.cell? ⟨V,7,none⟩ = some (.int .i64 (BC k)):=fun a c s hs wr' h=>(hcpx a c s hs wr').mono fun e w' h' =>
        have q:=h.trans (h'.2.mono h.size)
        ⟨h'.1,q,kept w' q⟩
      have put':∀ T,T ≠ 5→∀ wr',Below Wv.heap.size Wv wr'→Calls prog 126 #[.slice (some ⟨wr'.heap.size,0,none⟩) 6 6,.pointer (some ⟨W1.heap.size,0,none⟩)] (wr'.alloc (.cells #[.string (bstr (tp k)),.string (bstr (to k)),.string (bstr (ts k)),.string (bstr (tk k)),.string (bstr (tl k)),.string (bstr (tc k))] T)) fun e w'=>e = .returned (.tuple #[])∧Lib.IsBuilder 174 5 W1.heap.size W1.heap.size (Lib.byteCells (upTo (fun k=>tp k ++ to k ++ ts k ++ tk k ++ tl k ++ tc k) ([70,68,82,49] ++ src ++ nb) (k + 1))) w'∧Below W1.heap.size W1 w'∧w'.cell? ⟨V,0,none⟩ = some (.int .i64 (BP k))∧w'.cell? ⟨V,1,none⟩ = some (.complex .f32 (BO k) (BO' k))∧w'.cell? ⟨V,2,none⟩ = some (.complex .f32 (BS k) (BS' k))∧w'.cell? ⟨V,3,none⟩ = some (.int .i64 (BK k))∧w'.cell? ⟨V,4,none⟩ = some (.complex .f32 (L1 k) (L1' k))∧w'.cell? ⟨V,5,none⟩ = some (.complex .f32 (L2 k) (L2' k))∧w'.cell? ⟨V,6,none⟩ = some (.complex .f32 (L3 k) (L3' k))∧w'.cell? ⟨V,7,none⟩ = some (.int .i64 (BC k)):=fun T hT wr' h=>by
        refine (qpk W1.heap.size W1.heap.size _ [tp k,to k,ts k,tk k,tl k,tc k] wr' _ T 6 (qgy hB' h) (Nat.le_trans sv h.size) hT rfl rfl (by show 6 ≤ 10;decide) ?_ (fun s hs=>?_)).mono ?_
        · have:=fl k;omega
        · simp at hs
          rcases hs with rfl | rfl | rfl | rfl | rfl | rfl <;> omega
        · rintro e w' ⟨rfl,h1,h2,h3⟩
          have q:=(bel'.trans (h.mono sv)).trans h2
          refine ⟨rfl,?_,q,hVk w' (h3 V _ ((h.block V hVlt).trans hv) (by intro hh;cases hh;exact hVne rfl) (fun c fz hh=>by cases hh))⟩
          have e:upTo (fun k=>tp k ++ to k ++ ts k ++ tk k ++ tl k ++ tc k) ([70,68,82,49] ++ src ++ nb) k ++ [tp k,to k,ts k,tk k,tl k,tc k].flatten = upTo (fun k=>tp k ++ to k ++ ts k ++ tk k ++ tl k ++ tc k) ([70,68,82,49] ++ src ++ nb) (k + 1):=by
            show _ = upTo (fun k=>tp k ++ to k ++ ts k ++ tk k ++ tl k ++ tc k) ([70,68,82,49] ++ src ++ nb) k ++ _
            simp [List.append_assoc]
          rw [e] at h1;exact h1
      obtain ⟨v0,v1,v2,v3,v4,v5,v6,v7⟩:=kept Wv (Below.refl _ _)
      have al:∀ w' o,Below Wv.heap.size Wv w'→(w'.alloc o).cell? ⟨V,0,none⟩ = some (.int .i64 (BP k))∧(w'.alloc o).cell? ⟨V,1,none⟩ = some (.complex .f32 (BO k) (BO' k))∧(w'.alloc o).cell? ⟨V,2,none⟩ = some (.complex .f32 (BS k) (BS' k))∧(w'.alloc o).cell? ⟨V,3,none⟩ = some (.int .i64 (BK k))∧(w'.alloc o).cell? ⟨V,4,none⟩ = some (.complex .f32 (L1 k) (L1' k))∧(w'.alloc o).cell? ⟨V,5,none⟩ = some (.complex .f32 (L2 k) (L2' k))∧(w'.alloc o).cell? ⟨V,6,none⟩ = some (.complex .f32 (L3 k) (L3' k))∧(w'.alloc o).cell? ⟨V,7,none⟩ = some (.int .i64 (BC k)):=fun w' o h=>kept _ (h.trans ((Below.refl _ w').alloc h.size _))
      clear hVk hv bv hB hB' kept bel bel' sv
      go_region_held3 (fun w'=>w'.cell? ⟨V,0,none⟩ = some (.int .i64 (BP k))∧w'.cell? ⟨V,1,none⟩ = some (.complex .f32 (BO k) (BO' k))∧w'.cell? ⟨V,2,none⟩ = some (.complex .f32 (BS k) (BS' k))∧w'.cell? ⟨V,3,none⟩ = some (.int .i64 (BK k))∧w'.cell? ⟨V,4,none⟩ = some (.complex .f32 (L1 k) (L1' k))∧w'.cell? ⟨V,5,none⟩ = some (.complex .f32 (L2 k) (L2' k))∧w'.cell? ⟨V,6,none⟩ = some (.complex .f32 (L3 k) (L3' k))∧w'.cell? ⟨V,7,none⟩ = some (.int .i64 (BC k)))
        (first | exact ⟨q0,q1,q2,q3,q4,q5,q6,q7⟩ | exact ⟨v0,v1,v2,v3,v4,v5,v6,v7⟩ | exact al _ _ (by assumption))
        (first
          | (go_at_call 128;refine (hph' _ _ _ _ _ _ _ (by assumption) _ (by first | assumption | exact (Below.refl _ _).drew | exact Below.refl _ _)).mono ?_;rintro e w' ⟨rfl,q,q0,q1,q2,q3,q4,q5,q6,q7⟩)
          | (go_at_call 44;refine (hby' _ _ _ (by assumption) _ (by first | assumption | exact (Below.refl _ _).drew | exact Below.refl _ _)).mono ?_;rintro e w' ⟨rfl,q,q0,q1,q2,q3,q4,q5,q6,q7⟩)
          | (go_at_call 129;refine (hcx' _ _ _ (by assumption) _ (by first | assumption | exact (Below.refl _ _).drew | exact Below.refl _ _)).mono ?_;rintro e w' ⟨rfl,q,q0,q1,q2,q3,q4,q5,q6,q7⟩)
          | (go_at_call 126;refine (put' _ (by decide) _ (by first | assumption | exact (Below.refl _ _).drew | exact Below.refl _ _)).mono ?_;rintro e w' ⟨rfl,hB6,b6,q0,q1,q2,q3,q4,q5,q6,q7⟩))
      all_goals (
        go_wp2
        go_roundw
        case rel=>exact ⟨k + 1,by omega,by go_num,hB6,b6⟩
        case measure=>simp [intOf];omega)
    · have hke:k = n0:=by omega
      subst hke
      clear hbc hbus
      have fl0:∀ j,(upTo (fun k=>tp k ++ to k ++ ts k ++ tk k ++ tl k ++ tc k) ([70,68,82,49] ++ src ++ nb) j).length ≤ 4000 + 6000 * j:=fun j=>by
        induction j with
        | zero=>show ([70,68,82,49] ++ src ++ nb).length ≤ _;rw [List.length_append,List.length_append];show 4 + _ + _ ≤ _;omega
        | succ j ih =>
          show (upTo (fun k=>tp k ++ to k ++ ts k ++ tk k ++ tl k ++ tc k) ([70,68,82,49] ++ src ++ nb) j ++ (tp j ++ to j ++ ts j ++ tk j ++ tl j ++ tc j)).length ≤ _
          have h1:=hbl j
          simp only [List.length_append] at ih ⊢;omega
      clear hbl
      obtain ⟨-,-,-,-,g4⟩:=box wr bel
      go_wp2_with (go_at_call 44;refine (hbyt _ _ _ hnt _).mono ?_)
      rintro e w3 ⟨rfl,b3⟩
      have hB3:=qgy hB b3
      have bel3:=bel.trans (b3.mono bel.size)
      clear hB bel b3 g4
      go_wp2_with (go_at_call 126;refine (qpk W1.heap.size W1.heap.size _ [nt] w3 _ _ 1 hB3 bel3.size (by decide) rfl rfl (by show 1 ≤ 10;decide) ?c1 ?c2).mono ?_)
      case c1=>have:=fl0 k;omega
      case c2 =>
        intro s hs
        simp at hs
        subst hs
        omega
      rintro e w4 ⟨rfl,hB4,b4,-⟩
      have bel4:=bel3.trans b4
      clear hB3 bel3 b4
      rw [show ([nt]:List Str).flatten = nt by simp] at hB4
      obtain ⟨-,-,-,-,g4⟩:=box w4 bel4
      go_wp2
      go_loopw [64] (fun i wr=>∃ m:Nat,m ≤ n1∧i = .int .i64 m∧Lib.IsBuilder 174 5 W1.heap.size W1.heap.size (Lib.byteCells (upTo (fun m=>xa m ++ xb m ++ xo m ++ xs m ++ xm m) (upTo (fun k=>tp k ++ to k ++ ts k ++ tk k ++ tl k ++ tc k) ([70,68,82,49] ++ src ++ nb) k ++ nt) m)) wr∧Below W1.heap.size W1 wr)
        (fun i _=>n1 - (intOf i).toNat)
      case atStart=>exact ⟨0,Nat.zero_le _,rfl,hB4,bel4⟩
      case round =>
      obtain ⟨m,hm,rfl,hB,bel⟩:=hrel
      clear hB4 bel4 g4
      by_cases hlt:m < n1
      · obtain ⟨b,o,rfl,hbl',c0,c1,c2,c3,c4⟩:=htc m hlt
        clear htc
        have hs:=bel1.size
        have cc:∀ (j:Nat) (v:Value),w.cell? ⟨b,o + m * 5 + j,none⟩ = some v→wr.cell? ⟨b,o + m * 5 + j,none⟩ = some v:=fun j v h=>(bel.cell (p:=⟨b,o + m * 5 + j,none⟩) (by show b < _;omega)).trans ((bel1.cell (p:=⟨b,o + m * 5 + j,none⟩) hbl').trans h)
        have c0:=cc 0 _ c0
        have c1:=cc 1 _ c1
        have c2:=cc 2 _ c2
        have c3:=cc 3 _ c3
        have c4:=cc 4 _ c4
        rw [Nat.add_zero] at c0
        clear cc
        have e2:=stT2 wr
        have e3:=stT3 wr
        go_wp2
        obtain ⟨u0,u1,u2,u3,u4⟩:=htie m hlt
        obtain ⟨l0,l1,l2,l3,l4⟩:=htl m
        have fl:∀ j,(upTo (fun m=>xa m ++ xb m ++ xo m ++ xs m ++ xm m) (upTo (fun k=>tp k ++ to k ++ ts k ++ tk k ++ tl k ++ tc k) ([70,68,82,49] ++ src ++ nb) k ++ nt) j).length ≤ 7000000 + 6000 * j:=fun j=>by
          induction j with
          | zero=>show (upTo (fun k=>tp k ++ to k ++ ts k ++ tk k ++ tl k ++ tc k) ([70,68,82,49] ++ src ++ nb) k ++ nt).length ≤ _;rw [List.length_append];have:=fl0 k;omega
          | succ j ih =>
            show (upTo (fun m=>xa m ++ xb m ++ xo m ++ xs m ++ xm m) (upTo (fun k=>tp k ++ to k ++ ts k ++ tk k ++ tl k ++ tc k) ([70,68,82,49] ++ src ++ nb) k ++ nt) j ++ (xa j ++ xb j ++ xo j ++ xs j ++ xm j)).length ≤ _
            have h1:=htl j
            simp only [List.length_append] at ih ⊢;omega
        clear htie htl c0 c1 c2 c3 c4 e2 e3 fl0
        obtain ⟨Wv,hWv⟩:∃ Wv,Wv = wr.alloc (.cells #[.int .i64 (TA m),.int .i64 (TB m),.complex .f32 (TO m) (TO' m),.complex .f32 (TS m) (TS' m),.int .i64 (TM m)] 123):=⟨_,rfl⟩
        have hv:Wv.heap[wr.heap.size]? = some (.cells #[.int .i64 (TA m),.int .i64 (TB m),.complex .f32 (TO m) (TO' m),.complex .f32 (TS m) (TS' m),.int .i64 (TM m)] 123 (0,0)):=by rw [hWv];exact heap_alloc_new wr _
        have bv:Below wr.heap.size wr Wv:=by rw [hWv];exact (Below.refl _ wr).alloc (Nat.le_refl _) _
        have szv:Wv.heap.size = wr.heap.size + 1:=by rw [hWv];simp
        rw [← hWv]
        have bel':Below W1.heap.size W1 Wv:=bel.trans (bv.mono bel.size)
        have hB':=qgy hB bv
        have hVlt:wr.heap.size < Wv.heap.size:=by omega
        have hVne:wr.heap.size ≠ W1.heap.size:=by
          rcases hB with h | h
          · have:=h.lt;omega
          · have:=h.lt;omega
        clear hWv szv
        generalize wr.heap.size = V at hv hVlt hVne bv ⊢
        have hVk:∀ w':World,w'.heap[V]? = some (.cells #[.int .i64 (TA m),.int .i64 (TB m),.complex .f32 (TO m) (TO' m),.complex .f32 (TS m) (TS' m),.int .i64 (TM m)] 123 (0,0))→w'.cell? ⟨V,0,none⟩ = some (.int .i64 (TA m))∧w'.cell? ⟨V,1,none⟩ = some (.int .i64 (TB m))∧w'.cell? ⟨V,2,none⟩ = some (.complex .f32 (TO m) (TO' m))∧w'.cell? ⟨V,3,none⟩ = some (.complex .f32 (TS m) (TS' m))∧w'.cell? ⟨V,4,none⟩ = some (.int .i64 (TM m)):=fun w' h=>⟨by rw [Lib.cell_of_heap h];rfl,by rw [Lib.cell_of_heap h];rfl,by rw [Lib.cell_of_heap h];rfl,by rw [Lib.cell_of_heap h];rfl,by rw [Lib.cell_of_heap h];rfl⟩
        have sv:=bel'.size
        have kept:∀ w',Below Wv.heap.size Wv w'→w'.cell? ⟨V,0,none⟩ = some (.int .i64 (TA m))∧w'.cell? ⟨V,1,none⟩ = some (.int .i64 (TB m))∧w'.cell? ⟨V,2,none⟩ = some (.complex .f32 (TO m) (TO' m))∧w'.cell? ⟨V,3,none⟩ = some (.complex .f32 (TS m) (TS' m))∧w'.cell? ⟨V,4,none⟩ = some (.int .i64 (TM m)):=fun w' h=>hVk w' ((h.block V hVlt).trans hv)
        have hph':∀ a a' b b' c c' s,pha a a' b b' c c' s→∀ wr',Below Wv.heap.size Wv wr'→Calls prog 128 #[.agg #[.complex .f32 a a',.complex .f32 b b',.complex .f32 c c']] wr' fun e w'=>e = .returned (.string (bstr s))∧Below Wv.heap.size Wv w'∧w'.cell? ⟨V,0,none⟩ = some (.int .i64 (TA m))∧w'.cell? ⟨V,1,none⟩ = some (.int .i64 (TB m))∧w'.cell? ⟨V,2,none⟩ = some (.complex .f32 (TO m) (TO' m))∧w'.cell? ⟨V,3,none⟩ = some (.complex .f32 (TS m) (TS' m))∧w'.cell? ⟨V,4,none⟩ = some (.int .i64 (TM m)):=fun a a' b b' c c' s hs wr' h=>(hpha a a' b b' c c' s hs wr').mono fun e w' h' =>
          have q:=h.trans (h'.2.mono h.size)
          ⟨h'.1,q,kept w' q⟩
        have hby':∀ a c s,byt a c s→∀ wr',Below Wv.heap.size Wv wr'→Calls prog 44 #[.int .i64 a,.int .i64 c] wr' fun e w'=>e = .returned (.string (bstr s))∧Below Wv.heap.size Wv w'∧w'.cell? ⟨V,0,none⟩ = some (.int .i64 (TA m))∧w'.cell? ⟨V,1,none⟩ = some (.int .i64 (TB m))∧w'.cell? ⟨V,2,none⟩ = some (.complex .f32 (TO m) (TO' m))∧w'.cell? ⟨V,3,none⟩ = some (.complex .f32 (TS m) (TS' m))∧w'.cell? ⟨V,4,none⟩ = some (.int .i64 (TM m)):=fun a c s hs wr' h=>(hbyt a c s hs wr').mono fun e w' h' =>
          have q:=h.trans (h'.2.mono h.size)
          ⟨h'.1,q,kept w' q⟩
        have hcx':∀ a c s,cpx a c s→∀ wr',Below Wv.heap.size Wv wr'→Calls prog 129 #[.complex .f32 a c] wr' fun e w'=>e = .returned (.string (bstr s))∧Below Wv.heap.size Wv w'∧w'.cell? ⟨V,0,none⟩ = some (.int .i64 (TA m))∧w'.cell? ⟨V,1,none⟩ = some (.int .i64 (TB m))∧w'.cell? ⟨V,2,none⟩ = some (.complex .f32 (TO m) (TO' m))∧w'.cell? ⟨V,3,none⟩ = some (.complex .f32 (TS m) (TS' m))∧w'.cell? ⟨V,4,none⟩ = some (.int .i64 (TM m)):=fun a c s hs wr' h=>(hcpx a c s hs wr').mono fun e w' h' =>
          have q:=h.trans (h'.2.mono h.size)
          ⟨h'.1,q,kept w' q⟩
        have put':∀ T,T ≠ 5→∀ wr',Below Wv.heap.size Wv wr'→Calls prog 126 #[.slice (some ⟨wr'.heap.size,0,none⟩) 5 5,.pointer (some ⟨W1.heap.size,0,none⟩)] (wr'.alloc (.cells #[.string (bstr (xa m)),.string (bstr (xb m)),.string (bstr (xo m)),.string (bstr (xs m)),.string (bstr (xm m))] T)) fun e w'=>e = .returned (.tuple #[])∧Lib.IsBuilder 174 5 W1.heap.size W1.heap.size (Lib.byteCells (upTo (fun m=>xa m ++ xb m ++ xo m ++ xs m ++ xm m) (upTo (fun k=>tp k ++ to k ++ ts k ++ tk k ++ tl k ++ tc k) ([70,68,82,49] ++ src ++ nb) k ++ nt) (m + 1))) w'∧Below W1.heap.size W1 w'∧w'.cell? ⟨V,0,none⟩ = some (.int .i64 (TA m))∧w'.cell? ⟨V,1,none⟩ = some (.int .i64 (TB m))∧w'.cell? ⟨V,2,none⟩ = some (.complex .f32 (TO m) (TO' m))∧w'.cell? ⟨V,3,none⟩ = some (.complex .f32 (TS m) (TS' m))∧w'.cell? ⟨V,4,none⟩ = some (.int .i64 (TM m)):=fun T hT wr' h=>by
          refine (qpk W1.heap.size W1.heap.size _ [xa m,xb m,xo m,xs m,xm m] wr' _ T 5 (qgy hB' h) (Nat.le_trans sv h.size) hT rfl rfl (by show 5 ≤ 10;decide) ?_ (fun s hs=>?_)).mono ?_
          · have:=fl m;omega
          · simp at hs
            rcases hs with rfl | rfl | rfl | rfl | rfl <;> omega
          · rintro e w' ⟨rfl,h1,h2,h3⟩
            have q:=(bel'.trans (h.mono sv)).trans h2
            refine ⟨rfl,?_,q,hVk w' (h3 V _ ((h.block V hVlt).trans hv) (by intro hh;cases hh;exact hVne rfl) (fun c fz hh=>by cases hh))⟩
            have e:upTo (fun m=>xa m ++ xb m ++ xo m ++ xs m ++ xm m) (upTo (fun k=>tp k ++ to k ++ ts k ++ tk k ++ tl k ++ tc k) ([70,68,82,49] ++ src ++ nb) k ++ nt) m ++ [xa m,xb m,xo m,xs m,xm m].flatten = upTo (fun m=>xa m ++ xb m ++ xo m ++ xs m ++ xm m) (upTo (fun k=>tp k ++ to k ++ ts k ++ tk k ++ tl k ++ tc k) ([70,68,82,49] ++ src ++ nb) k ++ nt) (m + 1):=by
              show _ = upTo (fun m=>xa m ++ xb m ++ xo m ++ xs m ++ xm m) (upTo (fun k=>tp k ++ to k ++ ts k ++ tk k ++ tl k ++ tc k) ([70,68,82,49] ++ src ++ nb) k ++ nt) m ++ _
              simp [List.append_assoc]
            rw [e] at h1;exact h1
        obtain ⟨v0,v1,v2,v3,v4⟩:=kept Wv (Below.refl _ _)
        have al:∀ w' o,Below Wv.heap.size Wv w'→(w'.alloc o).cell? ⟨V,0,none⟩ = some (.int .i64 (TA m))∧(w'.alloc o).cell? ⟨V,1,none⟩ = some (.int .i64 (TB m))∧(w'.alloc o).cell? ⟨V,2,none⟩ = some (.complex .f32 (TO m) (TO' m))∧(w'.alloc o).cell? ⟨V,3,none⟩ = some (.complex .f32 (TS m) (TS' m))∧(w'.alloc o).cell? ⟨V,4,none⟩ = some (.int .i64 (TM m)):=fun w' o h=>kept _ (h.trans ((Below.refl _ w').alloc h.size _))
        clear hVk hv bv hB hB' kept bel bel' sv
        go_region_held3 (fun w'=>w'.cell? ⟨V,0,none⟩ = some (.int .i64 (TA m))∧w'.cell? ⟨V,1,none⟩ = some (.int .i64 (TB m))∧w'.cell? ⟨V,2,none⟩ = some (.complex .f32 (TO m) (TO' m))∧w'.cell? ⟨V,3,none⟩ = some (.complex .f32 (TS m) (TS' m))∧w'.cell? ⟨V,4,none⟩ = some (.int .i64 (TM m)))
          (first | exact ⟨q0,q1,q2,q3,q4⟩ | exact ⟨v0,v1,v2,v3,v4⟩ | exact al _ _ (by assumption))
          (first
            | (go_at_call 128;refine (hph' _ _ _ _ _ _ _ (by assumption) _ (by first | assumption | exact (Below.refl _ _).drew | exact Below.refl _ _)).mono ?_;rintro e w' ⟨rfl,q,q0,q1,q2,q3,q4⟩)
            | (go_at_call 44;refine (hby' _ _ _ (by assumption) _ (by first | assumption | exact (Below.refl _ _).drew | exact Below.refl _ _)).mono ?_;rintro e w' ⟨rfl,q,q0,q1,q2,q3,q4⟩)
            | (go_at_call 129;refine (hcx' _ _ _ (by assumption) _ (by first | assumption | exact (Below.refl _ _).drew | exact Below.refl _ _)).mono ?_;rintro e w' ⟨rfl,q,q0,q1,q2,q3,q4⟩)
            | (go_at_call 126;refine (put' _ (by decide) _ (by first | assumption | exact (Below.refl _ _).drew | exact Below.refl _ _)).mono ?_;rintro e w' ⟨rfl,hB6,b6,q0,q1,q2,q3,q4⟩))
        all_goals (
          go_wp2
          go_roundw
          case rel=>exact ⟨m + 1,by omega,by go_num,hB6,b6⟩
          case measure=>simp [intOf];omega)
      · have hke:m = n1:=by omega
        subst hke
        obtain ⟨T,hT⟩:∃ T,upTo (fun m=>xa m ++ xb m ++ xo m ++ xs m ++ xm m) (upTo (fun k=>tp k ++ to k ++ ts k ++ tk k ++ tl k ++ tc k) ([70,68,82,49] ++ src ++ nb) k ++ nt) m = T:=⟨_,rfl⟩
        rw [hT] at hB
        go_wp2_with (go_at_call 130;refine (qpr _ _ _ _ hB bel.size).mono ?_)
        rintro e w5 ⟨rfl,b5⟩
        go_wp2
        go_ret
        exact ⟨by subst hT;simp only [List.append_assoc,List.cons_append,List.nil_append];rfl,bel1.trans ((bel.trans b5).mono (by omega))⟩
end
end Go.Proofs.Ytmllgpkgjniomaa.AWN

namespace Go.Proofs.Ytmllgpkgjniomaa.AWN
open Go Go.Shelf Go.RowKit Go.Proofs.Try
structure PhV where
  (a a' b b' c c':Nat)
structure BusV where
  (P K C:Int)
  (O O' S S':Nat)
  L:PhV
structure TieV where
  (A B M:Int)
  (O O' S S':Nat)
def encB (v:BusV):List D:=[.int .i64 v.P,.cx .f32 v.O v.O',.cx .f32 v.S v.S',.int .i64 v.K,.cx .f32 v.L.a v.L.a',.cx .f32 v.L.b v.L.b',.cx .f32 v.L.c v.L.c',.int .i64 v.C]
def encT (v:TieV):List D:=[.int .i64 v.A,.int .i64 v.B,.cx .f32 v.O v.O',.cx .f32 v.S v.S',.int .i64 v.M]
def mapS {α β:Type} (f:α→Option β):List α→Option (List β)
  | []=>some []
  | a :: r=>(f a).bind fun s=>(mapS f r).bind fun t=>some (s :: t)
theorem qpe {α β:Type} {f:α→Option β}:∀ {l:List α} {r:List β},mapS f l = some r→r.length = l.length∧∀ k (h:k < l.length),∃ y,r[k]? = some y∧f l[k] = some y
  | [],r,h=>by
    cases h
    exact ⟨rfl,fun k h=>absurd h (Nat.not_lt_zero _)⟩
  | a :: l,r,h=>by
    unfold mapS at h
    obtain ⟨s,hs,h⟩:=Option.bind_eq_some_iff.1 h
    obtain ⟨t,ht,h⟩:=Option.bind_eq_some_iff.1 h
    cases h
    obtain ⟨i1,i2⟩:=qpe ht
    refine ⟨by rw [List.length_cons,List.length_cons,i1],fun k hk=>?_⟩
    rcases k with _ | k
    · exact ⟨s,rfl,hs⟩
    · obtain ⟨y,h1,h2⟩:=i2 k (by simpa using hk)
      exact ⟨y,h1,h2⟩
section
variable (byt:Int→Int→Option Str) (cpx:Nat→Nat→Option Str) (pha:PhV→Option Str)
abbrev T6:=Str × Str × Str × Str × Str × Str
abbrev T5:=Str × Str × Str × Str × Str
def qr5 (v:BusV):Option T6 :=
  (byt (v.P + 1) 1).bind fun p=>(cpx v.O v.O').bind fun o=>(cpx v.S v.S').bind fun s=>(byt v.K 1).bind fun k=>(pha v.L).bind fun l=>(byt v.C 4).bind fun c =>
  grd ((p.length ≤ 1000∧o.length ≤ 1000∧s.length ≤ 1000∧k.length ≤ 1000∧l.length ≤ 1000∧c.length ≤ 1000)∧IntKind.i64.wrap (v.P + 1) = v.P + 1) (some (p,o,s,k,l,c))
def qrh (v:TieV):Option T5 :=
  (byt v.A 1).bind fun a=>(byt v.B 1).bind fun b=>(cpx v.O v.O').bind fun o=>(cpx v.S v.S').bind fun s=>(byt v.M 4).bind fun m =>
  grd (a.length ≤ 1000∧b.length ≤ 1000∧o.length ≤ 1000∧s.length ≤ 1000∧m.length ≤ 1000) (some (a,b,o,s,m))
def d6:T6:=([],[],[],[],[],[])
def d5:T5:=([],[],[],[],[])
def qpq (S:PhV) (Bs:List BusV) (Ts:List TieV):Option Str :=
  grd (Bs.length ≤ 1000∧Ts.length ≤ 1000) <|
  (pha S).bind fun src=>(byt (Bs.length:Int) 1).bind fun nb=>(byt (Ts.length:Int) 1).bind fun nt =>
  grd (src.length ≤ 1000∧nb.length ≤ 1000∧nt.length ≤ 1000) <|
  (mapS (qr5 byt cpx pha) Bs).bind fun bs=>(mapS (qrh byt cpx) Ts).bind fun ts =>
  some (upTo (fun m=>(ts.getD m d5).1 ++ (ts.getD m d5).2.1 ++ (ts.getD m d5).2.2.1 ++ (ts.getD m d5).2.2.2.1 ++ (ts.getD m d5).2.2.2.2)
    (upTo (fun k=>(bs.getD k d6).1 ++ (bs.getD k d6).2.1 ++ (bs.getD k d6).2.2.1 ++ (bs.getD k d6).2.2.2.1 ++ (bs.getD k d6).2.2.2.2.1 ++ (bs.getD k d6).2.2.2.2.2) ([70,68,82,49] ++ src ++ nb) Bs.length ++ nt) Ts.length)
end
theorem grd_some' {α:Type} {p:Prop} [Decidable p] {x:Option α} {y:α} (h:grd p x = some y):p∧x = some y:=by
  unfold grd at h
  split at h
  · exact ⟨by assumption,h⟩
  · cases h
theorem qny {byt:Int→Int→Option Str} {cpx:Nat→Nat→Option Str} {pha:PhV→Option Str} {v:BusV} {y:T6} (h:qr5 byt cpx pha v = some y):byt (v.P + 1) 1 = some y.1∧cpx v.O v.O' = some y.2.1∧cpx v.S v.S' = some y.2.2.1∧byt v.K 1 = some y.2.2.2.1∧pha v.L = some y.2.2.2.2.1∧byt v.C 4 = some y.2.2.2.2.2∧(y.1.length ≤ 1000∧y.2.1.length ≤ 1000∧y.2.2.1.length ≤ 1000∧y.2.2.2.1.length ≤ 1000∧y.2.2.2.2.1.length ≤ 1000∧y.2.2.2.2.2.length ≤ 1000)∧IntKind.i64.wrap (v.P + 1) = v.P + 1:=by
  unfold qr5 at h
  obtain ⟨p,e1,h⟩:=Option.bind_eq_some_iff.1 h
  obtain ⟨o,e2,h⟩:=Option.bind_eq_some_iff.1 h
  obtain ⟨s,e3,h⟩:=Option.bind_eq_some_iff.1 h
  obtain ⟨k,e4,h⟩:=Option.bind_eq_some_iff.1 h
  obtain ⟨l,e5,h⟩:=Option.bind_eq_some_iff.1 h
  obtain ⟨c,e6,h⟩:=Option.bind_eq_some_iff.1 h
  obtain ⟨g,h⟩:=grd_some' h
  cases h
  exact ⟨e1,e2,e3,e4,e5,e6,g⟩
theorem qot {byt:Int→Int→Option Str} {cpx:Nat→Nat→Option Str} {v:TieV} {y:T5} (h:qrh byt cpx v = some y):byt v.A 1 = some y.1∧byt v.B 1 = some y.2.1∧cpx v.O v.O' = some y.2.2.1∧cpx v.S v.S' = some y.2.2.2.1∧byt v.M 4 = some y.2.2.2.2∧(y.1.length ≤ 1000∧y.2.1.length ≤ 1000∧y.2.2.1.length ≤ 1000∧y.2.2.2.1.length ≤ 1000∧y.2.2.2.2.length ≤ 1000):=by
  unfold qrh at h
  obtain ⟨p,e1,h⟩:=Option.bind_eq_some_iff.1 h
  obtain ⟨o,e2,h⟩:=Option.bind_eq_some_iff.1 h
  obtain ⟨s,e3,h⟩:=Option.bind_eq_some_iff.1 h
  obtain ⟨k,e4,h⟩:=Option.bind_eq_some_iff.1 h
  obtain ⟨l,e5,h⟩:=Option.bind_eq_some_iff.1 h
  obtain ⟨g,h⟩:=grd_some' h
  cases h
  exact ⟨e1,e2,e3,e4,e5,g⟩
theorem qto {α:Type} {e:α→List D} {sz:Nat} (hsz:∀ a,(e a).length = sz) {W:World} {ok:Nat→Prop} (hok:∀ b,ok b→b < W.heap.size) {l:List α} {v:Value} (h:RelD W ok (.sl false (l.map e)) v) :
    ∃ a cap,v = .slice a l.length cap∧l.length ≤ maxLen∧∃ vs:Nat→Nat→Value,∀ k (hk:k < l.length),∃ b o,a = some ⟨b,o,none⟩∧b < W.heap.size∧∀ j,(hj:j < (e l[k]).length)→W.cell? ⟨b,o + k * sz + j,none⟩ = some (vs k j)∧RelD W ok (e l[k])[j] (vs k j):=by
  generalize hes:l.map e = es at h
  cases h with
  | slnil =>
    have:l = []:=by simpa using hes
    subst this
    exact ⟨none,0,rfl,Nat.zero_le _,fun _ _=>undef,fun k hk=>absurd hk (Nat.not_lt_zero _)⟩
  | sle =>
    have:l = []:=by simpa using hes
    subst this
    exact ⟨_,0,rfl,Nat.zero_le _,fun _ _=>undef,fun k hk=>absurd hk (Nat.not_lt_zero _)⟩
  | sl sz' vs k1 k2 k3 k4 k5 k6 k7 k8 =>
    rename_i b o len cap
    subst hes
    rw [List.length_map] at k2
    subst k2
    refine ⟨_,cap,rfl,k5,vs,fun k hk=>⟨b,o,rfl,hok _ (k1 (by
      intro hnil
      have:l = []:=by simpa using hnil
      rw [this] at hk;exact absurd hk (Nat.not_lt_zero _))),fun j hj=>?_⟩⟩
    have ek:(l.map e).getD k [] = e l[k]:=by
      rw [List.getD_eq_getElem?_getD,List.getElem?_map,List.getElem?_eq_getElem hk];rfl
    have h6:=k6 k hk
    rw [ek,hsz] at h6
    subst h6
    have hj':j < sz:=by rw [← hsz l[k]];exact hj
    have c:=k7 k j hk hj'
    have r:=k8 k j hk hj'
    rw [ek] at r
    refine ⟨by simpa [Nat.add_assoc] using c,?_⟩
    have:(e l[k]).getD j default = (e l[k])[j]:=by
      rw [List.getD_eq_getElem?_getD,List.getElem?_eq_getElem hj];rfl
    first | exact this ▸ r | simpa [List.getD_eq_getElem?_getD,List.getElem?_eq_getElem hj] using r
theorem qkl (W:World):∀ g vs,qqe g = some vs→∃ T fr,W.heap[g]? = some (.cells vs T fr):=fun g vs h=>by cases h
theorem qon {W:World} {ok:Nat→Prop} {k:IntKind} {z:Int} {v:Value} (h:RelD W ok (.int k z) v):v = .int k z:=by cases h;rfl
theorem qqq {W:World} {ok:Nat→Prop} {x y:Nat} {v:Value} (h:RelD W ok (.cx .f32 x y) v):∃ b c,v = .complex .f32 b c∧canon .f32 b = x∧canon .f32 c = y∧b < 2 ^ FloatKind.f32.format.width∧c < 2 ^ FloatKind.f32.format.width:=by
  cases h with | cx h1 h2 h3 h4=>exact ⟨_,_,rfl,h1,h2,h3,h4⟩
section
variable {α γ:Type} {eB:α→List D} {eT:γ→List D} {vB:α→BusV} {vT:γ→TieV} (hfB:∀ a,eB a = encB (vB a)) (hfT:∀ a,eT a = encT (vT a))
variable {byt:Int→Int→Option Str} {cpx:Nat→Nat→Option Str} {pha:PhV→Option Str}
variable (hbyt:∀ a b r,byt a b = some r→qb5 prog false 44 [.d (.int .i64 a),.d (.int .i64 b)] [] (fun v o n=>v = .d (.str (bstr r))∧o = []∧n = []))
variable (hcpx:∀ a b r,cpx a b = some r→qb5 prog false 129 [.d (.cx .f32 a b)] [] (fun v o n=>v = .d (.str (bstr r))∧o = []∧n = []))
variable (hpha:∀ p r,pha p = some r→qb5 prog false 128 [.agg [.d (.cx .f32 p.a p.a'),.d (.cx .f32 p.b p.b'),.d (.cx .f32 p.c p.c')]] [] (fun v o n=>v = .d (.str (bstr r))∧o = []∧n = []))
include hfB hfT hbyt hcpx hpha
theorem stored_does {fr:Bool} {S:PhV} {Bs:List α} {Ts:List γ} {r:Str} (h:qpq byt cpx pha S (Bs.map vB) (Ts.map vT) = some r) :
    qb5 prog fr 84 [.agg [.d (.cx .f32 S.a S.a'),.d (.cx .f32 S.b S.b'),.d (.cx .f32 S.c S.c'),.d (.sl false (Bs.map eB)),.d (.sl false (Ts.map eT))]] [] (fun v o n=>v = .d (.str (bstr r))∧o = []∧n = []):=by
  refine qmr fun W hb H ok vals hl hok hr=>?_
  obtain ⟨v,rfl,h1⟩:=qph hr
  obtain ⟨s1,s1',s2,s2',s3,s3',u0,u1,rfl,ms,m0,m1⟩:∃ s1 s1' s2 s2' s3 s3' u0 u1,v = .agg #[.complex .f32 s1 s1',.complex .f32 s2 s2',.complex .f32 s3 s3',u0,u1]∧(∀ W' hb H ok',Rel W' hb H ok' (.agg [.d (.cx .f32 S.a S.a'),.d (.cx .f32 S.b S.b'),.d (.cx .f32 S.c S.c')]) (.agg #[.complex .f32 s1 s1',.complex .f32 s2 s2',.complex .f32 s3 s3']))∧RelD W ok (.sl false (Bs.map eB)) u0∧RelD W ok (.sl false (Ts.map eT)) u1:=by
    cases h1 with
    | agg g1 g2 =>
      rename_i a
      have hs:a.size = 5:=by simp at g1;omega
      obtain ⟨b0,c0,e0,x0,y0,p0,q0⟩:=qlp (g2 0 (by omega))
      obtain ⟨b1,c1,e1,x1,y1,p1,q1⟩:=qlp (g2 1 (by omega))
      obtain ⟨b2,c2,e2,x2,y2,p2,q2⟩:=qlp (g2 2 (by omega))
      have r3:=g2 3 (by omega)
      have r4:=g2 4 (by omega)
      have s3:RelD W ok (.sl false (Bs.map eB)) (a.getD 3 undef):=by
        cases r3 with | d h=>exact h
      have s4:RelD W ok (.sl false (Ts.map eT)) (a.getD 4 undef):=by
        cases r4 with | d h=>exact h
      refine ⟨b0,c0,b1,c1,b2,c2,a.getD 3 undef,a.getD 4 undef,?_,fun W' hb H ok'=>.agg rfl fun i hi=>?_,s3,s4⟩
      · congr 1
        apply Array.ext
        · simp;omega
        · intro i hi hj
          simp at hj
          have:i = 0 ∨ i = 1 ∨ i = 2 ∨ i = 3 ∨ i = 4:=by omega
          rcases this with rfl | rfl | rfl | rfl | rfl
          · rw [Array.getD_eq_getD_getElem?,Array.getElem?_eq_getElem hi] at e0;exact e0
          · rw [Array.getD_eq_getD_getElem?,Array.getElem?_eq_getElem hi] at e1;exact e1
          · rw [Array.getD_eq_getD_getElem?,Array.getElem?_eq_getElem hi] at e2;exact e2
          · simp [Array.getD_eq_getD_getElem?,Array.getElem?_eq_getElem hi]
          · simp [Array.getD_eq_getD_getElem?,Array.getElem?_eq_getElem hi]
      · rcases i with _ | _ | _ | i
        · exact qlm x0 y0 p0 q0
        · exact qlm x1 y1 p1 q1
        · exact qlm x2 y2 p2 q2
        · simp at hi;omega
  obtain ⟨a0,cap0,rfl,n0,vb,hB⟩:=qto (sz:=8) (fun a=>by rw [hfB];rfl) hok m0
  obtain ⟨a1,cap1,rfl,n1,vt,hT⟩:=qto (sz:=5) (fun a=>by rw [hfT];rfl) hok m1
  -- the model,opened
  unfold qpq at h
  obtain ⟨hn,h⟩:=grd_some' h
  obtain ⟨src,esrc,h⟩:=Option.bind_eq_some_iff.1 h
  obtain ⟨nb,enb,h⟩:=Option.bind_eq_some_iff.1 h
  obtain ⟨nt,ent,h⟩:=Option.bind_eq_some_iff.1 h
  obtain ⟨hsl,h⟩:=grd_some' h
  obtain ⟨bs,ebs,h⟩:=Option.bind_eq_some_iff.1 h
  obtain ⟨ts,ets,h⟩:=Option.bind_eq_some_iff.1 h
  obtain ⟨lb,gb⟩:=qpe ebs
  obtain ⟨lt,gt⟩:=qpe ets
  simp only [List.length_map] at hn enb ent h lb lt
  cases h
  -- predicates on the words in memory
  have hB':∀ k,∃ X:BusV,∀ (hk:k < Bs.length),(X.P = (vB Bs[k]).P∧X.K = (vB Bs[k]).K∧X.C = (vB Bs[k]).C∧(canon .f32 X.O = (vB Bs[k]).O∧canon .f32 X.O' = (vB Bs[k]).O'∧X.O < 2 ^ FloatKind.f32.format.width∧X.O' < 2 ^ FloatKind.f32.format.width)∧(canon .f32 X.S = (vB Bs[k]).S∧canon .f32 X.S' = (vB Bs[k]).S'∧X.S < 2 ^ FloatKind.f32.format.width∧X.S' < 2 ^ FloatKind.f32.format.width)∧(canon .f32 X.L.a = (vB Bs[k]).L.a∧canon .f32 X.L.a' = (vB Bs[k]).L.a'∧X.L.a < 2 ^ FloatKind.f32.format.width∧X.L.a' < 2 ^ FloatKind.f32.format.width)∧(canon .f32 X.L.b = (vB Bs[k]).L.b∧canon .f32 X.L.b' = (vB Bs[k]).L.b'∧X.L.b < 2 ^ FloatKind.f32.format.width∧X.L.b' < 2 ^ FloatKind.f32.format.width)∧(canon .f32 X.L.c = (vB Bs[k]).L.c∧canon .f32 X.L.c' = (vB Bs[k]).L.c'∧X.L.c < 2 ^ FloatKind.f32.format.width∧X.L.c' < 2 ^ FloatKind.f32.format.width)) ∧
      ∃ b o,a0 = some ⟨b,o,none⟩∧b < W.heap.size∧W.cell? ⟨b,o + k * 8,none⟩ = some (.int .i64 X.P)∧W.cell? ⟨b,o + k * 8 + 1,none⟩ = some (.complex .f32 X.O X.O')∧W.cell? ⟨b,o + k * 8 + 2,none⟩ = some (.complex .f32 X.S X.S')∧W.cell? ⟨b,o + k * 8 + 3,none⟩ = some (.int .i64 X.K)∧W.cell? ⟨b,o + k * 8 + 4,none⟩ = some (.complex .f32 X.L.a X.L.a')∧W.cell? ⟨b,o + k * 8 + 5,none⟩ = some (.complex .f32 X.L.b X.L.b')∧W.cell? ⟨b,o + k * 8 + 6,none⟩ = some (.complex .f32 X.L.c X.L.c')∧W.cell? ⟨b,o + k * 8 + 7,none⟩ = some (.int .i64 X.C):=by
    intro k
    by_cases hk:k < Bs.length
    · obtain ⟨b,o,ea,hbl,hc⟩:=hB k hk
      have e8:(eB Bs[k]).length = 8:=by rw [hfB];rfl
      have hc':∀ j (hj:j < 8),W.cell? ⟨b,o + k * 8 + j,none⟩ = some (vb k j)∧RelD W ok ((encB (vB Bs[k])).getD j default) (vb k j):=fun j hj=>by
        obtain ⟨c,d⟩:=hc j (by omega)
        refine ⟨c,?_⟩
        have:(encB (vB Bs[k])).getD j default = (eB Bs[k])[j]'(by omega):=by
          rw [List.getD_eq_getElem?_getD,← hfB,List.getElem?_eq_getElem (by omega)];rfl
        rw [this];exact d
      obtain ⟨c0,d0⟩:=hc' 0 (by omega)
      obtain ⟨c1,d1⟩:=hc' 1 (by omega)
      obtain ⟨c2,d2⟩:=hc' 2 (by omega)
      obtain ⟨c3,d3⟩:=hc' 3 (by omega)
      obtain ⟨c4,d4⟩:=hc' 4 (by omega)
      obtain ⟨c5,d5⟩:=hc' 5 (by omega)
      obtain ⟨c6,d6⟩:=hc' 6 (by omega)
      obtain ⟨c7,d7⟩:=hc' 7 (by omega)
      have d0:=qon (z:=(vB Bs[k]).P) d0
      obtain ⟨x1,y1,d1,p1⟩:=qqq (x:=(vB Bs[k]).O) (y:=(vB Bs[k]).O') d1
      obtain ⟨x2,y2,d2,p2⟩:=qqq (x:=(vB Bs[k]).S) (y:=(vB Bs[k]).S') d2
      have d3:=qon (z:=(vB Bs[k]).K) d3
      obtain ⟨x4,y4,d4,p4⟩:=qqq (x:=(vB Bs[k]).L.a) (y:=(vB Bs[k]).L.a') d4
      obtain ⟨x5,y5,d5,p5⟩:=qqq (x:=(vB Bs[k]).L.b) (y:=(vB Bs[k]).L.b') d5
      obtain ⟨x6,y6,d6,p6⟩:=qqq (x:=(vB Bs[k]).L.c) (y:=(vB Bs[k]).L.c') d6
      have d7:=qon (z:=(vB Bs[k]).C) d7
      rw [d0] at c0;rw [d1] at c1;rw [d2] at c2;rw [d3] at c3;rw [d4] at c4;rw [d5] at c5;rw [d6] at c6;rw [d7] at c7
      exact ⟨⟨_,_,_,x1,y1,x2,y2,⟨x4,y4,x5,y5,x6,y6⟩⟩,fun _=>⟨⟨rfl,rfl,rfl,p1,p2,p4,p5,p6⟩,b,o,ea,hbl,c0,c1,c2,c3,c4,c5,c6,c7⟩⟩
    · exact ⟨⟨0,0,0,0,0,0,0,⟨0,0,0,0,0,0⟩⟩,fun h=>absurd h hk⟩
  have hT':∀ k,∃ X:TieV,∀ (hk:k < Ts.length),(X.A = (vT Ts[k]).A∧X.B = (vT Ts[k]).B∧X.M = (vT Ts[k]).M∧(canon .f32 X.O = (vT Ts[k]).O∧canon .f32 X.O' = (vT Ts[k]).O'∧X.O < 2 ^ FloatKind.f32.format.width∧X.O' < 2 ^ FloatKind.f32.format.width)∧(canon .f32 X.S = (vT Ts[k]).S∧canon .f32 X.S' = (vT Ts[k]).S'∧X.S < 2 ^ FloatKind.f32.format.width∧X.S' < 2 ^ FloatKind.f32.format.width)) ∧
      ∃ b o,a1 = some ⟨b,o,none⟩∧b < W.heap.size∧W.cell? ⟨b,o + k * 5,none⟩ = some (.int .i64 X.A)∧W.cell? ⟨b,o + k * 5 + 1,none⟩ = some (.int .i64 X.B)∧W.cell? ⟨b,o + k * 5 + 2,none⟩ = some (.complex .f32 X.O X.O')∧W.cell? ⟨b,o + k * 5 + 3,none⟩ = some (.complex .f32 X.S X.S')∧W.cell? ⟨b,o + k * 5 + 4,none⟩ = some (.int .i64 X.M):=by
    intro k
    by_cases hk:k < Ts.length
    · obtain ⟨b,o,ea,hbl,hc⟩:=hT k hk
      have e8:(eT Ts[k]).length = 5:=by rw [hfT];rfl
      have hc':∀ j (hj:j < 5),W.cell? ⟨b,o + k * 5 + j,none⟩ = some (vt k j)∧RelD W ok ((encT (vT Ts[k])).getD j default) (vt k j):=fun j hj=>by
        obtain ⟨c,d⟩:=hc j (by omega)
        refine ⟨c,?_⟩
        have:(encT (vT Ts[k])).getD j default = (eT Ts[k])[j]'(by omega):=by
          rw [List.getD_eq_getElem?_getD,← hfT,List.getElem?_eq_getElem (by omega)];rfl
        rw [this];exact d
      obtain ⟨c0,d0⟩:=hc' 0 (by omega)
      obtain ⟨c1,d1⟩:=hc' 1 (by omega)
      obtain ⟨c2,d2⟩:=hc' 2 (by omega)
      obtain ⟨c3,d3⟩:=hc' 3 (by omega)
      obtain ⟨c4,d4⟩:=hc' 4 (by omega)
      have d0:=qon (z:=(vT Ts[k]).A) d0
      have d1:=qon (z:=(vT Ts[k]).B) d1
      obtain ⟨x2,y2,d2,p2⟩:=qqq (x:=(vT Ts[k]).O) (y:=(vT Ts[k]).O') d2
      obtain ⟨x3,y3,d3,p3⟩:=qqq (x:=(vT Ts[k]).S) (y:=(vT Ts[k]).S') d3
      have d4:=qon (z:=(vT Ts[k]).M) d4
      rw [d0] at c0;rw [d1] at c1;rw [d2] at c2;rw [d3] at c3;rw [d4] at c4
      exact ⟨⟨_,_,_,x2,y2,x3,y3⟩,fun _=>⟨⟨rfl,rfl,rfl,p2,p3⟩,b,o,ea,hbl,c0,c1,c2,c3,c4⟩⟩
    · exact ⟨⟨0,0,0,0,0,0,0⟩,fun h=>absurd h hk⟩
  obtain ⟨X,hX⟩:=Classical.axiomOfChoice hB'
  obtain ⟨Y,hY⟩:=Classical.axiomOfChoice hT'
  clear hB' hT' hB hT
  let bp:Int→Int→Str→Prop:=fun a c s=>byt a c = some s
  let cp:Nat→Nat→Str→Prop:=fun a c s=>∃ x y,canon .f32 a = x∧canon .f32 c = y∧a < 2 ^ FloatKind.f32.format.width∧c < 2 ^ FloatKind.f32.format.width∧cpx x y = some s
  let pp:Nat→Nat→Nat→Nat→Nat→Nat→Str→Prop:=fun a a' b b' c c' s=>∃ p:PhV,(∀ W' hb H ok',Rel W' hb H ok' (.agg [.d (.cx .f32 p.a p.a'),.d (.cx .f32 p.b p.b'),.d (.cx .f32 p.c p.c')]) (.agg #[.complex .f32 a a',.complex .f32 b b',.complex .f32 c c']))∧pha p = some s
  have hbp:∀ a c s,bp a c s→∀ wr,Calls prog 44 #[.int .i64 a,.int .i64 c] wr fun e w'=>e = .returned (.string (bstr s))∧Below wr.heap.size wr w':=fun a c s h wr =>
    qfm (qkl wr) (hbyt a c s h) (ql3 (qfj _ _) (qfj _ _)) fun _ _ _ _ _ h=>qix h
  have hcp:∀ a c s,cp a c s→∀ wr,Calls prog 129 #[.complex .f32 a c] wr fun e w'=>e = .returned (.string (bstr s))∧Below wr.heap.size wr w':=fun a c s ⟨x,y,h1,h2,h3,h4,h⟩ wr =>
    qfm (qkl wr) (hcpx x y s h) (qoo (qlm h1 h2 h3 h4)) fun _ _ _ _ _ h=>qix h
  have hpp:∀ a a' b b' c c' s,pp a a' b b' c c' s→∀ wr,Calls prog 128 #[.agg #[.complex .f32 a a',.complex .f32 b b',.complex .f32 c c']] wr fun e w'=>e = .returned (.string (bstr s))∧Below wr.heap.size wr w':=fun a a' b b' c c' s ⟨p,h1,h⟩ wr =>
    qfm (qkl wr) (hpha p s h) (qoo (h1 _ _ _ _)) fun _ _ _ _ _ h=>qix h
  have tb:∀ k (hk:k < Bs.length),qr5 byt cpx pha (vB Bs[k]) = some (bs.getD k d6):=fun k hk=>by
    obtain ⟨y,h1,h2⟩:=gb k (by rw [List.length_map];exact hk)
    rw [List.getElem_map] at h2
    rw [h2,List.getD_eq_getElem?_getD,h1];rfl
  have tt:∀ k (hk:k < Ts.length),qrh byt cpx (vT Ts[k]) = some (ts.getD k d5):=fun k hk=>by
    obtain ⟨y,h1,h2⟩:=gt k (by rw [List.length_map];exact hk)
    rw [List.getElem_map] at h2
    rw [h2,List.getD_eq_getElem?_getD,h1];rfl
  refine (stored_walk bp cp pp hbp hcp hpp W s1 s1' s2 s2' s3 s3' a0 a1 Bs.length cap0 Ts.length cap1 src nb nt ⟨S,ms,esrc⟩ enb ent hn hsl
    (fun k=>(X k).P) (fun k=>(X k).K) (fun k=>(X k).C) (fun k=>(X k).O) (fun k=>(X k).O') (fun k=>(X k).S) (fun k=>(X k).S') (fun k=>(X k).L.a) (fun k=>(X k).L.a') (fun k=>(X k).L.b) (fun k=>(X k).L.b') (fun k=>(X k).L.c) (fun k=>(X k).L.c')
    (fun k=>(bs.getD k d6).1) (fun k=>(bs.getD k d6).2.1) (fun k=>(bs.getD k d6).2.2.1) (fun k=>(bs.getD k d6).2.2.2.1) (fun k=>(bs.getD k d6).2.2.2.2.1) (fun k=>(bs.getD k d6).2.2.2.2.2)
    ?_ ?_ (fun k hk=>(hX k hk).2)
    (fun k=>(Y k).A) (fun k=>(Y k).B) (fun k=>(Y k).M) (fun k=>(Y k).O) (fun k=>(Y k).O') (fun k=>(Y k).S) (fun k=>(Y k).S')
    (fun k=>(ts.getD k d5).1) (fun k=>(ts.getD k d5).2.1) (fun k=>(ts.getD k d5).2.2.1) (fun k=>(ts.getD k d5).2.2.2.1) (fun k=>(ts.getD k d5).2.2.2.2)
    ?_ ?_ (fun k hk=>(hY k hk).2)).mono ?_
  · intro k hk
    obtain ⟨⟨x1,x2,x3,x4,x5,x6,x7,x8⟩,_⟩:=hX k hk
    obtain ⟨y1,y2,y3,y4,y5,y6,y7,y8⟩:=qny (tb k hk)
    refine ⟨?_,⟨_,_,x4.1,x4.2.1,x4.2.2.1,x4.2.2.2,y2⟩,⟨_,_,x5.1,x5.2.1,x5.2.2.1,x5.2.2.2,y3⟩,?_,⟨(vB Bs[k]).L,fun W' hb H ok'=>.agg rfl fun i hi=>?_,y5⟩,?_,?_⟩
    · show byt ((X k).P + 1) 1 = _
      rw [x1];exact y1
    · show byt (X k).K 1 = _
      rw [x2];exact y4
    · rcases i with _ | _ | _ | i
      · exact qlm x6.1 x6.2.1 x6.2.2.1 x6.2.2.2
      · exact qlm x7.1 x7.2.1 x7.2.2.1 x7.2.2.2
      · exact qlm x8.1 x8.2.1 x8.2.2.1 x8.2.2.2
      · simp at hi;omega
    · show byt (X k).C 4 = _
      rw [x3];exact y6
    · show IntKind.i64.wrap ((X k).P + 1) = (X k).P + 1
      rw [x1];exact y8
  · intro k
    by_cases hk:k < Bs.length
    · exact (qny (tb k hk)).2.2.2.2.2.2.1
    · have:bs.getD k d6 = d6:=by rw [List.getD_eq_getElem?_getD,List.getElem?_eq_none (by omega)];rfl
      rw [this]
      decide
  · intro k hk
    obtain ⟨⟨x1,x2,x3,x4,x5⟩,_⟩:=hY k hk
    obtain ⟨y1,y2,y3,y4,y5,y6⟩:=qot (tt k hk)
    refine ⟨?_,?_,⟨_,_,x4.1,x4.2.1,x4.2.2.1,x4.2.2.2,y3⟩,⟨_,_,x5.1,x5.2.1,x5.2.2.1,x5.2.2.2,y4⟩,?_⟩
    · show byt (Y k).A 1 = _
      rw [x1];exact y1
    · show byt (Y k).B 1 = _
      rw [x2];exact y2
    · show byt (Y k).M 4 = _
      rw [x3];exact y5
  · intro k
    by_cases hk:k < Ts.length
    · exact (qot (tt k hk)).2.2.2.2.2
    · have:ts.getD k d5 = d5:=by rw [List.getD_eq_getElem?_getD,List.getElem?_eq_none (by omega)];rfl
      rw [this]
      decide
  · rintro e w' ⟨rfl,bel⟩
    exact ⟨_,rfl,bel,fun hb H ok=>qqm _⟩
end
end Go.Proofs.Ytmllgpkgjniomaa.AWN

namespace Go.Proofs.Ytmllgpkgjniomaa.AWN
open Go Go.Shelf Go.RowKit Go.Proofs.Try
def qjw (x y:Nat→Str) (out:Str):Nat→Str
  | 0=>out
  | k + 1=>qjw x y out k ++ (x k ++ y k)
theorem put3 (wr:World) (a b c d e f:Nat) (z:Value) (T:TypeId):((((store ⟨wr.heap.size,0,none⟩ (.complex .f32 a b)).run prog (wr.alloc (.cells #[z,z,z] T))).andThen fun _ w' =>
    ((store ⟨wr.heap.size,1,none⟩ (.complex .f32 c d)).run prog w').andThen fun _ w'=>(store ⟨wr.heap.size,2,none⟩ (.complex .f32 e f)).run prog w').andThen fun _ w'=>Result.ok Next.skip w') = Result.ok Next.skip (wr.alloc (.cells #[.complex .f32 a b,.complex .f32 c d,.complex .f32 e f] T)):=by
  rw [st1 _ _ _ (by simp) _ rfl]
  dsimp only [Result.andThen]
  rw [st1 _ _ _ (by simp) _ rfl]
  dsimp only
  rw [st1 _ _ _ (by simp) _ rfl]
  rfl
set_option maxHeartbeats 4000000 in
set_option maxRecDepth 100000 in
theorem flow_walk (w:World) (a0 a1:Option Addr) (n cap0 n1 cap1:Nat) (R:Int) (rests:Bool) (P1 P2 P3 P1' P2' P3' Q1 Q2 Q3 Q1' Q2' Q3':Nat→Nat) (x y:Nat→Str) (s1 s2:Str)
    (hn:1 ≤ n∧n ≤ 16) (hn1:n1 = n) (hR:0 ≤ R∧R ≤ 50)
    (hin:∀ wr (k lo hi:Int),Calls prog 62 #[.int .i64 k,.int .i64 lo,.int .i64 hi] wr fun e w'=>e = .returned (.bool (decide (lo ≤ k∧k ≤ hi)))∧Below wr.heap.size wr w')
    (hb1:∀ wr,Calls prog 44 #[.int .i64 R,.int .i64 1] wr fun e w'=>e = .returned (.string (bstr s1))∧Below wr.heap.size wr w')
    (hb2:∀ wr,Calls prog 44 #[.int .i64 (if rests then 1 else 0),.int .i64 1] wr fun e w'=>e = .returned (.string (bstr s2))∧Below wr.heap.size wr w')
    (hx:∀ k,k < n→∀ wr,Calls prog 128 #[.agg #[.complex .f32 (P1 k) (P1' k),.complex .f32 (P2 k) (P2' k),.complex .f32 (P3 k) (P3' k)]] wr fun e w'=>e = .returned (.string (bstr (x k)))∧Below wr.heap.size wr w')
    (hy:∀ k,k < n→∀ wr,Calls prog 128 #[.agg #[.complex .f32 (Q1 k) (Q1' k),.complex .f32 (Q2 k) (Q2' k),.complex .f32 (Q3 k) (Q3' k)]] wr fun e w'=>e = .returned (.string (bstr (y k)))∧Below wr.heap.size wr w')
    (hc0:∀ k,k < n→∃ b o,a0 = some ⟨b,o,none⟩∧b < w.heap.size∧w.cell? ⟨b,o + k * 3,none⟩ = some (.complex .f32 (P1 k) (P1' k))∧w.cell? ⟨b,o + k * 3 + 1,none⟩ = some (.complex .f32 (P2 k) (P2' k))∧w.cell? ⟨b,o + k * 3 + 2,none⟩ = some (.complex .f32 (P3 k) (P3' k)))
    (hc1:∀ k,k < n→∃ b o,a1 = some ⟨b,o,none⟩∧b < w.heap.size∧w.cell? ⟨b,o + k * 3,none⟩ = some (.complex .f32 (Q1 k) (Q1' k))∧w.cell? ⟨b,o + k * 3 + 1,none⟩ = some (.complex .f32 (Q2 k) (Q2' k))∧w.cell? ⟨b,o + k * 3 + 2,none⟩ = some (.complex .f32 (Q3 k) (Q3' k)))
    (hlen:s1.length + s2.length ≤ 1000∧∀ k,(x k).length ≤ 1000∧(y k).length ≤ 1000) :
    Calls prog 92 #[.agg #[.slice a0 n cap0,.slice a1 n1 cap1,.int .i64 R,.bool rests]] w fun e w'=>e = .returned (.tuple #[.string (bstr (qjw x y (s1 ++ s2) n)),.bool true])∧Below w.heap.size w w':=by
  subst hn1
  obtain ⟨hl12,hlk⟩:=hlen
  have hs1:=qfu s1
  have hs2:=qfu s2
  obtain ⟨W0,hW0⟩:∃ W0,W0 = w.alloc (.cells #[.slice a0 n1 cap0,.slice a1 n1 cap1,.int .i64 R,.bool rests] 82):=⟨_,rfl⟩
  have z0:W0.heap.size = w.heap.size + 1:=by rw [hW0];simp
  have bel0:Below w.heap.size w W0:=by rw [hW0];exact (Below.refl _ w).alloc (Nat.le_refl _) _
  have g0:W0.cell? ⟨w.heap.size,0,none⟩ = some (.slice a0 n1 cap0):=by rw [hW0,Lib.cell_of_heap (heap_alloc_new w _)];rfl
  have g1:W0.cell? ⟨w.heap.size,1,none⟩ = some (.slice a1 n1 cap1):=by rw [hW0,Lib.cell_of_heap (heap_alloc_new w _)];rfl
  have g2:W0.cell? ⟨w.heap.size,2,none⟩ = some (.int .i64 R):=by rw [hW0,Lib.cell_of_heap (heap_alloc_new w _)];rfl
  have g3:W0.cell? ⟨w.heap.size,3,none⟩ = some (.bool rests):=by rw [hW0,Lib.cell_of_heap (heap_alloc_new w _)];rfl
  go_enter Try.func92,Try.ntmps92
  go_wp2_with (go_at_call 62;refine (hin _ _ _ _).mono ?_)
  rw [← hW0]
  first | rintro e w1 ⟨rfl,b1⟩ | rintro e w1 rfl b1
  have hd1:decide ((1:Int) ≤ (n1:Int)∧(n1:Int) ≤ 16) = true:=decide_eq_true ⟨by omega,by omega⟩
  have l1:w.heap.size < W0.heap.size:=by omega
  have g0:=(b1.cell (p:=⟨w.heap.size,0,none⟩) l1).trans g0
  have g1:=(b1.cell (p:=⟨w.heap.size,1,none⟩) l1).trans g1
  have g2:=(b1.cell (p:=⟨w.heap.size,2,none⟩) l1).trans g2
  have g3:=(b1.cell (p:=⟨w.heap.size,3,none⟩) l1).trans g3
  go_wp2_with (go_at_call 62;refine (hin _ _ _ _).mono ?_)
  first | rintro e w2 ⟨rfl,b2⟩ | rintro e w2 rfl b2
  have hd2:decide ((0:Int) ≤ R∧R ≤ 50) = true:=decide_eq_true hR
  have l2:w.heap.size < w1.heap.size:=by have:=b1.size;omega
  have g0:=(b2.cell (p:=⟨w.heap.size,0,none⟩) l2).trans g0
  have g1:=(b2.cell (p:=⟨w.heap.size,1,none⟩) l2).trans g1
  have g2:=(b2.cell (p:=⟨w.heap.size,2,none⟩) l2).trans g2
  have g3:=(b2.cell (p:=⟨w.heap.size,3,none⟩) l2).trans g3
  have l3:w.heap.size < w2.heap.size:=by have:=b2.size;omega
  have bel2:Below w.heap.size w w2:=(bel0.trans (b1.mono (by omega))).trans (b2.mono (by omega))
  clear b1 b2 hW0 z0 bel0 l1 l2
  obtain ⟨W2,hW2⟩:∃ W2,W2 = w2.alloc (.cells #[.pointer none,.slice none 0 0] 174):=⟨_,rfl⟩
  have hB2:Lib.IsBuilder 174 5 w2.heap.size w2.heap.size [] W2:=by rw [hW2];exact Lib.fresh_isBuilder 174 5 w2
  have b2:Below w2.heap.size w2 W2:=by rw [hW2];exact (Below.refl _ w2).alloc (Nat.le_refl _) _
  have k0:=(b2.cell (p:=⟨w.heap.size,0,none⟩) l3).trans g0
  have k1:=(b2.cell (p:=⟨w.heap.size,1,none⟩) l3).trans g1
  have k2:=(b2.cell (p:=⟨w.heap.size,2,none⟩) l3).trans g2
  have k3:=(b2.cell (p:=⟨w.heap.size,3,none⟩) l3).trans g3
  cases rests
  · simp only [Bool.false_eq_true,if_false] at hb2
    go_wp2_with (go_at_call 44;refine (hb1 _).mono ?_)
    rw [← hW2]
    first | rintro e w3 ⟨rfl,b3⟩ | rintro e w3 rfl b3
    have hB3:=qgy hB2 b3
    have b23:=b2.trans (b3.mono b2.size)
    go_wp2_with (go_at_call 44;refine (hb2 _).mono ?_)
    first | rintro e w4 ⟨rfl,b4⟩ | rintro e w4 rfl b4
    have hB4:=qgy hB3 b4
    have b24:=b23.trans (b4.mono b23.size)
    clear hB2 hB3 b2 b3 b4 b23 k0 k1 k2 k3
    go_wp2_with (go_at_call 127;refine (qu4 _ _ _ _ _ hB4 ?c1 b24.size).mono ?_)
    case c1 =>
      rw [qgx,qfu,List.length_append]
      show 0 + _ ≤ _
      omega
    first | rintro e w5 ⟨rfl,hB5,b5⟩ | rintro e w5 rfl hB5 b5
    rw [qgx,qkh,List.nil_append] at hB5
    have b25:=b24.trans b5
    clear hB4 b24 b5
    have k0:=(b25.cell (p:=⟨w.heap.size,0,none⟩) l3).trans g0
    have hB5:Lib.IsBuilder 174 5 w2.heap.size w2.heap.size (Lib.byteCells (qjw x y (s1 ++ s2) 0)) w5:=Or.inr hB5
    go_wp2
    go_loopw [41] (fun i wr=>∃ k:Nat,k ≤ n1∧i = .int .i64 k∧Lib.IsBuilder 174 5 w2.heap.size w2.heap.size (Lib.byteCells (qjw x y (s1 ++ s2) k)) wr∧Below w2.heap.size w2 wr)
      (fun i _=>n1 - (intOf i).toNat)
    case atStart=>exact ⟨0,Nat.zero_le _,rfl,hB5,b25⟩
    case round =>
      obtain ⟨k,hk,rfl,hB,bel⟩:=hrel
      clear hB5 b25 k0
      by_cases hlt:k < n1
      · obtain ⟨b,o,rfl,hbl,c1,c2,c3⟩:=hc0 k hlt
        obtain ⟨b',o',rfl,hbl',d1,d2,d3⟩:=hc1 k hlt
        clear hc0 hc1
        have hs:=bel2.size
        have e1:=(bel.cell (p:=⟨b,o + k * 3,none⟩) (by show b < _;omega)).trans ((bel2.cell (p:=⟨b,o + k * 3,none⟩) hbl).trans c1)
        have e2:=(bel.cell (p:=⟨b,o + k * 3 + 1,none⟩) (by show b < _;omega)).trans ((bel2.cell (p:=⟨b,o + k * 3 + 1,none⟩) hbl).trans c2)
        have e3:=(bel.cell (p:=⟨b,o + k * 3 + 2,none⟩) (by show b < _;omega)).trans ((bel2.cell (p:=⟨b,o + k * 3 + 2,none⟩) hbl).trans c3)
        go_wp2
        rw [put3]
        obtain ⟨Wv,hWv⟩:∃ Wv,Wv = wr.alloc (.cells #[.complex .f32 (P1 k) (P1' k),.complex .f32 (P2 k) (P2' k),.complex .f32 (P3 k) (P3' k)] 24):=⟨_,rfl⟩
        have hv:=heap_alloc_new wr (.cells #[.complex .f32 (P1 k) (P1' k),.complex .f32 (P2 k) (P2' k),.complex .f32 (P3 k) (P3' k)] 24)
        rw [← hWv] at hv ⊢
        have bv:Below wr.heap.size wr Wv:=by rw [hWv];exact (Below.refl _ wr).alloc (Nat.le_refl _) _
        have szv:Wv.heap.size = wr.heap.size + 1:=by rw [hWv];simp
        have bel':Below w2.heap.size w2 Wv:=bel.trans (bv.mono bel.size)
        have hB':=qgy hB bv
        have v0:Wv.cell? ⟨wr.heap.size,0,none⟩ = some (.complex .f32 (P1 k) (P1' k)):=by rw [Lib.cell_of_heap hv];rfl
        have v1:Wv.cell? ⟨wr.heap.size,1,none⟩ = some (.complex .f32 (P2 k) (P2' k)):=by rw [Lib.cell_of_heap hv];rfl
        have v2:Wv.cell? ⟨wr.heap.size,2,none⟩ = some (.complex .f32 (P3 k) (P3' k)):=by rw [Lib.cell_of_heap hv];rfl
        have f1:=(bel'.cell (p:=⟨w.heap.size,1,none⟩) l3).trans g1
        have d1:=(bel'.cell (p:=⟨b',o' + k * 3,none⟩) (by show b' < _;omega)).trans ((bel2.cell (p:=⟨b',o' + k * 3,none⟩) hbl').trans d1)
        have d2:=(bel'.cell (p:=⟨b',o' + k * 3 + 1,none⟩) (by show b' < _;omega)).trans ((bel2.cell (p:=⟨b',o' + k * 3 + 1,none⟩) hbl').trans d2)
        have d3:=(bel'.cell (p:=⟨b',o' + k * 3 + 2,none⟩) (by show b' < _;omega)).trans ((bel2.cell (p:=⟨b',o' + k * 3 + 2,none⟩) hbl').trans d3)
        have hx:=hx k hlt
        have hy:=hy k hlt
        have hxs:=qfu (x k)
        have hys:=qfu (y k)
        have hk1:=(hlk k).1
        have hk2:=(hlk k).2
        have hsum:(9223372036854775807 < (x k).length + (y k).length) = False:=eq_false (by omega)
        have hsum':(9223372036854775807 < (bstr (x k)).size + (bstr (y k)).size) = False:=eq_false (by omega)
        clear hWv e1 e2 e3 c1 c2 c3
        have hVlt:wr.heap.size < Wv.heap.size:=by omega
        have hVge:w2.heap.size < wr.heap.size:=by
          rcases hB with h | h
          · exact h.lt
          · exact h.lt
        generalize wr.heap.size = V at v0 v1 v2 szv hVlt hVge bv hv ⊢
        have hVk:∀ w':World,w'.heap[V]? = some (.cells #[.complex .f32 (P1 k) (P1' k),.complex .f32 (P2 k) (P2' k),.complex .f32 (P3 k) (P3' k)] 24 (0,0))→w'.cell? ⟨V,0,none⟩ = some (.complex .f32 (P1 k) (P1' k))∧w'.cell? ⟨V,1,none⟩ = some (.complex .f32 (P2 k) (P2' k))∧w'.cell? ⟨V,2,none⟩ = some (.complex .f32 (P3 k) (P3' k)):=fun w' h=>⟨by rw [Lib.cell_of_heap h];rfl,by rw [Lib.cell_of_heap h];rfl,by rw [Lib.cell_of_heap h];rfl⟩
        have kept:∀ w',Below Wv.heap.size Wv w'→w'.cell? ⟨V,0,none⟩ = some (.complex .f32 (P1 k) (P1' k))∧w'.cell? ⟨V,1,none⟩ = some (.complex .f32 (P2 k) (P2' k))∧w'.cell? ⟨V,2,none⟩ = some (.complex .f32 (P3 k) (P3' k))∧w'.cell? ⟨w.heap.size,1,none⟩ = some (.slice (some ⟨b',o',none⟩) n1 cap1)∧w'.cell? ⟨b',o' + k * 3,none⟩ = some (.complex .f32 (Q1 k) (Q1' k))∧w'.cell? ⟨b',o' + k * 3 + 1,none⟩ = some (.complex .f32 (Q2 k) (Q2' k))∧w'.cell? ⟨b',o' + k * 3 + 2,none⟩ = some (.complex .f32 (Q3 k) (Q3' k)):=fun w' h =>
          ⟨(h.cell hVlt).trans v0,(h.cell hVlt).trans v1,(h.cell hVlt).trans v2,(h.cell (by show w.heap.size < _;have:=bel'.size;omega)).trans f1,(h.cell (by show b' < _;have:=bel'.size;omega)).trans d1,(h.cell (by show b' < _;have:=bel'.size;omega)).trans d2,(h.cell (by show b' < _;have:=bel'.size;omega)).trans d3⟩
        have hx':∀ wr',Below Wv.heap.size Wv wr'→Calls prog 128 #[.agg #[.complex .f32 (P1 k) (P1' k),.complex .f32 (P2 k) (P2' k),.complex .f32 (P3 k) (P3' k)]] wr' fun e w'=>e = .returned (.string (bstr (x k)))∧Below Wv.heap.size Wv w'∧w'.cell? ⟨V,0,none⟩ = some (.complex .f32 (P1 k) (P1' k))∧w'.cell? ⟨V,1,none⟩ = some (.complex .f32 (P2 k) (P2' k))∧w'.cell? ⟨V,2,none⟩ = some (.complex .f32 (P3 k) (P3' k))∧w'.cell? ⟨w.heap.size,1,none⟩ = some (.slice (some ⟨b',o',none⟩) n1 cap1)∧w'.cell? ⟨b',o' + k * 3,none⟩ = some (.complex .f32 (Q1 k) (Q1' k))∧w'.cell? ⟨b',o' + k * 3 + 1,none⟩ = some (.complex .f32 (Q2 k) (Q2' k))∧w'.cell? ⟨b',o' + k * 3 + 2,none⟩ = some (.complex .f32 (Q3 k) (Q3' k)):=fun wr' h=>(hx wr').mono fun e w' h' =>
          have q:=h.trans (h'.2.mono h.size)
          ⟨h'.1,q,kept w' q⟩
        have hy':∀ wr',Below Wv.heap.size Wv wr'→Calls prog 128 #[.agg #[.complex .f32 (Q1 k) (Q1' k),.complex .f32 (Q2 k) (Q2' k),.complex .f32 (Q3 k) (Q3' k)]] wr' fun e w'=>e = .returned (.string (bstr (y k)))∧Below Wv.heap.size Wv w'∧w'.cell? ⟨V,0,none⟩ = some (.complex .f32 (P1 k) (P1' k))∧w'.cell? ⟨V,1,none⟩ = some (.complex .f32 (P2 k) (P2' k))∧w'.cell? ⟨V,2,none⟩ = some (.complex .f32 (P3 k) (P3' k))∧w'.cell? ⟨w.heap.size,1,none⟩ = some (.slice (some ⟨b',o',none⟩) n1 cap1)∧w'.cell? ⟨b',o' + k * 3,none⟩ = some (.complex .f32 (Q1 k) (Q1' k))∧w'.cell? ⟨b',o' + k * 3 + 1,none⟩ = some (.complex .f32 (Q2 k) (Q2' k))∧w'.cell? ⟨b',o' + k * 3 + 2,none⟩ = some (.complex .f32 (Q3 k) (Q3' k)):=fun wr' h=>(hy wr').mono fun e w' h' =>
          have q:=h.trans (h'.2.mono h.size)
          ⟨h'.1,q,kept w' q⟩
        have fl:∀ j,(qjw x y (s1 ++ s2) j).length ≤ 1000 + 2000 * j:=fun j=>by
          induction j with
          | zero=>show (s1 ++ s2).length ≤ _;rw [List.length_append];omega
          | succ j ih =>
            show (qjw x y (s1 ++ s2) j ++ (x j ++ y j)).length ≤ _
            have h1:=hlk j
            rw [List.length_append,List.length_append];omega
        have ws':∀ wr',Below Wv.heap.size Wv wr'→Calls prog 127 #[.pointer (some ⟨w2.heap.size,0,none⟩),.string (bstr (x k) ++ bstr (y k))] wr' fun e w'=>e = .returned (.tuple #[.int .i64 (bstr (x k) ++ bstr (y k)).size,.nilIface])∧Lib.IsBuilder 174 5 w2.heap.size w2.heap.size (Lib.byteCells (qjw x y (s1 ++ s2) (k + 1))) w'∧Below w2.heap.size w2 w'∧w'.cell? ⟨V,0,none⟩ = some (.complex .f32 (P1 k) (P1' k))∧w'.cell? ⟨V,1,none⟩ = some (.complex .f32 (P2 k) (P2' k))∧w'.cell? ⟨V,2,none⟩ = some (.complex .f32 (P3 k) (P3' k))∧w'.cell? ⟨w.heap.size,1,none⟩ = some (.slice (some ⟨b',o',none⟩) n1 cap1)∧w'.cell? ⟨b',o' + k * 3,none⟩ = some (.complex .f32 (Q1 k) (Q1' k))∧w'.cell? ⟨b',o' + k * 3 + 1,none⟩ = some (.complex .f32 (Q2 k) (Q2' k))∧w'.cell? ⟨b',o' + k * 3 + 2,none⟩ = some (.complex .f32 (Q3 k) (Q3' k)):=fun wr' h=>by
          refine (qpt w2.heap.size w2.heap.size _ (bstr (x k) ++ bstr (y k)) wr' (qgy hB' h) ?_ (Nat.le_trans bel'.size h.size)).mono fun e w' h'=>⟨h'.1,Or.inr ?_,bel'.trans ((h.mono bel'.size).trans h'.2.2.1),(hVk w' (h'.2.2.2 _ _ ((h.block V hVlt).trans hv) (by intro hh;cases hh;omega) (fun c fz hh=>by cases hh))).1,(hVk w' (h'.2.2.2 _ _ ((h.block V hVlt).trans hv) (by intro hh;cases hh;omega) (fun c fz hh=>by cases hh))).2.1,(hVk w' (h'.2.2.2 _ _ ((h.block V hVlt).trans hv) (by intro hh;cases hh;omega) (fun c fz hh=>by cases hh))).2.2,(h'.2.2.1.cell l3).trans (kept wr' h).2.2.2.1,(h'.2.2.1.cell (by show b' < _;omega)).trans (kept wr' h).2.2.2.2.1,(h'.2.2.1.cell (by show b' < _;omega)).trans (kept wr' h).2.2.2.2.2.1,(h'.2.2.1.cell (by show b' < _;omega)).trans (kept wr' h).2.2.2.2.2.2⟩
          · rw [qgx,qfu,Lib.byteCells_length,List.length_append]
            have:=fl k
            omega
          · have:=h'.2.1
            rw [qgx,qkh,qmw] at this
            exact this
        obtain ⟨Ph,hPh,hPx,hPy⟩:∃ Ph:Nat→Nat→Nat→Nat→Nat→Nat→Str→Prop,(∀ a1 a1' a2 a2' a3 a3' s,Ph a1 a1' a2 a2' a3 a3' s→∀ wr',Below Wv.heap.size Wv wr'→Calls prog 128 #[.agg #[.complex .f32 a1 a1',.complex .f32 a2 a2',.complex .f32 a3 a3']] wr' fun e w'=>e = .returned (.string (bstr s))∧Below Wv.heap.size Wv w'∧w'.cell? ⟨V,0,none⟩ = some (.complex .f32 (P1 k) (P1' k))∧w'.cell? ⟨V,1,none⟩ = some (.complex .f32 (P2 k) (P2' k))∧w'.cell? ⟨V,2,none⟩ = some (.complex .f32 (P3 k) (P3' k))∧w'.cell? ⟨w.heap.size,1,none⟩ = some (.slice (some ⟨b',o',none⟩) n1 cap1)∧w'.cell? ⟨b',o' + k * 3,none⟩ = some (.complex .f32 (Q1 k) (Q1' k))∧w'.cell? ⟨b',o' + k * 3 + 1,none⟩ = some (.complex .f32 (Q2 k) (Q2' k))∧w'.cell? ⟨b',o' + k * 3 + 2,none⟩ = some (.complex .f32 (Q3 k) (Q3' k)))∧Ph (P1 k) (P1' k) (P2 k) (P2' k) (P3 k) (P3' k) (x k)∧Ph (Q1 k) (Q1' k) (Q2 k) (Q2' k) (Q3 k) (Q3' k) (y k) :=
          ⟨fun a1 a1' a2 a2' a3 a3' s=>∀ wr',Below Wv.heap.size Wv wr'→Calls prog 128 #[.agg #[.complex .f32 a1 a1',.complex .f32 a2 a2',.complex .f32 a3 a3']] wr' fun e w'=>e = .returned (.string (bstr s))∧Below Wv.heap.size Wv w'∧w'.cell? ⟨V,0,none⟩ = some (.complex .f32 (P1 k) (P1' k))∧w'.cell? ⟨V,1,none⟩ = some (.complex .f32 (P2 k) (P2' k))∧w'.cell? ⟨V,2,none⟩ = some (.complex .f32 (P3 k) (P3' k))∧w'.cell? ⟨w.heap.size,1,none⟩ = some (.slice (some ⟨b',o',none⟩) n1 cap1)∧w'.cell? ⟨b',o' + k * 3,none⟩ = some (.complex .f32 (Q1 k) (Q1' k))∧w'.cell? ⟨b',o' + k * 3 + 1,none⟩ = some (.complex .f32 (Q2 k) (Q2' k))∧w'.cell? ⟨b',o' + k * 3 + 2,none⟩ = some (.complex .f32 (Q3 k) (Q3' k)),fun _ _ _ _ _ _ _ h=>h,hx',hy'⟩
        clear hB bel bv hB' bel' kept hx hy hVk hv hx' hy'
        go_wp2
        go_region_held3 (fun w'=>w'.cell? ⟨V,0,none⟩ = some (.complex .f32 (P1 k) (P1' k))∧w'.cell? ⟨V,1,none⟩ = some (.complex .f32 (P2 k) (P2' k))∧w'.cell? ⟨V,2,none⟩ = some (.complex .f32 (P3 k) (P3' k))∧w'.cell? ⟨w.heap.size,1,none⟩ = some (.slice (some ⟨b',o',none⟩) n1 cap1)∧w'.cell? ⟨b',o' + k * 3,none⟩ = some (.complex .f32 (Q1 k) (Q1' k))∧w'.cell? ⟨b',o' + k * 3 + 1,none⟩ = some (.complex .f32 (Q2 k) (Q2' k))∧w'.cell? ⟨b',o' + k * 3 + 2,none⟩ = some (.complex .f32 (Q3 k) (Q3' k)))
          (first | exact ⟨q0,q1,q2,q3,q4,q5,q6⟩ | exact ⟨v0,v1,v2,f1,d1,d2,d3⟩)
          (first
            | (go_at_call 128;refine (hPh _ _ _ _ _ _ _ (by assumption) _ (by first | assumption | exact (Below.refl _ _).drew | exact Below.refl _ _)).mono ?_;rintro e w' ⟨rfl,q,q0,q1,q2,q3,q4,q5,q6⟩)
            | (go_at_call 127;refine (ws' _ (by first | assumption | exact (Below.refl _ _).drew | exact Below.refl _ _)).mono ?_;rintro e w' ⟨rfl,hB6,b6,q0,q1,q2,q3,q4,q5,q6⟩))
        all_goals (
          go_wp2
          go_roundw
          case rel=>exact ⟨k + 1,by omega,by go_num,hB6,b6⟩
          case measure=>simp [intOf];omega)
      · have hke:k = n1:=by omega
        subst hke
        go_wp2_with (go_at_call 130;refine (qpr _ _ _ _ hB bel.size).mono ?_)
        first | rintro e w3 ⟨rfl,b3⟩ | rintro e w3 rfl b3
        go_wp2
        go_ret2
        exact ⟨rfl,bel2.trans ((bel.trans b3).mono (Nat.le_of_lt l3))⟩
  · simp only [if_true] at hb2
    go_wp2_with (go_at_call 44;refine (hb1 _).mono ?_)
    rw [← hW2]
    first | rintro e w3 ⟨rfl,b3⟩ | rintro e w3 rfl b3
    have hB3:=qgy hB2 b3
    have b23:=b2.trans (b3.mono b2.size)
    go_wp2_with (go_at_call 44;refine (hb2 _).mono ?_)
    first | rintro e w4 ⟨rfl,b4⟩ | rintro e w4 rfl b4
    have hB4:=qgy hB3 b4
    have b24:=b23.trans (b4.mono b23.size)
    clear hB2 hB3 b2 b3 b4 b23 k0 k1 k2 k3
    go_wp2_with (go_at_call 127;refine (qu4 _ _ _ _ _ hB4 ?c1 b24.size).mono ?_)
    case c1 =>
      rw [qgx,qfu,List.length_append]
      show 0 + _ ≤ _
      omega
    first | rintro e w5 ⟨rfl,hB5,b5⟩ | rintro e w5 rfl hB5 b5
    rw [qgx,qkh,List.nil_append] at hB5
    have b25:=b24.trans b5
    clear hB4 b24 b5
    have k0:=(b25.cell (p:=⟨w.heap.size,0,none⟩) l3).trans g0
    have hB5:Lib.IsBuilder 174 5 w2.heap.size w2.heap.size (Lib.byteCells (qjw x y (s1 ++ s2) 0)) w5:=Or.inr hB5
    go_wp2
    go_loopw [41] (fun i wr=>∃ k:Nat,k ≤ n1∧i = .int .i64 k∧Lib.IsBuilder 174 5 w2.heap.size w2.heap.size (Lib.byteCells (qjw x y (s1 ++ s2) k)) wr∧Below w2.heap.size w2 wr)
      (fun i _=>n1 - (intOf i).toNat)
    case atStart=>exact ⟨0,Nat.zero_le _,rfl,hB5,b25⟩
    case round =>
      obtain ⟨k,hk,rfl,hB,bel⟩:=hrel
      clear hB5 b25 k0
      by_cases hlt:k < n1
      · obtain ⟨b,o,rfl,hbl,c1,c2,c3⟩:=hc0 k hlt
        obtain ⟨b',o',rfl,hbl',d1,d2,d3⟩:=hc1 k hlt
        clear hc0 hc1
        have hs:=bel2.size
        have e1:=(bel.cell (p:=⟨b,o + k * 3,none⟩) (by show b < _;omega)).trans ((bel2.cell (p:=⟨b,o + k * 3,none⟩) hbl).trans c1)
        have e2:=(bel.cell (p:=⟨b,o + k * 3 + 1,none⟩) (by show b < _;omega)).trans ((bel2.cell (p:=⟨b,o + k * 3 + 1,none⟩) hbl).trans c2)
        have e3:=(bel.cell (p:=⟨b,o + k * 3 + 2,none⟩) (by show b < _;omega)).trans ((bel2.cell (p:=⟨b,o + k * 3 + 2,none⟩) hbl).trans c3)
        go_wp2
        rw [put3]
        obtain ⟨Wv,hWv⟩:∃ Wv,Wv = wr.alloc (.cells #[.complex .f32 (P1 k) (P1' k),.complex .f32 (P2 k) (P2' k),.complex .f32 (P3 k) (P3' k)] 24):=⟨_,rfl⟩
        have hv:=heap_alloc_new wr (.cells #[.complex .f32 (P1 k) (P1' k),.complex .f32 (P2 k) (P2' k),.complex .f32 (P3 k) (P3' k)] 24)
        rw [← hWv] at hv ⊢
        have bv:Below wr.heap.size wr Wv:=by rw [hWv];exact (Below.refl _ wr).alloc (Nat.le_refl _) _
        have szv:Wv.heap.size = wr.heap.size + 1:=by rw [hWv];simp
        have bel':Below w2.heap.size w2 Wv:=bel.trans (bv.mono bel.size)
        have hB':=qgy hB bv
        have v0:Wv.cell? ⟨wr.heap.size,0,none⟩ = some (.complex .f32 (P1 k) (P1' k)):=by rw [Lib.cell_of_heap hv];rfl
        have v1:Wv.cell? ⟨wr.heap.size,1,none⟩ = some (.complex .f32 (P2 k) (P2' k)):=by rw [Lib.cell_of_heap hv];rfl
        have v2:Wv.cell? ⟨wr.heap.size,2,none⟩ = some (.complex .f32 (P3 k) (P3' k)):=by rw [Lib.cell_of_heap hv];rfl
        have f1:=(bel'.cell (p:=⟨w.heap.size,1,none⟩) l3).trans g1
        have d1:=(bel'.cell (p:=⟨b',o' + k * 3,none⟩) (by show b' < _;omega)).trans ((bel2.cell (p:=⟨b',o' + k * 3,none⟩) hbl').trans d1)
        have d2:=(bel'.cell (p:=⟨b',o' + k * 3 + 1,none⟩) (by show b' < _;omega)).trans ((bel2.cell (p:=⟨b',o' + k * 3 + 1,none⟩) hbl').trans d2)
        have d3:=(bel'.cell (p:=⟨b',o' + k * 3 + 2,none⟩) (by show b' < _;omega)).trans ((bel2.cell (p:=⟨b',o' + k * 3 + 2,none⟩) hbl').trans d3)
        have hx:=hx k hlt
        have hy:=hy k hlt
        have hxs:=qfu (x k)
        have hys:=qfu (y k)
        have hk1:=(hlk k).1
        have hk2:=(hlk k).2
        have hsum:(9223372036854775807 < (x k).length + (y k).length) = False:=eq_false (by omega)
        have hsum':(9223372036854775807 < (bstr (x k)).size + (bstr (y k)).size) = False:=eq_false (by omega)
        clear hWv e1 e2 e3 c1 c2 c3
        have hVlt:wr.heap.size < Wv.heap.size:=by omega
        have hVge:w2.heap.size < wr.heap.size:=by
          rcases hB with h | h
          · exact h.lt
          · exact h.lt
        generalize wr.heap.size = V at v0 v1 v2 szv hVlt hVge bv hv ⊢
        have hVk:∀ w':World,w'.heap[V]? = some (.cells #[.complex .f32 (P1 k) (P1' k),.complex .f32 (P2 k) (P2' k),.complex .f32 (P3 k) (P3' k)] 24 (0,0))→w'.cell? ⟨V,0,none⟩ = some (.complex .f32 (P1 k) (P1' k))∧w'.cell? ⟨V,1,none⟩ = some (.complex .f32 (P2 k) (P2' k))∧w'.cell? ⟨V,2,none⟩ = some (.complex .f32 (P3 k) (P3' k)):=fun w' h=>⟨by rw [Lib.cell_of_heap h];rfl,by rw [Lib.cell_of_heap h];rfl,by rw [Lib.cell_of_heap h];rfl⟩
        have kept:∀ w',Below Wv.heap.size Wv w'→w'.cell? ⟨V,0,none⟩ = some (.complex .f32 (P1 k) (P1' k))∧w'.cell? ⟨V,1,none⟩ = some (.complex .f32 (P2 k) (P2' k))∧w'.cell? ⟨V,2,none⟩ = some (.complex .f32 (P3 k) (P3' k))∧w'.cell? ⟨w.heap.size,1,none⟩ = some (.slice (some ⟨b',o',none⟩) n1 cap1)∧w'.cell? ⟨b',o' + k * 3,none⟩ = some (.complex .f32 (Q1 k) (Q1' k))∧w'.cell? ⟨b',o' + k * 3 + 1,none⟩ = some (.complex .f32 (Q2 k) (Q2' k))∧w'.cell? ⟨b',o' + k * 3 + 2,none⟩ = some (.complex .f32 (Q3 k) (Q3' k)):=fun w' h =>
          ⟨(h.cell hVlt).trans v0,(h.cell hVlt).trans v1,(h.cell hVlt).trans v2,(h.cell (by show w.heap.size < _;have:=bel'.size;omega)).trans f1,(h.cell (by show b' < _;have:=bel'.size;omega)).trans d1,(h.cell (by show b' < _;have:=bel'.size;omega)).trans d2,(h.cell (by show b' < _;have:=bel'.size;omega)).trans d3⟩
        have hx':∀ wr',Below Wv.heap.size Wv wr'→Calls prog 128 #[.agg #[.complex .f32 (P1 k) (P1' k),.complex .f32 (P2 k) (P2' k),.complex .f32 (P3 k) (P3' k)]] wr' fun e w'=>e = .returned (.string (bstr (x k)))∧Below Wv.heap.size Wv w'∧w'.cell? ⟨V,0,none⟩ = some (.complex .f32 (P1 k) (P1' k))∧w'.cell? ⟨V,1,none⟩ = some (.complex .f32 (P2 k) (P2' k))∧w'.cell? ⟨V,2,none⟩ = some (.complex .f32 (P3 k) (P3' k))∧w'.cell? ⟨w.heap.size,1,none⟩ = some (.slice (some ⟨b',o',none⟩) n1 cap1)∧w'.cell? ⟨b',o' + k * 3,none⟩ = some (.complex .f32 (Q1 k) (Q1' k))∧w'.cell? ⟨b',o' + k * 3 + 1,none⟩ = some (.complex .f32 (Q2 k) (Q2' k))∧w'.cell? ⟨b',o' + k * 3 + 2,none⟩ = some (.complex .f32 (Q3 k) (Q3' k)):=fun wr' h=>(hx wr').mono fun e w' h' =>
          have q:=h.trans (h'.2.mono h.size)
          ⟨h'.1,q,kept w' q⟩
        have hy':∀ wr',Below Wv.heap.size Wv wr'→Calls prog 128 #[.agg #[.complex .f32 (Q1 k) (Q1' k),.complex .f32 (Q2 k) (Q2' k),.complex .f32 (Q3 k) (Q3' k)]] wr' fun e w'=>e = .returned (.string (bstr (y k)))∧Below Wv.heap.size Wv w'∧w'.cell? ⟨V,0,none⟩ = some (.complex .f32 (P1 k) (P1' k))∧w'.cell? ⟨V,1,none⟩ = some (.complex .f32 (P2 k) (P2' k))∧w'.cell? ⟨V,2,none⟩ = some (.complex .f32 (P3 k) (P3' k))∧w'.cell? ⟨w.heap.size,1,none⟩ = some (.slice (some ⟨b',o',none⟩) n1 cap1)∧w'.cell? ⟨b',o' + k * 3,none⟩ = some (.complex .f32 (Q1 k) (Q1' k))∧w'.cell? ⟨b',o' + k * 3 + 1,none⟩ = some (.complex .f32 (Q2 k) (Q2' k))∧w'.cell? ⟨b',o' + k * 3 + 2,none⟩ = some (.complex .f32 (Q3 k) (Q3' k)):=fun wr' h=>(hy wr').mono fun e w' h' =>
          have q:=h.trans (h'.2.mono h.size)
          ⟨h'.1,q,kept w' q⟩
        have fl:∀ j,(qjw x y (s1 ++ s2) j).length ≤ 1000 + 2000 * j:=fun j=>by
          induction j with
          | zero=>show (s1 ++ s2).length ≤ _;rw [List.length_append];omega
          | succ j ih =>
            show (qjw x y (s1 ++ s2) j ++ (x j ++ y j)).length ≤ _
            have h1:=hlk j
            rw [List.length_append,List.length_append];omega
        have ws':∀ wr',Below Wv.heap.size Wv wr'→Calls prog 127 #[.pointer (some ⟨w2.heap.size,0,none⟩),.string (bstr (x k) ++ bstr (y k))] wr' fun e w'=>e = .returned (.tuple #[.int .i64 (bstr (x k) ++ bstr (y k)).size,.nilIface])∧Lib.IsBuilder 174 5 w2.heap.size w2.heap.size (Lib.byteCells (qjw x y (s1 ++ s2) (k + 1))) w'∧Below w2.heap.size w2 w'∧w'.cell? ⟨V,0,none⟩ = some (.complex .f32 (P1 k) (P1' k))∧w'.cell? ⟨V,1,none⟩ = some (.complex .f32 (P2 k) (P2' k))∧w'.cell? ⟨V,2,none⟩ = some (.complex .f32 (P3 k) (P3' k))∧w'.cell? ⟨w.heap.size,1,none⟩ = some (.slice (some ⟨b',o',none⟩) n1 cap1)∧w'.cell? ⟨b',o' + k * 3,none⟩ = some (.complex .f32 (Q1 k) (Q1' k))∧w'.cell? ⟨b',o' + k * 3 + 1,none⟩ = some (.complex .f32 (Q2 k) (Q2' k))∧w'.cell? ⟨b',o' + k * 3 + 2,none⟩ = some (.complex .f32 (Q3 k) (Q3' k)):=fun wr' h=>by
          refine (qpt w2.heap.size w2.heap.size _ (bstr (x k) ++ bstr (y k)) wr' (qgy hB' h) ?_ (Nat.le_trans bel'.size h.size)).mono fun e w' h'=>⟨h'.1,Or.inr ?_,bel'.trans ((h.mono bel'.size).trans h'.2.2.1),(hVk w' (h'.2.2.2 _ _ ((h.block V hVlt).trans hv) (by intro hh;cases hh;omega) (fun c fz hh=>by cases hh))).1,(hVk w' (h'.2.2.2 _ _ ((h.block V hVlt).trans hv) (by intro hh;cases hh;omega) (fun c fz hh=>by cases hh))).2.1,(hVk w' (h'.2.2.2 _ _ ((h.block V hVlt).trans hv) (by intro hh;cases hh;omega) (fun c fz hh=>by cases hh))).2.2,(h'.2.2.1.cell l3).trans (kept wr' h).2.2.2.1,(h'.2.2.1.cell (by show b' < _;omega)).trans (kept wr' h).2.2.2.2.1,(h'.2.2.1.cell (by show b' < _;omega)).trans (kept wr' h).2.2.2.2.2.1,(h'.2.2.1.cell (by show b' < _;omega)).trans (kept wr' h).2.2.2.2.2.2⟩
          · rw [qgx,qfu,Lib.byteCells_length,List.length_append]
            have:=fl k
            omega
          · have:=h'.2.1
            rw [qgx,qkh,qmw] at this
            exact this
        obtain ⟨Ph,hPh,hPx,hPy⟩:∃ Ph:Nat→Nat→Nat→Nat→Nat→Nat→Str→Prop,(∀ a1 a1' a2 a2' a3 a3' s,Ph a1 a1' a2 a2' a3 a3' s→∀ wr',Below Wv.heap.size Wv wr'→Calls prog 128 #[.agg #[.complex .f32 a1 a1',.complex .f32 a2 a2',.complex .f32 a3 a3']] wr' fun e w'=>e = .returned (.string (bstr s))∧Below Wv.heap.size Wv w'∧w'.cell? ⟨V,0,none⟩ = some (.complex .f32 (P1 k) (P1' k))∧w'.cell? ⟨V,1,none⟩ = some (.complex .f32 (P2 k) (P2' k))∧w'.cell? ⟨V,2,none⟩ = some (.complex .f32 (P3 k) (P3' k))∧w'.cell? ⟨w.heap.size,1,none⟩ = some (.slice (some ⟨b',o',none⟩) n1 cap1)∧w'.cell? ⟨b',o' + k * 3,none⟩ = some (.complex .f32 (Q1 k) (Q1' k))∧w'.cell? ⟨b',o' + k * 3 + 1,none⟩ = some (.complex .f32 (Q2 k) (Q2' k))∧w'.cell? ⟨b',o' + k * 3 + 2,none⟩ = some (.complex .f32 (Q3 k) (Q3' k)))∧Ph (P1 k) (P1' k) (P2 k) (P2' k) (P3 k) (P3' k) (x k)∧Ph (Q1 k) (Q1' k) (Q2 k) (Q2' k) (Q3 k) (Q3' k) (y k) :=
          ⟨fun a1 a1' a2 a2' a3 a3' s=>∀ wr',Below Wv.heap.size Wv wr'→Calls prog 128 #[.agg #[.complex .f32 a1 a1',.complex .f32 a2 a2',.complex .f32 a3 a3']] wr' fun e w'=>e = .returned (.string (bstr s))∧Below Wv.heap.size Wv w'∧w'.cell? ⟨V,0,none⟩ = some (.complex .f32 (P1 k) (P1' k))∧w'.cell? ⟨V,1,none⟩ = some (.complex .f32 (P2 k) (P2' k))∧w'.cell? ⟨V,2,none⟩ = some (.complex .f32 (P3 k) (P3' k))∧w'.cell? ⟨w.heap.size,1,none⟩ = some (.slice (some ⟨b',o',none⟩) n1 cap1)∧w'.cell? ⟨b',o' + k * 3,none⟩ = some (.complex .f32 (Q1 k) (Q1' k))∧w'.cell? ⟨b',o' + k * 3 + 1,none⟩ = some (.complex .f32 (Q2 k) (Q2' k))∧w'.cell? ⟨b',o' + k * 3 + 2,none⟩ = some (.complex .f32 (Q3 k) (Q3' k)),fun _ _ _ _ _ _ _ h=>h,hx',hy'⟩
        clear hB bel bv hB' bel' kept hx hy hVk hv hx' hy'
        go_wp2
        go_region_held3 (fun w'=>w'.cell? ⟨V,0,none⟩ = some (.complex .f32 (P1 k) (P1' k))∧w'.cell? ⟨V,1,none⟩ = some (.complex .f32 (P2 k) (P2' k))∧w'.cell? ⟨V,2,none⟩ = some (.complex .f32 (P3 k) (P3' k))∧w'.cell? ⟨w.heap.size,1,none⟩ = some (.slice (some ⟨b',o',none⟩) n1 cap1)∧w'.cell? ⟨b',o' + k * 3,none⟩ = some (.complex .f32 (Q1 k) (Q1' k))∧w'.cell? ⟨b',o' + k * 3 + 1,none⟩ = some (.complex .f32 (Q2 k) (Q2' k))∧w'.cell? ⟨b',o' + k * 3 + 2,none⟩ = some (.complex .f32 (Q3 k) (Q3' k)))
          (first | exact ⟨q0,q1,q2,q3,q4,q5,q6⟩ | exact ⟨v0,v1,v2,f1,d1,d2,d3⟩)
          (first
            | (go_at_call 128;refine (hPh _ _ _ _ _ _ _ (by assumption) _ (by first | assumption | exact (Below.refl _ _).drew | exact Below.refl _ _)).mono ?_;rintro e w' ⟨rfl,q,q0,q1,q2,q3,q4,q5,q6⟩)
            | (go_at_call 127;refine (ws' _ (by first | assumption | exact (Below.refl _ _).drew | exact Below.refl _ _)).mono ?_;rintro e w' ⟨rfl,hB6,b6,q0,q1,q2,q3,q4,q5,q6⟩))
        all_goals (
          go_wp2
          go_roundw
          case rel=>exact ⟨k + 1,by omega,by go_num,hB6,b6⟩
          case measure=>simp [intOf];omega)
      · have hke:k = n1:=by omega
        subst hke
        go_wp2_with (go_at_call 130;refine (qpr _ _ _ _ hB bel.size).mono ?_)
        first | rintro e w3 ⟨rfl,b3⟩ | rintro e w3 rfl b3
        go_wp2
        go_ret2
        exact ⟨rfl,bel2.trans ((bel.trans b3).mono (Nat.le_of_lt l3))⟩
end Go.Proofs.Ytmllgpkgjniomaa.AWN

namespace Go.Proofs.Ytmllgpkgjniomaa.AWN
open Go Go.Shelf Go.RowKit Go.Proofs.Try
set_option maxHeartbeats 4000000 in
set_option maxRecDepth 100000 in
theorem flow_no (w:World) (a0 a1:Option Addr) (n cap0 n1 cap1:Nat) (R:Int) (rests:Bool) (hbad:¬ (1 ≤ n∧n ≤ 16∧n1 = n∧0 ≤ R∧R ≤ 50)) (hnm:n ≤ maxLen∧n1 ≤ maxLen)
    (hin:∀ wr (k lo hi:Int),Calls prog 62 #[.int .i64 k,.int .i64 lo,.int .i64 hi] wr fun e w'=>e = .returned (.bool (decide (lo ≤ k∧k ≤ hi)))∧Below wr.heap.size wr w') :
    Calls prog 92 #[.agg #[.slice a0 n cap0,.slice a1 n1 cap1,.int .i64 R,.bool rests]] w fun e w'=>e = .returned (.tuple #[.string (bstr []),.bool false])∧Below w.heap.size w w':=by
  obtain ⟨W0,hW0⟩:∃ W0,W0 = w.alloc (.cells #[.slice a0 n cap0,.slice a1 n1 cap1,.int .i64 R,.bool rests] 82):=⟨_,rfl⟩
  have z0:W0.heap.size = w.heap.size + 1:=by rw [hW0];simp
  have bel0:Below w.heap.size w W0:=by rw [hW0];exact (Below.refl _ w).alloc (Nat.le_refl _) _
  have g0:W0.cell? ⟨w.heap.size,0,none⟩ = some (.slice a0 n cap0):=by rw [hW0,Lib.cell_of_heap (heap_alloc_new w _)];rfl
  have g1:W0.cell? ⟨w.heap.size,1,none⟩ = some (.slice a1 n1 cap1):=by rw [hW0,Lib.cell_of_heap (heap_alloc_new w _)];rfl
  have g2:W0.cell? ⟨w.heap.size,2,none⟩ = some (.int .i64 R):=by rw [hW0,Lib.cell_of_heap (heap_alloc_new w _)];rfl
  unfold maxLen at hnm
  obtain ⟨hm,hm1⟩:=hnm
  go_enter Try.func92,Try.ntmps92
  go_wp2_with (go_at_call 62;refine (hin _ _ _ _).mono ?_)
  rw [← hW0]
  first | rintro e w1 ⟨rfl,b1⟩ | rintro e w1 rfl b1
  have l1:w.heap.size < W0.heap.size:=by omega
  have g0:=(b1.cell (p:=⟨w.heap.size,0,none⟩) l1).trans g0
  have g1:=(b1.cell (p:=⟨w.heap.size,1,none⟩) l1).trans g1
  have g2:=(b1.cell (p:=⟨w.heap.size,2,none⟩) l1).trans g2
  have bel1:Below w.heap.size w w1:=bel0.trans (b1.mono (by omega))
  by_cases h1:1 ≤ n∧n ≤ 16
  · have hd1:decide ((1:Int) ≤ (n:Int)∧(n:Int) ≤ 16) = true:=decide_eq_true ⟨by omega,by omega⟩
    rw [hd1]
    by_cases h2:n1 = n
    · subst h2
      have hd2:decide ((0:Int) ≤ R∧R ≤ 50) = false:=decide_eq_false fun h=>hbad ⟨h1.1,h1.2,rfl,h.1,h.2⟩
      go_wp2_with (go_at_call 62;refine (hin _ _ _ _).mono ?_)
      first | rintro e w2 ⟨rfl,b2⟩ | rintro e w2 rfl b2
      rw [hd2]
      have bel2:=bel1.trans (b2.mono bel1.size)
      go_wp2
      go_ret2
      exact ⟨rfl,bel2⟩
    · have h2':¬ (n1:Int) = (n:Int):=by omega
      go_wp2
      go_ret2
      exact ⟨rfl,bel1⟩
  · have hd1:decide ((1:Int) ≤ (n:Int)∧(n:Int) ≤ 16) = false:=decide_eq_false fun h=>h1 ⟨by omega,by omega⟩
    rw [hd1]
    go_wp2
    go_ret2
    exact ⟨rfl,bel1⟩
end Go.Proofs.Ytmllgpkgjniomaa.AWN

namespace Go.Proofs.Ytmllgpkgjniomaa.AWN
open Go Go.Shelf Go.RowKit Go.Proofs.Try
def phs {α:Type} (ph:α→Option Str):List α→Option (List Str)
  | []=>some []
  | a :: r=>(ph a).bind fun s=>(phs ph r).bind fun t=>grd (s.length ≤ 1000) (some (s :: t))
theorem qre {α:Type} {ph:α→Option Str}:∀ {l:List α} {r:List Str},phs ph l = some r→(∀ k (h:k < l.length),ph l[k] = some (r.getD k []))∧∀ k,(r.getD k []).length ≤ 1000
  | [],r,h=>by
    cases h
    exact ⟨fun k h=>absurd h (Nat.not_lt_zero _),fun k=>by simp⟩
  | a :: l,r,h=>by
    unfold phs at h
    obtain ⟨s,hs,h⟩:=Option.bind_eq_some_iff.1 h
    obtain ⟨t,ht,h⟩:=Option.bind_eq_some_iff.1 h
    unfold grd at h
    split at h
    · cases h
      obtain ⟨i1,i2⟩:=qre ht
      refine ⟨fun k hk=>?_,fun k=>?_⟩
      · rcases k with _ | k
        · exact hs
        · exact i1 k (by simpa using hk)
      · rcases k with _ | k
        · assumption
        · exact i2 k
    · cases h
def CxAt (W:World) (a:Option Addr) (x1 y1 x2 y2 x3 y3 k:Nat) (P:Nat × Nat × Nat × Nat × Nat × Nat):Prop :=
  (∃ b o,a = some ⟨b,o,none⟩∧b < W.heap.size∧W.cell? ⟨b,o + k * 3,none⟩ = some (.complex .f32 P.1 P.2.1)∧W.cell? ⟨b,o + k * 3 + 1,none⟩ = some (.complex .f32 P.2.2.1 P.2.2.2.1)∧W.cell? ⟨b,o + k * 3 + 2,none⟩ = some (.complex .f32 P.2.2.2.2.1 P.2.2.2.2.2)) ∧
  ∀ W' hb H ok',Rel W' hb H ok' (.agg [.d (.cx .f32 x1 y1),.d (.cx .f32 x2 y2),.d (.cx .f32 x3 y3)]) (.agg #[.complex .f32 P.1 P.2.1,.complex .f32 P.2.2.1 P.2.2.2.1,.complex .f32 P.2.2.2.2.1 P.2.2.2.2.2])
section
variable {α:Type} {eP:α→List D} {p1 q1 p2 q2 p3 q3:α→Nat} (hf:∀ a,eP a = [.cx .f32 (p1 a) (q1 a),.cx .f32 (p2 a) (q2 a),.cx .f32 (p3 a) (q3 a)])
include hf
theorem qtn {W:World} {ok:Nat→Prop} (hok:∀ b,ok b→b < W.heap.size) {l:List α} {v:Value} (h:RelD W ok (.sl false (l.map eP)) v) :
    ∃ a cap,v = .slice a l.length cap∧l.length ≤ maxLen∧∃ P:Nat→Nat × Nat × Nat × Nat × Nat × Nat,∀ k,(hk:k < l.length)→CxAt W a (p1 l[k]) (q1 l[k]) (p2 l[k]) (q2 l[k]) (p3 l[k]) (q3 l[k]) k (P k):=by
  generalize hes:l.map eP = es at h
  cases h with
  | slnil =>
    have:l = []:=by simpa using hes
    subst this
    exact ⟨none,0,rfl,Nat.zero_le _,fun _=>(0,0,0,0,0,0),fun k hk=>absurd hk (Nat.not_lt_zero _)⟩
  | sle =>
    have:l = []:=by simpa using hes
    subst this
    exact ⟨_,0,rfl,Nat.zero_le _,fun _=>(0,0,0,0,0,0),fun k hk=>absurd hk (Nat.not_lt_zero _)⟩
  | sl sz vs k1 k2 k3 k4 k5 k6 k7 k8 =>
    rename_i b o len cap
    subst hes
    rw [List.length_map] at k2
    subst k2
    refine ⟨_,cap,rfl,k5,?_⟩
    suffices h:∀ k,∃ P:Nat × Nat × Nat × Nat × Nat × Nat,∀ (hk:k < l.length),CxAt W (some ⟨b,o,none⟩) (p1 l[k]) (q1 l[k]) (p2 l[k]) (q2 l[k]) (p3 l[k]) (q3 l[k]) k P from
      ⟨fun k=>Classical.choose (h k),fun k hk=>Classical.choose_spec (h k) hk⟩
    intro k
    by_cases hk:k < l.length
    · have e:(l.map eP).getD k [] = [.cx .f32 (p1 l[k]) (q1 l[k]),.cx .f32 (p2 l[k]) (q2 l[k]),.cx .f32 (p3 l[k]) (q3 l[k])]:=by
        rw [List.getD_eq_getElem?_getD,List.getElem?_map,List.getElem?_eq_getElem hk]
        exact hf _
      have h6:=k6 k hk
      rw [e] at h6
      have h6:3 = sz:=h6
      subst h6
      have c0:=k7 k 0 hk (by omega)
      have c1:=k7 k 1 hk (by omega)
      have c2:=k7 k 2 hk (by omega)
      have r0:=k8 k 0 hk (by omega)
      have r1:=k8 k 1 hk (by omega)
      have r2:=k8 k 2 hk (by omega)
      rw [e] at r0 r1 r2
      have r0:RelD W ok (.cx .f32 (p1 l[k]) (q1 l[k])) (vs k 0):=r0
      have r1:RelD W ok (.cx .f32 (p2 l[k]) (q2 l[k])) (vs k 1):=r1
      have r2:RelD W ok (.cx .f32 (p3 l[k]) (q3 l[k])) (vs k 2):=r2
      generalize vs k 0 = u0 at c0 r0
      generalize vs k 1 = u1 at c1 r1
      generalize vs k 2 = u2 at c2 r2
      cases r0 with
      | cx a1 a2 a3 a4 =>
      cases r1 with
      | cx b1 b2 b3 b4 =>
      cases r2 with
      | cx d1 d2 d3 d4 =>
      refine ⟨(_,_,_,_,_,_),fun _=>⟨⟨b,o,rfl,hok _ (k1 (by
        intro hnil
        have:l = []:=by simpa using hnil
        rw [this] at hk;exact absurd hk (Nat.not_lt_zero _))),by simpa using c0,by simpa [Nat.add_assoc] using c1,by simpa [Nat.add_assoc] using c2⟩,fun W' hb H ok'=>.agg rfl fun i hi=>?_⟩⟩
      rcases i with _ | _ | _ | i
      · exact qlm a1 a2 a3 a4
      · exact qlm b1 b2 b3 b4
      · exact qlm d1 d2 d3 d4
      · simp at hi;omega
    · exact ⟨(0,0,0,0,0,0),fun h=>absurd h hk⟩
variable {byt:Int→Int→Option Str} {ph:α→Option Str}
def qu7 (byt:Int→Int→Option Str) (ph:α→Option Str) (V C:List α) (R:Int) (rests:Bool):Option (Str × Bool) :=
  if 1 ≤ V.length∧V.length ≤ 16∧C.length = V.length∧0 ≤ R∧R ≤ 50 then
    (byt R 1).bind fun s1=>(byt (if rests then 1 else 0) 1).bind fun s2=>grd (s1.length + s2.length ≤ 1000) ((phs ph V).bind fun xs=>(phs ph C).bind fun ys =>
      some (qjw (fun k=>xs.getD k []) (fun k=>ys.getD k []) (s1 ++ s2) V.length,true))
  else some ([],false)
variable (hin:∀ k lo hi,qb5 prog false 62 [.d (.int .i64 k),.d (.int .i64 lo),.d (.int .i64 hi)] [] (fun v o n=>v = .d (.bool (decide (lo ≤ k∧k ≤ hi)))∧o = []∧n = []))
variable (hbyt:∀ a b r,byt a b = some r→qb5 prog false 44 [.d (.int .i64 a),.d (.int .i64 b)] [] (fun v o n=>v = .d (.str (bstr r))∧o = []∧n = []))
variable (hph:∀ a r,ph a = some r→qb5 prog false 128 [.agg [.d (.cx .f32 (p1 a) (q1 a)),.d (.cx .f32 (p2 a) (q2 a)),.d (.cx .f32 (p3 a) (q3 a))]] [] (fun v o n=>v = .d (.str (bstr r))∧o = []∧n = []))
omit hf in
omit hf in
theorem relL_3 {W:World} {hb:Handle} {H:Nat→AObj} {ok:Nat→Prop} {x y z:V} {v u t:Value} (h:Rel W hb H ok x v) (h':Rel W hb H ok y u) (h'':Rel W hb H ok z t):RelL W hb H ok [x,y,z] #[v,u,t]:=⟨rfl,fun i hi=>by
  rcases i with _ | _ | _ | i
  · exact h
  · exact h'
  · exact h''
  · simp at hi;omega⟩
include hin hbyt hph
theorem flow_does {fr:Bool} {V C:List α} {R:Int} {rests:Bool} {r:Str × Bool} (h:qu7 byt ph V C R rests = some r) :
    qb5 prog fr 92 [.agg [.d (.sl false (V.map eP)),.d (.sl false (C.map eP)),.d (.int .i64 R),.d (.bool rests)]] [] (fun v o n=>v = .tup [.d (.str (bstr r.1)),.d (.bool r.2)]∧o = []∧n = []):=by
  refine qmr fun W hb H ok vals hl hok hr=>?_
  obtain ⟨v,rfl,h1⟩:∃ v,vals = #[v]∧Rel W hb H ok (.agg [.d (.sl false (V.map eP)),.d (.sl false (C.map eP)),.d (.int .i64 R),.d (.bool rests)]) v:=by
    obtain ⟨g1,g2⟩:=hr
    have hs:vals.size = 1:=by simp at g1;omega
    refine ⟨vals[0],?_,?_⟩
    · apply Array.ext
      · simp;omega
      · intro i hi hj
        simp at hj
        have:i = 0:=by omega
        subst this;rfl
    · have:=g2 0 (by omega)
      simpa [Array.getD_eq_getD_getElem?,hs] using this
  obtain ⟨u0,u1,rfl,m0,m1⟩:∃ u0 u1,v = .agg #[u0,u1,.int .i64 R,.bool rests]∧RelD W ok (.sl false (V.map eP)) u0∧RelD W ok (.sl false (C.map eP)) u1:=by
    cases h1 with
    | agg g1 g2 =>
      rename_i a
      have hs:a.size = 4:=by simp at g1;omega
      have r0:=g2 0 (by omega)
      have r1:=g2 1 (by omega)
      have r2:=qgl (g2 2 (by omega))
      have r3:=qfl (g2 3 (by omega))
      have s0:RelD W ok (.sl false (V.map eP)) (a.getD 0 undef):=by
        cases r0 with | d h=>exact h
      have s1:RelD W ok (.sl false (C.map eP)) (a.getD 1 undef):=by
        cases r1 with | d h=>exact h
      refine ⟨a.getD 0 undef,a.getD 1 undef,?_,s0,s1⟩
      congr 1
      apply Array.ext
      · simp;omega
      · intro i hi hj
        simp at hj
        have:i = 0 ∨ i = 1 ∨ i = 2 ∨ i = 3:=by omega
        rcases this with rfl | rfl | rfl | rfl
        · simp [Array.getD_eq_getD_getElem?,Array.getElem?_eq_getElem hi]
        · simp [Array.getD_eq_getD_getElem?,Array.getElem?_eq_getElem hi]
        · rw [Array.getD_eq_getD_getElem?,Array.getElem?_eq_getElem hi] at r2;exact r2
        · rw [Array.getD_eq_getD_getElem?,Array.getElem?_eq_getElem hi] at r3;exact r3
  obtain ⟨a0,cap0,rfl,n0,P,hP⟩:=qtn hf hok m0
  obtain ⟨a1,cap1,rfl,n1,Q,hQ⟩:=qtn hf hok m1
  have hin':∀ wr (k lo hi:Int),Calls prog 62 #[.int .i64 k,.int .i64 lo,.int .i64 hi] wr fun e w'=>e = .returned (.bool (decide (lo ≤ k∧k ≤ hi)))∧Below wr.heap.size wr w':=fun wr k lo hi =>
    qfm (qkl wr) (hin k lo hi) (relL_3 (qfj _ _) (qfj _ _) (qfj _ _)) fun _ _ _ _ _ h=>qfl h
  have fin:∀ (e:Ending) (w':World),(e = .returned (.tuple #[.string (bstr r.1),.bool r.2])∧Below W.heap.size W w')→∃ v,e = .returned v∧Below W.heap.size W w'∧∀ hb H ok,Rel w' hb H ok (.tup [.d (.str (bstr r.1)),.d (.bool r.2)]) v:=by
    rintro e w' ⟨rfl,bel⟩
    refine ⟨_,rfl,bel,fun hb H ok=>.tup rfl fun i hi=>?_⟩
    rcases i with _ | _ | i
    · exact qqm _
    · exact qhz _
    · simp at hi;omega
  unfold qu7 at h
  by_cases hc:1 ≤ V.length∧V.length ≤ 16∧C.length = V.length∧0 ≤ R∧R ≤ 50
  · rw [if_pos hc] at h
    obtain ⟨s1,e1,h⟩:=Option.bind_eq_some_iff.1 h
    obtain ⟨s2,e2,h⟩:=Option.bind_eq_some_iff.1 h
    unfold grd at h
    split at h
    · rename_i hs
      obtain ⟨xs,ex,h⟩:=Option.bind_eq_some_iff.1 h
      obtain ⟨ys,ey,h⟩:=Option.bind_eq_some_iff.1 h
      cases h
      obtain ⟨i1,i2⟩:=qre ex
      obtain ⟨j1,j2⟩:=qre ey
      refine (flow_walk W a0 a1 V.length cap0 C.length cap1 R rests (fun k=>(P k).1) (fun k=>(P k).2.2.1) (fun k=>(P k).2.2.2.2.1) (fun k=>(P k).2.1) (fun k=>(P k).2.2.2.1) (fun k=>(P k).2.2.2.2.2) (fun k=>(Q k).1) (fun k=>(Q k).2.2.1) (fun k=>(Q k).2.2.2.2.1) (fun k=>(Q k).2.1) (fun k=>(Q k).2.2.2.1) (fun k=>(Q k).2.2.2.2.2) (fun k=>xs.getD k []) (fun k=>ys.getD k []) s1 s2
        ⟨hc.1,hc.2.1⟩ hc.2.2.1 hc.2.2.2 hin'
        (fun wr=>qfm (qkl wr) (hbyt _ _ _ e1) (ql3 (qfj _ _) (qfj _ _)) fun _ _ _ _ _ h=>qix h)
        (fun wr=>qfm (qkl wr) (hbyt _ _ _ e2) (ql3 (qfj _ _) (qfj _ _)) fun _ _ _ _ _ h=>qix h)
        (fun k hk wr=>qfm (qkl wr) (hph _ _ (i1 k hk)) (qoo ((hP k hk).2 _ _ _ _)) fun _ _ _ _ _ h=>qix h)
        (fun k hk wr=>qfm (qkl wr) (hph _ _ (j1 k (by omega))) (qoo ((hQ k (by omega)).2 _ _ _ _)) fun _ _ _ _ _ h=>qix h)
        (fun k hk=>(hP k hk).1) (fun k hk=>(hQ k (by omega)).1) ⟨hs,fun k=>⟨i2 k,j2 k⟩⟩).mono fun e w' h=>fin e w' h
    · cases h
  · rw [if_neg hc] at h
    cases h
    exact (flow_no W a0 a1 V.length cap0 C.length cap1 R rests hc ⟨n0,n1⟩ hin').mono fun e w' h=>fin e w' h
end
end Go.Proofs.Ytmllgpkgjniomaa.AWN
