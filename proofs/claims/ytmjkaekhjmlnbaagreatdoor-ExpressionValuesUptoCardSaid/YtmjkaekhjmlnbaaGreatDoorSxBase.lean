/- The functions' texts and the types of this seat, as a walk asks for them. -/
import Derived.Test.YtmjkaekhjmlnbaaGreatDoorProg
import Derived.Test.YtmjkaekhjmlnbaaGreatDoorAmEnd
import Derived.KernelRfl
set_option linter.unusedVariables false
namespace Go.Proofs.Sx
open Go Go.Proofs Go.Proofs.Am

noncomputable def bodyOf (f : Func) : Code := match f.body with | some c => c | none => .skip
noncomputable def resOf (f : Func) : Array ResultVar := f.results
def tabL : List (Nat × TRow) :=
  [(3, ⟨some ⟨1, false, 8, .int .i64 0⟩, .int .i64, [], none⟩),
   (4, ⟨some ⟨1, false, 1, .bool false⟩, .bool, [], none⟩),
   (5, ⟨some ⟨1, false, 1, .int .u8 0⟩, .int .u8, [], none⟩),
   (9, ⟨some ⟨1, false, 16, .str ⟨#[]⟩⟩, .str, [], none⟩),
   (22, ⟨some ⟨1, false, 24, .snil⟩, .slice 9, [], none⟩),
   (23, ⟨some ⟨1, false, 24, .snil⟩, .slice 25, [], none⟩),
   (25, ⟨some ⟨6, true, 88, .agg [.int .i64 0, .int .i64 0, .int .i64 0, .str ⟨#[]⟩, .snil, .snil]⟩, .struct, [(0, 3), (1, 3), (2, 3), (3, 9), (4, 22), (5, 23)], some [(0, 1), (1, 1), (2, 1), (3, 1), (4, 1), (5, 1)]⟩),
   (26, ⟨some ⟨1, false, 24, .snil⟩, .slice 44, [], none⟩),
   (28, ⟨some ⟨1, true, 24, .agg [.snil]⟩, .struct, [(0, 26)], some [(0, 1)]⟩),
   (32, ⟨some ⟨1, false, 8, .int .i64 0⟩, .int .i64, [], none⟩),
   (44, ⟨some ⟨7, true, 104, .agg [.str ⟨#[]⟩, .int .i64 0, .int .i64 0, .int .i64 0, .str ⟨#[]⟩, .snil, .snil]⟩, .struct, [(0, 9), (1, 25)], some [(0, 1), (1, 6)]⟩),
   (62, ⟨some ⟨1, false, 24, .snil⟩, .slice 3, [], none⟩),
   (70, ⟨some ⟨2, true, 16, .agg [.int .i64 0, .bool false]⟩, .struct, [(0, 3), (1, 4)], some [(0, 1), (1, 1)]⟩),
   (73, ⟨some ⟨1, false, 24, .snil⟩, .slice 5, [], none⟩),
   (78, ⟨some ⟨1, true, 8, .agg [.int .i64 0]⟩, .struct, [(0, 3)], some [(0, 1)]⟩),
   (94, ⟨some ⟨9, true, 40, .agg [.int .i64 0, .int .i64 0, .bool false, .bool false, .bool false, .int .i64 0, .bool false, .bool false, .bool false]⟩, .struct, [(0, 3), (1, 3), (2, 4), (3, 4), (4, 4), (5, 3), (6, 4), (7, 4), (8, 4)], some [(0, 1), (1, 1), (2, 1), (3, 1), (4, 1), (5, 1), (6, 1), (7, 1), (8, 1)]⟩),
   (112, ⟨some ⟨2, true, 16, .agg [.int .i64 0, .int .i64 0]⟩, .arr 2 3, [(0, 3), (0, 3)], some [(0, 1), (1, 1)]⟩),
   (113, ⟨some ⟨1, false, 24, .snil⟩, .slice 112, [], none⟩)]

def Tb : Nat → Option TRow := lookT tabL
theorem TbOk : TabOk Tryz.prog Tb := tabOk_list (by kernel_rfl)
theorem mixed : Tryz.prog.follows .mixedOrders = true := by kernel_rfl
theorem fn3 : FnIs Tryz.prog 3 (bodyOf Tryz.f3) #[.tmp 4] 48 := ⟨⟨Tryz.f3, Tryz.func3, by kernel_rfl, by kernel_rfl, by kernel_rfl, by kernel_rfl⟩, by kernel_rfl⟩
theorem fn5 : FnIs Tryz.prog 5 (bodyOf Tryz.f5) #[.tmp 2] 10 := ⟨⟨Tryz.f5, Tryz.func5, by kernel_rfl, by kernel_rfl, by kernel_rfl, by kernel_rfl⟩, by kernel_rfl⟩
theorem fn6 : FnIs Tryz.prog 6 (bodyOf Tryz.f6) #[.tmp 2] 37 := ⟨⟨Tryz.f6, Tryz.func6, by kernel_rfl, by kernel_rfl, by kernel_rfl, by kernel_rfl⟩, by kernel_rfl⟩
theorem fn7 : FnIs Tryz.prog 7 (bodyOf Tryz.f7) #[.tmp 2, .tmp 3] 38 := ⟨⟨Tryz.f7, Tryz.func7, by kernel_rfl, by kernel_rfl, by kernel_rfl, by kernel_rfl⟩, by kernel_rfl⟩
theorem fn8 : FnIs Tryz.prog 8 (bodyOf Tryz.f8) #[.tmp 2] 5 := ⟨⟨Tryz.f8, Tryz.func8, by kernel_rfl, by kernel_rfl, by kernel_rfl, by kernel_rfl⟩, by kernel_rfl⟩
theorem fn9 : FnIs Tryz.prog 9 (bodyOf Tryz.f9) #[.tmp 2, .tmp 3] 44 := ⟨⟨Tryz.f9, Tryz.func9, by kernel_rfl, by kernel_rfl, by kernel_rfl, by kernel_rfl⟩, by kernel_rfl⟩
theorem fn10 : FnIs Tryz.prog 10 (bodyOf Tryz.f10) #[.tmp 2] 8 := ⟨⟨Tryz.f10, Tryz.func10, by kernel_rfl, by kernel_rfl, by kernel_rfl, by kernel_rfl⟩, by kernel_rfl⟩
theorem fn11 : FnIs Tryz.prog 11 (bodyOf Tryz.f11) #[.cell 2 25] 12 := ⟨⟨Tryz.f11, Tryz.func11, by kernel_rfl, by kernel_rfl, by kernel_rfl, by kernel_rfl⟩, by kernel_rfl⟩
theorem fn12 : FnIs Tryz.prog 12 (bodyOf Tryz.f12) #[.tmp 2] 5 := ⟨⟨Tryz.f12, Tryz.func12, by kernel_rfl, by kernel_rfl, by kernel_rfl, by kernel_rfl⟩, by kernel_rfl⟩
theorem fn19 : FnIs Tryz.prog 19 (bodyOf Tryz.f19) #[.tmp 6] 37 := ⟨⟨Tryz.f19, Tryz.func19, by kernel_rfl, by kernel_rfl, by kernel_rfl, by kernel_rfl⟩, by kernel_rfl⟩
theorem fn20 : FnIs Tryz.prog 20 (bodyOf Tryz.f20) #[.tmp 2] 43 := ⟨⟨Tryz.f20, Tryz.func20, by kernel_rfl, by kernel_rfl, by kernel_rfl, by kernel_rfl⟩, by kernel_rfl⟩
theorem fn21 : FnIs Tryz.prog 21 (bodyOf Tryz.f21) #[.tmp 2] 67 := ⟨⟨Tryz.f21, Tryz.func21, by kernel_rfl, by kernel_rfl, by kernel_rfl, by kernel_rfl⟩, by kernel_rfl⟩
theorem fn22 : FnIs Tryz.prog 22 (bodyOf Tryz.f22) #[.tmp 4] 9 := ⟨⟨Tryz.f22, Tryz.func22, by kernel_rfl, by kernel_rfl, by kernel_rfl, by kernel_rfl⟩, by kernel_rfl⟩
theorem fn23 : FnIs Tryz.prog 23 (bodyOf Tryz.f23) #[.tmp 3] 9 := ⟨⟨Tryz.f23, Tryz.func23, by kernel_rfl, by kernel_rfl, by kernel_rfl, by kernel_rfl⟩, by kernel_rfl⟩
theorem fn24 : FnIs Tryz.prog 24 (bodyOf Tryz.f24) #[.tmp 2] 27 := ⟨⟨Tryz.f24, Tryz.func24, by kernel_rfl, by kernel_rfl, by kernel_rfl, by kernel_rfl⟩, by kernel_rfl⟩
theorem fn25 : FnIs Tryz.prog 25 (bodyOf Tryz.f25) #[.tmp 2] 66 := ⟨⟨Tryz.f25, Tryz.func25, by kernel_rfl, by kernel_rfl, by kernel_rfl, by kernel_rfl⟩, by kernel_rfl⟩
theorem fn26 : FnIs Tryz.prog 26 (bodyOf Tryz.f26) #[.tmp 4] 8 := ⟨⟨Tryz.f26, Tryz.func26, by kernel_rfl, by kernel_rfl, by kernel_rfl, by kernel_rfl⟩, by kernel_rfl⟩
theorem fn27 : FnIs Tryz.prog 27 (bodyOf Tryz.f27) #[.tmp 2] 7 := ⟨⟨Tryz.f27, Tryz.func27, by kernel_rfl, by kernel_rfl, by kernel_rfl, by kernel_rfl⟩, by kernel_rfl⟩
theorem fn28 : FnIs Tryz.prog 28 (bodyOf Tryz.f28) #[.tmp 2] 25 := ⟨⟨Tryz.f28, Tryz.func28, by kernel_rfl, by kernel_rfl, by kernel_rfl, by kernel_rfl⟩, by kernel_rfl⟩
theorem fn29 : FnIs Tryz.prog 29 (bodyOf Tryz.f29) #[.tmp 2] 6 := ⟨⟨Tryz.f29, Tryz.func29, by kernel_rfl, by kernel_rfl, by kernel_rfl, by kernel_rfl⟩, by kernel_rfl⟩
theorem fn30 : FnIs Tryz.prog 30 (bodyOf Tryz.f30) #[.tmp 2] 20 := ⟨⟨Tryz.f30, Tryz.func30, by kernel_rfl, by kernel_rfl, by kernel_rfl, by kernel_rfl⟩, by kernel_rfl⟩
theorem fn31 : FnIs Tryz.prog 31 (bodyOf Tryz.f31) #[.tmp 2] 8 := ⟨⟨Tryz.f31, Tryz.func31, by kernel_rfl, by kernel_rfl, by kernel_rfl, by kernel_rfl⟩, by kernel_rfl⟩
theorem fn36 : FnIs Tryz.prog 36 (bodyOf Tryz.f36) #[.tmp 4] 99 := ⟨⟨Tryz.f36, Tryz.func36, by kernel_rfl, by kernel_rfl, by kernel_rfl, by kernel_rfl⟩, by kernel_rfl⟩
theorem fn37 : FnIs Tryz.prog 37 (bodyOf Tryz.f37) #[] 34 := ⟨⟨Tryz.f37, Tryz.func37, by kernel_rfl, by kernel_rfl, by kernel_rfl, by kernel_rfl⟩, by kernel_rfl⟩
theorem fn38 : FnIs Tryz.prog 38 (bodyOf Tryz.f38) #[.tmp 4] 8 := ⟨⟨Tryz.f38, Tryz.func38, by kernel_rfl, by kernel_rfl, by kernel_rfl, by kernel_rfl⟩, by kernel_rfl⟩
theorem fn40 : FnIs Tryz.prog 40 (bodyOf Tryz.f40) #[.tmp 4] 19 := ⟨⟨Tryz.f40, Tryz.func40, by kernel_rfl, by kernel_rfl, by kernel_rfl, by kernel_rfl⟩, by kernel_rfl⟩
theorem fn41 : FnIs Tryz.prog 41 (bodyOf Tryz.f41) #[.tmp 6] 15 := ⟨⟨Tryz.f41, Tryz.func41, by kernel_rfl, by kernel_rfl, by kernel_rfl, by kernel_rfl⟩, by kernel_rfl⟩
theorem fn42 : FnIs Tryz.prog 42 (bodyOf Tryz.f42) #[.tmp 2] 9 := ⟨⟨Tryz.f42, Tryz.func42, by kernel_rfl, by kernel_rfl, by kernel_rfl, by kernel_rfl⟩, by kernel_rfl⟩
theorem fn43 : FnIs Tryz.prog 43 (bodyOf Tryz.f43) #[.tmp 2] 9 := ⟨⟨Tryz.f43, Tryz.func43, by kernel_rfl, by kernel_rfl, by kernel_rfl, by kernel_rfl⟩, by kernel_rfl⟩
theorem fn44 : FnIs Tryz.prog 44 (bodyOf Tryz.f44) #[.tmp 2] 9 := ⟨⟨Tryz.f44, Tryz.func44, by kernel_rfl, by kernel_rfl, by kernel_rfl, by kernel_rfl⟩, by kernel_rfl⟩
theorem fn45 : FnIs Tryz.prog 45 (bodyOf Tryz.f45) #[.tmp 4] 20 := ⟨⟨Tryz.f45, Tryz.func45, by kernel_rfl, by kernel_rfl, by kernel_rfl, by kernel_rfl⟩, by kernel_rfl⟩
theorem fn46 : FnIs Tryz.prog 46 (bodyOf Tryz.f46) #[.tmp 6] 39 := ⟨⟨Tryz.f46, Tryz.func46, by kernel_rfl, by kernel_rfl, by kernel_rfl, by kernel_rfl⟩, by kernel_rfl⟩
theorem fn47 : FnIs Tryz.prog 47 (bodyOf Tryz.f47) #[.tmp 2] 152 := ⟨⟨Tryz.f47, Tryz.func47, by kernel_rfl, by kernel_rfl, by kernel_rfl, by kernel_rfl⟩, by kernel_rfl⟩
theorem fn48 : FnIs Tryz.prog 48 (bodyOf Tryz.f48) #[.tmp 4] 17 := ⟨⟨Tryz.f48, Tryz.func48, by kernel_rfl, by kernel_rfl, by kernel_rfl, by kernel_rfl⟩, by kernel_rfl⟩
theorem fn49 : FnIs Tryz.prog 49 (bodyOf Tryz.f49) #[.tmp 2] 27 := ⟨⟨Tryz.f49, Tryz.func49, by kernel_rfl, by kernel_rfl, by kernel_rfl, by kernel_rfl⟩, by kernel_rfl⟩
theorem fn56 : FnIs Tryz.prog 56 (bodyOf Tryz.f56) #[.tmp 4] 52 := ⟨⟨Tryz.f56, Tryz.func56, by kernel_rfl, by kernel_rfl, by kernel_rfl, by kernel_rfl⟩, by kernel_rfl⟩
theorem fn57 : FnIs Tryz.prog 57 (bodyOf Tryz.f57) #[.tmp 2] 4 := ⟨⟨Tryz.f57, Tryz.func57, by kernel_rfl, by kernel_rfl, by kernel_rfl, by kernel_rfl⟩, by kernel_rfl⟩
theorem fn58 : FnIs Tryz.prog 58 (bodyOf Tryz.f58) #[.tmp 4] 44 := ⟨⟨Tryz.f58, Tryz.func58, by kernel_rfl, by kernel_rfl, by kernel_rfl, by kernel_rfl⟩, by kernel_rfl⟩
theorem fn59 : FnIs Tryz.prog 59 (bodyOf Tryz.f59) #[.tmp 4] 36 := ⟨⟨Tryz.f59, Tryz.func59, by kernel_rfl, by kernel_rfl, by kernel_rfl, by kernel_rfl⟩, by kernel_rfl⟩
theorem fn60 : FnIs Tryz.prog 60 (bodyOf Tryz.f60) #[.tmp 4] 21 := ⟨⟨Tryz.f60, Tryz.func60, by kernel_rfl, by kernel_rfl, by kernel_rfl, by kernel_rfl⟩, by kernel_rfl⟩
theorem fn62 : FnIs Tryz.prog 62 (bodyOf Tryz.f62) #[.cell 2 94, .tmp 3] 33 := ⟨⟨Tryz.f62, Tryz.func62, by kernel_rfl, by kernel_rfl, by kernel_rfl, by kernel_rfl⟩, by kernel_rfl⟩
theorem fn63 : FnIs Tryz.prog 63 (bodyOf Tryz.f63) #[.tmp 2] 37 := ⟨⟨Tryz.f63, Tryz.func63, by kernel_rfl, by kernel_rfl, by kernel_rfl, by kernel_rfl⟩, by kernel_rfl⟩
theorem fn64 : FnIs Tryz.prog 64 (bodyOf Tryz.f64) #[.tmp 4] 9 := ⟨⟨Tryz.f64, Tryz.func64, by kernel_rfl, by kernel_rfl, by kernel_rfl, by kernel_rfl⟩, by kernel_rfl⟩
theorem fn65 : FnIs Tryz.prog 65 (bodyOf Tryz.f65) #[.tmp 2] 6 := ⟨⟨Tryz.f65, Tryz.func65, by kernel_rfl, by kernel_rfl, by kernel_rfl, by kernel_rfl⟩, by kernel_rfl⟩
theorem fn66 : FnIs Tryz.prog 66 (bodyOf Tryz.f66) #[.tmp 4] 9 := ⟨⟨Tryz.f66, Tryz.func66, by kernel_rfl, by kernel_rfl, by kernel_rfl, by kernel_rfl⟩, by kernel_rfl⟩
theorem fn67 : FnIs Tryz.prog 67 (bodyOf Tryz.f67) #[.tmp 4] 25 := ⟨⟨Tryz.f67, Tryz.func67, by kernel_rfl, by kernel_rfl, by kernel_rfl, by kernel_rfl⟩, by kernel_rfl⟩
theorem fn68 : FnIs Tryz.prog 68 (bodyOf Tryz.f68) #[.tmp 4] 62 := ⟨⟨Tryz.f68, Tryz.func68, by kernel_rfl, by kernel_rfl, by kernel_rfl, by kernel_rfl⟩, by kernel_rfl⟩
theorem fn69 : FnIs Tryz.prog 69 (bodyOf Tryz.f69) #[.tmp 2] 211 := ⟨⟨Tryz.f69, Tryz.func69, by kernel_rfl, by kernel_rfl, by kernel_rfl, by kernel_rfl⟩, by kernel_rfl⟩
theorem fn83 : FnIs Tryz.prog 83 (bodyOf Tryz.f83) #[.tmp 4] 19 := ⟨⟨Tryz.f83, Tryz.func83, by kernel_rfl, by kernel_rfl, by kernel_rfl, by kernel_rfl⟩, by kernel_rfl⟩
theorem fn84 : FnIs Tryz.prog 84 (bodyOf Tryz.f84) #[.tmp 4] 19 := ⟨⟨Tryz.f84, Tryz.func84, by kernel_rfl, by kernel_rfl, by kernel_rfl, by kernel_rfl⟩, by kernel_rfl⟩
theorem fn86 : FnIs Tryz.prog 86 (bodyOf Tryz.f86) #[.tmp 4] 36 := ⟨⟨Tryz.f86, Tryz.func86, by kernel_rfl, by kernel_rfl, by kernel_rfl, by kernel_rfl⟩, by kernel_rfl⟩
theorem fn87 : FnIs Tryz.prog 87 (bodyOf Tryz.f87) #[.tmp 6] 39 := ⟨⟨Tryz.f87, Tryz.func87, by kernel_rfl, by kernel_rfl, by kernel_rfl, by kernel_rfl⟩, by kernel_rfl⟩
theorem fn88 : FnIs Tryz.prog 88 (bodyOf Tryz.f88) #[.tmp 2] 13 := ⟨⟨Tryz.f88, Tryz.func88, by kernel_rfl, by kernel_rfl, by kernel_rfl, by kernel_rfl⟩, by kernel_rfl⟩
theorem fn89 : FnIs Tryz.prog 89 (bodyOf Tryz.f89) #[.tmp 2] 42 := ⟨⟨Tryz.f89, Tryz.func89, by kernel_rfl, by kernel_rfl, by kernel_rfl, by kernel_rfl⟩, by kernel_rfl⟩
theorem fn90 : FnIs Tryz.prog 90 (bodyOf Tryz.f90) #[.tmp 4] 19 := ⟨⟨Tryz.f90, Tryz.func90, by kernel_rfl, by kernel_rfl, by kernel_rfl, by kernel_rfl⟩, by kernel_rfl⟩
theorem fn110 : FnIs Tryz.prog 110 (bodyOf Tryz.f110) #[.tmp 4] 20 := ⟨⟨Tryz.f110, Tryz.func110, by kernel_rfl, by kernel_rfl, by kernel_rfl, by kernel_rfl⟩, by kernel_rfl⟩
theorem fn134 : FnIs Tryz.prog 134 (bodyOf Tryz.f134) #[.tmp 2] 6 := ⟨⟨Tryz.f134, Tryz.func134, by kernel_rfl, by kernel_rfl, by kernel_rfl, by kernel_rfl⟩, by kernel_rfl⟩
end Go.Proofs.Sx
