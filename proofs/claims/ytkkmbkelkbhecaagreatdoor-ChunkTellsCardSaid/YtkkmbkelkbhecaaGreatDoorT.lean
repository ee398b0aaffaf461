/- The table of types that the walks use; what calls enter. -/
import Derived.Test.YtkkmbkelkbhecaaGreatDoorProg
import Derived.Test.YtkkmbkelkbhecaaGreatDoorEvD
set_option maxRecDepth 100000
set_option linter.unusedVariables false
namespace Go.Proofs.YtkkmbkelkbhecaaGreatDoor
open Go.Ev Go.Proofs.Tryz

def tab : Tab := { ty := [(2, .int .i64), (3, .int .i64), (4, .bool), (5, .int .u8), (9, .str), (21, .int .i32), (23, .int .i64), (29, .ptr), (30, .slice 5 1), (32, .struct [(0, 1, false, 29, true), (1, 1, false, 30, true)]), (34, .iface), (45, .slice 60 2), (48, .ptr), (60, .struct [(0, 1, false, 9, true), (1, 1, false, 9, true)]), (66, .arr 24 5 1 false), (67, .int .u64), (81, .func), (83, .func), (87, .int .u32), (88, .arr 65 5 1 false), (90, .int .u64), (96, .int .i64), (111, .arr 64 5 1 false)], zero := [(2, I 0), (3, I 0), (4, .bool false), (5, .int .u8 0), (9, S ([])), (21, .int .i32 0), (23, I 0), (29, .pointer none), (30, .slice none 0 0), (32, .agg #[.pointer none, .slice none 0 0]), (34, .nilIface), (45, .slice none 0 0), (48, .pointer none), (60, .agg #[S ([]), S ([])]), (66, .agg #[.int .u8 0, .int .u8 0, .int .u8 0, .int .u8 0, .int .u8 0, .int .u8 0, .int .u8 0, .int .u8 0, .int .u8 0, .int .u8 0, .int .u8 0, .int .u8 0, .int .u8 0, .int .u8 0, .int .u8 0, .int .u8 0, .int .u8 0, .int .u8 0, .int .u8 0, .int .u8 0, .int .u8 0, .int .u8 0, .int .u8 0, .int .u8 0]), (67, .int .u64 0), (81, .nilFunc), (83, .nilFunc), (87, .int .u32 0), (88, .agg #[.int .u8 0, .int .u8 0, .int .u8 0, .int .u8 0, .int .u8 0, .int .u8 0, .int .u8 0, .int .u8 0, .int .u8 0, .int .u8 0, .int .u8 0, .int .u8 0, .int .u8 0, .int .u8 0, .int .u8 0, .int .u8 0, .int .u8 0, .int .u8 0, .int .u8 0, .int .u8 0, .int .u8 0, .int .u8 0, .int .u8 0, .int .u8 0, .int .u8 0, .int .u8 0, .int .u8 0, .int .u8 0, .int .u8 0, .int .u8 0, .int .u8 0, .int .u8 0, .int .u8 0, .int .u8 0, .int .u8 0, .int .u8 0, .int .u8 0, .int .u8 0, .int .u8 0, .int .u8 0, .int .u8 0, .int .u8 0, .int .u8 0, .int .u8 0, .int .u8 0, .int .u8 0, .int .u8 0, .int .u8 0, .int .u8 0, .int .u8 0, .int .u8 0, .int .u8 0, .int .u8 0, .int .u8 0, .int .u8 0, .int .u8 0, .int .u8 0, .int .u8 0, .int .u8 0, .int .u8 0, .int .u8 0, .int .u8 0, .int .u8 0, .int .u8 0, .int .u8 0]), (90, .int .u64 0), (96, I 0), (111, .agg #[.int .u8 0, .int .u8 0, .int .u8 0, .int .u8 0, .int .u8 0, .int .u8 0, .int .u8 0, .int .u8 0, .int .u8 0, .int .u8 0, .int .u8 0, .int .u8 0, .int .u8 0, .int .u8 0, .int .u8 0, .int .u8 0, .int .u8 0, .int .u8 0, .int .u8 0, .int .u8 0, .int .u8 0, .int .u8 0, .int .u8 0, .int .u8 0, .int .u8 0, .int .u8 0, .int .u8 0, .int .u8 0, .int .u8 0, .int .u8 0, .int .u8 0, .int .u8 0, .int .u8 0, .int .u8 0, .int .u8 0, .int .u8 0, .int .u8 0, .int .u8 0, .int .u8 0, .int .u8 0, .int .u8 0, .int .u8 0, .int .u8 0, .int .u8 0, .int .u8 0, .int .u8 0, .int .u8 0, .int .u8 0, .int .u8 0, .int .u8 0, .int .u8 0, .int .u8 0, .int .u8 0, .int .u8 0, .int .u8 0, .int .u8 0, .int .u8 0, .int .u8 0, .int .u8 0, .int .u8 0, .int .u8 0, .int .u8 0, .int .u8 0, .int .u8 0])] }
theorem tabOK : TabOK Tryz.prog tab := Ev.tabOK_of (by kernel_rfl) ⟨zero_ok (by kernel_rfl) (by kernel_rfl), zero_ok (by kernel_rfl) (by kernel_rfl), zero_ok (by kernel_rfl) (by kernel_rfl), zero_ok (by kernel_rfl) (by kernel_rfl), zero_ok (by kernel_rfl) (by kernel_rfl), zero_ok (by kernel_rfl) (by kernel_rfl), zero_ok (by kernel_rfl) (by kernel_rfl), zero_ok (by kernel_rfl) (by kernel_rfl), zero_ok (by kernel_rfl) (by kernel_rfl), zero_ok (by kernel_rfl) (by kernel_rfl), zero_ok (by kernel_rfl) (by kernel_rfl), zero_ok (by kernel_rfl) (by kernel_rfl), zero_ok (by kernel_rfl) (by kernel_rfl), zero_ok (by kernel_rfl) (by kernel_rfl), zero_ok (by kernel_rfl) (by kernel_rfl), zero_ok (by kernel_rfl) (by kernel_rfl), zero_ok (by kernel_rfl) (by kernel_rfl), zero_ok (by kernel_rfl) (by kernel_rfl), zero_ok (by kernel_rfl) (by kernel_rfl), zero_ok (by kernel_rfl) (by kernel_rfl), zero_ok (by kernel_rfl) (by kernel_rfl), zero_ok (by kernel_rfl) (by kernel_rfl), zero_ok (by kernel_rfl) (by kernel_rfl), trivial⟩

def encT60 (x : Str × Str) : List Value := [S x.1, S x.2]
theorem encT60_len (x : Str × Str) : (encT60 x).length = 2 := rfl
theorem encT60_one (x : Str × Str) : allOne (encT60 x) = true := rfl
/-- math bits.deBruijn64tab -/
def tab5 : List UInt8 := [0, 1, 56, 2, 57, 49, 28, 3, 61, 58, 42, 50, 38, 29, 17, 4, 62, 47, 59, 36, 45, 43, 51, 22, 53, 39, 33, 30, 24, 18, 12, 5, 63, 55, 48, 27, 60, 41, 37, 16, 46, 35, 44, 21, 52, 32, 23, 11, 54, 26, 40, 15, 34, 20, 31, 10, 25, 14, 19, 9, 13, 8, 7, 6]
/-- The package-level tables hold what their text lays. -/
structure Glob (w : World) : Prop where
  utf8 : Lib.Utf8Tabs 6 7 w
  t5 : Rd w (some ⟨5, 0, none⟩) (tab5.map bV)
theorem Glob.of {w0 w : World} {L : List As} (h : Glob w0) (ho : Ows [] w0 w L) : Glob w := ⟨tabs_ows h.utf8 ho, rd_ows h.t5 ho⟩

theorem ext36 : Ext Tryz.prog 36 (Extern.AbiNoEscape.same) := Ev.ext_of func36 (by kernel_rfl) (by kernel_rfl) (by kernel_rfl) (by kernel_rfl)
theorem ext97 : Ext Tryz.prog 97 (Extern.BytealgIndexByte.indexByte) := Ev.ext_of func97 (by kernel_rfl) (by kernel_rfl) (by kernel_rfl) (by kernel_rfl)
theorem enters62 : Enters Tryz.prog 62 := Ev.enters_of func62 (by kernel_rfl) (by kernel_rfl)
theorem enters83 : Enters Tryz.prog 83 := Ev.enters_of func83 (by kernel_rfl) (by kernel_rfl)
theorem enters63 : Enters Tryz.prog 63 := Ev.enters_of func63 (by kernel_rfl) (by kernel_rfl)
theorem enters40 : Enters Tryz.prog 40 := Ev.enters_of func40 (by kernel_rfl) (by kernel_rfl)
theorem enters21 : Enters Tryz.prog 21 := Ev.enters_of func21 (by kernel_rfl) (by kernel_rfl)
theorem enters10 : Enters Tryz.prog 10 := Ev.enters_of func10 (by kernel_rfl) (by kernel_rfl)
theorem enters20 : Enters Tryz.prog 20 := Ev.enters_of func20 (by kernel_rfl) (by kernel_rfl)
theorem enters9 : Enters Tryz.prog 9 := Ev.enters_of func9 (by kernel_rfl) (by kernel_rfl)
theorem enters11 : Enters Tryz.prog 11 := Ev.enters_of func11 (by kernel_rfl) (by kernel_rfl)
theorem enters5 : Enters Tryz.prog 5 := Ev.enters_of func5 (by kernel_rfl) (by kernel_rfl)
theorem enters84 : Enters Tryz.prog 84 := Ev.enters_of func84 (by kernel_rfl) (by kernel_rfl)
theorem enters64 : Enters Tryz.prog 64 := Ev.enters_of func64 (by kernel_rfl) (by kernel_rfl)
theorem enters41 : Enters Tryz.prog 41 := Ev.enters_of func41 (by kernel_rfl) (by kernel_rfl)
theorem enters22 : Enters Tryz.prog 22 := Ev.enters_of func22 (by kernel_rfl) (by kernel_rfl)
theorem enters42 : Enters Tryz.prog 42 := Ev.enters_of func42 (by kernel_rfl) (by kernel_rfl)
theorem enters23 : Enters Tryz.prog 23 := Ev.enters_of func23 (by kernel_rfl) (by kernel_rfl)
theorem enters13 : Enters Tryz.prog 13 := Ev.enters_of func13 (by kernel_rfl) (by kernel_rfl)
theorem enters24 : Enters Tryz.prog 24 := Ev.enters_of func24 (by kernel_rfl) (by kernel_rfl)
theorem enters90 : Enters Tryz.prog 90 := Ev.enters_of func90 (by kernel_rfl) (by kernel_rfl)
theorem enters91 : Enters Tryz.prog 91 := Ev.enters_of func91 (by kernel_rfl) (by kernel_rfl)
theorem enters68 : Enters Tryz.prog 68 := Ev.enters_of func68 (by kernel_rfl) (by kernel_rfl)
theorem enters47 : Enters Tryz.prog 47 := Ev.enters_of func47 (by kernel_rfl) (by kernel_rfl)
theorem enters25 : Enters Tryz.prog 25 := Ev.enters_of func25 (by kernel_rfl) (by kernel_rfl)
theorem enters73 : Enters Tryz.prog 73 := Ev.enters_of func73 (by kernel_rfl) (by kernel_rfl)
theorem enters49 : Enters Tryz.prog 49 := Ev.enters_of func49 (by kernel_rfl) (by kernel_rfl)
theorem enters26 : Enters Tryz.prog 26 := Ev.enters_of func26 (by kernel_rfl) (by kernel_rfl)
theorem enters53 : Enters Tryz.prog 53 := Ev.enters_of func53 (by kernel_rfl) (by kernel_rfl)
theorem enters52 : Enters Tryz.prog 52 := Ev.enters_of func52 (by kernel_rfl) (by kernel_rfl)
theorem enters28 : Enters Tryz.prog 28 := Ev.enters_of func28 (by kernel_rfl) (by kernel_rfl)
theorem enters51 : Enters Tryz.prog 51 := Ev.enters_of func51 (by kernel_rfl) (by kernel_rfl)
theorem enters50 : Enters Tryz.prog 50 := Ev.enters_of func50 (by kernel_rfl) (by kernel_rfl)
theorem enters27 : Enters Tryz.prog 27 := Ev.enters_of func27 (by kernel_rfl) (by kernel_rfl)
theorem enters14 : Enters Tryz.prog 14 := Ev.enters_of func14 (by kernel_rfl) (by kernel_rfl)
theorem enters15 : Enters Tryz.prog 15 := Ev.enters_of func15 (by kernel_rfl) (by kernel_rfl)
theorem enters76 : Enters Tryz.prog 76 := Ev.enters_of func76 (by kernel_rfl) (by kernel_rfl)
theorem enters54 : Enters Tryz.prog 54 := Ev.enters_of func54 (by kernel_rfl) (by kernel_rfl)
theorem enters29 : Enters Tryz.prog 29 := Ev.enters_of func29 (by kernel_rfl) (by kernel_rfl)
theorem enters78 : Enters Tryz.prog 78 := Ev.enters_of func78 (by kernel_rfl) (by kernel_rfl)
theorem enters79 : Enters Tryz.prog 79 := Ev.enters_of func79 (by kernel_rfl) (by kernel_rfl)
theorem enters80 : Enters Tryz.prog 80 := Ev.enters_of func80 (by kernel_rfl) (by kernel_rfl)
theorem enters77 : Enters Tryz.prog 77 := Ev.enters_of func77 (by kernel_rfl) (by kernel_rfl)
theorem enters55 : Enters Tryz.prog 55 := Ev.enters_of func55 (by kernel_rfl) (by kernel_rfl)
theorem enters56 : Enters Tryz.prog 56 := Ev.enters_of func56 (by kernel_rfl) (by kernel_rfl)
theorem enters30 : Enters Tryz.prog 30 := Ev.enters_of func30 (by kernel_rfl) (by kernel_rfl)
theorem enters16 : Enters Tryz.prog 16 := Ev.enters_of func16 (by kernel_rfl) (by kernel_rfl)
theorem enters7 : Enters Tryz.prog 7 := Ev.enters_of func7 (by kernel_rfl) (by kernel_rfl)
theorem enters4 : Enters Tryz.prog 4 := Ev.enters_of func4 (by kernel_rfl) (by kernel_rfl)
theorem enters12 : Enters Tryz.prog 12 := Ev.enters_of func12 (by kernel_rfl) (by kernel_rfl)
theorem enters6 : Enters Tryz.prog 6 := Ev.enters_of func6 (by kernel_rfl) (by kernel_rfl)
theorem enters17 : Enters Tryz.prog 17 := Ev.enters_of func17 (by kernel_rfl) (by kernel_rfl)
theorem enters31 : Enters Tryz.prog 31 := Ev.enters_of func31 (by kernel_rfl) (by kernel_rfl)
theorem enters57 : Enters Tryz.prog 57 := Ev.enters_of func57 (by kernel_rfl) (by kernel_rfl)
theorem enters33 : Enters Tryz.prog 33 := Ev.enters_of func33 (by kernel_rfl) (by kernel_rfl)
theorem enters32 : Enters Tryz.prog 32 := Ev.enters_of func32 (by kernel_rfl) (by kernel_rfl)
theorem enters18 : Enters Tryz.prog 18 := Ev.enters_of func18 (by kernel_rfl) (by kernel_rfl)
theorem enters81 : Enters Tryz.prog 81 := Ev.enters_of func81 (by kernel_rfl) (by kernel_rfl)
theorem enters58 : Enters Tryz.prog 58 := Ev.enters_of func58 (by kernel_rfl) (by kernel_rfl)
theorem enters34 : Enters Tryz.prog 34 := Ev.enters_of func34 (by kernel_rfl) (by kernel_rfl)
theorem enters35 : Enters Tryz.prog 35 := Ev.enters_of func35 (by kernel_rfl) (by kernel_rfl)
theorem enters19 : Enters Tryz.prog 19 := Ev.enters_of func19 (by kernel_rfl) (by kernel_rfl)
theorem enters8 : Enters Tryz.prog 8 := Ev.enters_of func8 (by kernel_rfl) (by kernel_rfl)
end Go.Proofs.YtkkmbkelkbhecaaGreatDoor
