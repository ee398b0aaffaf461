/- The table of types that the walks use; what calls enter. -/
import Derived.Test.YtkkmbkelkbhecaaDoorProg
import Derived.Test.YtkkmbkelkbhecaaDoorEvD
set_option maxRecDepth 100000
set_option linter.unusedVariables false
namespace Go.Proofs.YtkkmbkelkbhecaaDoor
open Go.Ev Go.Proofs.Tryd

def tab : Tab := { ty := [(2, .int .i64), (3, .int .i64), (4, .bool), (5, .int .u8), (9, .str), (21, .int .i32), (22, .arr 2 3 1 false), (24, .int .i64), (30, .ptr), (31, .slice 5 1), (33, .struct [(0, 1, false, 30, true), (1, 1, false, 31, true)]), (35, .iface), (45, .slice 60 2), (48, .ptr), (60, .struct [(0, 1, false, 9, true), (1, 1, false, 9, true)]), (66, .arr 24 5 1 false), (67, .int .u64), (81, .func), (83, .func), (87, .int .u32), (88, .arr 65 5 1 false), (90, .int .u64), (96, .int .i64), (111, .arr 64 5 1 false)], zero := [(2, I 0), (3, I 0), (4, .bool false), (5, .int .u8 0), (9, S ([])), (21, .int .i32 0), (22, .agg #[I 0, I 0]), (24, I 0), (30, .pointer none), (31, .slice none 0 0), (33, .agg #[.pointer none, .slice none 0 0]), (35, .nilIface), (45, .slice none 0 0), (48, .pointer none), (60, .agg #[S ([]), S ([])]), (66, .agg #[.int .u8 0, .int .u8 0, .int .u8 0, .int .u8 0, .int .u8 0, .int .u8 0, .int .u8 0, .int .u8 0, .int .u8 0, .int .u8 0, .int .u8 0, .int .u8 0, .int .u8 0, .int .u8 0, .int .u8 0, .int .u8 0, .int .u8 0, .int .u8 0, .int .u8 0, .int .u8 0, .int .u8 0, .int .u8 0, .int .u8 0, .int .u8 0]), (67, .int .u64 0), (81, .nilFunc), (83, .nilFunc), (87, .int .u32 0), (88, .agg #[.int .u8 0, .int .u8 0, .int .u8 0, .int .u8 0, .int .u8 0, .int .u8 0, .int .u8 0, .int .u8 0, .int .u8 0, .int .u8 0, .int .u8 0, .int .u8 0, .int .u8 0, .int .u8 0, .int .u8 0, .int .u8 0, .int .u8 0, .int .u8 0, .int .u8 0, .int .u8 0, .int .u8 0, .int .u8 0, .int .u8 0, .int .u8 0, .int .u8 0, .int .u8 0, .int .u8 0, .int .u8 0, .int .u8 0, .int .u8 0, .int .u8 0, .int .u8 0, .int .u8 0, .int .u8 0, .int .u8 0, .int .u8 0, .int .u8 0, .int .u8 0, .int .u8 0, .int .u8 0, .int .u8 0, .int .u8 0, .int .u8 0, .int .u8 0, .int .u8 0, .int .u8 0, .int .u8 0, .int .u8 0, .int .u8 0, .int .u8 0, .int .u8 0, .int .u8 0, .int .u8 0, .int .u8 0, .int .u8 0, .int .u8 0, .int .u8 0, .int .u8 0, .int .u8 0, .int .u8 0, .int .u8 0, .int .u8 0, .int .u8 0, .int .u8 0, .int .u8 0]), (90, .int .u64 0), (96, I 0), (111, .agg #[.int .u8 0, .int .u8 0, .int .u8 0, .int .u8 0, .int .u8 0, .int .u8 0, .int .u8 0, .int .u8 0, .int .u8 0, .int .u8 0, .int .u8 0, .int .u8 0, .int .u8 0, .int .u8 0, .int .u8 0, .int .u8 0, .int .u8 0, .int .u8 0, .int .u8 0, .int .u8 0, .int .u8 0, .int .u8 0, .int .u8 0, .int .u8 0, .int .u8 0, .int .u8 0, .int .u8 0, .int .u8 0, .int .u8 0, .int .u8 0, .int .u8 0, .int .u8 0, .int .u8 0, .int .u8 0, .int .u8 0, .int .u8 0, .int .u8 0, .int .u8 0, .int .u8 0, .int .u8 0, .int .u8 0, .int .u8 0, .int .u8 0, .int .u8 0, .int .u8 0, .int .u8 0, .int .u8 0, .int .u8 0, .int .u8 0, .int .u8 0, .int .u8 0, .int .u8 0, .int .u8 0, .int .u8 0, .int .u8 0, .int .u8 0, .int .u8 0, .int .u8 0, .int .u8 0, .int .u8 0, .int .u8 0, .int .u8 0, .int .u8 0, .int .u8 0])] }
theorem tabOK : TabOK Tryd.prog tab := Ev.tabOK_of (by kernel_rfl) ⟨zero_ok (by kernel_rfl) (by kernel_rfl), zero_ok (by kernel_rfl) (by kernel_rfl), zero_ok (by kernel_rfl) (by kernel_rfl), zero_ok (by kernel_rfl) (by kernel_rfl), zero_ok (by kernel_rfl) (by kernel_rfl), zero_ok (by kernel_rfl) (by kernel_rfl), zero_ok (by kernel_rfl) (by kernel_rfl), zero_ok (by kernel_rfl) (by kernel_rfl), zero_ok (by kernel_rfl) (by kernel_rfl), zero_ok (by kernel_rfl) (by kernel_rfl), zero_ok (by kernel_rfl) (by kernel_rfl), zero_ok (by kernel_rfl) (by kernel_rfl), zero_ok (by kernel_rfl) (by kernel_rfl), zero_ok (by kernel_rfl) (by kernel_rfl), zero_ok (by kernel_rfl) (by kernel_rfl), zero_ok (by kernel_rfl) (by kernel_rfl), zero_ok (by kernel_rfl) (by kernel_rfl), zero_ok (by kernel_rfl) (by kernel_rfl), zero_ok (by kernel_rfl) (by kernel_rfl), zero_ok (by kernel_rfl) (by kernel_rfl), zero_ok (by kernel_rfl) (by kernel_rfl), zero_ok (by kernel_rfl) (by kernel_rfl), zero_ok (by kernel_rfl) (by kernel_rfl), zero_ok (by kernel_rfl) (by kernel_rfl), trivial⟩

def encT60 (x : Str × Str) : List Value := [S x.1, S x.2]
theorem encT60_len (x : Str × Str) : (encT60 x).length = 2 := rfl
theorem encT60_one (x : Str × Str) : allOne (encT60 x) = true := rfl
/-- math bits.deBruijn64tab -/
def tab5 : List UInt8 := [0, 1, 56, 2, 57, 49, 28, 3, 61, 58, 42, 50, 38, 29, 17, 4, 62, 47, 59, 36, 45, 43, 51, 22, 53, 39, 33, 30, 24, 18, 12, 5, 63, 55, 48, 27, 60, 41, 37, 16, 46, 35, 44, 21, 52, 32, 23, 11, 54, 26, 40, 15, 34, 20, 31, 10, 25, 14, 19, 9, 13, 8, 7, 6]
/-- The package-level tables hold what their text lays. -/
structure Glob (w : World) : Prop where
  utf8 : Lib.Utf8Tabs 6 7 w
  t5 : Rd w (some ⟨5, 0, none⟩) (tab5.map bV)
theorem Glob.of {w0 w : World} {L : List As} (h : Glob w0) (ho : Ows [] w0 w L) : Glob w := ⟨tabs_ows h.utf8 ho, rd_ows h.t5 ho⟩

theorem ext26 : Ext Tryd.prog 26 (Extern.AbiNoEscape.same) := Ev.ext_of func26 (by kernel_rfl) (by kernel_rfl) (by kernel_rfl) (by kernel_rfl)
theorem ext84 : Ext Tryd.prog 84 (Extern.BytealgIndexByte.indexByte) := Ev.ext_of func84 (by kernel_rfl) (by kernel_rfl) (by kernel_rfl) (by kernel_rfl)
theorem enters50 : Enters Tryd.prog 50 := Ev.enters_of func50 (by kernel_rfl) (by kernel_rfl)
theorem enters70 : Enters Tryd.prog 70 := Ev.enters_of func70 (by kernel_rfl) (by kernel_rfl)
theorem enters51 : Enters Tryd.prog 51 := Ev.enters_of func51 (by kernel_rfl) (by kernel_rfl)
theorem enters30 : Enters Tryd.prog 30 := Ev.enters_of func30 (by kernel_rfl) (by kernel_rfl)
theorem enters16 : Enters Tryd.prog 16 := Ev.enters_of func16 (by kernel_rfl) (by kernel_rfl)
theorem enters9 : Enters Tryd.prog 9 := Ev.enters_of func9 (by kernel_rfl) (by kernel_rfl)
theorem enters15 : Enters Tryd.prog 15 := Ev.enters_of func15 (by kernel_rfl) (by kernel_rfl)
theorem enters8 : Enters Tryd.prog 8 := Ev.enters_of func8 (by kernel_rfl) (by kernel_rfl)
theorem enters10 : Enters Tryd.prog 10 := Ev.enters_of func10 (by kernel_rfl) (by kernel_rfl)
theorem enters6 : Enters Tryd.prog 6 := Ev.enters_of func6 (by kernel_rfl) (by kernel_rfl)
theorem enters71 : Enters Tryd.prog 71 := Ev.enters_of func71 (by kernel_rfl) (by kernel_rfl)
theorem enters52 : Enters Tryd.prog 52 := Ev.enters_of func52 (by kernel_rfl) (by kernel_rfl)
theorem enters31 : Enters Tryd.prog 31 := Ev.enters_of func31 (by kernel_rfl) (by kernel_rfl)
theorem enters17 : Enters Tryd.prog 17 := Ev.enters_of func17 (by kernel_rfl) (by kernel_rfl)
theorem enters32 : Enters Tryd.prog 32 := Ev.enters_of func32 (by kernel_rfl) (by kernel_rfl)
theorem enters18 : Enters Tryd.prog 18 := Ev.enters_of func18 (by kernel_rfl) (by kernel_rfl)
theorem enters11 : Enters Tryd.prog 11 := Ev.enters_of func11 (by kernel_rfl) (by kernel_rfl)
theorem enters19 : Enters Tryd.prog 19 := Ev.enters_of func19 (by kernel_rfl) (by kernel_rfl)
theorem enters77 : Enters Tryd.prog 77 := Ev.enters_of func77 (by kernel_rfl) (by kernel_rfl)
theorem enters78 : Enters Tryd.prog 78 := Ev.enters_of func78 (by kernel_rfl) (by kernel_rfl)
theorem enters56 : Enters Tryd.prog 56 := Ev.enters_of func56 (by kernel_rfl) (by kernel_rfl)
theorem enters37 : Enters Tryd.prog 37 := Ev.enters_of func37 (by kernel_rfl) (by kernel_rfl)
theorem enters20 : Enters Tryd.prog 20 := Ev.enters_of func20 (by kernel_rfl) (by kernel_rfl)
theorem enters61 : Enters Tryd.prog 61 := Ev.enters_of func61 (by kernel_rfl) (by kernel_rfl)
theorem enters39 : Enters Tryd.prog 39 := Ev.enters_of func39 (by kernel_rfl) (by kernel_rfl)
theorem enters21 : Enters Tryd.prog 21 := Ev.enters_of func21 (by kernel_rfl) (by kernel_rfl)
theorem enters43 : Enters Tryd.prog 43 := Ev.enters_of func43 (by kernel_rfl) (by kernel_rfl)
theorem enters42 : Enters Tryd.prog 42 := Ev.enters_of func42 (by kernel_rfl) (by kernel_rfl)
theorem enters23 : Enters Tryd.prog 23 := Ev.enters_of func23 (by kernel_rfl) (by kernel_rfl)
theorem enters41 : Enters Tryd.prog 41 := Ev.enters_of func41 (by kernel_rfl) (by kernel_rfl)
theorem enters40 : Enters Tryd.prog 40 := Ev.enters_of func40 (by kernel_rfl) (by kernel_rfl)
theorem enters22 : Enters Tryd.prog 22 := Ev.enters_of func22 (by kernel_rfl) (by kernel_rfl)
theorem enters12 : Enters Tryd.prog 12 := Ev.enters_of func12 (by kernel_rfl) (by kernel_rfl)
theorem enters13 : Enters Tryd.prog 13 := Ev.enters_of func13 (by kernel_rfl) (by kernel_rfl)
theorem enters64 : Enters Tryd.prog 64 := Ev.enters_of func64 (by kernel_rfl) (by kernel_rfl)
theorem enters44 : Enters Tryd.prog 44 := Ev.enters_of func44 (by kernel_rfl) (by kernel_rfl)
theorem enters24 : Enters Tryd.prog 24 := Ev.enters_of func24 (by kernel_rfl) (by kernel_rfl)
theorem enters66 : Enters Tryd.prog 66 := Ev.enters_of func66 (by kernel_rfl) (by kernel_rfl)
theorem enters67 : Enters Tryd.prog 67 := Ev.enters_of func67 (by kernel_rfl) (by kernel_rfl)
theorem enters68 : Enters Tryd.prog 68 := Ev.enters_of func68 (by kernel_rfl) (by kernel_rfl)
theorem enters65 : Enters Tryd.prog 65 := Ev.enters_of func65 (by kernel_rfl) (by kernel_rfl)
theorem enters45 : Enters Tryd.prog 45 := Ev.enters_of func45 (by kernel_rfl) (by kernel_rfl)
theorem enters46 : Enters Tryd.prog 46 := Ev.enters_of func46 (by kernel_rfl) (by kernel_rfl)
theorem enters25 : Enters Tryd.prog 25 := Ev.enters_of func25 (by kernel_rfl) (by kernel_rfl)
theorem enters14 : Enters Tryd.prog 14 := Ev.enters_of func14 (by kernel_rfl) (by kernel_rfl)
theorem enters7 : Enters Tryd.prog 7 := Ev.enters_of func7 (by kernel_rfl) (by kernel_rfl)
theorem enters5 : Enters Tryd.prog 5 := Ev.enters_of func5 (by kernel_rfl) (by kernel_rfl)
end Go.Proofs.YtkkmbkelkbhecaaDoor
