/- The table of types that the walks use; what calls enter. -/
import Derived.Test.YtimggfeejbfdnaaDoorProg
import Derived.Test.YtimggfeejbfdnaaDoorEvD
set_option maxRecDepth 100000
set_option linter.unusedVariables false
namespace Go.Proofs.YtimggfeejbfdnaaDoor
open Go.Ev Go.Proofs.Tryd

def tab : Tab := { ty := [(3, .int .i64), (4, .bool), (5, .int .u8), (9, .str), (21, .int .i32), (23, .int .i64), (30, .slice 5 1), (38, .func), (40, .func), (41, .int .u64), (43, .iface), (47, .int .u64), (53, .slice 9 1), (62, .ptr), (64, .struct [(0, 1, false, 62, true), (1, 1, false, 30, true)]), (70, .int .i64), (78, .arr 256 4 1 false), (82, .ptr)], zero := [(3, I 0), (4, .bool false), (5, .int .u8 0), (9, S ([])), (21, .int .i32 0), (23, I 0), (30, .slice none 0 0), (38, .nilFunc), (40, .nilFunc), (41, .int .u64 0), (43, .nilIface), (47, .int .u64 0), (53, .slice none 0 0), (62, .pointer none), (64, .agg #[.pointer none, .slice none 0 0]), (70, I 0), (82, .pointer none)] }
theorem tabOK : TabOK Tryd.prog tab := Ev.tabOK_of (by kernel_rfl) ⟨zero_ok (by kernel_rfl) (by kernel_rfl), zero_ok (by kernel_rfl) (by kernel_rfl), zero_ok (by kernel_rfl) (by kernel_rfl), zero_ok (by kernel_rfl) (by kernel_rfl), zero_ok (by kernel_rfl) (by kernel_rfl), zero_ok (by kernel_rfl) (by kernel_rfl), zero_ok (by kernel_rfl) (by kernel_rfl), zero_ok (by kernel_rfl) (by kernel_rfl), zero_ok (by kernel_rfl) (by kernel_rfl), zero_ok (by kernel_rfl) (by kernel_rfl), zero_ok (by kernel_rfl) (by kernel_rfl), zero_ok (by kernel_rfl) (by kernel_rfl), zero_ok (by kernel_rfl) (by kernel_rfl), zero_ok (by kernel_rfl) (by kernel_rfl), zero_ok (by kernel_rfl) (by kernel_rfl), zero_ok (by kernel_rfl) (by kernel_rfl), zero_ok (by kernel_rfl) (by kernel_rfl), trivial⟩

/-- The package-level tables hold what their text lays. -/
structure Glob (w : World) : Prop where
  utf8 : Lib.Utf8Tabs 3 4 w
  ml : ∃ m : Int, Rd w (some ⟨0, 0, none⟩) [Value.int .i64 m]
theorem Glob.of {w0 w : World} {L : List As} (h : Glob w0) (ho : Ows [] w0 w L) : Glob w := ⟨tabs_ows h.utf8 ho, h.ml.imp fun _ h => rd_ows h ho⟩

theorem ext62 : Ext Tryd.prog 62 (Extern.BytealgIndexByte.indexByte) := Ev.ext_of func62 (by kernel_rfl) (by kernel_rfl) (by kernel_rfl) (by kernel_rfl)
theorem ext75 : Ext Tryd.prog 75 (Extern.AbiNoEscape.same) := Ev.ext_of func75 (by kernel_rfl) (by kernel_rfl) (by kernel_rfl) (by kernel_rfl)
theorem ext76 : Ext Tryd.prog 76 (Extern.BytealgMakeNoZero.makeNoZero #[3] #[30]) := Ev.ext_of func76 (by kernel_rfl) (by kernel_rfl) (by kernel_rfl) (by kernel_rfl)
theorem enters45 : Enters Tryd.prog 45 := Ev.enters_of func45 (by kernel_rfl) (by kernel_rfl)
theorem enters52 : Enters Tryd.prog 52 := Ev.enters_of func52 (by kernel_rfl) (by kernel_rfl)
theorem enters35 : Enters Tryd.prog 35 := Ev.enters_of func35 (by kernel_rfl) (by kernel_rfl)
theorem enters16 : Enters Tryd.prog 16 := Ev.enters_of func16 (by kernel_rfl) (by kernel_rfl)
theorem enters17 : Enters Tryd.prog 17 := Ev.enters_of func17 (by kernel_rfl) (by kernel_rfl)
theorem enters40 : Enters Tryd.prog 40 := Ev.enters_of func40 (by kernel_rfl) (by kernel_rfl)
theorem enters39 : Enters Tryd.prog 39 := Ev.enters_of func39 (by kernel_rfl) (by kernel_rfl)
theorem enters18 : Enters Tryd.prog 18 := Ev.enters_of func18 (by kernel_rfl) (by kernel_rfl)
theorem enters21 : Enters Tryd.prog 21 := Ev.enters_of func21 (by kernel_rfl) (by kernel_rfl)
theorem enters28 : Enters Tryd.prog 28 := Ev.enters_of func28 (by kernel_rfl) (by kernel_rfl)
theorem enters53 : Enters Tryd.prog 53 := Ev.enters_of func53 (by kernel_rfl) (by kernel_rfl)
theorem enters42 : Enters Tryd.prog 42 := Ev.enters_of func42 (by kernel_rfl) (by kernel_rfl)
theorem enters22 : Enters Tryd.prog 22 := Ev.enters_of func22 (by kernel_rfl) (by kernel_rfl)
theorem enters20 : Enters Tryd.prog 20 := Ev.enters_of func20 (by kernel_rfl) (by kernel_rfl)
theorem enters19 : Enters Tryd.prog 19 := Ev.enters_of func19 (by kernel_rfl) (by kernel_rfl)
theorem enters23 : Enters Tryd.prog 23 := Ev.enters_of func23 (by kernel_rfl) (by kernel_rfl)
theorem enters8 : Enters Tryd.prog 8 := Ev.enters_of func8 (by kernel_rfl) (by kernel_rfl)
theorem enters63 : Enters Tryd.prog 63 := Ev.enters_of func63 (by kernel_rfl) (by kernel_rfl)
theorem enters46 : Enters Tryd.prog 46 := Ev.enters_of func46 (by kernel_rfl) (by kernel_rfl)
theorem enters31 : Enters Tryd.prog 31 := Ev.enters_of func31 (by kernel_rfl) (by kernel_rfl)
theorem enters56 : Enters Tryd.prog 56 := Ev.enters_of func56 (by kernel_rfl) (by kernel_rfl)
theorem enters57 : Enters Tryd.prog 57 := Ev.enters_of func57 (by kernel_rfl) (by kernel_rfl)
theorem enters43 : Enters Tryd.prog 43 := Ev.enters_of func43 (by kernel_rfl) (by kernel_rfl)
theorem enters27 : Enters Tryd.prog 27 := Ev.enters_of func27 (by kernel_rfl) (by kernel_rfl)
theorem enters10 : Enters Tryd.prog 10 := Ev.enters_of func10 (by kernel_rfl) (by kernel_rfl)
theorem enters66 : Enters Tryd.prog 66 := Ev.enters_of func66 (by kernel_rfl) (by kernel_rfl)
theorem enters47 : Enters Tryd.prog 47 := Ev.enters_of func47 (by kernel_rfl) (by kernel_rfl)
theorem enters32 : Enters Tryd.prog 32 := Ev.enters_of func32 (by kernel_rfl) (by kernel_rfl)
theorem enters33 : Enters Tryd.prog 33 := Ev.enters_of func33 (by kernel_rfl) (by kernel_rfl)
theorem enters68 : Enters Tryd.prog 68 := Ev.enters_of func68 (by kernel_rfl) (by kernel_rfl)
theorem enters69 : Enters Tryd.prog 69 := Ev.enters_of func69 (by kernel_rfl) (by kernel_rfl)
theorem enters49 : Enters Tryd.prog 49 := Ev.enters_of func49 (by kernel_rfl) (by kernel_rfl)
theorem enters50 : Enters Tryd.prog 50 := Ev.enters_of func50 (by kernel_rfl) (by kernel_rfl)
theorem enters51 : Enters Tryd.prog 51 := Ev.enters_of func51 (by kernel_rfl) (by kernel_rfl)
theorem enters34 : Enters Tryd.prog 34 := Ev.enters_of func34 (by kernel_rfl) (by kernel_rfl)
theorem enters14 : Enters Tryd.prog 14 := Ev.enters_of func14 (by kernel_rfl) (by kernel_rfl)
theorem enters12 : Enters Tryd.prog 12 := Ev.enters_of func12 (by kernel_rfl) (by kernel_rfl)
theorem enters7 : Enters Tryd.prog 7 := Ev.enters_of func7 (by kernel_rfl) (by kernel_rfl)
end Go.Proofs.YtimggfeejbfdnaaDoor
