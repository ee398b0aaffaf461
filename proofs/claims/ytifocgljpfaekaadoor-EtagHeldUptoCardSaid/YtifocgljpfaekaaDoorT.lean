/- The table of types that the walks use; what calls enter. -/
import Derived.Test.YtifocgljpfaekaaDoorProg
import Derived.Test.YtifocgljpfaekaaDoorEvB
set_option maxRecDepth 100000
set_option linter.unusedVariables false
namespace Go.Proofs.YtifocgljpfaekaaDoor
open Go.Ev Go.Proofs.Tryd

def tab : Tab := { ty := [(2, .int .i64), (3, .int .i64), (4, .bool), (5, .int .u8), (9, .str), (23, .struct [(0, 1, false, 4, true), (1, 1, false, 9, true)]), (24, .arr 2 2 1 false), (26, .int .i64), (31, .struct [(0, 1, false, 9, true), (1, 1, false, 9, true)]), (32, .slice 31 2), (38, .slice 23 2), (46, .arr 7 9 1 false), (49, .arr 12 9 1 false), (60, .slice 5 1), (62, .slice 9 1), (81, .ptr), (83, .struct [(0, 1, false, 81, true), (1, 1, false, 60, true)]), (90, .func), (92, .struct [(0, 1, false, 4, true), (1, 1, false, 90, true)]), (93, .arr 3 92 2 true), (94, .ptr), (96, .struct [(0, 1, false, 9, true), (1, 1, false, 4, true)]), (99, .struct [(0, 1, false, 3, true), (1, 1, false, 3, true), (2, 1, false, 3, true), (3, 1, false, 3, true)]), (106, .ptr)], zero := [(2, I 0), (3, I 0), (4, .bool false), (5, .int .u8 0), (9, S ([])), (23, .agg #[.bool false, S ([])]), (24, .agg #[I 0, I 0]), (26, I 0), (31, .agg #[S ([]), S ([])]), (32, .slice none 0 0), (38, .slice none 0 0), (46, .agg #[S ([]), S ([]), S ([]), S ([]), S ([]), S ([]), S ([])]), (49, .agg #[S ([]), S ([]), S ([]), S ([]), S ([]), S ([]), S ([]), S ([]), S ([]), S ([]), S ([]), S ([])]), (60, .slice none 0 0), (62, .slice none 0 0), (81, .pointer none), (83, .agg #[.pointer none, .slice none 0 0]), (90, .nilFunc), (92, .agg #[.bool false, .nilFunc]), (93, .agg #[.bool false, .nilFunc, .bool false, .nilFunc, .bool false, .nilFunc]), (94, .pointer none), (96, .agg #[S ([]), .bool false]), (99, .agg #[I 0, I 0, I 0, I 0]), (106, .pointer none)] }
theorem tabOK : TabOK Tryd.prog tab := tabOK_of (by kernel_rfl) ⟨zero_ok (by kernel_rfl) (by kernel_rfl), zero_ok (by kernel_rfl) (by kernel_rfl), zero_ok (by kernel_rfl) (by kernel_rfl), zero_ok (by kernel_rfl) (by kernel_rfl), zero_ok (by kernel_rfl) (by kernel_rfl), zero_ok (by kernel_rfl) (by kernel_rfl), zero_ok (by kernel_rfl) (by kernel_rfl), zero_ok (by kernel_rfl) (by kernel_rfl), zero_ok (by kernel_rfl) (by kernel_rfl), zero_ok (by kernel_rfl) (by kernel_rfl), zero_ok (by kernel_rfl) (by kernel_rfl), zero_ok (by kernel_rfl) (by kernel_rfl), zero_ok (by kernel_rfl) (by kernel_rfl), zero_ok (by kernel_rfl) (by kernel_rfl), zero_ok (by kernel_rfl) (by kernel_rfl), zero_ok (by kernel_rfl) (by kernel_rfl), zero_ok (by kernel_rfl) (by kernel_rfl), zero_ok (by kernel_rfl) (by kernel_rfl), zero_ok (by kernel_rfl) (by kernel_rfl), zero_ok (by kernel_rfl) (by kernel_rfl), zero_ok (by kernel_rfl) (by kernel_rfl), zero_ok (by kernel_rfl) (by kernel_rfl), zero_ok (by kernel_rfl) (by kernel_rfl), zero_ok (by kernel_rfl) (by kernel_rfl), trivial⟩

def encT23 (x : Bool × Str) : List Value := [.bool x.1, S x.2]
theorem encT23_len (x : Bool × Str) : (encT23 x).length = 2 := rfl
theorem encT23_one (x : Bool × Str) : allOne (encT23 x) = true := rfl
def encT31 (x : Str × Str) : List Value := [S x.1, S x.2]
theorem encT31_len (x : Str × Str) : (encT31 x).length = 2 := rfl
theorem encT31_one (x : Str × Str) : allOne (encT31 x) = true := rfl
theorem ext75 : Ext Tryd.prog 75 (Extern.BytealgIndexByte.indexByte) := ext_of func75 (by kernel_rfl) (by kernel_rfl) (by kernel_rfl) (by kernel_rfl)
theorem ext67 : Ext Tryd.prog 67 (Extern.AbiNoEscape.same) := ext_of func67 (by kernel_rfl) (by kernel_rfl) (by kernel_rfl) (by kernel_rfl)
theorem ext68 : Ext Tryd.prog 68 (Extern.BytealgMakeNoZero.makeNoZero #[3] #[60]) := ext_of func68 (by kernel_rfl) (by kernel_rfl) (by kernel_rfl) (by kernel_rfl)
theorem enters62 : Enters Tryd.prog 62 := enters_of func62 (by kernel_rfl) (by kernel_rfl)
theorem enters49 : Enters Tryd.prog 49 := enters_of func49 (by kernel_rfl) (by kernel_rfl)
theorem enters30 : Enters Tryd.prog 30 := enters_of func30 (by kernel_rfl) (by kernel_rfl)
theorem enters69 : Enters Tryd.prog 69 := enters_of func69 (by kernel_rfl) (by kernel_rfl)
theorem enters63 : Enters Tryd.prog 63 := enters_of func63 (by kernel_rfl) (by kernel_rfl)
theorem enters50 : Enters Tryd.prog 50 := enters_of func50 (by kernel_rfl) (by kernel_rfl)
theorem enters31 : Enters Tryd.prog 31 := enters_of func31 (by kernel_rfl) (by kernel_rfl)
theorem enters12 : Enters Tryd.prog 12 := enters_of func12 (by kernel_rfl) (by kernel_rfl)
theorem enters22 : Enters Tryd.prog 22 := enters_of func22 (by kernel_rfl) (by kernel_rfl)
theorem enters9 : Enters Tryd.prog 9 := enters_of func9 (by kernel_rfl) (by kernel_rfl)
theorem enters23 : Enters Tryd.prog 23 := enters_of func23 (by kernel_rfl) (by kernel_rfl)
theorem enters24 : Enters Tryd.prog 24 := enters_of func24 (by kernel_rfl) (by kernel_rfl)
theorem enters10 : Enters Tryd.prog 10 := enters_of func10 (by kernel_rfl) (by kernel_rfl)
theorem enters5 : Enters Tryd.prog 5 := enters_of func5 (by kernel_rfl) (by kernel_rfl)
theorem enters27 : Enters Tryd.prog 27 := enters_of func27 (by kernel_rfl) (by kernel_rfl)
theorem enters56 : Enters Tryd.prog 56 := enters_of func56 (by kernel_rfl) (by kernel_rfl)
theorem enters57 : Enters Tryd.prog 57 := enters_of func57 (by kernel_rfl) (by kernel_rfl)
theorem enters41 : Enters Tryd.prog 41 := enters_of func41 (by kernel_rfl) (by kernel_rfl)
theorem enters42 : Enters Tryd.prog 42 := enters_of func42 (by kernel_rfl) (by kernel_rfl)
theorem enters43 : Enters Tryd.prog 43 := enters_of func43 (by kernel_rfl) (by kernel_rfl)
theorem enters28 : Enters Tryd.prog 28 := enters_of func28 (by kernel_rfl) (by kernel_rfl)
theorem enters18 : Enters Tryd.prog 18 := enters_of func18 (by kernel_rfl) (by kernel_rfl)
theorem enters11 : Enters Tryd.prog 11 := enters_of func11 (by kernel_rfl) (by kernel_rfl)
theorem enters19 : Enters Tryd.prog 19 := enters_of func19 (by kernel_rfl) (by kernel_rfl)
theorem enters15 : Enters Tryd.prog 15 := enters_of func15 (by kernel_rfl) (by kernel_rfl)
theorem enters47 : Enters Tryd.prog 47 := enters_of func47 (by kernel_rfl) (by kernel_rfl)
theorem enters58 : Enters Tryd.prog 58 := enters_of func58 (by kernel_rfl) (by kernel_rfl)
theorem enters17 : Enters Tryd.prog 17 := enters_of func17 (by kernel_rfl) (by kernel_rfl)
theorem enters61 : Enters Tryd.prog 61 := enters_of func61 (by kernel_rfl) (by kernel_rfl)
theorem enters59 : Enters Tryd.prog 59 := enters_of func59 (by kernel_rfl) (by kernel_rfl)
theorem enters60 : Enters Tryd.prog 60 := enters_of func60 (by kernel_rfl) (by kernel_rfl)
theorem enters44 : Enters Tryd.prog 44 := enters_of func44 (by kernel_rfl) (by kernel_rfl)
theorem enters39 : Enters Tryd.prog 39 := enters_of func39 (by kernel_rfl) (by kernel_rfl)
theorem enters26 : Enters Tryd.prog 26 := enters_of func26 (by kernel_rfl) (by kernel_rfl)
theorem enters25 : Enters Tryd.prog 25 := enters_of func25 (by kernel_rfl) (by kernel_rfl)
theorem enters48 : Enters Tryd.prog 48 := enters_of func48 (by kernel_rfl) (by kernel_rfl)
theorem enters16 : Enters Tryd.prog 16 := enters_of func16 (by kernel_rfl) (by kernel_rfl)
theorem enters45 : Enters Tryd.prog 45 := enters_of func45 (by kernel_rfl) (by kernel_rfl)
theorem enters46 : Enters Tryd.prog 46 := enters_of func46 (by kernel_rfl) (by kernel_rfl)
theorem enters29 : Enters Tryd.prog 29 := enters_of func29 (by kernel_rfl) (by kernel_rfl)
theorem enters20 : Enters Tryd.prog 20 := enters_of func20 (by kernel_rfl) (by kernel_rfl)
theorem enters7 : Enters Tryd.prog 7 := enters_of func7 (by kernel_rfl) (by kernel_rfl)
theorem enters4 : Enters Tryd.prog 4 := enters_of func4 (by kernel_rfl) (by kernel_rfl)
theorem enters13 : Enters Tryd.prog 13 := enters_of func13 (by kernel_rfl) (by kernel_rfl)
theorem enters14 : Enters Tryd.prog 14 := enters_of func14 (by kernel_rfl) (by kernel_rfl)
theorem enters6 : Enters Tryd.prog 6 := enters_of func6 (by kernel_rfl) (by kernel_rfl)
theorem enters21 : Enters Tryd.prog 21 := enters_of func21 (by kernel_rfl) (by kernel_rfl)
theorem enters8 : Enters Tryd.prog 8 := enters_of func8 (by kernel_rfl) (by kernel_rfl)
theorem clip21 (o : Option Addr) (n c : Nat) (h : n ≤ c) (w0 : World) : Calls Tryd.prog 21 ⟨[.slice o n c]⟩ w0 fun e w => ∃ u, e = .returned u ∧ (u = .slice o n n ∧ Ows [] w0 w []) := by
  refine st_start (N := 9) [.slice o n c] (Sub (bodyOf f21) []) func21 (by kernel_rfl) (by kernel_rfl) (by kernel_rfl) ?_
  intro a w hk ho
  refine st_seq (Sub (bodyOf f21) [0]) (Sub (bodyOf f21) [1]) (by kernel_rfl) ?_
  refine st_region 0 (opsOf (Sub (bodyOf f21) [0])) [0] (by kernel_rfl) (by kernel_rfl) ?_
  refine st_pure tabOK hk [0] [] [0] [(0, .slice o n c)] (True) (by kernel_rfl) trivial ?_
  clear hk; intro a hk
  refine st_done ?_
  refine st_seq (Sub (bodyOf f21) [1, 0]) (Sub (bodyOf f21) [1, 1]) (by kernel_rfl) ?_
  refine st_region 1 (opsOf (Sub (bodyOf f21) [1, 0])) [0, 1, 2, 3, 4, 5, 6] (by kernel_rfl) (by kernel_rfl) ?_
  refine st_pure tabOK hk [0, 1, 2, 3, 4, 5, 6] [] [2] [(2, .slice o n n)] ((((0 : Int) ≤ n ∧ (n : Int) ≤ c) ∧ ((0 : Int) ≤ n ∧ (n : Int) ≤ n)) ∧ True) (by kernel_rfl) ⟨⟨⟨Int.natCast_nonneg _, by omega⟩, ⟨Int.natCast_nonneg _, Int.le_refl _⟩⟩, trivial⟩ ?_
  clear hk; intro a hk
  refine st_done ?_
  refine st_retG hk (by kernel_rfl) [.slice o n n] #[.tmp 2] (by kernel_rfl) ⟨resT hk (by kernel_rfl), trivial⟩ ?_
  exact ⟨_, rfl, rfl, ho⟩
end Go.Proofs.YtifocgljpfaekaaDoor
