/- TargetDots: for every input it answers true, and the input reads as it did. The row's seven listed variables start as the program's text lays them; the tie is given. -/
import Derived.Test.YtimggfeejbfdnaaDoorCards
import Derived.Test.YtimggfeejbfdnaaDoorTie
import Derived.Test.YtimggfeejbfdnaaDoorLC
import Derived.Test.YtimggfeejbfdnaaDoorEvC
import Derived.Deep.DeepHandedRow
import Derived.Deep.DeepWitnessRowRef
import Derived.Lib.LaidU8T
import Derived.Lay
import Derived.MakeChecks
import Derived.Shelf.Vars
import Derived.SevenTiedAt
set_option maxRecDepth 100000
namespace Go.Proofs.YtimggfeejbfdnaaDoor
open Go.ChangeShapes Go.WideShapes Go.ChangeAt Go.RowKit Go.Ev

theorem own : ownKnob Tryd.prog.godebug = none := by kernel_rfl

/-! ### the tables -/

def u8ren : Go.Shelf.Ren := ⟨fun n => n, fun | 5 => 5 | 119 => 100 | 138 => 102 | 139 => 103 | n => n, fun | 3 => 3 | 4 => 4 | n => n⟩

theorem glob_of {W : World} (h : laidMetH Tryd.prog Rows.targetDotsRow.laid W) (ho : W.ShapedOpen Tryd.prog) : Glob W := by
  have hL : laidMet Tryd.prog Rows.targetDotsRow.laid W := by
    rw [MakeChecks.laidMetH_plain _ _ _ (by kernel_rfl)] at h
    exact h
  refine ⟨?_, ?_⟩
  · refine utf8Tabs_of_readsT (P := Tryd.prog) (ρ := u8ren) ⟨by kernel_rfl, by kernel_rfl, by kernel_rfl, by kernel_rfl⟩ ⟨by kernel_rfl, by kernel_rfl, by kernel_rfl, by kernel_rfl, by kernel_rfl, by kernel_rfl, by kernel_rfl⟩ ?_ ?_
    · have := Lib.laidMet.reads hL (n := "unicode/utf8.first") (d := Rows.laid_unicode_utf8_first) (by simp [Rows.targetDotsRow])
      have e : Rows.laid_unicode_utf8_first = Lib.firstData := by kernel_rfl
      rwa [e] at this
    · have := Lib.laidMet.reads hL (n := "unicode/utf8.acceptRanges") (d := Rows.laid_unicode_utf8_acceptRanges) (by simp [Rows.targetDotsRow])
      have e : Rows.laid_unicode_utf8_acceptRanges = Lib.acceptData := by kernel_rfl
      rwa [e] at this
  · obtain ⟨m, hm⟩ := cell_of_shapedOpen_int (g := 0) (t := 3) (zero := #[.int .i64 0]) (k := .i64) ho (of_decide_eq_true (by kernel_rfl)) (by kernel_rfl) rfl (by kernel_rfl) (by kernel_rfl) (by kernel_rfl)
    refine ⟨m, fun j u hu => ?_⟩
    cases j with
    | zero =>
      obtain rfl := Option.some.inj hu
      exact ⟨_, rfl, hm⟩
    | succ j => simp at hu

theorem contract_dots (H : Type) (enc : TypeId × Value → H) (W : World) (base : Nat) (args : Array Value) (ds gs : List (DataW H)) (before : List MemPlace)
    (hval : ∀ (j : Nat) t v, Tryd.f5.params[j]? = some t → args[j]? = some v → Value.okWide Tryd.prog W .any base t v)
    (hW : DataW.Whole enc Tryd.prog Tryd.f5.params.toList Rows.targetDotsSpec.vars false W args.toList ds gs before) (hL : laidMetH Tryd.prog Rows.targetDotsRow.laid W) (ho0 : W.ShapedOpen Tryd.prog) :
    Calls Tryd.prog 5 args W fun e W' => ∃ v, e = .returned v ∧ Rows.targetDotsSpec.post enc Tryd.prog Tryd.f5 false true false false W args v W' := by
  have hW' := hW
  obtain ⟨p, q, hA0, hV, rfl, hfz, hnd⟩ := hW
  have hA : DataW.TrodAll enc Tryd.prog W 0 (fun _ => true) true Tryd.f5.params.toList args.toList ds p := hA0
  rw [Tryd.params5] at hA hval
  obtain ⟨v0, vs0, d0, ds0, p0, q0, hargs, rfl, rfl, h0, r0⟩ := trodAll_cons hA
  obtain ⟨v1, vs1, d1, ds1, p1, q1, rfl, rfl, rfl, h1, r1⟩ := trodAll_cons r0
  obtain ⟨rfl, rfl, rfl⟩ := trodAll_nil r1
  obtain rfl : args = #[v0, v1] := by cases args; simp_all
  obtain ⟨rfl, rfl⟩ := trodVars_none hV
  obtain ⟨s, rfl, rfl, rfl, -⟩ := ChangeMaps.open_string Tryd.underlying9 (hval 0 9 v0 rfl rfl) h0
  obtain ⟨t, rfl, rfl, rfl, -⟩ := ChangeMaps.open_string Tryd.underlying9 (hval 1 9 v1 rfl rfl) h1
  clear hA0
  simp only [List.append_nil] at hW'
  refine (scullerylaw09_TargetDots.ok KK s.data.toList t.data.toList true (dots_law _ _) W (glob_of hL ho0)).mono ?_
  rintro e W' ⟨u, rfl, rfl, ho⟩
  exact ⟨_, rfl, post_law (m := 5) rfl hW' ⟨rfl, rfl, rfl⟩ (by kernel_rfl) (by kernel_rfl) Tryd.underlying4 ho⟩

/-! ### the witness, and the cards -/

noncomputable def laidWorld (os : Os) : World := World.laidAll Tryd.prog os Rows.targetDotsRow.laid
theorem laid_met (os : Os) (args : Array Value) : laidMet Tryd.prog Rows.targetDotsRow.laid ((laidWorld os).forCall (fun _ _ => 0) ⟨#[], args, []⟩).memory :=
  laidMet_laidAll _ (by kernel_rfl) (by kernel_rfl)
abbrev ins : Array Value := #[.string ⟨#[]⟩, .string ⟨#[]⟩]
theorem reads (os : Os) {H : Type} (enc : TypeId × Value → H) : ∃ places, DataW.whole enc Tryd.prog ((laidWorld os).forCall (fun _ _ => 0) ⟨#[], ins, []⟩).memory [9, 9] [] false
    ins.toList 8 = some ([.lit (.string []), .lit (.string [])], [], places) :=
  ⟨[], by kernel_rfl⟩

theorem lifted_dots (os : Os) (started : os.Started) (H : Type) (enc : TypeId × Value → H) (F : Stop.Interp) :
    ReturnsInHanded {} Tryd.checked os 5 .any ((OpenSpec.ofChange Rows.targetDotsSpec).preRow enc Tryd.prog Tryd.f5 Rows.targetDotsRow.domain false Rows.targetDotsRow.laid) (((OpenSpec.ofChange Rows.targetDotsSpec).at F).post enc Tryd.prog Tryd.f5 false true false false) := by
  obtain ⟨places, hx⟩ := reads os enc
  refine returnsInHanded_of_row (C := Tryd.checked) (s := OpenSpec.ofChange Rows.targetDotsSpec) own started (by kernel_rfl) Tryd.func5
    (witness_row_atRef (enc := enc) (C := Tryd.checked) false (laidWorld os) ins (World.laidAll_os _ _ _) (by kernel_rfl) (by kernel_rfl) (by kernel_rfl)
      (OpenSpec.preRow_of_cond 8 hx (by kernel_rfl) (fun k hk => by cases hk) (by kernel_rfl) (laid_met os ins))) ?_
  intro W base args ds gs before hval hW _ _ _ hL ho _
  exact contract_dots H enc W base args ds gs before hval hW hL ho

theorem said_dots : Rows.TargetDotsSaid :=
  OpenClaim.holds_of_cond 5 Tryd.f5 rfl rfl rfl rfl rfl rfl rfl ⟨rfl, rfl, rfl, rfl, rfl⟩ rfl rfl rfl rfl rfl (by kernel_rfl) Tryd.func5 (by kernel_rfl)
    (of_decide_eq_true (by kernel_rfl)) (by unfold Func.isWrapper; first | (rw [if_pos (by decide +kernel)]; kernel_rfl) | (rw [if_neg (by decide +kernel)]; exact ⟨rfl, rfl⟩))
    (fun os started H enc _ F => by rw [OpenClaim.pre_eq_preRow]; exact lifted_dots os started H enc F)
theorem stand : ∀ t ∈ [9, 9], Tryd.prog.wantsStandIn t = false := by
  have hall : ([9, 9].all fun u => !Tryd.prog.wantsStandIn u) = true := by kernel_rfl
  intro t hm
  simpa using List.all_eq_true.1 hall t hm

theorem plain_dots (f : FuncId) (fn : Func) (hf : Tryd.pinned.checked.prog.funcNamed "scullery/scullerylaw09.TargetDots" = some f) (hfn : Tryd.pinned.checked.prog.funcs[f]? = some fn) :
    true = Tryd.pinned.checked.prog.looks [] ∧ ∀ (j : Nat) t, fn.params[j]? = some t → Tryd.pinned.checked.prog.wantsStandIn t = false := by
  obtain rfl : f = 5 := Option.some.inj ((show Tryd.prog.funcNamed "scullery/scullerylaw09.TargetDots" = some 5 by kernel_rfl).symm.trans hf) |>.symm
  obtain rfl : fn = Tryd.f5 := (Option.some.inj (Tryd.func5.symm.trans hfn)).symm
  refine ⟨by kernel_rfl, fun j t ht => ?_⟩
  rw [Tryd.params5] at ht
  exact stand t (by simpa using Array.mem_of_getElem? ht)
/-- The card. -/
theorem targetDots_card : Rows.TargetDotsCardSaid :=
  Claim7.holds_tied_plain_at .later [] _ _ _ _ said_dots (fun _ h => by cases h) (by kernel_rfl) (fun _ h => by cases h) targetDots_row_tie rfl ⟨rfl, rfl⟩ (by kernel_rfl) rfl plain_dots (by kernel_rfl)
end Go.Proofs.YtimggfeejbfdnaaDoor
