/- ChunkTells: for every input it answers true, and the input reads as it did. The row's seven listed variables start as the program's text lays them; the tie is given. -/
import Derived.Test.YtkkmbkelkbhecaaGreatDoorCards
import Derived.Test.YtkkmbkelkbhecaaGreatDoorTie
import Derived.Test.YtkkmbkelkbhecaaGreatDoorLD
import Derived.Test.YtkkmbkelkbhecaaGreatDoorEvC
import Derived.Deep.DeepHandedRow
import Derived.Deep.DeepWitnessRowRef
import Derived.Lib.LaidU8T
import Derived.Lay
import Derived.MakeChecks
import Derived.SevenTiedAt
set_option maxRecDepth 100000
namespace Go.Proofs.YtkkmbkelkbhecaaGreatDoor
open Go.ChangeShapes Go.WideShapes Go.ChangeAt Go.RowKit Go.Ev

theorem own : ownKnob Tryz.prog.godebug = none := by kernel_rfl

/-! ### the tables -/

theorem tab_reads {P : Program} {W : World} {name : String} {k : IntKind} {zs : List Int} {g : Nat} {t e : TypeId} {n : Nat}
    (hg : P.globalNamed name = some g) (hty : (P.globals[g]?).map (·.type) = some t) (ht : P.underlying t = some (.array n e)) (he : P.underlying e = some (.int k)) (hce : P.cellsOf e = 1) (hct : P.cellsOf t = n)
    (h : Lib.VarReads P W name (Lib.tabData k zs)) : Lib.TabIs P W name k zs := by
  obtain ⟨g', t', cs, fuel, p, hg', ht', hvar, hd⟩ := h
  obtain rfl := Option.some.inj (hg.symm.trans hg')
  obtain rfl := Option.some.inj (hty.symm.trans ht')
  unfold Lib.TabIs
  rw [hvar, ← Lib.cells_of_tab ht he hce hct hd]

theorem glob_of {W : World} (h : laidMetH Tryz.prog Rows.chunkTellsRow.laid W) : Glob W := by
  have hL : laidMet Tryz.prog Rows.chunkTellsRow.laid W := by
    rw [MakeChecks.laidMetH_plain _ _ _ (by kernel_rfl)] at h
    exact h
  refine ⟨?_, ?_⟩
  · refine utf8Tabs_of_readsT (P := Tryz.prog) (ρ := Tryz.lays237_ren) ⟨by kernel_rfl, by kernel_rfl, by kernel_rfl, by kernel_rfl⟩ ⟨by kernel_rfl, by kernel_rfl, by kernel_rfl, by kernel_rfl, by kernel_rfl, by kernel_rfl, by kernel_rfl⟩ ?_ ?_
    · have := Lib.laidMet.reads hL (n := "unicode/utf8.first") (d := Rows.laid_unicode_utf8_first) (by simp [Rows.chunkTellsRow])
      have e : Rows.laid_unicode_utf8_first = Lib.firstData := by kernel_rfl
      rwa [e] at this
    · have := Lib.laidMet.reads hL (n := "unicode/utf8.acceptRanges") (d := Rows.laid_unicode_utf8_acceptRanges) (by simp [Rows.chunkTellsRow])
      have e : Rows.laid_unicode_utf8_acceptRanges = Lib.acceptData := by kernel_rfl
      rwa [e] at this
  · have h5 := Lib.laidMet.reads hL (n := "math/bits.deBruijn64tab") (d := Rows.laid_math_bits_deBruijn64tab) (by simp [Rows.chunkTellsRow])
    have e : Rows.laid_math_bits_deBruijn64tab = (Lib.tabData .u8 (tab5.map fun b => (b.toNat : Int)) : DataW Unit) := by kernel_rfl
    rw [e] at h5
    have ht : Lib.TabIs Tryz.prog W "math/bits.deBruijn64tab" .u8 (tab5.map fun b => (b.toNat : Int)) :=
      tab_reads (g := 5) (t := 111) (e := 5) (n := 64) (by kernel_rfl) (by kernel_rfl) (by kernel_rfl) (by kernel_rfl) (by kernel_rfl) (by kernel_rfl) h5
    intro j u hu
    refine ⟨_, rfl, ?_⟩
    have hj : j < 64 := by
      have hlen : (tab5.map bV).length = 64 := by decide
      have := (List.getElem?_eq_some_iff.1 hu).1
      omega
    have hc := ht.cell (g := 5) (by kernel_rfl) j (by simpa [tab5] using hj)
    have hu2 : u = .int .u8 ((tab5.map fun b => (b.toNat : Int)).getD j 0) := by
      simp only [List.getElem?_map, Option.map_eq_some_iff] at hu
      obtain ⟨b, hb, rfl⟩ := hu
      simp [bV, hb]
    rw [hu2, ← hc]
    simp only [Addr.add]
    split
    · rename_i h0
      rw [h0]
    · simp

theorem contract_tells (H : Type) (enc : TypeId × Value → H) (W : World) (base : Nat) (args : Array Value) (ds gs : List (DataW H)) (before : List MemPlace)
    (hval : ∀ (j : Nat) t v, Tryz.f3.params[j]? = some t → args[j]? = some v → Value.okWide Tryz.prog W .any base t v)
    (hW : DataW.Whole enc Tryz.prog Tryz.f3.params.toList Rows.chunkTellsSpec.vars false W args.toList ds gs before) (hL : laidMetH Tryz.prog Rows.chunkTellsRow.laid W) :
    Calls Tryz.prog 3 args W fun e W' => ∃ v, e = .returned v ∧ Rows.chunkTellsSpec.post enc Tryz.prog Tryz.f3 false true false false W args v W' := by
  have hW' := hW
  obtain ⟨p, q, hA0, hV, rfl, hfz, hnd⟩ := hW
  have hA : DataW.TrodAll enc Tryz.prog W 0 (fun _ => true) true Tryz.f3.params.toList args.toList ds p := hA0
  rw [Tryz.params3] at hA hval
  obtain ⟨v0, vs0, d0, ds0, p0, q0, hargs, rfl, rfl, h0, r0⟩ := trodAll_cons hA
  obtain ⟨v1, vs1, d1, ds1, p1, q1, rfl, rfl, rfl, h1, r1⟩ := trodAll_cons r0
  obtain ⟨v2, vs2, d2, ds2, p2, q2, rfl, rfl, rfl, h2, r2⟩ := trodAll_cons r1
  obtain ⟨rfl, rfl, rfl⟩ := trodAll_nil r2
  obtain rfl : args = #[v0, v1, v2] := by cases args; simp_all
  obtain ⟨rfl, rfl⟩ := trodVars_none hV
  obtain ⟨s, rfl, rfl, rfl, -⟩ := ChangeMaps.open_string Tryz.underlying9 (hval 0 9 v0 rfl rfl) h0
  obtain ⟨t, rfl, rfl, rfl, -⟩ := ChangeMaps.open_string Tryz.underlying9 (hval 1 9 v1 rfl rfl) h1
  obtain ⟨n0, rfl, rfl, rfl, -⟩ := open_int (show Tryz.prog.underlying 3 = some (.int .i64) by kernel_rfl) (hval 2 3 v2 rfl rfl) h2
  clear hA0
  simp only [List.append_nil] at hW'
  refine (scullerylaw07_ChunkTells.ok KK s.data.toList t.data.toList n0 true (tells_true _ _ _) W (glob_of hL)).mono ?_
  rintro e W' ⟨u, rfl, rfl, ho⟩
  exact ⟨_, rfl, post_law (m := 5) rfl hW' ⟨rfl, rfl, rfl⟩ (by kernel_rfl) (by kernel_rfl) Tryz.underlying4 ho⟩

/-! ### the witness, and the cards -/

noncomputable def laidWorld (os : Os) : World := World.laidAll Tryz.prog os Rows.chunkTellsRow.laid
theorem laid_met (os : Os) (args : Array Value) : laidMet Tryz.prog Rows.chunkTellsRow.laid ((laidWorld os).forCall (fun _ _ => 0) ⟨#[], args, []⟩).memory :=
  laidMet_laidAll _ (by kernel_rfl) (by kernel_rfl)
abbrev ins : Array Value := #[.string ⟨#[]⟩, .string ⟨#[]⟩, .int .i64 0]
theorem reads (os : Os) {H : Type} (enc : TypeId × Value → H) : ∃ places, DataW.whole enc Tryz.prog ((laidWorld os).forCall (fun _ _ => 0) ⟨#[], ins, []⟩).memory [9, 9, 3] [] false
    ins.toList 8 = some ([.lit (.string []), .lit (.string []), .lit (.int .i64 0)], [], places) :=
  ⟨[], by kernel_rfl⟩

theorem lifted_tells (os : Os) (started : os.Started) (H : Type) (enc : TypeId × Value → H) (F : Stop.Interp) :
    ReturnsInHanded {} Tryz.checked os 3 .any ((OpenSpec.ofChange Rows.chunkTellsSpec).preRow enc Tryz.prog Tryz.f3 Rows.chunkTellsRow.domain false Rows.chunkTellsRow.laid) (((OpenSpec.ofChange Rows.chunkTellsSpec).at F).post enc Tryz.prog Tryz.f3 false true false false) := by
  obtain ⟨places, hx⟩ := reads os enc
  refine returnsInHanded_of_row (C := Tryz.checked) (s := OpenSpec.ofChange Rows.chunkTellsSpec) own started (by kernel_rfl) Tryz.func3
    (witness_row_atRef (enc := enc) (C := Tryz.checked) false (laidWorld os) ins (World.laidAll_os _ _ _) (by kernel_rfl) (by kernel_rfl) (by kernel_rfl)
      (OpenSpec.preRow_of_cond 8 hx (by kernel_rfl) (fun k hk => by cases hk) (by kernel_rfl) (laid_met os ins))) ?_
  intro W base args ds gs before hval hW _ _ _ hL _ _
  exact contract_tells H enc W base args ds gs before hval hW hL

theorem said_tells : Rows.ChunkTellsSaid :=
  OpenClaim.holds_of_cond 3 Tryz.f3 rfl rfl rfl rfl rfl rfl rfl ⟨rfl, rfl, rfl, rfl, rfl⟩ rfl rfl rfl rfl rfl (by kernel_rfl) Tryz.func3 (by kernel_rfl)
    (of_decide_eq_true (by kernel_rfl)) (by unfold Func.isWrapper; first | (rw [if_pos (by decide +kernel)]; kernel_rfl) | (rw [if_neg (by decide +kernel)]; exact ⟨rfl, rfl⟩))
    (fun os started H enc _ F => by rw [OpenClaim.pre_eq_preRow]; exact lifted_tells os started H enc F)
theorem stand : ∀ t ∈ [9, 9, 3], Tryz.prog.wantsStandIn t = false := by
  have hall : ([9, 9, 3].all fun u => !Tryz.prog.wantsStandIn u) = true := by kernel_rfl
  intro t hm
  simpa using List.all_eq_true.1 hall t hm

theorem plain_tells (f : FuncId) (fn : Func) (hf : Tryz.pinned.checked.prog.funcNamed "scullery/scullerylaw07.ChunkTells" = some f) (hfn : Tryz.pinned.checked.prog.funcs[f]? = some fn) :
    true = Tryz.pinned.checked.prog.looks [] ∧ ∀ (j : Nat) t, fn.params[j]? = some t → Tryz.pinned.checked.prog.wantsStandIn t = false := by
  obtain rfl : f = 3 := Option.some.inj ((show Tryz.prog.funcNamed "scullery/scullerylaw07.ChunkTells" = some 3 by kernel_rfl).symm.trans hf) |>.symm
  obtain rfl : fn = Tryz.f3 := (Option.some.inj (Tryz.func3.symm.trans hfn)).symm
  refine ⟨by kernel_rfl, fun j t ht => ?_⟩
  rw [Tryz.params3] at ht
  exact stand t (by simpa using Array.mem_of_getElem? ht)
/-- The card. -/
theorem chunkTells_card : Rows.ChunkTellsCardSaid :=
  Claim7.holds_tied_plain_at .later [] _ _ _ _ said_tells (fun _ h => by cases h) (by kernel_rfl) (fun _ h => by cases h) chunkTells_row_tie rfl ⟨rfl, rfl⟩ (by kernel_rfl) rfl plain_tells (by kernel_rfl)
end Go.Proofs.YtkkmbkelkbhecaaGreatDoor
