/- ChunkBack, ChunkJoin: for every input they answer true, and the input reads as it did. The row's seven listed variables start as the program's text lays them; the tie is given. -/
import Derived.Test.YtkkmbkelkbhecaaDoorCards
import Derived.Test.YtkkmbkelkbhecaaDoorTie
import Derived.Test.YtkkmbkelkbhecaaDoorLC
import Derived.Test.YtkkmbkelkbhecaaDoorEvC
import Derived.Deep.DeepHandedRow
import Derived.Deep.DeepWitnessRowRef
import Derived.Lib.LaidU8T
import Derived.Lay
import Derived.MakeChecks
import Derived.SevenTiedAt
set_option maxRecDepth 100000
namespace Go.Proofs.YtkkmbkelkbhecaaDoor
open Go.ChangeShapes Go.WideShapes Go.ChangeAt Go.RowKit Go.Ev

theorem own : ownKnob Tryd.prog.godebug = none := by kernel_rfl

/-! ### the tables -/

theorem tab_reads {P : Program} {W : World} {name : String} {k : IntKind} {zs : List Int} {g : Nat} {t e : TypeId} {n : Nat}
    (hg : P.globalNamed name = some g) (hty : (P.globals[g]?).map (·.type) = some t) (ht : P.underlying t = some (.array n e)) (he : P.underlying e = some (.int k)) (hce : P.cellsOf e = 1) (hct : P.cellsOf t = n)
    (h : Lib.VarReads P W name (Lib.tabData k zs)) : Lib.TabIs P W name k zs := by
  obtain ⟨g', t', cs, fuel, p, hg', ht', hvar, hd⟩ := h
  obtain rfl := Option.some.inj (hg.symm.trans hg')
  obtain rfl := Option.some.inj (hty.symm.trans ht')
  unfold Lib.TabIs
  rw [hvar, ← Lib.cells_of_tab ht he hce hct hd]

theorem glob_of {W : World} (h : laidMetH Tryd.prog Rows.chunkBackRow.laid W) : Glob W := by
  have hL : laidMet Tryd.prog Rows.chunkBackRow.laid W := by
    rw [MakeChecks.laidMetH_plain _ _ _ (by kernel_rfl)] at h
    exact h
  refine ⟨?_, ?_⟩
  · refine utf8Tabs_of_readsT (P := Tryd.prog) (ρ := Tryd.lays237_ren) ⟨by kernel_rfl, by kernel_rfl, by kernel_rfl, by kernel_rfl⟩ ⟨by kernel_rfl, by kernel_rfl, by kernel_rfl, by kernel_rfl, by kernel_rfl, by kernel_rfl, by kernel_rfl⟩ ?_ ?_
    · have := Lib.laidMet.reads hL (n := "unicode/utf8.first") (d := Rows.laid_unicode_utf8_first) (by simp [Rows.chunkBackRow])
      have e : Rows.laid_unicode_utf8_first = Lib.firstData := by kernel_rfl
      rwa [e] at this
    · have := Lib.laidMet.reads hL (n := "unicode/utf8.acceptRanges") (d := Rows.laid_unicode_utf8_acceptRanges) (by simp [Rows.chunkBackRow])
      have e : Rows.laid_unicode_utf8_acceptRanges = Lib.acceptData := by kernel_rfl
      rwa [e] at this
  · have h5 := Lib.laidMet.reads hL (n := "math/bits.deBruijn64tab") (d := Rows.laid_math_bits_deBruijn64tab) (by simp [Rows.chunkBackRow])
    have e : Rows.laid_math_bits_deBruijn64tab = (Lib.tabData .u8 (tab5.map fun b => (b.toNat : Int)) : DataW Unit) := by kernel_rfl
    rw [e] at h5
    have ht : Lib.TabIs Tryd.prog W "math/bits.deBruijn64tab" .u8 (tab5.map fun b => (b.toNat : Int)) :=
      tab_reads (g := 5) (t := 111) (e := 5) (n := 64) (by kernel_rfl) (by kernel_rfl) (by kernel_rfl) (by kernel_rfl) (by kernel_rfl) (by kernel_rfl) h5
    intro j u hu
    refine ⟨_, rfl, ?_⟩
    have hj : j < 64 := by
      have hlen : (tab5.map bV).length = 64 := by decide
      have := (List.getElem?_eq_some_iff.1 hu).1
      omega
    have hc := ht.cell (g := 5) (by kernel_rfl) j (by simpa [tab5] using hj)
    have hu2 : u = .int .u8 ((tab5.map fun b => (b.toNat : Int)).getD j 0) := by
      simp only [List.getElem?_map, Option.map_eq_some_iff] at hu
      obtain ⟨b, hb, rfl⟩ := hu
      simp [bV, hb]
    rw [hu2, ← hc]
    simp only [Addr.add]
    split
    · rename_i h0
      rw [h0]
    · simp

theorem contract_back (H : Type) (enc : TypeId × Value → H) (W : World) (base : Nat) (args : Array Value) (ds gs : List (DataW H)) (before : List MemPlace)
    (hval : ∀ (j : Nat) t v, Tryd.f3.params[j]? = some t → args[j]? = some v → Value.okWide Tryd.prog W .any base t v)
    (hW : DataW.Whole enc Tryd.prog Tryd.f3.params.toList Rows.chunkBackSpec.vars false W args.toList ds gs before) (hL : laidMetH Tryd.prog Rows.chunkBackRow.laid W) :
    Calls Tryd.prog 3 args W fun e W' => ∃ v, e = .returned v ∧ Rows.chunkBackSpec.post enc Tryd.prog Tryd.f3 false true false false W args v W' := by
  have hW' := hW
  obtain ⟨p, q, hA0, hV, rfl, hfz, hnd⟩ := hW
  have hA : DataW.TrodAll enc Tryd.prog W 0 (fun _ => true) true Tryd.f3.params.toList args.toList ds p := hA0
  rw [Tryd.params3] at hA hval
  obtain ⟨v0, vs0, d0, ds0, p0, q0, hargs, rfl, rfl, h0, r0⟩ := trodAll_cons hA
  obtain ⟨v1, vs1, d1, ds1, p1, q1, rfl, rfl, rfl, h1, r1⟩ := trodAll_cons r0
  obtain ⟨v2, vs2, d2, ds2, p2, q2, rfl, rfl, rfl, h2, r2⟩ := trodAll_cons r1
  obtain ⟨rfl, rfl, rfl⟩ := trodAll_nil r2
  obtain rfl : args = #[v0, v1, v2] := by cases args; simp_all
  obtain ⟨rfl, rfl⟩ := trodVars_none hV
  obtain ⟨s, rfl, rfl, rfl, -⟩ := ChangeMaps.open_string Tryd.underlying9 (hval 0 9 v0 rfl rfl) h0
  obtain ⟨t, rfl, rfl, rfl, -⟩ := ChangeMaps.open_string Tryd.underlying9 (hval 1 9 v1 rfl rfl) h1
  obtain ⟨l2, rfl, k2, rfl, b2, f2⟩ := open_flat (m := 5) (ls := [.i .i64, .i .i64]) (by kernel_rfl) (by kernel_rfl) (hval 2 22 v2 rfl rfl) h2
  obtain ⟨n0, l11, rfl, k11⟩ := kinds_i k2
  obtain ⟨n1, l12, rfl, k12⟩ := kinds_i k11
  obtain rfl := kinds_nil k12
  clear hA0
  simp only [List.append_nil] at hW'
  refine (scullerylaw07_ChunkBack.ok KK s.data.toList t.data.toList n0 n1 true (back_true _ _ _ _) W (glob_of hL)).mono ?_
  rintro e W' ⟨u, rfl, rfl, ho⟩
  exact ⟨_, rfl, post_law (m := 5) rfl hW' ⟨rfl, rfl, rfl⟩ (by kernel_rfl) (by kernel_rfl) Tryd.underlying4 ho⟩

theorem contract_join (H : Type) (enc : TypeId × Value → H) (W : World) (base : Nat) (args : Array Value) (ds gs : List (DataW H)) (before : List MemPlace)
    (hval : ∀ (j : Nat) t v, Tryd.f4.params[j]? = some t → args[j]? = some v → Value.okWide Tryd.prog W .any base t v)
    (hW : DataW.Whole enc Tryd.prog Tryd.f4.params.toList Rows.chunkJoinSpec.vars false W args.toList ds gs before) (hL : laidMetH Tryd.prog Rows.chunkJoinRow.laid W) :
    Calls Tryd.prog 4 args W fun e W' => ∃ v, e = .returned v ∧ Rows.chunkJoinSpec.post enc Tryd.prog Tryd.f4 false true false false W args v W' := by
  have hW' := hW
  obtain ⟨p, q, hA0, hV, rfl, hfz, hnd⟩ := hW
  have hA : DataW.TrodAll enc Tryd.prog W 0 (fun _ => true) true Tryd.f4.params.toList args.toList ds p := hA0
  rw [Tryd.params4] at hA hval
  obtain ⟨v0, vs0, d0, ds0, p0, q0, hargs, rfl, rfl, h0, r0⟩ := trodAll_cons hA
  obtain ⟨v1, vs1, d1, ds1, p1, q1, rfl, rfl, rfl, h1, r1⟩ := trodAll_cons r0
  obtain ⟨v2, vs2, d2, ds2, p2, q2, rfl, rfl, rfl, h2, r2⟩ := trodAll_cons r1
  obtain ⟨rfl, rfl, rfl⟩ := trodAll_nil r2
  obtain rfl : args = #[v0, v1, v2] := by cases args; simp_all
  obtain ⟨rfl, rfl⟩ := trodVars_none hV
  obtain ⟨s, rfl, rfl, rfl, -⟩ := ChangeMaps.open_string Tryd.underlying9 (hval 0 9 v0 rfl rfl) h0
  obtain ⟨t, rfl, rfl, rfl, -⟩ := ChangeMaps.open_string Tryd.underlying9 (hval 1 9 v1 rfl rfl) h1
  obtain ⟨l2, rfl, k2, rfl, b2, f2⟩ := open_flat (m := 5) (ls := [.i .i64, .i .i64]) (by kernel_rfl) (by kernel_rfl) (hval 2 22 v2 rfl rfl) h2
  obtain ⟨n0, l11, rfl, k11⟩ := kinds_i k2
  obtain ⟨n1, l12, rfl, k12⟩ := kinds_i k11
  obtain rfl := kinds_nil k12
  clear hA0
  simp only [List.append_nil] at hW'
  refine (scullerylaw07_ChunkJoin.ok KK s.data.toList t.data.toList n0 n1 true (join_true _ _ _ _) W (glob_of hL)).mono ?_
  rintro e W' ⟨u, rfl, rfl, ho⟩
  exact ⟨_, rfl, post_law (m := 5) rfl hW' ⟨rfl, rfl, rfl⟩ (by kernel_rfl) (by kernel_rfl) Tryd.underlying4 ho⟩

/-! ### the witness, and the cards -/

noncomputable def laidWorld (os : Os) : World := World.laidAll Tryd.prog os Rows.chunkBackRow.laid
theorem laid_met (os : Os) (args : Array Value) : laidMet Tryd.prog Rows.chunkBackRow.laid ((laidWorld os).forCall (fun _ _ => 0) ⟨#[], args, []⟩).memory :=
  laidMet_laidAll _ (by kernel_rfl) (by kernel_rfl)
abbrev ins : Array Value := #[.string ⟨#[]⟩, .string ⟨#[]⟩, .agg #[.int .i64 0, .int .i64 0]]
theorem reads (os : Os) {H : Type} (enc : TypeId × Value → H) : ∃ places, DataW.whole enc Tryd.prog ((laidWorld os).forCall (fun _ _ => 0) ⟨#[], ins, []⟩).memory [9, 9, 22] [] false
    ins.toList 8 = some ([.lit (.string []), .lit (.string []), .agg [.lit (.int .i64 0), .lit (.int .i64 0)]], [], places) :=
  ⟨[], by kernel_rfl⟩

theorem lifted_back (os : Os) (started : os.Started) (H : Type) (enc : TypeId × Value → H) (F : Stop.Interp) :
    ReturnsInHanded {} Tryd.checked os 3 .any ((OpenSpec.ofChange Rows.chunkBackSpec).preRow enc Tryd.prog Tryd.f3 Rows.chunkBackRow.domain false Rows.chunkBackRow.laid) (((OpenSpec.ofChange Rows.chunkBackSpec).at F).post enc Tryd.prog Tryd.f3 false true false false) := by
  obtain ⟨places, hx⟩ := reads os enc
  refine returnsInHanded_of_row (C := Tryd.checked) (s := OpenSpec.ofChange Rows.chunkBackSpec) own started (by kernel_rfl) Tryd.func3
    (witness_row_atRef (enc := enc) (C := Tryd.checked) false (laidWorld os) ins (World.laidAll_os _ _ _) (by kernel_rfl) (by kernel_rfl) (by kernel_rfl)
      (OpenSpec.preRow_of_cond 8 hx (by kernel_rfl) (fun k hk => by cases hk) (by kernel_rfl) (laid_met os ins))) ?_
  intro W base args ds gs before hval hW _ _ _ hL _ _
  exact contract_back H enc W base args ds gs before hval hW hL

theorem lifted_join (os : Os) (started : os.Started) (H : Type) (enc : TypeId × Value → H) (F : Stop.Interp) :
    ReturnsInHanded {} Tryd.checked os 4 .any ((OpenSpec.ofChange Rows.chunkJoinSpec).preRow enc Tryd.prog Tryd.f4 Rows.chunkJoinRow.domain false Rows.chunkJoinRow.laid) (((OpenSpec.ofChange Rows.chunkJoinSpec).at F).post enc Tryd.prog Tryd.f4 false true false false) := by
  obtain ⟨places, hx⟩ := reads os enc
  refine returnsInHanded_of_row (C := Tryd.checked) (s := OpenSpec.ofChange Rows.chunkJoinSpec) own started (by kernel_rfl) Tryd.func4
    (witness_row_atRef (enc := enc) (C := Tryd.checked) false (laidWorld os) ins (World.laidAll_os _ _ _) (by kernel_rfl) (by kernel_rfl) (by kernel_rfl)
      (OpenSpec.preRow_of_cond 8 hx (by kernel_rfl) (fun k hk => by cases hk) (by kernel_rfl) (laid_met os ins))) ?_
  intro W base args ds gs before hval hW _ _ _ hL _ _
  exact contract_join H enc W base args ds gs before hval hW hL

theorem said_back : Rows.ChunkBackSaid :=
  OpenClaim.holds_of_cond 3 Tryd.f3 rfl rfl rfl rfl rfl rfl rfl ⟨rfl, rfl, rfl, rfl, rfl⟩ rfl rfl rfl rfl rfl (by kernel_rfl) Tryd.func3 (by kernel_rfl)
    (of_decide_eq_true (by kernel_rfl)) (by unfold Func.isWrapper; first | (rw [if_pos (by decide +kernel)]; kernel_rfl) | (rw [if_neg (by decide +kernel)]; exact ⟨rfl, rfl⟩))
    (fun os started H enc _ F => by rw [OpenClaim.pre_eq_preRow]; exact lifted_back os started H enc F)
theorem said_join : Rows.ChunkJoinSaid :=
  OpenClaim.holds_of_cond 4 Tryd.f4 rfl rfl rfl rfl rfl rfl rfl ⟨rfl, rfl, rfl, rfl, rfl⟩ rfl rfl rfl rfl rfl (by kernel_rfl) Tryd.func4 (by kernel_rfl)
    (of_decide_eq_true (by kernel_rfl)) (by unfold Func.isWrapper; first | (rw [if_pos (by decide +kernel)]; kernel_rfl) | (rw [if_neg (by decide +kernel)]; exact ⟨rfl, rfl⟩))
    (fun os started H enc _ F => by rw [OpenClaim.pre_eq_preRow]; exact lifted_join os started H enc F)

theorem stand : ∀ t ∈ [9, 9, 22], Tryd.prog.wantsStandIn t = false := by
  have hall : ([9, 9, 22].all fun u => !Tryd.prog.wantsStandIn u) = true := by kernel_rfl
  intro t hm
  simpa using List.all_eq_true.1 hall t hm

theorem plain_back (f : FuncId) (fn : Func) (hf : Tryd.pinned.checked.prog.funcNamed "scullery/scullerylaw07.ChunkBack" = some f) (hfn : Tryd.pinned.checked.prog.funcs[f]? = some fn) :
    true = Tryd.pinned.checked.prog.looks [] ∧ ∀ (j : Nat) t, fn.params[j]? = some t → Tryd.pinned.checked.prog.wantsStandIn t = false := by
  obtain rfl : f = 3 := Option.some.inj ((show Tryd.prog.funcNamed "scullery/scullerylaw07.ChunkBack" = some 3 by kernel_rfl).symm.trans hf) |>.symm
  obtain rfl : fn = Tryd.f3 := (Option.some.inj (Tryd.func3.symm.trans hfn)).symm
  refine ⟨by kernel_rfl, fun j t ht => ?_⟩
  rw [Tryd.params3] at ht
  exact stand t (by simpa using Array.mem_of_getElem? ht)
theorem plain_join (f : FuncId) (fn : Func) (hf : Tryd.pinned.checked.prog.funcNamed "scullery/scullerylaw07.ChunkJoin" = some f) (hfn : Tryd.pinned.checked.prog.funcs[f]? = some fn) :
    true = Tryd.pinned.checked.prog.looks [] ∧ ∀ (j : Nat) t, fn.params[j]? = some t → Tryd.pinned.checked.prog.wantsStandIn t = false := by
  obtain rfl : f = 4 := Option.some.inj ((show Tryd.prog.funcNamed "scullery/scullerylaw07.ChunkJoin" = some 4 by kernel_rfl).symm.trans hf) |>.symm
  obtain rfl : fn = Tryd.f4 := (Option.some.inj (Tryd.func4.symm.trans hfn)).symm
  refine ⟨by kernel_rfl, fun j t ht => ?_⟩
  rw [Tryd.params4] at ht
  exact stand t (by simpa using Array.mem_of_getElem? ht)

/-- The cards. -/
theorem chunkBack_card : Rows.ChunkBackCardSaid :=
  Claim7.holds_tied_plain_at .later [] _ _ _ _ said_back (fun _ h => by cases h) (by kernel_rfl) (fun _ h => by cases h) chunkBack_row_tie rfl ⟨rfl, rfl⟩ (by kernel_rfl) rfl plain_back (by kernel_rfl)
theorem chunkJoin_card : Rows.ChunkJoinCardSaid :=
  Claim7.holds_tied_plain_at .later [] _ _ _ _ said_join (fun _ h => by cases h) (by kernel_rfl) (fun _ h => by cases h) chunkJoin_row_tie rfl ⟨rfl, rfl⟩ (by kernel_rfl) rfl plain_join (by kernel_rfl)

end Go.Proofs.YtkkmbkelkbhecaaDoor
