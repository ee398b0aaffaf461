/- Go functions as plain functions, and that the machine's calls do what these say. -/
import Derived.Test.YtimggfeejbfdnaaDoorT
import Derived.Test.YtimggfeejbfdnaaDoorLay
import Derived.Test.YtimggfeejbfdnaaDoorHC
set_option maxRecDepth 100000
set_option linter.unusedVariables false
namespace Go.Proofs.YtimggfeejbfdnaaDoor
open Go.Ev Go.Proofs.Tryd


/-! internal/stringslite.IndexByte: function 45 -/
noncomputable def C45 (p : List Nat) : Code := Sub (bodyOf f45) p
def stringslite_IndexByte.f (p0 : Str) (p1 : Int) : Option (Int) := some (Lib.indexByte p0 p1.toNat.toUInt8)
abbrev stringslite_IndexByte.post (w0 : World) (r : Int) (u : Value) (w : World) : Prop := u = I r ∧ Ows [] w0 w []
theorem stringslite_IndexByte.ok (p0 : Str) (p1 : Int) (r : Int) (H : stringslite_IndexByte.f p0 p1 = some r) (w0 : World)  : Calls Tryd.prog 45 ⟨[S p0, .int .u8 p1]⟩ w0 fun e w => ∃ u, e = .returned u ∧ stringslite_IndexByte.post w0 r u w := by
  unfold stringslite_IndexByte.f at H
  refine st_start (N := 8) [S p0, .int .u8 p1] (C45 []) func45 (by kernel_rfl) (by kernel_rfl) (by kernel_rfl) ?_
  intro a w hk ho
  refine st_seq (C45 [0]) (C45 [1]) (by kernel_rfl) ?_
  refine st_region 0 (opsOf (C45 [0])) [0] (by kernel_rfl) (by kernel_rfl) ?_
  refine st_pure tabOK hk [0] [] [0, 1] [(0, S p0), (1, .int .u8 p1)] (True) (by kernel_rfl) trivial ?_
  clear hk; intro a hk
  refine st_done ?_
  refine st_seq (C45 [1, 0]) (C45 [1, 1]) (by kernel_rfl) ?_
  refine st_region 1 (opsOf (C45 [1, 0])) [0, 1, 2, 3] (by kernel_rfl) (by kernel_rfl) ?_
  refine st_pure tabOK hk [0, 1] [2, 3] [5, 6] [(5, S p0), (6, .int .u8 p1)] (True) (by kernel_rfl) trivial ?_
  clear hk; intro a hk
  refine st_ext hk 62 [S p0, .int .u8 p1] 7 ext62 (by kernel_rfl) (idx_run p0 p1 _) ?_
  clear hk; intro a hk
  refine st_pure tabOK hk [3] [] [4] [(4, I (Lib.indexByte p0 p1.toNat.toUInt8))] (True) (by kernel_rfl) trivial ?_
  clear hk; intro a hk
  refine st_done ?_
  refine st_retG hk (by kernel_rfl) [I (Lib.indexByte p0 p1.toNat.toUInt8)] #[.tmp 4] (by kernel_rfl) ⟨resT hk (by kernel_rfl), trivial⟩ ?_
  obtain rfl := Option.some.inj H
  exact ⟨_, rfl, rfl, ho⟩


/-! internal/stringslite.Index: function 52 -/
noncomputable def C52 (p : List Nat) : Code := Sub (bodyOf f52) p
def stringslite_Index.f (p0 : Str) (p1 : Str) : Option (Int) := (if (((p1.length : Int) == 0) || (p1 == p0)) = true then some 0 else (if ((p1.length : Int) == 1) = true then (if 0 < (p1.length : Int) then ((stringslite_IndexByte.f p0 (bt p1 0)).bind fun t10 => some t10) else none) else (if (p1.length : Int) ≥ (p0.length : Int) then some (-1) else none)))
abbrev stringslite_Index.post (w0 : World) (r : Int) (u : Value) (w : World) : Prop := u = I r ∧ Ows [] w0 w []
theorem stringslite_Index.ok (p0 : Str) (p1 : Str) (r : Int) (H : stringslite_Index.f p0 p1 = some r) (w0 : World)  : Calls Tryd.prog 52 ⟨[S p0, S p1]⟩ w0 fun e w => ∃ u, e = .returned u ∧ stringslite_Index.post w0 r u w := by
  unfold stringslite_Index.f at H
  refine st_start (N := 143) [S p0, S p1] (C52 []) func52 (by kernel_rfl) (by kernel_rfl) (by kernel_rfl) ?_
  intro a w hk ho
  refine st_seq (C52 [0]) (C52 [1]) (by kernel_rfl) ?_
  refine st_region 0 (opsOf (C52 [0])) [0] (by kernel_rfl) (by kernel_rfl) ?_
  refine st_pure tabOK hk [0] [] [0, 1] [(0, S p0), (1, S p1)] (True) (by kernel_rfl) trivial ?_
  clear hk; intro a hk
  refine st_done ?_
  refine st_seq (C52 [1, 0]) (C52 [1, 1]) (by kernel_rfl) ?_
  refine st_region 1 (opsOf (C52 [1, 0])) [0, 1, 2] (by kernel_rfl) (by kernel_rfl) ?_
  refine st_pure tabOK hk [0, 1, 2] [] [0, 1, 5] [(0, S p0), (1, S p1), (5, I (p1.length : Int))] (True) (by kernel_rfl) trivial ?_
  clear hk; intro a hk
  refine st_done ?_
  refine st_seq (C52 [1, 1, 0]) (C52 [1, 1, 1]) (by kernel_rfl) ?_
  refine st_block 0 (C52 [1, 1, 0, 0]) (by kernel_rfl) ?_
  refine st_seq (C52 [1, 1, 0, 0, 0]) (C52 [1, 1, 0, 0, 1]) (by kernel_rfl) ?_
  refine st_region 2 (opsOf (C52 [1, 1, 0, 0, 0])) [0, 1, 2, 3, 4, 5, 6, 7] (by kernel_rfl) (by kernel_rfl) ?_
  refine st_pure tabOK hk [0, 1, 2] [3, 4, 5, 6, 7] [0, 1, 5, 19] [(0, S p0), (1, S p1), (5, I (p1.length : Int)), (19, .bool ((p1.length : Int) == 0))] (True) (by kernel_rfl) trivial ?_
  clear hk; intro a hk
  refine cut_ops (fun a w => Kn 143 a [(0, S p0), (1, S p1), (5, I (p1.length : Int)), (16, .bool (((p1.length : Int) == 0) || (p1 == p0)))] ∧ Ows [] w0 w []) ?_ ?_
  · intro J
    rcases Bool.eq_false_or_eq_true ((p1.length : Int) == 0) with h1 | h1
    ·
      rw [h1] at hk
      have h2 : ((p1.length : Int) == 0) = true := h1
      refine st_pure tabOK hk [3, 4, 5, 6, 7] [] [0, 1, 5, 16] [(0, S p0), (1, S p1), (5, I (p1.length : Int)), (16, .bool true)] (True) (by kernel_rfl) trivial ?_
      clear hk; intro a hk
      refine st_done ?_
      have e : (((p1.length : Int) == 0) || (p1 == p0)) = true := by first | (simp only [h1]; done) | (simp only [h1]; rfl) | rfl | simp [h1]
      exact J a w ⟨by rw [e]; exact hk.to [0, 1, 5, 16] _ (by kernel_rfl), ho⟩
    ·
      rw [h1] at hk
      have h3 : ¬ (((p1.length : Int) == 0) = true) := ne_true_of_eq_false h1
      refine st_pure tabOK hk [3, 4, 5, 6, 7] [] [0, 1, 5, 16] [(0, S p0), (1, S p1), (5, I (p1.length : Int)), (16, .bool (p1 == p0))] (True) (by kernel_rfl) trivial ?_
      clear hk; intro a hk
      refine st_done ?_
      have e : (((p1.length : Int) == 0) || (p1 == p0)) = (p1 == p0) := by first | (simp only [h1]; done) | (simp only [h1]; rfl) | rfl | simp [h1]
      exact J a w ⟨by rw [e]; exact hk.to [0, 1, 5, 16] _ (by kernel_rfl), ho⟩
  · rintro a w ⟨hk, ho⟩
    refine st_cond hk (C52 [1, 1, 0, 0, 1, 0]) (C52 [1, 1, 0, 0, 1, 1]) (.tmp 16) ((((p1.length : Int) == 0) || (p1 == p0))) (by kernel_rfl) (by kernel_rfl) (fun h4 => ?_) (fun h4 => ?_)
    ·
      have h5 : (((p1.length : Int) == 0) || (p1 == p0)) = true := h4
      rw [if_pos h5] at H
      refine st_seq (C52 [1, 1, 0, 0, 1, 0, 0]) (C52 [1, 1, 0, 0, 1, 0, 1]) (by kernel_rfl) ?_
      refine st_region 3 (opsOf (C52 [1, 1, 0, 0, 1, 0, 0])) [0] (by kernel_rfl) (by kernel_rfl) ?_
      refine st_pure tabOK hk [0] [] [4] [(4, I 0)] (True) (by kernel_rfl) trivial ?_
      clear hk; intro a hk
      refine st_done ?_
      refine st_retG hk (by kernel_rfl) [I 0] #[.tmp 4] (by kernel_rfl) ⟨resT hk (by kernel_rfl), trivial⟩ ?_
      obtain rfl := Option.some.inj H
      exact ⟨_, rfl, rfl, ho⟩
    ·
      have h6 : ¬ ((((p1.length : Int) == 0) || (p1 == p0)) = true) := ne_true_of_eq_false h4
      rw [if_neg h6] at H
      refine st_seq (C52 [1, 1, 0, 0, 1, 1, 0]) (C52 [1, 1, 0, 0, 1, 1, 1]) (by kernel_rfl) ?_
      refine st_region 4 (opsOf (C52 [1, 1, 0, 0, 1, 1, 0])) [0, 1, 2] (by kernel_rfl) (by kernel_rfl) ?_
      refine st_pure tabOK hk [0, 1, 2] [] [0, 1, 5, 24] [(0, S p0), (1, S p1), (5, I (p1.length : Int)), (24, .bool ((p1.length : Int) == 1))] (True) (by kernel_rfl) trivial ?_
      clear hk; intro a hk
      refine st_done ?_
      refine st_cond hk (C52 [1, 1, 0, 0, 1, 1, 1, 0]) (C52 [1, 1, 0, 0, 1, 1, 1, 1]) (.tmp 24) ((p1.length : Int) == 1) (by kernel_rfl) (by kernel_rfl) (fun h7 => ?_) (fun h7 => ?_)
      ·
        have h8 : ((p1.length : Int) == 1) = true := h7
        rw [if_pos h8] at H
        refine st_seq (C52 [1, 1, 0, 0, 1, 1, 1, 0, 0]) (C52 [1, 1, 0, 0, 1, 1, 1, 0, 1]) (by kernel_rfl) ?_
        refine st_region 5 (opsOf (C52 [1, 1, 0, 0, 1, 1, 1, 0, 0])) [0, 1, 2, 3, 4] (by kernel_rfl) (by kernel_rfl) ?_
        have h9 : 0 < (p1.length : Int) := by
          by_cases h9 : 0 < (p1.length : Int)
          · exact h9
          · rw [if_neg h9] at H; cases H
        rw [if_pos h9] at H
        refine st_pure tabOK hk [0, 1, 2] [3, 4] [27, 29] [(27, S p0), (29, .int .u8 (bt p1 0))] (((0 : Int) ≤ 0 ∧ 0 < (p1.length : Int)) ∧ True) (by kernel_rfl) ⟨⟨(by decide), h9⟩, trivial⟩ ?_
        clear hk; intro a hk
        obtain ⟨t10, h11, H⟩ := Option.bind_eq_some_iff.1 H
        refine st_call hk 45 [S p0, .int .u8 (bt p1 0)] (some 30) enters45 (by kernel_rfl) (stringslite_IndexByte.ok  p0 (bt p1 0) t10 h11 w ) ?_
        clear hk; rintro a u w ⟨rfl, ho'⟩ hk
        replace ho : Ows [] w0 w [] := ho.call ho'; clear ho'
        refine st_pure tabOK hk [4] [] [4] [(4, I t10)] (True) (by kernel_rfl) trivial ?_
        clear hk; intro a hk
        refine st_done ?_
        refine st_retG hk (by kernel_rfl) [I t10] #[.tmp 4] (by kernel_rfl) ⟨resT hk (by kernel_rfl), trivial⟩ ?_
        obtain rfl := Option.some.inj H
        exact ⟨_, rfl, rfl, ho⟩
      ·
        have h12 : ¬ (((p1.length : Int) == 1) = true) := ne_true_of_eq_false h7
        rw [if_neg h12] at H
        refine st_seq (C52 [1, 1, 0, 0, 1, 1, 1, 1, 0]) (C52 [1, 1, 0, 0, 1, 1, 1, 1, 1]) (by kernel_rfl) ?_
        refine st_region 6 (opsOf (C52 [1, 1, 0, 0, 1, 1, 1, 1, 0])) [0, 1, 2, 3, 4] (by kernel_rfl) (by kernel_rfl) ?_
        refine st_pure tabOK hk [0, 1, 2, 3, 4] [] [0, 1, 5, 31] [(0, S p0), (1, S p1), (5, I (p1.length : Int)), (31, .bool (decide ((p1.length : Int) ≥ (p0.length : Int))))] (True) (by kernel_rfl) trivial ?_
        clear hk; intro a hk
        refine st_done ?_
        refine st_cond hk (C52 [1, 1, 0, 0, 1, 1, 1, 1, 1, 0]) (C52 [1, 1, 0, 0, 1, 1, 1, 1, 1, 1]) (.tmp 31) (decide ((p1.length : Int) ≥ (p0.length : Int))) (by kernel_rfl) (by kernel_rfl) (fun h13 => ?_) (fun h13 => ?_)
        ·
          have h14 : (p1.length : Int) ≥ (p0.length : Int) := of_decide_eq_true h13
          rw [if_pos h14] at H
          refine st_seq (C52 [1, 1, 0, 0, 1, 1, 1, 1, 1, 0, 0]) (C52 [1, 1, 0, 0, 1, 1, 1, 1, 1, 0, 1]) (by kernel_rfl) ?_
          refine st_region 7 (opsOf (C52 [1, 1, 0, 0, 1, 1, 1, 1, 1, 0, 0])) [0] (by kernel_rfl) (by kernel_rfl) ?_
          refine st_pure tabOK hk [0] [] [4] [(4, I (-1))] (True) (by kernel_rfl) trivial ?_
          clear hk; intro a hk
          refine st_done ?_
          refine st_retG hk (by kernel_rfl) [I (-1)] #[.tmp 4] (by kernel_rfl) ⟨resT hk (by kernel_rfl), trivial⟩ ?_
          obtain rfl := Option.some.inj H
          exact ⟨_, rfl, rfl, ho⟩
        ·
          have h15 : ¬ ((p1.length : Int) ≥ (p0.length : Int)) := of_decide_eq_false h13
          rw [if_neg h15] at H
          exact nomatch H


/-! internal/stringslite.Cut: function 35 -/
noncomputable def C35 (p : List Nat) : Code := Sub (bodyOf f35) p
def stringslite_Cut.f (p0 : Str) (p1 : Str) : Option (Str × Str × Bool) := (((stringslite_Index.f p0 p1).bind fun t1 => (if t1 ≥ 0 then (if (0 : Int) ≤ t1 then (if t1 ≤ (p0.length : Int) then (if (0 : Int) ≤ w64 (t1 + (p1.length : Int)) then (if w64 (t1 + (p1.length : Int)) ≤ (p0.length : Int) then some (p0.take t1.toNat, p0.drop (w64 (t1 + (p1.length : Int))).toNat, true) else none) else none) else none) else none) else some (p0, [], false))))
abbrev stringslite_Cut.post (w0 : World) (r : Str × Str × Bool) (u : Value) (w : World) : Prop := u = .tuple #[S r.1, S r.2.1, .bool r.2.2] ∧ Ows [] w0 w []
theorem stringslite_Cut.ok (p0 : Str) (p1 : Str) (r : Str × Str × Bool) (H : stringslite_Cut.f p0 p1 = some r) (w0 : World)  : Calls Tryd.prog 35 ⟨[S p0, S p1]⟩ w0 fun e w => ∃ u, e = .returned u ∧ stringslite_Cut.post w0 r u w := by
  unfold stringslite_Cut.f at H
  refine st_start (N := 23) [S p0, S p1] (C35 []) func35 (by kernel_rfl) (by kernel_rfl) (by kernel_rfl) ?_
  intro a w hk ho
  refine st_seq (C35 [0]) (C35 [1]) (by kernel_rfl) ?_
  refine st_region 0 (opsOf (C35 [0])) [0, 1, 2] (by kernel_rfl) (by kernel_rfl) ?_
  refine st_pure tabOK hk [0, 1, 2] [] [0, 1] [(0, S p0), (1, S p1)] (True) (by kernel_rfl) trivial ?_
  clear hk; intro a hk
  refine st_done ?_
  refine st_seq (C35 [1, 0]) (C35 [1, 1]) (by kernel_rfl) ?_
  refine st_seq (C35 [1, 0, 0]) (C35 [1, 0, 1]) (by kernel_rfl) ?_
  refine st_region 1 (opsOf (C35 [1, 0, 0])) [0, 1, 2, 3] (by kernel_rfl) (by kernel_rfl) ?_
  refine st_pure tabOK hk [0, 1] [2, 3] [0, 1, 8, 9] [(0, S p0), (1, S p1), (8, S p0), (9, S p1)] (True) (by kernel_rfl) trivial ?_
  clear hk; intro a hk
  obtain ⟨t1, h2, H⟩ := Option.bind_eq_some_iff.1 H
  refine st_call hk 52 [S p0, S p1] (some 10) enters52 (by kernel_rfl) (stringslite_Index.ok  p0 p1 t1 h2 w ) ?_
  clear hk; rintro a u w ⟨rfl, ho'⟩ hk
  replace ho : Ows [] w0 w [] := ho.call ho'; clear ho'
  refine st_pure tabOK hk [3] [] [0, 1, 7] [(0, S p0), (1, S p1), (7, I t1)] (True) (by kernel_rfl) trivial ?_
  clear hk; intro a hk
  refine st_done ?_
  refine st_seq (C35 [1, 0, 1, 0]) (C35 [1, 0, 1, 1]) (by kernel_rfl) ?_
  refine st_region 2 (opsOf (C35 [1, 0, 1, 0])) [0, 1] (by kernel_rfl) (by kernel_rfl) ?_
  refine st_pure tabOK hk [0, 1] [] [0, 1, 7, 12] [(0, S p0), (1, S p1), (7, I t1), (12, .bool (decide (t1 ≥ 0)))] (True) (by kernel_rfl) trivial ?_
  clear hk; intro a hk
  refine st_done ?_
  refine st_cond hk (C35 [1, 0, 1, 1, 0]) (C35 [1, 0, 1, 1, 1]) (.tmp 12) (decide (t1 ≥ 0)) (by kernel_rfl) (by kernel_rfl) (fun h3 => ?_) (fun h3 => ?_)
  ·
    have h4 : t1 ≥ 0 := of_decide_eq_true h3
    rw [if_pos h4] at H
    refine st_seq (C35 [1, 0, 1, 1, 0, 0]) (C35 [1, 0, 1, 1, 0, 1]) (by kernel_rfl) ?_
    refine st_draw ho 3 (opsOf (C35 [1, 0, 1, 1, 0, 0])) [0, 1, 2, 3, 4, 5, 6, 7, 8, 9, 10, 11] (by kernel_rfl) (by kernel_rfl) (by kernel_rfl) ?_
    clear ho; intro w ho
    have h5 : (0 : Int) ≤ t1 := by
      by_cases h5 : (0 : Int) ≤ t1
      · exact h5
      · rw [if_neg h5] at H; cases H
    rw [if_pos h5] at H
    have h6 : t1 ≤ (p0.length : Int) := by
      by_cases h6 : t1 ≤ (p0.length : Int)
      · exact h6
      · rw [if_neg h6] at H; cases H
    rw [if_pos h6] at H
    have h7 : (0 : Int) ≤ w64 (t1 + (p1.length : Int)) := by
      by_cases h7 : (0 : Int) ≤ w64 (t1 + (p1.length : Int))
      · exact h7
      · rw [if_neg h7] at H; cases H
    rw [if_pos h7] at H
    have h8 : w64 (t1 + (p1.length : Int)) ≤ (p0.length : Int) := by
      by_cases h8 : w64 (t1 + (p1.length : Int)) ≤ (p0.length : Int)
      · exact h8
      · rw [if_neg h8] at H; cases H
    rw [if_pos h8] at H
    refine any_pure tabOK hk [0, 1, 2, 3, 4, 5, 6, 7, 8, 9, 10, 11] [0, 1, 2, 3, 4, 5, 6, 7, 8, 9, 10, 11] [] [4, 5, 6] [(4, S (p0.take t1.toNat)), (5, S (p0.drop (w64 (t1 + (p1.length : Int))).toNat)), (6, .bool true)] (((0 : Int) ≤ t1 ∧ t1 ≤ (p0.length : Int)) ∧ (((0 : Int) ≤ w64 (t1 + (p1.length : Int)) ∧ w64 (t1 + (p1.length : Int)) ≤ (p0.length : Int)) ∧ True)) (by kernel_rfl) (by kernel_rfl) (by kernel_rfl) ⟨⟨h5, h6⟩, ⟨⟨h7, h8⟩, trivial⟩⟩ ?_
    clear hk; intro a hk
    refine any_end ?_
    refine st_retG hk (by kernel_rfl) [S (p0.take t1.toNat), S (p0.drop (w64 (t1 + (p1.length : Int))).toNat), .bool true] #[.tmp 4, .tmp 5, .tmp 6] (by kernel_rfl) ⟨resT hk (by kernel_rfl), resT hk (by kernel_rfl), resT hk (by kernel_rfl), trivial⟩ ?_
    obtain rfl := Option.some.inj H
    exact ⟨_, rfl, rfl, ho⟩
  ·
    have h9 : ¬ (t1 ≥ 0) := of_decide_eq_false h3
    rw [if_neg h9] at H
    refine st_skip (by kernel_rfl) ?_
    refine st_seq (C35 [1, 1, 0]) (C35 [1, 1, 1]) (by kernel_rfl) ?_
    refine st_region 4 (opsOf (C35 [1, 1, 0])) [0, 1, 2, 3] (by kernel_rfl) (by kernel_rfl) ?_
    refine st_pure tabOK hk [0, 1, 2, 3] [] [4, 5, 6] [(4, S p0), (5, S ([])), (6, .bool false)] (True) (by kernel_rfl) trivial ?_
    clear hk; intro a hk
    refine st_done ?_
    refine st_retG hk (by kernel_rfl) [S p0, S ([]), .bool false] #[.tmp 4, .tmp 5, .tmp 6] (by kernel_rfl) ⟨resT hk (by kernel_rfl), resT hk (by kernel_rfl), resT hk (by kernel_rfl), trivial⟩ ?_
    obtain rfl := Option.some.inj H
    exact ⟨_, rfl, rfl, ho⟩


/-! strings.Cut: function 16 -/
noncomputable def C16 (p : List Nat) : Code := Sub (bodyOf f16) p
def strings_Cut.f (p0 : Str) (p1 : Str) : Option (Str × Str × Bool) := (((stringslite_Cut.f p0 p1).bind fun t1 => some (t1.1, t1.2.1, t1.2.2)))
abbrev strings_Cut.post (w0 : World) (r : Str × Str × Bool) (u : Value) (w : World) : Prop := u = .tuple #[S r.1, S r.2.1, .bool r.2.2] ∧ Ows [] w0 w []
theorem strings_Cut.ok (p0 : Str) (p1 : Str) (r : Str × Str × Bool) (H : strings_Cut.f p0 p1 = some r) (w0 : World)  : Calls Tryd.prog 16 ⟨[S p0, S p1]⟩ w0 fun e w => ∃ u, e = .returned u ∧ strings_Cut.post w0 r u w := by
  unfold strings_Cut.f at H
  refine st_start (N := 13) [S p0, S p1] (C16 []) func16 (by kernel_rfl) (by kernel_rfl) (by kernel_rfl) ?_
  intro a w hk ho
  refine st_seq (C16 [0]) (C16 [1]) (by kernel_rfl) ?_
  refine st_region 0 (opsOf (C16 [0])) [0, 1, 2] (by kernel_rfl) (by kernel_rfl) ?_
  refine st_pure tabOK hk [0, 1, 2] [] [0, 1] [(0, S p0), (1, S p1)] (True) (by kernel_rfl) trivial ?_
  clear hk; intro a hk
  refine st_done ?_
  refine st_seq (C16 [1, 0]) (C16 [1, 1]) (by kernel_rfl) ?_
  refine st_region 1 (opsOf (C16 [1, 0])) [0, 1, 2, 3, 4, 5, 6, 7, 8] (by kernel_rfl) (by kernel_rfl) ?_
  refine st_pure tabOK hk [0, 1] [2, 3, 4, 5, 6, 7, 8] [7, 8] [(7, S p0), (8, S p1)] (True) (by kernel_rfl) trivial ?_
  clear hk; intro a hk
  obtain ⟨t1, h2, H⟩ := Option.bind_eq_some_iff.1 H
  refine st_call hk 35 [S p0, S p1] (some 9) enters35 (by kernel_rfl) (stringslite_Cut.ok  p0 p1 t1 h2 w ) ?_
  clear hk; rintro a u w ⟨rfl, ho'⟩ hk
  replace ho : Ows [] w0 w [] := ho.call ho'; clear ho'
  refine st_pure tabOK hk [3, 4, 5, 6, 7, 8] [] [4, 5, 6] [(4, S t1.1), (5, S t1.2.1), (6, .bool t1.2.2)] (True) (by kernel_rfl) trivial ?_
  clear hk; intro a hk
  refine st_done ?_
  refine st_retG hk (by kernel_rfl) [S t1.1, S t1.2.1, .bool t1.2.2] #[.tmp 4, .tmp 5, .tmp 6] (by kernel_rfl) ⟨resT hk (by kernel_rfl), resT hk (by kernel_rfl), resT hk (by kernel_rfl), trivial⟩ ?_
  obtain rfl := Option.some.inj H
  exact ⟨_, rfl, rfl, ho⟩


/-! scullery/ascii.digit: function 40 -/
noncomputable def C40 (p : List Nat) : Code := Sub (bodyOf f40) p
def ascii_digit.f (p0 : Int) : Option (Bool) := some ((decide (p0 ≥ 48)) && (decide (p0 ≤ 57)))
abbrev ascii_digit.post (w0 : World) (r : Bool) (u : Value) (w : World) : Prop := u = .bool r ∧ Ows [] w0 w []
theorem ascii_digit.ok (p0 : Int) (r : Bool) (H : ascii_digit.f p0 = some r) (w0 : World)  : Calls Tryd.prog 40 ⟨[.int .u8 p0]⟩ w0 fun e w => ∃ u, e = .returned u ∧ ascii_digit.post w0 r u w := by
  unfold ascii_digit.f at H
  refine st_start (N := 9) [.int .u8 p0] (C40 []) func40 (by kernel_rfl) (by kernel_rfl) (by kernel_rfl) ?_
  intro a w hk ho
  refine st_seq (C40 [0]) (C40 [1]) (by kernel_rfl) ?_
  refine st_region 0 (opsOf (C40 [0])) [0] (by kernel_rfl) (by kernel_rfl) ?_
  refine st_pure tabOK hk [0] [] [0] [(0, .int .u8 p0)] (True) (by kernel_rfl) trivial ?_
  clear hk; intro a hk
  refine st_done ?_
  refine st_seq (C40 [1, 0]) (C40 [1, 1]) (by kernel_rfl) ?_
  refine st_region 1 (opsOf (C40 [1, 0])) [0, 1, 2, 3, 4, 5, 6] (by kernel_rfl) (by kernel_rfl) ?_
  refine st_pure tabOK hk [0, 1, 2] [3, 4, 5, 6] [0, 5] [(0, .int .u8 p0), (5, .bool (decide (p0 ≥ 48)))] (True) (by kernel_rfl) trivial ?_
  clear hk; intro a hk
  refine cut_ops (fun a w => Kn 9 a [(2, .bool ((decide (p0 ≥ 48)) && (decide (p0 ≤ 57))))] ∧ Ows [] w0 w []) ?_ ?_
  · intro J
    rcases Bool.eq_false_or_eq_true (decide (p0 ≥ 48)) with h1 | h1
    ·
      rw [h1] at hk
      have h2 : p0 ≥ 48 := of_decide_eq_true h1
      refine st_pure tabOK hk [3, 4, 5, 6] [] [2] [(2, .bool (decide (p0 ≤ 57)))] (True) (by kernel_rfl) trivial ?_
      clear hk; intro a hk
      refine st_done ?_
      have e : ((decide (p0 ≥ 48)) && (decide (p0 ≤ 57))) = (decide (p0 ≤ 57)) := by first | (simp only [h1]; done) | (simp only [h1]; rfl) | rfl | simp [h1]
      exact J a w ⟨by rw [e]; exact hk.to [2] _ (by kernel_rfl), ho⟩
    ·
      rw [h1] at hk
      have h3 : ¬ (p0 ≥ 48) := of_decide_eq_false h1
      refine st_pure tabOK hk [3, 4, 5, 6] [] [2] [(2, .bool false)] (True) (by kernel_rfl) trivial ?_
      clear hk; intro a hk
      refine st_done ?_
      have e : ((decide (p0 ≥ 48)) && (decide (p0 ≤ 57))) = false := by first | (simp only [h1]; done) | (simp only [h1]; rfl) | rfl | simp [h1]
      exact J a w ⟨by rw [e]; exact hk.to [2] _ (by kernel_rfl), ho⟩
  · rintro a w ⟨hk, ho⟩
    refine st_retG hk (by kernel_rfl) [.bool ((decide (p0 ≥ 48)) && (decide (p0 ≤ 57)))] #[.tmp 2] (by kernel_rfl) ⟨resT hk (by kernel_rfl), trivial⟩ ?_
    obtain rfl := Option.some.inj H
    exact ⟨_, rfl, rfl, ho⟩


/-! scullery/ascii.all: function 39 -/
noncomputable def C39 (p : List Nat) : Code := Sub (bodyOf f39) p
def ascii_all_ascii_digit.l0 : Nat → Str → Int → Option ((Unit) ⊕ (Bool))
  | 0, _, _ => none
  | k + 1, p0, v6 => (if v6 < (p0.length : Int) then (if (0 : Int) ≤ v6 then ((ascii_digit.f (bt p0 v6)).bind fun t10 => (if (!t10) = true then some (.inr false) else ascii_all_ascii_digit.l0 k p0 (w64 (v6 + 1)))) else none) else some (.inl ()))
def ascii_all_ascii_digit.f (K : Nat) (p0 : Str) : Option (Bool) := (if p0.length ≤ 4294967296 then ((ascii_all_ascii_digit.l0 K p0 0).bind fun m16 => match m16 with | .inl s18 => some true | .inr r19 => some r19) else none)
abbrev ascii_all_ascii_digit.post (w0 : World) (r : Bool) (u : Value) (w : World) : Prop := u = .bool r ∧ Ows [] w0 w []
theorem ascii_all_ascii_digit.l0_ok : ∀ (k : Nat) (p0 : Str) (v6 : Int) (out : (Unit) ⊕ (Bool)), ascii_all_ascii_digit.l0 k p0 v6 = some out → ∀ (o2 : Option Addr) (c3 : Nat) (w0 : World) (Q : Exit → Act → World → Prop) (rest : List It) (a : Act) (w : World), Kn 19 a [(1, .func (.func 40) #[] #[]), (8, .slice o2 p0.length c3), (9, I (p0.length : Int)), (10, I v6)] → Ows [] w0 w [.row 0 5 1 (.slice o2 p0.length c3) p0.length (p0.map bV)] → (∀ (s : Unit) (a : Act) (w : World), out = .inl s → Kn 19 a [] → Ows [] w0 w [] → G Tryd.prog Q rest a w) → (∀ (r : Bool) (a : Act) (w : World), out = .inr r → Kn 19 a [(4, .bool r)] → Ows [] w0 w [] → Q .ret a w) → G Tryd.prog Q (.code (C39 [1, 0, 1, 0, 0]) :: .inl (C39 [1, 0, 1, 0, 0]) :: .endb 0 :: rest) a w := by
  intro k
  induction k with
  | zero => intro p0 v6 out H; simp [ascii_all_ascii_digit.l0] at H
  | succ k ih =>
    intro p0 v6 out H o2 c3 w0 Q rest a w  hk ho J R
    simp only [ascii_all_ascii_digit.l0] at H
    refine st_seq (C39 [1, 0, 1, 0, 0, 0]) (C39 [1, 0, 1, 0, 0, 1]) (by kernel_rfl) ?_
    refine st_region 2 (opsOf (C39 [1, 0, 1, 0, 0, 0])) [0] (by kernel_rfl) (by kernel_rfl) ?_
    refine st_pure tabOK hk [0] [] [1, 8, 9, 10, 11] [(1, .func (.func 40) #[] #[]), (8, .slice o2 p0.length c3), (9, I (p0.length : Int)), (10, I v6), (11, .bool (decide (v6 < (p0.length : Int))))] (True) (by kernel_rfl) trivial ?_
    clear hk; intro a hk
    refine st_done ?_
    refine st_seq (C39 [1, 0, 1, 0, 0, 1, 0]) (C39 [1, 0, 1, 0, 0, 1, 1]) (by kernel_rfl) ?_
    refine st_cond hk (C39 [1, 0, 1, 0, 0, 1, 0, 0]) (C39 [1, 0, 1, 0, 0, 1, 0, 1]) (.tmp 11) (decide (v6 < (p0.length : Int))) (by kernel_rfl) (by kernel_rfl) (fun h7 => ?_) (fun h7 => ?_)
    ·
      have h8 : v6 < (p0.length : Int) := of_decide_eq_true h7
      rw [if_pos h8] at H
      refine st_skip (by kernel_rfl) ?_
      refine st_seq (C39 [1, 0, 1, 0, 0, 1, 1, 0]) (C39 [1, 0, 1, 0, 0, 1, 1, 1]) (by kernel_rfl) ?_
      refine st_block 1 (C39 [1, 0, 1, 0, 0, 1, 1, 0, 0]) (by kernel_rfl) ?_
      refine st_seq (C39 [1, 0, 1, 0, 0, 1, 1, 0, 0, 0]) (C39 [1, 0, 1, 0, 0, 1, 1, 0, 0, 1]) (by kernel_rfl) ?_
      refine st_region 3 (opsOf (C39 [1, 0, 1, 0, 0, 1, 1, 0, 0, 0])) [0, 1, 2] (by kernel_rfl) (by kernel_rfl) ?_
      have h9 : (0 : Int) ≤ v6 := by
        by_cases h9 : (0 : Int) ≤ v6
        · exact h9
        · rw [if_neg h9] at H; cases H
      rw [if_pos h9] at H
      refine st_pure tabOK hk [0] [1, 2] [1, 8, 9, 10, 12] [(1, .func (.func 40) #[] #[]), (8, .slice o2 p0.length c3), (9, I (p0.length : Int)), (10, I v6), (12, .pointer (o2.map (·.add (v6.toNat * 1))))] ((o2.isSome = true ∧ (0 : Int) ≤ v6 ∧ v6 < (p0.length : Int)) ∧ True) (by kernel_rfl) ⟨⟨(Rd.some1 (ho.rd 0 rfl) h9 h8), h9, h8⟩, trivial⟩ ?_
      clear hk; intro a hk
      refine st_load1 tabOK hk 5 (o2.map (·.add (v6.toNat * 1))) 13 (by kernel_rfl) (by kernel_rfl) (.int .u8 (bt p0 v6)) ((ho.rd 0 rfl).elemB h9 h8) ?_
      clear hk; intro a hk
      refine st_pure tabOK hk [2] [] [1, 6, 8, 9, 10] [(1, .func (.func 40) #[] #[]), (6, .int .u8 (bt p0 v6)), (8, .slice o2 p0.length c3), (9, I (p0.length : Int)), (10, I v6)] (True) (by kernel_rfl) trivial ?_
      clear hk; intro a hk
      refine st_done ?_
      refine st_seq (C39 [1, 0, 1, 0, 0, 1, 1, 0, 0, 1, 0]) (C39 [1, 0, 1, 0, 0, 1, 1, 0, 0, 1, 1]) (by kernel_rfl) ?_
      refine st_region 4 (opsOf (C39 [1, 0, 1, 0, 0, 1, 1, 0, 0, 1, 0])) [0, 1, 2, 3] (by kernel_rfl) (by kernel_rfl) ?_
      refine st_pure tabOK hk [0, 1] [2, 3] [1, 8, 9, 10, 14, 15] [(1, .func (.func 40) #[] #[]), (8, .slice o2 p0.length c3), (9, I (p0.length : Int)), (10, I v6), (14, .func (.func 40) #[] #[]), (15, .int .u8 (bt p0 v6))] (True) (by kernel_rfl) trivial ?_
      clear hk; intro a hk
      obtain ⟨t10, h11, H⟩ := Option.bind_eq_some_iff.1 H
      refine st_call hk 40 [.int .u8 (bt p0 v6)] (some 16) enters40 (by kernel_rfl) (ascii_digit.ok  (bt p0 v6) t10 h11 w ) ?_
      clear hk; rintro a u w ⟨rfl, ho'⟩ hk
      replace ho : Ows [] w0 w [.row 0 5 1 (.slice o2 p0.length c3) p0.length (p0.map bV)] := ho.call ho'; clear ho'
      refine st_pure tabOK hk [3] [] [1, 8, 9, 10, 17] [(1, .func (.func 40) #[] #[]), (8, .slice o2 p0.length c3), (9, I (p0.length : Int)), (10, I v6), (17, .bool (!t10))] (True) (by kernel_rfl) trivial ?_
      clear hk; intro a hk
      refine st_done ?_
      refine st_cond hk (C39 [1, 0, 1, 0, 0, 1, 1, 0, 0, 1, 1, 0]) (C39 [1, 0, 1, 0, 0, 1, 1, 0, 0, 1, 1, 1]) (.tmp 17) (!t10) (by kernel_rfl) (by kernel_rfl) (fun h12 => ?_) (fun h12 => ?_)
      ·
        have h13 : (!t10) = true := h12
        rw [if_pos h13] at H
        refine st_seq (C39 [1, 0, 1, 0, 0, 1, 1, 0, 0, 1, 1, 0, 0]) (C39 [1, 0, 1, 0, 0, 1, 1, 0, 0, 1, 1, 0, 1]) (by kernel_rfl) ?_
        refine st_region 5 (opsOf (C39 [1, 0, 1, 0, 0, 1, 1, 0, 0, 1, 1, 0, 0])) [0] (by kernel_rfl) (by kernel_rfl) ?_
        refine st_pure tabOK hk [0] [] [4] [(4, .bool false)] (True) (by kernel_rfl) trivial ?_
        clear hk; intro a hk
        refine st_done ?_
        refine st_ret (by kernel_rfl) ?_
        replace ho : Ows [] w0 w [] := ho.erase 0
        obtain rfl := Option.some.inj H
        exact R false  a w rfl (hk.to [4] _ (by kernel_rfl)) ho
      ·
        have h14 : ¬ ((!t10) = true) := ne_true_of_eq_false h12
        rw [if_neg h14] at H
        refine st_skip (by kernel_rfl) ?_
        refine st_endb 1 ?_
        refine st_region 6 (opsOf (C39 [1, 0, 1, 0, 0, 1, 1, 1])) [0, 1] (by kernel_rfl) (by kernel_rfl) ?_
        refine st_pure tabOK hk [0, 1] [] [1, 8, 9, 10] [(1, .func (.func 40) #[] #[]), (8, .slice o2 p0.length c3), (9, I (p0.length : Int)), (10, I (w64 (v6 + 1)))] (True) (by kernel_rfl) trivial ?_
        clear hk; intro a hk
        refine st_done ?_
        refine st_inl ?_
        exact ih p0 (w64 (v6 + 1)) out H o2 c3 w0 Q rest a w  (hk.to [1, 8, 9, 10] _ (by kernel_rfl)) ho J R
    ·
      have h15 : ¬ (v6 < (p0.length : Int)) := of_decide_eq_false h7
      rw [if_neg h15] at H
      refine st_exit 0 _ (by kernel_rfl) rfl ?_
      replace ho : Ows [] w0 w [] := ho.erase 0
      obtain rfl := Option.some.inj H
      exact J ()  a w rfl (hk.to [] _ (by kernel_rfl)) ho

theorem ascii_all_ascii_digit.ok (K : Nat) (p0 : Str) (r : Bool) (H : ascii_all_ascii_digit.f K p0 = some r) (w0 : World)  : Calls Tryd.prog 39 ⟨[S p0, .func (.func 40) #[] #[]]⟩ w0 fun e w => ∃ u, e = .returned u ∧ ascii_all_ascii_digit.post w0 r u w := by
  unfold ascii_all_ascii_digit.f at H
  refine st_start (N := 19) [S p0, .func (.func 40) #[] #[]] (C39 []) func39 (by kernel_rfl) (by kernel_rfl) (by kernel_rfl) ?_
  intro a w hk ho
  refine st_seq (C39 [0]) (C39 [1]) (by kernel_rfl) ?_
  refine st_region 0 (opsOf (C39 [0])) [0] (by kernel_rfl) (by kernel_rfl) ?_
  refine st_pure tabOK hk [0] [] [0, 1] [(0, S p0), (1, .func (.func 40) #[] #[])] (True) (by kernel_rfl) trivial ?_
  clear hk; intro a hk
  refine st_done ?_
  refine st_seq (C39 [1, 0]) (C39 [1, 1]) (by kernel_rfl) ?_
  refine st_seq (C39 [1, 0, 0]) (C39 [1, 0, 1]) (by kernel_rfl) ?_
  refine st_region 1 (opsOf (C39 [1, 0, 0])) [0, 1, 2, 3] (by kernel_rfl) (by kernel_rfl) ?_
  refine st_pure tabOK hk [0] [1, 2, 3] [1, 7] [(1, .func (.func 40) #[] #[]), (7, S p0)] (True) (by kernel_rfl) trivial ?_
  clear hk; intro a hk
  have h1 : p0.length ≤ 4294967296 := by
    by_cases h1 : p0.length ≤ 4294967296
    · exact h1
    · rw [if_neg h1] at H; cases H
  rw [if_pos h1] at H
  refine st_bytes tabOK hk ho 9 30 5 8 p0 (by kernel_rfl) (by kernel_rfl) (by kernel_rfl) (by kernel_rfl) h1 ?_
  clear hk ho; intro a o2 c3 w h4 hk ho
  refine st_pure tabOK hk [2, 3] [] [1, 8, 9, 10] [(1, .func (.func 40) #[] #[]), (8, .slice o2 p0.length c3), (9, I (p0.length : Int)), (10, I 0)] (True) (by kernel_rfl) trivial ?_
  clear hk; intro a hk
  refine st_done ?_
  refine st_block 0 (C39 [1, 0, 1, 0]) (by kernel_rfl) ?_
  obtain ⟨m16, h17, H⟩ := Option.bind_eq_some_iff.1 H
  refine st_loop (C39 [1, 0, 1, 0, 0]) (by kernel_rfl) ?_
  refine ascii_all_ascii_digit.l0_ok K p0 0 m16 h17 o2 c3 w0 _ _ a w  (hk.to [1, 8, 9, 10] _ (by kernel_rfl)) ho ?_ ?_
  · intro s18  a w e hk ho; subst e
    simp only [] at H
    refine st_seq (C39 [1, 1, 0]) (C39 [1, 1, 1]) (by kernel_rfl) ?_
    refine st_region 7 (opsOf (C39 [1, 1, 0])) [0] (by kernel_rfl) (by kernel_rfl) ?_
    refine st_pure tabOK hk [0] [] [4] [(4, .bool true)] (True) (by kernel_rfl) trivial ?_
    clear hk; intro a hk
    refine st_done ?_
    refine st_retG hk (by kernel_rfl) [.bool true] #[.tmp 4] (by kernel_rfl) ⟨resT hk (by kernel_rfl), trivial⟩ ?_
    obtain rfl := Option.some.inj H
    exact ⟨_, rfl, rfl, ho⟩
  · intro r19  a w e hk ho; subst e
    simp only [] at H
    refine retG hk [.bool r19] #[.tmp 4] (by kernel_rfl) ⟨resT hk (by kernel_rfl), trivial⟩ ?_
    obtain rfl := Option.some.inj H
    exact ⟨_, rfl, rfl, ho⟩


/-! scullery/ascii.Digits: function 18 -/
noncomputable def C18 (p : List Nat) : Code := Sub (bodyOf f18) p
def ascii_Digits.l0 : Nat → Str → Int → Int → Option (Int)
  | 0, _, _, _ => none
  | k + 1, p0, v15, v16 => (if v16 < (p0.length : Int) then (if (0 : Int) ≤ v16 then ascii_Digits.l0 k p0 (mnI (w64 ((w64 ((10 : Int) * v15)) + (w64 (w8 ((bt p0 v16) - 48))))) 2147483648) (w64 (v16 + 1)) else none) else some v15)
def ascii_Digits.f (K : Nat) (p0 : Str) : Option (Int × Bool) := ((((if (p0 == ([])) = true then some true else ((ascii_all_ascii_digit.f K p0).bind fun t5 => some (!t5)))).bind fun m1 => (if m1 = true then some (0, false) else (if p0.length ≤ 4294967296 then ((ascii_Digits.l0 K p0 0 0).bind fun s23 => some (s23, true)) else none))))
abbrev ascii_Digits.post (w0 : World) (r : Int × Bool) (u : Value) (w : World) : Prop := u = .tuple #[I r.1, .bool r.2] ∧ Ows [] w0 w []
theorem ascii_Digits.l0_ok : ∀ (k : Nat) (p0 : Str) (v15 : Int) (v16 : Int) (out : Int), ascii_Digits.l0 k p0 v15 v16 = some out → ∀ (o11 : Option Addr) (c12 : Nat) (w0 : World) (Q : Exit → Act → World → Prop) (rest : List It) (a : Act) (w : World), Kn 30 a [(4, I v15), (15, .slice o11 p0.length c12), (16, I (p0.length : Int)), (17, I v16)] → Ows [] w0 w [.row 0 5 1 (.slice o11 p0.length c12) p0.length (p0.map bV)] → (∀ (s : Int) (a : Act) (w : World), out = s → Kn 30 a [(4, I s)] → Ows [] w0 w [] → G Tryd.prog Q rest a w) → G Tryd.prog Q (.code (C18 [1, 1, 1, 0, 1, 0, 0]) :: .inl (C18 [1, 1, 1, 0, 1, 0, 0]) :: .endb 0 :: rest) a w := by
  intro k
  induction k with
  | zero => intro p0 v15 v16 out H; simp [ascii_Digits.l0] at H
  | succ k ih =>
    intro p0 v15 v16 out H o11 c12 w0 Q rest a w  hk ho J
    simp only [ascii_Digits.l0] at H
    refine st_seq (C18 [1, 1, 1, 0, 1, 0, 0, 0]) (C18 [1, 1, 1, 0, 1, 0, 0, 1]) (by kernel_rfl) ?_
    refine st_region 5 (opsOf (C18 [1, 1, 1, 0, 1, 0, 0, 0])) [0] (by kernel_rfl) (by kernel_rfl) ?_
    refine st_pure tabOK hk [0] [] [4, 15, 16, 17, 18] [(4, I v15), (15, .slice o11 p0.length c12), (16, I (p0.length : Int)), (17, I v16), (18, .bool (decide (v16 < (p0.length : Int))))] (True) (by kernel_rfl) trivial ?_
    clear hk; intro a hk
    refine st_done ?_
    refine st_seq (C18 [1, 1, 1, 0, 1, 0, 0, 1, 0]) (C18 [1, 1, 1, 0, 1, 0, 0, 1, 1]) (by kernel_rfl) ?_
    refine st_cond hk (C18 [1, 1, 1, 0, 1, 0, 0, 1, 0, 0]) (C18 [1, 1, 1, 0, 1, 0, 0, 1, 0, 1]) (.tmp 18) (decide (v16 < (p0.length : Int))) (by kernel_rfl) (by kernel_rfl) (fun h17 => ?_) (fun h17 => ?_)
    ·
      have h18 : v16 < (p0.length : Int) := of_decide_eq_true h17
      rw [if_pos h18] at H
      refine st_skip (by kernel_rfl) ?_
      refine st_seq (C18 [1, 1, 1, 0, 1, 0, 0, 1, 1, 0]) (C18 [1, 1, 1, 0, 1, 0, 0, 1, 1, 1]) (by kernel_rfl) ?_
      refine st_block 1 (C18 [1, 1, 1, 0, 1, 0, 0, 1, 1, 0, 0]) (by kernel_rfl) ?_
      refine st_seq (C18 [1, 1, 1, 0, 1, 0, 0, 1, 1, 0, 0, 0]) (C18 [1, 1, 1, 0, 1, 0, 0, 1, 1, 0, 0, 1]) (by kernel_rfl) ?_
      refine st_region 6 (opsOf (C18 [1, 1, 1, 0, 1, 0, 0, 1, 1, 0, 0, 0])) [0, 1, 2] (by kernel_rfl) (by kernel_rfl) ?_
      have h19 : (0 : Int) ≤ v16 := by
        by_cases h19 : (0 : Int) ≤ v16
        · exact h19
        · rw [if_neg h19] at H; cases H
      rw [if_pos h19] at H
      refine st_pure tabOK hk [0] [1, 2] [4, 15, 16, 17, 19] [(4, I v15), (15, .slice o11 p0.length c12), (16, I (p0.length : Int)), (17, I v16), (19, .pointer (o11.map (·.add (v16.toNat * 1))))] ((o11.isSome = true ∧ (0 : Int) ≤ v16 ∧ v16 < (p0.length : Int)) ∧ True) (by kernel_rfl) ⟨⟨(Rd.some1 (ho.rd 0 rfl) h19 h18), h19, h18⟩, trivial⟩ ?_
      clear hk; intro a hk
      refine st_load1 tabOK hk 5 (o11.map (·.add (v16.toNat * 1))) 20 (by kernel_rfl) (by kernel_rfl) (.int .u8 (bt p0 v16)) ((ho.rd 0 rfl).elemB h19 h18) ?_
      clear hk; intro a hk
      refine st_pure tabOK hk [2] [] [4, 6, 15, 16, 17] [(4, I v15), (6, .int .u8 (bt p0 v16)), (15, .slice o11 p0.length c12), (16, I (p0.length : Int)), (17, I v16)] (True) (by kernel_rfl) trivial ?_
      clear hk; intro a hk
      refine st_done ?_
      refine st_region 7 (opsOf (C18 [1, 1, 1, 0, 1, 0, 0, 1, 1, 0, 0, 1])) [0, 1, 2, 3, 4, 5, 6, 7] (by kernel_rfl) (by kernel_rfl) ?_
      refine st_pure tabOK hk [0, 1, 2, 3, 4, 5, 6, 7] [] [4, 15, 16, 17] [(4, I (mnI (w64 ((w64 ((10 : Int) * v15)) + (w64 (w8 ((bt p0 v16) - 48))))) 2147483648)), (15, .slice o11 p0.length c12), (16, I (p0.length : Int)), (17, I v16)] (True) (by kernel_rfl) trivial ?_
      clear hk; intro a hk
      refine st_done ?_
      refine st_endb 1 ?_
      refine st_region 8 (opsOf (C18 [1, 1, 1, 0, 1, 0, 0, 1, 1, 1])) [0, 1] (by kernel_rfl) (by kernel_rfl) ?_
      refine st_pure tabOK hk [0, 1] [] [4, 15, 16, 17] [(4, I (mnI (w64 ((w64 ((10 : Int) * v15)) + (w64 (w8 ((bt p0 v16) - 48))))) 2147483648)), (15, .slice o11 p0.length c12), (16, I (p0.length : Int)), (17, I (w64 (v16 + 1)))] (True) (by kernel_rfl) trivial ?_
      clear hk; intro a hk
      refine st_done ?_
      refine st_inl ?_
      exact ih p0 (mnI (w64 ((w64 ((10 : Int) * v15)) + (w64 (w8 ((bt p0 v16) - 48))))) 2147483648) (w64 (v16 + 1)) out H o11 c12 w0 Q rest a w  (hk.to [4, 15, 16, 17] _ (by kernel_rfl)) ho J
    ·
      have h20 : ¬ (v16 < (p0.length : Int)) := of_decide_eq_false h17
      rw [if_neg h20] at H
      refine st_exit 0 _ (by kernel_rfl) rfl ?_
      replace ho : Ows [] w0 w [] := ho.erase 0
      obtain rfl := Option.some.inj H
      exact J v15  a w rfl (hk.to [4] _ (by kernel_rfl)) ho

theorem ascii_Digits.ok (K : Nat) (p0 : Str) (r : Int × Bool) (H : ascii_Digits.f K p0 = some r) (w0 : World)  : Calls Tryd.prog 18 ⟨[S p0]⟩ w0 fun e w => ∃ u, e = .returned u ∧ ascii_Digits.post w0 r u w := by
  unfold ascii_Digits.f at H
  refine st_start (N := 30) [S p0] (C18 []) func18 (by kernel_rfl) (by kernel_rfl) (by kernel_rfl) ?_
  intro a w hk ho
  refine st_seq (C18 [0]) (C18 [1]) (by kernel_rfl) ?_
  refine st_region 0 (opsOf (C18 [0])) [0, 1] (by kernel_rfl) (by kernel_rfl) ?_
  refine st_pure tabOK hk [0, 1] [] [0] [(0, S p0)] (True) (by kernel_rfl) trivial ?_
  clear hk; intro a hk
  refine st_done ?_
  refine st_seq (C18 [1, 0]) (C18 [1, 1]) (by kernel_rfl) ?_
  refine st_seq (C18 [1, 0, 0]) (C18 [1, 0, 1]) (by kernel_rfl) ?_
  refine st_region 1 (opsOf (C18 [1, 0, 0])) [0, 1, 2, 3, 4, 5, 6] (by kernel_rfl) (by kernel_rfl) ?_
  refine st_pure tabOK hk [0, 1, 2] [3, 4, 5, 6] [0, 9] [(0, S p0), (9, .bool (p0 == ([])))] (True) (by kernel_rfl) trivial ?_
  clear hk; intro a hk
  obtain ⟨m1, HX, H⟩ := Option.bind_eq_some_iff.1 H
  refine cut_ops (fun a w => Kn 30 a [(0, S p0), (13, .bool m1)] ∧ Ows [] w0 w []) ?_ ?_
  · intro J; clear H; have H := HX; clear HX
    rcases Bool.eq_false_or_eq_true (p0 == ([])) with h2 | h2
    ·
      rw [h2] at hk
      have h3 : (p0 == ([])) = true := h2
      rw [if_pos h3] at H
      refine st_pure tabOK hk [3, 4, 5, 6] [] [0, 13] [(0, S p0), (13, .bool true)] (True) (by kernel_rfl) trivial ?_
      clear hk; intro a hk
      refine st_done ?_
      obtain rfl := Option.some.inj H
      exact J a w ⟨hk.to [0, 13] _ (by kernel_rfl), ho⟩
    ·
      rw [h2] at hk
      have h4 : ¬ ((p0 == ([])) = true) := ne_true_of_eq_false h2
      rw [if_neg h4] at H
      refine st_pure tabOK hk [3] [4, 5, 6] [0, 9, 10] [(0, S p0), (9, .bool false), (10, S p0)] (True) (by kernel_rfl) trivial ?_
      clear hk; intro a hk
      obtain ⟨t5, h6, H⟩ := Option.bind_eq_some_iff.1 H
      refine st_call hk 39 [S p0, .func (.func 40) #[] #[]] (some 11) enters39 (by kernel_rfl) (ascii_all_ascii_digit.ok K  p0 t5 h6 w ) ?_
      clear hk; rintro a u w ⟨rfl, ho'⟩ hk
      replace ho : Ows [] w0 w [] := ho.call ho'; clear ho'
      refine st_pure tabOK hk [5, 6] [] [0, 13] [(0, S p0), (13, .bool (!t5))] (True) (by kernel_rfl) trivial ?_
      clear hk; intro a hk
      refine st_done ?_
      obtain rfl := Option.some.inj H
      exact J a w ⟨hk.to [0, 13] _ (by kernel_rfl), ho⟩
  · clear HX; rintro a w ⟨hk, ho⟩
    refine st_cond hk (C18 [1, 0, 1, 0]) (C18 [1, 0, 1, 1]) (.tmp 13) (m1) (by kernel_rfl) (by kernel_rfl) (fun h7 => ?_) (fun h7 => ?_)
    ·
      have h8 : m1 = true := h7
      rw [if_pos h8] at H
      refine st_seq (C18 [1, 0, 1, 0, 0]) (C18 [1, 0, 1, 0, 1]) (by kernel_rfl) ?_
      refine st_region 2 (opsOf (C18 [1, 0, 1, 0, 0])) [0, 1] (by kernel_rfl) (by kernel_rfl) ?_
      refine st_pure tabOK hk [0, 1] [] [2, 3] [(2, I 0), (3, .bool false)] (True) (by kernel_rfl) trivial ?_
      clear hk; intro a hk
      refine st_done ?_
      refine st_retG hk (by kernel_rfl) [I 0, .bool false] #[.tmp 2, .tmp 3] (by kernel_rfl) ⟨resT hk (by kernel_rfl), resT hk (by kernel_rfl), trivial⟩ ?_
      obtain rfl := Option.some.inj H
      exact ⟨_, rfl, rfl, ho⟩
    ·
      have h9 : ¬ (m1 = true) := ne_true_of_eq_false h7
      rw [if_neg h9] at H
      refine st_skip (by kernel_rfl) ?_
      refine st_seq (C18 [1, 1, 0]) (C18 [1, 1, 1]) (by kernel_rfl) ?_
      refine st_region 3 (opsOf (C18 [1, 1, 0])) [0] (by kernel_rfl) (by kernel_rfl) ?_
      refine st_pure tabOK hk [0] [] [0, 4] [(0, S p0), (4, I 0)] (True) (by kernel_rfl) trivial ?_
      clear hk; intro a hk
      refine st_done ?_
      refine st_seq (C18 [1, 1, 1, 0]) (C18 [1, 1, 1, 1]) (by kernel_rfl) ?_
      refine st_seq (C18 [1, 1, 1, 0, 0]) (C18 [1, 1, 1, 0, 1]) (by kernel_rfl) ?_
      refine st_region 4 (opsOf (C18 [1, 1, 1, 0, 0])) [0, 1, 2, 3] (by kernel_rfl) (by kernel_rfl) ?_
      refine st_pure tabOK hk [0] [1, 2, 3] [4, 14] [(4, I 0), (14, S p0)] (True) (by kernel_rfl) trivial ?_
      clear hk; intro a hk
      have h10 : p0.length ≤ 4294967296 := by
        by_cases h10 : p0.length ≤ 4294967296
        · exact h10
        · rw [if_neg h10] at H; cases H
      rw [if_pos h10] at H
      refine st_bytes tabOK hk ho 9 30 5 15 p0 (by kernel_rfl) (by kernel_rfl) (by kernel_rfl) (by kernel_rfl) h10 ?_
      clear hk ho; intro a o11 c12 w h13 hk ho
      refine st_pure tabOK hk [2, 3] [] [4, 15, 16, 17] [(4, I 0), (15, .slice o11 p0.length c12), (16, I (p0.length : Int)), (17, I 0)] (True) (by kernel_rfl) trivial ?_
      clear hk; intro a hk
      refine st_done ?_
      refine st_block 0 (C18 [1, 1, 1, 0, 1, 0]) (by kernel_rfl) ?_
      obtain ⟨m21, h22, H⟩ := Option.bind_eq_some_iff.1 H
      refine st_loop (C18 [1, 1, 1, 0, 1, 0, 0]) (by kernel_rfl) ?_
      refine ascii_Digits.l0_ok K p0 0 0 m21 h22 o11 c12 w0 _ _ a w  (hk.to [4, 15, 16, 17] _ (by kernel_rfl)) ho ?_
      · intro s23  a w e hk ho; have e := e.symm; subst e
        refine st_seq (C18 [1, 1, 1, 1, 0]) (C18 [1, 1, 1, 1, 1]) (by kernel_rfl) ?_
        refine st_region 9 (opsOf (C18 [1, 1, 1, 1, 0])) [0, 1, 2] (by kernel_rfl) (by kernel_rfl) ?_
        refine st_pure tabOK hk [0, 1, 2] [] [2, 3] [(2, I s23), (3, .bool true)] (True) (by kernel_rfl) trivial ?_
        clear hk; intro a hk
        refine st_done ?_
        refine st_retG hk (by kernel_rfl) [I s23, .bool true] #[.tmp 2, .tmp 3] (by kernel_rfl) ⟨resT hk (by kernel_rfl), resT hk (by kernel_rfl), trivial⟩ ?_
        obtain rfl := Option.some.inj H
        exact ⟨_, rfl, rfl, ho⟩


/-! scullery/target.alnum: function 21 -/
noncomputable def C21 (p : List Nat) : Code := Sub (bodyOf f21) p
def target_alnum.f (p0 : Int) : Option (Bool) := some (bif decide (bitI .or .u8 p0 32 ≥ 97) then ((decide (bitI .or .u8 p0 32 ≤ 122)) || ((decide (p0 ≥ 48)) && (decide (p0 ≤ 57)))) else ((decide (p0 ≥ 48)) && (decide (p0 ≤ 57))))
abbrev target_alnum.post (w0 : World) (r : Bool) (u : Value) (w : World) : Prop := u = .bool r ∧ Ows [] w0 w []
theorem target_alnum.ok (p0 : Int) (r : Bool) (H : target_alnum.f p0 = some r) (w0 : World)  : Calls Tryd.prog 21 ⟨[.int .u8 p0]⟩ w0 fun e w => ∃ u, e = .returned u ∧ target_alnum.post w0 r u w := by
  unfold target_alnum.f at H
  refine st_start (N := 19) [.int .u8 p0] (C21 []) func21 (by kernel_rfl) (by kernel_rfl) (by kernel_rfl) ?_
  intro a w hk ho
  refine st_seq (C21 [0]) (C21 [1]) (by kernel_rfl) ?_
  refine st_region 0 (opsOf (C21 [0])) [0] (by kernel_rfl) (by kernel_rfl) ?_
  refine st_pure tabOK hk [0] [] [0] [(0, .int .u8 p0)] (True) (by kernel_rfl) trivial ?_
  clear hk; intro a hk
  refine st_done ?_
  refine st_seq (C21 [1, 0]) (C21 [1, 1]) (by kernel_rfl) ?_
  refine st_region 1 (opsOf (C21 [1, 0])) [0, 1, 2, 3, 4, 5, 6, 7, 8, 9, 10, 11, 12, 13, 14, 15, 16] (by kernel_rfl) (by kernel_rfl) ?_
  refine st_pure tabOK hk [0, 1, 2, 3] [4, 5, 6, 7, 8, 9, 10, 11, 12, 13, 14, 15, 16] [0, 6] [(0, .int .u8 p0), (6, .bool (decide (bitI .or .u8 p0 32 ≥ 97)))] (True) (by kernel_rfl) trivial ?_
  clear hk; intro a hk
  refine cut_ops (fun a w => Kn 19 a [(2, .bool (bif decide (bitI .or .u8 p0 32 ≥ 97) then ((decide (bitI .or .u8 p0 32 ≤ 122)) || ((decide (p0 ≥ 48)) && (decide (p0 ≤ 57)))) else ((decide (p0 ≥ 48)) && (decide (p0 ≤ 57)))))] ∧ Ows [] w0 w []) ?_ ?_
  · intro J
    rcases Bool.eq_false_or_eq_true (decide (bitI .or .u8 p0 32 ≥ 97)) with h1 | h1
    ·
      rw [h1] at hk
      have h2 : bitI .or .u8 p0 32 ≥ 97 := of_decide_eq_true h1
      refine st_pure tabOK hk [4, 5, 6, 7, 8] [9, 10, 11, 12, 13, 14, 15, 16] [0, 11] [(0, .int .u8 p0), (11, .bool (decide (bitI .or .u8 p0 32 ≤ 122)))] (True) (by kernel_rfl) trivial ?_
      clear hk; intro a hk
      rcases Bool.eq_false_or_eq_true (decide (bitI .or .u8 p0 32 ≤ 122)) with h3 | h3
      ·
        rw [h3] at hk
        have h4 : bitI .or .u8 p0 32 ≤ 122 := of_decide_eq_true h3
        refine st_pure tabOK hk [9, 10, 11, 12, 13, 14, 15, 16] [] [2] [(2, .bool true)] (True) (by kernel_rfl) trivial ?_
        clear hk; intro a hk
        refine st_done ?_
        have e : (bif decide (bitI .or .u8 p0 32 ≥ 97) then ((decide (bitI .or .u8 p0 32 ≤ 122)) || ((decide (p0 ≥ 48)) && (decide (p0 ≤ 57)))) else ((decide (p0 ≥ 48)) && (decide (p0 ≤ 57)))) = true := by first | (simp only [h1, h3]; done) | (simp only [h1, h3]; rfl) | rfl | simp [h1, h3]
        exact J a w ⟨by rw [e]; exact hk.to [2] _ (by kernel_rfl), ho⟩
      ·
        rw [h3] at hk
        have h5 : ¬ (bitI .or .u8 p0 32 ≤ 122) := of_decide_eq_false h3
        refine st_pure tabOK hk [9, 10, 11] [12, 13, 14, 15, 16] [0, 11, 14] [(0, .int .u8 p0), (11, .bool false), (14, .bool (decide (p0 ≥ 48)))] (True) (by kernel_rfl) trivial ?_
        clear hk; intro a hk
        rcases Bool.eq_false_or_eq_true (decide (p0 ≥ 48)) with h6 | h6
        ·
          rw [h6] at hk
          have h7 : p0 ≥ 48 := of_decide_eq_true h6
          refine st_pure tabOK hk [12, 13, 14, 15, 16] [] [2] [(2, .bool (decide (p0 ≤ 57)))] (True) (by kernel_rfl) trivial ?_
          clear hk; intro a hk
          refine st_done ?_
          have e : (bif decide (bitI .or .u8 p0 32 ≥ 97) then ((decide (bitI .or .u8 p0 32 ≤ 122)) || ((decide (p0 ≥ 48)) && (decide (p0 ≤ 57)))) else ((decide (p0 ≥ 48)) && (decide (p0 ≤ 57)))) = (decide (p0 ≤ 57)) := by first | (simp only [h1, h3, h6]; done) | (simp only [h1, h3, h6]; rfl) | rfl | simp [h1, h3, h6]
          exact J a w ⟨by rw [e]; exact hk.to [2] _ (by kernel_rfl), ho⟩
        ·
          rw [h6] at hk
          have h8 : ¬ (p0 ≥ 48) := of_decide_eq_false h6
          refine st_pure tabOK hk [12, 13, 14, 15, 16] [] [2] [(2, .bool false)] (True) (by kernel_rfl) trivial ?_
          clear hk; intro a hk
          refine st_done ?_
          have e : (bif decide (bitI .or .u8 p0 32 ≥ 97) then ((decide (bitI .or .u8 p0 32 ≤ 122)) || ((decide (p0 ≥ 48)) && (decide (p0 ≤ 57)))) else ((decide (p0 ≥ 48)) && (decide (p0 ≤ 57)))) = false := by first | (simp only [h1, h3, h6]; done) | (simp only [h1, h3, h6]; rfl) | rfl | simp [h1, h3, h6]
          exact J a w ⟨by rw [e]; exact hk.to [2] _ (by kernel_rfl), ho⟩
    ·
      rw [h1] at hk
      have h9 : ¬ (bitI .or .u8 p0 32 ≥ 97) := of_decide_eq_false h1
      refine st_pure tabOK hk [4, 5, 6, 7, 8, 9, 10, 11] [12, 13, 14, 15, 16] [0, 11, 14] [(0, .int .u8 p0), (11, .bool false), (14, .bool (decide (p0 ≥ 48)))] (True) (by kernel_rfl) trivial ?_
      clear hk; intro a hk
      rcases Bool.eq_false_or_eq_true (decide (p0 ≥ 48)) with h10 | h10
      ·
        rw [h10] at hk
        have h11 : p0 ≥ 48 := of_decide_eq_true h10
        refine st_pure tabOK hk [12, 13, 14, 15, 16] [] [2] [(2, .bool (decide (p0 ≤ 57)))] (True) (by kernel_rfl) trivial ?_
        clear hk; intro a hk
        refine st_done ?_
        have e : (bif decide (bitI .or .u8 p0 32 ≥ 97) then ((decide (bitI .or .u8 p0 32 ≤ 122)) || ((decide (p0 ≥ 48)) && (decide (p0 ≤ 57)))) else ((decide (p0 ≥ 48)) && (decide (p0 ≤ 57)))) = (decide (p0 ≤ 57)) := by first | (simp only [h1, h10]; done) | (simp only [h1, h10]; rfl) | rfl | simp [h1, h10]
        exact J a w ⟨by rw [e]; exact hk.to [2] _ (by kernel_rfl), ho⟩
      ·
        rw [h10] at hk
        have h12 : ¬ (p0 ≥ 48) := of_decide_eq_false h10
        refine st_pure tabOK hk [12, 13, 14, 15, 16] [] [2] [(2, .bool false)] (True) (by kernel_rfl) trivial ?_
        clear hk; intro a hk
        refine st_done ?_
        have e : (bif decide (bitI .or .u8 p0 32 ≥ 97) then ((decide (bitI .or .u8 p0 32 ≤ 122)) || ((decide (p0 ≥ 48)) && (decide (p0 ≤ 57)))) else ((decide (p0 ≥ 48)) && (decide (p0 ≤ 57)))) = false := by first | (simp only [h1, h10]; done) | (simp only [h1, h10]; rfl) | rfl | simp [h1, h10]
        exact J a w ⟨by rw [e]; exact hk.to [2] _ (by kernel_rfl), ho⟩
  · rintro a w ⟨hk, ho⟩
    refine st_retG hk (by kernel_rfl) [.bool (bif decide (bitI .or .u8 p0 32 ≥ 97) then ((decide (bitI .or .u8 p0 32 ≤ 122)) || ((decide (p0 ≥ 48)) && (decide (p0 ≤ 57)))) else ((decide (p0 ≥ 48)) && (decide (p0 ≤ 57))))] #[.tmp 2] (by kernel_rfl) ⟨resT hk (by kernel_rfl), trivial⟩ ?_
    obtain rfl := Option.some.inj H
    exact ⟨_, rfl, rfl, ho⟩


/-! strings.IndexByte: function 28 -/
noncomputable def C28 (p : List Nat) : Code := Sub (bodyOf f28) p
def strings_IndexByte.f (p0 : Str) (p1 : Int) : Option (Int) := (((stringslite_IndexByte.f p0 p1).bind fun t1 => some t1))
abbrev strings_IndexByte.post (w0 : World) (r : Int) (u : Value) (w : World) : Prop := u = I r ∧ Ows [] w0 w []
theorem strings_IndexByte.ok (p0 : Str) (p1 : Int) (r : Int) (H : strings_IndexByte.f p0 p1 = some r) (w0 : World)  : Calls Tryd.prog 28 ⟨[S p0, .int .u8 p1]⟩ w0 fun e w => ∃ u, e = .returned u ∧ strings_IndexByte.post w0 r u w := by
  unfold strings_IndexByte.f at H
  refine st_start (N := 8) [S p0, .int .u8 p1] (C28 []) func28 (by kernel_rfl) (by kernel_rfl) (by kernel_rfl) ?_
  intro a w hk ho
  refine st_seq (C28 [0]) (C28 [1]) (by kernel_rfl) ?_
  refine st_region 0 (opsOf (C28 [0])) [0] (by kernel_rfl) (by kernel_rfl) ?_
  refine st_pure tabOK hk [0] [] [0, 1] [(0, S p0), (1, .int .u8 p1)] (True) (by kernel_rfl) trivial ?_
  clear hk; intro a hk
  refine st_done ?_
  refine st_seq (C28 [1, 0]) (C28 [1, 1]) (by kernel_rfl) ?_
  refine st_region 1 (opsOf (C28 [1, 0])) [0, 1, 2, 3] (by kernel_rfl) (by kernel_rfl) ?_
  refine st_pure tabOK hk [0, 1] [2, 3] [5, 6] [(5, S p0), (6, .int .u8 p1)] (True) (by kernel_rfl) trivial ?_
  clear hk; intro a hk
  obtain ⟨t1, h2, H⟩ := Option.bind_eq_some_iff.1 H
  refine st_call hk 45 [S p0, .int .u8 p1] (some 7) enters45 (by kernel_rfl) (stringslite_IndexByte.ok  p0 p1 t1 h2 w ) ?_
  clear hk; rintro a u w ⟨rfl, ho'⟩ hk
  replace ho : Ows [] w0 w [] := ho.call ho'; clear ho'
  refine st_pure tabOK hk [3] [] [4] [(4, I t1)] (True) (by kernel_rfl) trivial ?_
  clear hk; intro a hk
  refine st_done ?_
  refine st_retG hk (by kernel_rfl) [I t1] #[.tmp 4] (by kernel_rfl) ⟨resT hk (by kernel_rfl), trivial⟩ ?_
  obtain rfl := Option.some.inj H
  exact ⟨_, rfl, rfl, ho⟩


/-! unicode/utf8.ValidRune: function 53 -/
noncomputable def C53 (p : List Nat) : Code := Sub (bodyOf f53) p
def utf8_ValidRune.f (p0 : Int) : Option (Bool) := (if ((decide (0 ≤ p0)) && (decide (p0 < 55296))) = true then some true else (if ((decide (57343 < p0)) && (decide (p0 ≤ 1114111))) = true then some true else some false))
abbrev utf8_ValidRune.post (w0 : World) (r : Bool) (u : Value) (w : World) : Prop := u = .bool r ∧ Ows [] w0 w []
theorem utf8_ValidRune.ok (p0 : Int) (r : Bool) (H : utf8_ValidRune.f p0 = some r) (w0 : World)  : Calls Tryd.prog 53 ⟨[.int .i32 p0]⟩ w0 fun e w => ∃ u, e = .returned u ∧ utf8_ValidRune.post w0 r u w := by
  unfold utf8_ValidRune.f at H
  refine st_start (N := 17) [.int .i32 p0] (C53 []) func53 (by kernel_rfl) (by kernel_rfl) (by kernel_rfl) ?_
  intro a w hk ho
  refine st_seq (C53 [0]) (C53 [1]) (by kernel_rfl) ?_
  refine st_region 0 (opsOf (C53 [0])) [0] (by kernel_rfl) (by kernel_rfl) ?_
  refine st_pure tabOK hk [0] [] [0] [(0, .int .i32 p0)] (True) (by kernel_rfl) trivial ?_
  clear hk; intro a hk
  refine st_done ?_
  refine st_seq (C53 [1, 0]) (C53 [1, 1]) (by kernel_rfl) ?_
  refine st_block 0 (C53 [1, 0, 0]) (by kernel_rfl) ?_
  refine st_seq (C53 [1, 0, 0, 0]) (C53 [1, 0, 0, 1]) (by kernel_rfl) ?_
  refine st_region 1 (opsOf (C53 [1, 0, 0, 0])) [0, 1, 2, 3, 4, 5, 6] (by kernel_rfl) (by kernel_rfl) ?_
  refine st_pure tabOK hk [0, 1, 2] [3, 4, 5, 6] [0, 6] [(0, .int .i32 p0), (6, .bool (decide (0 ≤ p0)))] (True) (by kernel_rfl) trivial ?_
  clear hk; intro a hk
  refine cut_ops (fun a w => Kn 17 a [(0, .int .i32 p0), (3, .bool ((decide (0 ≤ p0)) && (decide (p0 < 55296))))] ∧ Ows [] w0 w []) ?_ ?_
  · intro J
    rcases Bool.eq_false_or_eq_true (decide (0 ≤ p0)) with h1 | h1
    ·
      rw [h1] at hk
      have h2 : 0 ≤ p0 := of_decide_eq_true h1
      refine st_pure tabOK hk [3, 4, 5, 6] [] [0, 3] [(0, .int .i32 p0), (3, .bool (decide (p0 < 55296)))] (True) (by kernel_rfl) trivial ?_
      clear hk; intro a hk
      refine st_done ?_
      have e : ((decide (0 ≤ p0)) && (decide (p0 < 55296))) = (decide (p0 < 55296)) := by first | (simp only [h1]; done) | (simp only [h1]; rfl) | rfl | simp [h1]
      exact J a w ⟨by rw [e]; exact hk.to [0, 3] _ (by kernel_rfl), ho⟩
    ·
      rw [h1] at hk
      have h3 : ¬ (0 ≤ p0) := of_decide_eq_false h1
      refine st_pure tabOK hk [3, 4, 5, 6] [] [0, 3] [(0, .int .i32 p0), (3, .bool false)] (True) (by kernel_rfl) trivial ?_
      clear hk; intro a hk
      refine st_done ?_
      have e : ((decide (0 ≤ p0)) && (decide (p0 < 55296))) = false := by first | (simp only [h1]; done) | (simp only [h1]; rfl) | rfl | simp [h1]
      exact J a w ⟨by rw [e]; exact hk.to [0, 3] _ (by kernel_rfl), ho⟩
  · rintro a w ⟨hk, ho⟩
    refine st_cond hk (C53 [1, 0, 0, 1, 0]) (C53 [1, 0, 0, 1, 1]) (.tmp 3) (((decide (0 ≤ p0)) && (decide (p0 < 55296)))) (by kernel_rfl) (by kernel_rfl) (fun h4 => ?_) (fun h4 => ?_)
    ·
      have h5 : ((decide (0 ≤ p0)) && (decide (p0 < 55296))) = true := h4
      rw [if_pos h5] at H
      refine st_seq (C53 [1, 0, 0, 1, 0, 0]) (C53 [1, 0, 0, 1, 0, 1]) (by kernel_rfl) ?_
      refine st_region 2 (opsOf (C53 [1, 0, 0, 1, 0, 0])) [0] (by kernel_rfl) (by kernel_rfl) ?_
      refine st_pure tabOK hk [0] [] [2] [(2, .bool true)] (True) (by kernel_rfl) trivial ?_
      clear hk; intro a hk
      refine st_done ?_
      refine st_retG hk (by kernel_rfl) [.bool true] #[.tmp 2] (by kernel_rfl) ⟨resT hk (by kernel_rfl), trivial⟩ ?_
      obtain rfl := Option.some.inj H
      exact ⟨_, rfl, rfl, ho⟩
    ·
      have h6 : ¬ (((decide (0 ≤ p0)) && (decide (p0 < 55296))) = true) := ne_true_of_eq_false h4
      rw [if_neg h6] at H
      refine st_seq (C53 [1, 0, 0, 1, 1, 0]) (C53 [1, 0, 0, 1, 1, 1]) (by kernel_rfl) ?_
      refine st_region 3 (opsOf (C53 [1, 0, 0, 1, 1, 0])) [0, 1, 2, 3, 4, 5, 6] (by kernel_rfl) (by kernel_rfl) ?_
      refine st_pure tabOK hk [0, 1, 2] [3, 4, 5, 6] [0, 13] [(0, .int .i32 p0), (13, .bool (decide (57343 < p0)))] (True) (by kernel_rfl) trivial ?_
      clear hk; intro a hk
      refine cut_ops (fun a w => Kn 17 a [(10, .bool ((decide (57343 < p0)) && (decide (p0 ≤ 1114111))))] ∧ Ows [] w0 w []) ?_ ?_
      · intro J
        rcases Bool.eq_false_or_eq_true (decide (57343 < p0)) with h7 | h7
        ·
          rw [h7] at hk
          have h8 : 57343 < p0 := of_decide_eq_true h7
          refine st_pure tabOK hk [3, 4, 5, 6] [] [10] [(10, .bool (decide (p0 ≤ 1114111)))] (True) (by kernel_rfl) trivial ?_
          clear hk; intro a hk
          refine st_done ?_
          have e : ((decide (57343 < p0)) && (decide (p0 ≤ 1114111))) = (decide (p0 ≤ 1114111)) := by first | (simp only [h7]; done) | (simp only [h7]; rfl) | rfl | simp [h7]
          exact J a w ⟨by rw [e]; exact hk.to [10] _ (by kernel_rfl), ho⟩
        ·
          rw [h7] at hk
          have h9 : ¬ (57343 < p0) := of_decide_eq_false h7
          refine st_pure tabOK hk [3, 4, 5, 6] [] [10] [(10, .bool false)] (True) (by kernel_rfl) trivial ?_
          clear hk; intro a hk
          refine st_done ?_
          have e : ((decide (57343 < p0)) && (decide (p0 ≤ 1114111))) = false := by first | (simp only [h7]; done) | (simp only [h7]; rfl) | rfl | simp [h7]
          exact J a w ⟨by rw [e]; exact hk.to [10] _ (by kernel_rfl), ho⟩
      · rintro a w ⟨hk, ho⟩
        refine st_cond hk (C53 [1, 0, 0, 1, 1, 1, 0]) (C53 [1, 0, 0, 1, 1, 1, 1]) (.tmp 10) (((decide (57343 < p0)) && (decide (p0 ≤ 1114111)))) (by kernel_rfl) (by kernel_rfl) (fun h10 => ?_) (fun h10 => ?_)
        ·
          have h11 : ((decide (57343 < p0)) && (decide (p0 ≤ 1114111))) = true := h10
          rw [if_pos h11] at H
          refine st_seq (C53 [1, 0, 0, 1, 1, 1, 0, 0]) (C53 [1, 0, 0, 1, 1, 1, 0, 1]) (by kernel_rfl) ?_
          refine st_region 4 (opsOf (C53 [1, 0, 0, 1, 1, 1, 0, 0])) [0] (by kernel_rfl) (by kernel_rfl) ?_
          refine st_pure tabOK hk [0] [] [2] [(2, .bool true)] (True) (by kernel_rfl) trivial ?_
          clear hk; intro a hk
          refine st_done ?_
          refine st_retG hk (by kernel_rfl) [.bool true] #[.tmp 2] (by kernel_rfl) ⟨resT hk (by kernel_rfl), trivial⟩ ?_
          obtain rfl := Option.some.inj H
          exact ⟨_, rfl, rfl, ho⟩
        ·
          have h12 : ¬ (((decide (57343 < p0)) && (decide (p0 ≤ 1114111))) = true) := ne_true_of_eq_false h10
          rw [if_neg h12] at H
          refine st_skip (by kernel_rfl) ?_
          refine st_endb 0 ?_
          refine st_seq (C53 [1, 1, 0]) (C53 [1, 1, 1]) (by kernel_rfl) ?_
          refine st_region 5 (opsOf (C53 [1, 1, 0])) [0] (by kernel_rfl) (by kernel_rfl) ?_
          refine st_pure tabOK hk [0] [] [2] [(2, .bool false)] (True) (by kernel_rfl) trivial ?_
          clear hk; intro a hk
          refine st_done ?_
          refine st_retG hk (by kernel_rfl) [.bool false] #[.tmp 2] (by kernel_rfl) ⟨resT hk (by kernel_rfl), trivial⟩ ?_
          obtain rfl := Option.some.inj H
          exact ⟨_, rfl, rfl, ho⟩


/-! strings.IndexRune: function 42 -/
noncomputable def C42 (p : List Nat) : Code := Sub (bodyOf f42) p
def strings_IndexRune.f (p0 : Str) (p1 : Int) : Option (Int) := (if ((decide (0 ≤ p1)) && (decide (p1 < 128))) = true then ((strings_IndexByte.f p0 (w8 (p1))).bind fun t6 => some t6) else (if (p1 == 65533) = true then none else ((utf8_ValidRune.f p1).bind fun t12 => (if (!t12) = true then some (-1) else none))))
abbrev strings_IndexRune.post (w0 : World) (r : Int) (u : Value) (w : World) : Prop := u = I r ∧ Ows [] w0 w []
theorem strings_IndexRune.ok (p0 : Str) (p1 : Int) (r : Int) (H : strings_IndexRune.f p0 p1 = some r) (w0 : World)  : Calls Tryd.prog 42 ⟨[S p0, .int .i32 p1]⟩ w0 fun e w => ∃ u, e = .returned u ∧ strings_IndexRune.post w0 r u w := by
  unfold strings_IndexRune.f at H
  refine st_start (N := 187) [S p0, .int .i32 p1] (C42 []) func42 (by kernel_rfl) (by kernel_rfl) (by kernel_rfl) ?_
  intro a w hk ho
  refine st_seq (C42 [0]) (C42 [1]) (by kernel_rfl) ?_
  refine st_region 0 (opsOf (C42 [0])) [0] (by kernel_rfl) (by kernel_rfl) ?_
  refine st_pure tabOK hk [0] [] [0, 1] [(0, S p0), (1, .int .i32 p1)] (True) (by kernel_rfl) trivial ?_
  clear hk; intro a hk
  refine st_done ?_
  refine st_block 0 (C42 [1, 0]) (by kernel_rfl) ?_
  refine st_seq (C42 [1, 0, 0]) (C42 [1, 0, 1]) (by kernel_rfl) ?_
  refine st_region 34 (opsOf (C42 [1, 0, 0])) [0, 1, 2, 3, 4, 5, 6] (by kernel_rfl) (by kernel_rfl) ?_
  refine st_pure tabOK hk [0, 1, 2] [3, 4, 5, 6] [0, 1, 163] [(0, S p0), (1, .int .i32 p1), (163, .bool (decide (0 ≤ p1)))] (True) (by kernel_rfl) trivial ?_
  clear hk; intro a hk
  refine cut_ops (fun a w => Kn 187 a [(0, S p0), (1, .int .i32 p1), (160, .bool ((decide (0 ≤ p1)) && (decide (p1 < 128))))] ∧ Ows [] w0 w []) ?_ ?_
  · intro J
    rcases Bool.eq_false_or_eq_true (decide (0 ≤ p1)) with h1 | h1
    ·
      rw [h1] at hk
      have h2 : 0 ≤ p1 := of_decide_eq_true h1
      refine st_pure tabOK hk [3, 4, 5, 6] [] [0, 1, 160] [(0, S p0), (1, .int .i32 p1), (160, .bool (decide (p1 < 128)))] (True) (by kernel_rfl) trivial ?_
      clear hk; intro a hk
      refine st_done ?_
      have e : ((decide (0 ≤ p1)) && (decide (p1 < 128))) = (decide (p1 < 128)) := by first | (simp only [h1]; done) | (simp only [h1]; rfl) | rfl | simp [h1]
      exact J a w ⟨by rw [e]; exact hk.to [0, 1, 160] _ (by kernel_rfl), ho⟩
    ·
      rw [h1] at hk
      have h3 : ¬ (0 ≤ p1) := of_decide_eq_false h1
      refine st_pure tabOK hk [3, 4, 5, 6] [] [0, 1, 160] [(0, S p0), (1, .int .i32 p1), (160, .bool false)] (True) (by kernel_rfl) trivial ?_
      clear hk; intro a hk
      refine st_done ?_
      have e : ((decide (0 ≤ p1)) && (decide (p1 < 128))) = false := by first | (simp only [h1]; done) | (simp only [h1]; rfl) | rfl | simp [h1]
      exact J a w ⟨by rw [e]; exact hk.to [0, 1, 160] _ (by kernel_rfl), ho⟩
  · rintro a w ⟨hk, ho⟩
    refine st_cond hk (C42 [1, 0, 1, 0]) (C42 [1, 0, 1, 1]) (.tmp 160) (((decide (0 ≤ p1)) && (decide (p1 < 128)))) (by kernel_rfl) (by kernel_rfl) (fun h4 => ?_) (fun h4 => ?_)
    ·
      have h5 : ((decide (0 ≤ p1)) && (decide (p1 < 128))) = true := h4
      rw [if_pos h5] at H
      refine st_seq (C42 [1, 0, 1, 0, 0]) (C42 [1, 0, 1, 0, 1]) (by kernel_rfl) ?_
      refine st_region 35 (opsOf (C42 [1, 0, 1, 0, 0])) [0, 1, 2, 3, 4] (by kernel_rfl) (by kernel_rfl) ?_
      refine st_pure tabOK hk [0, 1, 2] [3, 4] [167, 169] [(167, S p0), (169, .int .u8 (w8 (p1)))] (True) (by kernel_rfl) trivial ?_
      clear hk; intro a hk
      obtain ⟨t6, h7, H⟩ := Option.bind_eq_some_iff.1 H
      refine st_call hk 28 [S p0, .int .u8 (w8 (p1))] (some 170) enters28 (by kernel_rfl) (strings_IndexByte.ok  p0 (w8 (p1)) t6 h7 w ) ?_
      clear hk; rintro a u w ⟨rfl, ho'⟩ hk
      replace ho : Ows [] w0 w [] := ho.call ho'; clear ho'
      refine st_pure tabOK hk [4] [] [4] [(4, I t6)] (True) (by kernel_rfl) trivial ?_
      clear hk; intro a hk
      refine st_done ?_
      refine st_retG hk (by kernel_rfl) [I t6] #[.tmp 4] (by kernel_rfl) ⟨resT hk (by kernel_rfl), trivial⟩ ?_
      obtain rfl := Option.some.inj H
      exact ⟨_, rfl, rfl, ho⟩
    ·
      have h8 : ¬ (((decide (0 ≤ p1)) && (decide (p1 < 128))) = true) := ne_true_of_eq_false h4
      rw [if_neg h8] at H
      refine st_seq (C42 [1, 0, 1, 1, 0]) (C42 [1, 0, 1, 1, 1]) (by kernel_rfl) ?_
      refine st_region 36 (opsOf (C42 [1, 0, 1, 1, 0])) [0, 1, 2] (by kernel_rfl) (by kernel_rfl) ?_
      refine st_pure tabOK hk [0, 1, 2] [] [0, 1, 171] [(0, S p0), (1, .int .i32 p1), (171, .bool (p1 == 65533))] (True) (by kernel_rfl) trivial ?_
      clear hk; intro a hk
      refine st_done ?_
      refine st_cond hk (C42 [1, 0, 1, 1, 1, 0]) (C42 [1, 0, 1, 1, 1, 1]) (.tmp 171) (p1 == 65533) (by kernel_rfl) (by kernel_rfl) (fun h9 => ?_) (fun h9 => ?_)
      ·
        have h10 : (p1 == 65533) = true := h9
        rw [if_pos h10] at H
        exact nomatch H
      ·
        have h11 : ¬ ((p1 == 65533) = true) := ne_true_of_eq_false h9
        rw [if_neg h11] at H
        refine st_seq (C42 [1, 0, 1, 1, 1, 1, 0]) (C42 [1, 0, 1, 1, 1, 1, 1]) (by kernel_rfl) ?_
        refine st_region 43 (opsOf (C42 [1, 0, 1, 1, 1, 1, 0])) [0, 1, 2, 3] (by kernel_rfl) (by kernel_rfl) ?_
        refine st_pure tabOK hk [0] [1, 2, 3] [0, 1, 184] [(0, S p0), (1, .int .i32 p1), (184, .int .i32 p1)] (True) (by kernel_rfl) trivial ?_
        clear hk; intro a hk
        obtain ⟨t12, h13, H⟩ := Option.bind_eq_some_iff.1 H
        refine st_call hk 53 [.int .i32 p1] (some 185) enters53 (by kernel_rfl) (utf8_ValidRune.ok  p1 t12 h13 w ) ?_
        clear hk; rintro a u w ⟨rfl, ho'⟩ hk
        replace ho : Ows [] w0 w [] := ho.call ho'; clear ho'
        refine st_pure tabOK hk [2, 3] [] [0, 1, 183] [(0, S p0), (1, .int .i32 p1), (183, .bool (!t12))] (True) (by kernel_rfl) trivial ?_
        clear hk; intro a hk
        refine st_done ?_
        refine st_cond hk (C42 [1, 0, 1, 1, 1, 1, 1, 0]) (C42 [1, 0, 1, 1, 1, 1, 1, 1]) (.tmp 183) (!t12) (by kernel_rfl) (by kernel_rfl) (fun h14 => ?_) (fun h14 => ?_)
        ·
          have h15 : (!t12) = true := h14
          rw [if_pos h15] at H
          refine st_seq (C42 [1, 0, 1, 1, 1, 1, 1, 0, 0]) (C42 [1, 0, 1, 1, 1, 1, 1, 0, 1]) (by kernel_rfl) ?_
          refine st_region 44 (opsOf (C42 [1, 0, 1, 1, 1, 1, 1, 0, 0])) [0] (by kernel_rfl) (by kernel_rfl) ?_
          refine st_pure tabOK hk [0] [] [4] [(4, I (-1))] (True) (by kernel_rfl) trivial ?_
          clear hk; intro a hk
          refine st_done ?_
          refine st_retG hk (by kernel_rfl) [I (-1)] #[.tmp 4] (by kernel_rfl) ⟨resT hk (by kernel_rfl), trivial⟩ ?_
          obtain rfl := Option.some.inj H
          exact ⟨_, rfl, rfl, ho⟩
        ·
          have h16 : ¬ ((!t12) = true) := ne_true_of_eq_false h14
          rw [if_neg h16] at H
          exact nomatch H


/-! strings.ContainsRune: function 22 -/
noncomputable def C22 (p : List Nat) : Code := Sub (bodyOf f22) p
def strings_ContainsRune.f (p0 : Str) (p1 : Int) : Option (Bool) := (((strings_IndexRune.f p0 p1).bind fun t1 => some (decide (t1 ≥ 0))))
abbrev strings_ContainsRune.post (w0 : World) (r : Bool) (u : Value) (w : World) : Prop := u = .bool r ∧ Ows [] w0 w []
theorem strings_ContainsRune.ok (p0 : Str) (p1 : Int) (r : Bool) (H : strings_ContainsRune.f p0 p1 = some r) (w0 : World)  : Calls Tryd.prog 22 ⟨[S p0, .int .i32 p1]⟩ w0 fun e w => ∃ u, e = .returned u ∧ strings_ContainsRune.post w0 r u w := by
  unfold strings_ContainsRune.f at H
  refine st_start (N := 9) [S p0, .int .i32 p1] (C22 []) func22 (by kernel_rfl) (by kernel_rfl) (by kernel_rfl) ?_
  intro a w hk ho
  refine st_seq (C22 [0]) (C22 [1]) (by kernel_rfl) ?_
  refine st_region 0 (opsOf (C22 [0])) [0] (by kernel_rfl) (by kernel_rfl) ?_
  refine st_pure tabOK hk [0] [] [0, 1] [(0, S p0), (1, .int .i32 p1)] (True) (by kernel_rfl) trivial ?_
  clear hk; intro a hk
  refine st_done ?_
  refine st_seq (C22 [1, 0]) (C22 [1, 1]) (by kernel_rfl) ?_
  refine st_region 1 (opsOf (C22 [1, 0])) [0, 1, 2, 3, 4] (by kernel_rfl) (by kernel_rfl) ?_
  refine st_pure tabOK hk [0, 1] [2, 3, 4] [5, 6] [(5, S p0), (6, .int .i32 p1)] (True) (by kernel_rfl) trivial ?_
  clear hk; intro a hk
  obtain ⟨t1, h2, H⟩ := Option.bind_eq_some_iff.1 H
  refine st_call hk 42 [S p0, .int .i32 p1] (some 7) enters42 (by kernel_rfl) (strings_IndexRune.ok  p0 p1 t1 h2 w ) ?_
  clear hk; rintro a u w ⟨rfl, ho'⟩ hk
  replace ho : Ows [] w0 w [] := ho.call ho'; clear ho'
  refine st_pure tabOK hk [3, 4] [] [4] [(4, .bool (decide (t1 ≥ 0)))] (True) (by kernel_rfl) trivial ?_
  clear hk; intro a hk
  refine st_done ?_
  refine st_retG hk (by kernel_rfl) [.bool (decide (t1 ≥ 0))] #[.tmp 4] (by kernel_rfl) ⟨resT hk (by kernel_rfl), trivial⟩ ?_
  obtain rfl := Option.some.inj H
  exact ⟨_, rfl, rfl, ho⟩


/-! scullery/target.Host$1: function 20 -/
noncomputable def C20 (p : List Nat) : Code := Sub (bodyOf f20) p
def target_Host_1.f (p0 : Int) : Option (Bool) := ((((if p0 ≥ 128 then some true else ((target_alnum.f (w8 (p0))).bind fun t5 => (if (!t5) = true then ((strings_ContainsRune.f ([46, 45]) p0).bind fun t9 => some (!t9)) else some false)))).bind fun m1 => some m1))
abbrev target_Host_1.post (w0 : World) (r : Bool) (u : Value) (w : World) : Prop := u = .bool r ∧ Ows [] w0 w []
theorem target_Host_1.ok (p0 : Int) (r : Bool) (H : target_Host_1.f p0 = some r) (w0 : World)  : Calls Tryd.prog 20 ⟨[.int .i32 p0]⟩ w0 fun e w => ∃ u, e = .returned u ∧ target_Host_1.post w0 r u w := by
  unfold target_Host_1.f at H
  refine st_start (N := 16) [.int .i32 p0] (C20 []) func20 (by kernel_rfl) (by kernel_rfl) (by kernel_rfl) ?_
  intro a w hk ho
  refine st_seq (C20 [0]) (C20 [1]) (by kernel_rfl) ?_
  refine st_region 0 (opsOf (C20 [0])) [0] (by kernel_rfl) (by kernel_rfl) ?_
  refine st_pure tabOK hk [0] [] [0] [(0, .int .i32 p0)] (True) (by kernel_rfl) trivial ?_
  clear hk; intro a hk
  refine st_done ?_
  refine st_seq (C20 [1, 0]) (C20 [1, 1]) (by kernel_rfl) ?_
  refine st_region 1 (opsOf (C20 [1, 0])) [0, 1, 2, 3, 4, 5, 6, 7, 8, 9, 10, 11, 12, 13] (by kernel_rfl) (by kernel_rfl) ?_
  refine st_pure tabOK hk [0, 1, 2] [3, 4, 5, 6, 7, 8, 9, 10, 11, 12, 13] [0, 5] [(0, .int .i32 p0), (5, .bool (decide (p0 ≥ 128)))] (True) (by kernel_rfl) trivial ?_
  clear hk; intro a hk
  obtain ⟨m1, HX, H⟩ := Option.bind_eq_some_iff.1 H
  refine cut_ops (fun a w => Kn 16 a [(2, .bool m1)] ∧ Ows [] w0 w []) ?_ ?_
  · intro J; clear H; have H := HX; clear HX
    rcases Bool.eq_false_or_eq_true (decide (p0 ≥ 128)) with h2 | h2
    ·
      rw [h2] at hk
      have h3 : p0 ≥ 128 := of_decide_eq_true h2
      rw [if_pos h3] at H
      refine st_pure tabOK hk [3, 4, 5, 6, 7, 8, 9, 10, 11, 12, 13] [] [2] [(2, .bool true)] (True) (by kernel_rfl) trivial ?_
      clear hk; intro a hk
      refine st_done ?_
      obtain rfl := Option.some.inj H
      exact J a w ⟨hk.to [2] _ (by kernel_rfl), ho⟩
    ·
      rw [h2] at hk
      have h4 : ¬ (p0 ≥ 128) := of_decide_eq_false h2
      rw [if_neg h4] at H
      refine st_pure tabOK hk [3, 4] [5, 6, 7, 8, 9, 10, 11, 12, 13] [0, 5, 7] [(0, .int .i32 p0), (5, .bool false), (7, .int .u8 (w8 (p0)))] (True) (by kernel_rfl) trivial ?_
      clear hk; intro a hk
      obtain ⟨t5, h6, H⟩ := Option.bind_eq_some_iff.1 H
      refine st_call hk 21 [.int .u8 (w8 (p0))] (some 8) enters21 (by kernel_rfl) (target_alnum.ok  (w8 (p0)) t5 h6 w ) ?_
      clear hk; rintro a u w ⟨rfl, ho'⟩ hk
      replace ho : Ows [] w0 w [] := ho.call ho'; clear ho'
      refine st_pure tabOK hk [6, 7] [8, 9, 10, 11, 12, 13] [0, 5, 10] [(0, .int .i32 p0), (5, .bool false), (10, .bool (!t5))] (True) (by kernel_rfl) trivial ?_
      clear hk; intro a hk
      rcases Bool.eq_false_or_eq_true (!t5) with h7 | h7
      ·
        rw [h7] at hk
        have h8 : (!t5) = true := h7
        rw [if_pos h8] at H
        refine st_pure tabOK hk [8] [9, 10, 11, 12, 13] [5, 10, 11] [(5, .bool false), (10, .bool true), (11, .int .i32 p0)] (True) (by kernel_rfl) trivial ?_
        clear hk; intro a hk
        obtain ⟨t9, h10, H⟩ := Option.bind_eq_some_iff.1 H
        refine st_call hk 22 [S ([46, 45]), .int .i32 p0] (some 12) enters22 (by kernel_rfl) (strings_ContainsRune.ok  ([46, 45]) p0 t9 h10 w ) ?_
        clear hk; rintro a u w ⟨rfl, ho'⟩ hk
        replace ho : Ows [] w0 w [] := ho.call ho'; clear ho'
        refine st_pure tabOK hk [10, 11, 12, 13] [] [2] [(2, .bool (!t9))] (True) (by kernel_rfl) trivial ?_
        clear hk; intro a hk
        refine st_done ?_
        obtain rfl := Option.some.inj H
        exact J a w ⟨hk.to [2] _ (by kernel_rfl), ho⟩
      ·
        rw [h7] at hk
        have h11 : ¬ ((!t5) = true) := ne_true_of_eq_false h7
        rw [if_neg h11] at H
        refine st_pure tabOK hk [8, 9, 10, 11, 12, 13] [] [2] [(2, .bool false)] (True) (by kernel_rfl) trivial ?_
        clear hk; intro a hk
        refine st_done ?_
        obtain rfl := Option.some.inj H
        exact J a w ⟨hk.to [2] _ (by kernel_rfl), ho⟩
  · clear HX; rintro a w ⟨hk, ho⟩
    refine st_retG hk (by kernel_rfl) [.bool m1] #[.tmp 2] (by kernel_rfl) ⟨resT hk (by kernel_rfl), trivial⟩ ?_
    obtain rfl := Option.some.inj H
    exact ⟨_, rfl, rfl, ho⟩


/-! strings.IndexFunc: function 19 -/
/-- What the predicate says of a rune. -/
def strings_IndexFunc_target_Host_1.p (x : Nat) : Bool := (target_Host_1.f (x : Int)).getD false
def strings_IndexFunc_target_Host_1.f (p0 : Str) : Option Int := some (Lib.idxFunc strings_IndexFunc_target_Host_1.p true ⟨⟨p0⟩⟩)
abbrev strings_IndexFunc_target_Host_1.post (w0 : World) (r : Int) (u : Value) (w : World) : Prop := u = I r ∧ Ows [] w0 w []
theorem strings_IndexFunc_target_Host_1.tot (x : Nat) : target_Host_1.f (x : Int) = some (strings_IndexFunc_target_Host_1.p x) := by
  by_cases h : x < 128
  · have hx := List.all_eq_true.1 (show ((List.range 128).all fun n => (target_Host_1.f (n : Int)).isSome) = true by kernel_rfl) x (List.mem_range.2 h)
    unfold strings_IndexFunc_target_Host_1.p
    cases e : target_Host_1.f (x : Int) with
    | none => rw [e] at hx; cases hx
    | some b => rfl
  · unfold strings_IndexFunc_target_Host_1.p target_Host_1.f
    have hd : decide ((x : Int) ≥ 128) = true := by simp only [decide_eq_true_eq]; omega
    have hd2 : (x : Int) ≥ 128 := by omega
    simp [hd, hd2]
theorem strings_IndexFunc_target_Host_1.ok (p0 : Str) (r : Int) (H : strings_IndexFunc_target_Host_1.f p0 = some r) (w0 : World) : Calls Tryd.prog 19 ⟨[S p0, .func (.func 20) #[] #[]]⟩ w0 fun e w => ∃ u, e = .returned u ∧ strings_IndexFunc_target_Host_1.post w0 r u w := by
  unfold strings_IndexFunc_target_Host_1.f at H
  obtain rfl := Option.some.inj H
  refine (Any.strings_IndexFunc_grows Tryd.laysGw15 20 #[] enters20 strings_IndexFunc_target_Host_1.p ⟨⟨p0⟩⟩ w0 ?_).mono ?_
  · intro W x _ _
    refine (target_Host_1.ok (x : Int) _ (strings_IndexFunc_target_Host_1.tot x) W).mono ?_
    rintro e w ⟨u, rfl, rfl, ho⟩
    exact ⟨rfl, toBelow ho⟩
  · rintro e w ⟨rfl, hb⟩
    exact ⟨_, rfl, rfl, ofBelow hb⟩


/-! scullery/ascii.Lower: function 23 -/
noncomputable def C23 (p : List Nat) : Code := Sub (bodyOf f23) p
def ascii_Lower.l0 : Nat → Str → List UInt8 → Int → Option (List UInt8)
  | 0, _, _, _ => none
  | k + 1, p0, v6, v9 => (if v9 < (p0.length : Int) then (if (0 : Int) ≤ v9 then (if v9 < (v6.length : Int) then (((if ((decide (bt v6 v9 ≥ 65)) && (decide (bt v6 v9 ≤ 90))) = true then some (v6.set v9.toNat (u8 (w8 ((w8 ((bt v6 v9) + 97)) - 65)))) else some v6)).bind fun m19 => ascii_Lower.l0 k p0 m19 (w64 (v9 + 1))) else none) else none) else some v6)
def ascii_Lower.f (K : Nat) (p0 : Str) : Option (Str) := (if p0.length ≤ 4294967296 then ((ascii_Lower.l0 K p0 p0 0).bind fun s29 => some s29) else none)
abbrev ascii_Lower.post (w0 : World) (r : Str) (u : Value) (w : World) : Prop := u = S r ∧ Ows [] w0 w []
theorem ascii_Lower.l0_ok : ∀ (k : Nat) (p0 : Str) (v6 : List UInt8) (v9 : Int) (out : List UInt8), ascii_Lower.l0 k p0 v6 v9 = some out → ∀ (o7 : Option Addr) (c8 : Nat) (w0 : World) (Q : Exit → Act → World → Prop) (rest : List It) (a : Act) (w : World), Kn 30 a [(3, .slice o7 v6.length c8), (8, .slice o7 v6.length c8), (9, I (p0.length : Int)), (10, I v9)] → Ows [] w0 w [.row 0 5 1 (.slice o7 v6.length c8) v6.length (v6.map bV)] → (∀ (s : List UInt8) (o10 : Option Addr) (c11 : Nat) (a : Act) (w : World), out = s → Kn 30 a [(3, .slice o10 s.length c11)] → Ows [] w0 w [.row 0 5 1 (.slice o10 s.length c11) s.length (s.map bV)] → G Tryd.prog Q rest a w) → G Tryd.prog Q (.code (C23 [1, 1, 0, 1, 0, 0]) :: .inl (C23 [1, 1, 0, 1, 0, 0]) :: .endb 0 :: rest) a w := by
  intro k
  induction k with
  | zero => intro p0 v6 v9 out H; simp [ascii_Lower.l0] at H
  | succ k ih =>
    intro p0 v6 v9 out H o7 c8 w0 Q rest a w  hk ho J
    simp only [ascii_Lower.l0] at H
    refine st_seq (C23 [1, 1, 0, 1, 0, 0, 0]) (C23 [1, 1, 0, 1, 0, 0, 1]) (by kernel_rfl) ?_
    refine st_region 3 (opsOf (C23 [1, 1, 0, 1, 0, 0, 0])) [0] (by kernel_rfl) (by kernel_rfl) ?_
    refine st_pure tabOK hk [0] [] [3, 8, 9, 10, 11] [(3, .slice o7 v6.length c8), (8, .slice o7 v6.length c8), (9, I (p0.length : Int)), (10, I v9), (11, .bool (decide (v9 < (p0.length : Int))))] (True) (by kernel_rfl) trivial ?_
    clear hk; intro a hk
    refine st_done ?_
    refine st_seq (C23 [1, 1, 0, 1, 0, 0, 1, 0]) (C23 [1, 1, 0, 1, 0, 0, 1, 1]) (by kernel_rfl) ?_
    refine st_cond hk (C23 [1, 1, 0, 1, 0, 0, 1, 0, 0]) (C23 [1, 1, 0, 1, 0, 0, 1, 0, 1]) (.tmp 11) (decide (v9 < (p0.length : Int))) (by kernel_rfl) (by kernel_rfl) (fun h12 => ?_) (fun h12 => ?_)
    ·
      have h13 : v9 < (p0.length : Int) := of_decide_eq_true h12
      rw [if_pos h13] at H
      refine st_skip (by kernel_rfl) ?_
      refine st_seq (C23 [1, 1, 0, 1, 0, 0, 1, 1, 0]) (C23 [1, 1, 0, 1, 0, 0, 1, 1, 1]) (by kernel_rfl) ?_
      refine st_block 1 (C23 [1, 1, 0, 1, 0, 0, 1, 1, 0, 0]) (by kernel_rfl) ?_
      refine st_seq (C23 [1, 1, 0, 1, 0, 0, 1, 1, 0, 0, 0]) (C23 [1, 1, 0, 1, 0, 0, 1, 1, 0, 0, 1]) (by kernel_rfl) ?_
      refine st_region 4 (opsOf (C23 [1, 1, 0, 1, 0, 0, 1, 1, 0, 0, 0])) [0, 1, 2, 3, 4] (by kernel_rfl) (by kernel_rfl) ?_
      have h14 : (0 : Int) ≤ v9 := by
        by_cases h14 : (0 : Int) ≤ v9
        · exact h14
        · rw [if_neg h14] at H; cases H
      rw [if_pos h14] at H
      have h15 : v9 < (v6.length : Int) := by
        by_cases h15 : v9 < (v6.length : Int)
        · exact h15
        · rw [if_neg h15] at H; cases H
      rw [if_pos h15] at H
      refine st_pure tabOK hk [0, 1] [2, 3, 4] [3, 8, 9, 10, 12, 13] [(3, .slice o7 v6.length c8), (8, .slice o7 v6.length c8), (9, I (p0.length : Int)), (10, I v9), (12, I v9), (13, .pointer (o7.map (·.add (v9.toNat * 1))))] ((o7.isSome = true ∧ (0 : Int) ≤ v9 ∧ v9 < (v6.length : Int)) ∧ True) (by kernel_rfl) ⟨⟨(Rd.some1 (ho.rd 0 rfl) h14 h15), h14, h15⟩, trivial⟩ ?_
      clear hk; intro a hk
      refine st_load1 tabOK hk 5 (o7.map (·.add (v9.toNat * 1))) 14 (by kernel_rfl) (by kernel_rfl) (.int .u8 (bt v6 v9)) ((ho.rd 0 rfl).elemB h14 h15) ?_
      clear hk; intro a hk
      refine st_pure tabOK hk [3, 4] [] [3, 4, 5, 8, 9, 10] [(3, .slice o7 v6.length c8), (4, I v9), (5, .int .u8 (bt v6 v9)), (8, .slice o7 v6.length c8), (9, I (p0.length : Int)), (10, I v9)] (True) (by kernel_rfl) trivial ?_
      clear hk; intro a hk
      refine st_done ?_
      refine st_seq (C23 [1, 1, 0, 1, 0, 0, 1, 1, 0, 0, 1, 0]) (C23 [1, 1, 0, 1, 0, 0, 1, 1, 0, 0, 1, 1]) (by kernel_rfl) ?_
      refine st_region 5 (opsOf (C23 [1, 1, 0, 1, 0, 0, 1, 1, 0, 0, 1, 0])) [0, 1, 2, 3, 4, 5] (by kernel_rfl) (by kernel_rfl) ?_
      refine st_pure tabOK hk [0, 1, 2] [3, 4, 5] [3, 4, 5, 8, 9, 10, 17] [(3, .slice o7 v6.length c8), (4, I v9), (5, .int .u8 (bt v6 v9)), (8, .slice o7 v6.length c8), (9, I (p0.length : Int)), (10, I v9), (17, .bool (decide (bt v6 v9 ≥ 65)))] (True) (by kernel_rfl) trivial ?_
      clear hk; intro a hk
      refine cut_ops (fun a w => Kn 30 a [(3, .slice o7 v6.length c8), (4, I v9), (5, .int .u8 (bt v6 v9)), (8, .slice o7 v6.length c8), (9, I (p0.length : Int)), (10, I v9), (20, .bool ((decide (bt v6 v9 ≥ 65)) && (decide (bt v6 v9 ≤ 90))))] ∧ Ows [] w0 w [.row 0 5 1 (.slice o7 v6.length c8) v6.length (v6.map bV)]) ?_ ?_
      · intro J
        rcases Bool.eq_false_or_eq_true (decide (bt v6 v9 ≥ 65)) with h16 | h16
        ·
          rw [h16] at hk
          have h17 : bt v6 v9 ≥ 65 := of_decide_eq_true h16
          refine st_pure tabOK hk [3, 4, 5] [] [3, 4, 5, 8, 9, 10, 20] [(3, .slice o7 v6.length c8), (4, I v9), (5, .int .u8 (bt v6 v9)), (8, .slice o7 v6.length c8), (9, I (p0.length : Int)), (10, I v9), (20, .bool (decide (bt v6 v9 ≤ 90)))] (True) (by kernel_rfl) trivial ?_
          clear hk; intro a hk
          refine st_done ?_
          have e : ((decide (bt v6 v9 ≥ 65)) && (decide (bt v6 v9 ≤ 90))) = (decide (bt v6 v9 ≤ 90)) := by first | (simp only [h16]; done) | (simp only [h16]; rfl) | rfl | simp [h16]
          exact J a w ⟨by rw [e]; exact hk.to [3, 4, 5, 8, 9, 10, 20] _ (by kernel_rfl), ho⟩
        ·
          rw [h16] at hk
          have h18 : ¬ (bt v6 v9 ≥ 65) := of_decide_eq_false h16
          refine st_pure tabOK hk [3, 4, 5] [] [3, 4, 5, 8, 9, 10, 20] [(3, .slice o7 v6.length c8), (4, I v9), (5, .int .u8 (bt v6 v9)), (8, .slice o7 v6.length c8), (9, I (p0.length : Int)), (10, I v9), (20, .bool false)] (True) (by kernel_rfl) trivial ?_
          clear hk; intro a hk
          refine st_done ?_
          have e : ((decide (bt v6 v9 ≥ 65)) && (decide (bt v6 v9 ≤ 90))) = false := by first | (simp only [h16]; done) | (simp only [h16]; rfl) | rfl | simp [h16]
          exact J a w ⟨by rw [e]; exact hk.to [3, 4, 5, 8, 9, 10, 20] _ (by kernel_rfl), ho⟩
      · rintro a w ⟨hk, ho⟩
        obtain ⟨m19, HX, H⟩ := Option.bind_eq_some_iff.1 H
        refine cut_code (fun a w => ∃ (o20 : Option Addr), ∃ (c21 : Nat), Kn 30 a [(3, .slice o20 m19.length c21), (8, .slice o20 m19.length c21), (9, I (p0.length : Int)), (10, I v9)] ∧ Ows [] w0 w [.row 0 5 1 (.slice o20 m19.length c21) m19.length (m19.map bV)]) ?_ ?_
        · intro J; clear H; have H := HX; clear HX
          refine st_cond hk (C23 [1, 1, 0, 1, 0, 0, 1, 1, 0, 0, 1, 1, 0]) (C23 [1, 1, 0, 1, 0, 0, 1, 1, 0, 0, 1, 1, 1]) (.tmp 20) (((decide (bt v6 v9 ≥ 65)) && (decide (bt v6 v9 ≤ 90)))) (by kernel_rfl) (by kernel_rfl) (fun h22 => ?_) (fun h22 => ?_)
          ·
            have h23 : ((decide (bt v6 v9 ≥ 65)) && (decide (bt v6 v9 ≤ 90))) = true := h22
            rw [if_pos h23] at H
            refine st_region 6 (opsOf (C23 [1, 1, 0, 1, 0, 0, 1, 1, 0, 0, 1, 1, 0])) [0, 1, 2, 3, 4, 5, 6] (by kernel_rfl) (by kernel_rfl) ?_
            refine st_pure tabOK hk [0, 1, 2, 3, 4, 5] [6] [3, 8, 9, 10, 25, 26] [(3, .slice o7 v6.length c8), (8, .slice o7 v6.length c8), (9, I (p0.length : Int)), (10, I v9), (25, .int .u8 (w8 ((w8 ((bt v6 v9) + 97)) - 65))), (26, .pointer (o7.map (·.add (v9.toNat * 1))))] ((o7.isSome = true ∧ (0 : Int) ≤ v9 ∧ v9 < (v6.length : Int)) ∧ True) (by kernel_rfl) ⟨⟨(Rd.some1 (ho.rd 0 rfl) h14 h15), h14, h15⟩, trivial⟩ ?_
            clear hk; intro a hk
            try rw [u8_bV (w8 ((w8 ((bt v6 v9) + 97)) - 65)) (w8_range _).1 (w8_range _).2] at hk
            refine st_putB hk ho 0 5 v9 (u8 (w8 ((w8 ((bt v6 v9) + 97)) - 65))) 5 o7 c8 v6 [.row 0 5 1 (.slice o7 ((v6.set v9.toNat (u8 (w8 ((w8 ((bt v6 v9) + 97)) - 65)))).length) c8) ((v6.set v9.toNat (u8 (w8 ((w8 ((bt v6 v9) + 97)) - 65)))).length) ((v6.set v9.toNat (u8 (w8 ((w8 ((bt v6 v9) + 97)) - 65)))).map bV)] (by kernel_rfl) (by kernel_rfl) (by kernel_rfl) rfl h14 h15 rfl ?_
            clear ho; intro w ho
            have h24 : v6.length = (v6.set v9.toNat (u8 (w8 ((w8 ((bt v6 v9) + 97)) - 65)))).length := by simp
            replace hk : Kn 30 a [(3, .slice o7 ((v6.set v9.toNat (u8 (w8 ((w8 ((bt v6 v9) + 97)) - 65)))).length) c8), (8, .slice o7 ((v6.set v9.toNat (u8 (w8 ((w8 ((bt v6 v9) + 97)) - 65)))).length) c8), (9, I (p0.length : Int)), (10, I v9)] := by rw [← h24]; exact hk.to [3, 8, 9, 10] _ (by kernel_rfl)
            refine st_done ?_
            obtain rfl := Option.some.inj H
            exact J a w ⟨o7, c8, hk.to [3, 8, 9, 10] _ (by kernel_rfl), ho⟩
          ·
            have h25 : ¬ (((decide (bt v6 v9 ≥ 65)) && (decide (bt v6 v9 ≤ 90))) = true) := ne_true_of_eq_false h22
            rw [if_neg h25] at H
            refine st_skip (by kernel_rfl) ?_
            obtain rfl := Option.some.inj H
            exact J a w ⟨o7, c8, hk.to [3, 8, 9, 10] _ (by kernel_rfl), ho⟩
        · clear HX; rintro a w ⟨o20, c21, hk, ho⟩
          refine st_endb 1 ?_
          refine st_region 7 (opsOf (C23 [1, 1, 0, 1, 0, 0, 1, 1, 1])) [0, 1] (by kernel_rfl) (by kernel_rfl) ?_
          refine st_pure tabOK hk [0, 1] [] [3, 8, 9, 10] [(3, .slice o20 m19.length c21), (8, .slice o20 m19.length c21), (9, I (p0.length : Int)), (10, I (w64 (v9 + 1)))] (True) (by kernel_rfl) trivial ?_
          clear hk; intro a hk
          refine st_done ?_
          refine st_inl ?_
          exact ih p0 m19 (w64 (v9 + 1)) out H o20 c21 w0 Q rest a w  (hk.to [3, 8, 9, 10] _ (by kernel_rfl)) ho J
    ·
      have h26 : ¬ (v9 < (p0.length : Int)) := of_decide_eq_false h12
      rw [if_neg h26] at H
      refine st_exit 0 _ (by kernel_rfl) rfl ?_
      obtain rfl := Option.some.inj H
      exact J v6 o7 c8 a w rfl (hk.to [3] _ (by kernel_rfl)) ho

theorem ascii_Lower.ok (K : Nat) (p0 : Str) (r : Str) (H : ascii_Lower.f K p0 = some r) (w0 : World)  : Calls Tryd.prog 23 ⟨[S p0]⟩ w0 fun e w => ∃ u, e = .returned u ∧ ascii_Lower.post w0 r u w := by
  unfold ascii_Lower.f at H
  refine st_start (N := 30) [S p0] (C23 []) func23 (by kernel_rfl) (by kernel_rfl) (by kernel_rfl) ?_
  intro a w hk ho
  refine st_seq (C23 [0]) (C23 [1]) (by kernel_rfl) ?_
  refine st_region 0 (opsOf (C23 [0])) [0] (by kernel_rfl) (by kernel_rfl) ?_
  refine st_pure tabOK hk [0] [] [0] [(0, S p0)] (True) (by kernel_rfl) trivial ?_
  clear hk; intro a hk
  refine st_done ?_
  refine st_seq (C23 [1, 0]) (C23 [1, 1]) (by kernel_rfl) ?_
  refine st_region 1 (opsOf (C23 [1, 0])) [0, 1, 2] (by kernel_rfl) (by kernel_rfl) ?_
  refine st_pure tabOK hk [0] [1, 2] [6] [(6, S p0)] (True) (by kernel_rfl) trivial ?_
  clear hk; intro a hk
  have h1 : p0.length ≤ 4294967296 := by
    by_cases h1 : p0.length ≤ 4294967296
    · exact h1
    · rw [if_neg h1] at H; cases H
  rw [if_pos h1] at H
  refine st_bytes tabOK hk ho 9 30 5 7 p0 (by kernel_rfl) (by kernel_rfl) (by kernel_rfl) (by kernel_rfl) h1 ?_
  clear hk ho; intro a o2 c3 w h4 hk ho
  refine st_pure tabOK hk [2] [] [3] [(3, .slice o2 p0.length c3)] (True) (by kernel_rfl) trivial ?_
  clear hk; intro a hk
  refine st_done ?_
  refine st_seq (C23 [1, 1, 0]) (C23 [1, 1, 1]) (by kernel_rfl) ?_
  refine st_seq (C23 [1, 1, 0, 0]) (C23 [1, 1, 0, 1]) (by kernel_rfl) ?_
  refine st_region 2 (opsOf (C23 [1, 1, 0, 0])) [0, 1, 2] (by kernel_rfl) (by kernel_rfl) ?_
  refine st_pure tabOK hk [0, 1, 2] [] [3, 8, 9, 10] [(3, .slice o2 p0.length c3), (8, .slice o2 p0.length c3), (9, I (p0.length : Int)), (10, I 0)] (True) (by kernel_rfl) trivial ?_
  clear hk; intro a hk
  refine st_done ?_
  refine st_block 0 (C23 [1, 1, 0, 1, 0]) (by kernel_rfl) ?_
  obtain ⟨m27, h28, H⟩ := Option.bind_eq_some_iff.1 H
  refine st_loop (C23 [1, 1, 0, 1, 0, 0]) (by kernel_rfl) ?_
  refine ascii_Lower.l0_ok K p0 p0 0 m27 h28 o2 c3 w0 _ _ a w  (hk.to [3, 8, 9, 10] _ (by kernel_rfl)) ho ?_
  · intro s29 o30 c31 a w e hk ho; have e := e.symm; subst e
    refine st_seq (C23 [1, 1, 1, 0]) (C23 [1, 1, 1, 1]) (by kernel_rfl) ?_
    refine st_region 8 (opsOf (C23 [1, 1, 1, 0])) [0, 1, 2] (by kernel_rfl) (by kernel_rfl) ?_
    refine st_pure tabOK hk [0] [1, 2] [28] [(28, .slice o30 s29.length c31)] (True) (by kernel_rfl) trivial ?_
    clear hk; intro a hk
    refine st_string tabOK hk 30 9 5 29 o30 s29.length c31 s29 (by kernel_rfl) (by kernel_rfl) (by kernel_rfl) (by kernel_rfl) rfl (ho.rd 0 rfl) ?_
    clear hk; intro a hk
    refine st_pure tabOK hk [2] [] [2] [(2, S s29)] (True) (by kernel_rfl) trivial ?_
    clear hk; intro a hk
    refine st_done ?_
    replace ho : Ows [] w0 w [] := ho.erase 0
    refine st_retG hk (by kernel_rfl) [S s29] #[.tmp 2] (by kernel_rfl) ⟨resT hk (by kernel_rfl), trivial⟩ ?_
    obtain rfl := Option.some.inj H
    exact ⟨_, rfl, rfl, ho⟩


/-! scullery/target.Host: function 8 -/
noncomputable def C8 (p : List Nat) : Code := Sub (bodyOf f8) p
def target_Host.f (K : Nat) (p0 : Str) : Option (Str × Int) := (((strings_Cut.f p0 ([58])).bind fun t1 => ((strings_Count.f p0 ([58])).bind fun t3 => ((ascii_Digits.f K t1.2.1).bind fun t5 => ((strings_IndexFunc_target_Host_1.f t1.1).bind fun t7 => (if ((t1.1 == ([])) || ((decide (t7 ≥ 0)) || ((decide (t3 > 1)) || (bif !(t1.2.1 == ([])) then ((!t5.2) || (decide ((t1.2.1.length : Int) > 5))) else decide ((t1.2.1.length : Int) > 5))))) = true then some ([], 2) else ((ascii_Lower.f K t1.1).bind fun t27 => (if ((t1.2.1 == ([])) || (t1.2.1 == ([56, 48]))) = true then some (t27, 0) else (if t27.length + ([58]).length ≤ maxI then (if (t27 ++ ([58])).length + t1.2.1.length ≤ maxI then some ((t27 ++ ([58])) ++ t1.2.1, 0) else none) else none)))))))))
abbrev target_Host.post (w0 : World) (r : Str × Int) (u : Value) (w : World) : Prop := u = .tuple #[S r.1, I r.2] ∧ Ows [] w0 w []
theorem target_Host.ok (K : Nat) (p0 : Str) (r : Str × Int) (H : target_Host.f K p0 = some r) (w0 : World)  : Calls Tryd.prog 8 ⟨[S p0]⟩ w0 fun e w => ∃ u, e = .returned u ∧ target_Host.post w0 r u w := by
  unfold target_Host.f at H
  refine st_start (N := 62) [S p0] (C8 []) func8 (by kernel_rfl) (by kernel_rfl) (by kernel_rfl) ?_
  intro a w hk ho
  refine st_seq (C8 [0]) (C8 [1]) (by kernel_rfl) ?_
  refine st_region 0 (opsOf (C8 [0])) [0, 1] (by kernel_rfl) (by kernel_rfl) ?_
  refine st_pure tabOK hk [0, 1] [] [0] [(0, S p0)] (True) (by kernel_rfl) trivial ?_
  clear hk; intro a hk
  refine st_done ?_
  refine st_seq (C8 [1, 0]) (C8 [1, 1]) (by kernel_rfl) ?_
  refine st_region 1 (opsOf (C8 [1, 0])) [0, 1, 2, 3, 4, 5, 6, 7, 8] (by kernel_rfl) (by kernel_rfl) ?_
  refine st_pure tabOK hk [0] [1, 2, 3, 4, 5, 6, 7, 8] [0, 12] [(0, S p0), (12, S p0)] (True) (by kernel_rfl) trivial ?_
  clear hk; intro a hk
  obtain ⟨t1, h2, H⟩ := Option.bind_eq_some_iff.1 H
  refine st_call hk 16 [S p0, S ([58])] (some 13) enters16 (by kernel_rfl) (strings_Cut.ok  p0 ([58]) t1 h2 w ) ?_
  clear hk; rintro a u w ⟨rfl, ho'⟩ hk
  replace ho : Ows [] w0 w [] := ho.call ho'; clear ho'
  refine st_pure tabOK hk [2, 3, 4, 5, 6, 7, 8] [] [0, 4, 5] [(0, S p0), (4, S t1.1), (5, S t1.2.1)] (True) (by kernel_rfl) trivial ?_
  clear hk; intro a hk
  refine st_done ?_
  refine st_seq (C8 [1, 1, 0]) (C8 [1, 1, 1]) (by kernel_rfl) ?_
  refine st_region 2 (opsOf (C8 [1, 1, 0])) [0, 1, 2] (by kernel_rfl) (by kernel_rfl) ?_
  refine st_pure tabOK hk [0] [1, 2] [4, 5, 17] [(4, S t1.1), (5, S t1.2.1), (17, S p0)] (True) (by kernel_rfl) trivial ?_
  clear hk; intro a hk
  obtain ⟨t3, h4, H⟩ := Option.bind_eq_some_iff.1 H
  refine st_call hk 17 [S p0, S ([58])] (some 18) enters17 (by kernel_rfl) (strings_Count.ok  p0 ([58]) t3 h4 w ) ?_
  clear hk; rintro a u w ⟨rfl, ho'⟩ hk
  replace ho : Ows [] w0 w [] := ho.call ho'; clear ho'
  refine st_pure tabOK hk [2] [] [4, 5, 7] [(4, S t1.1), (5, S t1.2.1), (7, I t3)] (True) (by kernel_rfl) trivial ?_
  clear hk; intro a hk
  refine st_done ?_
  refine st_seq (C8 [1, 1, 1, 0]) (C8 [1, 1, 1, 1]) (by kernel_rfl) ?_
  refine st_region 3 (opsOf (C8 [1, 1, 1, 0])) [0, 1, 2, 3, 4, 5, 6] (by kernel_rfl) (by kernel_rfl) ?_
  refine st_pure tabOK hk [0] [1, 2, 3, 4, 5, 6] [4, 5, 7, 20] [(4, S t1.1), (5, S t1.2.1), (7, I t3), (20, S t1.2.1)] (True) (by kernel_rfl) trivial ?_
  clear hk; intro a hk
  obtain ⟨t5, h6, H⟩ := Option.bind_eq_some_iff.1 H
  refine st_call hk 18 [S t1.2.1] (some 21) enters18 (by kernel_rfl) (ascii_Digits.ok K  t1.2.1 t5 h6 w ) ?_
  clear hk; rintro a u w ⟨rfl, ho'⟩ hk
  replace ho : Ows [] w0 w [] := ho.call ho'; clear ho'
  refine st_pure tabOK hk [2, 3, 4, 5, 6] [] [4, 5, 7, 9] [(4, S t1.1), (5, S t1.2.1), (7, I t3), (9, .bool t5.2)] (True) (by kernel_rfl) trivial ?_
  clear hk; intro a hk
  refine st_done ?_
  refine st_seq (C8 [1, 1, 1, 1, 0]) (C8 [1, 1, 1, 1, 1]) (by kernel_rfl) ?_
  refine st_region 4 (opsOf (C8 [1, 1, 1, 1, 0])) [0, 1, 2] (by kernel_rfl) (by kernel_rfl) ?_
  refine st_pure tabOK hk [0] [1, 2] [4, 5, 7, 9, 24] [(4, S t1.1), (5, S t1.2.1), (7, I t3), (9, .bool t5.2), (24, S t1.1)] (True) (by kernel_rfl) trivial ?_
  clear hk; intro a hk
  obtain ⟨t7, h8, H⟩ := Option.bind_eq_some_iff.1 H
  refine st_call hk 19 [S t1.1, .func (.func 20) #[] #[]] (some 25) enters19 (by kernel_rfl) (strings_IndexFunc_target_Host_1.ok  t1.1 t7 h8 w ) ?_
  clear hk; rintro a u w ⟨rfl, ho'⟩ hk
  replace ho : Ows [] w0 w [] := ho.call ho'; clear ho'
  refine st_pure tabOK hk [2] [] [4, 5, 7, 9, 10] [(4, S t1.1), (5, S t1.2.1), (7, I t3), (9, .bool t5.2), (10, I t7)] (True) (by kernel_rfl) trivial ?_
  clear hk; intro a hk
  refine st_done ?_
  refine st_seq (C8 [1, 1, 1, 1, 1, 0]) (C8 [1, 1, 1, 1, 1, 1]) (by kernel_rfl) ?_
  refine st_seq (C8 [1, 1, 1, 1, 1, 0, 0]) (C8 [1, 1, 1, 1, 1, 0, 1]) (by kernel_rfl) ?_
  refine st_region 5 (opsOf (C8 [1, 1, 1, 1, 1, 0, 0])) [0, 1, 2, 3, 4, 5, 6, 7, 8, 9, 10, 11, 12, 13, 14, 15, 16, 17, 18, 19, 20, 21, 22] (by kernel_rfl) (by kernel_rfl) ?_
  refine st_pure tabOK hk [0, 1, 2] [3, 4, 5, 6, 7, 8, 9, 10, 11, 12, 13, 14, 15, 16, 17, 18, 19, 20, 21, 22] [4, 5, 7, 9, 10, 28] [(4, S t1.1), (5, S t1.2.1), (7, I t3), (9, .bool t5.2), (10, I t7), (28, .bool (t1.1 == ([])))] (True) (by kernel_rfl) trivial ?_
  clear hk; intro a hk
  refine cut_ops (fun a w => Kn 62 a [(4, S t1.1), (5, S t1.2.1), (48, .bool ((t1.1 == ([])) || ((decide (t7 ≥ 0)) || ((decide (t3 > 1)) || (bif !(t1.2.1 == ([])) then ((!t5.2) || (decide ((t1.2.1.length : Int) > 5))) else decide ((t1.2.1.length : Int) > 5))))))] ∧ Ows [] w0 w []) ?_ ?_
  · intro J
    rcases Bool.eq_false_or_eq_true (t1.1 == ([])) with h9 | h9
    ·
      rw [h9] at hk
      have h10 : (t1.1 == ([])) = true := h9
      refine st_pure tabOK hk [3, 4, 5, 6, 7, 8, 9, 10, 11, 12, 13, 14, 15, 16, 17, 18, 19, 20, 21, 22] [] [4, 5, 48] [(4, S t1.1), (5, S t1.2.1), (48, .bool true)] (True) (by kernel_rfl) trivial ?_
      clear hk; intro a hk
      refine st_done ?_
      have e : ((t1.1 == ([])) || ((decide (t7 ≥ 0)) || ((decide (t3 > 1)) || (bif !(t1.2.1 == ([])) then ((!t5.2) || (decide ((t1.2.1.length : Int) > 5))) else decide ((t1.2.1.length : Int) > 5))))) = true := by first | (simp only [h9]; done) | (simp only [h9]; rfl) | rfl | simp [h9]
      exact J a w ⟨by rw [e]; exact hk.to [4, 5, 48] _ (by kernel_rfl), ho⟩
    ·
      rw [h9] at hk
      have h11 : ¬ ((t1.1 == ([])) = true) := ne_true_of_eq_false h9
      refine st_pure tabOK hk [3, 4, 5, 6] [7, 8, 9, 10, 11, 12, 13, 14, 15, 16, 17, 18, 19, 20, 21, 22] [4, 5, 7, 9, 32] [(4, S t1.1), (5, S t1.2.1), (7, I t3), (9, .bool t5.2), (32, .bool (decide (t7 ≥ 0)))] (True) (by kernel_rfl) trivial ?_
      clear hk; intro a hk
      rcases Bool.eq_false_or_eq_true (decide (t7 ≥ 0)) with h12 | h12
      ·
        rw [h12] at hk
        have h13 : t7 ≥ 0 := of_decide_eq_true h12
        refine st_pure tabOK hk [7, 8, 9, 10, 11, 12, 13, 14, 15, 16, 17, 18, 19, 20, 21, 22] [] [4, 5, 48] [(4, S t1.1), (5, S t1.2.1), (48, .bool true)] (True) (by kernel_rfl) trivial ?_
        clear hk; intro a hk
        refine st_done ?_
        have e : ((t1.1 == ([])) || ((decide (t7 ≥ 0)) || ((decide (t3 > 1)) || (bif !(t1.2.1 == ([])) then ((!t5.2) || (decide ((t1.2.1.length : Int) > 5))) else decide ((t1.2.1.length : Int) > 5))))) = true := by first | (simp only [h9, h12]; done) | (simp only [h9, h12]; rfl) | rfl | simp [h9, h12]
        exact J a w ⟨by rw [e]; exact hk.to [4, 5, 48] _ (by kernel_rfl), ho⟩
      ·
        rw [h12] at hk
        have h14 : ¬ (t7 ≥ 0) := of_decide_eq_false h12
        refine st_pure tabOK hk [7, 8, 9, 10] [11, 12, 13, 14, 15, 16, 17, 18, 19, 20, 21, 22] [4, 5, 9, 36] [(4, S t1.1), (5, S t1.2.1), (9, .bool t5.2), (36, .bool (decide (t3 > 1)))] (True) (by kernel_rfl) trivial ?_
        clear hk; intro a hk
        rcases Bool.eq_false_or_eq_true (decide (t3 > 1)) with h15 | h15
        ·
          rw [h15] at hk
          have h16 : t3 > 1 := of_decide_eq_true h15
          refine st_pure tabOK hk [11, 12, 13, 14, 15, 16, 17, 18, 19, 20, 21, 22] [] [4, 5, 48] [(4, S t1.1), (5, S t1.2.1), (48, .bool true)] (True) (by kernel_rfl) trivial ?_
          clear hk; intro a hk
          refine st_done ?_
          have e : ((t1.1 == ([])) || ((decide (t7 ≥ 0)) || ((decide (t3 > 1)) || (bif !(t1.2.1 == ([])) then ((!t5.2) || (decide ((t1.2.1.length : Int) > 5))) else decide ((t1.2.1.length : Int) > 5))))) = true := by first | (simp only [h9, h12, h15]; done) | (simp only [h9, h12, h15]; rfl) | rfl | simp [h9, h12, h15]
          exact J a w ⟨by rw [e]; exact hk.to [4, 5, 48] _ (by kernel_rfl), ho⟩
        ·
          rw [h15] at hk
          have h17 : ¬ (t3 > 1) := of_decide_eq_false h15
          refine st_pure tabOK hk [11, 12, 13] [14, 15, 16, 17, 18, 19, 20, 21, 22] [4, 5, 9, 36, 39] [(4, S t1.1), (5, S t1.2.1), (9, .bool t5.2), (36, .bool false), (39, .bool (!(t1.2.1 == ([]))))] (True) (by kernel_rfl) trivial ?_
          clear hk; intro a hk
          rcases Bool.eq_false_or_eq_true (!(t1.2.1 == ([]))) with h18 | h18
          ·
            rw [h18] at hk
            have h19 : (!(t1.2.1 == ([]))) = true := h18
            refine st_pure tabOK hk [14, 15, 16, 17, 18] [19, 20, 21, 22] [4, 5, 44] [(4, S t1.1), (5, S t1.2.1), (44, .bool (!t5.2))] (True) (by kernel_rfl) trivial ?_
            clear hk; intro a hk
            rcases Bool.eq_false_or_eq_true (!t5.2) with h20 | h20
            ·
              rw [h20] at hk
              have h21 : (!t5.2) = true := h20
              refine st_pure tabOK hk [19, 20, 21, 22] [] [4, 5, 48] [(4, S t1.1), (5, S t1.2.1), (48, .bool true)] (True) (by kernel_rfl) trivial ?_
              clear hk; intro a hk
              refine st_done ?_
              have e : ((t1.1 == ([])) || ((decide (t7 ≥ 0)) || ((decide (t3 > 1)) || (bif !(t1.2.1 == ([])) then ((!t5.2) || (decide ((t1.2.1.length : Int) > 5))) else decide ((t1.2.1.length : Int) > 5))))) = true := by first | (simp only [h9, h12, h15, h18, h20]; done) | (simp only [h9, h12, h15, h18, h20]; rfl) | rfl | simp [h9, h12, h15, h18, h20]
              exact J a w ⟨by rw [e]; exact hk.to [4, 5, 48] _ (by kernel_rfl), ho⟩
            ·
              rw [h20] at hk
              have h22 : ¬ ((!t5.2) = true) := ne_true_of_eq_false h20
              refine st_pure tabOK hk [19, 20, 21, 22] [] [4, 5, 48] [(4, S t1.1), (5, S t1.2.1), (48, .bool (decide ((t1.2.1.length : Int) > 5)))] (True) (by kernel_rfl) trivial ?_
              clear hk; intro a hk
              refine st_done ?_
              have e : ((t1.1 == ([])) || ((decide (t7 ≥ 0)) || ((decide (t3 > 1)) || (bif !(t1.2.1 == ([])) then ((!t5.2) || (decide ((t1.2.1.length : Int) > 5))) else decide ((t1.2.1.length : Int) > 5))))) = (decide ((t1.2.1.length : Int) > 5)) := by first | (simp only [h9, h12, h15, h18, h20]; done) | (simp only [h9, h12, h15, h18, h20]; rfl) | rfl | simp [h9, h12, h15, h18, h20]
              exact J a w ⟨by rw [e]; exact hk.to [4, 5, 48] _ (by kernel_rfl), ho⟩
          ·
            rw [h18] at hk
            have h23 : ¬ ((!(t1.2.1 == ([]))) = true) := ne_true_of_eq_false h18
            refine st_pure tabOK hk [14, 15, 16, 17, 18, 19, 20, 21, 22] [] [4, 5, 48] [(4, S t1.1), (5, S t1.2.1), (48, .bool (decide ((t1.2.1.length : Int) > 5)))] (True) (by kernel_rfl) trivial ?_
            clear hk; intro a hk
            refine st_done ?_
            have e : ((t1.1 == ([])) || ((decide (t7 ≥ 0)) || ((decide (t3 > 1)) || (bif !(t1.2.1 == ([])) then ((!t5.2) || (decide ((t1.2.1.length : Int) > 5))) else decide ((t1.2.1.length : Int) > 5))))) = (decide ((t1.2.1.length : Int) > 5)) := by first | (simp only [h9, h12, h15, h18]; done) | (simp only [h9, h12, h15, h18]; rfl) | rfl | simp [h9, h12, h15, h18]
            exact J a w ⟨by rw [e]; exact hk.to [4, 5, 48] _ (by kernel_rfl), ho⟩
  · rintro a w ⟨hk, ho⟩
    refine st_cond hk (C8 [1, 1, 1, 1, 1, 0, 1, 0]) (C8 [1, 1, 1, 1, 1, 0, 1, 1]) (.tmp 48) (((t1.1 == ([])) || ((decide (t7 ≥ 0)) || ((decide (t3 > 1)) || (bif !(t1.2.1 == ([])) then ((!t5.2) || (decide ((t1.2.1.length : Int) > 5))) else decide ((t1.2.1.length : Int) > 5)))))) (by kernel_rfl) (by kernel_rfl) (fun h24 => ?_) (fun h24 => ?_)
    ·
      have h25 : ((t1.1 == ([])) || ((decide (t7 ≥ 0)) || ((decide (t3 > 1)) || (bif !(t1.2.1 == ([])) then ((!t5.2) || (decide ((t1.2.1.length : Int) > 5))) else decide ((t1.2.1.length : Int) > 5))))) = true := h24
      rw [if_pos h25] at H
      refine st_seq (C8 [1, 1, 1, 1, 1, 0, 1, 0, 0]) (C8 [1, 1, 1, 1, 1, 0, 1, 0, 1]) (by kernel_rfl) ?_
      refine st_region 6 (opsOf (C8 [1, 1, 1, 1, 1, 0, 1, 0, 0])) [0, 1] (by kernel_rfl) (by kernel_rfl) ?_
      refine st_pure tabOK hk [0, 1] [] [2, 3] [(2, S ([])), (3, I 2)] (True) (by kernel_rfl) trivial ?_
      clear hk; intro a hk
      refine st_done ?_
      refine st_retG hk (by kernel_rfl) [S ([]), I 2] #[.tmp 2, .tmp 3] (by kernel_rfl) ⟨resT hk (by kernel_rfl), resT hk (by kernel_rfl), trivial⟩ ?_
      obtain rfl := Option.some.inj H
      exact ⟨_, rfl, rfl, ho⟩
    ·
      have h26 : ¬ (((t1.1 == ([])) || ((decide (t7 ≥ 0)) || ((decide (t3 > 1)) || (bif !(t1.2.1 == ([])) then ((!t5.2) || (decide ((t1.2.1.length : Int) > 5))) else decide ((t1.2.1.length : Int) > 5))))) = true) := ne_true_of_eq_false h24
      rw [if_neg h26] at H
      refine st_skip (by kernel_rfl) ?_
      refine st_seq (C8 [1, 1, 1, 1, 1, 1, 0]) (C8 [1, 1, 1, 1, 1, 1, 1]) (by kernel_rfl) ?_
      refine st_seq (C8 [1, 1, 1, 1, 1, 1, 0, 0]) (C8 [1, 1, 1, 1, 1, 1, 0, 1]) (by kernel_rfl) ?_
      refine st_region 7 (opsOf (C8 [1, 1, 1, 1, 1, 1, 0, 0])) [0, 1, 2] (by kernel_rfl) (by kernel_rfl) ?_
      refine st_pure tabOK hk [0] [1, 2] [5, 49] [(5, S t1.2.1), (49, S t1.1)] (True) (by kernel_rfl) trivial ?_
      clear hk; intro a hk
      obtain ⟨t27, h28, H⟩ := Option.bind_eq_some_iff.1 H
      refine st_call hk 23 [S t1.1] (some 50) enters23 (by kernel_rfl) (ascii_Lower.ok K  t1.1 t27 h28 w ) ?_
      clear hk; rintro a u w ⟨rfl, ho'⟩ hk
      replace ho : Ows [] w0 w [] := ho.call ho'; clear ho'
      refine st_pure tabOK hk [2] [] [4, 5] [(4, S t27), (5, S t1.2.1)] (True) (by kernel_rfl) trivial ?_
      clear hk; intro a hk
      refine st_done ?_
      refine st_seq (C8 [1, 1, 1, 1, 1, 1, 0, 1, 0]) (C8 [1, 1, 1, 1, 1, 1, 0, 1, 1]) (by kernel_rfl) ?_
      refine st_region 8 (opsOf (C8 [1, 1, 1, 1, 1, 1, 0, 1, 0])) [0, 1, 2, 3, 4, 5] (by kernel_rfl) (by kernel_rfl) ?_
      refine st_pure tabOK hk [0, 1, 2] [3, 4, 5] [4, 5, 53] [(4, S t27), (5, S t1.2.1), (53, .bool (t1.2.1 == ([])))] (True) (by kernel_rfl) trivial ?_
      clear hk; intro a hk
      refine cut_ops (fun a w => Kn 62 a [(4, S t27), (5, S t1.2.1), (56, .bool ((t1.2.1 == ([])) || (t1.2.1 == ([56, 48]))))] ∧ Ows [] w0 w []) ?_ ?_
      · intro J
        rcases Bool.eq_false_or_eq_true (t1.2.1 == ([])) with h29 | h29
        ·
          rw [h29] at hk
          have h30 : (t1.2.1 == ([])) = true := h29
          refine st_pure tabOK hk [3, 4, 5] [] [4, 5, 56] [(4, S t27), (5, S t1.2.1), (56, .bool true)] (True) (by kernel_rfl) trivial ?_
          clear hk; intro a hk
          refine st_done ?_
          have e : ((t1.2.1 == ([])) || (t1.2.1 == ([56, 48]))) = true := by first | (simp only [h29]; done) | (simp only [h29]; rfl) | rfl | simp [h29]
          exact J a w ⟨by rw [e]; exact hk.to [4, 5, 56] _ (by kernel_rfl), ho⟩
        ·
          rw [h29] at hk
          have h31 : ¬ ((t1.2.1 == ([])) = true) := ne_true_of_eq_false h29
          refine st_pure tabOK hk [3, 4, 5] [] [4, 5, 56] [(4, S t27), (5, S t1.2.1), (56, .bool (t1.2.1 == ([56, 48])))] (True) (by kernel_rfl) trivial ?_
          clear hk; intro a hk
          refine st_done ?_
          have e : ((t1.2.1 == ([])) || (t1.2.1 == ([56, 48]))) = (t1.2.1 == ([56, 48])) := by first | (simp only [h29]; done) | (simp only [h29]; rfl) | rfl | simp [h29]
          exact J a w ⟨by rw [e]; exact hk.to [4, 5, 56] _ (by kernel_rfl), ho⟩
      · rintro a w ⟨hk, ho⟩
        refine st_cond hk (C8 [1, 1, 1, 1, 1, 1, 0, 1, 1, 0]) (C8 [1, 1, 1, 1, 1, 1, 0, 1, 1, 1]) (.tmp 56) (((t1.2.1 == ([])) || (t1.2.1 == ([56, 48])))) (by kernel_rfl) (by kernel_rfl) (fun h32 => ?_) (fun h32 => ?_)
        ·
          have h33 : ((t1.2.1 == ([])) || (t1.2.1 == ([56, 48]))) = true := h32
          rw [if_pos h33] at H
          refine st_seq (C8 [1, 1, 1, 1, 1, 1, 0, 1, 1, 0, 0]) (C8 [1, 1, 1, 1, 1, 1, 0, 1, 1, 0, 1]) (by kernel_rfl) ?_
          refine st_region 9 (opsOf (C8 [1, 1, 1, 1, 1, 1, 0, 1, 1, 0, 0])) [0, 1, 2] (by kernel_rfl) (by kernel_rfl) ?_
          refine st_pure tabOK hk [0, 1, 2] [] [2, 3] [(2, S t27), (3, I 0)] (True) (by kernel_rfl) trivial ?_
          clear hk; intro a hk
          refine st_done ?_
          refine st_retG hk (by kernel_rfl) [S t27, I 0] #[.tmp 2, .tmp 3] (by kernel_rfl) ⟨resT hk (by kernel_rfl), resT hk (by kernel_rfl), trivial⟩ ?_
          obtain rfl := Option.some.inj H
          exact ⟨_, rfl, rfl, ho⟩
        ·
          have h34 : ¬ (((t1.2.1 == ([])) || (t1.2.1 == ([56, 48]))) = true) := ne_true_of_eq_false h32
          rw [if_neg h34] at H
          refine st_skip (by kernel_rfl) ?_
          refine st_seq (C8 [1, 1, 1, 1, 1, 1, 1, 0]) (C8 [1, 1, 1, 1, 1, 1, 1, 1]) (by kernel_rfl) ?_
          refine st_region 10 (opsOf (C8 [1, 1, 1, 1, 1, 1, 1, 0])) [0, 1, 2, 3, 4, 5] (by kernel_rfl) (by kernel_rfl) ?_
          have h35 : t27.length + ([58]).length ≤ maxI := by
            by_cases h35 : t27.length + ([58]).length ≤ maxI
            · exact h35
            · rw [if_neg h35] at H; cases H
          rw [if_pos h35] at H
          have h36 : (t27 ++ ([58])).length + t1.2.1.length ≤ maxI := by
            by_cases h36 : (t27 ++ ([58])).length + t1.2.1.length ≤ maxI
            · exact h36
            · rw [if_neg h36] at H; cases H
          rw [if_pos h36] at H
          refine st_pure tabOK hk [0, 1, 2, 3, 4, 5] [] [2, 3] [(2, S ((t27 ++ ([58])) ++ t1.2.1)), (3, I 0)] (t27.length + ([58]).length ≤ maxI ∧ ((t27 ++ ([58])).length + t1.2.1.length ≤ maxI ∧ True)) (by kernel_rfl) ⟨h35, ⟨h36, trivial⟩⟩ ?_
          clear hk; intro a hk
          refine st_done ?_
          refine st_retG hk (by kernel_rfl) [S ((t27 ++ ([58])) ++ t1.2.1), I 0] #[.tmp 2, .tmp 3] (by kernel_rfl) ⟨resT hk (by kernel_rfl), resT hk (by kernel_rfl), trivial⟩ ?_
          obtain rfl := Option.some.inj H
          exact ⟨_, rfl, rfl, ho⟩


/-! strings.shouldUseASCIISet: function 63 -/
noncomputable def C63 (p : List Nat) : Code := Sub (bodyOf f63) p
def strings_shouldUseASCIISet.f (p0 : Int) : Option (Bool) := some (decide (p0 > 8))
abbrev strings_shouldUseASCIISet.post (w0 : World) (r : Bool) (u : Value) (w : World) : Prop := u = .bool r ∧ Ows [] w0 w []
theorem strings_shouldUseASCIISet.ok (p0 : Int) (r : Bool) (H : strings_shouldUseASCIISet.f p0 = some r) (w0 : World)  : Calls Tryd.prog 63 ⟨[I p0]⟩ w0 fun e w => ∃ u, e = .returned u ∧ strings_shouldUseASCIISet.post w0 r u w := by
  unfold strings_shouldUseASCIISet.f at H
  refine st_start (N := 5) [I p0] (C63 []) func63 (by kernel_rfl) (by kernel_rfl) (by kernel_rfl) ?_
  intro a w hk ho
  refine st_seq (C63 [0]) (C63 [1]) (by kernel_rfl) ?_
  refine st_region 0 (opsOf (C63 [0])) [0] (by kernel_rfl) (by kernel_rfl) ?_
  refine st_pure tabOK hk [0] [] [0] [(0, I p0)] (True) (by kernel_rfl) trivial ?_
  clear hk; intro a hk
  refine st_done ?_
  refine st_seq (C63 [1, 0]) (C63 [1, 1]) (by kernel_rfl) ?_
  refine st_region 1 (opsOf (C63 [1, 0])) [0, 1, 2] (by kernel_rfl) (by kernel_rfl) ?_
  refine st_pure tabOK hk [0, 1, 2] [] [2] [(2, .bool (decide (p0 > 8)))] (True) (by kernel_rfl) trivial ?_
  clear hk; intro a hk
  refine st_done ?_
  refine st_retG hk (by kernel_rfl) [.bool (decide (p0 > 8))] #[.tmp 2] (by kernel_rfl) ⟨resT hk (by kernel_rfl), trivial⟩ ?_
  obtain rfl := Option.some.inj H
  exact ⟨_, rfl, rfl, ho⟩


/-! strings.IndexAny: function 46 -/
noncomputable def C46 (p : List Nat) : Code := Sub (bodyOf f46) p
def strings_IndexAny.f (p0 : Str) (p1 : Str) : Option (Int) := (if (p1 == ([])) = true then some (-1) else (if ((p1.length : Int) == 1) = true then (if 0 < (p1.length : Int) then (((if IntKind.i32.wrap (bt p1 0) ≥ 128 then some 65533 else some (IntKind.i32.wrap (bt p1 0)))).bind fun m7 => ((strings_IndexRune.f p0 m7).bind fun t11 => some t11)) else none) else none))
abbrev strings_IndexAny.post (w0 : World) (r : Int) (u : Value) (w : World) : Prop := u = I r ∧ Ows [] w0 w []
theorem strings_IndexAny.ok (p0 : Str) (p1 : Str) (r : Int) (H : strings_IndexAny.f p0 p1 = some r) (w0 : World)  : Calls Tryd.prog 46 ⟨[S p0, S p1]⟩ w0 fun e w => ∃ u, e = .returned u ∧ strings_IndexAny.post w0 r u w := by
  unfold strings_IndexAny.f at H
  refine st_start (N := 55) [S p0, S p1] (C46 []) func46 (by kernel_rfl) (by kernel_rfl) (by kernel_rfl) ?_
  intro a w hk ho
  refine st_seq (C46 [0]) (C46 [1]) (by kernel_rfl) ?_
  refine st_region 0 (opsOf (C46 [0])) [0] (by kernel_rfl) (by kernel_rfl) ?_
  refine st_pure tabOK hk [0] [] [0, 1] [(0, S p0), (1, S p1)] (True) (by kernel_rfl) trivial ?_
  clear hk; intro a hk
  refine st_done ?_
  refine st_seq (C46 [1, 0]) (C46 [1, 1]) (by kernel_rfl) ?_
  refine st_seq (C46 [1, 0, 0]) (C46 [1, 0, 1]) (by kernel_rfl) ?_
  refine st_region 1 (opsOf (C46 [1, 0, 0])) [0, 1] (by kernel_rfl) (by kernel_rfl) ?_
  refine st_pure tabOK hk [0, 1] [] [0, 1, 12] [(0, S p0), (1, S p1), (12, .bool (p1 == ([])))] (True) (by kernel_rfl) trivial ?_
  clear hk; intro a hk
  refine st_done ?_
  refine st_cond hk (C46 [1, 0, 1, 0]) (C46 [1, 0, 1, 1]) (.tmp 12) (p1 == ([])) (by kernel_rfl) (by kernel_rfl) (fun h1 => ?_) (fun h1 => ?_)
  ·
    have h2 : (p1 == ([])) = true := h1
    rw [if_pos h2] at H
    refine st_seq (C46 [1, 0, 1, 0, 0]) (C46 [1, 0, 1, 0, 1]) (by kernel_rfl) ?_
    refine st_region 2 (opsOf (C46 [1, 0, 1, 0, 0])) [0] (by kernel_rfl) (by kernel_rfl) ?_
    refine st_pure tabOK hk [0] [] [4] [(4, I (-1))] (True) (by kernel_rfl) trivial ?_
    clear hk; intro a hk
    refine st_done ?_
    refine st_retG hk (by kernel_rfl) [I (-1)] #[.tmp 4] (by kernel_rfl) ⟨resT hk (by kernel_rfl), trivial⟩ ?_
    obtain rfl := Option.some.inj H
    exact ⟨_, rfl, rfl, ho⟩
  ·
    have h3 : ¬ ((p1 == ([])) = true) := ne_true_of_eq_false h1
    rw [if_neg h3] at H
    refine st_skip (by kernel_rfl) ?_
    refine st_seq (C46 [1, 1, 0]) (C46 [1, 1, 1]) (by kernel_rfl) ?_
    refine st_seq (C46 [1, 1, 0, 0]) (C46 [1, 1, 0, 1]) (by kernel_rfl) ?_
    refine st_region 3 (opsOf (C46 [1, 1, 0, 0])) [0, 1, 2] (by kernel_rfl) (by kernel_rfl) ?_
    refine st_pure tabOK hk [0, 1, 2] [] [0, 1, 15] [(0, S p0), (1, S p1), (15, .bool ((p1.length : Int) == 1))] (True) (by kernel_rfl) trivial ?_
    clear hk; intro a hk
    refine st_done ?_
    refine st_cond hk (C46 [1, 1, 0, 1, 0]) (C46 [1, 1, 0, 1, 1]) (.tmp 15) ((p1.length : Int) == 1) (by kernel_rfl) (by kernel_rfl) (fun h4 => ?_) (fun h4 => ?_)
    ·
      have h5 : ((p1.length : Int) == 1) = true := h4
      rw [if_pos h5] at H
      refine st_seq (C46 [1, 1, 0, 1, 0, 0]) (C46 [1, 1, 0, 1, 0, 1]) (by kernel_rfl) ?_
      refine st_region 4 (opsOf (C46 [1, 1, 0, 1, 0, 0])) [0, 1, 2, 3] (by kernel_rfl) (by kernel_rfl) ?_
      have h6 : 0 < (p1.length : Int) := by
        by_cases h6 : 0 < (p1.length : Int)
        · exact h6
        · rw [if_neg h6] at H; cases H
      rw [if_pos h6] at H
      refine st_pure tabOK hk [0, 1, 2, 3] [] [0, 5] [(0, S p0), (5, .int .i32 (IntKind.i32.wrap (bt p1 0)))] (((0 : Int) ≤ 0 ∧ 0 < (p1.length : Int)) ∧ True) (by kernel_rfl) ⟨⟨(by decide), h6⟩, trivial⟩ ?_
      clear hk; intro a hk
      refine st_done ?_
      refine st_seq (C46 [1, 1, 0, 1, 0, 1, 0]) (C46 [1, 1, 0, 1, 0, 1, 1]) (by kernel_rfl) ?_
      refine st_seq (C46 [1, 1, 0, 1, 0, 1, 0, 0]) (C46 [1, 1, 0, 1, 0, 1, 0, 1]) (by kernel_rfl) ?_
      refine st_region 5 (opsOf (C46 [1, 1, 0, 1, 0, 1, 0, 0])) [0, 1] (by kernel_rfl) (by kernel_rfl) ?_
      refine st_pure tabOK hk [0, 1] [] [0, 5, 20] [(0, S p0), (5, .int .i32 (IntKind.i32.wrap (bt p1 0))), (20, .bool (decide (IntKind.i32.wrap (bt p1 0) ≥ 128)))] (True) (by kernel_rfl) trivial ?_
      clear hk; intro a hk
      refine st_done ?_
      obtain ⟨m7, HX, H⟩ := Option.bind_eq_some_iff.1 H
      refine cut_code (fun a w => Kn 55 a [(0, S p0), (5, .int .i32 m7)] ∧ Ows [] w0 w []) ?_ ?_
      · intro J; clear H; have H := HX; clear HX
        refine st_cond hk (C46 [1, 1, 0, 1, 0, 1, 0, 1, 0]) (C46 [1, 1, 0, 1, 0, 1, 0, 1, 1]) (.tmp 20) (decide (IntKind.i32.wrap (bt p1 0) ≥ 128)) (by kernel_rfl) (by kernel_rfl) (fun h8 => ?_) (fun h8 => ?_)
        ·
          have h9 : IntKind.i32.wrap (bt p1 0) ≥ 128 := of_decide_eq_true h8
          rw [if_pos h9] at H
          refine st_region 6 (opsOf (C46 [1, 1, 0, 1, 0, 1, 0, 1, 0])) [0] (by kernel_rfl) (by kernel_rfl) ?_
          refine st_pure tabOK hk [0] [] [0, 5] [(0, S p0), (5, .int .i32 65533)] (True) (by kernel_rfl) trivial ?_
          clear hk; intro a hk
          refine st_done ?_
          obtain rfl := Option.some.inj H
          exact J a w ⟨hk.to [0, 5] _ (by kernel_rfl), ho⟩
        ·
          have h10 : ¬ (IntKind.i32.wrap (bt p1 0) ≥ 128) := of_decide_eq_false h8
          rw [if_neg h10] at H
          refine st_skip (by kernel_rfl) ?_
          obtain rfl := Option.some.inj H
          exact J a w ⟨hk.to [0, 5] _ (by kernel_rfl), ho⟩
      · clear HX; rintro a w ⟨hk, ho⟩
        refine st_seq (C46 [1, 1, 0, 1, 0, 1, 1, 0]) (C46 [1, 1, 0, 1, 0, 1, 1, 1]) (by kernel_rfl) ?_
        refine st_region 7 (opsOf (C46 [1, 1, 0, 1, 0, 1, 1, 0])) [0, 1, 2, 3] (by kernel_rfl) (by kernel_rfl) ?_
        refine st_pure tabOK hk [0, 1] [2, 3] [21, 22] [(21, S p0), (22, .int .i32 m7)] (True) (by kernel_rfl) trivial ?_
        clear hk; intro a hk
        obtain ⟨t11, h12, H⟩ := Option.bind_eq_some_iff.1 H
        refine st_call hk 42 [S p0, .int .i32 m7] (some 23) enters42 (by kernel_rfl) (strings_IndexRune.ok  p0 m7 t11 h12 w ) ?_
        clear hk; rintro a u w ⟨rfl, ho'⟩ hk
        replace ho : Ows [] w0 w [] := ho.call ho'; clear ho'
        refine st_pure tabOK hk [3] [] [4] [(4, I t11)] (True) (by kernel_rfl) trivial ?_
        clear hk; intro a hk
        refine st_done ?_
        refine st_retG hk (by kernel_rfl) [I t11] #[.tmp 4] (by kernel_rfl) ⟨resT hk (by kernel_rfl), trivial⟩ ?_
        obtain rfl := Option.some.inj H
        exact ⟨_, rfl, rfl, ho⟩
    ·
      have h13 : ¬ (((p1.length : Int) == 1) = true) := ne_true_of_eq_false h4
      rw [if_neg h13] at H
      exact nomatch H


/-! scullery/target.whole: function 31 -/
noncomputable def C31 (p : List Nat) : Code := Sub (bodyOf f31) p
def target_whole.f (K : Nat) (p0 : Str) (p1 : Str) : Option (Str × Str) := ((((if (p1.length : Int) < 7 then some true else (if 7 ≤ (p1.length : Int) then ((ascii_Lower.f K (p1.take 7)).bind fun t6 => some (!(t6 == ([104, 116, 116, 112, 58, 47, 47])))) else none))).bind fun m1 => (if m1 = true then some (p0, p1) else (if 7 ≤ (p1.length : Int) then ((strings_IndexAny.f (p1.drop 7) ([47, 63])).bind fun t12 => (if t12 ≥ 0 then (if (0 : Int) ≤ t12 then (if t12 ≤ ((p1.drop 7).length : Int) then some ((p1.drop 7).take t12.toNat, (p1.drop 7).drop t12.toNat) else none) else none) else some (p1.drop 7, []))) else none))))
abbrev target_whole.post (w0 : World) (r : Str × Str) (u : Value) (w : World) : Prop := u = .tuple #[S r.1, S r.2] ∧ Ows [] w0 w []
theorem target_whole.ok (K : Nat) (p0 : Str) (p1 : Str) (r : Str × Str) (H : target_whole.f K p0 p1 = some r) (w0 : World)  : Calls Tryd.prog 31 ⟨[S p0, S p1]⟩ w0 fun e w => ∃ u, e = .returned u ∧ target_whole.post w0 r u w := by
  unfold target_whole.f at H
  refine st_start (N := 32) [S p0, S p1] (C31 []) func31 (by kernel_rfl) (by kernel_rfl) (by kernel_rfl) ?_
  intro a w hk ho
  refine st_seq (C31 [0]) (C31 [1]) (by kernel_rfl) ?_
  refine st_region 0 (opsOf (C31 [0])) [0, 1] (by kernel_rfl) (by kernel_rfl) ?_
  refine st_pure tabOK hk [0, 1] [] [0, 1] [(0, S p0), (1, S p1)] (True) (by kernel_rfl) trivial ?_
  clear hk; intro a hk
  refine st_done ?_
  refine st_seq (C31 [1, 0]) (C31 [1, 1]) (by kernel_rfl) ?_
  refine st_seq (C31 [1, 0, 0]) (C31 [1, 0, 1]) (by kernel_rfl) ?_
  refine st_region 1 (opsOf (C31 [1, 0, 0])) [0, 1, 2, 3, 4, 5, 6, 7, 8] (by kernel_rfl) (by kernel_rfl) ?_
  refine st_pure tabOK hk [0, 1, 2, 3] [4, 5, 6, 7, 8] [0, 1, 11] [(0, S p0), (1, S p1), (11, .bool (decide ((p1.length : Int) < 7)))] (True) (by kernel_rfl) trivial ?_
  clear hk; intro a hk
  obtain ⟨m1, HX, H⟩ := Option.bind_eq_some_iff.1 H
  refine cut_ops (fun a w => Kn 32 a [(0, S p0), (1, S p1), (16, .bool m1)] ∧ Ows [] w0 w []) ?_ ?_
  · intro J; clear H; have H := HX; clear HX
    rcases Bool.eq_false_or_eq_true (decide ((p1.length : Int) < 7)) with h2 | h2
    ·
      rw [h2] at hk
      have h3 : (p1.length : Int) < 7 := of_decide_eq_true h2
      rw [if_pos h3] at H
      refine st_pure tabOK hk [4, 5, 6, 7, 8] [] [0, 1, 16] [(0, S p0), (1, S p1), (16, .bool true)] (True) (by kernel_rfl) trivial ?_
      clear hk; intro a hk
      refine st_done ?_
      obtain rfl := Option.some.inj H
      exact J a w ⟨hk.to [0, 1, 16] _ (by kernel_rfl), ho⟩
    ·
      rw [h2] at hk
      have h4 : ¬ ((p1.length : Int) < 7) := of_decide_eq_false h2
      rw [if_neg h4] at H
      have h5 : 7 ≤ (p1.length : Int) := by
        by_cases h5 : 7 ≤ (p1.length : Int)
        · exact h5
        · rw [if_neg h5] at H; cases H
      rw [if_pos h5] at H
      refine st_pure tabOK hk [4, 5] [6, 7, 8] [0, 1, 11, 13] [(0, S p0), (1, S p1), (11, .bool false), (13, S (p1.take 7))] (((0 : Int) ≤ 7 ∧ 7 ≤ (p1.length : Int)) ∧ True) (by kernel_rfl) ⟨⟨(by decide), h5⟩, trivial⟩ ?_
      clear hk; intro a hk
      obtain ⟨t6, h7, H⟩ := Option.bind_eq_some_iff.1 H
      refine st_call hk 23 [S (p1.take 7)] (some 14) enters23 (by kernel_rfl) (ascii_Lower.ok K  (p1.take 7) t6 h7 w ) ?_
      clear hk; rintro a u w ⟨rfl, ho'⟩ hk
      replace ho : Ows [] w0 w [] := ho.call ho'; clear ho'
      refine st_pure tabOK hk [7, 8] [] [0, 1, 16] [(0, S p0), (1, S p1), (16, .bool (!(t6 == ([104, 116, 116, 112, 58, 47, 47]))))] (True) (by kernel_rfl) trivial ?_
      clear hk; intro a hk
      refine st_done ?_
      obtain rfl := Option.some.inj H
      exact J a w ⟨hk.to [0, 1, 16] _ (by kernel_rfl), ho⟩
  · clear HX; rintro a w ⟨hk, ho⟩
    refine st_cond hk (C31 [1, 0, 1, 0]) (C31 [1, 0, 1, 1]) (.tmp 16) (m1) (by kernel_rfl) (by kernel_rfl) (fun h8 => ?_) (fun h8 => ?_)
    ·
      have h9 : m1 = true := h8
      rw [if_pos h9] at H
      refine st_seq (C31 [1, 0, 1, 0, 0]) (C31 [1, 0, 1, 0, 1]) (by kernel_rfl) ?_
      refine st_region 2 (opsOf (C31 [1, 0, 1, 0, 0])) [0, 1, 2, 3] (by kernel_rfl) (by kernel_rfl) ?_
      refine st_pure tabOK hk [0, 1, 2, 3] [] [4, 5] [(4, S p0), (5, S p1)] (True) (by kernel_rfl) trivial ?_
      clear hk; intro a hk
      refine st_done ?_
      refine st_retG hk (by kernel_rfl) [S p0, S p1] #[.tmp 4, .tmp 5] (by kernel_rfl) ⟨resT hk (by kernel_rfl), resT hk (by kernel_rfl), trivial⟩ ?_
      obtain rfl := Option.some.inj H
      exact ⟨_, rfl, rfl, ho⟩
    ·
      have h10 : ¬ (m1 = true) := ne_true_of_eq_false h8
      rw [if_neg h10] at H
      refine st_skip (by kernel_rfl) ?_
      refine st_seq (C31 [1, 1, 0]) (C31 [1, 1, 1]) (by kernel_rfl) ?_
      refine st_region 3 (opsOf (C31 [1, 1, 0])) [0, 1, 2] (by kernel_rfl) (by kernel_rfl) ?_
      have h11 : 7 ≤ (p1.length : Int) := by
        by_cases h11 : 7 ≤ (p1.length : Int)
        · exact h11
        · rw [if_neg h11] at H; cases H
      rw [if_pos h11] at H
      refine st_pure tabOK hk [0, 1, 2] [] [6] [(6, S (p1.drop 7))] (((0 : Int) ≤ 7 ∧ 7 ≤ (p1.length : Int)) ∧ True) (by kernel_rfl) ⟨⟨(by decide), h11⟩, trivial⟩ ?_
      clear hk; intro a hk
      refine st_done ?_
      refine st_seq (C31 [1, 1, 1, 0]) (C31 [1, 1, 1, 1]) (by kernel_rfl) ?_
      refine st_seq (C31 [1, 1, 1, 0, 0]) (C31 [1, 1, 1, 0, 1]) (by kernel_rfl) ?_
      refine st_region 4 (opsOf (C31 [1, 1, 1, 0, 0])) [0, 1, 2] (by kernel_rfl) (by kernel_rfl) ?_
      refine st_pure tabOK hk [0] [1, 2] [6, 21] [(6, S (p1.drop 7)), (21, S (p1.drop 7))] (True) (by kernel_rfl) trivial ?_
      clear hk; intro a hk
      obtain ⟨t12, h13, H⟩ := Option.bind_eq_some_iff.1 H
      refine st_call hk 46 [S (p1.drop 7), S ([47, 63])] (some 22) enters46 (by kernel_rfl) (strings_IndexAny.ok  (p1.drop 7) ([47, 63]) t12 h13 w ) ?_
      clear hk; rintro a u w ⟨rfl, ho'⟩ hk
      replace ho : Ows [] w0 w [] := ho.call ho'; clear ho'
      refine st_pure tabOK hk [2] [] [6, 7] [(6, S (p1.drop 7)), (7, I t12)] (True) (by kernel_rfl) trivial ?_
      clear hk; intro a hk
      refine st_done ?_
      refine st_seq (C31 [1, 1, 1, 0, 1, 0]) (C31 [1, 1, 1, 0, 1, 1]) (by kernel_rfl) ?_
      refine st_region 5 (opsOf (C31 [1, 1, 1, 0, 1, 0])) [0, 1] (by kernel_rfl) (by kernel_rfl) ?_
      refine st_pure tabOK hk [0, 1] [] [6, 7, 24] [(6, S (p1.drop 7)), (7, I t12), (24, .bool (decide (t12 ≥ 0)))] (True) (by kernel_rfl) trivial ?_
      clear hk; intro a hk
      refine st_done ?_
      refine st_cond hk (C31 [1, 1, 1, 0, 1, 1, 0]) (C31 [1, 1, 1, 0, 1, 1, 1]) (.tmp 24) (decide (t12 ≥ 0)) (by kernel_rfl) (by kernel_rfl) (fun h14 => ?_) (fun h14 => ?_)
      ·
        have h15 : t12 ≥ 0 := of_decide_eq_true h14
        rw [if_pos h15] at H
        refine st_seq (C31 [1, 1, 1, 0, 1, 1, 0, 0]) (C31 [1, 1, 1, 0, 1, 1, 0, 1]) (by kernel_rfl) ?_
        refine st_draw ho 6 (opsOf (C31 [1, 1, 1, 0, 1, 1, 0, 0])) [0, 1, 2, 3, 4, 5, 6, 7] (by kernel_rfl) (by kernel_rfl) (by kernel_rfl) ?_
        clear ho; intro w ho
        have h16 : (0 : Int) ≤ t12 := by
          by_cases h16 : (0 : Int) ≤ t12
          · exact h16
          · rw [if_neg h16] at H; cases H
        rw [if_pos h16] at H
        have h17 : t12 ≤ ((p1.drop 7).length : Int) := by
          by_cases h17 : t12 ≤ ((p1.drop 7).length : Int)
          · exact h17
          · rw [if_neg h17] at H; cases H
        rw [if_pos h17] at H
        refine any_pure tabOK hk [0, 1, 2, 3, 4, 5, 6, 7] [0, 1, 2, 3, 4, 5, 6, 7] [] [4, 5] [(4, S ((p1.drop 7).take t12.toNat)), (5, S ((p1.drop 7).drop t12.toNat))] (((0 : Int) ≤ t12 ∧ t12 ≤ ((p1.drop 7).length : Int)) ∧ (((0 : Int) ≤ t12 ∧ t12 ≤ ((p1.drop 7).length : Int)) ∧ True)) (by kernel_rfl) (by kernel_rfl) (by kernel_rfl) ⟨⟨h16, h17⟩, ⟨⟨h16, h17⟩, trivial⟩⟩ ?_
        clear hk; intro a hk
        refine any_end ?_
        refine st_retG hk (by kernel_rfl) [S ((p1.drop 7).take t12.toNat), S ((p1.drop 7).drop t12.toNat)] #[.tmp 4, .tmp 5] (by kernel_rfl) ⟨resT hk (by kernel_rfl), resT hk (by kernel_rfl), trivial⟩ ?_
        obtain rfl := Option.some.inj H
        exact ⟨_, rfl, rfl, ho⟩
      ·
        have h18 : ¬ (t12 ≥ 0) := of_decide_eq_false h14
        rw [if_neg h18] at H
        refine st_skip (by kernel_rfl) ?_
        refine st_seq (C31 [1, 1, 1, 1, 0]) (C31 [1, 1, 1, 1, 1]) (by kernel_rfl) ?_
        refine st_region 7 (opsOf (C31 [1, 1, 1, 1, 0])) [0, 1, 2] (by kernel_rfl) (by kernel_rfl) ?_
        refine st_pure tabOK hk [0, 1, 2] [] [4, 5] [(4, S (p1.drop 7)), (5, S ([]))] (True) (by kernel_rfl) trivial ?_
        clear hk; intro a hk
        refine st_done ?_
        refine st_retG hk (by kernel_rfl) [S (p1.drop 7), S ([])] #[.tmp 4, .tmp 5] (by kernel_rfl) ⟨resT hk (by kernel_rfl), resT hk (by kernel_rfl), trivial⟩ ?_
        obtain rfl := Option.some.inj H
        exact ⟨_, rfl, rfl, ho⟩


/-! internal/strconv.lower: function 56 -/
noncomputable def C56 (p : List Nat) : Code := Sub (bodyOf f56) p
def strconv_lower.f (p0 : Int) : Option (Int) := some (bitI .or .u8 p0 32)
abbrev strconv_lower.post (w0 : World) (r : Int) (u : Value) (w : World) : Prop := u = .int .u8 r ∧ Ows [] w0 w []
theorem strconv_lower.ok (p0 : Int) (r : Int) (H : strconv_lower.f p0 = some r) (w0 : World)  : Calls Tryd.prog 56 ⟨[.int .u8 p0]⟩ w0 fun e w => ∃ u, e = .returned u ∧ strconv_lower.post w0 r u w := by
  unfold strconv_lower.f at H
  refine st_start (N := 5) [.int .u8 p0] (C56 []) func56 (by kernel_rfl) (by kernel_rfl) (by kernel_rfl) ?_
  intro a w hk ho
  refine st_seq (C56 [0]) (C56 [1]) (by kernel_rfl) ?_
  refine st_region 0 (opsOf (C56 [0])) [0] (by kernel_rfl) (by kernel_rfl) ?_
  refine st_pure tabOK hk [0] [] [0] [(0, .int .u8 p0)] (True) (by kernel_rfl) trivial ?_
  clear hk; intro a hk
  refine st_done ?_
  refine st_seq (C56 [1, 0]) (C56 [1, 1]) (by kernel_rfl) ?_
  refine st_region 1 (opsOf (C56 [1, 0])) [0, 1, 2] (by kernel_rfl) (by kernel_rfl) ?_
  refine st_pure tabOK hk [0, 1, 2] [] [2] [(2, .int .u8 (bitI .or .u8 p0 32))] (True) (by kernel_rfl) trivial ?_
  clear hk; intro a hk
  refine st_done ?_
  refine st_retG hk (by kernel_rfl) [.int .u8 (bitI .or .u8 p0 32)] #[.tmp 2] (by kernel_rfl) ⟨resT hk (by kernel_rfl), trivial⟩ ?_
  obtain rfl := Option.some.inj H
  exact ⟨_, rfl, rfl, ho⟩


/-! internal/strconv.underscoreOK: function 57 -/
noncomputable def C57 (p : List Nat) : Code := Sub (bodyOf f57) p
def strconv_underscoreOK.l0 : Nat → Str → Int → Int → Bool → Option ((Int) ⊕ (Bool))
  | 0, _, _, _, _ => none
  | k + 1, m9, v42, v43, v44 => (if v43 < (m9.length : Int) then (if (0 : Int) ≤ v43 then (((if 48 ≤ bt m9 v43 then (if bt m9 v43 ≤ 57 then some (v44, true) else (if v44 = true then ((strconv_lower.f (bt m9 v43)).bind fun t56 => (if 97 ≤ t56 then ((strconv_lower.f (bt m9 v43)).bind fun t60 => some (true, decide (t60 ≤ 102))) else some (true, false))) else some (false, false))) else (if v44 = true then ((strconv_lower.f (bt m9 v43)).bind fun t67 => (if 97 ≤ t67 then ((strconv_lower.f (bt m9 v43)).bind fun t71 => some (true, decide (t71 ≤ 102))) else some (true, false))) else some (false, false)))).bind fun m48 => (if m48.2 = true then strconv_underscoreOK.l0 k m9 48 (w64 (v43 + 1)) m48.1 else (if ((bt m9 v43) == 95) = true then (if (v42 != 48) = true then some (.inr false) else strconv_underscoreOK.l0 k m9 95 (w64 (v43 + 1)) m48.1) else (if (v42 == 95) = true then some (.inr false) else strconv_underscoreOK.l0 k m9 33 (w64 (v43 + 1)) m48.1)))) else none) else some (.inl v42))
def strconv_underscoreOK.f (K : Nat) (p0 : Str) : Option (Bool) := ((((if (p0.length : Int) ≥ 1 then (if 0 < (p0.length : Int) then (if ((bt p0 0) == 45) = true then some true else some ((bt p0 0) == 43)) else none) else some false)).bind fun m1 => (((if m1 = true then (if 1 ≤ (p0.length : Int) then some (p0.drop 1) else none) else some p0)).bind fun m9 => (((if (m9.length : Int) ≥ 2 then (if 0 < (m9.length : Int) then (if ((bt m9 0) == 48) = true then (if 1 < (m9.length : Int) then ((strconv_lower.f (bt m9 1)).bind fun t21 => (if (t21 == 98) = true then some true else ((strconv_lower.f (bt m9 1)).bind fun t26 => (if (t26 == 111) = true then some true else ((strconv_lower.f (bt m9 1)).bind fun t31 => some (t31 == 120)))))) else none) else some false) else none) else some false)).bind fun m14 => (((if m14 = true then (if 1 < (m9.length : Int) then ((strconv_lower.f (bt m9 1)).bind fun t39 => some (48, 2, t39 == 120)) else none) else some (94, 0, false))).bind fun m35 => ((strconv_underscoreOK.l0 K m9 m35.1 m35.2.1 m35.2.2).bind fun m88 => match m88 with | .inl s90 => some (s90 != 95) | .inr r91 => some r91))))))
abbrev strconv_underscoreOK.post (w0 : World) (r : Bool) (u : Value) (w : World) : Prop := u = .bool r ∧ Ows [] w0 w []
theorem strconv_underscoreOK.l0_ok : ∀ (k : Nat) (m9 : Str) (v42 : Int) (v43 : Int) (v44 : Bool) (out : (Int) ⊕ (Bool)), strconv_underscoreOK.l0 k m9 v42 v43 v44 = some out → ∀ (w0 : World) (Q : Exit → Act → World → Prop) (rest : List It) (a : Act) (w : World), Kn 94 a [(0, S m9), (3, .int .i32 v42), (4, I v43), (5, .bool v44)] → Ows [] w0 w [] → (∀ (s : Int) (a : Act) (w : World), out = .inl s → Kn 94 a [(3, .int .i32 s)] → Ows [] w0 w [] → G Tryd.prog Q rest a w) → (∀ (r : Bool) (a : Act) (w : World), out = .inr r → Kn 94 a [(2, .bool r)] → Ows [] w0 w [] → Q .ret a w) → G Tryd.prog Q (.code (C57 [1, 1, 1, 1, 1, 1, 0, 0, 0]) :: .inl (C57 [1, 1, 1, 1, 1, 1, 0, 0, 0]) :: .endb 0 :: rest) a w := by
  intro k
  induction k with
  | zero => intro m9 v42 v43 v44 out H; simp [strconv_underscoreOK.l0] at H
  | succ k ih =>
    intro m9 v42 v43 v44 out H  w0 Q rest a w  hk ho J R
    simp only [strconv_underscoreOK.l0] at H
    refine st_seq (C57 [1, 1, 1, 1, 1, 1, 0, 0, 0, 0]) (C57 [1, 1, 1, 1, 1, 1, 0, 0, 0, 1]) (by kernel_rfl) ?_
    refine st_seq (C57 [1, 1, 1, 1, 1, 1, 0, 0, 0, 0, 0]) (C57 [1, 1, 1, 1, 1, 1, 0, 0, 0, 0, 1]) (by kernel_rfl) ?_
    refine st_region 10 (opsOf (C57 [1, 1, 1, 1, 1, 1, 0, 0, 0, 0, 0])) [0, 1, 2, 3] (by kernel_rfl) (by kernel_rfl) ?_
    refine st_pure tabOK hk [0, 1, 2, 3] [] [0, 3, 4, 5, 54] [(0, S m9), (3, .int .i32 v42), (4, I v43), (5, .bool v44), (54, .bool (decide (v43 < (m9.length : Int))))] (True) (by kernel_rfl) trivial ?_
    clear hk; intro a hk
    refine st_done ?_
    refine st_cond hk (C57 [1, 1, 1, 1, 1, 1, 0, 0, 0, 0, 1, 0]) (C57 [1, 1, 1, 1, 1, 1, 0, 0, 0, 0, 1, 1]) (.tmp 54) (decide (v43 < (m9.length : Int))) (by kernel_rfl) (by kernel_rfl) (fun h45 => ?_) (fun h45 => ?_)
    ·
      have h46 : v43 < (m9.length : Int) := of_decide_eq_true h45
      rw [if_pos h46] at H
      refine st_skip (by kernel_rfl) ?_
      refine st_seq (C57 [1, 1, 1, 1, 1, 1, 0, 0, 0, 1, 0]) (C57 [1, 1, 1, 1, 1, 1, 0, 0, 0, 1, 1]) (by kernel_rfl) ?_
      refine st_block 1 (C57 [1, 1, 1, 1, 1, 1, 0, 0, 0, 1, 0, 0]) (by kernel_rfl) ?_
      refine st_seq (C57 [1, 1, 1, 1, 1, 1, 0, 0, 0, 1, 0, 0, 0]) (C57 [1, 1, 1, 1, 1, 1, 0, 0, 0, 1, 0, 0, 1]) (by kernel_rfl) ?_
      refine st_seq (C57 [1, 1, 1, 1, 1, 1, 0, 0, 0, 1, 0, 0, 0, 0]) (C57 [1, 1, 1, 1, 1, 1, 0, 0, 0, 1, 0, 0, 0, 1]) (by kernel_rfl) ?_
      refine st_region 12 (opsOf (C57 [1, 1, 1, 1, 1, 1, 0, 0, 0, 1, 0, 0, 0, 0])) [0, 1, 2, 3, 4, 5, 6, 7, 8, 9, 10, 11, 12, 13, 14, 15, 16, 17, 18, 19, 20, 21, 22, 23, 24, 25, 26] (by kernel_rfl) (by kernel_rfl) ?_
      have h47 : (0 : Int) ≤ v43 := by
        by_cases h47 : (0 : Int) ≤ v43
        · exact h47
        · rw [if_neg h47] at H; cases H
      rw [if_pos h47] at H
      refine st_pure tabOK hk [0, 1, 2, 3, 4] [5, 6, 7, 8, 9, 10, 11, 12, 13, 14, 15, 16, 17, 18, 19, 20, 21, 22, 23, 24, 25, 26] [0, 3, 4, 5, 61] [(0, S m9), (3, .int .i32 v42), (4, I v43), (5, .bool v44), (61, .bool (decide (48 ≤ bt m9 v43)))] (((0 : Int) ≤ v43 ∧ v43 < (m9.length : Int)) ∧ True) (by kernel_rfl) ⟨⟨h47, h46⟩, trivial⟩ ?_
      clear hk; intro a hk
      obtain ⟨m48, HX, H⟩ := Option.bind_eq_some_iff.1 H
      refine cut_ops (fun a w => Kn 94 a [(0, S m9), (3, .int .i32 v42), (4, I v43), (5, .bool m48.1), (83, .bool m48.2)] ∧ Ows [] w0 w []) ?_ ?_
      · intro J; clear H; have H := HX; clear HX
        rcases Bool.eq_false_or_eq_true (decide (48 ≤ bt m9 v43)) with h49 | h49
        ·
          rw [h49] at hk
          have h50 : 48 ≤ bt m9 v43 := of_decide_eq_true h49
          rw [if_pos h50] at H
          refine st_pure tabOK hk [5, 6, 7, 8, 9, 10] [11, 12, 13, 14, 15, 16, 17, 18, 19, 20, 21, 22, 23, 24, 25, 26] [0, 3, 4, 5, 67] [(0, S m9), (3, .int .i32 v42), (4, I v43), (5, .bool v44), (67, .bool (decide (bt m9 v43 ≤ 57)))] (((0 : Int) ≤ v43 ∧ v43 < (m9.length : Int)) ∧ True) (by kernel_rfl) ⟨⟨h47, h46⟩, trivial⟩ ?_
          clear hk; intro a hk
          rcases Bool.eq_false_or_eq_true (decide (bt m9 v43 ≤ 57)) with h51 | h51
          ·
            rw [h51] at hk
            have h52 : bt m9 v43 ≤ 57 := of_decide_eq_true h51
            rw [if_pos h52] at H
            refine st_pure tabOK hk [11, 12, 13, 14, 15, 16, 17, 18, 19, 20, 21, 22, 23, 24, 25, 26] [] [0, 3, 4, 5, 83] [(0, S m9), (3, .int .i32 v42), (4, I v43), (5, .bool v44), (83, .bool true)] (True) (by kernel_rfl) trivial ?_
            clear hk; intro a hk
            refine st_done ?_
            obtain rfl := Option.some.inj H
            exact J a w ⟨hk.to [0, 3, 4, 5, 83] _ (by kernel_rfl), ho⟩
          ·
            rw [h51] at hk
            have h53 : ¬ (bt m9 v43 ≤ 57) := of_decide_eq_false h51
            rw [if_neg h53] at H
            refine st_pure tabOK hk [11, 12] [13, 14, 15, 16, 17, 18, 19, 20, 21, 22, 23, 24, 25, 26] [0, 3, 4, 5, 67, 69] [(0, S m9), (3, .int .i32 v42), (4, I v43), (5, .bool v44), (67, .bool false), (69, .bool v44)] (True) (by kernel_rfl) trivial ?_
            clear hk; intro a hk
            rcases Bool.eq_false_or_eq_true (v44) with h54 | h54
            ·
              rw [h54] at hk
              have h55 : v44 = true := h54
              rw [if_pos h55] at H
              refine st_pure tabOK hk [13, 14, 15] [16, 17, 18, 19, 20, 21, 22, 23, 24, 25, 26] [0, 3, 4, 5, 67, 69, 72] [(0, S m9), (3, .int .i32 v42), (4, I v43), (5, .bool true), (67, .bool false), (69, .bool true), (72, .int .u8 (bt m9 v43))] (((0 : Int) ≤ v43 ∧ v43 < (m9.length : Int)) ∧ True) (by kernel_rfl) ⟨⟨h47, h46⟩, trivial⟩ ?_
              clear hk; intro a hk
              obtain ⟨t56, h57, H⟩ := Option.bind_eq_some_iff.1 H
              refine st_call hk 56 [.int .u8 (bt m9 v43)] (some 73) enters56 (by kernel_rfl) (strconv_lower.ok  (bt m9 v43) t56 h57 w ) ?_
              clear hk; rintro a u w ⟨rfl, ho'⟩ hk
              replace ho : Ows [] w0 w [] := ho.call ho'; clear ho'
              refine st_pure tabOK hk [17, 18, 19] [20, 21, 22, 23, 24, 25, 26] [0, 3, 4, 5, 67, 76] [(0, S m9), (3, .int .i32 v42), (4, I v43), (5, .bool true), (67, .bool false), (76, .bool (decide (97 ≤ t56)))] (True) (by kernel_rfl) trivial ?_
              clear hk; intro a hk
              rcases Bool.eq_false_or_eq_true (decide (97 ≤ t56)) with h58 | h58
              ·
                rw [h58] at hk
                have h59 : 97 ≤ t56 := of_decide_eq_true h58
                rw [if_pos h59] at H
                refine st_pure tabOK hk [20, 21, 22] [23, 24, 25, 26] [0, 3, 4, 5, 67, 76, 79] [(0, S m9), (3, .int .i32 v42), (4, I v43), (5, .bool true), (67, .bool false), (76, .bool true), (79, .int .u8 (bt m9 v43))] (((0 : Int) ≤ v43 ∧ v43 < (m9.length : Int)) ∧ True) (by kernel_rfl) ⟨⟨h47, h46⟩, trivial⟩ ?_
                clear hk; intro a hk
                obtain ⟨t60, h61, H⟩ := Option.bind_eq_some_iff.1 H
                refine st_call hk 56 [.int .u8 (bt m9 v43)] (some 80) enters56 (by kernel_rfl) (strconv_lower.ok  (bt m9 v43) t60 h61 w ) ?_
                clear hk; rintro a u w ⟨rfl, ho'⟩ hk
                replace ho : Ows [] w0 w [] := ho.call ho'; clear ho'
                refine st_pure tabOK hk [24, 25, 26] [] [0, 3, 4, 5, 83] [(0, S m9), (3, .int .i32 v42), (4, I v43), (5, .bool true), (83, .bool (decide (t60 ≤ 102)))] (True) (by kernel_rfl) trivial ?_
                clear hk; intro a hk
                refine st_done ?_
                obtain rfl := Option.some.inj H
                exact J a w ⟨hk.to [0, 3, 4, 5, 83] _ (by kernel_rfl), ho⟩
              ·
                rw [h58] at hk
                have h62 : ¬ (97 ≤ t56) := of_decide_eq_false h58
                rw [if_neg h62] at H
                refine st_pure tabOK hk [20, 21, 22, 23, 24, 25, 26] [] [0, 3, 4, 5, 83] [(0, S m9), (3, .int .i32 v42), (4, I v43), (5, .bool true), (83, .bool false)] (True) (by kernel_rfl) trivial ?_
                clear hk; intro a hk
                refine st_done ?_
                obtain rfl := Option.some.inj H
                exact J a w ⟨hk.to [0, 3, 4, 5, 83] _ (by kernel_rfl), ho⟩
            ·
              rw [h54] at hk
              have h63 : ¬ (v44 = true) := ne_true_of_eq_false h54
              rw [if_neg h63] at H
              refine st_pure tabOK hk [13, 14, 15, 16, 17, 18, 19, 20, 21, 22, 23, 24, 25, 26] [] [0, 3, 4, 5, 83] [(0, S m9), (3, .int .i32 v42), (4, I v43), (5, .bool false), (83, .bool false)] (True) (by kernel_rfl) trivial ?_
              clear hk; intro a hk
              refine st_done ?_
              obtain rfl := Option.some.inj H
              exact J a w ⟨hk.to [0, 3, 4, 5, 83] _ (by kernel_rfl), ho⟩
        ·
          rw [h49] at hk
          have h64 : ¬ (48 ≤ bt m9 v43) := of_decide_eq_false h49
          rw [if_neg h64] at H
          refine st_pure tabOK hk [5, 6, 7, 8, 9, 10, 11, 12] [13, 14, 15, 16, 17, 18, 19, 20, 21, 22, 23, 24, 25, 26] [0, 3, 4, 5, 67, 69] [(0, S m9), (3, .int .i32 v42), (4, I v43), (5, .bool v44), (67, .bool false), (69, .bool v44)] (True) (by kernel_rfl) trivial ?_
          clear hk; intro a hk
          rcases Bool.eq_false_or_eq_true (v44) with h65 | h65
          ·
            rw [h65] at hk
            have h66 : v44 = true := h65
            rw [if_pos h66] at H
            refine st_pure tabOK hk [13, 14, 15] [16, 17, 18, 19, 20, 21, 22, 23, 24, 25, 26] [0, 3, 4, 5, 67, 69, 72] [(0, S m9), (3, .int .i32 v42), (4, I v43), (5, .bool true), (67, .bool false), (69, .bool true), (72, .int .u8 (bt m9 v43))] (((0 : Int) ≤ v43 ∧ v43 < (m9.length : Int)) ∧ True) (by kernel_rfl) ⟨⟨h47, h46⟩, trivial⟩ ?_
            clear hk; intro a hk
            obtain ⟨t67, h68, H⟩ := Option.bind_eq_some_iff.1 H
            refine st_call hk 56 [.int .u8 (bt m9 v43)] (some 73) enters56 (by kernel_rfl) (strconv_lower.ok  (bt m9 v43) t67 h68 w ) ?_
            clear hk; rintro a u w ⟨rfl, ho'⟩ hk
            replace ho : Ows [] w0 w [] := ho.call ho'; clear ho'
            refine st_pure tabOK hk [17, 18, 19] [20, 21, 22, 23, 24, 25, 26] [0, 3, 4, 5, 67, 76] [(0, S m9), (3, .int .i32 v42), (4, I v43), (5, .bool true), (67, .bool false), (76, .bool (decide (97 ≤ t67)))] (True) (by kernel_rfl) trivial ?_
            clear hk; intro a hk
            rcases Bool.eq_false_or_eq_true (decide (97 ≤ t67)) with h69 | h69
            ·
              rw [h69] at hk
              have h70 : 97 ≤ t67 := of_decide_eq_true h69
              rw [if_pos h70] at H
              refine st_pure tabOK hk [20, 21, 22] [23, 24, 25, 26] [0, 3, 4, 5, 67, 76, 79] [(0, S m9), (3, .int .i32 v42), (4, I v43), (5, .bool true), (67, .bool false), (76, .bool true), (79, .int .u8 (bt m9 v43))] (((0 : Int) ≤ v43 ∧ v43 < (m9.length : Int)) ∧ True) (by kernel_rfl) ⟨⟨h47, h46⟩, trivial⟩ ?_
              clear hk; intro a hk
              obtain ⟨t71, h72, H⟩ := Option.bind_eq_some_iff.1 H
              refine st_call hk 56 [.int .u8 (bt m9 v43)] (some 80) enters56 (by kernel_rfl) (strconv_lower.ok  (bt m9 v43) t71 h72 w ) ?_
              clear hk; rintro a u w ⟨rfl, ho'⟩ hk
              replace ho : Ows [] w0 w [] := ho.call ho'; clear ho'
              refine st_pure tabOK hk [24, 25, 26] [] [0, 3, 4, 5, 83] [(0, S m9), (3, .int .i32 v42), (4, I v43), (5, .bool true), (83, .bool (decide (t71 ≤ 102)))] (True) (by kernel_rfl) trivial ?_
              clear hk; intro a hk
              refine st_done ?_
              obtain rfl := Option.some.inj H
              exact J a w ⟨hk.to [0, 3, 4, 5, 83] _ (by kernel_rfl), ho⟩
            ·
              rw [h69] at hk
              have h73 : ¬ (97 ≤ t67) := of_decide_eq_false h69
              rw [if_neg h73] at H
              refine st_pure tabOK hk [20, 21, 22, 23, 24, 25, 26] [] [0, 3, 4, 5, 83] [(0, S m9), (3, .int .i32 v42), (4, I v43), (5, .bool true), (83, .bool false)] (True) (by kernel_rfl) trivial ?_
              clear hk; intro a hk
              refine st_done ?_
              obtain rfl := Option.some.inj H
              exact J a w ⟨hk.to [0, 3, 4, 5, 83] _ (by kernel_rfl), ho⟩
          ·
            rw [h65] at hk
            have h74 : ¬ (v44 = true) := ne_true_of_eq_false h65
            rw [if_neg h74] at H
            refine st_pure tabOK hk [13, 14, 15, 16, 17, 18, 19, 20, 21, 22, 23, 24, 25, 26] [] [0, 3, 4, 5, 83] [(0, S m9), (3, .int .i32 v42), (4, I v43), (5, .bool false), (83, .bool false)] (True) (by kernel_rfl) trivial ?_
            clear hk; intro a hk
            refine st_done ?_
            obtain rfl := Option.some.inj H
            exact J a w ⟨hk.to [0, 3, 4, 5, 83] _ (by kernel_rfl), ho⟩
      · clear HX; rintro a w ⟨hk, ho⟩
        refine st_cond hk (C57 [1, 1, 1, 1, 1, 1, 0, 0, 0, 1, 0, 0, 0, 1, 0]) (C57 [1, 1, 1, 1, 1, 1, 0, 0, 0, 1, 0, 0, 0, 1, 1]) (.tmp 83) (m48.2) (by kernel_rfl) (by kernel_rfl) (fun h75 => ?_) (fun h75 => ?_)
        ·
          have h76 : m48.2 = true := h75
          rw [if_pos h76] at H
          refine st_seq (C57 [1, 1, 1, 1, 1, 1, 0, 0, 0, 1, 0, 0, 0, 1, 0, 0]) (C57 [1, 1, 1, 1, 1, 1, 0, 0, 0, 1, 0, 0, 0, 1, 0, 1]) (by kernel_rfl) ?_
          refine st_region 13 (opsOf (C57 [1, 1, 1, 1, 1, 1, 0, 0, 0, 1, 0, 0, 0, 1, 0, 0])) [0] (by kernel_rfl) (by kernel_rfl) ?_
          refine st_pure tabOK hk [0] [] [0, 3, 4, 5] [(0, S m9), (3, .int .i32 48), (4, I v43), (5, .bool m48.1)] (True) (by kernel_rfl) trivial ?_
          clear hk; intro a hk
          refine st_done ?_
          refine st_exit 1 _ (by kernel_rfl) rfl ?_
          refine st_region 11 (opsOf (C57 [1, 1, 1, 1, 1, 1, 0, 0, 0, 1, 1])) [0, 1, 2] (by kernel_rfl) (by kernel_rfl) ?_
          refine st_pure tabOK hk [0, 1, 2] [] [0, 3, 4, 5] [(0, S m9), (3, .int .i32 48), (4, I (w64 (v43 + 1))), (5, .bool m48.1)] (True) (by kernel_rfl) trivial ?_
          clear hk; intro a hk
          refine st_done ?_
          refine st_inl ?_
          exact ih m9 48 (w64 (v43 + 1)) m48.1 out H  w0 Q rest a w  (hk.to [0, 3, 4, 5] _ (by kernel_rfl)) ho J R
        ·
          have h77 : ¬ (m48.2 = true) := ne_true_of_eq_false h75
          rw [if_neg h77] at H
          refine st_skip (by kernel_rfl) ?_
          refine st_seq (C57 [1, 1, 1, 1, 1, 1, 0, 0, 0, 1, 0, 0, 1, 0]) (C57 [1, 1, 1, 1, 1, 1, 0, 0, 0, 1, 0, 0, 1, 1]) (by kernel_rfl) ?_
          refine st_seq (C57 [1, 1, 1, 1, 1, 1, 0, 0, 0, 1, 0, 0, 1, 0, 0]) (C57 [1, 1, 1, 1, 1, 1, 0, 0, 0, 1, 0, 0, 1, 0, 1]) (by kernel_rfl) ?_
          refine st_region 14 (opsOf (C57 [1, 1, 1, 1, 1, 1, 0, 0, 0, 1, 0, 0, 1, 0, 0])) [0, 1, 2, 3] (by kernel_rfl) (by kernel_rfl) ?_
          refine st_pure tabOK hk [0, 1, 2, 3] [] [0, 3, 4, 5, 87] [(0, S m9), (3, .int .i32 v42), (4, I v43), (5, .bool m48.1), (87, .bool ((bt m9 v43) == 95))] (((0 : Int) ≤ v43 ∧ v43 < (m9.length : Int)) ∧ True) (by kernel_rfl) ⟨⟨h47, h46⟩, trivial⟩ ?_
          clear hk; intro a hk
          refine st_done ?_
          refine st_cond hk (C57 [1, 1, 1, 1, 1, 1, 0, 0, 0, 1, 0, 0, 1, 0, 1, 0]) (C57 [1, 1, 1, 1, 1, 1, 0, 0, 0, 1, 0, 0, 1, 0, 1, 1]) (.tmp 87) ((bt m9 v43) == 95) (by kernel_rfl) (by kernel_rfl) (fun h78 => ?_) (fun h78 => ?_)
          ·
            have h79 : ((bt m9 v43) == 95) = true := h78
            rw [if_pos h79] at H
            refine st_seq (C57 [1, 1, 1, 1, 1, 1, 0, 0, 0, 1, 0, 0, 1, 0, 1, 0, 0]) (C57 [1, 1, 1, 1, 1, 1, 0, 0, 0, 1, 0, 0, 1, 0, 1, 0, 1]) (by kernel_rfl) ?_
            refine st_seq (C57 [1, 1, 1, 1, 1, 1, 0, 0, 0, 1, 0, 0, 1, 0, 1, 0, 0, 0]) (C57 [1, 1, 1, 1, 1, 1, 0, 0, 0, 1, 0, 0, 1, 0, 1, 0, 0, 1]) (by kernel_rfl) ?_
            refine st_region 15 (opsOf (C57 [1, 1, 1, 1, 1, 1, 0, 0, 0, 1, 0, 0, 1, 0, 1, 0, 0, 0])) [0, 1] (by kernel_rfl) (by kernel_rfl) ?_
            refine st_pure tabOK hk [0, 1] [] [0, 4, 5, 89] [(0, S m9), (4, I v43), (5, .bool m48.1), (89, .bool (v42 != 48))] (True) (by kernel_rfl) trivial ?_
            clear hk; intro a hk
            refine st_done ?_
            refine st_cond hk (C57 [1, 1, 1, 1, 1, 1, 0, 0, 0, 1, 0, 0, 1, 0, 1, 0, 0, 1, 0]) (C57 [1, 1, 1, 1, 1, 1, 0, 0, 0, 1, 0, 0, 1, 0, 1, 0, 0, 1, 1]) (.tmp 89) (v42 != 48) (by kernel_rfl) (by kernel_rfl) (fun h80 => ?_) (fun h80 => ?_)
            ·
              have h81 : (v42 != 48) = true := h80
              rw [if_pos h81] at H
              refine st_seq (C57 [1, 1, 1, 1, 1, 1, 0, 0, 0, 1, 0, 0, 1, 0, 1, 0, 0, 1, 0, 0]) (C57 [1, 1, 1, 1, 1, 1, 0, 0, 0, 1, 0, 0, 1, 0, 1, 0, 0, 1, 0, 1]) (by kernel_rfl) ?_
              refine st_region 16 (opsOf (C57 [1, 1, 1, 1, 1, 1, 0, 0, 0, 1, 0, 0, 1, 0, 1, 0, 0, 1, 0, 0])) [0] (by kernel_rfl) (by kernel_rfl) ?_
              refine st_pure tabOK hk [0] [] [2] [(2, .bool false)] (True) (by kernel_rfl) trivial ?_
              clear hk; intro a hk
              refine st_done ?_
              refine st_ret (by kernel_rfl) ?_
              obtain rfl := Option.some.inj H
              exact R false  a w rfl (hk.to [2] _ (by kernel_rfl)) ho
            ·
              have h82 : ¬ ((v42 != 48) = true) := ne_true_of_eq_false h80
              rw [if_neg h82] at H
              refine st_skip (by kernel_rfl) ?_
              refine st_seq (C57 [1, 1, 1, 1, 1, 1, 0, 0, 0, 1, 0, 0, 1, 0, 1, 0, 1, 0]) (C57 [1, 1, 1, 1, 1, 1, 0, 0, 0, 1, 0, 0, 1, 0, 1, 0, 1, 1]) (by kernel_rfl) ?_
              refine st_region 17 (opsOf (C57 [1, 1, 1, 1, 1, 1, 0, 0, 0, 1, 0, 0, 1, 0, 1, 0, 1, 0])) [0] (by kernel_rfl) (by kernel_rfl) ?_
              refine st_pure tabOK hk [0] [] [0, 3, 4, 5] [(0, S m9), (3, .int .i32 95), (4, I v43), (5, .bool m48.1)] (True) (by kernel_rfl) trivial ?_
              clear hk; intro a hk
              refine st_done ?_
              refine st_exit 1 _ (by kernel_rfl) rfl ?_
              refine st_region 11 (opsOf (C57 [1, 1, 1, 1, 1, 1, 0, 0, 0, 1, 1])) [0, 1, 2] (by kernel_rfl) (by kernel_rfl) ?_
              refine st_pure tabOK hk [0, 1, 2] [] [0, 3, 4, 5] [(0, S m9), (3, .int .i32 95), (4, I (w64 (v43 + 1))), (5, .bool m48.1)] (True) (by kernel_rfl) trivial ?_
              clear hk; intro a hk
              refine st_done ?_
              refine st_inl ?_
              exact ih m9 95 (w64 (v43 + 1)) m48.1 out H  w0 Q rest a w  (hk.to [0, 3, 4, 5] _ (by kernel_rfl)) ho J R
          ·
            have h83 : ¬ (((bt m9 v43) == 95) = true) := ne_true_of_eq_false h78
            rw [if_neg h83] at H
            refine st_skip (by kernel_rfl) ?_
            refine st_seq (C57 [1, 1, 1, 1, 1, 1, 0, 0, 0, 1, 0, 0, 1, 1, 0]) (C57 [1, 1, 1, 1, 1, 1, 0, 0, 0, 1, 0, 0, 1, 1, 1]) (by kernel_rfl) ?_
            refine st_seq (C57 [1, 1, 1, 1, 1, 1, 0, 0, 0, 1, 0, 0, 1, 1, 0, 0]) (C57 [1, 1, 1, 1, 1, 1, 0, 0, 0, 1, 0, 0, 1, 1, 0, 1]) (by kernel_rfl) ?_
            refine st_region 18 (opsOf (C57 [1, 1, 1, 1, 1, 1, 0, 0, 0, 1, 0, 0, 1, 1, 0, 0])) [0, 1] (by kernel_rfl) (by kernel_rfl) ?_
            refine st_pure tabOK hk [0, 1] [] [0, 4, 5, 91] [(0, S m9), (4, I v43), (5, .bool m48.1), (91, .bool (v42 == 95))] (True) (by kernel_rfl) trivial ?_
            clear hk; intro a hk
            refine st_done ?_
            refine st_cond hk (C57 [1, 1, 1, 1, 1, 1, 0, 0, 0, 1, 0, 0, 1, 1, 0, 1, 0]) (C57 [1, 1, 1, 1, 1, 1, 0, 0, 0, 1, 0, 0, 1, 1, 0, 1, 1]) (.tmp 91) (v42 == 95) (by kernel_rfl) (by kernel_rfl) (fun h84 => ?_) (fun h84 => ?_)
            ·
              have h85 : (v42 == 95) = true := h84
              rw [if_pos h85] at H
              refine st_seq (C57 [1, 1, 1, 1, 1, 1, 0, 0, 0, 1, 0, 0, 1, 1, 0, 1, 0, 0]) (C57 [1, 1, 1, 1, 1, 1, 0, 0, 0, 1, 0, 0, 1, 1, 0, 1, 0, 1]) (by kernel_rfl) ?_
              refine st_region 19 (opsOf (C57 [1, 1, 1, 1, 1, 1, 0, 0, 0, 1, 0, 0, 1, 1, 0, 1, 0, 0])) [0] (by kernel_rfl) (by kernel_rfl) ?_
              refine st_pure tabOK hk [0] [] [2] [(2, .bool false)] (True) (by kernel_rfl) trivial ?_
              clear hk; intro a hk
              refine st_done ?_
              refine st_ret (by kernel_rfl) ?_
              obtain rfl := Option.some.inj H
              exact R false  a w rfl (hk.to [2] _ (by kernel_rfl)) ho
            ·
              have h86 : ¬ ((v42 == 95) = true) := ne_true_of_eq_false h84
              rw [if_neg h86] at H
              refine st_skip (by kernel_rfl) ?_
              refine st_region 20 (opsOf (C57 [1, 1, 1, 1, 1, 1, 0, 0, 0, 1, 0, 0, 1, 1, 1])) [0] (by kernel_rfl) (by kernel_rfl) ?_
              refine st_pure tabOK hk [0] [] [0, 3, 4, 5] [(0, S m9), (3, .int .i32 33), (4, I v43), (5, .bool m48.1)] (True) (by kernel_rfl) trivial ?_
              clear hk; intro a hk
              refine st_done ?_
              refine st_endb 1 ?_
              refine st_region 11 (opsOf (C57 [1, 1, 1, 1, 1, 1, 0, 0, 0, 1, 1])) [0, 1, 2] (by kernel_rfl) (by kernel_rfl) ?_
              refine st_pure tabOK hk [0, 1, 2] [] [0, 3, 4, 5] [(0, S m9), (3, .int .i32 33), (4, I (w64 (v43 + 1))), (5, .bool m48.1)] (True) (by kernel_rfl) trivial ?_
              clear hk; intro a hk
              refine st_done ?_
              refine st_inl ?_
              exact ih m9 33 (w64 (v43 + 1)) m48.1 out H  w0 Q rest a w  (hk.to [0, 3, 4, 5] _ (by kernel_rfl)) ho J R
    ·
      have h87 : ¬ (v43 < (m9.length : Int)) := of_decide_eq_false h45
      rw [if_neg h87] at H
      refine st_exit 0 _ (by kernel_rfl) rfl ?_
      obtain rfl := Option.some.inj H
      exact J v42  a w rfl (hk.to [3] _ (by kernel_rfl)) ho

theorem strconv_underscoreOK.ok (K : Nat) (p0 : Str) (r : Bool) (H : strconv_underscoreOK.f K p0 = some r) (w0 : World)  : Calls Tryd.prog 57 ⟨[S p0]⟩ w0 fun e w => ∃ u, e = .returned u ∧ strconv_underscoreOK.post w0 r u w := by
  unfold strconv_underscoreOK.f at H
  refine st_start (N := 94) [S p0] (C57 []) func57 (by kernel_rfl) (by kernel_rfl) (by kernel_rfl) ?_
  intro a w hk ho
  refine st_seq (C57 [0]) (C57 [1]) (by kernel_rfl) ?_
  refine st_region 0 (opsOf (C57 [0])) [0] (by kernel_rfl) (by kernel_rfl) ?_
  refine st_pure tabOK hk [0] [] [0] [(0, S p0)] (True) (by kernel_rfl) trivial ?_
  clear hk; intro a hk
  refine st_done ?_
  refine st_seq (C57 [1, 0]) (C57 [1, 1]) (by kernel_rfl) ?_
  refine st_region 1 (opsOf (C57 [1, 0])) [0] (by kernel_rfl) (by kernel_rfl) ?_
  refine st_pure tabOK hk [0] [] [0, 3] [(0, S p0), (3, .int .i32 94)] (True) (by kernel_rfl) trivial ?_
  clear hk; intro a hk
  refine st_done ?_
  refine st_seq (C57 [1, 1, 0]) (C57 [1, 1, 1]) (by kernel_rfl) ?_
  refine st_region 2 (opsOf (C57 [1, 1, 0])) [0] (by kernel_rfl) (by kernel_rfl) ?_
  refine st_pure tabOK hk [0] [] [0, 3, 4] [(0, S p0), (3, .int .i32 94), (4, I 0)] (True) (by kernel_rfl) trivial ?_
  clear hk; intro a hk
  refine st_done ?_
  refine st_seq (C57 [1, 1, 1, 0]) (C57 [1, 1, 1, 1]) (by kernel_rfl) ?_
  refine st_seq (C57 [1, 1, 1, 0, 0]) (C57 [1, 1, 1, 0, 1]) (by kernel_rfl) ?_
  refine st_region 3 (opsOf (C57 [1, 1, 1, 0, 0])) [0, 1, 2, 3, 4, 5, 6, 7, 8, 9, 10, 11, 12] (by kernel_rfl) (by kernel_rfl) ?_
  refine st_pure tabOK hk [0, 1, 2, 3] [4, 5, 6, 7, 8, 9, 10, 11, 12] [0, 3, 4, 9] [(0, S p0), (3, .int .i32 94), (4, I 0), (9, .bool (decide ((p0.length : Int) ≥ 1)))] (True) (by kernel_rfl) trivial ?_
  clear hk; intro a hk
  obtain ⟨m1, HX, H⟩ := Option.bind_eq_some_iff.1 H
  refine cut_ops (fun a w => Kn 94 a [(0, S p0), (3, .int .i32 94), (4, I 0), (18, .bool m1)] ∧ Ows [] w0 w []) ?_ ?_
  · intro J; clear H; have H := HX; clear HX
    rcases Bool.eq_false_or_eq_true (decide ((p0.length : Int) ≥ 1)) with h2 | h2
    ·
      rw [h2] at hk
      have h3 : (p0.length : Int) ≥ 1 := of_decide_eq_true h2
      rw [if_pos h3] at H
      have h4 : 0 < (p0.length : Int) := by
        by_cases h4 : 0 < (p0.length : Int)
        · exact h4
        · rw [if_neg h4] at H; cases H
      rw [if_pos h4] at H
      refine st_pure tabOK hk [4, 5, 6, 7] [8, 9, 10, 11, 12] [0, 3, 4, 9, 13] [(0, S p0), (3, .int .i32 94), (4, I 0), (9, .bool true), (13, .bool ((bt p0 0) == 45))] (((0 : Int) ≤ 0 ∧ 0 < (p0.length : Int)) ∧ True) (by kernel_rfl) ⟨⟨(by decide), h4⟩, trivial⟩ ?_
      clear hk; intro a hk
      rcases Bool.eq_false_or_eq_true ((bt p0 0) == 45) with h5 | h5
      ·
        rw [h5] at hk
        have h6 : ((bt p0 0) == 45) = true := h5
        rw [if_pos h6] at H
        refine st_pure tabOK hk [8, 9, 10, 11, 12] [] [0, 3, 4, 18] [(0, S p0), (3, .int .i32 94), (4, I 0), (18, .bool true)] (True) (by kernel_rfl) trivial ?_
        clear hk; intro a hk
        refine st_done ?_
        obtain rfl := Option.some.inj H
        exact J a w ⟨hk.to [0, 3, 4, 18] _ (by kernel_rfl), ho⟩
      ·
        rw [h5] at hk
        have h7 : ¬ (((bt p0 0) == 45) = true) := ne_true_of_eq_false h5
        rw [if_neg h7] at H
        refine st_pure tabOK hk [8, 9, 10, 11, 12] [] [0, 3, 4, 18] [(0, S p0), (3, .int .i32 94), (4, I 0), (18, .bool ((bt p0 0) == 43))] (((0 : Int) ≤ 0 ∧ 0 < (p0.length : Int)) ∧ True) (by kernel_rfl) ⟨⟨(by decide), h4⟩, trivial⟩ ?_
        clear hk; intro a hk
        refine st_done ?_
        obtain rfl := Option.some.inj H
        exact J a w ⟨hk.to [0, 3, 4, 18] _ (by kernel_rfl), ho⟩
    ·
      rw [h2] at hk
      have h8 : ¬ ((p0.length : Int) ≥ 1) := of_decide_eq_false h2
      rw [if_neg h8] at H
      refine st_pure tabOK hk [4, 5, 6, 7, 8, 9, 10, 11, 12] [] [0, 3, 4, 18] [(0, S p0), (3, .int .i32 94), (4, I 0), (18, .bool false)] (True) (by kernel_rfl) trivial ?_
      clear hk; intro a hk
      refine st_done ?_
      obtain rfl := Option.some.inj H
      exact J a w ⟨hk.to [0, 3, 4, 18] _ (by kernel_rfl), ho⟩
  · clear HX; rintro a w ⟨hk, ho⟩
    obtain ⟨m9, HX, H⟩ := Option.bind_eq_some_iff.1 H
    refine cut_code (fun a w => Kn 94 a [(0, S m9), (3, .int .i32 94), (4, I 0)] ∧ Ows [] w0 w []) ?_ ?_
    · intro J; clear H; have H := HX; clear HX
      refine st_cond hk (C57 [1, 1, 1, 0, 1, 0]) (C57 [1, 1, 1, 0, 1, 1]) (.tmp 18) (m1) (by kernel_rfl) (by kernel_rfl) (fun h10 => ?_) (fun h10 => ?_)
      ·
        have h11 : m1 = true := h10
        rw [if_pos h11] at H
        refine st_region 4 (opsOf (C57 [1, 1, 1, 0, 1, 0])) [0, 1, 2] (by kernel_rfl) (by kernel_rfl) ?_
        have h12 : 1 ≤ (p0.length : Int) := by
          by_cases h12 : 1 ≤ (p0.length : Int)
          · exact h12
          · rw [if_neg h12] at H; cases H
        rw [if_pos h12] at H
        refine st_pure tabOK hk [0, 1, 2] [] [0, 3, 4] [(0, S (p0.drop 1)), (3, .int .i32 94), (4, I 0)] (((0 : Int) ≤ 1 ∧ 1 ≤ (p0.length : Int)) ∧ True) (by kernel_rfl) ⟨⟨(by decide), h12⟩, trivial⟩ ?_
        clear hk; intro a hk
        refine st_done ?_
        obtain rfl := Option.some.inj H
        exact J a w ⟨hk.to [0, 3, 4] _ (by kernel_rfl), ho⟩
      ·
        have h13 : ¬ (m1 = true) := ne_true_of_eq_false h10
        rw [if_neg h13] at H
        refine st_skip (by kernel_rfl) ?_
        obtain rfl := Option.some.inj H
        exact J a w ⟨hk.to [0, 3, 4] _ (by kernel_rfl), ho⟩
    · clear HX; rintro a w ⟨hk, ho⟩
      refine st_seq (C57 [1, 1, 1, 1, 0]) (C57 [1, 1, 1, 1, 1]) (by kernel_rfl) ?_
      refine st_region 5 (opsOf (C57 [1, 1, 1, 1, 0])) [0] (by kernel_rfl) (by kernel_rfl) ?_
      refine st_pure tabOK hk [0] [] [0, 3, 4, 5] [(0, S m9), (3, .int .i32 94), (4, I 0), (5, .bool false)] (True) (by kernel_rfl) trivial ?_
      clear hk; intro a hk
      refine st_done ?_
      refine st_seq (C57 [1, 1, 1, 1, 1, 0]) (C57 [1, 1, 1, 1, 1, 1]) (by kernel_rfl) ?_
      refine st_seq (C57 [1, 1, 1, 1, 1, 0, 0]) (C57 [1, 1, 1, 1, 1, 0, 1]) (by kernel_rfl) ?_
      refine st_region 6 (opsOf (C57 [1, 1, 1, 1, 1, 0, 0])) [0, 1, 2, 3, 4, 5, 6, 7, 8, 9, 10, 11, 12, 13, 14, 15, 16, 17, 18, 19, 20, 21, 22, 23, 24, 25] (by kernel_rfl) (by kernel_rfl) ?_
      refine st_pure tabOK hk [0, 1, 2, 3] [4, 5, 6, 7, 8, 9, 10, 11, 12, 13, 14, 15, 16, 17, 18, 19, 20, 21, 22, 23, 24, 25] [0, 3, 4, 5, 24] [(0, S m9), (3, .int .i32 94), (4, I 0), (5, .bool false), (24, .bool (decide ((m9.length : Int) ≥ 2)))] (True) (by kernel_rfl) trivial ?_
      clear hk; intro a hk
      obtain ⟨m14, HX, H⟩ := Option.bind_eq_some_iff.1 H
      refine cut_ops (fun a w => Kn 94 a [(0, S m9), (3, .int .i32 94), (4, I 0), (5, .bool false), (46, .bool m14)] ∧ Ows [] w0 w []) ?_ ?_
      · intro J; clear H; have H := HX; clear HX
        rcases Bool.eq_false_or_eq_true (decide ((m9.length : Int) ≥ 2)) with h15 | h15
        ·
          rw [h15] at hk
          have h16 : (m9.length : Int) ≥ 2 := of_decide_eq_true h15
          rw [if_pos h16] at H
          have h17 : 0 < (m9.length : Int) := by
            by_cases h17 : 0 < (m9.length : Int)
            · exact h17
            · rw [if_neg h17] at H; cases H
          rw [if_pos h17] at H
          refine st_pure tabOK hk [4, 5, 6, 7, 8] [9, 10, 11, 12, 13, 14, 15, 16, 17, 18, 19, 20, 21, 22, 23, 24, 25] [0, 3, 4, 5, 29] [(0, S m9), (3, .int .i32 94), (4, I 0), (5, .bool false), (29, .bool ((bt m9 0) == 48))] (((0 : Int) ≤ 0 ∧ 0 < (m9.length : Int)) ∧ True) (by kernel_rfl) ⟨⟨(by decide), h17⟩, trivial⟩ ?_
          clear hk; intro a hk
          rcases Bool.eq_false_or_eq_true ((bt m9 0) == 48) with h18 | h18
          ·
            rw [h18] at hk
            have h19 : ((bt m9 0) == 48) = true := h18
            rw [if_pos h19] at H
            have h20 : 1 < (m9.length : Int) := by
              by_cases h20 : 1 < (m9.length : Int)
              · exact h20
              · rw [if_neg h20] at H; cases H
            rw [if_pos h20] at H
            refine st_pure tabOK hk [9, 10] [11, 12, 13, 14, 15, 16, 17, 18, 19, 20, 21, 22, 23, 24, 25] [0, 3, 4, 5, 29, 31] [(0, S m9), (3, .int .i32 94), (4, I 0), (5, .bool false), (29, .bool true), (31, .int .u8 (bt m9 1))] (((0 : Int) ≤ 1 ∧ 1 < (m9.length : Int)) ∧ True) (by kernel_rfl) ⟨⟨(by decide), h20⟩, trivial⟩ ?_
            clear hk; intro a hk
            obtain ⟨t21, h22, H⟩ := Option.bind_eq_some_iff.1 H
            refine st_call hk 56 [.int .u8 (bt m9 1)] (some 32) enters56 (by kernel_rfl) (strconv_lower.ok  (bt m9 1) t21 h22 w ) ?_
            clear hk; rintro a u w ⟨rfl, ho'⟩ hk
            replace ho : Ows [] w0 w [] := ho.call ho'; clear ho'
            refine st_pure tabOK hk [12, 13] [14, 15, 16, 17, 18, 19, 20, 21, 22, 23, 24, 25] [0, 3, 4, 5, 29, 34] [(0, S m9), (3, .int .i32 94), (4, I 0), (5, .bool false), (29, .bool true), (34, .bool (t21 == 98))] (True) (by kernel_rfl) trivial ?_
            clear hk; intro a hk
            rcases Bool.eq_false_or_eq_true (t21 == 98) with h23 | h23
            ·
              rw [h23] at hk
              have h24 : (t21 == 98) = true := h23
              rw [if_pos h24] at H
              refine st_pure tabOK hk [14, 15, 16, 17, 18, 19, 20, 21, 22, 23, 24, 25] [] [0, 3, 4, 5, 46] [(0, S m9), (3, .int .i32 94), (4, I 0), (5, .bool false), (46, .bool true)] (True) (by kernel_rfl) trivial ?_
              clear hk; intro a hk
              refine st_done ?_
              obtain rfl := Option.some.inj H
              exact J a w ⟨hk.to [0, 3, 4, 5, 46] _ (by kernel_rfl), ho⟩
            ·
              rw [h23] at hk
              have h25 : ¬ ((t21 == 98) = true) := ne_true_of_eq_false h23
              rw [if_neg h25] at H
              refine st_pure tabOK hk [14, 15] [16, 17, 18, 19, 20, 21, 22, 23, 24, 25] [0, 3, 4, 5, 29, 34, 36] [(0, S m9), (3, .int .i32 94), (4, I 0), (5, .bool false), (29, .bool true), (34, .bool false), (36, .int .u8 (bt m9 1))] (((0 : Int) ≤ 1 ∧ 1 < (m9.length : Int)) ∧ True) (by kernel_rfl) ⟨⟨(by decide), h20⟩, trivial⟩ ?_
              clear hk; intro a hk
              obtain ⟨t26, h27, H⟩ := Option.bind_eq_some_iff.1 H
              refine st_call hk 56 [.int .u8 (bt m9 1)] (some 37) enters56 (by kernel_rfl) (strconv_lower.ok  (bt m9 1) t26 h27 w ) ?_
              clear hk; rintro a u w ⟨rfl, ho'⟩ hk
              replace ho : Ows [] w0 w [] := ho.call ho'; clear ho'
              refine st_pure tabOK hk [17, 18, 19] [20, 21, 22, 23, 24, 25] [0, 3, 4, 5, 29, 40] [(0, S m9), (3, .int .i32 94), (4, I 0), (5, .bool false), (29, .bool true), (40, .bool (t26 == 111))] (True) (by kernel_rfl) trivial ?_
              clear hk; intro a hk
              rcases Bool.eq_false_or_eq_true (t26 == 111) with h28 | h28
              ·
                rw [h28] at hk
                have h29 : (t26 == 111) = true := h28
                rw [if_pos h29] at H
                refine st_pure tabOK hk [20, 21, 22, 23, 24, 25] [] [0, 3, 4, 5, 46] [(0, S m9), (3, .int .i32 94), (4, I 0), (5, .bool false), (46, .bool true)] (True) (by kernel_rfl) trivial ?_
                clear hk; intro a hk
                refine st_done ?_
                obtain rfl := Option.some.inj H
                exact J a w ⟨hk.to [0, 3, 4, 5, 46] _ (by kernel_rfl), ho⟩
              ·
                rw [h28] at hk
                have h30 : ¬ ((t26 == 111) = true) := ne_true_of_eq_false h28
                rw [if_neg h30] at H
                refine st_pure tabOK hk [20, 21] [22, 23, 24, 25] [0, 3, 4, 5, 29, 40, 42] [(0, S m9), (3, .int .i32 94), (4, I 0), (5, .bool false), (29, .bool true), (40, .bool false), (42, .int .u8 (bt m9 1))] (((0 : Int) ≤ 1 ∧ 1 < (m9.length : Int)) ∧ True) (by kernel_rfl) ⟨⟨(by decide), h20⟩, trivial⟩ ?_
                clear hk; intro a hk
                obtain ⟨t31, h32, H⟩ := Option.bind_eq_some_iff.1 H
                refine st_call hk 56 [.int .u8 (bt m9 1)] (some 43) enters56 (by kernel_rfl) (strconv_lower.ok  (bt m9 1) t31 h32 w ) ?_
                clear hk; rintro a u w ⟨rfl, ho'⟩ hk
                replace ho : Ows [] w0 w [] := ho.call ho'; clear ho'
                refine st_pure tabOK hk [23, 24, 25] [] [0, 3, 4, 5, 46] [(0, S m9), (3, .int .i32 94), (4, I 0), (5, .bool false), (46, .bool (t31 == 120))] (True) (by kernel_rfl) trivial ?_
                clear hk; intro a hk
                refine st_done ?_
                obtain rfl := Option.some.inj H
                exact J a w ⟨hk.to [0, 3, 4, 5, 46] _ (by kernel_rfl), ho⟩
          ·
            rw [h18] at hk
            have h33 : ¬ (((bt m9 0) == 48) = true) := ne_true_of_eq_false h18
            rw [if_neg h33] at H
            refine st_pure tabOK hk [9, 10, 11, 12, 13, 14, 15, 16, 17, 18, 19, 20, 21, 22, 23, 24, 25] [] [0, 3, 4, 5, 46] [(0, S m9), (3, .int .i32 94), (4, I 0), (5, .bool false), (46, .bool false)] (True) (by kernel_rfl) trivial ?_
            clear hk; intro a hk
            refine st_done ?_
            obtain rfl := Option.some.inj H
            exact J a w ⟨hk.to [0, 3, 4, 5, 46] _ (by kernel_rfl), ho⟩
        ·
          rw [h15] at hk
          have h34 : ¬ ((m9.length : Int) ≥ 2) := of_decide_eq_false h15
          rw [if_neg h34] at H
          refine st_pure tabOK hk [4, 5, 6, 7, 8, 9, 10, 11, 12, 13, 14, 15, 16, 17, 18, 19, 20, 21, 22, 23, 24, 25] [] [0, 3, 4, 5, 46] [(0, S m9), (3, .int .i32 94), (4, I 0), (5, .bool false), (46, .bool false)] (True) (by kernel_rfl) trivial ?_
          clear hk; intro a hk
          refine st_done ?_
          obtain rfl := Option.some.inj H
          exact J a w ⟨hk.to [0, 3, 4, 5, 46] _ (by kernel_rfl), ho⟩
      · clear HX; rintro a w ⟨hk, ho⟩
        obtain ⟨m35, HX, H⟩ := Option.bind_eq_some_iff.1 H
        refine cut_code (fun a w => Kn 94 a [(0, S m9), (3, .int .i32 m35.1), (4, I m35.2.1), (5, .bool m35.2.2)] ∧ Ows [] w0 w []) ?_ ?_
        · intro J; clear H; have H := HX; clear HX
          refine st_cond hk (C57 [1, 1, 1, 1, 1, 0, 1, 0]) (C57 [1, 1, 1, 1, 1, 0, 1, 1]) (.tmp 46) (m14) (by kernel_rfl) (by kernel_rfl) (fun h36 => ?_) (fun h36 => ?_)
          ·
            have h37 : m14 = true := h36
            rw [if_pos h37] at H
            refine st_seq (C57 [1, 1, 1, 1, 1, 0, 1, 0, 0]) (C57 [1, 1, 1, 1, 1, 0, 1, 0, 1]) (by kernel_rfl) ?_
            refine st_region 7 (opsOf (C57 [1, 1, 1, 1, 1, 0, 1, 0, 0])) [0] (by kernel_rfl) (by kernel_rfl) ?_
            refine st_pure tabOK hk [0] [] [0, 4] [(0, S m9), (4, I 2)] (True) (by kernel_rfl) trivial ?_
            clear hk; intro a hk
            refine st_done ?_
            refine st_seq (C57 [1, 1, 1, 1, 1, 0, 1, 0, 1, 0]) (C57 [1, 1, 1, 1, 1, 0, 1, 0, 1, 1]) (by kernel_rfl) ?_
            refine st_region 8 (opsOf (C57 [1, 1, 1, 1, 1, 0, 1, 0, 1, 0])) [0] (by kernel_rfl) (by kernel_rfl) ?_
            refine st_pure tabOK hk [0] [] [0, 3, 4] [(0, S m9), (3, .int .i32 48), (4, I 2)] (True) (by kernel_rfl) trivial ?_
            clear hk; intro a hk
            refine st_done ?_
            refine st_region 9 (opsOf (C57 [1, 1, 1, 1, 1, 0, 1, 0, 1, 1])) [0, 1, 2, 3, 4] (by kernel_rfl) (by kernel_rfl) ?_
            have h38 : 1 < (m9.length : Int) := by
              by_cases h38 : 1 < (m9.length : Int)
              · exact h38
              · rw [if_neg h38] at H; cases H
            rw [if_pos h38] at H
            refine st_pure tabOK hk [0, 1] [2, 3, 4] [0, 3, 4, 48] [(0, S m9), (3, .int .i32 48), (4, I 2), (48, .int .u8 (bt m9 1))] (((0 : Int) ≤ 1 ∧ 1 < (m9.length : Int)) ∧ True) (by kernel_rfl) ⟨⟨(by decide), h38⟩, trivial⟩ ?_
            clear hk; intro a hk
            obtain ⟨t39, h40, H⟩ := Option.bind_eq_some_iff.1 H
            refine st_call hk 56 [.int .u8 (bt m9 1)] (some 49) enters56 (by kernel_rfl) (strconv_lower.ok  (bt m9 1) t39 h40 w ) ?_
            clear hk; rintro a u w ⟨rfl, ho'⟩ hk
            replace ho : Ows [] w0 w [] := ho.call ho'; clear ho'
            refine st_pure tabOK hk [3, 4] [] [0, 3, 4, 5] [(0, S m9), (3, .int .i32 48), (4, I 2), (5, .bool (t39 == 120))] (True) (by kernel_rfl) trivial ?_
            clear hk; intro a hk
            refine st_done ?_
            obtain rfl := Option.some.inj H
            exact J a w ⟨hk.to [0, 3, 4, 5] _ (by kernel_rfl), ho⟩
          ·
            have h41 : ¬ (m14 = true) := ne_true_of_eq_false h36
            rw [if_neg h41] at H
            refine st_skip (by kernel_rfl) ?_
            obtain rfl := Option.some.inj H
            exact J a w ⟨hk.to [0, 3, 4, 5] _ (by kernel_rfl), ho⟩
        · clear HX; rintro a w ⟨hk, ho⟩
          refine st_seq (C57 [1, 1, 1, 1, 1, 1, 0]) (C57 [1, 1, 1, 1, 1, 1, 1]) (by kernel_rfl) ?_
          refine st_block 0 (C57 [1, 1, 1, 1, 1, 1, 0, 0]) (by kernel_rfl) ?_
          obtain ⟨m88, h89, H⟩ := Option.bind_eq_some_iff.1 H
          refine st_loop (C57 [1, 1, 1, 1, 1, 1, 0, 0, 0]) (by kernel_rfl) ?_
          refine strconv_underscoreOK.l0_ok K m9 m35.1 m35.2.1 m35.2.2 m88 h89  w0 _ _ a w  (hk.to [0, 3, 4, 5] _ (by kernel_rfl)) ho ?_ ?_
          · intro s90  a w e hk ho; subst e
            simp only [] at H
            refine st_seq (C57 [1, 1, 1, 1, 1, 1, 1, 0]) (C57 [1, 1, 1, 1, 1, 1, 1, 1]) (by kernel_rfl) ?_
            refine st_region 21 (opsOf (C57 [1, 1, 1, 1, 1, 1, 1, 0])) [0, 1, 2] (by kernel_rfl) (by kernel_rfl) ?_
            refine st_pure tabOK hk [0, 1, 2] [] [2] [(2, .bool (s90 != 95))] (True) (by kernel_rfl) trivial ?_
            clear hk; intro a hk
            refine st_done ?_
            refine st_retG hk (by kernel_rfl) [.bool (s90 != 95)] #[.tmp 2] (by kernel_rfl) ⟨resT hk (by kernel_rfl), trivial⟩ ?_
            obtain rfl := Option.some.inj H
            exact ⟨_, rfl, rfl, ho⟩
          · intro r91  a w e hk ho; subst e
            simp only [] at H
            refine retG hk [.bool r91] #[.tmp 2] (by kernel_rfl) ⟨resT hk (by kernel_rfl), trivial⟩ ?_
            obtain rfl := Option.some.inj H
            exact ⟨_, rfl, rfl, ho⟩


/-! internal/strconv.ParseUint: function 43 -/
noncomputable def C43 (p : List Nat) : Code := Sub (bodyOf f43) p
def strconv_ParseUint_n43_16_8.l0 : Nat → Str → Bool → Int → Int → Option (Bool × Int)
  | 0, _, _, _, _ => none
  | k + 1, p0, v9, v10, v11 => (if v11 < (p0.length : Int) then (if (0 : Int) ≤ v11 then (((if ((bt p0 v11) == 95) = true then some () else some ())).bind fun m15 => (if ((decide (48 ≤ bt p0 v11)) && (decide (bt p0 v11 ≤ 57))) = true then (if w8 ((bt p0 v11) - 48) ≥ 16 then none else (if v10 ≥ 1152921504606846976 then none else (if ((decide (IntKind.u64.wrap ((IntKind.u64.wrap (v10 * 16)) + (IntKind.u64.wrap (w8 ((bt p0 v11) - 48)))) < IntKind.u64.wrap (v10 * 16))) || (decide (IntKind.u64.wrap ((IntKind.u64.wrap (v10 * 16)) + (IntKind.u64.wrap (w8 ((bt p0 v11) - 48)))) > 255))) = true then none else strconv_ParseUint_n43_16_8.l0 k p0 v9 (IntKind.u64.wrap ((IntKind.u64.wrap (v10 * 16)) + (IntKind.u64.wrap (w8 ((bt p0 v11) - 48))))) (w64 (v11 + 1))))) else ((strconv_lower.f (bt p0 v11)).bind fun t37 => (((if 97 ≤ t37 then ((strconv_lower.f (bt p0 v11)).bind fun t42 => some (decide (t42 ≤ 122))) else some false)).bind fun m39 => (if m39 = true then ((strconv_lower.f (bt p0 v11)).bind fun t47 => (if w8 ((w8 (t47 - 97)) + 10) ≥ 16 then none else (if v10 ≥ 1152921504606846976 then none else (if ((decide (IntKind.u64.wrap ((IntKind.u64.wrap (v10 * 16)) + (IntKind.u64.wrap (w8 ((w8 (t47 - 97)) + 10)))) < IntKind.u64.wrap (v10 * 16))) || (decide (IntKind.u64.wrap ((IntKind.u64.wrap (v10 * 16)) + (IntKind.u64.wrap (w8 ((w8 (t47 - 97)) + 10)))) > 255))) = true then none else strconv_ParseUint_n43_16_8.l0 k p0 v9 (IntKind.u64.wrap ((IntKind.u64.wrap (v10 * 16)) + (IntKind.u64.wrap (w8 ((w8 (t47 - 97)) + 10))))) (w64 (v11 + 1)))))) else none))))) else none) else some (v9, v10))
def strconv_ParseUint_n43_16_8.f (K : Nat) (p0 : Str) : Option (Int) := (if (p0 == ([])) = true then none else (if p0.length ≤ 4294967296 then ((strconv_ParseUint_n43_16_8.l0 K p0 false 0 0).bind fun s65 => (((if s65.1 = true then ((strconv_underscoreOK.f K p0).bind fun t69 => some (!t69)) else some false)).bind fun m66 => (if m66 = true then none else some s65.2))) else none))
abbrev strconv_ParseUint_n43_16_8.post (w0 : World) (r : Int) (u : Value) (w : World) : Prop := u = .tuple #[.int .u64 r, .nilIface] ∧ Ows [] w0 w []
theorem strconv_ParseUint_n43_16_8.l0_ok : ∀ (k : Nat) (p0 : Str) (v9 : Bool) (v10 : Int) (v11 : Int) (out : Bool × Int), strconv_ParseUint_n43_16_8.l0 k p0 v9 v10 v11 = some out → ∀ (o5 : Option Addr) (c6 : Nat) (w0 : World) (Q : Exit → Act → World → Prop) (rest : List It) (a : Act) (w : World), Kn 172 a [(1, I 16), (8, .bool false), (9, S p0), (10, .int .u64 1152921504606846976), (11, .int .u64 255), (12, .bool v9), (13, .int .u64 v10), (99, .slice o5 p0.length c6), (100, I (p0.length : Int)), (101, I v11)] → Ows [] w0 w [.row 0 5 1 (.slice o5 p0.length c6) p0.length (p0.map bV)] → (∀ (s : Bool × Int) (a : Act) (w : World), out = s → Kn 172 a [(9, S p0), (12, .bool s.1), (13, .int .u64 s.2)] → Ows [] w0 w [] → G Tryd.prog Q rest a w) → G Tryd.prog Q (.code (C43 [1, 1, 1, 1, 1, 1, 1, 1, 1, 1, 1, 0, 1, 0, 0]) :: .inl (C43 [1, 1, 1, 1, 1, 1, 1, 1, 1, 1, 1, 0, 1, 0, 0]) :: .endb 3 :: rest) a w := by
  intro k
  induction k with
  | zero => intro p0 v9 v10 v11 out H; simp [strconv_ParseUint_n43_16_8.l0] at H
  | succ k ih =>
    intro p0 v9 v10 v11 out H o5 c6 w0 Q rest a w  hk ho J
    simp only [strconv_ParseUint_n43_16_8.l0] at H
    refine st_seq (C43 [1, 1, 1, 1, 1, 1, 1, 1, 1, 1, 1, 0, 1, 0, 0, 0]) (C43 [1, 1, 1, 1, 1, 1, 1, 1, 1, 1, 1, 0, 1, 0, 0, 1]) (by kernel_rfl) ?_
    refine st_region 36 (opsOf (C43 [1, 1, 1, 1, 1, 1, 1, 1, 1, 1, 1, 0, 1, 0, 0, 0])) [0] (by kernel_rfl) (by kernel_rfl) ?_
    refine st_pure tabOK hk [0] [] [1, 8, 9, 10, 11, 12, 13, 99, 100, 101, 102] [(1, I 16), (8, .bool false), (9, S p0), (10, .int .u64 1152921504606846976), (11, .int .u64 255), (12, .bool v9), (13, .int .u64 v10), (99, .slice o5 p0.length c6), (100, I (p0.length : Int)), (101, I v11), (102, .bool (decide (v11 < (p0.length : Int))))] (True) (by kernel_rfl) trivial ?_
    clear hk; intro a hk
    refine st_done ?_
    refine st_seq (C43 [1, 1, 1, 1, 1, 1, 1, 1, 1, 1, 1, 0, 1, 0, 0, 1, 0]) (C43 [1, 1, 1, 1, 1, 1, 1, 1, 1, 1, 1, 0, 1, 0, 0, 1, 1]) (by kernel_rfl) ?_
    refine st_cond hk (C43 [1, 1, 1, 1, 1, 1, 1, 1, 1, 1, 1, 0, 1, 0, 0, 1, 0, 0]) (C43 [1, 1, 1, 1, 1, 1, 1, 1, 1, 1, 1, 0, 1, 0, 0, 1, 0, 1]) (.tmp 102) (decide (v11 < (p0.length : Int))) (by kernel_rfl) (by kernel_rfl) (fun h12 => ?_) (fun h12 => ?_)
    ·
      have h13 : v11 < (p0.length : Int) := of_decide_eq_true h12
      rw [if_pos h13] at H
      refine st_skip (by kernel_rfl) ?_
      refine st_seq (C43 [1, 1, 1, 1, 1, 1, 1, 1, 1, 1, 1, 0, 1, 0, 0, 1, 1, 0]) (C43 [1, 1, 1, 1, 1, 1, 1, 1, 1, 1, 1, 0, 1, 0, 0, 1, 1, 1]) (by kernel_rfl) ?_
      refine st_block 4 (C43 [1, 1, 1, 1, 1, 1, 1, 1, 1, 1, 1, 0, 1, 0, 0, 1, 1, 0, 0]) (by kernel_rfl) ?_
      refine st_seq (C43 [1, 1, 1, 1, 1, 1, 1, 1, 1, 1, 1, 0, 1, 0, 0, 1, 1, 0, 0, 0]) (C43 [1, 1, 1, 1, 1, 1, 1, 1, 1, 1, 1, 0, 1, 0, 0, 1, 1, 0, 0, 1]) (by kernel_rfl) ?_
      refine st_region 37 (opsOf (C43 [1, 1, 1, 1, 1, 1, 1, 1, 1, 1, 1, 0, 1, 0, 0, 1, 1, 0, 0, 0])) [0, 1, 2] (by kernel_rfl) (by kernel_rfl) ?_
      have h14 : (0 : Int) ≤ v11 := by
        by_cases h14 : (0 : Int) ≤ v11
        · exact h14
        · rw [if_neg h14] at H; cases H
      rw [if_pos h14] at H
      refine st_pure tabOK hk [0] [1, 2] [1, 8, 9, 10, 11, 12, 13, 99, 100, 101, 103] [(1, I 16), (8, .bool false), (9, S p0), (10, .int .u64 1152921504606846976), (11, .int .u64 255), (12, .bool v9), (13, .int .u64 v10), (99, .slice o5 p0.length c6), (100, I (p0.length : Int)), (101, I v11), (103, .pointer (o5.map (·.add (v11.toNat * 1))))] ((o5.isSome = true ∧ (0 : Int) ≤ v11 ∧ v11 < (p0.length : Int)) ∧ True) (by kernel_rfl) ⟨⟨(Rd.some1 (ho.rd 0 rfl) h14 h13), h14, h13⟩, trivial⟩ ?_
      clear hk; intro a hk
      refine st_load1 tabOK hk 5 (o5.map (·.add (v11.toNat * 1))) 104 (by kernel_rfl) (by kernel_rfl) (.int .u8 (bt p0 v11)) ((ho.rd 0 rfl).elemB h14 h13) ?_
      clear hk; intro a hk
      refine st_pure tabOK hk [2] [] [1, 8, 9, 10, 11, 12, 13, 15, 99, 100, 101] [(1, I 16), (8, .bool false), (9, S p0), (10, .int .u64 1152921504606846976), (11, .int .u64 255), (12, .bool v9), (13, .int .u64 v10), (15, .int .u8 (bt p0 v11)), (99, .slice o5 p0.length c6), (100, I (p0.length : Int)), (101, I v11)] (True) (by kernel_rfl) trivial ?_
      clear hk; intro a hk
      refine st_done ?_
      refine st_seq (C43 [1, 1, 1, 1, 1, 1, 1, 1, 1, 1, 1, 0, 1, 0, 0, 1, 1, 0, 0, 1, 0]) (C43 [1, 1, 1, 1, 1, 1, 1, 1, 1, 1, 1, 0, 1, 0, 0, 1, 1, 0, 0, 1, 1]) (by kernel_rfl) ?_
      refine st_region 38 (opsOf (C43 [1, 1, 1, 1, 1, 1, 1, 1, 1, 1, 1, 0, 1, 0, 0, 1, 1, 0, 0, 1, 0])) [0] (by kernel_rfl) (by kernel_rfl) ?_
      refine st_pure tabOK hk [0] [] [1, 8, 9, 10, 11, 12, 13, 15, 99, 100, 101] [(1, I 16), (8, .bool false), (9, S p0), (10, .int .u64 1152921504606846976), (11, .int .u64 255), (12, .bool v9), (13, .int .u64 v10), (15, .int .u8 (bt p0 v11)), (99, .slice o5 p0.length c6), (100, I (p0.length : Int)), (101, I v11)] (True) (by kernel_rfl) trivial ?_
      clear hk; intro a hk
      refine st_done ?_
      refine st_seq (C43 [1, 1, 1, 1, 1, 1, 1, 1, 1, 1, 1, 0, 1, 0, 0, 1, 1, 0, 0, 1, 1, 0]) (C43 [1, 1, 1, 1, 1, 1, 1, 1, 1, 1, 1, 0, 1, 0, 0, 1, 1, 0, 0, 1, 1, 1]) (by kernel_rfl) ?_
      refine st_block 5 (C43 [1, 1, 1, 1, 1, 1, 1, 1, 1, 1, 1, 0, 1, 0, 0, 1, 1, 0, 0, 1, 1, 0, 0]) (by kernel_rfl) ?_
      refine st_seq (C43 [1, 1, 1, 1, 1, 1, 1, 1, 1, 1, 1, 0, 1, 0, 0, 1, 1, 0, 0, 1, 1, 0, 0, 0]) (C43 [1, 1, 1, 1, 1, 1, 1, 1, 1, 1, 1, 0, 1, 0, 0, 1, 1, 0, 0, 1, 1, 0, 0, 1]) (by kernel_rfl) ?_
      refine st_region 40 (opsOf (C43 [1, 1, 1, 1, 1, 1, 1, 1, 1, 1, 1, 0, 1, 0, 0, 1, 1, 0, 0, 1, 1, 0, 0, 0])) [0, 1, 2, 3, 4, 5] (by kernel_rfl) (by kernel_rfl) ?_
      refine st_pure tabOK hk [0, 1, 2] [3, 4, 5] [1, 8, 9, 10, 11, 12, 13, 15, 99, 100, 101, 109] [(1, I 16), (8, .bool false), (9, S p0), (10, .int .u64 1152921504606846976), (11, .int .u64 255), (12, .bool v9), (13, .int .u64 v10), (15, .int .u8 (bt p0 v11)), (99, .slice o5 p0.length c6), (100, I (p0.length : Int)), (101, I v11), (109, .bool ((bt p0 v11) == 95))] (True) (by kernel_rfl) trivial ?_
      clear hk; intro a hk
      obtain ⟨m15, HX, H⟩ := Option.bind_eq_some_iff.1 H
      refine cut_ops (fun a w => Kn 172 a [(1, I 16), (8, .bool false), (9, S p0), (10, .int .u64 1152921504606846976), (11, .int .u64 255), (12, .bool v9), (13, .int .u64 v10), (15, .int .u8 (bt p0 v11)), (99, .slice o5 p0.length c6), (100, I (p0.length : Int)), (101, I v11), (106, .bool false)] ∧ Ows [] w0 w [.row 0 5 1 (.slice o5 p0.length c6) p0.length (p0.map bV)]) ?_ ?_
      · intro J; clear H; have H := HX; clear HX
        rcases Bool.eq_false_or_eq_true ((bt p0 v11) == 95) with h16 | h16
        ·
          rw [h16] at hk
          have h17 : ((bt p0 v11) == 95) = true := h16
          rw [if_pos h17] at H
          refine st_pure tabOK hk [3, 4, 5] [] [1, 8, 9, 10, 11, 12, 13, 15, 99, 100, 101, 106] [(1, I 16), (8, .bool false), (9, S p0), (10, .int .u64 1152921504606846976), (11, .int .u64 255), (12, .bool v9), (13, .int .u64 v10), (15, .int .u8 (bt p0 v11)), (99, .slice o5 p0.length c6), (100, I (p0.length : Int)), (101, I v11), (106, .bool false)] (True) (by kernel_rfl) trivial ?_
          clear hk; intro a hk
          refine st_done ?_
          obtain rfl := Option.some.inj H
          exact J a w ⟨hk.to [1, 8, 9, 10, 11, 12, 13, 15, 99, 100, 101, 106] _ (by kernel_rfl), ho⟩
        ·
          rw [h16] at hk
          have h18 : ¬ (((bt p0 v11) == 95) = true) := ne_true_of_eq_false h16
          rw [if_neg h18] at H
          refine st_pure tabOK hk [3, 4, 5] [] [1, 8, 9, 10, 11, 12, 13, 15, 99, 100, 101, 106] [(1, I 16), (8, .bool false), (9, S p0), (10, .int .u64 1152921504606846976), (11, .int .u64 255), (12, .bool v9), (13, .int .u64 v10), (15, .int .u8 (bt p0 v11)), (99, .slice o5 p0.length c6), (100, I (p0.length : Int)), (101, I v11), (106, .bool false)] (True) (by kernel_rfl) trivial ?_
          clear hk; intro a hk
          refine st_done ?_
          obtain rfl := Option.some.inj H
          exact J a w ⟨hk.to [1, 8, 9, 10, 11, 12, 13, 15, 99, 100, 101, 106] _ (by kernel_rfl), ho⟩
      · clear HX; rintro a w ⟨hk, ho⟩
        refine st_cond_false hk (C43 [1, 1, 1, 1, 1, 1, 1, 1, 1, 1, 1, 0, 1, 0, 0, 1, 1, 0, 0, 1, 1, 0, 0, 1, 0]) (C43 [1, 1, 1, 1, 1, 1, 1, 1, 1, 1, 1, 0, 1, 0, 0, 1, 1, 0, 0, 1, 1, 0, 0, 1, 1]) (.tmp 106) (by kernel_rfl) (by kernel_rfl) ?_
        refine st_seq (C43 [1, 1, 1, 1, 1, 1, 1, 1, 1, 1, 1, 0, 1, 0, 0, 1, 1, 0, 0, 1, 1, 0, 0, 1, 1, 0]) (C43 [1, 1, 1, 1, 1, 1, 1, 1, 1, 1, 1, 0, 1, 0, 0, 1, 1, 0, 0, 1, 1, 0, 0, 1, 1, 1]) (by kernel_rfl) ?_
        refine st_region 42 (opsOf (C43 [1, 1, 1, 1, 1, 1, 1, 1, 1, 1, 1, 0, 1, 0, 0, 1, 1, 0, 0, 1, 1, 0, 0, 1, 1, 0])) [0, 1, 2, 3, 4, 5, 6] (by kernel_rfl) (by kernel_rfl) ?_
        refine st_pure tabOK hk [0, 1, 2] [3, 4, 5, 6] [1, 8, 9, 10, 11, 12, 13, 15, 99, 100, 101, 115] [(1, I 16), (8, .bool false), (9, S p0), (10, .int .u64 1152921504606846976), (11, .int .u64 255), (12, .bool v9), (13, .int .u64 v10), (15, .int .u8 (bt p0 v11)), (99, .slice o5 p0.length c6), (100, I (p0.length : Int)), (101, I v11), (115, .bool (decide (48 ≤ bt p0 v11)))] (True) (by kernel_rfl) trivial ?_
        clear hk; intro a hk
        refine cut_ops (fun a w => Kn 172 a [(1, I 16), (8, .bool false), (9, S p0), (10, .int .u64 1152921504606846976), (11, .int .u64 255), (12, .bool v9), (13, .int .u64 v10), (15, .int .u8 (bt p0 v11)), (99, .slice o5 p0.length c6), (100, I (p0.length : Int)), (101, I v11), (112, .bool ((decide (48 ≤ bt p0 v11)) && (decide (bt p0 v11 ≤ 57))))] ∧ Ows [] w0 w [.row 0 5 1 (.slice o5 p0.length c6) p0.length (p0.map bV)]) ?_ ?_
        · intro J
          rcases Bool.eq_false_or_eq_true (decide (48 ≤ bt p0 v11)) with h19 | h19
          ·
            rw [h19] at hk
            have h20 : 48 ≤ bt p0 v11 := of_decide_eq_true h19
            refine st_pure tabOK hk [3, 4, 5, 6] [] [1, 8, 9, 10, 11, 12, 13, 15, 99, 100, 101, 112] [(1, I 16), (8, .bool false), (9, S p0), (10, .int .u64 1152921504606846976), (11, .int .u64 255), (12, .bool v9), (13, .int .u64 v10), (15, .int .u8 (bt p0 v11)), (99, .slice o5 p0.length c6), (100, I (p0.length : Int)), (101, I v11), (112, .bool (decide (bt p0 v11 ≤ 57)))] (True) (by kernel_rfl) trivial ?_
            clear hk; intro a hk
            refine st_done ?_
            have e : ((decide (48 ≤ bt p0 v11)) && (decide (bt p0 v11 ≤ 57))) = (decide (bt p0 v11 ≤ 57)) := by first | (simp only [h19]; done) | (simp only [h19]; rfl) | rfl | simp [h19]
            exact J a w ⟨by rw [e]; exact hk.to [1, 8, 9, 10, 11, 12, 13, 15, 99, 100, 101, 112] _ (by kernel_rfl), ho⟩
          ·
            rw [h19] at hk
            have h21 : ¬ (48 ≤ bt p0 v11) := of_decide_eq_false h19
            refine st_pure tabOK hk [3, 4, 5, 6] [] [1, 8, 9, 10, 11, 12, 13, 15, 99, 100, 101, 112] [(1, I 16), (8, .bool false), (9, S p0), (10, .int .u64 1152921504606846976), (11, .int .u64 255), (12, .bool v9), (13, .int .u64 v10), (15, .int .u8 (bt p0 v11)), (99, .slice o5 p0.length c6), (100, I (p0.length : Int)), (101, I v11), (112, .bool false)] (True) (by kernel_rfl) trivial ?_
            clear hk; intro a hk
            refine st_done ?_
            have e : ((decide (48 ≤ bt p0 v11)) && (decide (bt p0 v11 ≤ 57))) = false := by first | (simp only [h19]; done) | (simp only [h19]; rfl) | rfl | simp [h19]
            exact J a w ⟨by rw [e]; exact hk.to [1, 8, 9, 10, 11, 12, 13, 15, 99, 100, 101, 112] _ (by kernel_rfl), ho⟩
        · rintro a w ⟨hk, ho⟩
          refine st_cond hk (C43 [1, 1, 1, 1, 1, 1, 1, 1, 1, 1, 1, 0, 1, 0, 0, 1, 1, 0, 0, 1, 1, 0, 0, 1, 1, 1, 0]) (C43 [1, 1, 1, 1, 1, 1, 1, 1, 1, 1, 1, 0, 1, 0, 0, 1, 1, 0, 0, 1, 1, 0, 0, 1, 1, 1, 1]) (.tmp 112) (((decide (48 ≤ bt p0 v11)) && (decide (bt p0 v11 ≤ 57)))) (by kernel_rfl) (by kernel_rfl) (fun h22 => ?_) (fun h22 => ?_)
          ·
            have h23 : ((decide (48 ≤ bt p0 v11)) && (decide (bt p0 v11 ≤ 57))) = true := h22
            rw [if_pos h23] at H
            refine st_region 43 (opsOf (C43 [1, 1, 1, 1, 1, 1, 1, 1, 1, 1, 1, 0, 1, 0, 0, 1, 1, 0, 0, 1, 1, 0, 0, 1, 1, 1, 0])) [0, 1, 2] (by kernel_rfl) (by kernel_rfl) ?_
            refine st_pure tabOK hk [0, 1, 2] [] [1, 8, 9, 10, 11, 12, 13, 16, 99, 100, 101] [(1, I 16), (8, .bool false), (9, S p0), (10, .int .u64 1152921504606846976), (11, .int .u64 255), (12, .bool v9), (13, .int .u64 v10), (16, .int .u8 (w8 ((bt p0 v11) - 48))), (99, .slice o5 p0.length c6), (100, I (p0.length : Int)), (101, I v11)] (True) (by kernel_rfl) trivial ?_
            clear hk; intro a hk
            refine st_done ?_
            refine st_endb 5 ?_
            refine st_seq (C43 [1, 1, 1, 1, 1, 1, 1, 1, 1, 1, 1, 0, 1, 0, 0, 1, 1, 0, 0, 1, 1, 1, 0]) (C43 [1, 1, 1, 1, 1, 1, 1, 1, 1, 1, 1, 0, 1, 0, 0, 1, 1, 0, 0, 1, 1, 1, 1]) (by kernel_rfl) ?_
            refine st_seq (C43 [1, 1, 1, 1, 1, 1, 1, 1, 1, 1, 1, 0, 1, 0, 0, 1, 1, 0, 0, 1, 1, 1, 0, 0]) (C43 [1, 1, 1, 1, 1, 1, 1, 1, 1, 1, 1, 0, 1, 0, 0, 1, 1, 0, 0, 1, 1, 1, 0, 1]) (by kernel_rfl) ?_
            refine st_region 46 (opsOf (C43 [1, 1, 1, 1, 1, 1, 1, 1, 1, 1, 1, 0, 1, 0, 0, 1, 1, 0, 0, 1, 1, 1, 0, 0])) [0, 1, 2, 3] (by kernel_rfl) (by kernel_rfl) ?_
            refine st_pure tabOK hk [0, 1, 2, 3] [] [1, 8, 9, 10, 11, 12, 13, 16, 99, 100, 101, 137] [(1, I 16), (8, .bool false), (9, S p0), (10, .int .u64 1152921504606846976), (11, .int .u64 255), (12, .bool v9), (13, .int .u64 v10), (16, .int .u8 (w8 ((bt p0 v11) - 48))), (99, .slice o5 p0.length c6), (100, I (p0.length : Int)), (101, I v11), (137, .bool (decide (w8 ((bt p0 v11) - 48) ≥ 16)))] (True) (by kernel_rfl) trivial ?_
            clear hk; intro a hk
            refine st_done ?_
            refine st_cond hk (C43 [1, 1, 1, 1, 1, 1, 1, 1, 1, 1, 1, 0, 1, 0, 0, 1, 1, 0, 0, 1, 1, 1, 0, 1, 0]) (C43 [1, 1, 1, 1, 1, 1, 1, 1, 1, 1, 1, 0, 1, 0, 0, 1, 1, 0, 0, 1, 1, 1, 0, 1, 1]) (.tmp 137) (decide (w8 ((bt p0 v11) - 48) ≥ 16)) (by kernel_rfl) (by kernel_rfl) (fun h24 => ?_) (fun h24 => ?_)
            ·
              have h25 : w8 ((bt p0 v11) - 48) ≥ 16 := of_decide_eq_true h24
              rw [if_pos h25] at H
              exact nomatch H
            ·
              have h26 : ¬ (w8 ((bt p0 v11) - 48) ≥ 16) := of_decide_eq_false h24
              rw [if_neg h26] at H
              refine st_skip (by kernel_rfl) ?_
              refine st_seq (C43 [1, 1, 1, 1, 1, 1, 1, 1, 1, 1, 1, 0, 1, 0, 0, 1, 1, 0, 0, 1, 1, 1, 1, 0]) (C43 [1, 1, 1, 1, 1, 1, 1, 1, 1, 1, 1, 0, 1, 0, 0, 1, 1, 0, 0, 1, 1, 1, 1, 1]) (by kernel_rfl) ?_
              refine st_seq (C43 [1, 1, 1, 1, 1, 1, 1, 1, 1, 1, 1, 0, 1, 0, 0, 1, 1, 0, 0, 1, 1, 1, 1, 0, 0]) (C43 [1, 1, 1, 1, 1, 1, 1, 1, 1, 1, 1, 0, 1, 0, 0, 1, 1, 0, 0, 1, 1, 1, 1, 0, 1]) (by kernel_rfl) ?_
              refine st_region 48 (opsOf (C43 [1, 1, 1, 1, 1, 1, 1, 1, 1, 1, 1, 0, 1, 0, 0, 1, 1, 0, 0, 1, 1, 1, 1, 0, 0])) [0, 1, 2] (by kernel_rfl) (by kernel_rfl) ?_
              refine st_pure tabOK hk [0, 1, 2] [] [1, 8, 9, 10, 11, 12, 13, 16, 99, 100, 101, 141] [(1, I 16), (8, .bool false), (9, S p0), (10, .int .u64 1152921504606846976), (11, .int .u64 255), (12, .bool v9), (13, .int .u64 v10), (16, .int .u8 (w8 ((bt p0 v11) - 48))), (99, .slice o5 p0.length c6), (100, I (p0.length : Int)), (101, I v11), (141, .bool (decide (v10 ≥ 1152921504606846976)))] (True) (by kernel_rfl) trivial ?_
              clear hk; intro a hk
              refine st_done ?_
              refine st_cond hk (C43 [1, 1, 1, 1, 1, 1, 1, 1, 1, 1, 1, 0, 1, 0, 0, 1, 1, 0, 0, 1, 1, 1, 1, 0, 1, 0]) (C43 [1, 1, 1, 1, 1, 1, 1, 1, 1, 1, 1, 0, 1, 0, 0, 1, 1, 0, 0, 1, 1, 1, 1, 0, 1, 1]) (.tmp 141) (decide (v10 ≥ 1152921504606846976)) (by kernel_rfl) (by kernel_rfl) (fun h27 => ?_) (fun h27 => ?_)
              ·
                have h28 : v10 ≥ 1152921504606846976 := of_decide_eq_true h27
                rw [if_pos h28] at H
                exact nomatch H
              ·
                have h29 : ¬ (v10 ≥ 1152921504606846976) := of_decide_eq_false h27
                rw [if_neg h29] at H
                refine st_skip (by kernel_rfl) ?_
                refine st_seq (C43 [1, 1, 1, 1, 1, 1, 1, 1, 1, 1, 1, 0, 1, 0, 0, 1, 1, 0, 0, 1, 1, 1, 1, 1, 0]) (C43 [1, 1, 1, 1, 1, 1, 1, 1, 1, 1, 1, 0, 1, 0, 0, 1, 1, 0, 0, 1, 1, 1, 1, 1, 1]) (by kernel_rfl) ?_
                refine st_region 50 (opsOf (C43 [1, 1, 1, 1, 1, 1, 1, 1, 1, 1, 1, 0, 1, 0, 0, 1, 1, 0, 0, 1, 1, 1, 1, 1, 0])) [0, 1, 2, 3, 4] (by kernel_rfl) (by kernel_rfl) ?_
                refine st_pure tabOK hk [0, 1, 2, 3, 4] [] [1, 8, 9, 10, 11, 12, 13, 16, 99, 100, 101] [(1, I 16), (8, .bool false), (9, S p0), (10, .int .u64 1152921504606846976), (11, .int .u64 255), (12, .bool v9), (13, .int .u64 (IntKind.u64.wrap (v10 * 16))), (16, .int .u8 (w8 ((bt p0 v11) - 48))), (99, .slice o5 p0.length c6), (100, I (p0.length : Int)), (101, I v11)] (True) (by kernel_rfl) trivial ?_
                clear hk; intro a hk
                refine st_done ?_
                refine st_seq (C43 [1, 1, 1, 1, 1, 1, 1, 1, 1, 1, 1, 0, 1, 0, 0, 1, 1, 0, 0, 1, 1, 1, 1, 1, 1, 0]) (C43 [1, 1, 1, 1, 1, 1, 1, 1, 1, 1, 1, 0, 1, 0, 0, 1, 1, 0, 0, 1, 1, 1, 1, 1, 1, 1]) (by kernel_rfl) ?_
                refine st_region 51 (opsOf (C43 [1, 1, 1, 1, 1, 1, 1, 1, 1, 1, 1, 0, 1, 0, 0, 1, 1, 0, 0, 1, 1, 1, 1, 1, 1, 0])) [0, 1, 2, 3, 4] (by kernel_rfl) (by kernel_rfl) ?_
                refine st_pure tabOK hk [0, 1, 2, 3, 4] [] [1, 8, 9, 10, 11, 12, 13, 17, 99, 100, 101] [(1, I 16), (8, .bool false), (9, S p0), (10, .int .u64 1152921504606846976), (11, .int .u64 255), (12, .bool v9), (13, .int .u64 (IntKind.u64.wrap (v10 * 16))), (17, .int .u64 (IntKind.u64.wrap ((IntKind.u64.wrap (v10 * 16)) + (IntKind.u64.wrap (w8 ((bt p0 v11) - 48)))))), (99, .slice o5 p0.length c6), (100, I (p0.length : Int)), (101, I v11)] (True) (by kernel_rfl) trivial ?_
                clear hk; intro a hk
                refine st_done ?_
                refine st_seq (C43 [1, 1, 1, 1, 1, 1, 1, 1, 1, 1, 1, 0, 1, 0, 0, 1, 1, 0, 0, 1, 1, 1, 1, 1, 1, 1, 0]) (C43 [1, 1, 1, 1, 1, 1, 1, 1, 1, 1, 1, 0, 1, 0, 0, 1, 1, 0, 0, 1, 1, 1, 1, 1, 1, 1, 1]) (by kernel_rfl) ?_
                refine st_seq (C43 [1, 1, 1, 1, 1, 1, 1, 1, 1, 1, 1, 0, 1, 0, 0, 1, 1, 0, 0, 1, 1, 1, 1, 1, 1, 1, 0, 0]) (C43 [1, 1, 1, 1, 1, 1, 1, 1, 1, 1, 1, 0, 1, 0, 0, 1, 1, 0, 0, 1, 1, 1, 1, 1, 1, 1, 0, 1]) (by kernel_rfl) ?_
                refine st_region 52 (opsOf (C43 [1, 1, 1, 1, 1, 1, 1, 1, 1, 1, 1, 0, 1, 0, 0, 1, 1, 0, 0, 1, 1, 1, 1, 1, 1, 1, 0, 0])) [0, 1, 2, 3, 4, 5, 6, 7] (by kernel_rfl) (by kernel_rfl) ?_
                refine st_pure tabOK hk [0, 1, 2, 3] [4, 5, 6, 7] [1, 8, 9, 10, 11, 12, 17, 99, 100, 101, 155] [(1, I 16), (8, .bool false), (9, S p0), (10, .int .u64 1152921504606846976), (11, .int .u64 255), (12, .bool v9), (17, .int .u64 (IntKind.u64.wrap ((IntKind.u64.wrap (v10 * 16)) + (IntKind.u64.wrap (w8 ((bt p0 v11) - 48)))))), (99, .slice o5 p0.length c6), (100, I (p0.length : Int)), (101, I v11), (155, .bool (decide (IntKind.u64.wrap ((IntKind.u64.wrap (v10 * 16)) + (IntKind.u64.wrap (w8 ((bt p0 v11) - 48)))) < IntKind.u64.wrap (v10 * 16))))] (True) (by kernel_rfl) trivial ?_
                clear hk; intro a hk
                refine cut_ops (fun a w => Kn 172 a [(1, I 16), (8, .bool false), (9, S p0), (10, .int .u64 1152921504606846976), (11, .int .u64 255), (12, .bool v9), (17, .int .u64 (IntKind.u64.wrap ((IntKind.u64.wrap (v10 * 16)) + (IntKind.u64.wrap (w8 ((bt p0 v11) - 48)))))), (99, .slice o5 p0.length c6), (100, I (p0.length : Int)), (101, I v11), (159, .bool ((decide (IntKind.u64.wrap ((IntKind.u64.wrap (v10 * 16)) + (IntKind.u64.wrap (w8 ((bt p0 v11) - 48)))) < IntKind.u64.wrap (v10 * 16))) || (decide (IntKind.u64.wrap ((IntKind.u64.wrap (v10 * 16)) + (IntKind.u64.wrap (w8 ((bt p0 v11) - 48)))) > 255))))] ∧ Ows [] w0 w [.row 0 5 1 (.slice o5 p0.length c6) p0.length (p0.map bV)]) ?_ ?_
                · intro J
                  rcases Bool.eq_false_or_eq_true (decide (IntKind.u64.wrap ((IntKind.u64.wrap (v10 * 16)) + (IntKind.u64.wrap (w8 ((bt p0 v11) - 48)))) < IntKind.u64.wrap (v10 * 16))) with h30 | h30
                  ·
                    rw [h30] at hk
                    have h31 : IntKind.u64.wrap ((IntKind.u64.wrap (v10 * 16)) + (IntKind.u64.wrap (w8 ((bt p0 v11) - 48)))) < IntKind.u64.wrap (v10 * 16) := of_decide_eq_true h30
                    refine st_pure tabOK hk [4, 5, 6, 7] [] [1, 8, 9, 10, 11, 12, 17, 99, 100, 101, 159] [(1, I 16), (8, .bool false), (9, S p0), (10, .int .u64 1152921504606846976), (11, .int .u64 255), (12, .bool v9), (17, .int .u64 (IntKind.u64.wrap ((IntKind.u64.wrap (v10 * 16)) + (IntKind.u64.wrap (w8 ((bt p0 v11) - 48)))))), (99, .slice o5 p0.length c6), (100, I (p0.length : Int)), (101, I v11), (159, .bool true)] (True) (by kernel_rfl) trivial ?_
                    clear hk; intro a hk
                    refine st_done ?_
                    have e : ((decide (IntKind.u64.wrap ((IntKind.u64.wrap (v10 * 16)) + (IntKind.u64.wrap (w8 ((bt p0 v11) - 48)))) < IntKind.u64.wrap (v10 * 16))) || (decide (IntKind.u64.wrap ((IntKind.u64.wrap (v10 * 16)) + (IntKind.u64.wrap (w8 ((bt p0 v11) - 48)))) > 255))) = true := by first | (simp only [h30]; done) | (simp only [h30]; rfl) | rfl | simp [h30]
                    exact J a w ⟨by rw [e]; exact hk.to [1, 8, 9, 10, 11, 12, 17, 99, 100, 101, 159] _ (by kernel_rfl), ho⟩
                  ·
                    rw [h30] at hk
                    have h32 : ¬ (IntKind.u64.wrap ((IntKind.u64.wrap (v10 * 16)) + (IntKind.u64.wrap (w8 ((bt p0 v11) - 48)))) < IntKind.u64.wrap (v10 * 16)) := of_decide_eq_false h30
                    refine st_pure tabOK hk [4, 5, 6, 7] [] [1, 8, 9, 10, 11, 12, 17, 99, 100, 101, 159] [(1, I 16), (8, .bool false), (9, S p0), (10, .int .u64 1152921504606846976), (11, .int .u64 255), (12, .bool v9), (17, .int .u64 (IntKind.u64.wrap ((IntKind.u64.wrap (v10 * 16)) + (IntKind.u64.wrap (w8 ((bt p0 v11) - 48)))))), (99, .slice o5 p0.length c6), (100, I (p0.length : Int)), (101, I v11), (159, .bool (decide (IntKind.u64.wrap ((IntKind.u64.wrap (v10 * 16)) + (IntKind.u64.wrap (w8 ((bt p0 v11) - 48)))) > 255)))] (True) (by kernel_rfl) trivial ?_
                    clear hk; intro a hk
                    refine st_done ?_
                    have e : ((decide (IntKind.u64.wrap ((IntKind.u64.wrap (v10 * 16)) + (IntKind.u64.wrap (w8 ((bt p0 v11) - 48)))) < IntKind.u64.wrap (v10 * 16))) || (decide (IntKind.u64.wrap ((IntKind.u64.wrap (v10 * 16)) + (IntKind.u64.wrap (w8 ((bt p0 v11) - 48)))) > 255))) = (decide (IntKind.u64.wrap ((IntKind.u64.wrap (v10 * 16)) + (IntKind.u64.wrap (w8 ((bt p0 v11) - 48)))) > 255)) := by first | (simp only [h30]; done) | (simp only [h30]; rfl) | rfl | simp [h30]
                    exact J a w ⟨by rw [e]; exact hk.to [1, 8, 9, 10, 11, 12, 17, 99, 100, 101, 159] _ (by kernel_rfl), ho⟩
                · rintro a w ⟨hk, ho⟩
                  refine st_cond hk (C43 [1, 1, 1, 1, 1, 1, 1, 1, 1, 1, 1, 0, 1, 0, 0, 1, 1, 0, 0, 1, 1, 1, 1, 1, 1, 1, 0, 1, 0]) (C43 [1, 1, 1, 1, 1, 1, 1, 1, 1, 1, 1, 0, 1, 0, 0, 1, 1, 0, 0, 1, 1, 1, 1, 1, 1, 1, 0, 1, 1]) (.tmp 159) (((decide (IntKind.u64.wrap ((IntKind.u64.wrap (v10 * 16)) + (IntKind.u64.wrap (w8 ((bt p0 v11) - 48)))) < IntKind.u64.wrap (v10 * 16))) || (decide (IntKind.u64.wrap ((IntKind.u64.wrap (v10 * 16)) + (IntKind.u64.wrap (w8 ((bt p0 v11) - 48)))) > 255)))) (by kernel_rfl) (by kernel_rfl) (fun h33 => ?_) (fun h33 => ?_)
                  ·
                    have h34 : ((decide (IntKind.u64.wrap ((IntKind.u64.wrap (v10 * 16)) + (IntKind.u64.wrap (w8 ((bt p0 v11) - 48)))) < IntKind.u64.wrap (v10 * 16))) || (decide (IntKind.u64.wrap ((IntKind.u64.wrap (v10 * 16)) + (IntKind.u64.wrap (w8 ((bt p0 v11) - 48)))) > 255))) = true := h33
                    rw [if_pos h34] at H
                    exact nomatch H
                  ·
                    have h35 : ¬ (((decide (IntKind.u64.wrap ((IntKind.u64.wrap (v10 * 16)) + (IntKind.u64.wrap (w8 ((bt p0 v11) - 48)))) < IntKind.u64.wrap (v10 * 16))) || (decide (IntKind.u64.wrap ((IntKind.u64.wrap (v10 * 16)) + (IntKind.u64.wrap (w8 ((bt p0 v11) - 48)))) > 255))) = true) := ne_true_of_eq_false h33
                    rw [if_neg h35] at H
                    refine st_skip (by kernel_rfl) ?_
                    refine st_region 54 (opsOf (C43 [1, 1, 1, 1, 1, 1, 1, 1, 1, 1, 1, 0, 1, 0, 0, 1, 1, 0, 0, 1, 1, 1, 1, 1, 1, 1, 1])) [0, 1] (by kernel_rfl) (by kernel_rfl) ?_
                    refine st_pure tabOK hk [0, 1] [] [1, 8, 9, 10, 11, 12, 13, 99, 100, 101] [(1, I 16), (8, .bool false), (9, S p0), (10, .int .u64 1152921504606846976), (11, .int .u64 255), (12, .bool v9), (13, .int .u64 (IntKind.u64.wrap ((IntKind.u64.wrap (v10 * 16)) + (IntKind.u64.wrap (w8 ((bt p0 v11) - 48)))))), (99, .slice o5 p0.length c6), (100, I (p0.length : Int)), (101, I v11)] (True) (by kernel_rfl) trivial ?_
                    clear hk; intro a hk
                    refine st_done ?_
                    refine st_endb 4 ?_
                    refine st_region 55 (opsOf (C43 [1, 1, 1, 1, 1, 1, 1, 1, 1, 1, 1, 0, 1, 0, 0, 1, 1, 1])) [0, 1] (by kernel_rfl) (by kernel_rfl) ?_
                    refine st_pure tabOK hk [0, 1] [] [1, 8, 9, 10, 11, 12, 13, 99, 100, 101] [(1, I 16), (8, .bool false), (9, S p0), (10, .int .u64 1152921504606846976), (11, .int .u64 255), (12, .bool v9), (13, .int .u64 (IntKind.u64.wrap ((IntKind.u64.wrap (v10 * 16)) + (IntKind.u64.wrap (w8 ((bt p0 v11) - 48)))))), (99, .slice o5 p0.length c6), (100, I (p0.length : Int)), (101, I (w64 (v11 + 1)))] (True) (by kernel_rfl) trivial ?_
                    clear hk; intro a hk
                    refine st_done ?_
                    refine st_inl ?_
                    exact ih p0 v9 (IntKind.u64.wrap ((IntKind.u64.wrap (v10 * 16)) + (IntKind.u64.wrap (w8 ((bt p0 v11) - 48))))) (w64 (v11 + 1)) out H o5 c6 w0 Q rest a w  (hk.to [1, 8, 9, 10, 11, 12, 13, 99, 100, 101] _ (by kernel_rfl)) ho J
          ·
            have h36 : ¬ (((decide (48 ≤ bt p0 v11)) && (decide (bt p0 v11 ≤ 57))) = true) := ne_true_of_eq_false h22
            rw [if_neg h36] at H
            refine st_seq (C43 [1, 1, 1, 1, 1, 1, 1, 1, 1, 1, 1, 0, 1, 0, 0, 1, 1, 0, 0, 1, 1, 0, 0, 1, 1, 1, 1, 0]) (C43 [1, 1, 1, 1, 1, 1, 1, 1, 1, 1, 1, 0, 1, 0, 0, 1, 1, 0, 0, 1, 1, 0, 0, 1, 1, 1, 1, 1]) (by kernel_rfl) ?_
            refine st_region 44 (opsOf (C43 [1, 1, 1, 1, 1, 1, 1, 1, 1, 1, 1, 0, 1, 0, 0, 1, 1, 0, 0, 1, 1, 0, 0, 1, 1, 1, 1, 0])) [0, 1, 2, 3, 4, 5, 6, 7, 8] (by kernel_rfl) (by kernel_rfl) ?_
            refine st_pure tabOK hk [0] [1, 2, 3, 4, 5, 6, 7, 8] [1, 8, 9, 10, 11, 12, 13, 15, 99, 100, 101, 122] [(1, I 16), (8, .bool false), (9, S p0), (10, .int .u64 1152921504606846976), (11, .int .u64 255), (12, .bool v9), (13, .int .u64 v10), (15, .int .u8 (bt p0 v11)), (99, .slice o5 p0.length c6), (100, I (p0.length : Int)), (101, I v11), (122, .int .u8 (bt p0 v11))] (True) (by kernel_rfl) trivial ?_
            clear hk; intro a hk
            obtain ⟨t37, h38, H⟩ := Option.bind_eq_some_iff.1 H
            refine st_call hk 56 [.int .u8 (bt p0 v11)] (some 123) enters56 (by kernel_rfl) (strconv_lower.ok  (bt p0 v11) t37 h38 w ) ?_
            clear hk; rintro a u w ⟨rfl, ho'⟩ hk
            replace ho : Ows [] w0 w [.row 0 5 1 (.slice o5 p0.length c6) p0.length (p0.map bV)] := ho.call ho'; clear ho'
            refine st_pure tabOK hk [2, 3] [4, 5, 6, 7, 8] [1, 8, 9, 10, 11, 12, 13, 15, 99, 100, 101, 125] [(1, I 16), (8, .bool false), (9, S p0), (10, .int .u64 1152921504606846976), (11, .int .u64 255), (12, .bool v9), (13, .int .u64 v10), (15, .int .u8 (bt p0 v11)), (99, .slice o5 p0.length c6), (100, I (p0.length : Int)), (101, I v11), (125, .bool (decide (97 ≤ t37)))] (True) (by kernel_rfl) trivial ?_
            clear hk; intro a hk
            obtain ⟨m39, HX, H⟩ := Option.bind_eq_some_iff.1 H
            refine cut_ops (fun a w => Kn 172 a [(1, I 16), (8, .bool false), (9, S p0), (10, .int .u64 1152921504606846976), (11, .int .u64 255), (12, .bool v9), (13, .int .u64 v10), (15, .int .u8 (bt p0 v11)), (99, .slice o5 p0.length c6), (100, I (p0.length : Int)), (101, I v11), (121, .bool m39)] ∧ Ows [] w0 w [.row 0 5 1 (.slice o5 p0.length c6) p0.length (p0.map bV)]) ?_ ?_
            · intro J; clear H; have H := HX; clear HX
              rcases Bool.eq_false_or_eq_true (decide (97 ≤ t37)) with h40 | h40
              ·
                rw [h40] at hk
                have h41 : 97 ≤ t37 := of_decide_eq_true h40
                rw [if_pos h41] at H
                refine st_pure tabOK hk [4] [5, 6, 7, 8] [1, 8, 9, 10, 11, 12, 13, 15, 99, 100, 101, 125, 126] [(1, I 16), (8, .bool false), (9, S p0), (10, .int .u64 1152921504606846976), (11, .int .u64 255), (12, .bool v9), (13, .int .u64 v10), (15, .int .u8 (bt p0 v11)), (99, .slice o5 p0.length c6), (100, I (p0.length : Int)), (101, I v11), (125, .bool true), (126, .int .u8 (bt p0 v11))] (True) (by kernel_rfl) trivial ?_
                clear hk; intro a hk
                obtain ⟨t42, h43, H⟩ := Option.bind_eq_some_iff.1 H
                refine st_call hk 56 [.int .u8 (bt p0 v11)] (some 127) enters56 (by kernel_rfl) (strconv_lower.ok  (bt p0 v11) t42 h43 w ) ?_
                clear hk; rintro a u w ⟨rfl, ho'⟩ hk
                replace ho : Ows [] w0 w [.row 0 5 1 (.slice o5 p0.length c6) p0.length (p0.map bV)] := ho.call ho'; clear ho'
                refine st_pure tabOK hk [6, 7, 8] [] [1, 8, 9, 10, 11, 12, 13, 15, 99, 100, 101, 121] [(1, I 16), (8, .bool false), (9, S p0), (10, .int .u64 1152921504606846976), (11, .int .u64 255), (12, .bool v9), (13, .int .u64 v10), (15, .int .u8 (bt p0 v11)), (99, .slice o5 p0.length c6), (100, I (p0.length : Int)), (101, I v11), (121, .bool (decide (t42 ≤ 122)))] (True) (by kernel_rfl) trivial ?_
                clear hk; intro a hk
                refine st_done ?_
                obtain rfl := Option.some.inj H
                exact J a w ⟨hk.to [1, 8, 9, 10, 11, 12, 13, 15, 99, 100, 101, 121] _ (by kernel_rfl), ho⟩
              ·
                rw [h40] at hk
                have h44 : ¬ (97 ≤ t37) := of_decide_eq_false h40
                rw [if_neg h44] at H
                refine st_pure tabOK hk [4, 5, 6, 7, 8] [] [1, 8, 9, 10, 11, 12, 13, 15, 99, 100, 101, 121] [(1, I 16), (8, .bool false), (9, S p0), (10, .int .u64 1152921504606846976), (11, .int .u64 255), (12, .bool v9), (13, .int .u64 v10), (15, .int .u8 (bt p0 v11)), (99, .slice o5 p0.length c6), (100, I (p0.length : Int)), (101, I v11), (121, .bool false)] (True) (by kernel_rfl) trivial ?_
                clear hk; intro a hk
                refine st_done ?_
                obtain rfl := Option.some.inj H
                exact J a w ⟨hk.to [1, 8, 9, 10, 11, 12, 13, 15, 99, 100, 101, 121] _ (by kernel_rfl), ho⟩
            · clear HX; rintro a w ⟨hk, ho⟩
              refine st_cond hk (C43 [1, 1, 1, 1, 1, 1, 1, 1, 1, 1, 1, 0, 1, 0, 0, 1, 1, 0, 0, 1, 1, 0, 0, 1, 1, 1, 1, 1, 0]) (C43 [1, 1, 1, 1, 1, 1, 1, 1, 1, 1, 1, 0, 1, 0, 0, 1, 1, 0, 0, 1, 1, 0, 0, 1, 1, 1, 1, 1, 1]) (.tmp 121) (m39) (by kernel_rfl) (by kernel_rfl) (fun h45 => ?_) (fun h45 => ?_)
              ·
                have h46 : m39 = true := h45
                rw [if_pos h46] at H
                refine st_region 45 (opsOf (C43 [1, 1, 1, 1, 1, 1, 1, 1, 1, 1, 1, 0, 1, 0, 0, 1, 1, 0, 0, 1, 1, 0, 0, 1, 1, 1, 1, 1, 0])) [0, 1, 2, 3, 4] (by kernel_rfl) (by kernel_rfl) ?_
                refine st_pure tabOK hk [0] [1, 2, 3, 4] [1, 8, 9, 10, 11, 12, 13, 99, 100, 101, 130] [(1, I 16), (8, .bool false), (9, S p0), (10, .int .u64 1152921504606846976), (11, .int .u64 255), (12, .bool v9), (13, .int .u64 v10), (99, .slice o5 p0.length c6), (100, I (p0.length : Int)), (101, I v11), (130, .int .u8 (bt p0 v11))] (True) (by kernel_rfl) trivial ?_
                clear hk; intro a hk
                obtain ⟨t47, h48, H⟩ := Option.bind_eq_some_iff.1 H
                refine st_call hk 56 [.int .u8 (bt p0 v11)] (some 131) enters56 (by kernel_rfl) (strconv_lower.ok  (bt p0 v11) t47 h48 w ) ?_
                clear hk; rintro a u w ⟨rfl, ho'⟩ hk
                replace ho : Ows [] w0 w [.row 0 5 1 (.slice o5 p0.length c6) p0.length (p0.map bV)] := ho.call ho'; clear ho'
                refine st_pure tabOK hk [2, 3, 4] [] [1, 8, 9, 10, 11, 12, 13, 16, 99, 100, 101] [(1, I 16), (8, .bool false), (9, S p0), (10, .int .u64 1152921504606846976), (11, .int .u64 255), (12, .bool v9), (13, .int .u64 v10), (16, .int .u8 (w8 ((w8 (t47 - 97)) + 10))), (99, .slice o5 p0.length c6), (100, I (p0.length : Int)), (101, I v11)] (True) (by kernel_rfl) trivial ?_
                clear hk; intro a hk
                refine st_done ?_
                refine st_endb 5 ?_
                refine st_seq (C43 [1, 1, 1, 1, 1, 1, 1, 1, 1, 1, 1, 0, 1, 0, 0, 1, 1, 0, 0, 1, 1, 1, 0]) (C43 [1, 1, 1, 1, 1, 1, 1, 1, 1, 1, 1, 0, 1, 0, 0, 1, 1, 0, 0, 1, 1, 1, 1]) (by kernel_rfl) ?_
                refine st_seq (C43 [1, 1, 1, 1, 1, 1, 1, 1, 1, 1, 1, 0, 1, 0, 0, 1, 1, 0, 0, 1, 1, 1, 0, 0]) (C43 [1, 1, 1, 1, 1, 1, 1, 1, 1, 1, 1, 0, 1, 0, 0, 1, 1, 0, 0, 1, 1, 1, 0, 1]) (by kernel_rfl) ?_
                refine st_region 46 (opsOf (C43 [1, 1, 1, 1, 1, 1, 1, 1, 1, 1, 1, 0, 1, 0, 0, 1, 1, 0, 0, 1, 1, 1, 0, 0])) [0, 1, 2, 3] (by kernel_rfl) (by kernel_rfl) ?_
                refine st_pure tabOK hk [0, 1, 2, 3] [] [1, 8, 9, 10, 11, 12, 13, 16, 99, 100, 101, 137] [(1, I 16), (8, .bool false), (9, S p0), (10, .int .u64 1152921504606846976), (11, .int .u64 255), (12, .bool v9), (13, .int .u64 v10), (16, .int .u8 (w8 ((w8 (t47 - 97)) + 10))), (99, .slice o5 p0.length c6), (100, I (p0.length : Int)), (101, I v11), (137, .bool (decide (w8 ((w8 (t47 - 97)) + 10) ≥ 16)))] (True) (by kernel_rfl) trivial ?_
                clear hk; intro a hk
                refine st_done ?_
                refine st_cond hk (C43 [1, 1, 1, 1, 1, 1, 1, 1, 1, 1, 1, 0, 1, 0, 0, 1, 1, 0, 0, 1, 1, 1, 0, 1, 0]) (C43 [1, 1, 1, 1, 1, 1, 1, 1, 1, 1, 1, 0, 1, 0, 0, 1, 1, 0, 0, 1, 1, 1, 0, 1, 1]) (.tmp 137) (decide (w8 ((w8 (t47 - 97)) + 10) ≥ 16)) (by kernel_rfl) (by kernel_rfl) (fun h49 => ?_) (fun h49 => ?_)
                ·
                  have h50 : w8 ((w8 (t47 - 97)) + 10) ≥ 16 := of_decide_eq_true h49
                  rw [if_pos h50] at H
                  exact nomatch H
                ·
                  have h51 : ¬ (w8 ((w8 (t47 - 97)) + 10) ≥ 16) := of_decide_eq_false h49
                  rw [if_neg h51] at H
                  refine st_skip (by kernel_rfl) ?_
                  refine st_seq (C43 [1, 1, 1, 1, 1, 1, 1, 1, 1, 1, 1, 0, 1, 0, 0, 1, 1, 0, 0, 1, 1, 1, 1, 0]) (C43 [1, 1, 1, 1, 1, 1, 1, 1, 1, 1, 1, 0, 1, 0, 0, 1, 1, 0, 0, 1, 1, 1, 1, 1]) (by kernel_rfl) ?_
                  refine st_seq (C43 [1, 1, 1, 1, 1, 1, 1, 1, 1, 1, 1, 0, 1, 0, 0, 1, 1, 0, 0, 1, 1, 1, 1, 0, 0]) (C43 [1, 1, 1, 1, 1, 1, 1, 1, 1, 1, 1, 0, 1, 0, 0, 1, 1, 0, 0, 1, 1, 1, 1, 0, 1]) (by kernel_rfl) ?_
                  refine st_region 48 (opsOf (C43 [1, 1, 1, 1, 1, 1, 1, 1, 1, 1, 1, 0, 1, 0, 0, 1, 1, 0, 0, 1, 1, 1, 1, 0, 0])) [0, 1, 2] (by kernel_rfl) (by kernel_rfl) ?_
                  refine st_pure tabOK hk [0, 1, 2] [] [1, 8, 9, 10, 11, 12, 13, 16, 99, 100, 101, 141] [(1, I 16), (8, .bool false), (9, S p0), (10, .int .u64 1152921504606846976), (11, .int .u64 255), (12, .bool v9), (13, .int .u64 v10), (16, .int .u8 (w8 ((w8 (t47 - 97)) + 10))), (99, .slice o5 p0.length c6), (100, I (p0.length : Int)), (101, I v11), (141, .bool (decide (v10 ≥ 1152921504606846976)))] (True) (by kernel_rfl) trivial ?_
                  clear hk; intro a hk
                  refine st_done ?_
                  refine st_cond hk (C43 [1, 1, 1, 1, 1, 1, 1, 1, 1, 1, 1, 0, 1, 0, 0, 1, 1, 0, 0, 1, 1, 1, 1, 0, 1, 0]) (C43 [1, 1, 1, 1, 1, 1, 1, 1, 1, 1, 1, 0, 1, 0, 0, 1, 1, 0, 0, 1, 1, 1, 1, 0, 1, 1]) (.tmp 141) (decide (v10 ≥ 1152921504606846976)) (by kernel_rfl) (by kernel_rfl) (fun h52 => ?_) (fun h52 => ?_)
                  ·
                    have h53 : v10 ≥ 1152921504606846976 := of_decide_eq_true h52
                    rw [if_pos h53] at H
                    exact nomatch H
                  ·
                    have h54 : ¬ (v10 ≥ 1152921504606846976) := of_decide_eq_false h52
                    rw [if_neg h54] at H
                    refine st_skip (by kernel_rfl) ?_
                    refine st_seq (C43 [1, 1, 1, 1, 1, 1, 1, 1, 1, 1, 1, 0, 1, 0, 0, 1, 1, 0, 0, 1, 1, 1, 1, 1, 0]) (C43 [1, 1, 1, 1, 1, 1, 1, 1, 1, 1, 1, 0, 1, 0, 0, 1, 1, 0, 0, 1, 1, 1, 1, 1, 1]) (by kernel_rfl) ?_
                    refine st_region 50 (opsOf (C43 [1, 1, 1, 1, 1, 1, 1, 1, 1, 1, 1, 0, 1, 0, 0, 1, 1, 0, 0, 1, 1, 1, 1, 1, 0])) [0, 1, 2, 3, 4] (by kernel_rfl) (by kernel_rfl) ?_
                    refine st_pure tabOK hk [0, 1, 2, 3, 4] [] [1, 8, 9, 10, 11, 12, 13, 16, 99, 100, 101] [(1, I 16), (8, .bool false), (9, S p0), (10, .int .u64 1152921504606846976), (11, .int .u64 255), (12, .bool v9), (13, .int .u64 (IntKind.u64.wrap (v10 * 16))), (16, .int .u8 (w8 ((w8 (t47 - 97)) + 10))), (99, .slice o5 p0.length c6), (100, I (p0.length : Int)), (101, I v11)] (True) (by kernel_rfl) trivial ?_
                    clear hk; intro a hk
                    refine st_done ?_
                    refine st_seq (C43 [1, 1, 1, 1, 1, 1, 1, 1, 1, 1, 1, 0, 1, 0, 0, 1, 1, 0, 0, 1, 1, 1, 1, 1, 1, 0]) (C43 [1, 1, 1, 1, 1, 1, 1, 1, 1, 1, 1, 0, 1, 0, 0, 1, 1, 0, 0, 1, 1, 1, 1, 1, 1, 1]) (by kernel_rfl) ?_
                    refine st_region 51 (opsOf (C43 [1, 1, 1, 1, 1, 1, 1, 1, 1, 1, 1, 0, 1, 0, 0, 1, 1, 0, 0, 1, 1, 1, 1, 1, 1, 0])) [0, 1, 2, 3, 4] (by kernel_rfl) (by kernel_rfl) ?_
                    refine st_pure tabOK hk [0, 1, 2, 3, 4] [] [1, 8, 9, 10, 11, 12, 13, 17, 99, 100, 101] [(1, I 16), (8, .bool false), (9, S p0), (10, .int .u64 1152921504606846976), (11, .int .u64 255), (12, .bool v9), (13, .int .u64 (IntKind.u64.wrap (v10 * 16))), (17, .int .u64 (IntKind.u64.wrap ((IntKind.u64.wrap (v10 * 16)) + (IntKind.u64.wrap (w8 ((w8 (t47 - 97)) + 10)))))), (99, .slice o5 p0.length c6), (100, I (p0.length : Int)), (101, I v11)] (True) (by kernel_rfl) trivial ?_
                    clear hk; intro a hk
                    refine st_done ?_
                    refine st_seq (C43 [1, 1, 1, 1, 1, 1, 1, 1, 1, 1, 1, 0, 1, 0, 0, 1, 1, 0, 0, 1, 1, 1, 1, 1, 1, 1, 0]) (C43 [1, 1, 1, 1, 1, 1, 1, 1, 1, 1, 1, 0, 1, 0, 0, 1, 1, 0, 0, 1, 1, 1, 1, 1, 1, 1, 1]) (by kernel_rfl) ?_
                    refine st_seq (C43 [1, 1, 1, 1, 1, 1, 1, 1, 1, 1, 1, 0, 1, 0, 0, 1, 1, 0, 0, 1, 1, 1, 1, 1, 1, 1, 0, 0]) (C43 [1, 1, 1, 1, 1, 1, 1, 1, 1, 1, 1, 0, 1, 0, 0, 1, 1, 0, 0, 1, 1, 1, 1, 1, 1, 1, 0, 1]) (by kernel_rfl) ?_
                    refine st_region 52 (opsOf (C43 [1, 1, 1, 1, 1, 1, 1, 1, 1, 1, 1, 0, 1, 0, 0, 1, 1, 0, 0, 1, 1, 1, 1, 1, 1, 1, 0, 0])) [0, 1, 2, 3, 4, 5, 6, 7] (by kernel_rfl) (by kernel_rfl) ?_
                    refine st_pure tabOK hk [0, 1, 2, 3] [4, 5, 6, 7] [1, 8, 9, 10, 11, 12, 17, 99, 100, 101, 155] [(1, I 16), (8, .bool false), (9, S p0), (10, .int .u64 1152921504606846976), (11, .int .u64 255), (12, .bool v9), (17, .int .u64 (IntKind.u64.wrap ((IntKind.u64.wrap (v10 * 16)) + (IntKind.u64.wrap (w8 ((w8 (t47 - 97)) + 10)))))), (99, .slice o5 p0.length c6), (100, I (p0.length : Int)), (101, I v11), (155, .bool (decide (IntKind.u64.wrap ((IntKind.u64.wrap (v10 * 16)) + (IntKind.u64.wrap (w8 ((w8 (t47 - 97)) + 10)))) < IntKind.u64.wrap (v10 * 16))))] (True) (by kernel_rfl) trivial ?_
                    clear hk; intro a hk
                    refine cut_ops (fun a w => Kn 172 a [(1, I 16), (8, .bool false), (9, S p0), (10, .int .u64 1152921504606846976), (11, .int .u64 255), (12, .bool v9), (17, .int .u64 (IntKind.u64.wrap ((IntKind.u64.wrap (v10 * 16)) + (IntKind.u64.wrap (w8 ((w8 (t47 - 97)) + 10)))))), (99, .slice o5 p0.length c6), (100, I (p0.length : Int)), (101, I v11), (159, .bool ((decide (IntKind.u64.wrap ((IntKind.u64.wrap (v10 * 16)) + (IntKind.u64.wrap (w8 ((w8 (t47 - 97)) + 10)))) < IntKind.u64.wrap (v10 * 16))) || (decide (IntKind.u64.wrap ((IntKind.u64.wrap (v10 * 16)) + (IntKind.u64.wrap (w8 ((w8 (t47 - 97)) + 10)))) > 255))))] ∧ Ows [] w0 w [.row 0 5 1 (.slice o5 p0.length c6) p0.length (p0.map bV)]) ?_ ?_
                    · intro J
                      rcases Bool.eq_false_or_eq_true (decide (IntKind.u64.wrap ((IntKind.u64.wrap (v10 * 16)) + (IntKind.u64.wrap (w8 ((w8 (t47 - 97)) + 10)))) < IntKind.u64.wrap (v10 * 16))) with h55 | h55
                      ·
                        rw [h55] at hk
                        have h56 : IntKind.u64.wrap ((IntKind.u64.wrap (v10 * 16)) + (IntKind.u64.wrap (w8 ((w8 (t47 - 97)) + 10)))) < IntKind.u64.wrap (v10 * 16) := of_decide_eq_true h55
                        refine st_pure tabOK hk [4, 5, 6, 7] [] [1, 8, 9, 10, 11, 12, 17, 99, 100, 101, 159] [(1, I 16), (8, .bool false), (9, S p0), (10, .int .u64 1152921504606846976), (11, .int .u64 255), (12, .bool v9), (17, .int .u64 (IntKind.u64.wrap ((IntKind.u64.wrap (v10 * 16)) + (IntKind.u64.wrap (w8 ((w8 (t47 - 97)) + 10)))))), (99, .slice o5 p0.length c6), (100, I (p0.length : Int)), (101, I v11), (159, .bool true)] (True) (by kernel_rfl) trivial ?_
                        clear hk; intro a hk
                        refine st_done ?_
                        have e : ((decide (IntKind.u64.wrap ((IntKind.u64.wrap (v10 * 16)) + (IntKind.u64.wrap (w8 ((w8 (t47 - 97)) + 10)))) < IntKind.u64.wrap (v10 * 16))) || (decide (IntKind.u64.wrap ((IntKind.u64.wrap (v10 * 16)) + (IntKind.u64.wrap (w8 ((w8 (t47 - 97)) + 10)))) > 255))) = true := by first | (simp only [h55]; done) | (simp only [h55]; rfl) | rfl | simp [h55]
                        exact J a w ⟨by rw [e]; exact hk.to [1, 8, 9, 10, 11, 12, 17, 99, 100, 101, 159] _ (by kernel_rfl), ho⟩
                      ·
                        rw [h55] at hk
                        have h57 : ¬ (IntKind.u64.wrap ((IntKind.u64.wrap (v10 * 16)) + (IntKind.u64.wrap (w8 ((w8 (t47 - 97)) + 10)))) < IntKind.u64.wrap (v10 * 16)) := of_decide_eq_false h55
                        refine st_pure tabOK hk [4, 5, 6, 7] [] [1, 8, 9, 10, 11, 12, 17, 99, 100, 101, 159] [(1, I 16), (8, .bool false), (9, S p0), (10, .int .u64 1152921504606846976), (11, .int .u64 255), (12, .bool v9), (17, .int .u64 (IntKind.u64.wrap ((IntKind.u64.wrap (v10 * 16)) + (IntKind.u64.wrap (w8 ((w8 (t47 - 97)) + 10)))))), (99, .slice o5 p0.length c6), (100, I (p0.length : Int)), (101, I v11), (159, .bool (decide (IntKind.u64.wrap ((IntKind.u64.wrap (v10 * 16)) + (IntKind.u64.wrap (w8 ((w8 (t47 - 97)) + 10)))) > 255)))] (True) (by kernel_rfl) trivial ?_
                        clear hk; intro a hk
                        refine st_done ?_
                        have e : ((decide (IntKind.u64.wrap ((IntKind.u64.wrap (v10 * 16)) + (IntKind.u64.wrap (w8 ((w8 (t47 - 97)) + 10)))) < IntKind.u64.wrap (v10 * 16))) || (decide (IntKind.u64.wrap ((IntKind.u64.wrap (v10 * 16)) + (IntKind.u64.wrap (w8 ((w8 (t47 - 97)) + 10)))) > 255))) = (decide (IntKind.u64.wrap ((IntKind.u64.wrap (v10 * 16)) + (IntKind.u64.wrap (w8 ((w8 (t47 - 97)) + 10)))) > 255)) := by first | (simp only [h55]; done) | (simp only [h55]; rfl) | rfl | simp [h55]
                        exact J a w ⟨by rw [e]; exact hk.to [1, 8, 9, 10, 11, 12, 17, 99, 100, 101, 159] _ (by kernel_rfl), ho⟩
                    · rintro a w ⟨hk, ho⟩
                      refine st_cond hk (C43 [1, 1, 1, 1, 1, 1, 1, 1, 1, 1, 1, 0, 1, 0, 0, 1, 1, 0, 0, 1, 1, 1, 1, 1, 1, 1, 0, 1, 0]) (C43 [1, 1, 1, 1, 1, 1, 1, 1, 1, 1, 1, 0, 1, 0, 0, 1, 1, 0, 0, 1, 1, 1, 1, 1, 1, 1, 0, 1, 1]) (.tmp 159) (((decide (IntKind.u64.wrap ((IntKind.u64.wrap (v10 * 16)) + (IntKind.u64.wrap (w8 ((w8 (t47 - 97)) + 10)))) < IntKind.u64.wrap (v10 * 16))) || (decide (IntKind.u64.wrap ((IntKind.u64.wrap (v10 * 16)) + (IntKind.u64.wrap (w8 ((w8 (t47 - 97)) + 10)))) > 255)))) (by kernel_rfl) (by kernel_rfl) (fun h58 => ?_) (fun h58 => ?_)
                      ·
                        have h59 : ((decide (IntKind.u64.wrap ((IntKind.u64.wrap (v10 * 16)) + (IntKind.u64.wrap (w8 ((w8 (t47 - 97)) + 10)))) < IntKind.u64.wrap (v10 * 16))) || (decide (IntKind.u64.wrap ((IntKind.u64.wrap (v10 * 16)) + (IntKind.u64.wrap (w8 ((w8 (t47 - 97)) + 10)))) > 255))) = true := h58
                        rw [if_pos h59] at H
                        exact nomatch H
                      ·
                        have h60 : ¬ (((decide (IntKind.u64.wrap ((IntKind.u64.wrap (v10 * 16)) + (IntKind.u64.wrap (w8 ((w8 (t47 - 97)) + 10)))) < IntKind.u64.wrap (v10 * 16))) || (decide (IntKind.u64.wrap ((IntKind.u64.wrap (v10 * 16)) + (IntKind.u64.wrap (w8 ((w8 (t47 - 97)) + 10)))) > 255))) = true) := ne_true_of_eq_false h58
                        rw [if_neg h60] at H
                        refine st_skip (by kernel_rfl) ?_
                        refine st_region 54 (opsOf (C43 [1, 1, 1, 1, 1, 1, 1, 1, 1, 1, 1, 0, 1, 0, 0, 1, 1, 0, 0, 1, 1, 1, 1, 1, 1, 1, 1])) [0, 1] (by kernel_rfl) (by kernel_rfl) ?_
                        refine st_pure tabOK hk [0, 1] [] [1, 8, 9, 10, 11, 12, 13, 99, 100, 101] [(1, I 16), (8, .bool false), (9, S p0), (10, .int .u64 1152921504606846976), (11, .int .u64 255), (12, .bool v9), (13, .int .u64 (IntKind.u64.wrap ((IntKind.u64.wrap (v10 * 16)) + (IntKind.u64.wrap (w8 ((w8 (t47 - 97)) + 10)))))), (99, .slice o5 p0.length c6), (100, I (p0.length : Int)), (101, I v11)] (True) (by kernel_rfl) trivial ?_
                        clear hk; intro a hk
                        refine st_done ?_
                        refine st_endb 4 ?_
                        refine st_region 55 (opsOf (C43 [1, 1, 1, 1, 1, 1, 1, 1, 1, 1, 1, 0, 1, 0, 0, 1, 1, 1])) [0, 1] (by kernel_rfl) (by kernel_rfl) ?_
                        refine st_pure tabOK hk [0, 1] [] [1, 8, 9, 10, 11, 12, 13, 99, 100, 101] [(1, I 16), (8, .bool false), (9, S p0), (10, .int .u64 1152921504606846976), (11, .int .u64 255), (12, .bool v9), (13, .int .u64 (IntKind.u64.wrap ((IntKind.u64.wrap (v10 * 16)) + (IntKind.u64.wrap (w8 ((w8 (t47 - 97)) + 10)))))), (99, .slice o5 p0.length c6), (100, I (p0.length : Int)), (101, I (w64 (v11 + 1)))] (True) (by kernel_rfl) trivial ?_
                        clear hk; intro a hk
                        refine st_done ?_
                        refine st_inl ?_
                        exact ih p0 v9 (IntKind.u64.wrap ((IntKind.u64.wrap (v10 * 16)) + (IntKind.u64.wrap (w8 ((w8 (t47 - 97)) + 10))))) (w64 (v11 + 1)) out H o5 c6 w0 Q rest a w  (hk.to [1, 8, 9, 10, 11, 12, 13, 99, 100, 101] _ (by kernel_rfl)) ho J
              ·
                have h61 : ¬ (m39 = true) := ne_true_of_eq_false h45
                rw [if_neg h61] at H
                exact nomatch H
    ·
      have h62 : ¬ (v11 < (p0.length : Int)) := of_decide_eq_false h12
      rw [if_neg h62] at H
      refine st_exit 3 _ (by kernel_rfl) rfl ?_
      replace ho : Ows [] w0 w [] := ho.erase 0
      obtain rfl := Option.some.inj H
      exact J (v9, v10)  a w rfl (hk.to [9, 12, 13] _ (by kernel_rfl)) ho

theorem strconv_ParseUint_n43_16_8.ok (K : Nat) (p0 : Str) (r : Int) (H : strconv_ParseUint_n43_16_8.f K p0 = some r) (w0 : World)  : Calls Tryd.prog 43 ⟨[S p0, I 16, I 8]⟩ w0 fun e w => ∃ u, e = .returned u ∧ strconv_ParseUint_n43_16_8.post w0 r u w := by
  unfold strconv_ParseUint_n43_16_8.f at H
  refine st_start (N := 172) [S p0, I 16, I 8] (C43 []) func43 (by kernel_rfl) (by kernel_rfl) (by kernel_rfl) ?_
  intro a w hk ho
  refine st_seq (C43 [0]) (C43 [1]) (by kernel_rfl) ?_
  refine st_region 0 (opsOf (C43 [0])) [0, 1] (by kernel_rfl) (by kernel_rfl) ?_
  refine st_pure tabOK hk [0, 1] [] [0, 1, 2] [(0, S p0), (1, I 16), (2, I 8)] (True) (by kernel_rfl) trivial ?_
  clear hk; intro a hk
  refine st_done ?_
  refine st_seq (C43 [1, 0]) (C43 [1, 1]) (by kernel_rfl) ?_
  refine st_seq (C43 [1, 0, 0]) (C43 [1, 0, 1]) (by kernel_rfl) ?_
  refine st_region 1 (opsOf (C43 [1, 0, 0])) [0, 1] (by kernel_rfl) (by kernel_rfl) ?_
  refine st_pure tabOK hk [0, 1] [] [0, 1, 2, 19] [(0, S p0), (1, I 16), (2, I 8), (19, .bool (p0 == ([])))] (True) (by kernel_rfl) trivial ?_
  clear hk; intro a hk
  refine st_done ?_
  refine st_cond hk (C43 [1, 0, 1, 0]) (C43 [1, 0, 1, 1]) (.tmp 19) (p0 == ([])) (by kernel_rfl) (by kernel_rfl) (fun h1 => ?_) (fun h1 => ?_)
  ·
    have h2 : (p0 == ([])) = true := h1
    rw [if_pos h2] at H
    exact nomatch H
  ·
    have h3 : ¬ ((p0 == ([])) = true) := ne_true_of_eq_false h1
    rw [if_neg h3] at H
    refine st_skip (by kernel_rfl) ?_
    refine st_seq (C43 [1, 1, 0]) (C43 [1, 1, 1]) (by kernel_rfl) ?_
    refine st_region 3 (opsOf (C43 [1, 1, 0])) [0, 1, 2] (by kernel_rfl) (by kernel_rfl) ?_
    refine st_pure tabOK hk [0, 1, 2] [] [0, 1, 2, 8] [(0, S p0), (1, I 16), (2, I 8), (8, .bool false)] (True) (by kernel_rfl) trivial ?_
    clear hk; intro a hk
    refine st_done ?_
    refine st_seq (C43 [1, 1, 1, 0]) (C43 [1, 1, 1, 1]) (by kernel_rfl) ?_
    refine st_region 4 (opsOf (C43 [1, 1, 1, 0])) [0, 1] (by kernel_rfl) (by kernel_rfl) ?_
    refine st_pure tabOK hk [0, 1] [] [0, 1, 2, 8, 9] [(0, S p0), (1, I 16), (2, I 8), (8, .bool false), (9, S p0)] (True) (by kernel_rfl) trivial ?_
    clear hk; intro a hk
    refine st_done ?_
    refine st_seq (C43 [1, 1, 1, 1, 0]) (C43 [1, 1, 1, 1, 1]) (by kernel_rfl) ?_
    refine st_block 0 (C43 [1, 1, 1, 1, 0, 0]) (by kernel_rfl) ?_
    refine st_seq (C43 [1, 1, 1, 1, 0, 0, 0]) (C43 [1, 1, 1, 1, 0, 0, 1]) (by kernel_rfl) ?_
    refine st_region 6 (opsOf (C43 [1, 1, 1, 1, 0, 0, 0])) [0, 1, 2, 3, 4, 5, 6] (by kernel_rfl) (by kernel_rfl) ?_
    refine st_pure tabOK hk [0, 1, 2, 3, 4, 5, 6] [] [0, 1, 2, 8, 9, 25] [(0, S p0), (1, I 16), (2, I 8), (8, .bool false), (9, S p0), (25, .bool true)] (True) (by kernel_rfl) trivial ?_
    clear hk; intro a hk
    refine st_done ?_
    refine st_cond_true hk (C43 [1, 1, 1, 1, 0, 0, 1, 0]) (C43 [1, 1, 1, 1, 0, 0, 1, 1]) (.tmp 25) (by kernel_rfl) (by kernel_rfl) ?_
    refine st_skip (by kernel_rfl) ?_
    refine st_endb 0 ?_
    refine st_seq (C43 [1, 1, 1, 1, 1, 0]) (C43 [1, 1, 1, 1, 1, 1]) (by kernel_rfl) ?_
    refine st_seq (C43 [1, 1, 1, 1, 1, 0, 0]) (C43 [1, 1, 1, 1, 1, 0, 1]) (by kernel_rfl) ?_
    refine st_region 21 (opsOf (C43 [1, 1, 1, 1, 1, 0, 0])) [0, 1] (by kernel_rfl) (by kernel_rfl) ?_
    refine st_pure tabOK hk [0, 1] [] [0, 1, 2, 8, 9, 77] [(0, S p0), (1, I 16), (2, I 8), (8, .bool false), (9, S p0), (77, .bool false)] (True) (by kernel_rfl) trivial ?_
    clear hk; intro a hk
    refine st_done ?_
    refine st_cond_false hk (C43 [1, 1, 1, 1, 1, 0, 1, 0]) (C43 [1, 1, 1, 1, 1, 0, 1, 1]) (.tmp 77) (by kernel_rfl) (by kernel_rfl) ?_
    refine st_seq (C43 [1, 1, 1, 1, 1, 0, 1, 1, 0]) (C43 [1, 1, 1, 1, 1, 0, 1, 1, 1]) (by kernel_rfl) ?_
    refine st_region 23 (opsOf (C43 [1, 1, 1, 1, 1, 0, 1, 1, 0])) [0, 1, 2, 3, 4, 5] (by kernel_rfl) (by kernel_rfl) ?_
    refine st_pure tabOK hk [0, 1, 2, 3, 4, 5] [] [0, 1, 2, 8, 9, 83] [(0, S p0), (1, I 16), (2, I 8), (8, .bool false), (9, S p0), (83, .bool false)] (True) (by kernel_rfl) trivial ?_
    clear hk; intro a hk
    refine st_done ?_
    refine st_cond_false hk (C43 [1, 1, 1, 1, 1, 0, 1, 1, 1, 0]) (C43 [1, 1, 1, 1, 1, 0, 1, 1, 1, 1]) (.tmp 83) (by kernel_rfl) (by kernel_rfl) ?_
    refine st_skip (by kernel_rfl) ?_
    refine st_seq (C43 [1, 1, 1, 1, 1, 1, 0]) (C43 [1, 1, 1, 1, 1, 1, 1]) (by kernel_rfl) ?_
    refine st_region 25 (opsOf (C43 [1, 1, 1, 1, 1, 1, 0])) [0] (by kernel_rfl) (by kernel_rfl) ?_
    refine st_pure tabOK hk [0] [] [0, 1, 2, 8, 9] [(0, S p0), (1, I 16), (2, I 8), (8, .bool false), (9, S p0)] (True) (by kernel_rfl) trivial ?_
    clear hk; intro a hk
    refine st_done ?_
    refine st_seq (C43 [1, 1, 1, 1, 1, 1, 1, 0]) (C43 [1, 1, 1, 1, 1, 1, 1, 1]) (by kernel_rfl) ?_
    refine st_seq (C43 [1, 1, 1, 1, 1, 1, 1, 0, 0]) (C43 [1, 1, 1, 1, 1, 1, 1, 0, 1]) (by kernel_rfl) ?_
    refine st_region 26 (opsOf (C43 [1, 1, 1, 1, 1, 1, 1, 0, 0])) [0] (by kernel_rfl) (by kernel_rfl) ?_
    refine st_pure tabOK hk [0] [] [0, 1, 2, 8, 9, 85] [(0, S p0), (1, I 16), (2, I 8), (8, .bool false), (9, S p0), (85, I 16)] (True) (by kernel_rfl) trivial ?_
    clear hk; intro a hk
    refine st_done ?_
    refine st_block 2 (C43 [1, 1, 1, 1, 1, 1, 1, 0, 1, 0]) (by kernel_rfl) ?_
    refine st_seq (C43 [1, 1, 1, 1, 1, 1, 1, 0, 1, 0, 0]) (C43 [1, 1, 1, 1, 1, 1, 1, 0, 1, 0, 1]) (by kernel_rfl) ?_
    refine st_region 28 (opsOf (C43 [1, 1, 1, 1, 1, 1, 1, 0, 1, 0, 0])) [0, 1] (by kernel_rfl) (by kernel_rfl) ?_
    refine st_pure tabOK hk [0, 1] [] [0, 1, 2, 8, 9, 85, 90] [(0, S p0), (1, I 16), (2, I 8), (8, .bool false), (9, S p0), (85, I 16), (90, .bool false)] (True) (by kernel_rfl) trivial ?_
    clear hk; intro a hk
    refine st_done ?_
    refine st_cond_false hk (C43 [1, 1, 1, 1, 1, 1, 1, 0, 1, 0, 1, 0]) (C43 [1, 1, 1, 1, 1, 1, 1, 0, 1, 0, 1, 1]) (.tmp 90) (by kernel_rfl) (by kernel_rfl) ?_
    refine st_seq (C43 [1, 1, 1, 1, 1, 1, 1, 0, 1, 0, 1, 1, 0]) (C43 [1, 1, 1, 1, 1, 1, 1, 0, 1, 0, 1, 1, 1]) (by kernel_rfl) ?_
    refine st_region 30 (opsOf (C43 [1, 1, 1, 1, 1, 1, 1, 0, 1, 0, 1, 1, 0])) [0, 1] (by kernel_rfl) (by kernel_rfl) ?_
    refine st_pure tabOK hk [0, 1] [] [0, 1, 2, 8, 9, 92] [(0, S p0), (1, I 16), (2, I 8), (8, .bool false), (9, S p0), (92, .bool true)] (True) (by kernel_rfl) trivial ?_
    clear hk; intro a hk
    refine st_done ?_
    refine st_cond_true hk (C43 [1, 1, 1, 1, 1, 1, 1, 0, 1, 0, 1, 1, 1, 0]) (C43 [1, 1, 1, 1, 1, 1, 1, 0, 1, 0, 1, 1, 1, 1]) (.tmp 92) (by kernel_rfl) (by kernel_rfl) ?_
    refine st_region 31 (opsOf (C43 [1, 1, 1, 1, 1, 1, 1, 0, 1, 0, 1, 1, 1, 0])) [0] (by kernel_rfl) (by kernel_rfl) ?_
    refine st_pure tabOK hk [0] [] [0, 1, 2, 8, 9, 10] [(0, S p0), (1, I 16), (2, I 8), (8, .bool false), (9, S p0), (10, .int .u64 1152921504606846976)] (True) (by kernel_rfl) trivial ?_
    clear hk; intro a hk
    refine st_done ?_
    refine st_endb 2 ?_
    refine st_seq (C43 [1, 1, 1, 1, 1, 1, 1, 1, 0]) (C43 [1, 1, 1, 1, 1, 1, 1, 1, 1]) (by kernel_rfl) ?_
    refine st_region 32 (opsOf (C43 [1, 1, 1, 1, 1, 1, 1, 1, 0])) [0, 1, 2, 3, 4] (by kernel_rfl) (by kernel_rfl) ?_
    refine st_pure tabOK hk [0, 1, 2, 3, 4] [] [0, 1, 8, 9, 10, 11] [(0, S p0), (1, I 16), (8, .bool false), (9, S p0), (10, .int .u64 1152921504606846976), (11, .int .u64 255)] ((0 : Int) ≤ 8 ∧ True) (by kernel_rfl) ⟨(by decide), trivial⟩ ?_
    clear hk; intro a hk
    refine st_done ?_
    refine st_seq (C43 [1, 1, 1, 1, 1, 1, 1, 1, 1, 0]) (C43 [1, 1, 1, 1, 1, 1, 1, 1, 1, 1]) (by kernel_rfl) ?_
    refine st_region 33 (opsOf (C43 [1, 1, 1, 1, 1, 1, 1, 1, 1, 0])) [0] (by kernel_rfl) (by kernel_rfl) ?_
    refine st_pure tabOK hk [0] [] [0, 1, 8, 9, 10, 11, 12] [(0, S p0), (1, I 16), (8, .bool false), (9, S p0), (10, .int .u64 1152921504606846976), (11, .int .u64 255), (12, .bool false)] (True) (by kernel_rfl) trivial ?_
    clear hk; intro a hk
    refine st_done ?_
    refine st_seq (C43 [1, 1, 1, 1, 1, 1, 1, 1, 1, 1, 0]) (C43 [1, 1, 1, 1, 1, 1, 1, 1, 1, 1, 1]) (by kernel_rfl) ?_
    refine st_region 34 (opsOf (C43 [1, 1, 1, 1, 1, 1, 1, 1, 1, 1, 0])) [0] (by kernel_rfl) (by kernel_rfl) ?_
    refine st_pure tabOK hk [0] [] [0, 1, 8, 9, 10, 11, 12, 13] [(0, S p0), (1, I 16), (8, .bool false), (9, S p0), (10, .int .u64 1152921504606846976), (11, .int .u64 255), (12, .bool false), (13, .int .u64 0)] (True) (by kernel_rfl) trivial ?_
    clear hk; intro a hk
    refine st_done ?_
    refine st_seq (C43 [1, 1, 1, 1, 1, 1, 1, 1, 1, 1, 1, 0]) (C43 [1, 1, 1, 1, 1, 1, 1, 1, 1, 1, 1, 1]) (by kernel_rfl) ?_
    refine st_seq (C43 [1, 1, 1, 1, 1, 1, 1, 1, 1, 1, 1, 0, 0]) (C43 [1, 1, 1, 1, 1, 1, 1, 1, 1, 1, 1, 0, 1]) (by kernel_rfl) ?_
    refine st_region 35 (opsOf (C43 [1, 1, 1, 1, 1, 1, 1, 1, 1, 1, 1, 0, 0])) [0, 1, 2, 3] (by kernel_rfl) (by kernel_rfl) ?_
    refine st_pure tabOK hk [0] [1, 2, 3] [1, 8, 9, 10, 11, 12, 13, 98] [(1, I 16), (8, .bool false), (9, S p0), (10, .int .u64 1152921504606846976), (11, .int .u64 255), (12, .bool false), (13, .int .u64 0), (98, S p0)] (True) (by kernel_rfl) trivial ?_
    clear hk; intro a hk
    have h4 : p0.length ≤ 4294967296 := by
      by_cases h4 : p0.length ≤ 4294967296
      · exact h4
      · rw [if_neg h4] at H; cases H
    rw [if_pos h4] at H
    refine st_bytes tabOK hk ho 9 30 5 99 p0 (by kernel_rfl) (by kernel_rfl) (by kernel_rfl) (by kernel_rfl) h4 ?_
    clear hk ho; intro a o5 c6 w h7 hk ho
    refine st_pure tabOK hk [2, 3] [] [1, 8, 9, 10, 11, 12, 13, 99, 100, 101] [(1, I 16), (8, .bool false), (9, S p0), (10, .int .u64 1152921504606846976), (11, .int .u64 255), (12, .bool false), (13, .int .u64 0), (99, .slice o5 p0.length c6), (100, I (p0.length : Int)), (101, I 0)] (True) (by kernel_rfl) trivial ?_
    clear hk; intro a hk
    refine st_done ?_
    refine st_block 3 (C43 [1, 1, 1, 1, 1, 1, 1, 1, 1, 1, 1, 0, 1, 0]) (by kernel_rfl) ?_
    obtain ⟨m63, h64, H⟩ := Option.bind_eq_some_iff.1 H
    refine st_loop (C43 [1, 1, 1, 1, 1, 1, 1, 1, 1, 1, 1, 0, 1, 0, 0]) (by kernel_rfl) ?_
    refine strconv_ParseUint_n43_16_8.l0_ok K p0 false 0 0 m63 h64 o5 c6 w0 _ _ a w  (hk.to [1, 8, 9, 10, 11, 12, 13, 99, 100, 101] _ (by kernel_rfl)) ho ?_
    · intro s65  a w e hk ho; have e := e.symm; subst e
      refine st_seq (C43 [1, 1, 1, 1, 1, 1, 1, 1, 1, 1, 1, 1, 0]) (C43 [1, 1, 1, 1, 1, 1, 1, 1, 1, 1, 1, 1, 1]) (by kernel_rfl) ?_
      refine st_seq (C43 [1, 1, 1, 1, 1, 1, 1, 1, 1, 1, 1, 1, 0, 0]) (C43 [1, 1, 1, 1, 1, 1, 1, 1, 1, 1, 1, 1, 0, 1]) (by kernel_rfl) ?_
      refine st_region 56 (opsOf (C43 [1, 1, 1, 1, 1, 1, 1, 1, 1, 1, 1, 1, 0, 0])) [0, 1, 2, 3, 4, 5] (by kernel_rfl) (by kernel_rfl) ?_
      refine st_pure tabOK hk [0, 1] [2, 3, 4, 5] [9, 13, 165] [(9, S p0), (13, .int .u64 s65.2), (165, .bool s65.1)] (True) (by kernel_rfl) trivial ?_
      clear hk; intro a hk
      obtain ⟨m66, HX, H⟩ := Option.bind_eq_some_iff.1 H
      refine cut_ops (fun a w => Kn 172 a [(13, .int .u64 s65.2), (169, .bool m66)] ∧ Ows [] w0 w []) ?_ ?_
      · intro J; clear H; have H := HX; clear HX
        rcases Bool.eq_false_or_eq_true (s65.1) with h67 | h67
        ·
          rw [h67] at hk
          have h68 : s65.1 = true := h67
          rw [if_pos h68] at H
          refine st_pure tabOK hk [2] [3, 4, 5] [13, 165, 166] [(13, .int .u64 s65.2), (165, .bool true), (166, S p0)] (True) (by kernel_rfl) trivial ?_
          clear hk; intro a hk
          obtain ⟨t69, h70, H⟩ := Option.bind_eq_some_iff.1 H
          refine st_call hk 57 [S p0] (some 167) enters57 (by kernel_rfl) (strconv_underscoreOK.ok K  p0 t69 h70 w ) ?_
          clear hk; rintro a u w ⟨rfl, ho'⟩ hk
          replace ho : Ows [] w0 w [] := ho.call ho'; clear ho'
          refine st_pure tabOK hk [4, 5] [] [13, 169] [(13, .int .u64 s65.2), (169, .bool (!t69))] (True) (by kernel_rfl) trivial ?_
          clear hk; intro a hk
          refine st_done ?_
          obtain rfl := Option.some.inj H
          exact J a w ⟨hk.to [13, 169] _ (by kernel_rfl), ho⟩
        ·
          rw [h67] at hk
          have h71 : ¬ (s65.1 = true) := ne_true_of_eq_false h67
          rw [if_neg h71] at H
          refine st_pure tabOK hk [2, 3, 4, 5] [] [13, 169] [(13, .int .u64 s65.2), (169, .bool false)] (True) (by kernel_rfl) trivial ?_
          clear hk; intro a hk
          refine st_done ?_
          obtain rfl := Option.some.inj H
          exact J a w ⟨hk.to [13, 169] _ (by kernel_rfl), ho⟩
      · clear HX; rintro a w ⟨hk, ho⟩
        refine st_cond hk (C43 [1, 1, 1, 1, 1, 1, 1, 1, 1, 1, 1, 1, 0, 1, 0]) (C43 [1, 1, 1, 1, 1, 1, 1, 1, 1, 1, 1, 1, 0, 1, 1]) (.tmp 169) (m66) (by kernel_rfl) (by kernel_rfl) (fun h72 => ?_) (fun h72 => ?_)
        ·
          have h73 : m66 = true := h72
          rw [if_pos h73] at H
          exact nomatch H
        ·
          have h74 : ¬ (m66 = true) := ne_true_of_eq_false h72
          rw [if_neg h74] at H
          refine st_skip (by kernel_rfl) ?_
          refine st_seq (C43 [1, 1, 1, 1, 1, 1, 1, 1, 1, 1, 1, 1, 1, 0]) (C43 [1, 1, 1, 1, 1, 1, 1, 1, 1, 1, 1, 1, 1, 1]) (by kernel_rfl) ?_
          refine st_region 58 (opsOf (C43 [1, 1, 1, 1, 1, 1, 1, 1, 1, 1, 1, 1, 1, 0])) [0, 1, 2] (by kernel_rfl) (by kernel_rfl) ?_
          refine st_pure tabOK hk [0, 1, 2] [] [6, 7] [(6, .int .u64 s65.2), (7, .nilIface)] (True) (by kernel_rfl) trivial ?_
          clear hk; intro a hk
          refine st_done ?_
          refine st_retG hk (by kernel_rfl) [.int .u64 s65.2, .nilIface] #[.tmp 6, .tmp 7] (by kernel_rfl) ⟨resT hk (by kernel_rfl), resT hk (by kernel_rfl), trivial⟩ ?_
          obtain rfl := Option.some.inj H
          exact ⟨_, rfl, rfl, ho⟩


/-! strconv.ParseUint: function 27 -/
noncomputable def C27 (p : List Nat) : Code := Sub (bodyOf f27) p
def strconv_ParseUint_16_8.f (K : Nat) (p0 : Str) : Option (Int) := (((strconv_ParseUint_n43_16_8.f K p0).bind fun t1 => some t1))
abbrev strconv_ParseUint_16_8.post (w0 : World) (r : Int) (u : Value) (w : World) : Prop := u = .tuple #[.int .u64 r, .nilIface] ∧ Ows [] w0 w []
theorem strconv_ParseUint_16_8.ok (K : Nat) (p0 : Str) (r : Int) (H : strconv_ParseUint_16_8.f K p0 = some r) (w0 : World)  : Calls Tryd.prog 27 ⟨[S p0, I 16, I 8]⟩ w0 fun e w => ∃ u, e = .returned u ∧ strconv_ParseUint_16_8.post w0 r u w := by
  unfold strconv_ParseUint_16_8.f at H
  refine st_start (N := 26) [S p0, I 16, I 8] (C27 []) func27 (by kernel_rfl) (by kernel_rfl) (by kernel_rfl) ?_
  intro a w hk ho
  refine st_seq (C27 [0]) (C27 [1]) (by kernel_rfl) ?_
  refine st_region 0 (opsOf (C27 [0])) [0, 1] (by kernel_rfl) (by kernel_rfl) ?_
  refine st_pure tabOK hk [0, 1] [] [0, 1, 2] [(0, S p0), (1, I 16), (2, I 8)] (True) (by kernel_rfl) trivial ?_
  clear hk; intro a hk
  refine st_done ?_
  refine st_seq (C27 [1, 0]) (C27 [1, 1]) (by kernel_rfl) ?_
  refine st_region 1 (opsOf (C27 [1, 0])) [0, 1, 2, 3, 4, 5, 6, 7, 8] (by kernel_rfl) (by kernel_rfl) ?_
  refine st_pure tabOK hk [0, 1, 2] [3, 4, 5, 6, 7, 8] [0, 1, 2, 11, 12, 13] [(0, S p0), (1, I 16), (2, I 8), (11, S p0), (12, I 16), (13, I 8)] (True) (by kernel_rfl) trivial ?_
  clear hk; intro a hk
  obtain ⟨t1, h2, H⟩ := Option.bind_eq_some_iff.1 H
  refine st_call hk 43 [S p0, I 16, I 8] (some 14) enters43 (by kernel_rfl) (strconv_ParseUint_n43_16_8.ok K  p0 t1 h2 w ) ?_
  clear hk; rintro a u w ⟨rfl, ho'⟩ hk
  replace ho : Ows [] w0 w [] := ho.call ho'; clear ho'
  refine st_pure tabOK hk [4, 5, 6, 7, 8] [] [0, 1, 2, 8, 9] [(0, S p0), (1, I 16), (2, I 8), (8, .int .u64 t1), (9, .nilIface)] (True) (by kernel_rfl) trivial ?_
  clear hk; intro a hk
  refine st_done ?_
  refine st_seq (C27 [1, 1, 0]) (C27 [1, 1, 1]) (by kernel_rfl) ?_
  refine st_seq (C27 [1, 1, 0, 0]) (C27 [1, 1, 0, 1]) (by kernel_rfl) ?_
  refine st_region 2 (opsOf (C27 [1, 1, 0, 0])) [0, 1] (by kernel_rfl) (by kernel_rfl) ?_
  refine st_pure tabOK hk [0, 1] [] [0, 1, 2, 8, 9, 18] [(0, S p0), (1, I 16), (2, I 8), (8, .int .u64 t1), (9, .nilIface), (18, .bool false)] (True) (by kernel_rfl) trivial ?_
  clear hk; intro a hk
  refine st_done ?_
  refine st_cond_false hk (C27 [1, 1, 0, 1, 0]) (C27 [1, 1, 0, 1, 1]) (.tmp 18) (by kernel_rfl) (by kernel_rfl) ?_
  refine st_skip (by kernel_rfl) ?_
  refine st_seq (C27 [1, 1, 1, 0]) (C27 [1, 1, 1, 1]) (by kernel_rfl) ?_
  refine st_region 4 (opsOf (C27 [1, 1, 1, 0])) [0, 1, 2] (by kernel_rfl) (by kernel_rfl) ?_
  refine st_pure tabOK hk [0, 1, 2] [] [6, 7] [(6, .int .u64 t1), (7, .nilIface)] (True) (by kernel_rfl) trivial ?_
  clear hk; intro a hk
  refine st_done ?_
  refine st_retG hk (by kernel_rfl) [.int .u64 t1, .nilIface] #[.tmp 6, .tmp 7] (by kernel_rfl) ⟨resT hk (by kernel_rfl), resT hk (by kernel_rfl), trivial⟩ ?_
  obtain rfl := Option.some.inj H
  exact ⟨_, rfl, rfl, ho⟩

end Go.Proofs.YtimggfeejbfdnaaDoor
