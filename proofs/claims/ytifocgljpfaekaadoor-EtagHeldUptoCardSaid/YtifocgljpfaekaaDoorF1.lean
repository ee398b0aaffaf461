/- Go functions as plain functions, and that the machine's calls do what these say. -/
import Derived.Test.YtifocgljpfaekaaDoorT
import Derived.Test.YtifocgljpfaekaaDoorHA
import Derived.Test.YtifocgljpfaekaaDoorHT
set_option maxRecDepth 100000
set_option linter.unusedVariables false
namespace Go.Proofs.YtifocgljpfaekaaDoor
open Go.Ev Go.Proofs.Tryd


/-! internal/stringslite.HasPrefix: function 62 -/
noncomputable def C62 (p : List Nat) : Code := Sub (bodyOf f62) p
def stringslite_HasPrefix.f (p0 : Str) (p1 : Str) : Option (Bool) := ((((if (p0.length : Int) ≥ (p1.length : Int) then (if (p1.length : Int) ≤ (p0.length : Int) then some ((p0.take (p1.length : Int).toNat) == p1) else none) else some false)).bind fun m1 => some m1))
abbrev stringslite_HasPrefix.post (w0 : World) (r : Bool) (u : Value) (w : World) : Prop := u = .bool r ∧ Ows [] w0 w []
theorem stringslite_HasPrefix.ok (p0 : Str) (p1 : Str) (r : Bool) (H : stringslite_HasPrefix.f p0 p1 = some r) (w0 : World)  : Calls Tryd.prog 62 ⟨[S p0, S p1]⟩ w0 fun e w => ∃ u, e = .returned u ∧ stringslite_HasPrefix.post w0 r u w := by
  unfold stringslite_HasPrefix.f at H
  refine st_start (N := 18) [S p0, S p1] (C62 []) func62 (by kernel_rfl) (by kernel_rfl) (by kernel_rfl) ?_
  intro a w hk ho
  refine st_seq (C62 [0]) (C62 [1]) (by kernel_rfl) ?_
  refine st_region 0 (opsOf (C62 [0])) [0] (by kernel_rfl) (by kernel_rfl) ?_
  refine st_pure tabOK hk [0] [] [0, 1] [(0, S p0), (1, S p1)] (True) (by kernel_rfl) trivial ?_
  clear hk; intro a hk
  refine st_done ?_
  refine st_seq (C62 [1, 0]) (C62 [1, 1]) (by kernel_rfl) ?_
  refine st_region 1 (opsOf (C62 [1, 0])) [0, 1, 2, 3, 4, 5, 6, 7, 8, 9, 10, 11, 12, 13] (by kernel_rfl) (by kernel_rfl) ?_
  refine st_pure tabOK hk [0, 1, 2, 3, 4, 5] [6, 7, 8, 9, 10, 11, 12, 13] [0, 1, 10] [(0, S p0), (1, S p1), (10, .bool (decide ((p0.length : Int) ≥ (p1.length : Int))))] (True) (by kernel_rfl) trivial ?_
  clear hk; intro a hk
  obtain ⟨m1, HX, H⟩ := Option.bind_eq_some_iff.1 H
  refine cut_ops (fun a w => Kn 18 a [(4, .bool m1)] ∧ Ows [] w0 w []) ?_ ?_
  · intro J; clear H; have H := HX; clear HX
    rcases Bool.eq_false_or_eq_true (decide ((p0.length : Int) ≥ (p1.length : Int))) with h2 | h2
    ·
      rw [h2] at hk
      have h3 : (p0.length : Int) ≥ (p1.length : Int) := of_decide_eq_true h2
      rw [if_pos h3] at H
      have h4 : (p1.length : Int) ≤ (p0.length : Int) := by
        by_cases h4 : (p1.length : Int) ≤ (p0.length : Int)
        · exact h4
        · rw [if_neg h4] at H; cases H
      rw [if_pos h4] at H
      refine st_pure tabOK hk [6, 7, 8, 9, 10, 11, 12, 13] [] [4] [(4, .bool ((p0.take (p1.length : Int).toNat) == p1))] (((0 : Int) ≤ (p1.length : Int) ∧ (p1.length : Int) ≤ (p0.length : Int)) ∧ True) (by kernel_rfl) ⟨⟨(Int.natCast_nonneg _), h4⟩, trivial⟩ ?_
      clear hk; intro a hk
      refine st_done ?_
      obtain rfl := Option.some.inj H
      exact J a w ⟨hk.to [4] _ (by kernel_rfl), ho⟩
    ·
      rw [h2] at hk
      have h5 : ¬ ((p0.length : Int) ≥ (p1.length : Int)) := of_decide_eq_false h2
      rw [if_neg h5] at H
      refine st_pure tabOK hk [6, 7, 8, 9, 10, 11, 12, 13] [] [4] [(4, .bool false)] (True) (by kernel_rfl) trivial ?_
      clear hk; intro a hk
      refine st_done ?_
      obtain rfl := Option.some.inj H
      exact J a w ⟨hk.to [4] _ (by kernel_rfl), ho⟩
  · clear HX; rintro a w ⟨hk, ho⟩
    refine st_retG hk (by kernel_rfl) [.bool m1] #[.tmp 4] (by kernel_rfl) ⟨resT hk (by kernel_rfl), trivial⟩ ?_
    obtain rfl := Option.some.inj H
    exact ⟨_, rfl, rfl, ho⟩


/-! internal/stringslite.CutPrefix: function 49 -/
noncomputable def C49 (p : List Nat) : Code := Sub (bodyOf f49) p
def stringslite_CutPrefix.f (p0 : Str) (p1 : Str) : Option (Str × Bool) := (((stringslite_HasPrefix.f p0 p1).bind fun t1 => (if (!t1) = true then some (p0, false) else (if (p1.length : Int) ≤ (p0.length : Int) then some (p0.drop (p1.length : Int).toNat, true) else none))))
abbrev stringslite_CutPrefix.post (w0 : World) (r : Str × Bool) (u : Value) (w : World) : Prop := u = .tuple #[S r.1, .bool r.2] ∧ Ows [] w0 w []
theorem stringslite_CutPrefix.ok (p0 : Str) (p1 : Str) (r : Str × Bool) (H : stringslite_CutPrefix.f p0 p1 = some r) (w0 : World)  : Calls Tryd.prog 49 ⟨[S p0, S p1]⟩ w0 fun e w => ∃ u, e = .returned u ∧ stringslite_CutPrefix.post w0 r u w := by
  unfold stringslite_CutPrefix.f at H
  refine st_start (N := 15) [S p0, S p1] (C49 []) func49 (by kernel_rfl) (by kernel_rfl) (by kernel_rfl) ?_
  intro a w hk ho
  refine st_seq (C49 [0]) (C49 [1]) (by kernel_rfl) ?_
  refine st_region 0 (opsOf (C49 [0])) [0, 1] (by kernel_rfl) (by kernel_rfl) ?_
  refine st_pure tabOK hk [0, 1] [] [0, 1] [(0, S p0), (1, S p1)] (True) (by kernel_rfl) trivial ?_
  clear hk; intro a hk
  refine st_done ?_
  refine st_seq (C49 [1, 0]) (C49 [1, 1]) (by kernel_rfl) ?_
  refine st_seq (C49 [1, 0, 0]) (C49 [1, 0, 1]) (by kernel_rfl) ?_
  refine st_region 1 (opsOf (C49 [1, 0, 0])) [0, 1, 2, 3] (by kernel_rfl) (by kernel_rfl) ?_
  refine st_pure tabOK hk [0, 1] [2, 3] [0, 1, 6, 7] [(0, S p0), (1, S p1), (6, S p0), (7, S p1)] (True) (by kernel_rfl) trivial ?_
  clear hk; intro a hk
  obtain ⟨t1, h2, H⟩ := Option.bind_eq_some_iff.1 H
  refine st_call hk 62 [S p0, S p1] (some 8) enters62 (by kernel_rfl) (stringslite_HasPrefix.ok  p0 p1 t1 h2 w ) ?_
  clear hk; rintro a u w ⟨rfl, ho'⟩ hk
  replace ho : Ows [] w0 w [] := ho.call ho'; clear ho'
  refine st_pure tabOK hk [3] [] [0, 1, 9] [(0, S p0), (1, S p1), (9, .bool (!t1))] (True) (by kernel_rfl) trivial ?_
  clear hk; intro a hk
  refine st_done ?_
  refine st_cond hk (C49 [1, 0, 1, 0]) (C49 [1, 0, 1, 1]) (.tmp 9) (!t1) (by kernel_rfl) (by kernel_rfl) (fun h3 => ?_) (fun h3 => ?_)
  ·
    have h4 : (!t1) = true := h3
    rw [if_pos h4] at H
    refine st_seq (C49 [1, 0, 1, 0, 0]) (C49 [1, 0, 1, 0, 1]) (by kernel_rfl) ?_
    refine st_region 2 (opsOf (C49 [1, 0, 1, 0, 0])) [0, 1, 2] (by kernel_rfl) (by kernel_rfl) ?_
    refine st_pure tabOK hk [0, 1, 2] [] [4, 5] [(4, S p0), (5, .bool false)] (True) (by kernel_rfl) trivial ?_
    clear hk; intro a hk
    refine st_done ?_
    refine st_retG hk (by kernel_rfl) [S p0, .bool false] #[.tmp 4, .tmp 5] (by kernel_rfl) ⟨resT hk (by kernel_rfl), resT hk (by kernel_rfl), trivial⟩ ?_
    obtain rfl := Option.some.inj H
    exact ⟨_, rfl, rfl, ho⟩
  ·
    have h5 : ¬ ((!t1) = true) := ne_true_of_eq_false h3
    rw [if_neg h5] at H
    refine st_skip (by kernel_rfl) ?_
    refine st_seq (C49 [1, 1, 0]) (C49 [1, 1, 1]) (by kernel_rfl) ?_
    refine st_region 3 (opsOf (C49 [1, 1, 0])) [0, 1, 2, 3, 4, 5] (by kernel_rfl) (by kernel_rfl) ?_
    have h6 : (p1.length : Int) ≤ (p0.length : Int) := by
      by_cases h6 : (p1.length : Int) ≤ (p0.length : Int)
      · exact h6
      · rw [if_neg h6] at H; cases H
    rw [if_pos h6] at H
    refine st_pure tabOK hk [0, 1, 2, 3, 4, 5] [] [4, 5] [(4, S (p0.drop (p1.length : Int).toNat)), (5, .bool true)] (((0 : Int) ≤ (p1.length : Int) ∧ (p1.length : Int) ≤ (p0.length : Int)) ∧ True) (by kernel_rfl) ⟨⟨(Int.natCast_nonneg _), h6⟩, trivial⟩ ?_
    clear hk; intro a hk
    refine st_done ?_
    refine st_retG hk (by kernel_rfl) [S (p0.drop (p1.length : Int).toNat), .bool true] #[.tmp 4, .tmp 5] (by kernel_rfl) ⟨resT hk (by kernel_rfl), resT hk (by kernel_rfl), trivial⟩ ?_
    obtain rfl := Option.some.inj H
    exact ⟨_, rfl, rfl, ho⟩


/-! strings.CutPrefix: function 30 -/
noncomputable def C30 (p : List Nat) : Code := Sub (bodyOf f30) p
def strings_CutPrefix.f (p0 : Str) (p1 : Str) : Option (Str × Bool) := (((stringslite_CutPrefix.f p0 p1).bind fun t1 => some (t1.1, t1.2)))
abbrev strings_CutPrefix.post (w0 : World) (r : Str × Bool) (u : Value) (w : World) : Prop := u = .tuple #[S r.1, .bool r.2] ∧ Ows [] w0 w []
theorem strings_CutPrefix.ok (p0 : Str) (p1 : Str) (r : Str × Bool) (H : strings_CutPrefix.f p0 p1 = some r) (w0 : World)  : Calls Tryd.prog 30 ⟨[S p0, S p1]⟩ w0 fun e w => ∃ u, e = .returned u ∧ strings_CutPrefix.post w0 r u w := by
  unfold strings_CutPrefix.f at H
  refine st_start (N := 11) [S p0, S p1] (C30 []) func30 (by kernel_rfl) (by kernel_rfl) (by kernel_rfl) ?_
  intro a w hk ho
  refine st_seq (C30 [0]) (C30 [1]) (by kernel_rfl) ?_
  refine st_region 0 (opsOf (C30 [0])) [0, 1] (by kernel_rfl) (by kernel_rfl) ?_
  refine st_pure tabOK hk [0, 1] [] [0, 1] [(0, S p0), (1, S p1)] (True) (by kernel_rfl) trivial ?_
  clear hk; intro a hk
  refine st_done ?_
  refine st_seq (C30 [1, 0]) (C30 [1, 1]) (by kernel_rfl) ?_
  refine st_region 1 (opsOf (C30 [1, 0])) [0, 1, 2, 3, 4, 5, 6] (by kernel_rfl) (by kernel_rfl) ?_
  refine st_pure tabOK hk [0, 1] [2, 3, 4, 5, 6] [6, 7] [(6, S p0), (7, S p1)] (True) (by kernel_rfl) trivial ?_
  clear hk; intro a hk
  obtain ⟨t1, h2, H⟩ := Option.bind_eq_some_iff.1 H
  refine st_call hk 49 [S p0, S p1] (some 8) enters49 (by kernel_rfl) (stringslite_CutPrefix.ok  p0 p1 t1 h2 w ) ?_
  clear hk; rintro a u w ⟨rfl, ho'⟩ hk
  replace ho : Ows [] w0 w [] := ho.call ho'; clear ho'
  refine st_pure tabOK hk [3, 4, 5, 6] [] [4, 5] [(4, S t1.1), (5, .bool t1.2)] (True) (by kernel_rfl) trivial ?_
  clear hk; intro a hk
  refine st_done ?_
  refine st_retG hk (by kernel_rfl) [S t1.1, .bool t1.2] #[.tmp 4, .tmp 5] (by kernel_rfl) ⟨resT hk (by kernel_rfl), resT hk (by kernel_rfl), trivial⟩ ?_
  obtain rfl := Option.some.inj H
  exact ⟨_, rfl, rfl, ho⟩


/-! internal/stringslite.IndexByte: function 69 -/
noncomputable def C69 (p : List Nat) : Code := Sub (bodyOf f69) p
def stringslite_IndexByte.f (p0 : Str) (p1 : Int) : Option (Int) := some (Lib.indexByte p0 p1.toNat.toUInt8)
abbrev stringslite_IndexByte.post (w0 : World) (r : Int) (u : Value) (w : World) : Prop := u = I r ∧ Ows [] w0 w []
theorem stringslite_IndexByte.ok (p0 : Str) (p1 : Int) (r : Int) (H : stringslite_IndexByte.f p0 p1 = some r) (w0 : World)  : Calls Tryd.prog 69 ⟨[S p0, .int .u8 p1]⟩ w0 fun e w => ∃ u, e = .returned u ∧ stringslite_IndexByte.post w0 r u w := by
  unfold stringslite_IndexByte.f at H
  refine st_start (N := 8) [S p0, .int .u8 p1] (C69 []) func69 (by kernel_rfl) (by kernel_rfl) (by kernel_rfl) ?_
  intro a w hk ho
  refine st_seq (C69 [0]) (C69 [1]) (by kernel_rfl) ?_
  refine st_region 0 (opsOf (C69 [0])) [0] (by kernel_rfl) (by kernel_rfl) ?_
  refine st_pure tabOK hk [0] [] [0, 1] [(0, S p0), (1, .int .u8 p1)] (True) (by kernel_rfl) trivial ?_
  clear hk; intro a hk
  refine st_done ?_
  refine st_seq (C69 [1, 0]) (C69 [1, 1]) (by kernel_rfl) ?_
  refine st_region 1 (opsOf (C69 [1, 0])) [0, 1, 2, 3] (by kernel_rfl) (by kernel_rfl) ?_
  refine st_pure tabOK hk [0, 1] [2, 3] [5, 6] [(5, S p0), (6, .int .u8 p1)] (True) (by kernel_rfl) trivial ?_
  clear hk; intro a hk
  refine st_ext hk 75 [S p0, .int .u8 p1] 7 ext75 (by kernel_rfl) (idx_run p0 p1 _) ?_
  clear hk; intro a hk
  refine st_pure tabOK hk [3] [] [4] [(4, I (Lib.indexByte p0 p1.toNat.toUInt8))] (True) (by kernel_rfl) trivial ?_
  clear hk; intro a hk
  refine st_done ?_
  refine st_retG hk (by kernel_rfl) [I (Lib.indexByte p0 p1.toNat.toUInt8)] #[.tmp 4] (by kernel_rfl) ⟨resT hk (by kernel_rfl), trivial⟩ ?_
  obtain rfl := Option.some.inj H
  exact ⟨_, rfl, rfl, ho⟩


/-! internal/stringslite.Index: function 63 -/
noncomputable def C63 (p : List Nat) : Code := Sub (bodyOf f63) p
def stringslite_Index.f (p0 : Str) (p1 : Str) : Option (Int) := (if (((p1.length : Int) == 0) || (p1 == p0)) = true then some 0 else (if ((p1.length : Int) == 1) = true then (if 0 < (p1.length : Int) then ((stringslite_IndexByte.f p0 (bt p1 0)).bind fun t10 => some t10) else none) else (if (p1.length : Int) ≥ (p0.length : Int) then some (-1) else none)))
abbrev stringslite_Index.post (w0 : World) (r : Int) (u : Value) (w : World) : Prop := u = I r ∧ Ows [] w0 w []
theorem stringslite_Index.ok (p0 : Str) (p1 : Str) (r : Int) (H : stringslite_Index.f p0 p1 = some r) (w0 : World)  : Calls Tryd.prog 63 ⟨[S p0, S p1]⟩ w0 fun e w => ∃ u, e = .returned u ∧ stringslite_Index.post w0 r u w := by
  unfold stringslite_Index.f at H
  refine st_start (N := 143) [S p0, S p1] (C63 []) func63 (by kernel_rfl) (by kernel_rfl) (by kernel_rfl) ?_
  intro a w hk ho
  refine st_seq (C63 [0]) (C63 [1]) (by kernel_rfl) ?_
  refine st_region 0 (opsOf (C63 [0])) [0] (by kernel_rfl) (by kernel_rfl) ?_
  refine st_pure tabOK hk [0] [] [0, 1] [(0, S p0), (1, S p1)] (True) (by kernel_rfl) trivial ?_
  clear hk; intro a hk
  refine st_done ?_
  refine st_seq (C63 [1, 0]) (C63 [1, 1]) (by kernel_rfl) ?_
  refine st_region 1 (opsOf (C63 [1, 0])) [0, 1, 2] (by kernel_rfl) (by kernel_rfl) ?_
  refine st_pure tabOK hk [0, 1, 2] [] [0, 1, 5] [(0, S p0), (1, S p1), (5, I (p1.length : Int))] (True) (by kernel_rfl) trivial ?_
  clear hk; intro a hk
  refine st_done ?_
  refine st_seq (C63 [1, 1, 0]) (C63 [1, 1, 1]) (by kernel_rfl) ?_
  refine st_block 0 (C63 [1, 1, 0, 0]) (by kernel_rfl) ?_
  refine st_seq (C63 [1, 1, 0, 0, 0]) (C63 [1, 1, 0, 0, 1]) (by kernel_rfl) ?_
  refine st_region 2 (opsOf (C63 [1, 1, 0, 0, 0])) [0, 1, 2, 3, 4, 5, 6, 7] (by kernel_rfl) (by kernel_rfl) ?_
  refine st_pure tabOK hk [0, 1, 2] [3, 4, 5, 6, 7] [0, 1, 5, 19] [(0, S p0), (1, S p1), (5, I (p1.length : Int)), (19, .bool ((p1.length : Int) == 0))] (True) (by kernel_rfl) trivial ?_
  clear hk; intro a hk
  refine cut_ops (fun a w => Kn 143 a [(0, S p0), (1, S p1), (5, I (p1.length : Int)), (16, .bool (((p1.length : Int) == 0) || (p1 == p0)))] ∧ Ows [] w0 w []) ?_ ?_
  · intro J
    rcases Bool.eq_false_or_eq_true ((p1.length : Int) == 0) with h1 | h1
    ·
      rw [h1] at hk
      have h2 : ((p1.length : Int) == 0) = true := h1
      refine st_pure tabOK hk [3, 4, 5, 6, 7] [] [0, 1, 5, 16] [(0, S p0), (1, S p1), (5, I (p1.length : Int)), (16, .bool true)] (True) (by kernel_rfl) trivial ?_
      clear hk; intro a hk
      refine st_done ?_
      have e : (((p1.length : Int) == 0) || (p1 == p0)) = true := by first | (simp only [h1]; done) | (simp only [h1]; rfl) | rfl | simp [h1]
      exact J a w ⟨by rw [e]; exact hk.to [0, 1, 5, 16] _ (by kernel_rfl), ho⟩
    ·
      rw [h1] at hk
      have h3 : ¬ (((p1.length : Int) == 0) = true) := ne_true_of_eq_false h1
      refine st_pure tabOK hk [3, 4, 5, 6, 7] [] [0, 1, 5, 16] [(0, S p0), (1, S p1), (5, I (p1.length : Int)), (16, .bool (p1 == p0))] (True) (by kernel_rfl) trivial ?_
      clear hk; intro a hk
      refine st_done ?_
      have e : (((p1.length : Int) == 0) || (p1 == p0)) = (p1 == p0) := by first | (simp only [h1]; done) | (simp only [h1]; rfl) | rfl | simp [h1]
      exact J a w ⟨by rw [e]; exact hk.to [0, 1, 5, 16] _ (by kernel_rfl), ho⟩
  · rintro a w ⟨hk, ho⟩
    refine st_cond hk (C63 [1, 1, 0, 0, 1, 0]) (C63 [1, 1, 0, 0, 1, 1]) (.tmp 16) ((((p1.length : Int) == 0) || (p1 == p0))) (by kernel_rfl) (by kernel_rfl) (fun h4 => ?_) (fun h4 => ?_)
    ·
      have h5 : (((p1.length : Int) == 0) || (p1 == p0)) = true := h4
      rw [if_pos h5] at H
      refine st_seq (C63 [1, 1, 0, 0, 1, 0, 0]) (C63 [1, 1, 0, 0, 1, 0, 1]) (by kernel_rfl) ?_
      refine st_region 3 (opsOf (C63 [1, 1, 0, 0, 1, 0, 0])) [0] (by kernel_rfl) (by kernel_rfl) ?_
      refine st_pure tabOK hk [0] [] [4] [(4, I 0)] (True) (by kernel_rfl) trivial ?_
      clear hk; intro a hk
      refine st_done ?_
      refine st_retG hk (by kernel_rfl) [I 0] #[.tmp 4] (by kernel_rfl) ⟨resT hk (by kernel_rfl), trivial⟩ ?_
      obtain rfl := Option.some.inj H
      exact ⟨_, rfl, rfl, ho⟩
    ·
      have h6 : ¬ ((((p1.length : Int) == 0) || (p1 == p0)) = true) := ne_true_of_eq_false h4
      rw [if_neg h6] at H
      refine st_seq (C63 [1, 1, 0, 0, 1, 1, 0]) (C63 [1, 1, 0, 0, 1, 1, 1]) (by kernel_rfl) ?_
      refine st_region 4 (opsOf (C63 [1, 1, 0, 0, 1, 1, 0])) [0, 1, 2] (by kernel_rfl) (by kernel_rfl) ?_
      refine st_pure tabOK hk [0, 1, 2] [] [0, 1, 5, 24] [(0, S p0), (1, S p1), (5, I (p1.length : Int)), (24, .bool ((p1.length : Int) == 1))] (True) (by kernel_rfl) trivial ?_
      clear hk; intro a hk
      refine st_done ?_
      refine st_cond hk (C63 [1, 1, 0, 0, 1, 1, 1, 0]) (C63 [1, 1, 0, 0, 1, 1, 1, 1]) (.tmp 24) ((p1.length : Int) == 1) (by kernel_rfl) (by kernel_rfl) (fun h7 => ?_) (fun h7 => ?_)
      ·
        have h8 : ((p1.length : Int) == 1) = true := h7
        rw [if_pos h8] at H
        refine st_seq (C63 [1, 1, 0, 0, 1, 1, 1, 0, 0]) (C63 [1, 1, 0, 0, 1, 1, 1, 0, 1]) (by kernel_rfl) ?_
        refine st_region 5 (opsOf (C63 [1, 1, 0, 0, 1, 1, 1, 0, 0])) [0, 1, 2, 3, 4] (by kernel_rfl) (by kernel_rfl) ?_
        have h9 : 0 < (p1.length : Int) := by
          by_cases h9 : 0 < (p1.length : Int)
          · exact h9
          · rw [if_neg h9] at H; cases H
        rw [if_pos h9] at H
        refine st_pure tabOK hk [0, 1, 2] [3, 4] [27, 29] [(27, S p0), (29, .int .u8 (bt p1 0))] (((0 : Int) ≤ 0 ∧ 0 < (p1.length : Int)) ∧ True) (by kernel_rfl) ⟨⟨(by decide), h9⟩, trivial⟩ ?_
        clear hk; intro a hk
        obtain ⟨t10, h11, H⟩ := Option.bind_eq_some_iff.1 H
        refine st_call hk 69 [S p0, .int .u8 (bt p1 0)] (some 30) enters69 (by kernel_rfl) (stringslite_IndexByte.ok  p0 (bt p1 0) t10 h11 w ) ?_
        clear hk; rintro a u w ⟨rfl, ho'⟩ hk
        replace ho : Ows [] w0 w [] := ho.call ho'; clear ho'
        refine st_pure tabOK hk [4] [] [4] [(4, I t10)] (True) (by kernel_rfl) trivial ?_
        clear hk; intro a hk
        refine st_done ?_
        refine st_retG hk (by kernel_rfl) [I t10] #[.tmp 4] (by kernel_rfl) ⟨resT hk (by kernel_rfl), trivial⟩ ?_
        obtain rfl := Option.some.inj H
        exact ⟨_, rfl, rfl, ho⟩
      ·
        have h12 : ¬ (((p1.length : Int) == 1) = true) := ne_true_of_eq_false h7
        rw [if_neg h12] at H
        refine st_seq (C63 [1, 1, 0, 0, 1, 1, 1, 1, 0]) (C63 [1, 1, 0, 0, 1, 1, 1, 1, 1]) (by kernel_rfl) ?_
        refine st_region 6 (opsOf (C63 [1, 1, 0, 0, 1, 1, 1, 1, 0])) [0, 1, 2, 3, 4] (by kernel_rfl) (by kernel_rfl) ?_
        refine st_pure tabOK hk [0, 1, 2, 3, 4] [] [0, 1, 5, 31] [(0, S p0), (1, S p1), (5, I (p1.length : Int)), (31, .bool (decide ((p1.length : Int) ≥ (p0.length : Int))))] (True) (by kernel_rfl) trivial ?_
        clear hk; intro a hk
        refine st_done ?_
        refine st_cond hk (C63 [1, 1, 0, 0, 1, 1, 1, 1, 1, 0]) (C63 [1, 1, 0, 0, 1, 1, 1, 1, 1, 1]) (.tmp 31) (decide ((p1.length : Int) ≥ (p0.length : Int))) (by kernel_rfl) (by kernel_rfl) (fun h13 => ?_) (fun h13 => ?_)
        ·
          have h14 : (p1.length : Int) ≥ (p0.length : Int) := of_decide_eq_true h13
          rw [if_pos h14] at H
          refine st_seq (C63 [1, 1, 0, 0, 1, 1, 1, 1, 1, 0, 0]) (C63 [1, 1, 0, 0, 1, 1, 1, 1, 1, 0, 1]) (by kernel_rfl) ?_
          refine st_region 7 (opsOf (C63 [1, 1, 0, 0, 1, 1, 1, 1, 1, 0, 0])) [0] (by kernel_rfl) (by kernel_rfl) ?_
          refine st_pure tabOK hk [0] [] [4] [(4, I (-1))] (True) (by kernel_rfl) trivial ?_
          clear hk; intro a hk
          refine st_done ?_
          refine st_retG hk (by kernel_rfl) [I (-1)] #[.tmp 4] (by kernel_rfl) ⟨resT hk (by kernel_rfl), trivial⟩ ?_
          obtain rfl := Option.some.inj H
          exact ⟨_, rfl, rfl, ho⟩
        ·
          have h15 : ¬ ((p1.length : Int) ≥ (p0.length : Int)) := of_decide_eq_false h13
          rw [if_neg h15] at H
          exact nomatch H


/-! internal/stringslite.Cut: function 50 -/
noncomputable def C50 (p : List Nat) : Code := Sub (bodyOf f50) p
def stringslite_Cut.f (p0 : Str) (p1 : Str) : Option (Str × Str × Bool) := (((stringslite_Index.f p0 p1).bind fun t1 => (if t1 ≥ 0 then (if (0 : Int) ≤ t1 then (if t1 ≤ (p0.length : Int) then (if (0 : Int) ≤ w64 (t1 + (p1.length : Int)) then (if w64 (t1 + (p1.length : Int)) ≤ (p0.length : Int) then some (p0.take t1.toNat, p0.drop (w64 (t1 + (p1.length : Int))).toNat, true) else none) else none) else none) else none) else some (p0, [], false))))
abbrev stringslite_Cut.post (w0 : World) (r : Str × Str × Bool) (u : Value) (w : World) : Prop := u = .tuple #[S r.1, S r.2.1, .bool r.2.2] ∧ Ows [] w0 w []
theorem stringslite_Cut.ok (p0 : Str) (p1 : Str) (r : Str × Str × Bool) (H : stringslite_Cut.f p0 p1 = some r) (w0 : World)  : Calls Tryd.prog 50 ⟨[S p0, S p1]⟩ w0 fun e w => ∃ u, e = .returned u ∧ stringslite_Cut.post w0 r u w := by
  unfold stringslite_Cut.f at H
  refine st_start (N := 23) [S p0, S p1] (C50 []) func50 (by kernel_rfl) (by kernel_rfl) (by kernel_rfl) ?_
  intro a w hk ho
  refine st_seq (C50 [0]) (C50 [1]) (by kernel_rfl) ?_
  refine st_region 0 (opsOf (C50 [0])) [0, 1, 2] (by kernel_rfl) (by kernel_rfl) ?_
  refine st_pure tabOK hk [0, 1, 2] [] [0, 1] [(0, S p0), (1, S p1)] (True) (by kernel_rfl) trivial ?_
  clear hk; intro a hk
  refine st_done ?_
  refine st_seq (C50 [1, 0]) (C50 [1, 1]) (by kernel_rfl) ?_
  refine st_seq (C50 [1, 0, 0]) (C50 [1, 0, 1]) (by kernel_rfl) ?_
  refine st_region 1 (opsOf (C50 [1, 0, 0])) [0, 1, 2, 3] (by kernel_rfl) (by kernel_rfl) ?_
  refine st_pure tabOK hk [0, 1] [2, 3] [0, 1, 8, 9] [(0, S p0), (1, S p1), (8, S p0), (9, S p1)] (True) (by kernel_rfl) trivial ?_
  clear hk; intro a hk
  obtain ⟨t1, h2, H⟩ := Option.bind_eq_some_iff.1 H
  refine st_call hk 63 [S p0, S p1] (some 10) enters63 (by kernel_rfl) (stringslite_Index.ok  p0 p1 t1 h2 w ) ?_
  clear hk; rintro a u w ⟨rfl, ho'⟩ hk
  replace ho : Ows [] w0 w [] := ho.call ho'; clear ho'
  refine st_pure tabOK hk [3] [] [0, 1, 7] [(0, S p0), (1, S p1), (7, I t1)] (True) (by kernel_rfl) trivial ?_
  clear hk; intro a hk
  refine st_done ?_
  refine st_seq (C50 [1, 0, 1, 0]) (C50 [1, 0, 1, 1]) (by kernel_rfl) ?_
  refine st_region 2 (opsOf (C50 [1, 0, 1, 0])) [0, 1] (by kernel_rfl) (by kernel_rfl) ?_
  refine st_pure tabOK hk [0, 1] [] [0, 1, 7, 12] [(0, S p0), (1, S p1), (7, I t1), (12, .bool (decide (t1 ≥ 0)))] (True) (by kernel_rfl) trivial ?_
  clear hk; intro a hk
  refine st_done ?_
  refine st_cond hk (C50 [1, 0, 1, 1, 0]) (C50 [1, 0, 1, 1, 1]) (.tmp 12) (decide (t1 ≥ 0)) (by kernel_rfl) (by kernel_rfl) (fun h3 => ?_) (fun h3 => ?_)
  ·
    have h4 : t1 ≥ 0 := of_decide_eq_true h3
    rw [if_pos h4] at H
    refine st_seq (C50 [1, 0, 1, 1, 0, 0]) (C50 [1, 0, 1, 1, 0, 1]) (by kernel_rfl) ?_
    refine st_draw ho 3 (opsOf (C50 [1, 0, 1, 1, 0, 0])) [0, 1, 2, 3, 4, 5, 6, 7, 8, 9, 10, 11] (by kernel_rfl) (by kernel_rfl) (by kernel_rfl) ?_
    clear ho; intro w ho
    have h5 : (0 : Int) ≤ t1 := by
      by_cases h5 : (0 : Int) ≤ t1
      · exact h5
      · rw [if_neg h5] at H; cases H
    rw [if_pos h5] at H
    have h6 : t1 ≤ (p0.length : Int) := by
      by_cases h6 : t1 ≤ (p0.length : Int)
      · exact h6
      · rw [if_neg h6] at H; cases H
    rw [if_pos h6] at H
    have h7 : (0 : Int) ≤ w64 (t1 + (p1.length : Int)) := by
      by_cases h7 : (0 : Int) ≤ w64 (t1 + (p1.length : Int))
      · exact h7
      · rw [if_neg h7] at H; cases H
    rw [if_pos h7] at H
    have h8 : w64 (t1 + (p1.length : Int)) ≤ (p0.length : Int) := by
      by_cases h8 : w64 (t1 + (p1.length : Int)) ≤ (p0.length : Int)
      · exact h8
      · rw [if_neg h8] at H; cases H
    rw [if_pos h8] at H
    refine any_pure tabOK hk [0, 1, 2, 3, 4, 5, 6, 7, 8, 9, 10, 11] [0, 1, 2, 3, 4, 5, 6, 7, 8, 9, 10, 11] [] [4, 5, 6] [(4, S (p0.take t1.toNat)), (5, S (p0.drop (w64 (t1 + (p1.length : Int))).toNat)), (6, .bool true)] (((0 : Int) ≤ t1 ∧ t1 ≤ (p0.length : Int)) ∧ (((0 : Int) ≤ w64 (t1 + (p1.length : Int)) ∧ w64 (t1 + (p1.length : Int)) ≤ (p0.length : Int)) ∧ True)) (by kernel_rfl) (by kernel_rfl) (by kernel_rfl) ⟨⟨h5, h6⟩, ⟨⟨h7, h8⟩, trivial⟩⟩ ?_
    clear hk; intro a hk
    refine any_end ?_
    refine st_retG hk (by kernel_rfl) [S (p0.take t1.toNat), S (p0.drop (w64 (t1 + (p1.length : Int))).toNat), .bool true] #[.tmp 4, .tmp 5, .tmp 6] (by kernel_rfl) ⟨resT hk (by kernel_rfl), resT hk (by kernel_rfl), resT hk (by kernel_rfl), trivial⟩ ?_
    obtain rfl := Option.some.inj H
    exact ⟨_, rfl, rfl, ho⟩
  ·
    have h9 : ¬ (t1 ≥ 0) := of_decide_eq_false h3
    rw [if_neg h9] at H
    refine st_skip (by kernel_rfl) ?_
    refine st_seq (C50 [1, 1, 0]) (C50 [1, 1, 1]) (by kernel_rfl) ?_
    refine st_region 4 (opsOf (C50 [1, 1, 0])) [0, 1, 2, 3] (by kernel_rfl) (by kernel_rfl) ?_
    refine st_pure tabOK hk [0, 1, 2, 3] [] [4, 5, 6] [(4, S p0), (5, S ([])), (6, .bool false)] (True) (by kernel_rfl) trivial ?_
    clear hk; intro a hk
    refine st_done ?_
    refine st_retG hk (by kernel_rfl) [S p0, S ([]), .bool false] #[.tmp 4, .tmp 5, .tmp 6] (by kernel_rfl) ⟨resT hk (by kernel_rfl), resT hk (by kernel_rfl), resT hk (by kernel_rfl), trivial⟩ ?_
    obtain rfl := Option.some.inj H
    exact ⟨_, rfl, rfl, ho⟩


/-! strings.Cut: function 31 -/
noncomputable def C31 (p : List Nat) : Code := Sub (bodyOf f31) p
def strings_Cut.f (p0 : Str) (p1 : Str) : Option (Str × Str × Bool) := (((stringslite_Cut.f p0 p1).bind fun t1 => some (t1.1, t1.2.1, t1.2.2)))
abbrev strings_Cut.post (w0 : World) (r : Str × Str × Bool) (u : Value) (w : World) : Prop := u = .tuple #[S r.1, S r.2.1, .bool r.2.2] ∧ Ows [] w0 w []
theorem strings_Cut.ok (p0 : Str) (p1 : Str) (r : Str × Str × Bool) (H : strings_Cut.f p0 p1 = some r) (w0 : World)  : Calls Tryd.prog 31 ⟨[S p0, S p1]⟩ w0 fun e w => ∃ u, e = .returned u ∧ strings_Cut.post w0 r u w := by
  unfold strings_Cut.f at H
  refine st_start (N := 13) [S p0, S p1] (C31 []) func31 (by kernel_rfl) (by kernel_rfl) (by kernel_rfl) ?_
  intro a w hk ho
  refine st_seq (C31 [0]) (C31 [1]) (by kernel_rfl) ?_
  refine st_region 0 (opsOf (C31 [0])) [0, 1, 2] (by kernel_rfl) (by kernel_rfl) ?_
  refine st_pure tabOK hk [0, 1, 2] [] [0, 1] [(0, S p0), (1, S p1)] (True) (by kernel_rfl) trivial ?_
  clear hk; intro a hk
  refine st_done ?_
  refine st_seq (C31 [1, 0]) (C31 [1, 1]) (by kernel_rfl) ?_
  refine st_region 1 (opsOf (C31 [1, 0])) [0, 1, 2, 3, 4, 5, 6, 7, 8] (by kernel_rfl) (by kernel_rfl) ?_
  refine st_pure tabOK hk [0, 1] [2, 3, 4, 5, 6, 7, 8] [7, 8] [(7, S p0), (8, S p1)] (True) (by kernel_rfl) trivial ?_
  clear hk; intro a hk
  obtain ⟨t1, h2, H⟩ := Option.bind_eq_some_iff.1 H
  refine st_call hk 50 [S p0, S p1] (some 9) enters50 (by kernel_rfl) (stringslite_Cut.ok  p0 p1 t1 h2 w ) ?_
  clear hk; rintro a u w ⟨rfl, ho'⟩ hk
  replace ho : Ows [] w0 w [] := ho.call ho'; clear ho'
  refine st_pure tabOK hk [3, 4, 5, 6, 7, 8] [] [4, 5, 6] [(4, S t1.1), (5, S t1.2.1), (6, .bool t1.2.2)] (True) (by kernel_rfl) trivial ?_
  clear hk; intro a hk
  refine st_done ?_
  refine st_retG hk (by kernel_rfl) [S t1.1, S t1.2.1, .bool t1.2.2] #[.tmp 4, .tmp 5, .tmp 6] (by kernel_rfl) ⟨resT hk (by kernel_rfl), resT hk (by kernel_rfl), resT hk (by kernel_rfl), trivial⟩ ?_
  obtain rfl := Option.some.inj H
  exact ⟨_, rfl, rfl, ho⟩


/-! scullery/etag.right: function 12 -/
noncomputable def C12 (p : List Nat) : Code := Sub (bodyOf f12) p
def etag_right.l0 : Nat → Str → Int → Option ((Unit) ⊕ (Bool))
  | 0, _, _ => none
  | k + 1, p0, v6 => (if v6 < (p0.length : Int) then (if (0 : Int) ≤ v6 then (if ((decide (bt p0 v6 ≤ 32)) || (((bt p0 v6) == 34) || ((bt p0 v6) == 127))) = true then some (.inr false) else etag_right.l0 k p0 (w64 (v6 + 1))) else none) else some (.inl ()))
def etag_right.f (K : Nat) (p0 : Str) : Option (Bool) := (if p0.length ≤ 4294967296 then ((etag_right.l0 K p0 0).bind fun m20 => match m20 with | .inl s22 => some true | .inr r23 => some r23) else none)
abbrev etag_right.post (w0 : World) (r : Bool) (u : Value) (w : World) : Prop := u = .bool r ∧ Ows [] w0 w []
theorem etag_right.l0_ok : ∀ (k : Nat) (p0 : Str) (v6 : Int) (out : (Unit) ⊕ (Bool)), etag_right.l0 k p0 v6 = some out → ∀ (o2 : Option Addr) (c3 : Nat) (w0 : World) (Q : Exit → Act → World → Prop) (rest : List It) (a : Act) (w : World), Kn 23 a [(6, .slice o2 p0.length c3), (7, I (p0.length : Int)), (8, I v6)] → Ows [] w0 w [.row 0 5 1 (.slice o2 p0.length c3) p0.length (p0.map bV)] → (∀ (s : Unit) (a : Act) (w : World), out = .inl s → Kn 23 a [] → Ows [] w0 w [] → G Tryd.prog Q rest a w) → (∀ (r : Bool) (a : Act) (w : World), out = .inr r → Kn 23 a [(2, .bool r)] → Ows [] w0 w [] → Q .ret a w) → G Tryd.prog Q (.code (C12 [1, 0, 1, 0, 0]) :: .inl (C12 [1, 0, 1, 0, 0]) :: .endb 0 :: rest) a w := by
  intro k
  induction k with
  | zero => intro p0 v6 out H; simp [etag_right.l0] at H
  | succ k ih =>
    intro p0 v6 out H o2 c3 w0 Q rest a w  hk ho J R
    simp only [etag_right.l0] at H
    refine st_seq (C12 [1, 0, 1, 0, 0, 0]) (C12 [1, 0, 1, 0, 0, 1]) (by kernel_rfl) ?_
    refine st_region 2 (opsOf (C12 [1, 0, 1, 0, 0, 0])) [0] (by kernel_rfl) (by kernel_rfl) ?_
    refine st_pure tabOK hk [0] [] [6, 7, 8, 9] [(6, .slice o2 p0.length c3), (7, I (p0.length : Int)), (8, I v6), (9, .bool (decide (v6 < (p0.length : Int))))] (True) (by kernel_rfl) trivial ?_
    clear hk; intro a hk
    refine st_done ?_
    refine st_seq (C12 [1, 0, 1, 0, 0, 1, 0]) (C12 [1, 0, 1, 0, 0, 1, 1]) (by kernel_rfl) ?_
    refine st_cond hk (C12 [1, 0, 1, 0, 0, 1, 0, 0]) (C12 [1, 0, 1, 0, 0, 1, 0, 1]) (.tmp 9) (decide (v6 < (p0.length : Int))) (by kernel_rfl) (by kernel_rfl) (fun h7 => ?_) (fun h7 => ?_)
    ·
      have h8 : v6 < (p0.length : Int) := of_decide_eq_true h7
      rw [if_pos h8] at H
      refine st_skip (by kernel_rfl) ?_
      refine st_seq (C12 [1, 0, 1, 0, 0, 1, 1, 0]) (C12 [1, 0, 1, 0, 0, 1, 1, 1]) (by kernel_rfl) ?_
      refine st_block 1 (C12 [1, 0, 1, 0, 0, 1, 1, 0, 0]) (by kernel_rfl) ?_
      refine st_seq (C12 [1, 0, 1, 0, 0, 1, 1, 0, 0, 0]) (C12 [1, 0, 1, 0, 0, 1, 1, 0, 0, 1]) (by kernel_rfl) ?_
      refine st_region 3 (opsOf (C12 [1, 0, 1, 0, 0, 1, 1, 0, 0, 0])) [0, 1, 2] (by kernel_rfl) (by kernel_rfl) ?_
      have h9 : (0 : Int) ≤ v6 := by
        by_cases h9 : (0 : Int) ≤ v6
        · exact h9
        · rw [if_neg h9] at H; cases H
      rw [if_pos h9] at H
      refine st_pure tabOK hk [0] [1, 2] [6, 7, 8, 10] [(6, .slice o2 p0.length c3), (7, I (p0.length : Int)), (8, I v6), (10, .pointer (o2.map (·.add (v6.toNat * 1))))] ((o2.isSome = true ∧ (0 : Int) ≤ v6 ∧ v6 < (p0.length : Int)) ∧ True) (by kernel_rfl) ⟨⟨(Rd.some1 (ho.rd 0 rfl) h9 h8), h9, h8⟩, trivial⟩ ?_
      clear hk; intro a hk
      refine st_load1 tabOK hk 5 (o2.map (·.add (v6.toNat * 1))) 11 (by kernel_rfl) (by kernel_rfl) (.int .u8 (bt p0 v6)) ((ho.rd 0 rfl).elemB h9 h8) ?_
      clear hk; intro a hk
      refine st_pure tabOK hk [2] [] [4, 6, 7, 8] [(4, .int .u8 (bt p0 v6)), (6, .slice o2 p0.length c3), (7, I (p0.length : Int)), (8, I v6)] (True) (by kernel_rfl) trivial ?_
      clear hk; intro a hk
      refine st_done ?_
      refine st_seq (C12 [1, 0, 1, 0, 0, 1, 1, 0, 0, 1, 0]) (C12 [1, 0, 1, 0, 0, 1, 1, 0, 0, 1, 1]) (by kernel_rfl) ?_
      refine st_region 4 (opsOf (C12 [1, 0, 1, 0, 0, 1, 1, 0, 0, 1, 0])) [0, 1, 2, 3, 4, 5, 6, 7, 8, 9] (by kernel_rfl) (by kernel_rfl) ?_
      refine st_pure tabOK hk [0, 1, 2] [3, 4, 5, 6, 7, 8, 9] [4, 6, 7, 8, 14] [(4, .int .u8 (bt p0 v6)), (6, .slice o2 p0.length c3), (7, I (p0.length : Int)), (8, I v6), (14, .bool (decide (bt p0 v6 ≤ 32)))] (True) (by kernel_rfl) trivial ?_
      clear hk; intro a hk
      refine cut_ops (fun a w => Kn 23 a [(6, .slice o2 p0.length c3), (7, I (p0.length : Int)), (8, I v6), (21, .bool ((decide (bt p0 v6 ≤ 32)) || (((bt p0 v6) == 34) || ((bt p0 v6) == 127))))] ∧ Ows [] w0 w [.row 0 5 1 (.slice o2 p0.length c3) p0.length (p0.map bV)]) ?_ ?_
      · intro J
        rcases Bool.eq_false_or_eq_true (decide (bt p0 v6 ≤ 32)) with h10 | h10
        ·
          rw [h10] at hk
          have h11 : bt p0 v6 ≤ 32 := of_decide_eq_true h10
          refine st_pure tabOK hk [3, 4, 5, 6, 7, 8, 9] [] [6, 7, 8, 21] [(6, .slice o2 p0.length c3), (7, I (p0.length : Int)), (8, I v6), (21, .bool true)] (True) (by kernel_rfl) trivial ?_
          clear hk; intro a hk
          refine st_done ?_
          have e : ((decide (bt p0 v6 ≤ 32)) || (((bt p0 v6) == 34) || ((bt p0 v6) == 127))) = true := by first | (simp only [h10]; done) | (simp only [h10]; rfl) | rfl | simp [h10]
          exact J a w ⟨by rw [e]; exact hk.to [6, 7, 8, 21] _ (by kernel_rfl), ho⟩
        ·
          rw [h10] at hk
          have h12 : ¬ (bt p0 v6 ≤ 32) := of_decide_eq_false h10
          refine st_pure tabOK hk [3, 4, 5, 6] [7, 8, 9] [4, 6, 7, 8, 18] [(4, .int .u8 (bt p0 v6)), (6, .slice o2 p0.length c3), (7, I (p0.length : Int)), (8, I v6), (18, .bool ((bt p0 v6) == 34))] (True) (by kernel_rfl) trivial ?_
          clear hk; intro a hk
          rcases Bool.eq_false_or_eq_true ((bt p0 v6) == 34) with h13 | h13
          ·
            rw [h13] at hk
            have h14 : ((bt p0 v6) == 34) = true := h13
            refine st_pure tabOK hk [7, 8, 9] [] [6, 7, 8, 21] [(6, .slice o2 p0.length c3), (7, I (p0.length : Int)), (8, I v6), (21, .bool true)] (True) (by kernel_rfl) trivial ?_
            clear hk; intro a hk
            refine st_done ?_
            have e : ((decide (bt p0 v6 ≤ 32)) || (((bt p0 v6) == 34) || ((bt p0 v6) == 127))) = true := by first | (simp only [h10, h13]; done) | (simp only [h10, h13]; rfl) | rfl | simp [h10, h13]
            exact J a w ⟨by rw [e]; exact hk.to [6, 7, 8, 21] _ (by kernel_rfl), ho⟩
          ·
            rw [h13] at hk
            have h15 : ¬ (((bt p0 v6) == 34) = true) := ne_true_of_eq_false h13
            refine st_pure tabOK hk [7, 8, 9] [] [6, 7, 8, 21] [(6, .slice o2 p0.length c3), (7, I (p0.length : Int)), (8, I v6), (21, .bool ((bt p0 v6) == 127))] (True) (by kernel_rfl) trivial ?_
            clear hk; intro a hk
            refine st_done ?_
            have e : ((decide (bt p0 v6 ≤ 32)) || (((bt p0 v6) == 34) || ((bt p0 v6) == 127))) = ((bt p0 v6) == 127) := by first | (simp only [h10, h13]; done) | (simp only [h10, h13]; rfl) | rfl | simp [h10, h13]
            exact J a w ⟨by rw [e]; exact hk.to [6, 7, 8, 21] _ (by kernel_rfl), ho⟩
      · rintro a w ⟨hk, ho⟩
        refine st_cond hk (C12 [1, 0, 1, 0, 0, 1, 1, 0, 0, 1, 1, 0]) (C12 [1, 0, 1, 0, 0, 1, 1, 0, 0, 1, 1, 1]) (.tmp 21) (((decide (bt p0 v6 ≤ 32)) || (((bt p0 v6) == 34) || ((bt p0 v6) == 127)))) (by kernel_rfl) (by kernel_rfl) (fun h16 => ?_) (fun h16 => ?_)
        ·
          have h17 : ((decide (bt p0 v6 ≤ 32)) || (((bt p0 v6) == 34) || ((bt p0 v6) == 127))) = true := h16
          rw [if_pos h17] at H
          refine st_seq (C12 [1, 0, 1, 0, 0, 1, 1, 0, 0, 1, 1, 0, 0]) (C12 [1, 0, 1, 0, 0, 1, 1, 0, 0, 1, 1, 0, 1]) (by kernel_rfl) ?_
          refine st_region 5 (opsOf (C12 [1, 0, 1, 0, 0, 1, 1, 0, 0, 1, 1, 0, 0])) [0] (by kernel_rfl) (by kernel_rfl) ?_
          refine st_pure tabOK hk [0] [] [2] [(2, .bool false)] (True) (by kernel_rfl) trivial ?_
          clear hk; intro a hk
          refine st_done ?_
          refine st_ret (by kernel_rfl) ?_
          replace ho : Ows [] w0 w [] := ho.erase 0
          obtain rfl := Option.some.inj H
          exact R false  a w rfl (hk.to [2] _ (by kernel_rfl)) ho
        ·
          have h18 : ¬ (((decide (bt p0 v6 ≤ 32)) || (((bt p0 v6) == 34) || ((bt p0 v6) == 127))) = true) := ne_true_of_eq_false h16
          rw [if_neg h18] at H
          refine st_skip (by kernel_rfl) ?_
          refine st_endb 1 ?_
          refine st_region 6 (opsOf (C12 [1, 0, 1, 0, 0, 1, 1, 1])) [0, 1] (by kernel_rfl) (by kernel_rfl) ?_
          refine st_pure tabOK hk [0, 1] [] [6, 7, 8] [(6, .slice o2 p0.length c3), (7, I (p0.length : Int)), (8, I (w64 (v6 + 1)))] (True) (by kernel_rfl) trivial ?_
          clear hk; intro a hk
          refine st_done ?_
          refine st_inl ?_
          exact ih p0 (w64 (v6 + 1)) out H o2 c3 w0 Q rest a w  (hk.to [6, 7, 8] _ (by kernel_rfl)) ho J R
    ·
      have h19 : ¬ (v6 < (p0.length : Int)) := of_decide_eq_false h7
      rw [if_neg h19] at H
      refine st_exit 0 _ (by kernel_rfl) rfl ?_
      replace ho : Ows [] w0 w [] := ho.erase 0
      obtain rfl := Option.some.inj H
      exact J ()  a w rfl (hk.to [] _ (by kernel_rfl)) ho

theorem etag_right.ok (K : Nat) (p0 : Str) (r : Bool) (H : etag_right.f K p0 = some r) (w0 : World)  : Calls Tryd.prog 12 ⟨[S p0]⟩ w0 fun e w => ∃ u, e = .returned u ∧ etag_right.post w0 r u w := by
  unfold etag_right.f at H
  refine st_start (N := 23) [S p0] (C12 []) func12 (by kernel_rfl) (by kernel_rfl) (by kernel_rfl) ?_
  intro a w hk ho
  refine st_seq (C12 [0]) (C12 [1]) (by kernel_rfl) ?_
  refine st_region 0 (opsOf (C12 [0])) [0] (by kernel_rfl) (by kernel_rfl) ?_
  refine st_pure tabOK hk [0] [] [0] [(0, S p0)] (True) (by kernel_rfl) trivial ?_
  clear hk; intro a hk
  refine st_done ?_
  refine st_seq (C12 [1, 0]) (C12 [1, 1]) (by kernel_rfl) ?_
  refine st_seq (C12 [1, 0, 0]) (C12 [1, 0, 1]) (by kernel_rfl) ?_
  refine st_region 1 (opsOf (C12 [1, 0, 0])) [0, 1, 2, 3] (by kernel_rfl) (by kernel_rfl) ?_
  refine st_pure tabOK hk [0] [1, 2, 3] [5] [(5, S p0)] (True) (by kernel_rfl) trivial ?_
  clear hk; intro a hk
  have h1 : p0.length ≤ 4294967296 := by
    by_cases h1 : p0.length ≤ 4294967296
    · exact h1
    · rw [if_neg h1] at H; cases H
  rw [if_pos h1] at H
  refine st_bytes tabOK hk ho 9 60 5 6 p0 (by kernel_rfl) (by kernel_rfl) (by kernel_rfl) (by kernel_rfl) h1 ?_
  clear hk ho; intro a o2 c3 w h4 hk ho
  refine st_pure tabOK hk [2, 3] [] [6, 7, 8] [(6, .slice o2 p0.length c3), (7, I (p0.length : Int)), (8, I 0)] (True) (by kernel_rfl) trivial ?_
  clear hk; intro a hk
  refine st_done ?_
  refine st_block 0 (C12 [1, 0, 1, 0]) (by kernel_rfl) ?_
  obtain ⟨m20, h21, H⟩ := Option.bind_eq_some_iff.1 H
  refine st_loop (C12 [1, 0, 1, 0, 0]) (by kernel_rfl) ?_
  refine etag_right.l0_ok K p0 0 m20 h21 o2 c3 w0 _ _ a w  (hk.to [6, 7, 8] _ (by kernel_rfl)) ho ?_ ?_
  · intro s22  a w e hk ho; subst e
    simp only [] at H
    refine st_seq (C12 [1, 1, 0]) (C12 [1, 1, 1]) (by kernel_rfl) ?_
    refine st_region 7 (opsOf (C12 [1, 1, 0])) [0] (by kernel_rfl) (by kernel_rfl) ?_
    refine st_pure tabOK hk [0] [] [2] [(2, .bool true)] (True) (by kernel_rfl) trivial ?_
    clear hk; intro a hk
    refine st_done ?_
    refine st_retG hk (by kernel_rfl) [.bool true] #[.tmp 2] (by kernel_rfl) ⟨resT hk (by kernel_rfl), trivial⟩ ?_
    obtain rfl := Option.some.inj H
    exact ⟨_, rfl, rfl, ho⟩
  · intro r23  a w e hk ho; subst e
    simp only [] at H
    refine retG hk [.bool r23] #[.tmp 2] (by kernel_rfl) ⟨resT hk (by kernel_rfl), trivial⟩ ?_
    obtain rfl := Option.some.inj H
    exact ⟨_, rfl, rfl, ho⟩


/-! scullery/etag.take: function 22 -/
noncomputable def C22 (p : List Nat) : Code := Sub (bodyOf f22) p
def etag_take.f (K : Nat) (p0 : Str) : Option (Bool × Str × Str × Bool) := (((strings_CutPrefix.f p0 ([87, 47])).bind fun t2 => ((strings_CutPrefix.f t2.1 ([34])).bind fun t5 => ((strings_Cut.f t5.1 ([34])).bind fun t7 => (((if (!t5.2) = true then some true else (if (!t7.2.2) = true then some true else ((etag_right.f K t7.1).bind fun t16 => some (!t16))))).bind fun m9 => (if m9 = true then some (false, [], [], false) else some (t2.2, t7.1, t7.2.1, true)))))))
abbrev etag_take.post (w0 : World) (r : Bool × Str × Str × Bool) (u : Value) (w : World) : Prop := u = .tuple #[.agg #[.bool r.1, S r.2.1], S r.2.2.1, .bool r.2.2.2] ∧ Ows [] w0 w []
theorem etag_take.ok (K : Nat) (p0 : Str) (r : Bool × Str × Str × Bool) (H : etag_take.f K p0 = some r) (w0 : World)  : Calls Tryd.prog 22 ⟨[S p0]⟩ w0 fun e w => ∃ u, e = .returned u ∧ etag_take.post w0 r u w := by
  unfold etag_take.f at H
  refine st_start (N := 45) [S p0] (C22 []) func22 (by kernel_rfl) (by kernel_rfl) (by kernel_rfl) ?_
  intro a w hk ho
  refine st_seq (C22 [0]) (C22 [1]) (by kernel_rfl) ?_
  refine st_region 0 (opsOf (C22 [0])) [0, 1, 2] (by kernel_rfl) (by kernel_rfl) ?_
  refine st_new tabOK hk ho #[.bool false, S ([])] 23 2 (by kernel_rfl) ?_
  clear hk ho; intro a b1 w hk ho
  refine st_pure tabOK hk [1, 2] [] [0, 2] [(0, S p0), (2, .pointer (some ⟨b1, 0, none⟩))] (True) (by kernel_rfl) trivial ?_
  clear hk; intro a hk
  refine st_done ?_
  refine st_seq (C22 [1, 0]) (C22 [1, 1]) (by kernel_rfl) ?_
  refine st_region 1 (opsOf (C22 [1, 0])) [0, 1, 2, 3, 4, 5, 6] (by kernel_rfl) (by kernel_rfl) ?_
  refine st_pure tabOK hk [0] [1, 2, 3, 4, 5, 6] [2, 12] [(2, .pointer (some ⟨b1, 0, none⟩)), (12, S p0)] (True) (by kernel_rfl) trivial ?_
  clear hk; intro a hk
  obtain ⟨t2, h3, H⟩ := Option.bind_eq_some_iff.1 H
  refine st_call hk 30 [S p0, S ([87, 47])] (some 13) enters30 (by kernel_rfl) (strings_CutPrefix.ok  p0 ([87, 47]) t2 h3 w ) ?_
  clear hk; rintro a u w ⟨rfl, ho'⟩ hk
  replace ho : Ows [] w0 w [.blk b1 (.cells #[.bool false, S ([])] 23 (0, 0))] := ho.call ho'; clear ho'
  refine st_pure tabOK hk [2, 3, 4, 5, 6] [] [2, 5, 6] [(2, .pointer (some ⟨b1, 0, none⟩)), (5, S t2.1), (6, .bool t2.2)] (True) (by kernel_rfl) trivial ?_
  clear hk; intro a hk
  refine st_done ?_
  refine st_seq (C22 [1, 1, 0]) (C22 [1, 1, 1]) (by kernel_rfl) ?_
  refine st_region 2 (opsOf (C22 [1, 1, 0])) [0, 1, 2, 3] (by kernel_rfl) (by kernel_rfl) ?_
  refine st_pure tabOK hk [0, 1] [2, 3] [2, 5, 17] [(2, .pointer (some ⟨b1, 0, none⟩)), (5, S t2.1), (17, .agg #[.bool t2.2, S ([])])] (True) (by kernel_rfl) trivial ?_
  clear hk; intro a hk
  refine st_new tabOK hk ho #[.bool false, S ([])] 23 7 (by kernel_rfl) ?_
  clear hk ho; intro a b4 w hk ho
  refine st_putA hk ho 0 23 b4 0 [.bool t2.2, S ([])] #[.bool false, S ([])] 23 [.blk b4 (.cells #[.bool t2.2, S ([])] 23 (0, 0)), .blk b1 (.cells #[.bool false, S ([])] 23 (0, 0))] (by kernel_rfl) (by kernel_rfl) (by kernel_rfl) rfl (by kernel_rfl) (by kernel_rfl) rfl ?_
  clear ho; intro w ho
  refine st_done ?_
  refine st_seq (C22 [1, 1, 1, 0]) (C22 [1, 1, 1, 1]) (by kernel_rfl) ?_
  refine st_region 3 (opsOf (C22 [1, 1, 1, 0])) [0, 1, 2, 3, 4, 5, 6] (by kernel_rfl) (by kernel_rfl) ?_
  refine st_pure tabOK hk [0] [1, 2, 3, 4, 5, 6] [2, 7, 19] [(2, .pointer (some ⟨b1, 0, none⟩)), (7, .pointer (some ⟨b4, 0, none⟩)), (19, S t2.1)] (True) (by kernel_rfl) trivial ?_
  clear hk; intro a hk
  obtain ⟨t5, h6, H⟩ := Option.bind_eq_some_iff.1 H
  refine st_call hk 30 [S t2.1, S ([34])] (some 20) enters30 (by kernel_rfl) (strings_CutPrefix.ok  t2.1 ([34]) t5 h6 w ) ?_
  clear hk; rintro a u w ⟨rfl, ho'⟩ hk
  replace ho : Ows [] w0 w [.blk b4 (.cells #[.bool t2.2, S ([])] 23 (0, 0)), .blk b1 (.cells #[.bool false, S ([])] 23 (0, 0))] := ho.call ho'; clear ho'
  refine st_pure tabOK hk [2, 3, 4, 5, 6] [] [2, 5, 6, 7] [(2, .pointer (some ⟨b1, 0, none⟩)), (5, S t5.1), (6, .bool t5.2), (7, .pointer (some ⟨b4, 0, none⟩))] (True) (by kernel_rfl) trivial ?_
  clear hk; intro a hk
  refine st_done ?_
  refine st_seq (C22 [1, 1, 1, 1, 0]) (C22 [1, 1, 1, 1, 1]) (by kernel_rfl) ?_
  refine st_region 4 (opsOf (C22 [1, 1, 1, 1, 0])) [0, 1, 2, 3, 4, 5, 6, 7, 8] (by kernel_rfl) (by kernel_rfl) ?_
  refine st_pure tabOK hk [0] [1, 2, 3, 4, 5, 6, 7, 8] [2, 6, 7, 24] [(2, .pointer (some ⟨b1, 0, none⟩)), (6, .bool t5.2), (7, .pointer (some ⟨b4, 0, none⟩)), (24, S t5.1)] (True) (by kernel_rfl) trivial ?_
  clear hk; intro a hk
  obtain ⟨t7, h8, H⟩ := Option.bind_eq_some_iff.1 H
  refine st_call hk 31 [S t5.1, S ([34])] (some 25) enters31 (by kernel_rfl) (strings_Cut.ok  t5.1 ([34]) t7 h8 w ) ?_
  clear hk; rintro a u w ⟨rfl, ho'⟩ hk
  replace ho : Ows [] w0 w [.blk b4 (.cells #[.bool t2.2, S ([])] 23 (0, 0)), .blk b1 (.cells #[.bool false, S ([])] 23 (0, 0))] := ho.call ho'; clear ho'
  refine st_pure tabOK hk [2, 3, 4, 5, 6, 7, 8] [] [2, 6, 7, 8, 9, 10] [(2, .pointer (some ⟨b1, 0, none⟩)), (6, .bool t5.2), (7, .pointer (some ⟨b4, 0, none⟩)), (8, S t7.1), (9, S t7.2.1), (10, .bool t7.2.2)] (True) (by kernel_rfl) trivial ?_
  clear hk; intro a hk
  refine st_done ?_
  refine st_seq (C22 [1, 1, 1, 1, 1, 0]) (C22 [1, 1, 1, 1, 1, 1]) (by kernel_rfl) ?_
  refine st_seq (C22 [1, 1, 1, 1, 1, 0, 0]) (C22 [1, 1, 1, 1, 1, 0, 1]) (by kernel_rfl) ?_
  refine st_region 5 (opsOf (C22 [1, 1, 1, 1, 1, 0, 0])) [0, 1, 2] (by kernel_rfl) (by kernel_rfl) ?_
  refine st_pure tabOK hk [0, 1] [2] [2, 6, 7, 8, 9, 10, 29, 30] [(2, .pointer (some ⟨b1, 0, none⟩)), (6, .bool t5.2), (7, .pointer (some ⟨b4, 0, none⟩)), (8, S t7.1), (9, S t7.2.1), (10, .bool t7.2.2), (29, S t7.1), (30, .pointer (some ⟨b4, 1, none⟩))] (((some ⟨b4, 0, none⟩ : Option Addr).isSome = true) ∧ True) (by kernel_rfl) ⟨rfl, trivial⟩ ?_
  clear hk; intro a hk
  refine st_put1 hk ho 0 9 b4 1 (S t7.1) #[.bool t2.2, S ([])] 23 [.blk b4 (.cells #[.bool t2.2, S t7.1] 23 (0, 0)), .blk b1 (.cells #[.bool false, S ([])] 23 (0, 0))] (by kernel_rfl) (by kernel_rfl) (by kernel_rfl) rfl (by kernel_rfl) (by kernel_rfl) rfl ?_
  clear ho; intro w ho
  refine st_done ?_
  refine st_seq (C22 [1, 1, 1, 1, 1, 0, 1, 0]) (C22 [1, 1, 1, 1, 1, 0, 1, 1]) (by kernel_rfl) ?_
  refine st_region 6 (opsOf (C22 [1, 1, 1, 1, 1, 0, 1, 0])) [0, 1, 2, 3, 4, 5, 6, 7, 8, 9, 10] (by kernel_rfl) (by kernel_rfl) ?_
  refine st_pure tabOK hk [0, 1, 2] [3, 4, 5, 6, 7, 8, 9, 10] [2, 7, 8, 9, 10, 33] [(2, .pointer (some ⟨b1, 0, none⟩)), (7, .pointer (some ⟨b4, 0, none⟩)), (8, S t7.1), (9, S t7.2.1), (10, .bool t7.2.2), (33, .bool (!t5.2))] (True) (by kernel_rfl) trivial ?_
  clear hk; intro a hk
  obtain ⟨m9, HX, H⟩ := Option.bind_eq_some_iff.1 H
  refine cut_ops (fun a w => Kn 45 a [(2, .pointer (some ⟨b1, 0, none⟩)), (7, .pointer (some ⟨b4, 0, none⟩)), (9, S t7.2.1), (41, .bool m9)] ∧ Ows [] w0 w [.blk b4 (.cells #[.bool t2.2, S t7.1] 23 (0, 0)), .blk b1 (.cells #[.bool false, S ([])] 23 (0, 0))]) ?_ ?_
  · intro J; clear H; have H := HX; clear HX
    rcases Bool.eq_false_or_eq_true (!t5.2) with h10 | h10
    ·
      rw [h10] at hk
      have h11 : (!t5.2) = true := h10
      rw [if_pos h11] at H
      refine st_pure tabOK hk [3, 4, 5, 6, 7, 8, 9, 10] [] [2, 7, 9, 41] [(2, .pointer (some ⟨b1, 0, none⟩)), (7, .pointer (some ⟨b4, 0, none⟩)), (9, S t7.2.1), (41, .bool true)] (True) (by kernel_rfl) trivial ?_
      clear hk; intro a hk
      refine st_done ?_
      obtain rfl := Option.some.inj H
      exact J a w ⟨hk.to [2, 7, 9, 41] _ (by kernel_rfl), ho⟩
    ·
      rw [h10] at hk
      have h12 : ¬ ((!t5.2) = true) := ne_true_of_eq_false h10
      rw [if_neg h12] at H
      refine st_pure tabOK hk [3, 4, 5, 6] [7, 8, 9, 10] [2, 7, 8, 9, 37] [(2, .pointer (some ⟨b1, 0, none⟩)), (7, .pointer (some ⟨b4, 0, none⟩)), (8, S t7.1), (9, S t7.2.1), (37, .bool (!t7.2.2))] (True) (by kernel_rfl) trivial ?_
      clear hk; intro a hk
      rcases Bool.eq_false_or_eq_true (!t7.2.2) with h13 | h13
      ·
        rw [h13] at hk
        have h14 : (!t7.2.2) = true := h13
        rw [if_pos h14] at H
        refine st_pure tabOK hk [7, 8, 9, 10] [] [2, 7, 9, 41] [(2, .pointer (some ⟨b1, 0, none⟩)), (7, .pointer (some ⟨b4, 0, none⟩)), (9, S t7.2.1), (41, .bool true)] (True) (by kernel_rfl) trivial ?_
        clear hk; intro a hk
        refine st_done ?_
        obtain rfl := Option.some.inj H
        exact J a w ⟨hk.to [2, 7, 9, 41] _ (by kernel_rfl), ho⟩
      ·
        rw [h13] at hk
        have h15 : ¬ ((!t7.2.2) = true) := ne_true_of_eq_false h13
        rw [if_neg h15] at H
        refine st_pure tabOK hk [7] [8, 9, 10] [2, 7, 9, 37, 38] [(2, .pointer (some ⟨b1, 0, none⟩)), (7, .pointer (some ⟨b4, 0, none⟩)), (9, S t7.2.1), (37, .bool false), (38, S t7.1)] (True) (by kernel_rfl) trivial ?_
        clear hk; intro a hk
        obtain ⟨t16, h17, H⟩ := Option.bind_eq_some_iff.1 H
        refine st_call hk 12 [S t7.1] (some 39) enters12 (by kernel_rfl) (etag_right.ok K  t7.1 t16 h17 w ) ?_
        clear hk; rintro a u w ⟨rfl, ho'⟩ hk
        replace ho : Ows [] w0 w [.blk b4 (.cells #[.bool t2.2, S t7.1] 23 (0, 0)), .blk b1 (.cells #[.bool false, S ([])] 23 (0, 0))] := ho.call ho'; clear ho'
        refine st_pure tabOK hk [9, 10] [] [2, 7, 9, 41] [(2, .pointer (some ⟨b1, 0, none⟩)), (7, .pointer (some ⟨b4, 0, none⟩)), (9, S t7.2.1), (41, .bool (!t16))] (True) (by kernel_rfl) trivial ?_
        clear hk; intro a hk
        refine st_done ?_
        obtain rfl := Option.some.inj H
        exact J a w ⟨hk.to [2, 7, 9, 41] _ (by kernel_rfl), ho⟩
  · clear HX; rintro a w ⟨hk, ho⟩
    refine st_cond hk (C22 [1, 1, 1, 1, 1, 0, 1, 1, 0]) (C22 [1, 1, 1, 1, 1, 0, 1, 1, 1]) (.tmp 41) (m9) (by kernel_rfl) (by kernel_rfl) (fun h18 => ?_) (fun h18 => ?_)
    ·
      have h19 : m9 = true := h18
      rw [if_pos h19] at H
      refine st_seq (C22 [1, 1, 1, 1, 1, 0, 1, 1, 0, 0]) (C22 [1, 1, 1, 1, 1, 0, 1, 1, 0, 1]) (by kernel_rfl) ?_
      refine st_region 7 (opsOf (C22 [1, 1, 1, 1, 1, 0, 1, 1, 0, 0])) [0, 1, 2, 3] (by kernel_rfl) (by kernel_rfl) ?_
      refine st_pure tabOK hk [0] [1, 2, 3] [2, 42] [(2, .pointer (some ⟨b1, 0, none⟩)), (42, .agg #[.bool false, S ([])])] (True) (by kernel_rfl) trivial ?_
      clear hk; intro a hk
      refine st_putA hk ho 1 23 b1 0 [.bool false, S ([])] #[.bool false, S ([])] 23 [.blk b4 (.cells #[.bool t2.2, S t7.1] 23 (0, 0)), .blk b1 (.cells #[.bool false, S ([])] 23 (0, 0))] (by kernel_rfl) (by kernel_rfl) (by kernel_rfl) rfl (by kernel_rfl) (by kernel_rfl) rfl ?_
      clear ho; intro w ho
      refine st_pure tabOK hk [2, 3] [] [2, 3, 4] [(2, .pointer (some ⟨b1, 0, none⟩)), (3, S ([])), (4, .bool false)] (True) (by kernel_rfl) trivial ?_
      clear hk; intro a hk
      refine st_done ?_
      replace ho : Ows [] w0 w [.blk b1 (.cells #[.bool false, S ([])] 23 (0, 0))] := ho.erase 0
      refine st_retG hk (by kernel_rfl) [.agg #[.bool false, S ([])], S ([]), .bool false] #[.cell 2 23, .tmp 3, .tmp 4] (by kernel_rfl) ⟨resC tabOK hk (by kernel_rfl) (ho.blkAt 0 rfl) rfl (by kernel_rfl) (z := .agg #[.bool false, S ([])]) (by kernel_rfl) (by kernel_rfl), resT hk (by kernel_rfl), resT hk (by kernel_rfl), trivial⟩ ?_
      obtain rfl := Option.some.inj H
      replace ho : Ows [] w0 w [] := ho.erase 0
      exact ⟨_, rfl, rfl, ho⟩
    ·
      have h20 : ¬ (m9 = true) := ne_true_of_eq_false h18
      rw [if_neg h20] at H
      refine st_skip (by kernel_rfl) ?_
      refine st_seq (C22 [1, 1, 1, 1, 1, 1, 0]) (C22 [1, 1, 1, 1, 1, 1, 1]) (by kernel_rfl) ?_
      refine st_region 8 (opsOf (C22 [1, 1, 1, 1, 1, 1, 0])) [0, 1, 2, 3, 4] (by kernel_rfl) (by kernel_rfl) ?_
      refine st_loadA tabOK hk 23 (some ⟨b4, 0, none⟩) 43 (by kernel_rfl) (by kernel_rfl) (.agg #[.bool false, S ([])]) (by kernel_rfl) [.bool t2.2, S t7.1] rfl (ho.cellsA 0 rfl rfl) ?_
      clear hk; intro a hk
      refine st_pure tabOK hk [1] [2, 3, 4] [2, 43, 44] [(2, .pointer (some ⟨b1, 0, none⟩)), (43, .agg #[.bool t2.2, S t7.1]), (44, S t7.2.1)] (True) (by kernel_rfl) trivial ?_
      clear hk; intro a hk
      refine st_putA hk ho 1 23 b1 0 [.bool t2.2, S t7.1] #[.bool false, S ([])] 23 [.blk b4 (.cells #[.bool t2.2, S t7.1] 23 (0, 0)), .blk b1 (.cells #[.bool t2.2, S t7.1] 23 (0, 0))] (by kernel_rfl) (by kernel_rfl) (by kernel_rfl) rfl (by kernel_rfl) (by kernel_rfl) rfl ?_
      clear ho; intro w ho
      refine st_pure tabOK hk [3, 4] [] [2, 3, 4] [(2, .pointer (some ⟨b1, 0, none⟩)), (3, S t7.2.1), (4, .bool true)] (True) (by kernel_rfl) trivial ?_
      clear hk; intro a hk
      refine st_done ?_
      replace ho : Ows [] w0 w [.blk b1 (.cells #[.bool t2.2, S t7.1] 23 (0, 0))] := ho.erase 0
      refine st_retG hk (by kernel_rfl) [.agg #[.bool t2.2, S t7.1], S t7.2.1, .bool true] #[.cell 2 23, .tmp 3, .tmp 4] (by kernel_rfl) ⟨resC tabOK hk (by kernel_rfl) (ho.blkAt 0 rfl) rfl (by kernel_rfl) (z := .agg #[.bool false, S ([])]) (by kernel_rfl) (by kernel_rfl), resT hk (by kernel_rfl), resT hk (by kernel_rfl), trivial⟩ ?_
      obtain rfl := Option.some.inj H
      replace ho : Ows [] w0 w [] := ho.erase 0
      exact ⟨_, rfl, rfl, ho⟩


/-! scullery/etag.Parse: function 9 -/
noncomputable def C9 (p : List Nat) : Code := Sub (bodyOf f9) p
def etag_Parse.f (K : Nat) (p0 : Str) : Option (Bool × Str × Int) := (((etag_take.f K p0).bind fun t2 => (if ((!t2.2.2.2) || (!(t2.2.2.1 == ([])))) = true then some (false, [], 2) else some (t2.1, t2.2.1, 0))))
abbrev etag_Parse.post (w0 : World) (r : Bool × Str × Int) (u : Value) (w : World) : Prop := u = .tuple #[.agg #[.bool r.1, S r.2.1], I r.2.2] ∧ Ows [] w0 w []
theorem etag_Parse.ok (K : Nat) (p0 : Str) (r : Bool × Str × Int) (H : etag_Parse.f K p0 = some r) (w0 : World)  : Calls Tryd.prog 9 ⟨[S p0]⟩ w0 fun e w => ∃ u, e = .returned u ∧ etag_Parse.post w0 r u w := by
  unfold etag_Parse.f at H
  refine st_start (N := 21) [S p0] (C9 []) func9 (by kernel_rfl) (by kernel_rfl) (by kernel_rfl) ?_
  intro a w hk ho
  refine st_seq (C9 [0]) (C9 [1]) (by kernel_rfl) ?_
  refine st_region 0 (opsOf (C9 [0])) [0, 1] (by kernel_rfl) (by kernel_rfl) ?_
  refine st_new tabOK hk ho #[.bool false, S ([])] 23 2 (by kernel_rfl) ?_
  clear hk ho; intro a b1 w hk ho
  refine st_pure tabOK hk [1] [] [0, 2] [(0, S p0), (2, .pointer (some ⟨b1, 0, none⟩))] (True) (by kernel_rfl) trivial ?_
  clear hk; intro a hk
  refine st_done ?_
  refine st_seq (C9 [1, 0]) (C9 [1, 1]) (by kernel_rfl) ?_
  refine st_region 1 (opsOf (C9 [1, 0])) [0, 1, 2, 3, 4, 5, 6, 7, 8, 9] (by kernel_rfl) (by kernel_rfl) ?_
  refine st_pure tabOK hk [0] [1, 2, 3, 4, 5, 6, 7, 8, 9] [2, 8] [(2, .pointer (some ⟨b1, 0, none⟩)), (8, S p0)] (True) (by kernel_rfl) trivial ?_
  clear hk; intro a hk
  obtain ⟨t2, h3, H⟩ := Option.bind_eq_some_iff.1 H
  refine st_call hk 22 [S p0] (some 9) enters22 (by kernel_rfl) (etag_take.ok K  p0 t2 h3 w ) ?_
  clear hk; rintro a u w ⟨rfl, ho'⟩ hk
  replace ho : Ows [] w0 w [.blk b1 (.cells #[.bool false, S ([])] 23 (0, 0))] := ho.call ho'; clear ho'
  refine st_pure tabOK hk [2, 3, 4, 5] [6, 7, 8, 9] [2, 10, 11, 12] [(2, .pointer (some ⟨b1, 0, none⟩)), (10, .agg #[.bool t2.1, S t2.2.1]), (11, S t2.2.2.1), (12, .bool t2.2.2.2)] (True) (by kernel_rfl) trivial ?_
  clear hk; intro a hk
  refine st_new tabOK hk ho #[.bool false, S ([])] 23 4 (by kernel_rfl) ?_
  clear hk ho; intro a b4 w hk ho
  refine st_putA hk ho 0 23 b4 0 [.bool t2.1, S t2.2.1] #[.bool false, S ([])] 23 [.blk b4 (.cells #[.bool t2.1, S t2.2.1] 23 (0, 0)), .blk b1 (.cells #[.bool false, S ([])] 23 (0, 0))] (by kernel_rfl) (by kernel_rfl) (by kernel_rfl) rfl (by kernel_rfl) (by kernel_rfl) rfl ?_
  clear ho; intro w ho
  refine st_pure tabOK hk [8, 9] [] [2, 4, 5, 6] [(2, .pointer (some ⟨b1, 0, none⟩)), (4, .pointer (some ⟨b4, 0, none⟩)), (5, S t2.2.2.1), (6, .bool t2.2.2.2)] (True) (by kernel_rfl) trivial ?_
  clear hk; intro a hk
  refine st_done ?_
  refine st_seq (C9 [1, 1, 0]) (C9 [1, 1, 1]) (by kernel_rfl) ?_
  refine st_seq (C9 [1, 1, 0, 0]) (C9 [1, 1, 0, 1]) (by kernel_rfl) ?_
  refine st_region 2 (opsOf (C9 [1, 1, 0, 0])) [0, 1, 2, 3, 4, 5] (by kernel_rfl) (by kernel_rfl) ?_
  refine st_pure tabOK hk [0, 1, 2] [3, 4, 5] [2, 4, 5, 15] [(2, .pointer (some ⟨b1, 0, none⟩)), (4, .pointer (some ⟨b4, 0, none⟩)), (5, S t2.2.2.1), (15, .bool (!t2.2.2.2))] (True) (by kernel_rfl) trivial ?_
  clear hk; intro a hk
  refine cut_ops (fun a w => Kn 21 a [(2, .pointer (some ⟨b1, 0, none⟩)), (4, .pointer (some ⟨b4, 0, none⟩)), (18, .bool ((!t2.2.2.2) || (!(t2.2.2.1 == ([])))))] ∧ Ows [] w0 w [.blk b4 (.cells #[.bool t2.1, S t2.2.1] 23 (0, 0)), .blk b1 (.cells #[.bool false, S ([])] 23 (0, 0))]) ?_ ?_
  · intro J
    rcases Bool.eq_false_or_eq_true (!t2.2.2.2) with h5 | h5
    ·
      rw [h5] at hk
      have h6 : (!t2.2.2.2) = true := h5
      refine st_pure tabOK hk [3, 4, 5] [] [2, 4, 18] [(2, .pointer (some ⟨b1, 0, none⟩)), (4, .pointer (some ⟨b4, 0, none⟩)), (18, .bool true)] (True) (by kernel_rfl) trivial ?_
      clear hk; intro a hk
      refine st_done ?_
      have e : ((!t2.2.2.2) || (!(t2.2.2.1 == ([])))) = true := by first | (simp only [h5]; done) | (simp only [h5]; rfl) | rfl | simp [h5]
      exact J a w ⟨by rw [e]; exact hk.to [2, 4, 18] _ (by kernel_rfl), ho⟩
    ·
      rw [h5] at hk
      have h7 : ¬ ((!t2.2.2.2) = true) := ne_true_of_eq_false h5
      refine st_pure tabOK hk [3, 4, 5] [] [2, 4, 18] [(2, .pointer (some ⟨b1, 0, none⟩)), (4, .pointer (some ⟨b4, 0, none⟩)), (18, .bool (!(t2.2.2.1 == ([]))))] (True) (by kernel_rfl) trivial ?_
      clear hk; intro a hk
      refine st_done ?_
      have e : ((!t2.2.2.2) || (!(t2.2.2.1 == ([])))) = (!(t2.2.2.1 == ([]))) := by first | (simp only [h5]; done) | (simp only [h5]; rfl) | rfl | simp [h5]
      exact J a w ⟨by rw [e]; exact hk.to [2, 4, 18] _ (by kernel_rfl), ho⟩
  · rintro a w ⟨hk, ho⟩
    refine st_cond hk (C9 [1, 1, 0, 1, 0]) (C9 [1, 1, 0, 1, 1]) (.tmp 18) (((!t2.2.2.2) || (!(t2.2.2.1 == ([]))))) (by kernel_rfl) (by kernel_rfl) (fun h8 => ?_) (fun h8 => ?_)
    ·
      have h9 : ((!t2.2.2.2) || (!(t2.2.2.1 == ([])))) = true := h8
      rw [if_pos h9] at H
      refine st_seq (C9 [1, 1, 0, 1, 0, 0]) (C9 [1, 1, 0, 1, 0, 1]) (by kernel_rfl) ?_
      refine st_region 3 (opsOf (C9 [1, 1, 0, 1, 0, 0])) [0, 1, 2] (by kernel_rfl) (by kernel_rfl) ?_
      refine st_pure tabOK hk [0] [1, 2] [2, 19] [(2, .pointer (some ⟨b1, 0, none⟩)), (19, .agg #[.bool false, S ([])])] (True) (by kernel_rfl) trivial ?_
      clear hk; intro a hk
      refine st_putA hk ho 1 23 b1 0 [.bool false, S ([])] #[.bool false, S ([])] 23 [.blk b4 (.cells #[.bool t2.1, S t2.2.1] 23 (0, 0)), .blk b1 (.cells #[.bool false, S ([])] 23 (0, 0))] (by kernel_rfl) (by kernel_rfl) (by kernel_rfl) rfl (by kernel_rfl) (by kernel_rfl) rfl ?_
      clear ho; intro w ho
      refine st_pure tabOK hk [2] [] [2, 3] [(2, .pointer (some ⟨b1, 0, none⟩)), (3, I 2)] (True) (by kernel_rfl) trivial ?_
      clear hk; intro a hk
      refine st_done ?_
      replace ho : Ows [] w0 w [.blk b1 (.cells #[.bool false, S ([])] 23 (0, 0))] := ho.erase 0
      refine st_retG hk (by kernel_rfl) [.agg #[.bool false, S ([])], I 2] #[.cell 2 23, .tmp 3] (by kernel_rfl) ⟨resC tabOK hk (by kernel_rfl) (ho.blkAt 0 rfl) rfl (by kernel_rfl) (z := .agg #[.bool false, S ([])]) (by kernel_rfl) (by kernel_rfl), resT hk (by kernel_rfl), trivial⟩ ?_
      obtain rfl := Option.some.inj H
      replace ho : Ows [] w0 w [] := ho.erase 0
      exact ⟨_, rfl, rfl, ho⟩
    ·
      have h10 : ¬ (((!t2.2.2.2) || (!(t2.2.2.1 == ([])))) = true) := ne_true_of_eq_false h8
      rw [if_neg h10] at H
      refine st_skip (by kernel_rfl) ?_
      refine st_seq (C9 [1, 1, 1, 0]) (C9 [1, 1, 1, 1]) (by kernel_rfl) ?_
      refine st_region 4 (opsOf (C9 [1, 1, 1, 0])) [0, 1, 2] (by kernel_rfl) (by kernel_rfl) ?_
      refine st_loadA tabOK hk 23 (some ⟨b4, 0, none⟩) 20 (by kernel_rfl) (by kernel_rfl) (.agg #[.bool false, S ([])]) (by kernel_rfl) [.bool t2.1, S t2.2.1] rfl (ho.cellsA 0 rfl rfl) ?_
      clear hk; intro a hk
      refine st_putA hk ho 1 23 b1 0 [.bool t2.1, S t2.2.1] #[.bool false, S ([])] 23 [.blk b4 (.cells #[.bool t2.1, S t2.2.1] 23 (0, 0)), .blk b1 (.cells #[.bool t2.1, S t2.2.1] 23 (0, 0))] (by kernel_rfl) (by kernel_rfl) (by kernel_rfl) rfl (by kernel_rfl) (by kernel_rfl) rfl ?_
      clear ho; intro w ho
      refine st_pure tabOK hk [2] [] [2, 3] [(2, .pointer (some ⟨b1, 0, none⟩)), (3, I 0)] (True) (by kernel_rfl) trivial ?_
      clear hk; intro a hk
      refine st_done ?_
      replace ho : Ows [] w0 w [.blk b1 (.cells #[.bool t2.1, S t2.2.1] 23 (0, 0))] := ho.erase 0
      refine st_retG hk (by kernel_rfl) [.agg #[.bool t2.1, S t2.2.1], I 0] #[.cell 2 23, .tmp 3] (by kernel_rfl) ⟨resC tabOK hk (by kernel_rfl) (ho.blkAt 0 rfl) rfl (by kernel_rfl) (z := .agg #[.bool false, S ([])]) (by kernel_rfl) (by kernel_rfl), resT hk (by kernel_rfl), trivial⟩ ?_
      obtain rfl := Option.some.inj H
      replace ho : Ows [] w0 w [] := ho.erase 0
      exact ⟨_, rfl, rfl, ho⟩


/-! scullery/etag.List: function 10 -/
noncomputable def C10 (p : List Nat) : Code := Sub (bodyOf f10) p
def etag_List.l0 (K : Nat) : Nat → (List (Bool × Str)) → Str → Option (((List (Bool × Str))) ⊕ ((List (Bool × Str)) × Bool × Int))
  | 0, _, _ => none
  | k + 1, v8, v11 => (((strings_TrimLeft.f v11 ([32, 9, 44])).bind fun t14 => (if (t14 == ([])) = true then some (.inl v8) else ((etag_take.f K t14).bind fun t19 => ((strings_TrimLeft.f t19.2.2.1 ([32, 9])).bind fun t22 => (((if (!t19.2.2.2) = true then some true else (if (!(t22 == ([]))) = true then (if 0 < (t22.length : Int) then some ((bt t22 0) != 44) else none) else some false))).bind fun m24 => (if m24 = true then some (.inr (([] : List (Bool × Str)), false, 2)) else (if v8.length + ([(t19.1, t19.2.1)] : List (Bool × Str)).length ≤ 4294967296 then etag_List.l0 K k (v8 ++ ([(t19.1, t19.2.1)] : List (Bool × Str))) t22 else none))))))))
def etag_List.f (K : Nat) (p0 : Str) : Option ((List (Bool × Str)) × Bool × Int) := (((strings_Trim.f p0 ([32, 9])).bind fun t1 => (if (t1 == ([42])) = true then some (([] : List (Bool × Str)), true, 0) else ((etag_List.l0 K K ([] : List (Bool × Str)) t1).bind fun m46 => match m46 with | .inl s48 => (if s48.length = 0 then some (([] : List (Bool × Str)), false, 2) else some (s48, false, 0)) | .inr r55 => some r55))))
abbrev etag_List.post (w0 : World) (r : (List (Bool × Str)) × Bool × Int) (u : Value) (w : World) : Prop := ∃ (o59 : Option Addr), ∃ (c60 : Nat), u = .tuple #[.slice o59 r.1.length c60, .bool r.2.1, I r.2.2] ∧ Ows [] w0 w [.row 0 23 2 (.slice o59 r.1.length c60) r.1.length (r.1.flatMap encT23)]
theorem etag_List.l0_ok (K : Nat) : ∀ (k : Nat) (v8 : List (Bool × Str)) (v11 : Str) (out : ((List (Bool × Str))) ⊕ ((List (Bool × Str)) × Bool × Int)), etag_List.l0 K k v8 v11 = some out → ∀ (o9 : Option Addr) (c10 : Nat) (w0 : World) (Q : Exit → Act → World → Prop) (rest : List It) (a : Act) (w : World), Kn 44 a [(0, S v11), (5, .slice o9 v8.length c10)] → Ows [] w0 w [.row 2 23 2 (.slice o9 v8.length c10) v8.length (v8.flatMap encT23)] → (∀ (s : (List (Bool × Str))) (o12 : Option Addr) (c13 : Nat) (a : Act) (w : World), out = .inl s → Kn 44 a [(5, .slice o12 s.length c13)] → Ows [] w0 w [.row 2 23 2 (.slice o12 s.length c13) s.length (s.flatMap encT23)] → G Tryd.prog Q rest a w) → (∀ (r : (List (Bool × Str)) × Bool × Int) (o43 : Option Addr) (c44 : Nat) (a : Act) (w : World), out = .inr r → Kn 44 a [(2, .slice o43 r.1.length c44), (3, .bool r.2.1), (4, I r.2.2)] → Ows [] w0 w [.row 0 23 2 (.slice o43 r.1.length c44) r.1.length (r.1.flatMap encT23)] → Q .ret a w) → G Tryd.prog Q (.code (C10 [1, 1, 1, 1, 0, 0, 0]) :: .inl (C10 [1, 1, 1, 1, 0, 0, 0]) :: .endb 0 :: rest) a w := by
  intro k
  induction k with
  | zero => intro v8 v11 out H; simp [etag_List.l0] at H
  | succ k ih =>
    intro v8 v11 out H o9 c10 w0 Q rest a w  hk ho J R
    simp only [etag_List.l0] at H
    refine st_block 1 (C10 [1, 1, 1, 1, 0, 0, 0, 0]) (by kernel_rfl) ?_
    refine st_seq (C10 [1, 1, 1, 1, 0, 0, 0, 0, 0]) (C10 [1, 1, 1, 1, 0, 0, 0, 0, 1]) (by kernel_rfl) ?_
    refine st_region 5 (opsOf (C10 [1, 1, 1, 1, 0, 0, 0, 0, 0])) [0, 1, 2] (by kernel_rfl) (by kernel_rfl) ?_
    refine st_pure tabOK hk [0] [1, 2] [5, 13] [(5, .slice o9 v8.length c10), (13, S v11)] (True) (by kernel_rfl) trivial ?_
    clear hk; intro a hk
    obtain ⟨t14, h15, H⟩ := Option.bind_eq_some_iff.1 H
    refine st_call hk 24 [S v11, S ([32, 9, 44])] (some 14) enters24 (by kernel_rfl) (strings_TrimLeft.ok  v11 ([32, 9, 44]) t14 h15 w ) ?_
    clear hk; rintro a u w ⟨rfl, ho'⟩ hk
    replace ho : Ows [] w0 w [.row 2 23 2 (.slice o9 v8.length c10) v8.length (v8.flatMap encT23)] := ho.call ho'; clear ho'
    refine st_pure tabOK hk [2] [] [0, 5] [(0, S t14), (5, .slice o9 v8.length c10)] (True) (by kernel_rfl) trivial ?_
    clear hk; intro a hk
    refine st_done ?_
    refine st_seq (C10 [1, 1, 1, 1, 0, 0, 0, 0, 1, 0]) (C10 [1, 1, 1, 1, 0, 0, 0, 0, 1, 1]) (by kernel_rfl) ?_
    refine st_seq (C10 [1, 1, 1, 1, 0, 0, 0, 0, 1, 0, 0]) (C10 [1, 1, 1, 1, 0, 0, 0, 0, 1, 0, 1]) (by kernel_rfl) ?_
    refine st_region 6 (opsOf (C10 [1, 1, 1, 1, 0, 0, 0, 0, 1, 0, 0])) [0, 1] (by kernel_rfl) (by kernel_rfl) ?_
    refine st_pure tabOK hk [0, 1] [] [0, 5, 16] [(0, S t14), (5, .slice o9 v8.length c10), (16, .bool (t14 == ([])))] (True) (by kernel_rfl) trivial ?_
    clear hk; intro a hk
    refine st_done ?_
    refine st_cond hk (C10 [1, 1, 1, 1, 0, 0, 0, 0, 1, 0, 1, 0]) (C10 [1, 1, 1, 1, 0, 0, 0, 0, 1, 0, 1, 1]) (.tmp 16) (t14 == ([])) (by kernel_rfl) (by kernel_rfl) (fun h16 => ?_) (fun h16 => ?_)
    ·
      have h17 : (t14 == ([])) = true := h16
      rw [if_pos h17] at H
      refine st_exit 0 _ (by kernel_rfl) rfl ?_
      obtain rfl := Option.some.inj H
      exact J v8 o9 c10 a w rfl (hk.to [5] _ (by kernel_rfl)) ho
    ·
      have h18 : ¬ ((t14 == ([])) = true) := ne_true_of_eq_false h16
      rw [if_neg h18] at H
      refine st_skip (by kernel_rfl) ?_
      refine st_seq (C10 [1, 1, 1, 1, 0, 0, 0, 0, 1, 1, 0]) (C10 [1, 1, 1, 1, 0, 0, 0, 0, 1, 1, 1]) (by kernel_rfl) ?_
      refine st_region 7 (opsOf (C10 [1, 1, 1, 1, 0, 0, 0, 0, 1, 1, 0])) [0, 1, 2, 3, 4, 5, 6, 7, 8, 9] (by kernel_rfl) (by kernel_rfl) ?_
      refine st_pure tabOK hk [0] [1, 2, 3, 4, 5, 6, 7, 8, 9] [5, 18] [(5, .slice o9 v8.length c10), (18, S t14)] (True) (by kernel_rfl) trivial ?_
      clear hk; intro a hk
      obtain ⟨t19, h20, H⟩ := Option.bind_eq_some_iff.1 H
      refine st_call hk 22 [S t14] (some 19) enters22 (by kernel_rfl) (etag_take.ok K  t14 t19 h20 w ) ?_
      clear hk; rintro a u w ⟨rfl, ho'⟩ hk
      replace ho : Ows [] w0 w [.row 2 23 2 (.slice o9 v8.length c10) v8.length (v8.flatMap encT23)] := ho.call ho'; clear ho'
      refine st_pure tabOK hk [2, 3, 4, 5] [6, 7, 8, 9] [5, 20, 21, 22] [(5, .slice o9 v8.length c10), (20, .agg #[.bool t19.1, S t19.2.1]), (21, S t19.2.2.1), (22, .bool t19.2.2.2)] (True) (by kernel_rfl) trivial ?_
      clear hk; intro a hk
      refine st_new tabOK hk ho #[.bool false, S ([])] 23 6 (by kernel_rfl) ?_
      clear hk ho; intro a b21 w hk ho
      refine st_putA hk ho 0 23 b21 0 [.bool t19.1, S t19.2.1] #[.bool false, S ([])] 23 [.blk b21 (.cells #[.bool t19.1, S t19.2.1] 23 (0, 0)), .row 2 23 2 (.slice o9 v8.length c10) v8.length (v8.flatMap encT23)] (by kernel_rfl) (by kernel_rfl) (by kernel_rfl) rfl (by kernel_rfl) (by kernel_rfl) rfl ?_
      clear ho; intro w ho
      refine st_pure tabOK hk [8, 9] [] [5, 6, 7, 8] [(5, .slice o9 v8.length c10), (6, .pointer (some ⟨b21, 0, none⟩)), (7, S t19.2.2.1), (8, .bool t19.2.2.2)] (True) (by kernel_rfl) trivial ?_
      clear hk; intro a hk
      refine st_done ?_
      refine st_seq (C10 [1, 1, 1, 1, 0, 0, 0, 0, 1, 1, 1, 0]) (C10 [1, 1, 1, 1, 0, 0, 0, 0, 1, 1, 1, 1]) (by kernel_rfl) ?_
      refine st_region 8 (opsOf (C10 [1, 1, 1, 1, 0, 0, 0, 0, 1, 1, 1, 0])) [0, 1, 2] (by kernel_rfl) (by kernel_rfl) ?_
      refine st_pure tabOK hk [0] [1, 2] [5, 6, 8, 23] [(5, .slice o9 v8.length c10), (6, .pointer (some ⟨b21, 0, none⟩)), (8, .bool t19.2.2.2), (23, S t19.2.2.1)] (True) (by kernel_rfl) trivial ?_
      clear hk; intro a hk
      obtain ⟨t22, h23, H⟩ := Option.bind_eq_some_iff.1 H
      refine st_call hk 24 [S t19.2.2.1, S ([32, 9])] (some 24) enters24 (by kernel_rfl) (strings_TrimLeft.ok  t19.2.2.1 ([32, 9]) t22 h23 w ) ?_
      clear hk; rintro a u w ⟨rfl, ho'⟩ hk
      replace ho : Ows [] w0 w [.blk b21 (.cells #[.bool t19.1, S t19.2.1] 23 (0, 0)), .row 2 23 2 (.slice o9 v8.length c10) v8.length (v8.flatMap encT23)] := ho.call ho'; clear ho'
      refine st_pure tabOK hk [2] [] [5, 6, 7, 8] [(5, .slice o9 v8.length c10), (6, .pointer (some ⟨b21, 0, none⟩)), (7, S t22), (8, .bool t19.2.2.2)] (True) (by kernel_rfl) trivial ?_
      clear hk; intro a hk
      refine st_done ?_
      refine st_seq (C10 [1, 1, 1, 1, 0, 0, 0, 0, 1, 1, 1, 1, 0]) (C10 [1, 1, 1, 1, 0, 0, 0, 0, 1, 1, 1, 1, 1]) (by kernel_rfl) ?_
      refine st_seq (C10 [1, 1, 1, 1, 0, 0, 0, 0, 1, 1, 1, 1, 0, 0]) (C10 [1, 1, 1, 1, 0, 0, 0, 0, 1, 1, 1, 1, 0, 1]) (by kernel_rfl) ?_
      refine st_region 9 (opsOf (C10 [1, 1, 1, 1, 0, 0, 0, 0, 1, 1, 1, 1, 0, 0])) [0, 1, 2, 3, 4, 5, 6, 7, 8, 9, 10] (by kernel_rfl) (by kernel_rfl) ?_
      refine st_pure tabOK hk [0, 1, 2] [3, 4, 5, 6, 7, 8, 9, 10] [5, 6, 7, 27] [(5, .slice o9 v8.length c10), (6, .pointer (some ⟨b21, 0, none⟩)), (7, S t22), (27, .bool (!t19.2.2.2))] (True) (by kernel_rfl) trivial ?_
      clear hk; intro a hk
      obtain ⟨m24, HX, H⟩ := Option.bind_eq_some_iff.1 H
      refine cut_ops (fun a w => Kn 44 a [(5, .slice o9 v8.length c10), (6, .pointer (some ⟨b21, 0, none⟩)), (7, S t22), (35, .bool m24)] ∧ Ows [] w0 w [.blk b21 (.cells #[.bool t19.1, S t19.2.1] 23 (0, 0)), .row 2 23 2 (.slice o9 v8.length c10) v8.length (v8.flatMap encT23)]) ?_ ?_
      · intro J; clear H; have H := HX; clear HX
        rcases Bool.eq_false_or_eq_true (!t19.2.2.2) with h25 | h25
        ·
          rw [h25] at hk
          have h26 : (!t19.2.2.2) = true := h25
          rw [if_pos h26] at H
          refine st_pure tabOK hk [3, 4, 5, 6, 7, 8, 9, 10] [] [5, 6, 7, 35] [(5, .slice o9 v8.length c10), (6, .pointer (some ⟨b21, 0, none⟩)), (7, S t22), (35, .bool true)] (True) (by kernel_rfl) trivial ?_
          clear hk; intro a hk
          refine st_done ?_
          obtain rfl := Option.some.inj H
          exact J a w ⟨hk.to [5, 6, 7, 35] _ (by kernel_rfl), ho⟩
        ·
          rw [h25] at hk
          have h27 : ¬ ((!t19.2.2.2) = true) := ne_true_of_eq_false h25
          rw [if_neg h27] at H
          refine st_pure tabOK hk [3, 4, 5] [6, 7, 8, 9, 10] [5, 6, 7, 27, 30] [(5, .slice o9 v8.length c10), (6, .pointer (some ⟨b21, 0, none⟩)), (7, S t22), (27, .bool false), (30, .bool (!(t22 == ([]))))] (True) (by kernel_rfl) trivial ?_
          clear hk; intro a hk
          rcases Bool.eq_false_or_eq_true (!(t22 == ([]))) with h28 | h28
          ·
            rw [h28] at hk
            have h29 : (!(t22 == ([]))) = true := h28
            rw [if_pos h29] at H
            have h30 : 0 < (t22.length : Int) := by
              by_cases h30 : 0 < (t22.length : Int)
              · exact h30
              · rw [if_neg h30] at H; cases H
            rw [if_pos h30] at H
            refine st_pure tabOK hk [6, 7, 8, 9, 10] [] [5, 6, 7, 35] [(5, .slice o9 v8.length c10), (6, .pointer (some ⟨b21, 0, none⟩)), (7, S t22), (35, .bool ((bt t22 0) != 44))] (((0 : Int) ≤ 0 ∧ 0 < (t22.length : Int)) ∧ True) (by kernel_rfl) ⟨⟨(by decide), h30⟩, trivial⟩ ?_
            clear hk; intro a hk
            refine st_done ?_
            obtain rfl := Option.some.inj H
            exact J a w ⟨hk.to [5, 6, 7, 35] _ (by kernel_rfl), ho⟩
          ·
            rw [h28] at hk
            have h31 : ¬ ((!(t22 == ([]))) = true) := ne_true_of_eq_false h28
            rw [if_neg h31] at H
            refine st_pure tabOK hk [6, 7, 8, 9, 10] [] [5, 6, 7, 35] [(5, .slice o9 v8.length c10), (6, .pointer (some ⟨b21, 0, none⟩)), (7, S t22), (35, .bool false)] (True) (by kernel_rfl) trivial ?_
            clear hk; intro a hk
            refine st_done ?_
            obtain rfl := Option.some.inj H
            exact J a w ⟨hk.to [5, 6, 7, 35] _ (by kernel_rfl), ho⟩
      · clear HX; rintro a w ⟨hk, ho⟩
        refine st_cond hk (C10 [1, 1, 1, 1, 0, 0, 0, 0, 1, 1, 1, 1, 0, 1, 0]) (C10 [1, 1, 1, 1, 0, 0, 0, 0, 1, 1, 1, 1, 0, 1, 1]) (.tmp 35) (m24) (by kernel_rfl) (by kernel_rfl) (fun h32 => ?_) (fun h32 => ?_)
        ·
          have h33 : m24 = true := h32
          rw [if_pos h33] at H
          refine st_seq (C10 [1, 1, 1, 1, 0, 0, 0, 0, 1, 1, 1, 1, 0, 1, 0, 0]) (C10 [1, 1, 1, 1, 0, 0, 0, 0, 1, 1, 1, 1, 0, 1, 0, 1]) (by kernel_rfl) ?_
          refine st_region 10 (opsOf (C10 [1, 1, 1, 1, 0, 0, 0, 0, 1, 1, 1, 1, 0, 1, 0, 0])) [0, 1, 2] (by kernel_rfl) (by kernel_rfl) ?_
          refine st_pure tabOK hk [0, 1, 2] [] [2, 3, 4] [(2, .slice none 0 0), (3, .bool false), (4, I 2)] (True) (by kernel_rfl) trivial ?_
          clear hk; intro a hk
          refine st_done ?_
          refine st_ret (by kernel_rfl) ?_
          replace ho := ho.nilRow 0 23 2
          replace ho : Ows [] w0 w [.row 0 23 2 (.slice none 0 0) 0 (([] : List (Bool × Str)).flatMap encT23), .row 2 23 2 (.slice o9 v8.length c10) v8.length (v8.flatMap encT23)] := ho.erase 1
          replace ho : Ows [] w0 w [.row 0 23 2 (.slice none 0 0) 0 (([] : List (Bool × Str)).flatMap encT23)] := ho.erase 1
          obtain rfl := Option.some.inj H
          exact R (([] : List (Bool × Str)), false, 2) none 0 a w rfl (hk.to [2, 3, 4] _ (by kernel_rfl)) ho
        ·
          have h35 : ¬ (m24 = true) := ne_true_of_eq_false h32
          rw [if_neg h35] at H
          refine st_skip (by kernel_rfl) ?_
          refine st_region 11 (opsOf (C10 [1, 1, 1, 1, 0, 0, 0, 0, 1, 1, 1, 1, 1])) [0, 1, 2, 3, 4, 5, 6] (by kernel_rfl) (by kernel_rfl) ?_
          refine st_pure tabOK hk [0] [1, 2, 3, 4, 5, 6] [6, 7, 36] [(6, .pointer (some ⟨b21, 0, none⟩)), (7, S t22), (36, .slice o9 v8.length c10)] (True) (by kernel_rfl) trivial ?_
          clear hk; intro a hk
          refine st_loadA tabOK hk 23 (some ⟨b21, 0, none⟩) 37 (by kernel_rfl) (by kernel_rfl) (.agg #[.bool false, S ([])]) (by kernel_rfl) [.bool t19.1, S t19.2.1] rfl (ho.cellsA 0 rfl rfl) ?_
          clear hk; intro a hk
          refine st_lit tabOK hk ho #[.bool t19.1, S t19.2.1] 23 2 1 38 (by kernel_rfl) ?_
          clear hk ho; intro a o36 w h37 hk ho
          replace ho : Ows [] w0 w [.row 0 23 2 (.slice o36 (([(t19.1, t19.2.1)] : List (Bool × Str)).length) 1) (([(t19.1, t19.2.1)] : List (Bool × Str)).length) (([(t19.1, t19.2.1)] : List (Bool × Str)).flatMap encT23), .blk b21 (.cells #[.bool t19.1, S t19.2.1] 23 (0, 0)), .row 2 23 2 (.slice o9 v8.length c10) v8.length (v8.flatMap encT23)] := ho
          replace hk : Kn 44 a [(7, S t22), (36, .slice o9 v8.length c10), (38, .slice o36 (([(t19.1, t19.2.1)] : List (Bool × Str)).length) 1)] := hk.to [7, 36, 38] _ (by kernel_rfl)
          have h39 : v8.length + ([(t19.1, t19.2.1)] : List (Bool × Str)).length ≤ 4294967296 := by
            by_cases h39 : v8.length + ([(t19.1, t19.2.1)] : List (Bool × Str)).length ≤ 4294967296
            · exact h39
            · rw [if_neg h39] at H; cases H
          rw [if_pos h39] at H
          refine st_append tabOK hk ho 2 38 23 2 39 (.agg #[.bool false, S ([])]) o9 v8.length c10 (v8.flatMap encT23) o36 (([(t19.1, t19.2.1)] : List (Bool × Str)).length) 1 (([(t19.1, t19.2.1)] : List (Bool × Str)).flatMap encT23) (by kernel_rfl) (by kernel_rfl) (by kernel_rfl) (by decide) rfl (flat_len encT23_len _) (ho.rd 0 rfl) (one_flat encT23_one _) h39 ((v8 ++ ([(t19.1, t19.2.1)] : List (Bool × Str))).length) ((v8 ++ ([(t19.1, t19.2.1)] : List (Bool × Str))).flatMap encT23) (by simp) (by first | rfl | exact (List.flatMap_append ..).symm) ?_
          clear hk ho; intro a o40 c41 w h42 hk ho
          replace ho : Ows [] w0 w [.row 0 23 2 (.slice o36 (([(t19.1, t19.2.1)] : List (Bool × Str)).length) 1) (([(t19.1, t19.2.1)] : List (Bool × Str)).length) (([(t19.1, t19.2.1)] : List (Bool × Str)).flatMap encT23), .blk b21 (.cells #[.bool t19.1, S t19.2.1] 23 (0, 0)), .row 2 23 2 (.slice o40 ((v8 ++ ([(t19.1, t19.2.1)] : List (Bool × Str))).length) c41) ((v8 ++ ([(t19.1, t19.2.1)] : List (Bool × Str))).length) ((v8 ++ ([(t19.1, t19.2.1)] : List (Bool × Str))).flatMap encT23)] := ho
          refine st_pure tabOK hk [4, 5, 6] [] [0, 5] [(0, S t22), (5, .slice o40 ((v8 ++ ([(t19.1, t19.2.1)] : List (Bool × Str))).length) c41)] (True) (by kernel_rfl) trivial ?_
          clear hk; intro a hk
          refine st_done ?_
          refine st_endb 1 ?_
          refine st_inl ?_
          replace ho : Ows [] w0 w [.blk b21 (.cells #[.bool t19.1, S t19.2.1] 23 (0, 0)), .row 2 23 2 (.slice o40 ((v8 ++ ([(t19.1, t19.2.1)] : List (Bool × Str))).length) c41) ((v8 ++ ([(t19.1, t19.2.1)] : List (Bool × Str))).length) ((v8 ++ ([(t19.1, t19.2.1)] : List (Bool × Str))).flatMap encT23)] := ho.erase 0
          replace ho : Ows [] w0 w [.row 2 23 2 (.slice o40 ((v8 ++ ([(t19.1, t19.2.1)] : List (Bool × Str))).length) c41) ((v8 ++ ([(t19.1, t19.2.1)] : List (Bool × Str))).length) ((v8 ++ ([(t19.1, t19.2.1)] : List (Bool × Str))).flatMap encT23)] := ho.erase 0
          exact ih (v8 ++ ([(t19.1, t19.2.1)] : List (Bool × Str))) t22 out H o40 c41 w0 Q rest a w  (hk.to [0, 5] _ (by kernel_rfl)) ho J R

theorem etag_List.ok (K : Nat) (p0 : Str) (r : (List (Bool × Str)) × Bool × Int) (H : etag_List.f K p0 = some r) (w0 : World)  : Calls Tryd.prog 10 ⟨[S p0]⟩ w0 fun e w => ∃ u, e = .returned u ∧ etag_List.post w0 r u w := by
  unfold etag_List.f at H
  refine st_start (N := 44) [S p0] (C10 []) func10 (by kernel_rfl) (by kernel_rfl) (by kernel_rfl) ?_
  intro a w hk ho
  refine st_seq (C10 [0]) (C10 [1]) (by kernel_rfl) ?_
  refine st_region 0 (opsOf (C10 [0])) [0, 1, 2] (by kernel_rfl) (by kernel_rfl) ?_
  refine st_pure tabOK hk [0, 1, 2] [] [0] [(0, S p0)] (True) (by kernel_rfl) trivial ?_
  clear hk; intro a hk
  refine st_done ?_
  refine st_seq (C10 [1, 0]) (C10 [1, 1]) (by kernel_rfl) ?_
  refine st_region 1 (opsOf (C10 [1, 0])) [0, 1, 2] (by kernel_rfl) (by kernel_rfl) ?_
  refine st_pure tabOK hk [0] [1, 2] [9] [(9, S p0)] (True) (by kernel_rfl) trivial ?_
  clear hk; intro a hk
  obtain ⟨t1, h2, H⟩ := Option.bind_eq_some_iff.1 H
  refine st_call hk 23 [S p0, S ([32, 9])] (some 10) enters23 (by kernel_rfl) (strings_Trim.ok  p0 ([32, 9]) t1 h2 w ) ?_
  clear hk; rintro a u w ⟨rfl, ho'⟩ hk
  replace ho : Ows [] w0 w [] := ho.call ho'; clear ho'
  refine st_pure tabOK hk [2] [] [0] [(0, S t1)] (True) (by kernel_rfl) trivial ?_
  clear hk; intro a hk
  refine st_done ?_
  refine st_seq (C10 [1, 1, 0]) (C10 [1, 1, 1]) (by kernel_rfl) ?_
  refine st_seq (C10 [1, 1, 0, 0]) (C10 [1, 1, 0, 1]) (by kernel_rfl) ?_
  refine st_region 2 (opsOf (C10 [1, 1, 0, 0])) [0, 1] (by kernel_rfl) (by kernel_rfl) ?_
  refine st_pure tabOK hk [0, 1] [] [0, 12] [(0, S t1), (12, .bool (t1 == ([42])))] (True) (by kernel_rfl) trivial ?_
  clear hk; intro a hk
  refine st_done ?_
  refine st_cond hk (C10 [1, 1, 0, 1, 0]) (C10 [1, 1, 0, 1, 1]) (.tmp 12) (t1 == ([42])) (by kernel_rfl) (by kernel_rfl) (fun h3 => ?_) (fun h3 => ?_)
  ·
    have h4 : (t1 == ([42])) = true := h3
    rw [if_pos h4] at H
    refine st_seq (C10 [1, 1, 0, 1, 0, 0]) (C10 [1, 1, 0, 1, 0, 1]) (by kernel_rfl) ?_
    refine st_region 3 (opsOf (C10 [1, 1, 0, 1, 0, 0])) [0, 1, 2] (by kernel_rfl) (by kernel_rfl) ?_
    refine st_pure tabOK hk [0, 1, 2] [] [2, 3, 4] [(2, .slice none 0 0), (3, .bool true), (4, I 0)] (True) (by kernel_rfl) trivial ?_
    clear hk; intro a hk
    refine st_done ?_
    replace ho := ho.nilRow 0 23 2
    refine st_retG hk (by kernel_rfl) [.slice none 0 0, .bool true, I 0] #[.tmp 2, .tmp 3, .tmp 4] (by kernel_rfl) ⟨resT hk (by kernel_rfl), resT hk (by kernel_rfl), resT hk (by kernel_rfl), trivial⟩ ?_
    obtain rfl := Option.some.inj H
    exact ⟨_, rfl, none, 0, rfl, ho⟩
  ·
    have h6 : ¬ ((t1 == ([42])) = true) := ne_true_of_eq_false h3
    rw [if_neg h6] at H
    refine st_skip (by kernel_rfl) ?_
    refine st_seq (C10 [1, 1, 1, 0]) (C10 [1, 1, 1, 1]) (by kernel_rfl) ?_
    refine st_region 4 (opsOf (C10 [1, 1, 1, 0])) [0] (by kernel_rfl) (by kernel_rfl) ?_
    refine st_pure tabOK hk [0] [] [0, 5] [(0, S t1), (5, .slice none 0 0)] (True) (by kernel_rfl) trivial ?_
    clear hk; intro a hk
    refine st_done ?_
    refine st_seq (C10 [1, 1, 1, 1, 0]) (C10 [1, 1, 1, 1, 1]) (by kernel_rfl) ?_
    refine st_block 0 (C10 [1, 1, 1, 1, 0, 0]) (by kernel_rfl) ?_
    replace ho := ho.nilRow 2 23 2
    obtain ⟨m46, h47, H⟩ := Option.bind_eq_some_iff.1 H
    refine st_loop (C10 [1, 1, 1, 1, 0, 0, 0]) (by kernel_rfl) ?_
    refine etag_List.l0_ok K K ([] : List (Bool × Str)) t1 m46 h47 none 0 w0 _ _ a w  (hk.to [0, 5] _ (by kernel_rfl)) ho ?_ ?_
    · intro s48 o49 c50 a w e hk ho; subst e
      simp only [] at H
      refine st_seq (C10 [1, 1, 1, 1, 1, 0]) (C10 [1, 1, 1, 1, 1, 1]) (by kernel_rfl) ?_
      refine st_seq (C10 [1, 1, 1, 1, 1, 0, 0]) (C10 [1, 1, 1, 1, 1, 0, 1]) (by kernel_rfl) ?_
      refine st_region 12 (opsOf (C10 [1, 1, 1, 1, 1, 0, 0])) [0, 1] (by kernel_rfl) (by kernel_rfl) ?_
      refine st_pure tabOK hk [0, 1] [] [5, 42] [(5, .slice o49 s48.length c50), (42, .bool o49.isNone)] (True) (by kernel_rfl) trivial ?_
      clear hk; intro a hk
      rw [Ows.exact ho 0 rfl] at hk
      refine st_done ?_
      refine st_cond hk (C10 [1, 1, 1, 1, 1, 0, 1, 0]) (C10 [1, 1, 1, 1, 1, 0, 1, 1]) (.tmp 42) (decide (s48.length = 0)) (by kernel_rfl) (by kernel_rfl) (fun h51 => ?_) (fun h51 => ?_)
      ·
        have h52 : s48.length = 0 := of_decide_eq_true h51
        rw [if_pos h52] at H
        refine st_seq (C10 [1, 1, 1, 1, 1, 0, 1, 0, 0]) (C10 [1, 1, 1, 1, 1, 0, 1, 0, 1]) (by kernel_rfl) ?_
        refine st_region 13 (opsOf (C10 [1, 1, 1, 1, 1, 0, 1, 0, 0])) [0, 1, 2] (by kernel_rfl) (by kernel_rfl) ?_
        refine st_pure tabOK hk [0, 1, 2] [] [2, 3, 4] [(2, .slice none 0 0), (3, .bool false), (4, I 2)] (True) (by kernel_rfl) trivial ?_
        clear hk; intro a hk
        refine st_done ?_
        replace ho := ho.nilRow 0 23 2
        replace ho : Ows [] w0 w [.row 0 23 2 (.slice none 0 0) 0 (([] : List (Bool × Str)).flatMap encT23)] := ho.erase 1
        refine st_retG hk (by kernel_rfl) [.slice none 0 0, .bool false, I 2] #[.tmp 2, .tmp 3, .tmp 4] (by kernel_rfl) ⟨resT hk (by kernel_rfl), resT hk (by kernel_rfl), resT hk (by kernel_rfl), trivial⟩ ?_
        obtain rfl := Option.some.inj H
        exact ⟨_, rfl, none, 0, rfl, ho⟩
      ·
        have h54 : ¬ (s48.length = 0) := of_decide_eq_false h51
        rw [if_neg h54] at H
        refine st_skip (by kernel_rfl) ?_
        refine st_seq (C10 [1, 1, 1, 1, 1, 1, 0]) (C10 [1, 1, 1, 1, 1, 1, 1]) (by kernel_rfl) ?_
        refine st_region 14 (opsOf (C10 [1, 1, 1, 1, 1, 1, 0])) [0, 1, 2, 3] (by kernel_rfl) (by kernel_rfl) ?_
        refine st_pure tabOK hk [0, 1, 2, 3] [] [2, 3, 4] [(2, .slice o49 s48.length c50), (3, .bool false), (4, I 0)] (True) (by kernel_rfl) trivial ?_
        clear hk; intro a hk
        refine st_done ?_
        replace ho : Ows [] w0 w [.row 0 23 2 (.slice o49 s48.length c50) s48.length (s48.flatMap encT23)] := ho.weak 0 rfl _ rfl
        refine st_retG hk (by kernel_rfl) [.slice o49 s48.length c50, .bool false, I 0] #[.tmp 2, .tmp 3, .tmp 4] (by kernel_rfl) ⟨resT hk (by kernel_rfl), resT hk (by kernel_rfl), resT hk (by kernel_rfl), trivial⟩ ?_
        obtain rfl := Option.some.inj H
        exact ⟨_, rfl, o49, c50, rfl, ho⟩
    · intro r55 o56 c57 a w e hk ho; subst e
      simp only [] at H
      refine retG hk [.slice o56 r55.1.length c57, .bool r55.2.1, I r55.2.2] #[.tmp 2, .tmp 3, .tmp 4] (by kernel_rfl) ⟨resT hk (by kernel_rfl), resT hk (by kernel_rfl), resT hk (by kernel_rfl), trivial⟩ ?_
      obtain rfl := Option.some.inj H
      exact ⟨_, rfl, o56, c57, rfl, ho⟩


/-! scullery/etag.Print: function 5 -/
noncomputable def C5 (p : List Nat) : Code := Sub (bodyOf f5) p
def etag_Print.f (K : Nat) (p0_0 : Bool) (p0_1 : Str) : Option (Str × Int) := (if ([34]).length + p0_1.length ≤ maxI then (if (([34]) ++ p0_1).length + ([34]).length ≤ maxI then ((etag_right.f K p0_1).bind fun t4 => (if (!t4) = true then some ([], 2) else (if p0_0 = true then (if ([87, 47]).length + ((([34]) ++ p0_1) ++ ([34])).length ≤ maxI then some (([87, 47]) ++ ((([34]) ++ p0_1) ++ ([34])), 0) else none) else some ((([34]) ++ p0_1) ++ ([34]), 0)))) else none) else none)
abbrev etag_Print.post (w0 : World) (r : Str × Int) (u : Value) (w : World) : Prop := u = .tuple #[S r.1, I r.2] ∧ Ows [] w0 w []
theorem etag_Print.ok (K : Nat) (p0_0 : Bool) (p0_1 : Str) (r : Str × Int) (H : etag_Print.f K p0_0 p0_1 = some r) (w0 : World)  : Calls Tryd.prog 5 ⟨[.agg #[.bool p0_0, S p0_1]]⟩ w0 fun e w => ∃ u, e = .returned u ∧ etag_Print.post w0 r u w := by
  unfold etag_Print.f at H
  refine st_start (N := 20) [.agg #[.bool p0_0, S p0_1]] (C5 []) func5 (by kernel_rfl) (by kernel_rfl) (by kernel_rfl) ?_
  intro a w hk ho
  refine st_seq (C5 [0]) (C5 [1]) (by kernel_rfl) ?_
  refine st_region 0 (opsOf (C5 [0])) [0, 1, 2] (by kernel_rfl) (by kernel_rfl) ?_
  refine st_new tabOK hk ho #[.bool p0_0, S p0_1] 23 1 (by kernel_rfl) ?_
  clear hk ho; intro a b1 w hk ho
  refine st_pure tabOK hk [1, 2] [] [1] [(1, .pointer (some ⟨b1, 0, none⟩))] (True) (by kernel_rfl) trivial ?_
  clear hk; intro a hk
  refine st_done ?_
  refine st_seq (C5 [1, 0]) (C5 [1, 1]) (by kernel_rfl) ?_
  refine st_region 1 (opsOf (C5 [1, 0])) [0, 1, 2, 3, 4] (by kernel_rfl) (by kernel_rfl) ?_
  refine st_pure tabOK hk [0] [1, 2, 3, 4] [1, 5] [(1, .pointer (some ⟨b1, 0, none⟩)), (5, .pointer (some ⟨b1, 1, none⟩))] (((some ⟨b1, 0, none⟩ : Option Addr).isSome = true) ∧ True) (by kernel_rfl) ⟨rfl, trivial⟩ ?_
  clear hk; intro a hk
  refine st_load1 tabOK hk 9 (some ⟨b1, 1, none⟩) 6 (by kernel_rfl) (by kernel_rfl) (S p0_1) (ho.cell 0 rfl rfl) ?_
  clear hk; intro a hk
  have h2 : ([34]).length + p0_1.length ≤ maxI := by
    by_cases h2 : ([34]).length + p0_1.length ≤ maxI
    · exact h2
    · rw [if_neg h2] at H; cases H
  rw [if_pos h2] at H
  have h3 : (([34]) ++ p0_1).length + ([34]).length ≤ maxI := by
    by_cases h3 : (([34]) ++ p0_1).length + ([34]).length ≤ maxI
    · exact h3
    · rw [if_neg h3] at H; cases H
  rw [if_pos h3] at H
  refine st_pure tabOK hk [2, 3, 4] [] [1, 4] [(1, .pointer (some ⟨b1, 0, none⟩)), (4, S ((([34]) ++ p0_1) ++ ([34])))] (([34]).length + p0_1.length ≤ maxI ∧ ((([34]) ++ p0_1).length + ([34]).length ≤ maxI ∧ True)) (by kernel_rfl) ⟨h2, ⟨h3, trivial⟩⟩ ?_
  clear hk; intro a hk
  refine st_done ?_
  refine st_seq (C5 [1, 1, 0]) (C5 [1, 1, 1]) (by kernel_rfl) ?_
  refine st_block 0 (C5 [1, 1, 0, 0]) (by kernel_rfl) ?_
  refine st_seq (C5 [1, 1, 0, 0, 0]) (C5 [1, 1, 0, 0, 1]) (by kernel_rfl) ?_
  refine st_region 2 (opsOf (C5 [1, 1, 0, 0, 0])) [0, 1, 2, 3, 4] (by kernel_rfl) (by kernel_rfl) ?_
  refine st_pure tabOK hk [0] [1, 2, 3, 4] [1, 4, 10] [(1, .pointer (some ⟨b1, 0, none⟩)), (4, S ((([34]) ++ p0_1) ++ ([34]))), (10, .pointer (some ⟨b1, 1, none⟩))] (((some ⟨b1, 0, none⟩ : Option Addr).isSome = true) ∧ True) (by kernel_rfl) ⟨rfl, trivial⟩ ?_
  clear hk; intro a hk
  refine st_load1 tabOK hk 9 (some ⟨b1, 1, none⟩) 11 (by kernel_rfl) (by kernel_rfl) (S p0_1) (ho.cell 0 rfl rfl) ?_
  clear hk; intro a hk
  obtain ⟨t4, h5, H⟩ := Option.bind_eq_some_iff.1 H
  refine st_call hk 12 [S p0_1] (some 12) enters12 (by kernel_rfl) (etag_right.ok K  p0_1 t4 h5 w ) ?_
  clear hk; rintro a u w ⟨rfl, ho'⟩ hk
  replace ho : Ows [] w0 w [.blk b1 (.cells #[.bool p0_0, S p0_1] 23 (0, 0))] := ho.call ho'; clear ho'
  refine st_pure tabOK hk [3, 4] [] [1, 4, 9] [(1, .pointer (some ⟨b1, 0, none⟩)), (4, S ((([34]) ++ p0_1) ++ ([34]))), (9, .bool (!t4))] (True) (by kernel_rfl) trivial ?_
  clear hk; intro a hk
  refine st_done ?_
  refine st_cond hk (C5 [1, 1, 0, 0, 1, 0]) (C5 [1, 1, 0, 0, 1, 1]) (.tmp 9) (!t4) (by kernel_rfl) (by kernel_rfl) (fun h6 => ?_) (fun h6 => ?_)
  ·
    have h7 : (!t4) = true := h6
    rw [if_pos h7] at H
    refine st_seq (C5 [1, 1, 0, 0, 1, 0, 0]) (C5 [1, 1, 0, 0, 1, 0, 1]) (by kernel_rfl) ?_
    refine st_region 3 (opsOf (C5 [1, 1, 0, 0, 1, 0, 0])) [0, 1] (by kernel_rfl) (by kernel_rfl) ?_
    refine st_pure tabOK hk [0, 1] [] [2, 3] [(2, S ([])), (3, I 2)] (True) (by kernel_rfl) trivial ?_
    clear hk; intro a hk
    refine st_done ?_
    replace ho : Ows [] w0 w [] := ho.erase 0
    refine st_retG hk (by kernel_rfl) [S ([]), I 2] #[.tmp 2, .tmp 3] (by kernel_rfl) ⟨resT hk (by kernel_rfl), resT hk (by kernel_rfl), trivial⟩ ?_
    obtain rfl := Option.some.inj H
    exact ⟨_, rfl, rfl, ho⟩
  ·
    have h8 : ¬ ((!t4) = true) := ne_true_of_eq_false h6
    rw [if_neg h8] at H
    refine st_seq (C5 [1, 1, 0, 0, 1, 1, 0]) (C5 [1, 1, 0, 0, 1, 1, 1]) (by kernel_rfl) ?_
    refine st_region 4 (opsOf (C5 [1, 1, 0, 0, 1, 1, 0])) [0, 1, 2] (by kernel_rfl) (by kernel_rfl) ?_
    refine st_pure tabOK hk [0] [1, 2] [4, 15] [(4, S ((([34]) ++ p0_1) ++ ([34]))), (15, .pointer (some ⟨b1, 0, none⟩))] (((some ⟨b1, 0, none⟩ : Option Addr).isSome = true) ∧ True) (by kernel_rfl) ⟨rfl, trivial⟩ ?_
    clear hk; intro a hk
    refine st_load1 tabOK hk 4 (some ⟨b1, 0, none⟩) 16 (by kernel_rfl) (by kernel_rfl) (.bool p0_0) (ho.cell 0 rfl rfl) ?_
    clear hk; intro a hk
    refine st_pure tabOK hk [2] [] [4, 14] [(4, S ((([34]) ++ p0_1) ++ ([34]))), (14, .bool p0_0)] (True) (by kernel_rfl) trivial ?_
    clear hk; intro a hk
    refine st_done ?_
    refine st_cond hk (C5 [1, 1, 0, 0, 1, 1, 1, 0]) (C5 [1, 1, 0, 0, 1, 1, 1, 1]) (.tmp 14) (p0_0) (by kernel_rfl) (by kernel_rfl) (fun h9 => ?_) (fun h9 => ?_)
    ·
      have h10 : p0_0 = true := h9
      rw [if_pos h10] at H
      refine st_seq (C5 [1, 1, 0, 0, 1, 1, 1, 0, 0]) (C5 [1, 1, 0, 0, 1, 1, 1, 0, 1]) (by kernel_rfl) ?_
      refine st_region 5 (opsOf (C5 [1, 1, 0, 0, 1, 1, 1, 0, 0])) [0, 1, 2, 3] (by kernel_rfl) (by kernel_rfl) ?_
      have h11 : ([87, 47]).length + ((([34]) ++ p0_1) ++ ([34])).length ≤ maxI := by
        by_cases h11 : ([87, 47]).length + ((([34]) ++ p0_1) ++ ([34])).length ≤ maxI
        · exact h11
        · rw [if_neg h11] at H; cases H
      rw [if_pos h11] at H
      refine st_pure tabOK hk [0, 1, 2, 3] [] [2, 3] [(2, S (([87, 47]) ++ ((([34]) ++ p0_1) ++ ([34])))), (3, I 0)] (([87, 47]).length + ((([34]) ++ p0_1) ++ ([34])).length ≤ maxI ∧ True) (by kernel_rfl) ⟨h11, trivial⟩ ?_
      clear hk; intro a hk
      refine st_done ?_
      replace ho : Ows [] w0 w [] := ho.erase 0
      refine st_retG hk (by kernel_rfl) [S (([87, 47]) ++ ((([34]) ++ p0_1) ++ ([34]))), I 0] #[.tmp 2, .tmp 3] (by kernel_rfl) ⟨resT hk (by kernel_rfl), resT hk (by kernel_rfl), trivial⟩ ?_
      obtain rfl := Option.some.inj H
      exact ⟨_, rfl, rfl, ho⟩
    ·
      have h12 : ¬ (p0_0 = true) := ne_true_of_eq_false h9
      rw [if_neg h12] at H
      refine st_skip (by kernel_rfl) ?_
      refine st_endb 0 ?_
      refine st_seq (C5 [1, 1, 1, 0]) (C5 [1, 1, 1, 1]) (by kernel_rfl) ?_
      refine st_region 6 (opsOf (C5 [1, 1, 1, 0])) [0, 1, 2] (by kernel_rfl) (by kernel_rfl) ?_
      refine st_pure tabOK hk [0, 1, 2] [] [2, 3] [(2, S ((([34]) ++ p0_1) ++ ([34]))), (3, I 0)] (True) (by kernel_rfl) trivial ?_
      clear hk; intro a hk
      refine st_done ?_
      replace ho : Ows [] w0 w [] := ho.erase 0
      refine st_retG hk (by kernel_rfl) [S ((([34]) ++ p0_1) ++ ([34])), I 0] #[.tmp 2, .tmp 3] (by kernel_rfl) ⟨resT hk (by kernel_rfl), resT hk (by kernel_rfl), trivial⟩ ?_
      obtain rfl := Option.some.inj H
      exact ⟨_, rfl, rfl, ho⟩


/-! (*strings.Builder).copyCheck: function 56 -/
noncomputable def C56 (p : List Nat) : Code := Sub (bodyOf f56) p
def strings_Builder_copyCheck_pnsn.f  : Option (Unit) := some ()
abbrev strings_Builder_copyCheck_pnsn.post (b1 : Nat) (w0 : World) (r : Unit) (u : Value) (w : World) : Prop := u = .tuple #[] ∧ Ows [b1] w0 w [.blk b1 (.cells #[.pointer (some ⟨b1, 0, none⟩), .slice none 0 0] 83 (0, 0))]
theorem strings_Builder_copyCheck_pnsn.ok  (r : Unit) (H : strings_Builder_copyCheck_pnsn.f  = some r) (w0 : World) (b1 : Nat) (hh : Has w0 [.blk b1 (.cells #[.pointer none, .slice none 0 0] 83 (0, 0))]) : Calls Tryd.prog 56 ⟨[.pointer (some ⟨b1, 0, none⟩)]⟩ w0 fun e w => ∃ u, e = .returned u ∧ strings_Builder_copyCheck_pnsn.post b1 w0 r u w := by
  unfold strings_Builder_copyCheck_pnsn.f at H
  refine st_startL (N := 20) [.pointer (some ⟨b1, 0, none⟩)] (C56 []) func56 (by kernel_rfl) (by kernel_rfl) (by kernel_rfl) ([.blk b1 (.cells #[.pointer none, .slice none 0 0] 83 (0, 0))]) hh ?_
  intro a w hk ho
  replace ho : Ows [b1] w0 w [.blk b1 (.cells #[.pointer none, .slice none 0 0] 83 (0, 0))] := ho
  refine st_seq (C56 [0]) (C56 [1]) (by kernel_rfl) ?_
  refine st_region 0 (opsOf (C56 [0])) [0, 1, 2, 3, 4] (by kernel_rfl) (by kernel_rfl) ?_
  refine st_pure tabOK hk [0, 1, 2] [3, 4] [0, 4] [(0, .pointer (some ⟨b1, 0, none⟩)), (4, .pointer (some ⟨b1, 0, none⟩))] (((some ⟨b1, 0, none⟩ : Option Addr).isSome = true) ∧ (((some ⟨b1, 0, none⟩ : Option Addr).isSome = true) ∧ True)) (by kernel_rfl) ⟨rfl, ⟨rfl, trivial⟩⟩ ?_
  clear hk; intro a hk
  refine st_load1 tabOK hk 81 (some ⟨b1, 0, none⟩) 5 (by kernel_rfl) (by kernel_rfl) (.pointer none) (ho.cell 0 rfl rfl) ?_
  clear hk; intro a hk
  refine st_pure tabOK hk [4] [] [0, 6] [(0, .pointer (some ⟨b1, 0, none⟩)), (6, .bool true)] (True) (by kernel_rfl) trivial ?_
  clear hk; intro a hk
  refine st_done ?_
  refine st_cond_true hk (C56 [1, 0]) (C56 [1, 1]) (.tmp 6) (by kernel_rfl) (by kernel_rfl) ?_
  refine st_region 1 (opsOf (C56 [1, 0])) [0, 1, 2, 3, 4, 5, 6, 7] (by kernel_rfl) (by kernel_rfl) ?_
  refine st_pure tabOK hk [0, 1] [2, 3, 4, 5, 6, 7] [7, 8] [(7, .pointer (some ⟨b1, 0, none⟩)), (8, .pointer (some ⟨b1, 0, none⟩))] (True) (by kernel_rfl) trivial ?_
  clear hk; intro a hk
  refine st_toU hk ho 0 81 111 83 9 b1 0 83 #[.pointer none, .slice none 0 0] (by kernel_rfl) (by kernel_rfl) (by kernel_rfl) (by rw [show ((Tryd.prog.info? 83).map (·.size)).getD 0 = 2 from by kernel_rfl]; decide) rfl (by kernel_rfl) ?_
  clear hk; intro a hk
  refine st_ext hk 67 [.pointer (some ⟨b1, 0, none⟩)] 10 ext67 (by kernel_rfl) (same_run _ _) ?_
  clear hk; intro a hk
  refine st_fromU hk ho 0 111 81 83 11 b1 0 83 2 #[.pointer none, .slice none 0 0] (by kernel_rfl) (by kernel_rfl) (by kernel_rfl) (by kernel_rfl) rfl (by kernel_rfl) (by kernel_rfl) ?_
  clear hk; intro a hk
  refine st_pure tabOK hk [5, 6] [7] [11, 13] [(11, .pointer (some ⟨b1, 0, none⟩)), (13, .pointer (some ⟨b1, 0, none⟩))] (((some ⟨b1, 0, none⟩ : Option Addr).isSome = true) ∧ (((some ⟨b1, 0, none⟩ : Option Addr).isSome = true) ∧ True)) (by kernel_rfl) ⟨rfl, ⟨rfl, trivial⟩⟩ ?_
  clear hk; intro a hk
  refine st_put1 hk ho 0 81 b1 0 (.pointer (some ⟨b1, 0, none⟩)) #[.pointer none, .slice none 0 0] 83 [.blk b1 (.cells #[.pointer (some ⟨b1, 0, none⟩), .slice none 0 0] 83 (0, 0))] (by kernel_rfl) (by kernel_rfl) (by kernel_rfl) rfl (by kernel_rfl) (by kernel_rfl) rfl ?_
  clear ho; intro w ho
  refine st_done ?_
  refine st_endK hk [] #[] (by kernel_rfl) (by kernel_rfl) ?_
  obtain rfl := Option.some.inj H
  exact ⟨_, rfl, rfl, ho⟩


/-! (*strings.Builder).grow: function 57 -/
noncomputable def C57 (p : List Nat) : Code := Sub (bodyOf f57) p
def strings_Builder_grow_ps0sn.f (p1 : Int) : Option (List UInt8) := (if (0 : Int) < w64 ((0 : Int) + p1) then (if w64 ((0 : Int) + p1) ≤ 4294967296 then some ([] : List UInt8) else none) else none)
abbrev strings_Builder_grow_ps0sn.post (b1 : Nat) (w0 : World) (r : List UInt8) (u : Value) (w : World) : Prop := ∃ (o19 : Option Addr), ∃ (c20 : Nat), u = .tuple #[] ∧ Ows [b1] w0 w [.blk b1 (.cells #[.pointer (some ⟨b1, 0, none⟩), .slice o19 r.length c20] 83 (0, 0)), .row 1 5 1 (.slice o19 r.length c20) r.length (r.map bV)]
theorem strings_Builder_grow_ps0sn.ok (p1 : Int) (r : List UInt8) (H : strings_Builder_grow_ps0sn.f p1 = some r) (w0 : World) (b1 : Nat) (hh : Has w0 [.blk b1 (.cells #[.pointer (some ⟨b1, 0, none⟩), .slice none 0 0] 83 (0, 0))]) : Calls Tryd.prog 57 ⟨[.pointer (some ⟨b1, 0, none⟩), I p1]⟩ w0 fun e w => ∃ u, e = .returned u ∧ strings_Builder_grow_ps0sn.post b1 w0 r u w := by
  unfold strings_Builder_grow_ps0sn.f at H
  refine st_startL (N := 30) [.pointer (some ⟨b1, 0, none⟩), I p1] (C57 []) func57 (by kernel_rfl) (by kernel_rfl) (by kernel_rfl) ([.blk b1 (.cells #[.pointer (some ⟨b1, 0, none⟩), .slice none 0 0] 83 (0, 0))]) hh ?_
  intro a w hk ho
  replace ho : Ows [b1] w0 w [.blk b1 (.cells #[.pointer (some ⟨b1, 0, none⟩), .slice none 0 0] 83 (0, 0))] := ho
  refine st_seq (C57 [0]) (C57 [1]) (by kernel_rfl) ?_
  have h2 : (0 : Int) < w64 ((0 : Int) + p1) := by
    by_cases h2 : (0 : Int) < w64 ((0 : Int) + p1)
    · exact h2
    · rw [if_neg h2] at H; cases H
  rw [if_pos h2] at H
  have h3 : w64 ((0 : Int) + p1) ≤ 4294967296 := by
    by_cases h3 : w64 ((0 : Int) + p1) ≤ 4294967296
    · exact h3
    · rw [if_neg h3] at H; cases H
  rw [if_pos h3] at H
  refine cut_code (fun a w => ∃ (o4 : Option Addr), ∃ (c5 : Nat), Kn 30 a [(0, .pointer (some ⟨b1, 0, none⟩)), (4, .slice o4 0 c5)] ∧ Ows [b1] w0 w [.row 1 5 1 (.slice o4 0 c5) 0 (([] : List UInt8).map bV), .blk b1 (.cells #[.pointer (some ⟨b1, 0, none⟩), .slice none 0 0] 83 (0, 0))]) ?_ ?_
  · intro J
    refine st_draw ho 0 (opsOf (C57 [0])) [0, 1, 2, 3, 4, 5, 6, 7, 8, 9, 10, 11, 12, 13, 14, 15] (by kernel_rfl) (by kernel_rfl) (by kernel_rfl) ?_
    clear ho; intro w ho
    refine any_pure tabOK hk [0, 1, 2, 6, 9, 10, 11] [0, 1, 2, 3, 4, 5, 6, 7, 8, 9, 10, 11, 12, 13, 14, 15] [3, 4, 5, 7, 8, 12, 13, 14, 15] [0, 7, 11, 16] [(0, .pointer (some ⟨b1, 0, none⟩)), (7, .pointer (some ⟨b1, 1, none⟩)), (11, I p1), (16, .pointer (some ⟨b1, 1, none⟩))] (((some ⟨b1, 0, none⟩ : Option Addr).isSome = true) ∧ (((some ⟨b1, 0, none⟩ : Option Addr).isSome = true) ∧ (((some ⟨b1, 0, none⟩ : Option Addr).isSome = true) ∧ (((some ⟨b1, 0, none⟩ : Option Addr).isSome = true) ∧ True)))) (by kernel_rfl) (by kernel_rfl) (by kernel_rfl) ⟨rfl, ⟨rfl, ⟨rfl, ⟨rfl, trivial⟩⟩⟩⟩ ?_
    clear hk; intro a hk
    refine any_all [3, 12] (by kernel_rfl) (by decide) ⟨?_, ?_, trivial⟩
    ·
      change wpOps _ _ _ [3] _ _
      refine st_load1 tabOK hk 60 (some ⟨b1, 1, none⟩) 8 (by kernel_rfl) (by kernel_rfl) (.slice none 0 0) (ho.cell 0 rfl rfl) ?_
      clear hk; intro a hk
      refine any_go [4, 5, 7, 8, 12, 13, 14, 15] (by kernel_rfl) ?_
      refine any_pure tabOK hk [4, 5, 7] [4, 5, 7, 8, 12, 13, 14, 15] [8, 12, 13, 14, 15] [0, 12, 16] [(0, .pointer (some ⟨b1, 0, none⟩)), (12, I (w64 ((0 : Int) + p1))), (16, .pointer (some ⟨b1, 1, none⟩))] (True) (by kernel_rfl) (by kernel_rfl) (by kernel_rfl) trivial ?_
      clear hk; intro a hk
      refine any_all [8, 12] (by kernel_rfl) (by decide) ⟨?_, ?_, trivial⟩
      ·
        change wpOps _ _ _ [8] _ _
        refine st_make0 tabOK hk ho 68 60 5 13 (w64 ((0 : Int) + p1)) #[3] ext68 (by kernel_rfl) (by kernel_rfl) h2 h3 ?_
        clear hk ho; intro a o4 c5 vs6 w h7 hk ho
        refine any_go [12, 13, 14, 15] (by kernel_rfl) ?_
        refine any_all [12] (by kernel_rfl) (by decide) ⟨?_, trivial⟩
        change wpOps _ _ _ [12] _ _
        refine st_load1 tabOK hk 60 (some ⟨b1, 1, none⟩) 17 (by kernel_rfl) (by kernel_rfl) (.slice none 0 0) (ho.cell 1 rfl rfl) ?_
        clear hk; intro a hk
        refine any_go [13, 14, 15] (by kernel_rfl) ?_
        refine any_pure tabOK hk [13, 14] [13, 14, 15] [15] [0, 19] [(0, .pointer (some ⟨b1, 0, none⟩)), (19, .slice o4 (Int.toNat 0) c5)] (((0 : Int) ≤ 0 ∧ (0 : Int) ≤ (c5 : Int)) ∧ True) (by kernel_rfl) (by kernel_rfl) (by kernel_rfl) ⟨⟨by decide, Int.natCast_nonneg _⟩, trivial⟩ ?_
        clear hk; intro a hk
        replace ho : Ows [b1] w0 w [.row 1 5 1 (.slice o4 0 c5) 0 (([] : List UInt8).map bV), .blk b1 (.cells #[.pointer (some ⟨b1, 0, none⟩), .slice none 0 0] 83 (0, 0))] := ho.shrink 0 rfl 0 (Nat.zero_le _) (by decide) [] (by simp) _ rfl
        replace hk : Kn 30 a [(0, .pointer (some ⟨b1, 0, none⟩)), (19, .slice o4 0 c5)] := hk.to [0, 19] _ (by kernel_rfl)
        refine any_pure tabOK hk [15] [15] [] [0, 4] [(0, .pointer (some ⟨b1, 0, none⟩)), (4, .slice o4 0 c5)] (True) (by kernel_rfl) (by kernel_rfl) (by kernel_rfl) trivial ?_
        clear hk; intro a hk
        refine any_end ?_
        exact J a w ⟨o4, c5, by exact hk.to [0, 4] _ (by kernel_rfl), by exact ho⟩
      ·
        change wpOps _ _ _ [12] _ _
        refine st_load1 tabOK hk 60 (some ⟨b1, 1, none⟩) 17 (by kernel_rfl) (by kernel_rfl) (.slice none 0 0) (ho.cell 0 rfl rfl) ?_
        clear hk; intro a hk
        refine any_go [8, 13, 14, 15] (by kernel_rfl) ?_
        refine any_pure tabOK hk [13] [8, 13, 14, 15] [8, 14, 15] [0, 12, 18] [(0, .pointer (some ⟨b1, 0, none⟩)), (12, I (w64 ((0 : Int) + p1))), (18, I 0)] (True) (by kernel_rfl) (by kernel_rfl) (by kernel_rfl) trivial ?_
        clear hk; intro a hk
        refine any_all [8] (by kernel_rfl) (by decide) ⟨?_, trivial⟩
        change wpOps _ _ _ [8] _ _
        refine st_make0 tabOK hk ho 68 60 5 13 (w64 ((0 : Int) + p1)) #[3] ext68 (by kernel_rfl) (by kernel_rfl) h2 h3 ?_
        clear hk ho; intro a o9 c10 vs11 w h12 hk ho
        refine any_go [14, 15] (by kernel_rfl) ?_
        refine any_pure tabOK hk [14] [14, 15] [15] [0, 19] [(0, .pointer (some ⟨b1, 0, none⟩)), (19, .slice o9 (Int.toNat 0) c10)] (((0 : Int) ≤ 0 ∧ (0 : Int) ≤ (c10 : Int)) ∧ True) (by kernel_rfl) (by kernel_rfl) (by kernel_rfl) ⟨⟨by decide, Int.natCast_nonneg _⟩, trivial⟩ ?_
        clear hk; intro a hk
        replace ho : Ows [b1] w0 w [.row 1 5 1 (.slice o9 0 c10) 0 (([] : List UInt8).map bV), .blk b1 (.cells #[.pointer (some ⟨b1, 0, none⟩), .slice none 0 0] 83 (0, 0))] := ho.shrink 0 rfl 0 (Nat.zero_le _) (by decide) [] (by simp) _ rfl
        replace hk : Kn 30 a [(0, .pointer (some ⟨b1, 0, none⟩)), (19, .slice o9 0 c10)] := hk.to [0, 19] _ (by kernel_rfl)
        refine any_pure tabOK hk [15] [15] [] [0, 4] [(0, .pointer (some ⟨b1, 0, none⟩)), (4, .slice o9 0 c10)] (True) (by kernel_rfl) (by kernel_rfl) (by kernel_rfl) trivial ?_
        clear hk; intro a hk
        refine any_end ?_
        exact J a w ⟨o9, c10, by exact hk.to [0, 4] _ (by kernel_rfl), by exact ho⟩
    ·
      change wpOps _ _ _ [12] _ _
      refine st_load1 tabOK hk 60 (some ⟨b1, 1, none⟩) 17 (by kernel_rfl) (by kernel_rfl) (.slice none 0 0) (ho.cell 0 rfl rfl) ?_
      clear hk; intro a hk
      refine any_go [3, 4, 5, 7, 8, 13, 14, 15] (by kernel_rfl) ?_
      refine any_pure tabOK hk [13] [3, 4, 5, 7, 8, 13, 14, 15] [3, 4, 5, 7, 8, 14, 15] [0, 7, 11, 18] [(0, .pointer (some ⟨b1, 0, none⟩)), (7, .pointer (some ⟨b1, 1, none⟩)), (11, I p1), (18, I 0)] (True) (by kernel_rfl) (by kernel_rfl) (by kernel_rfl) trivial ?_
      clear hk; intro a hk
      refine any_all [3] (by kernel_rfl) (by decide) ⟨?_, trivial⟩
      change wpOps _ _ _ [3] _ _
      refine st_load1 tabOK hk 60 (some ⟨b1, 1, none⟩) 8 (by kernel_rfl) (by kernel_rfl) (.slice none 0 0) (ho.cell 0 rfl rfl) ?_
      clear hk; intro a hk
      refine any_go [4, 5, 7, 8, 14, 15] (by kernel_rfl) ?_
      refine any_pure tabOK hk [4, 5, 7] [4, 5, 7, 8, 14, 15] [8, 14, 15] [0, 12, 18] [(0, .pointer (some ⟨b1, 0, none⟩)), (12, I (w64 ((0 : Int) + p1))), (18, I 0)] (True) (by kernel_rfl) (by kernel_rfl) (by kernel_rfl) trivial ?_
      clear hk; intro a hk
      refine any_all [8] (by kernel_rfl) (by decide) ⟨?_, trivial⟩
      change wpOps _ _ _ [8] _ _
      refine st_make0 tabOK hk ho 68 60 5 13 (w64 ((0 : Int) + p1)) #[3] ext68 (by kernel_rfl) (by kernel_rfl) h2 h3 ?_
      clear hk ho; intro a o14 c15 vs16 w h17 hk ho
      refine any_go [14, 15] (by kernel_rfl) ?_
      refine any_pure tabOK hk [14] [14, 15] [15] [0, 19] [(0, .pointer (some ⟨b1, 0, none⟩)), (19, .slice o14 (Int.toNat 0) c15)] (((0 : Int) ≤ 0 ∧ (0 : Int) ≤ (c15 : Int)) ∧ True) (by kernel_rfl) (by kernel_rfl) (by kernel_rfl) ⟨⟨by decide, Int.natCast_nonneg _⟩, trivial⟩ ?_
      clear hk; intro a hk
      replace ho : Ows [b1] w0 w [.row 1 5 1 (.slice o14 0 c15) 0 (([] : List UInt8).map bV), .blk b1 (.cells #[.pointer (some ⟨b1, 0, none⟩), .slice none 0 0] 83 (0, 0))] := ho.shrink 0 rfl 0 (Nat.zero_le _) (by decide) [] (by simp) _ rfl
      replace hk : Kn 30 a [(0, .pointer (some ⟨b1, 0, none⟩)), (19, .slice o14 0 c15)] := hk.to [0, 19] _ (by kernel_rfl)
      refine any_pure tabOK hk [15] [15] [] [0, 4] [(0, .pointer (some ⟨b1, 0, none⟩)), (4, .slice o14 0 c15)] (True) (by kernel_rfl) (by kernel_rfl) (by kernel_rfl) trivial ?_
      clear hk; intro a hk
      refine any_end ?_
      exact J a w ⟨o14, c15, by exact hk.to [0, 4] _ (by kernel_rfl), by exact ho⟩
  · rintro a w ⟨o4, c5, hk, ho⟩
    refine st_seq (C57 [1, 0]) (C57 [1, 1]) (by kernel_rfl) ?_
    refine st_region 1 (opsOf (C57 [1, 0])) [0, 1, 2, 3, 4, 5] (by kernel_rfl) (by kernel_rfl) ?_
    refine st_pure tabOK hk [0, 1, 2, 3] [4, 5] [0, 4, 20, 23] [(0, .pointer (some ⟨b1, 0, none⟩)), (4, .slice o4 0 c5), (20, .slice o4 0 c5), (23, .pointer (some ⟨b1, 1, none⟩))] (((some ⟨b1, 0, none⟩ : Option Addr).isSome = true) ∧ (((some ⟨b1, 0, none⟩ : Option Addr).isSome = true) ∧ True)) (by kernel_rfl) ⟨rfl, ⟨rfl, trivial⟩⟩ ?_
    clear hk; intro a hk
    refine st_load1 tabOK hk 60 (some ⟨b1, 1, none⟩) 24 (by kernel_rfl) (by kernel_rfl) (.slice none 0 0) (ho.cell 1 rfl rfl) ?_
    clear hk; intro a hk
    refine st_yield hk 25 (I 0) (copyY tabOK 60 60 5 25 o4 0 c5 (by kernel_rfl) (by kernel_rfl)) ?_
    clear hk; intro a hk
    refine st_done ?_
    refine st_region 2 (opsOf (C57 [1, 1])) [0, 1, 2, 3, 4] (by kernel_rfl) (by kernel_rfl) ?_
    refine st_pure tabOK hk [0, 1, 2, 3] [4] [27, 29] [(27, .slice o4 0 c5), (29, .pointer (some ⟨b1, 1, none⟩))] (((some ⟨b1, 0, none⟩ : Option Addr).isSome = true) ∧ (((some ⟨b1, 0, none⟩ : Option Addr).isSome = true) ∧ True)) (by kernel_rfl) ⟨rfl, ⟨rfl, trivial⟩⟩ ?_
    clear hk; intro a hk
    refine st_put1 hk ho 1 60 b1 1 (.slice o4 0 c5) #[.pointer (some ⟨b1, 0, none⟩), .slice none 0 0] 83 [.row 1 5 1 (.slice o4 0 c5) 0 (([] : List UInt8).map bV), .blk b1 (.cells #[.pointer (some ⟨b1, 0, none⟩), .slice o4 0 c5] 83 (0, 0))] (by kernel_rfl) (by kernel_rfl) (by kernel_rfl) rfl (by kernel_rfl) (by kernel_rfl) rfl ?_
    clear ho; intro w ho
    refine st_done ?_
    replace ho : Ows [b1] w0 w [.blk b1 (.cells #[.pointer (some ⟨b1, 0, none⟩), .slice o4 0 c5] 83 (0, 0)), .row 1 5 1 (.slice o4 0 c5) 0 (([] : List UInt8).map bV)] := ho.front 1 _ _ rfl rfl
    refine st_endK hk [] #[] (by kernel_rfl) (by kernel_rfl) ?_
    obtain rfl := Option.some.inj H
    exact ⟨_, rfl, o4, c5, rfl, ho⟩


/-! (*strings.Builder).Grow: function 41 -/
noncomputable def C41 (p : List Nat) : Code := Sub (bodyOf f41) p
def strings_Builder_Grow_pnsn.f (p1 : Int) : Option (List UInt8) := (((strings_Builder_copyCheck_pnsn.f ).bind fun t2 => (((if p1 < 0 then none else some ())).bind fun m4 => (if 0 < p1 then ((strings_Builder_grow_ps0sn.f p1).bind fun t10 => some t10) else some ([] : List UInt8)))))
abbrev strings_Builder_Grow_pnsn.post (b1 : Nat) (w0 : World) (r : List UInt8) (u : Value) (w : World) : Prop := ∃ (o17 : Option Addr), ∃ (c18 : Nat), u = .tuple #[] ∧ Ows [b1] w0 w [.blk b1 (.cells #[.pointer (some ⟨b1, 0, none⟩), .slice o17 r.length c18] 83 (0, 0)), .row 1 5 1 (.slice o17 r.length c18) r.length (r.map bV)]
theorem strings_Builder_Grow_pnsn.ok (p1 : Int) (r : List UInt8) (H : strings_Builder_Grow_pnsn.f p1 = some r) (w0 : World) (b1 : Nat) (hh : Has w0 [.blk b1 (.cells #[.pointer none, .slice none 0 0] 83 (0, 0))]) : Calls Tryd.prog 41 ⟨[.pointer (some ⟨b1, 0, none⟩), I p1]⟩ w0 fun e w => ∃ u, e = .returned u ∧ strings_Builder_Grow_pnsn.post b1 w0 r u w := by
  unfold strings_Builder_Grow_pnsn.f at H
  refine st_startL (N := 25) [.pointer (some ⟨b1, 0, none⟩), I p1] (C41 []) func41 (by kernel_rfl) (by kernel_rfl) (by kernel_rfl) ([.blk b1 (.cells #[.pointer none, .slice none 0 0] 83 (0, 0))]) hh ?_
  intro a w hk ho
  replace ho : Ows [b1] w0 w [.blk b1 (.cells #[.pointer none, .slice none 0 0] 83 (0, 0))] := ho
  refine st_seq (C41 [0]) (C41 [1]) (by kernel_rfl) ?_
  refine st_region 0 (opsOf (C41 [0])) [0, 1] (by kernel_rfl) (by kernel_rfl) ?_
  refine st_pure tabOK hk [0] [1] [0, 1, 4] [(0, .pointer (some ⟨b1, 0, none⟩)), (1, I p1), (4, .pointer (some ⟨b1, 0, none⟩))] (True) (by kernel_rfl) trivial ?_
  clear hk; intro a hk
  obtain ⟨t2, h3, H⟩ := Option.bind_eq_some_iff.1 H
  refine st_call hk 56 [.pointer (some ⟨b1, 0, none⟩)] (some 5) enters56 (by kernel_rfl) (strings_Builder_copyCheck_pnsn.ok   t2 h3 w b1 (Ows.has (K := [.blk b1 (.cells #[.pointer none, .slice none 0 0] 83 (0, 0))]) (L := []) ho)) ?_
  clear hk; rintro a u w ⟨rfl, ho'⟩ hk
  replace ho : Ows [b1] w0 w [.blk b1 (.cells #[.pointer (some ⟨b1, 0, none⟩), .slice none 0 0] 83 (0, 0))] := Ows.callP (K := [.blk b1 (.cells #[.pointer none, .slice none 0 0] 83 (0, 0))]) (L := []) ho ho' rfl; clear ho'
  refine st_done ?_
  refine st_seq (C41 [1, 0]) (C41 [1, 1]) (by kernel_rfl) ?_
  refine st_seq (C41 [1, 0, 0]) (C41 [1, 0, 1]) (by kernel_rfl) ?_
  refine st_region 1 (opsOf (C41 [1, 0, 0])) [0, 1] (by kernel_rfl) (by kernel_rfl) ?_
  refine st_pure tabOK hk [0, 1] [] [0, 1, 7] [(0, .pointer (some ⟨b1, 0, none⟩)), (1, I p1), (7, .bool (decide (p1 < 0)))] (True) (by kernel_rfl) trivial ?_
  clear hk; intro a hk
  refine st_done ?_
  obtain ⟨m4, HX, H⟩ := Option.bind_eq_some_iff.1 H
  refine cut_code (fun a w => Kn 25 a [(0, .pointer (some ⟨b1, 0, none⟩)), (1, I p1)] ∧ Ows [b1] w0 w [.blk b1 (.cells #[.pointer (some ⟨b1, 0, none⟩), .slice none 0 0] 83 (0, 0))]) ?_ ?_
  · intro J; clear H; have H := HX; clear HX
    refine st_cond hk (C41 [1, 0, 1, 0]) (C41 [1, 0, 1, 1]) (.tmp 7) (decide (p1 < 0)) (by kernel_rfl) (by kernel_rfl) (fun h5 => ?_) (fun h5 => ?_)
    ·
      have h6 : p1 < 0 := of_decide_eq_true h5
      rw [if_pos h6] at H
      exact nomatch H
    ·
      have h7 : ¬ (p1 < 0) := of_decide_eq_false h5
      rw [if_neg h7] at H
      refine st_skip (by kernel_rfl) ?_
      obtain rfl := Option.some.inj H
      exact J a w ⟨hk.to [0, 1] _ (by kernel_rfl), ho⟩
  · clear HX; rintro a w ⟨hk, ho⟩
    refine st_seq (C41 [1, 1, 0]) (C41 [1, 1, 1]) (by kernel_rfl) ?_
    refine cut_code (fun a w => Kn 25 a [(0, .pointer (some ⟨b1, 0, none⟩)), (1, I p1), (21, .bool (decide (0 < p1)))] ∧ Ows [b1] w0 w [.blk b1 (.cells #[.pointer (some ⟨b1, 0, none⟩), .slice none 0 0] 83 (0, 0))]) ?_ ?_
    · intro J
      refine st_draw ho 3 (opsOf (C41 [1, 1, 0])) [0, 1, 2, 3, 4, 5, 6, 7, 8, 9, 10, 11, 12] (by kernel_rfl) (by kernel_rfl) (by kernel_rfl) ?_
      clear ho; intro w ho
      refine any_pure tabOK hk [0, 1, 2, 5, 6, 7, 11] [0, 1, 2, 3, 4, 5, 6, 7, 8, 9, 10, 11, 12] [3, 4, 8, 9, 10, 12] [0, 1, 11, 16, 20] [(0, .pointer (some ⟨b1, 0, none⟩)), (1, I p1), (11, .pointer (some ⟨b1, 1, none⟩)), (16, .pointer (some ⟨b1, 1, none⟩)), (20, I p1)] (((some ⟨b1, 0, none⟩ : Option Addr).isSome = true) ∧ (((some ⟨b1, 0, none⟩ : Option Addr).isSome = true) ∧ (((some ⟨b1, 0, none⟩ : Option Addr).isSome = true) ∧ (((some ⟨b1, 0, none⟩ : Option Addr).isSome = true) ∧ True)))) (by kernel_rfl) (by kernel_rfl) (by kernel_rfl) ⟨rfl, ⟨rfl, ⟨rfl, ⟨rfl, trivial⟩⟩⟩⟩ ?_
      clear hk; intro a hk
      refine any_all [3, 8] (by kernel_rfl) (by decide) ⟨?_, ?_, trivial⟩
      ·
        change wpOps _ _ _ [3] _ _
        refine st_load1 tabOK hk 60 (some ⟨b1, 1, none⟩) 12 (by kernel_rfl) (by kernel_rfl) (.slice none 0 0) (ho.cell 0 rfl rfl) ?_
        clear hk; intro a hk
        refine any_go [4, 8, 9, 10, 12] (by kernel_rfl) ?_
        refine any_pure tabOK hk [4] [4, 8, 9, 10, 12] [8, 9, 10, 12] [0, 1, 13, 16, 20] [(0, .pointer (some ⟨b1, 0, none⟩)), (1, I p1), (13, I 0), (16, .pointer (some ⟨b1, 1, none⟩)), (20, I p1)] (True) (by kernel_rfl) (by kernel_rfl) (by kernel_rfl) trivial ?_
        clear hk; intro a hk
        refine any_all [8] (by kernel_rfl) (by decide) ⟨?_, trivial⟩
        change wpOps _ _ _ [8] _ _
        refine st_load1 tabOK hk 60 (some ⟨b1, 1, none⟩) 17 (by kernel_rfl) (by kernel_rfl) (.slice none 0 0) (ho.cell 0 rfl rfl) ?_
        clear hk; intro a hk
        refine any_go [9, 10, 12] (by kernel_rfl) ?_
        refine any_pure tabOK hk [9, 10, 12] [9, 10, 12] [] [0, 1, 21] [(0, .pointer (some ⟨b1, 0, none⟩)), (1, I p1), (21, .bool (decide (0 < p1)))] (True) (by kernel_rfl) (by kernel_rfl) (by kernel_rfl) trivial ?_
        clear hk; intro a hk
        refine any_end ?_
        exact J a w ⟨by exact hk.to [0, 1, 21] _ (by kernel_rfl), by exact ho⟩
      ·
        change wpOps _ _ _ [8] _ _
        refine st_load1 tabOK hk 60 (some ⟨b1, 1, none⟩) 17 (by kernel_rfl) (by kernel_rfl) (.slice none 0 0) (ho.cell 0 rfl rfl) ?_
        clear hk; intro a hk
        refine any_go [3, 4, 9, 10, 12] (by kernel_rfl) ?_
        refine any_pure tabOK hk [9] [3, 4, 9, 10, 12] [3, 4, 10, 12] [0, 1, 11, 18, 20] [(0, .pointer (some ⟨b1, 0, none⟩)), (1, I p1), (11, .pointer (some ⟨b1, 1, none⟩)), (18, I 0), (20, I p1)] (True) (by kernel_rfl) (by kernel_rfl) (by kernel_rfl) trivial ?_
        clear hk; intro a hk
        refine any_all [3] (by kernel_rfl) (by decide) ⟨?_, trivial⟩
        change wpOps _ _ _ [3] _ _
        refine st_load1 tabOK hk 60 (some ⟨b1, 1, none⟩) 12 (by kernel_rfl) (by kernel_rfl) (.slice none 0 0) (ho.cell 0 rfl rfl) ?_
        clear hk; intro a hk
        refine any_go [4, 10, 12] (by kernel_rfl) ?_
        refine any_pure tabOK hk [4, 10, 12] [4, 10, 12] [] [0, 1, 21] [(0, .pointer (some ⟨b1, 0, none⟩)), (1, I p1), (21, .bool (decide (0 < p1)))] (True) (by kernel_rfl) (by kernel_rfl) (by kernel_rfl) trivial ?_
        clear hk; intro a hk
        refine any_end ?_
        exact J a w ⟨by exact hk.to [0, 1, 21] _ (by kernel_rfl), by exact ho⟩
    · rintro a w ⟨hk, ho⟩
      refine st_cond hk (C41 [1, 1, 1, 0]) (C41 [1, 1, 1, 1]) (.tmp 21) (decide (0 < p1)) (by kernel_rfl) (by kernel_rfl) (fun h8 => ?_) (fun h8 => ?_)
      ·
        have h9 : 0 < p1 := of_decide_eq_true h8
        rw [if_pos h9] at H
        refine st_region 4 (opsOf (C41 [1, 1, 1, 0])) [0, 1, 2] (by kernel_rfl) (by kernel_rfl) ?_
        refine st_pure tabOK hk [0, 1] [2] [22, 23] [(22, .pointer (some ⟨b1, 0, none⟩)), (23, I p1)] (True) (by kernel_rfl) trivial ?_
        clear hk; intro a hk
        obtain ⟨t10, h11, H⟩ := Option.bind_eq_some_iff.1 H
        refine st_call hk 57 [.pointer (some ⟨b1, 0, none⟩), I p1] (some 24) enters57 (by kernel_rfl) (strings_Builder_grow_ps0sn.ok  p1 t10 h11 w b1 (Ows.has (K := [.blk b1 (.cells #[.pointer (some ⟨b1, 0, none⟩), .slice none 0 0] 83 (0, 0))]) (L := []) ho)) ?_
        clear hk; rintro a u w ⟨o12, c13, rfl, ho'⟩ hk
        replace ho : Ows [b1] w0 w [.blk b1 (.cells #[.pointer (some ⟨b1, 0, none⟩), .slice o12 t10.length c13] 83 (0, 0)), .row 1 5 1 (.slice o12 t10.length c13) t10.length (t10.map bV)] := Ows.callP (K := [.blk b1 (.cells #[.pointer (some ⟨b1, 0, none⟩), .slice none 0 0] 83 (0, 0))]) (L := []) ho ho' rfl; clear ho'
        refine st_done ?_
        refine st_endK hk [] #[] (by kernel_rfl) (by kernel_rfl) ?_
        obtain rfl := Option.some.inj H
        exact ⟨_, rfl, o12, c13, rfl, ho⟩
      ·
        have h15 : ¬ (0 < p1) := of_decide_eq_false h8
        rw [if_neg h15] at H
        refine st_skip (by kernel_rfl) ?_
        replace ho := ho.nilRow 1 5 1
        replace ho : Ows [b1] w0 w [.blk b1 (.cells #[.pointer (some ⟨b1, 0, none⟩), .slice none 0 0] 83 (0, 0)), .row 1 5 1 (.slice none 0 0) 0 (([] : List UInt8).map bV)] := ho.front 1 _ _ rfl rfl
        refine st_endK hk [] #[] (by kernel_rfl) (by kernel_rfl) ?_
        obtain rfl := Option.some.inj H
        exact ⟨_, rfl, none, 0, rfl, ho⟩


/-! (*strings.Builder).copyCheck: function 56 -/
def strings_Builder_copyCheck_ps0t.f (p0_1 : List UInt8) : Option (List UInt8) := some p0_1
abbrev strings_Builder_copyCheck_ps0t.post (b1 : Nat) (o2 : Option Addr) (p0_1 : List UInt8) (c3 : Nat) (w0 : World) (r : List UInt8) (u : Value) (w : World) : Prop := ∃ (o5 : Option Addr), ∃ (c6 : Nat), u = .tuple #[] ∧ Ows (feet [.blk b1 (.cells #[.pointer (some ⟨b1, 0, none⟩), .slice o2 p0_1.length c3] 83 (0, 0)), .row 1 5 1 (.slice o2 p0_1.length c3) p0_1.length (p0_1.map bV)]) w0 w [.blk b1 (.cells #[.pointer (some ⟨b1, 0, none⟩), .slice o5 r.length c6] 83 (0, 0)), .row 1 5 1 (.slice o5 r.length c6) r.length (r.map bV)]
theorem strings_Builder_copyCheck_ps0t.ok (p0_1 : List UInt8) (r : List UInt8) (H : strings_Builder_copyCheck_ps0t.f p0_1 = some r) (w0 : World) (b1 : Nat) (o2 : Option Addr) (c3 : Nat) (hh : Has w0 [.blk b1 (.cells #[.pointer (some ⟨b1, 0, none⟩), .slice o2 p0_1.length c3] 83 (0, 0)), .row 1 5 1 (.slice o2 p0_1.length c3) p0_1.length (p0_1.map bV)]) : Calls Tryd.prog 56 ⟨[.pointer (some ⟨b1, 0, none⟩)]⟩ w0 fun e w => ∃ u, e = .returned u ∧ strings_Builder_copyCheck_ps0t.post b1 o2 p0_1 c3 w0 r u w := by
  unfold strings_Builder_copyCheck_ps0t.f at H
  refine st_startL (N := 20) [.pointer (some ⟨b1, 0, none⟩)] (C56 []) func56 (by kernel_rfl) (by kernel_rfl) (by kernel_rfl) ([.blk b1 (.cells #[.pointer (some ⟨b1, 0, none⟩), .slice o2 p0_1.length c3] 83 (0, 0)), .row 1 5 1 (.slice o2 p0_1.length c3) p0_1.length (p0_1.map bV)]) hh ?_
  intro a w hk ho
  replace ho : Ows (feet [.blk b1 (.cells #[.pointer (some ⟨b1, 0, none⟩), .slice o2 p0_1.length c3] 83 (0, 0)), .row 1 5 1 (.slice o2 p0_1.length c3) p0_1.length (p0_1.map bV)]) w0 w [.blk b1 (.cells #[.pointer (some ⟨b1, 0, none⟩), .slice o2 p0_1.length c3] 83 (0, 0)), .row 1 5 1 (.slice o2 p0_1.length c3) p0_1.length (p0_1.map bV)] := ho
  refine st_seq (C56 [0]) (C56 [1]) (by kernel_rfl) ?_
  refine st_region 0 (opsOf (C56 [0])) [0, 1, 2, 3, 4] (by kernel_rfl) (by kernel_rfl) ?_
  refine st_pure tabOK hk [0, 1, 2] [3, 4] [0, 4] [(0, .pointer (some ⟨b1, 0, none⟩)), (4, .pointer (some ⟨b1, 0, none⟩))] (((some ⟨b1, 0, none⟩ : Option Addr).isSome = true) ∧ (((some ⟨b1, 0, none⟩ : Option Addr).isSome = true) ∧ True)) (by kernel_rfl) ⟨rfl, ⟨rfl, trivial⟩⟩ ?_
  clear hk; intro a hk
  refine st_load1 tabOK hk 81 (some ⟨b1, 0, none⟩) 5 (by kernel_rfl) (by kernel_rfl) (.pointer (some ⟨b1, 0, none⟩)) (ho.cell 0 rfl rfl) ?_
  clear hk; intro a hk
  refine st_pure tabOK hk [4] [] [0, 6] [(0, .pointer (some ⟨b1, 0, none⟩)), (6, .bool false)] (True) (by kernel_rfl) trivial ?_
  clear hk; intro a hk
  refine st_done ?_
  refine st_cond_false hk (C56 [1, 0]) (C56 [1, 1]) (.tmp 6) (by kernel_rfl) (by kernel_rfl) ?_
  refine st_seq (C56 [1, 1, 0]) (C56 [1, 1, 1]) (by kernel_rfl) ?_
  refine st_region 2 (opsOf (C56 [1, 1, 0])) [0, 1, 2, 3, 4, 5] (by kernel_rfl) (by kernel_rfl) ?_
  refine st_pure tabOK hk [0, 1, 2] [3, 4, 5] [0, 16] [(0, .pointer (some ⟨b1, 0, none⟩)), (16, .pointer (some ⟨b1, 0, none⟩))] (((some ⟨b1, 0, none⟩ : Option Addr).isSome = true) ∧ (((some ⟨b1, 0, none⟩ : Option Addr).isSome = true) ∧ True)) (by kernel_rfl) ⟨rfl, ⟨rfl, trivial⟩⟩ ?_
  clear hk; intro a hk
  refine st_load1 tabOK hk 81 (some ⟨b1, 0, none⟩) 17 (by kernel_rfl) (by kernel_rfl) (.pointer (some ⟨b1, 0, none⟩)) (ho.cell 0 rfl rfl) ?_
  clear hk; intro a hk
  refine st_pure tabOK hk [4] [5] [17, 18] [(17, .pointer (some ⟨b1, 0, none⟩)), (18, .pointer (some ⟨b1, 0, none⟩))] (True) (by kernel_rfl) trivial ?_
  clear hk; intro a hk
  refine st_yield hk 19 (.bool false) (ptrNeY tabOK 81 19 ⟨b1, 0, none⟩ (by kernel_rfl) (by kernel_rfl) (fun e he => by rw [show Tryd.prog.underlying 81 = some (.pointer 83) from by kernel_rfl] at he; cases he; kernel_rfl)) ?_
  clear hk; intro a hk
  refine st_done ?_
  refine st_cond_false hk (C56 [1, 1, 1, 0]) (C56 [1, 1, 1, 1]) (.tmp 19) (by kernel_rfl) (by kernel_rfl) ?_
  refine st_skip (by kernel_rfl) ?_
  refine st_endK hk [] #[] (by kernel_rfl) (by kernel_rfl) ?_
  obtain rfl := Option.some.inj H
  exact ⟨_, rfl, o2, c3, rfl, ho⟩


/-! (*strings.Builder).WriteString: function 42 -/
noncomputable def C42 (p : List Nat) : Code := Sub (bodyOf f42) p
def strings_Builder_WriteString_ps0t.f (p0_1 : List UInt8) (p1 : Str) : Option (Int × List UInt8) := (((strings_Builder_copyCheck_ps0t.f p0_1).bind fun t5 => (if t5.length + p1.length ≤ 4294967296 then some ((p1.length : Int), t5 ++ p1) else none)))
abbrev strings_Builder_WriteString_ps0t.post (b1 : Nat) (o2 : Option Addr) (p0_1 : List UInt8) (c3 : Nat) (w0 : World) (r : Int × List UInt8) (u : Value) (w : World) : Prop := ∃ (o14 : Option Addr), ∃ (c15 : Nat), u = .tuple #[I r.1, .nilIface] ∧ Ows (feet [.blk b1 (.cells #[.pointer (some ⟨b1, 0, none⟩), .slice o2 p0_1.length c3] 83 (0, 0)), .row 1 5 1 (.slice o2 p0_1.length c3) p0_1.length (p0_1.map bV)]) w0 w [.blk b1 (.cells #[.pointer (some ⟨b1, 0, none⟩), .slice o14 r.2.length c15] 83 (0, 0)), .row 1 5 1 (.slice o14 r.2.length c15) r.2.length (r.2.map bV)]
theorem strings_Builder_WriteString_ps0t.ok (p0_1 : List UInt8) (p1 : Str) (r : Int × List UInt8) (H : strings_Builder_WriteString_ps0t.f p0_1 p1 = some r) (w0 : World) (b1 : Nat) (o2 : Option Addr) (c3 : Nat) (hh : Has w0 [.blk b1 (.cells #[.pointer (some ⟨b1, 0, none⟩), .slice o2 p0_1.length c3] 83 (0, 0)), .row 1 5 1 (.slice o2 p0_1.length c3) p0_1.length (p0_1.map bV)]) : Calls Tryd.prog 42 ⟨[.pointer (some ⟨b1, 0, none⟩), S p1]⟩ w0 fun e w => ∃ u, e = .returned u ∧ strings_Builder_WriteString_ps0t.post b1 o2 p0_1 c3 w0 r u w := by
  unfold strings_Builder_WriteString_ps0t.f at H
  refine st_startL (N := 19) [.pointer (some ⟨b1, 0, none⟩), S p1] (C42 []) func42 (by kernel_rfl) (by kernel_rfl) (by kernel_rfl) ([.blk b1 (.cells #[.pointer (some ⟨b1, 0, none⟩), .slice o2 p0_1.length c3] 83 (0, 0)), .row 1 5 1 (.slice o2 p0_1.length c3) p0_1.length (p0_1.map bV)]) hh ?_
  intro a w hk ho
  replace ho : Ows (feet [.blk b1 (.cells #[.pointer (some ⟨b1, 0, none⟩), .slice o2 p0_1.length c3] 83 (0, 0)), .row 1 5 1 (.slice o2 p0_1.length c3) p0_1.length (p0_1.map bV)]) w0 w [.blk b1 (.cells #[.pointer (some ⟨b1, 0, none⟩), .slice o2 p0_1.length c3] 83 (0, 0)), .row 1 5 1 (.slice o2 p0_1.length c3) p0_1.length (p0_1.map bV)] := ho
  refine st_seq (C42 [0]) (C42 [1]) (by kernel_rfl) ?_
  refine st_region 0 (opsOf (C42 [0])) [0, 1] (by kernel_rfl) (by kernel_rfl) ?_
  refine st_pure tabOK hk [0, 1] [] [0, 1] [(0, .pointer (some ⟨b1, 0, none⟩)), (1, S p1)] (True) (by kernel_rfl) trivial ?_
  clear hk; intro a hk
  refine st_done ?_
  refine st_seq (C42 [1, 0]) (C42 [1, 1]) (by kernel_rfl) ?_
  refine st_region 1 (opsOf (C42 [1, 0])) [0, 1] (by kernel_rfl) (by kernel_rfl) ?_
  refine st_pure tabOK hk [0] [1] [0, 1, 6] [(0, .pointer (some ⟨b1, 0, none⟩)), (1, S p1), (6, .pointer (some ⟨b1, 0, none⟩))] (True) (by kernel_rfl) trivial ?_
  clear hk; intro a hk
  obtain ⟨t5, h6, H⟩ := Option.bind_eq_some_iff.1 H
  refine st_call hk 56 [.pointer (some ⟨b1, 0, none⟩)] (some 7) enters56 (by kernel_rfl) (strings_Builder_copyCheck_ps0t.ok  p0_1 t5 h6 w b1 o2 c3 (Ows.has (K := [.blk b1 (.cells #[.pointer (some ⟨b1, 0, none⟩), .slice o2 p0_1.length c3] 83 (0, 0)), .row 1 5 1 (.slice o2 p0_1.length c3) p0_1.length (p0_1.map bV)]) (L := []) ho)) ?_
  clear hk; rintro a u w ⟨o7, c8, rfl, ho'⟩ hk
  replace ho : Ows (feet [.blk b1 (.cells #[.pointer (some ⟨b1, 0, none⟩), .slice o2 p0_1.length c3] 83 (0, 0)), .row 1 5 1 (.slice o2 p0_1.length c3) p0_1.length (p0_1.map bV)]) w0 w [.blk b1 (.cells #[.pointer (some ⟨b1, 0, none⟩), .slice o7 t5.length c8] 83 (0, 0)), .row 1 5 1 (.slice o7 t5.length c8) t5.length (t5.map bV)] := Ows.callP (K := [.blk b1 (.cells #[.pointer (some ⟨b1, 0, none⟩), .slice o2 p0_1.length c3] 83 (0, 0)), .row 1 5 1 (.slice o2 p0_1.length c3) p0_1.length (p0_1.map bV)]) (L := []) ho ho' rfl; clear ho'
  refine st_done ?_
  refine st_seq (C42 [1, 1, 0]) (C42 [1, 1, 1]) (by kernel_rfl) ?_
  refine st_region 2 (opsOf (C42 [1, 1, 0])) [0, 1, 2, 3, 4, 5, 6, 7, 8, 9] (by kernel_rfl) (by kernel_rfl) ?_
  refine st_pure tabOK hk [0, 1, 2, 3] [4, 5, 6, 7, 8, 9] [1, 8, 11] [(1, S p1), (8, .pointer (some ⟨b1, 0, none⟩)), (11, .pointer (some ⟨b1, 1, none⟩))] (((some ⟨b1, 0, none⟩ : Option Addr).isSome = true) ∧ (((some ⟨b1, 0, none⟩ : Option Addr).isSome = true) ∧ True)) (by kernel_rfl) ⟨rfl, ⟨rfl, trivial⟩⟩ ?_
  clear hk; intro a hk
  refine st_load1 tabOK hk 60 (some ⟨b1, 1, none⟩) 12 (by kernel_rfl) (by kernel_rfl) (.slice o7 t5.length c8) (ho.cell 0 rfl rfl) ?_
  clear hk; intro a hk
  refine st_pure tabOK hk [5] [6, 7, 8, 9] [1, 8, 12, 13] [(1, S p1), (8, .pointer (some ⟨b1, 0, none⟩)), (12, .slice o7 t5.length c8), (13, S p1)] (True) (by kernel_rfl) trivial ?_
  clear hk; intro a hk
  have h10 : t5.length + p1.length ≤ 4294967296 := by
    by_cases h10 : t5.length + p1.length ≤ 4294967296
    · exact h10
    · rw [if_neg h10] at H; cases H
  rw [if_pos h10] at H
  refine st_appendS tabOK hk ho 1 60 9 5 14 (.int .u8 0) o7 t5.length c8 t5 p1 (by kernel_rfl) (by kernel_rfl) (by kernel_rfl) (by kernel_rfl) rfl h10 rfl (t5 ++ p1).length rfl ?_
  clear hk ho; intro a o11 c12 w h13 hk ho
  replace ho : Ows (feet [.blk b1 (.cells #[.pointer (some ⟨b1, 0, none⟩), .slice o2 p0_1.length c3] 83 (0, 0)), .row 1 5 1 (.slice o2 p0_1.length c3) p0_1.length (p0_1.map bV)]) w0 w [.blk b1 (.cells #[.pointer (some ⟨b1, 0, none⟩), .slice o7 t5.length c8] 83 (0, 0)), .row 1 5 1 (.slice o11 ((t5 ++ p1).length) c12) ((t5 ++ p1).length) ((t5 ++ p1).map bV)] := ho
  refine st_pure tabOK hk [7, 8] [9] [1, 14, 16] [(1, S p1), (14, .slice o11 ((t5 ++ p1).length) c12), (16, .pointer (some ⟨b1, 1, none⟩))] (((some ⟨b1, 0, none⟩ : Option Addr).isSome = true) ∧ (((some ⟨b1, 0, none⟩ : Option Addr).isSome = true) ∧ True)) (by kernel_rfl) ⟨rfl, ⟨rfl, trivial⟩⟩ ?_
  clear hk; intro a hk
  refine st_put1 hk ho 0 60 b1 1 (.slice o11 ((t5 ++ p1).length) c12) #[.pointer (some ⟨b1, 0, none⟩), .slice o7 t5.length c8] 83 [.blk b1 (.cells #[.pointer (some ⟨b1, 0, none⟩), .slice o11 ((t5 ++ p1).length) c12] 83 (0, 0)), .row 1 5 1 (.slice o11 ((t5 ++ p1).length) c12) ((t5 ++ p1).length) ((t5 ++ p1).map bV)] (by kernel_rfl) (by kernel_rfl) (by kernel_rfl) rfl (by kernel_rfl) (by kernel_rfl) rfl ?_
  clear ho; intro w ho
  refine st_done ?_
  refine st_seq (C42 [1, 1, 1, 0]) (C42 [1, 1, 1, 1]) (by kernel_rfl) ?_
  refine st_region 3 (opsOf (C42 [1, 1, 1, 0])) [0, 1, 2, 3] (by kernel_rfl) (by kernel_rfl) ?_
  refine st_pure tabOK hk [0, 1, 2, 3] [] [4, 5] [(4, I (p1.length : Int)), (5, .nilIface)] (True) (by kernel_rfl) trivial ?_
  clear hk; intro a hk
  refine st_done ?_
  refine st_retG hk (by kernel_rfl) [I (p1.length : Int), .nilIface] #[.tmp 4, .tmp 5] (by kernel_rfl) ⟨resT hk (by kernel_rfl), resT hk (by kernel_rfl), trivial⟩ ?_
  obtain rfl := Option.some.inj H
  exact ⟨_, rfl, o11, c12, rfl, ho⟩


/-! (*strings.Builder).String: function 43 -/
noncomputable def C43 (p : List Nat) : Code := Sub (bodyOf f43) p
def strings_Builder_String_ps0t.f (p0_1 : List UInt8) : Option (Str) := some p0_1
abbrev strings_Builder_String_ps0t.post (b1 : Nat) (o2 : Option Addr) (p0_1 : List UInt8) (c3 : Nat) (w0 : World) (r : Str) (u : Value) (w : World) : Prop := u = S r ∧ Ows (feet [.blk b1 (.cells #[.pointer (some ⟨b1, 0, none⟩), .slice o2 p0_1.length c3] 83 (0, 0)), .row 1 5 1 (.slice o2 p0_1.length c3) p0_1.length (p0_1.map bV)]) w0 w [.blk b1 (.cells #[.pointer (some ⟨b1, 0, none⟩), .slice o2 p0_1.length c3] 83 (0, 0))]
theorem strings_Builder_String_ps0t.ok (p0_1 : List UInt8) (r : Str) (H : strings_Builder_String_ps0t.f p0_1 = some r) (w0 : World) (b1 : Nat) (o2 : Option Addr) (c3 : Nat) (hh : Has w0 [.blk b1 (.cells #[.pointer (some ⟨b1, 0, none⟩), .slice o2 p0_1.length c3] 83 (0, 0)), .row 1 5 1 (.slice o2 p0_1.length c3) p0_1.length (p0_1.map bV)]) : Calls Tryd.prog 43 ⟨[.pointer (some ⟨b1, 0, none⟩)]⟩ w0 fun e w => ∃ u, e = .returned u ∧ strings_Builder_String_ps0t.post b1 o2 p0_1 c3 w0 r u w := by
  unfold strings_Builder_String_ps0t.f at H
  refine st_startL (N := 14) [.pointer (some ⟨b1, 0, none⟩)] (C43 []) func43 (by kernel_rfl) (by kernel_rfl) (by kernel_rfl) ([.blk b1 (.cells #[.pointer (some ⟨b1, 0, none⟩), .slice o2 p0_1.length c3] 83 (0, 0)), .row 1 5 1 (.slice o2 p0_1.length c3) p0_1.length (p0_1.map bV)]) hh ?_
  intro a w hk ho
  replace ho : Ows (feet [.blk b1 (.cells #[.pointer (some ⟨b1, 0, none⟩), .slice o2 p0_1.length c3] 83 (0, 0)), .row 1 5 1 (.slice o2 p0_1.length c3) p0_1.length (p0_1.map bV)]) w0 w [.blk b1 (.cells #[.pointer (some ⟨b1, 0, none⟩), .slice o2 p0_1.length c3] 83 (0, 0)), .row 1 5 1 (.slice o2 p0_1.length c3) p0_1.length (p0_1.map bV)] := ho
  refine st_seq (C43 [0]) (C43 [1]) (by kernel_rfl) ?_
  refine st_region 0 (opsOf (C43 [0])) [0] (by kernel_rfl) (by kernel_rfl) ?_
  refine st_pure tabOK hk [0] [] [0] [(0, .pointer (some ⟨b1, 0, none⟩))] (True) (by kernel_rfl) trivial ?_
  clear hk; intro a hk
  refine st_done ?_
  refine st_seq (C43 [1, 0]) (C43 [1, 1]) (by kernel_rfl) ?_
  refine cut_code (fun a w => Kn 14 a [(2, S p0_1)] ∧ Ows (feet [.blk b1 (.cells #[.pointer (some ⟨b1, 0, none⟩), .slice o2 p0_1.length c3] 83 (0, 0)), .row 1 5 1 (.slice o2 p0_1.length c3) p0_1.length (p0_1.map bV)]) w0 w [.blk b1 (.cells #[.pointer (some ⟨b1, 0, none⟩), .slice o2 p0_1.length c3] 83 (0, 0))]) ?_ ?_
  · intro J
    refine st_draw ho 1 (opsOf (C43 [1, 0])) [0, 1, 2, 3, 4, 5, 6, 7, 8, 9, 10, 11] (by kernel_rfl) (by kernel_rfl) (by kernel_rfl) ?_
    clear ho; intro w ho
    refine any_pure tabOK hk [0, 1, 2, 5, 6, 7] [0, 1, 2, 3, 4, 5, 6, 7, 8, 9, 10, 11] [3, 4, 8, 9, 10, 11] [5, 10] [(5, .pointer (some ⟨b1, 1, none⟩)), (10, .pointer (some ⟨b1, 1, none⟩))] (((some ⟨b1, 0, none⟩ : Option Addr).isSome = true) ∧ (((some ⟨b1, 0, none⟩ : Option Addr).isSome = true) ∧ (((some ⟨b1, 0, none⟩ : Option Addr).isSome = true) ∧ (((some ⟨b1, 0, none⟩ : Option Addr).isSome = true) ∧ True)))) (by kernel_rfl) (by kernel_rfl) (by kernel_rfl) ⟨rfl, ⟨rfl, ⟨rfl, ⟨rfl, trivial⟩⟩⟩⟩ ?_
    clear hk; intro a hk
    refine any_all [3, 8] (by kernel_rfl) (by decide) ⟨?_, ?_, trivial⟩
    ·
      change wpOps _ _ _ [3] _ _
      refine st_load1 tabOK hk 60 (some ⟨b1, 1, none⟩) 6 (by kernel_rfl) (by kernel_rfl) (.slice o2 p0_1.length c3) (ho.cell 0 rfl rfl) ?_
      clear hk; intro a hk
      refine any_go [4, 8, 9, 10, 11] (by kernel_rfl) ?_
      refine any_yield hk 4 [4, 8, 9, 10, 11] [8, 9, 10, 11] 7 (.pointer o2) (by kernel_rfl) (usdY 60 7 o2 p0_1.length c3 (by kernel_rfl) (ho.nz 1 rfl)) (by kernel_rfl) ?_
      clear hk; intro a hk
      refine any_all [8] (by kernel_rfl) (by decide) ⟨?_, trivial⟩
      change wpOps _ _ _ [8] _ _
      refine st_load1 tabOK hk 60 (some ⟨b1, 1, none⟩) 11 (by kernel_rfl) (by kernel_rfl) (.slice o2 p0_1.length c3) (ho.cell 0 rfl rfl) ?_
      clear hk; intro a hk
      refine any_go [9, 10, 11] (by kernel_rfl) ?_
      refine any_pure tabOK hk [9] [9, 10, 11] [10, 11] [7, 12] [(7, .pointer o2), (12, I (p0_1.length : Int))] (True) (by kernel_rfl) (by kernel_rfl) (by kernel_rfl) trivial ?_
      clear hk; intro a hk
      refine any_all [10] (by kernel_rfl) (by decide) ⟨?_, trivial⟩
      change wpOps _ _ _ [10] _ _
      refine st_ustr tabOK hk ho 1 106 3 5 13 o2 p0_1.length c3 p0_1 [.blk b1 (.cells #[.pointer (some ⟨b1, 0, none⟩), .slice o2 p0_1.length c3] 83 (0, 0))] (by kernel_rfl) (by kernel_rfl) (by kernel_rfl) rfl (by first | rfl | simp) rfl ?_
      clear hk ho; intro a w hk ho
      refine any_go [11] (by kernel_rfl) ?_
      refine any_pure tabOK hk [11] [11] [] [2] [(2, S p0_1)] (True) (by kernel_rfl) (by kernel_rfl) (by kernel_rfl) trivial ?_
      clear hk; intro a hk
      refine any_end ?_
      exact J a w ⟨by exact hk.to [2] _ (by kernel_rfl), by exact ho⟩
    ·
      change wpOps _ _ _ [8] _ _
      refine st_load1 tabOK hk 60 (some ⟨b1, 1, none⟩) 11 (by kernel_rfl) (by kernel_rfl) (.slice o2 p0_1.length c3) (ho.cell 0 rfl rfl) ?_
      clear hk; intro a hk
      refine any_go [3, 4, 9, 10, 11] (by kernel_rfl) ?_
      refine any_pure tabOK hk [9] [3, 4, 9, 10, 11] [3, 4, 10, 11] [5, 12] [(5, .pointer (some ⟨b1, 1, none⟩)), (12, I (p0_1.length : Int))] (True) (by kernel_rfl) (by kernel_rfl) (by kernel_rfl) trivial ?_
      clear hk; intro a hk
      refine any_all [3] (by kernel_rfl) (by decide) ⟨?_, trivial⟩
      change wpOps _ _ _ [3] _ _
      refine st_load1 tabOK hk 60 (some ⟨b1, 1, none⟩) 6 (by kernel_rfl) (by kernel_rfl) (.slice o2 p0_1.length c3) (ho.cell 0 rfl rfl) ?_
      clear hk; intro a hk
      refine any_go [4, 10, 11] (by kernel_rfl) ?_
      refine any_yield hk 4 [4, 10, 11] [10, 11] 7 (.pointer o2) (by kernel_rfl) (usdY 60 7 o2 p0_1.length c3 (by kernel_rfl) (ho.nz 1 rfl)) (by kernel_rfl) ?_
      clear hk; intro a hk
      refine any_all [10] (by kernel_rfl) (by decide) ⟨?_, trivial⟩
      change wpOps _ _ _ [10] _ _
      refine st_ustr tabOK hk ho 1 106 3 5 13 o2 p0_1.length c3 p0_1 [.blk b1 (.cells #[.pointer (some ⟨b1, 0, none⟩), .slice o2 p0_1.length c3] 83 (0, 0))] (by kernel_rfl) (by kernel_rfl) (by kernel_rfl) rfl (by first | rfl | simp) rfl ?_
      clear hk ho; intro a w hk ho
      refine any_go [11] (by kernel_rfl) ?_
      refine any_pure tabOK hk [11] [11] [] [2] [(2, S p0_1)] (True) (by kernel_rfl) (by kernel_rfl) (by kernel_rfl) trivial ?_
      clear hk; intro a hk
      refine any_end ?_
      exact J a w ⟨by exact hk.to [2] _ (by kernel_rfl), by exact ho⟩
  · rintro a w ⟨hk, ho⟩
    refine st_retG hk (by kernel_rfl) [S p0_1] #[.tmp 2] (by kernel_rfl) ⟨resT hk (by kernel_rfl), trivial⟩ ?_
    obtain rfl := Option.some.inj H
    exact ⟨_, rfl, rfl, ho⟩


/-! strings.Join: function 28 -/
noncomputable def C28 (p : List Nat) : Code := Sub (bodyOf f28) p
def strings_Join.l0 : Nat → List Str → Str → Int → Int → Option (Int)
  | 0, _, _, _, _ => none
  | k + 1, p0, p1, v18, v19 => (if v19 < (p0.length : Int) then (if (0 : Int) ≤ v19 then (((if ((get p0 v19).length : Int) > w64 ((9223372036854775807 : Int) - v18) then none else some ())).bind fun m23 => strings_Join.l0 k p0 p1 (w64 (v18 + ((get p0 v19).length : Int))) (w64 (v19 + 1))) else none) else some v18)
def strings_Join.l1 : Nat → List Str → Str → List UInt8 → Int → Option (List UInt8)
  | 0, _, _, _, _ => none
  | k + 1, p0, p1, v45, v48 => (if v48 < ((p0.drop (Int.toNat (1 : Int))).length : Int) then (if (0 : Int) ≤ v48 then ((strings_Builder_WriteString_ps0t.f v45 p1).bind fun t54 => ((strings_Builder_WriteString_ps0t.f t54.2 (get (p0.drop (Int.toNat (1 : Int))) v48)).bind fun t59 => strings_Join.l1 k p0 p1 t59.2 (w64 (v48 + 1)))) else none) else some v45)
def strings_Join.f (K : Nat) (p0 : List Str) (p1 : Str) : Option (Str) := (if ((p0.length : Int) == 0) = true then some ([]) else (if ((p0.length : Int) == 1) = true then (if 0 < (p0.length : Int) then some (get p0 0) else none) else (((if (p1.length : Int) > 0 then (if (w64 ((p0.length : Int) - 1) : Int) ≠ 0 then (if (p1.length : Int) ≥ w64 ((9223372036854775807 : Int).tdiv (w64 ((p0.length : Int) - 1))) then none else some (w64 ((0 : Int) + (w64 ((p1.length : Int) * (w64 ((p0.length : Int) - 1))))))) else none) else some 0)).bind fun m10 => ((strings_Join.l0 K p0 p1 m10 0).bind fun s30 => ((strings_Builder_Grow_pnsn.f s30).bind fun t32 => (if 0 < (p0.length : Int) then ((strings_Builder_WriteString_ps0t.f t32 (get p0 0)).bind fun t38 => (if 1 ≤ (p0.length : Int) then ((strings_Join.l1 K p0 p1 t38.2 0).bind fun s67 => ((strings_Builder_String_ps0t.f s67).bind fun t70 => some t70)) else none)) else none))))))
abbrev strings_Join.post (w0 : World) (r : Str) (u : Value) (w : World) : Prop := u = S r ∧ Ows [] w0 w []
theorem strings_Join.l0_ok : ∀ (k : Nat) (p0 : List Str) (p1 : Str) (v18 : Int) (v19 : Int) (out : Int), strings_Join.l0 k p0 p1 v18 v19 = some out → ∀ (o1 : Option Addr) (c2 : Nat) (w0 : World) (Q : Exit → Act → World → Prop) (rest : List It) (a : Act) (w : World), (hr0 : Rd w0 o1 (p0.map S)) → (hl0 : p0.length ≤ c2) → Kn 75 a [(0, .slice o1 p0.length c2), (1, S p1), (5, I v18), (39, .slice o1 p0.length c2), (40, I (p0.length : Int)), (41, I v19)] → Ows [] w0 w [] → (∀ (s : Int) (a : Act) (w : World), out = s → Kn 75 a [(0, .slice o1 p0.length c2), (1, S p1), (5, I s)] → Ows [] w0 w [] → G Tryd.prog Q rest a w) → G Tryd.prog Q (.code (C28 [1, 1, 1, 1, 0, 1, 0, 0]) :: .inl (C28 [1, 1, 1, 1, 0, 1, 0, 0]) :: .endb 1 :: rest) a w := by
  intro k
  induction k with
  | zero => intro p0 p1 v18 v19 out H; simp [strings_Join.l0] at H
  | succ k ih =>
    intro p0 p1 v18 v19 out H o1 c2 w0 Q rest a w hr0 hl0 hk ho J
    simp only [strings_Join.l0] at H
    refine st_seq (C28 [1, 1, 1, 1, 0, 1, 0, 0, 0]) (C28 [1, 1, 1, 1, 0, 1, 0, 0, 1]) (by kernel_rfl) ?_
    refine st_region 12 (opsOf (C28 [1, 1, 1, 1, 0, 1, 0, 0, 0])) [0] (by kernel_rfl) (by kernel_rfl) ?_
    refine st_pure tabOK hk [0] [] [0, 1, 5, 39, 40, 41, 42] [(0, .slice o1 p0.length c2), (1, S p1), (5, I v18), (39, .slice o1 p0.length c2), (40, I (p0.length : Int)), (41, I v19), (42, .bool (decide (v19 < (p0.length : Int))))] (True) (by kernel_rfl) trivial ?_
    clear hk; intro a hk
    refine st_done ?_
    refine st_seq (C28 [1, 1, 1, 1, 0, 1, 0, 0, 1, 0]) (C28 [1, 1, 1, 1, 0, 1, 0, 0, 1, 1]) (by kernel_rfl) ?_
    refine st_cond hk (C28 [1, 1, 1, 1, 0, 1, 0, 0, 1, 0, 0]) (C28 [1, 1, 1, 1, 0, 1, 0, 0, 1, 0, 1]) (.tmp 42) (decide (v19 < (p0.length : Int))) (by kernel_rfl) (by kernel_rfl) (fun h20 => ?_) (fun h20 => ?_)
    ·
      have h21 : v19 < (p0.length : Int) := of_decide_eq_true h20
      rw [if_pos h21] at H
      refine st_skip (by kernel_rfl) ?_
      refine st_seq (C28 [1, 1, 1, 1, 0, 1, 0, 0, 1, 1, 0]) (C28 [1, 1, 1, 1, 0, 1, 0, 0, 1, 1, 1]) (by kernel_rfl) ?_
      refine st_block 2 (C28 [1, 1, 1, 1, 0, 1, 0, 0, 1, 1, 0, 0]) (by kernel_rfl) ?_
      refine st_seq (C28 [1, 1, 1, 1, 0, 1, 0, 0, 1, 1, 0, 0, 0]) (C28 [1, 1, 1, 1, 0, 1, 0, 0, 1, 1, 0, 0, 1]) (by kernel_rfl) ?_
      refine st_region 13 (opsOf (C28 [1, 1, 1, 1, 0, 1, 0, 0, 1, 1, 0, 0, 0])) [0, 1, 2] (by kernel_rfl) (by kernel_rfl) ?_
      have h22 : (0 : Int) ≤ v19 := by
        by_cases h22 : (0 : Int) ≤ v19
        · exact h22
        · rw [if_neg h22] at H; cases H
      rw [if_pos h22] at H
      refine st_pure tabOK hk [0] [1, 2] [0, 1, 5, 39, 40, 41, 43] [(0, .slice o1 p0.length c2), (1, S p1), (5, I v18), (39, .slice o1 p0.length c2), (40, I (p0.length : Int)), (41, I v19), (43, .pointer (o1.map (·.add (v19.toNat * 1))))] ((o1.isSome = true ∧ (0 : Int) ≤ v19 ∧ v19 < (p0.length : Int)) ∧ True) (by kernel_rfl) ⟨⟨(Rd.some1 (hr0.old ho (fun _ _ => by simp)) h22 h21), h22, h21⟩, trivial⟩ ?_
      clear hk; intro a hk
      refine st_load1 tabOK hk 9 (o1.map (·.add (v19.toNat * 1))) 44 (by kernel_rfl) (by kernel_rfl) (S (get p0 v19)) ((hr0.old ho (fun _ _ => by simp)).elem1 h22 h21) ?_
      clear hk; intro a hk
      refine st_pure tabOK hk [2] [] [0, 1, 5, 7, 39, 40, 41] [(0, .slice o1 p0.length c2), (1, S p1), (5, I v18), (7, S (get p0 v19)), (39, .slice o1 p0.length c2), (40, I (p0.length : Int)), (41, I v19)] (True) (by kernel_rfl) trivial ?_
      clear hk; intro a hk
      refine st_done ?_
      refine st_seq (C28 [1, 1, 1, 1, 0, 1, 0, 0, 1, 1, 0, 0, 1, 0]) (C28 [1, 1, 1, 1, 0, 1, 0, 0, 1, 1, 0, 0, 1, 1]) (by kernel_rfl) ?_
      refine st_seq (C28 [1, 1, 1, 1, 0, 1, 0, 0, 1, 1, 0, 0, 1, 0, 0]) (C28 [1, 1, 1, 1, 0, 1, 0, 0, 1, 1, 0, 0, 1, 0, 1]) (by kernel_rfl) ?_
      refine st_region 14 (opsOf (C28 [1, 1, 1, 1, 0, 1, 0, 0, 1, 1, 0, 0, 1, 0, 0])) [0, 1, 2, 3, 4] (by kernel_rfl) (by kernel_rfl) ?_
      refine st_pure tabOK hk [0, 1, 2, 3, 4] [] [0, 1, 5, 7, 39, 40, 41, 49] [(0, .slice o1 p0.length c2), (1, S p1), (5, I v18), (7, S (get p0 v19)), (39, .slice o1 p0.length c2), (40, I (p0.length : Int)), (41, I v19), (49, .bool (decide (((get p0 v19).length : Int) > w64 ((9223372036854775807 : Int) - v18))))] (True) (by kernel_rfl) trivial ?_
      clear hk; intro a hk
      refine st_done ?_
      obtain ⟨m23, HX, H⟩ := Option.bind_eq_some_iff.1 H
      refine cut_code (fun a w => Kn 75 a [(0, .slice o1 p0.length c2), (1, S p1), (5, I v18), (7, S (get p0 v19)), (39, .slice o1 p0.length c2), (40, I (p0.length : Int)), (41, I v19)] ∧ Ows [] w0 w []) ?_ ?_
      · intro J; clear H; have H := HX; clear HX
        refine st_cond hk (C28 [1, 1, 1, 1, 0, 1, 0, 0, 1, 1, 0, 0, 1, 0, 1, 0]) (C28 [1, 1, 1, 1, 0, 1, 0, 0, 1, 1, 0, 0, 1, 0, 1, 1]) (.tmp 49) (decide (((get p0 v19).length : Int) > w64 ((9223372036854775807 : Int) - v18))) (by kernel_rfl) (by kernel_rfl) (fun h24 => ?_) (fun h24 => ?_)
        ·
          have h25 : ((get p0 v19).length : Int) > w64 ((9223372036854775807 : Int) - v18) := of_decide_eq_true h24
          rw [if_pos h25] at H
          exact nomatch H
        ·
          have h26 : ¬ (((get p0 v19).length : Int) > w64 ((9223372036854775807 : Int) - v18)) := of_decide_eq_false h24
          rw [if_neg h26] at H
          refine st_skip (by kernel_rfl) ?_
          obtain rfl := Option.some.inj H
          exact J a w ⟨hk.to [0, 1, 5, 7, 39, 40, 41] _ (by kernel_rfl), ho⟩
      · clear HX; rintro a w ⟨hk, ho⟩
        refine st_region 16 (opsOf (C28 [1, 1, 1, 1, 0, 1, 0, 0, 1, 1, 0, 0, 1, 1])) [0, 1, 2, 3, 4] (by kernel_rfl) (by kernel_rfl) ?_
        refine st_pure tabOK hk [0, 1, 2, 3, 4] [] [0, 1, 5, 39, 40, 41] [(0, .slice o1 p0.length c2), (1, S p1), (5, I (w64 (v18 + ((get p0 v19).length : Int)))), (39, .slice o1 p0.length c2), (40, I (p0.length : Int)), (41, I v19)] (True) (by kernel_rfl) trivial ?_
        clear hk; intro a hk
        refine st_done ?_
        refine st_endb 2 ?_
        refine st_region 17 (opsOf (C28 [1, 1, 1, 1, 0, 1, 0, 0, 1, 1, 1])) [0, 1] (by kernel_rfl) (by kernel_rfl) ?_
        refine st_pure tabOK hk [0, 1] [] [0, 1, 5, 39, 40, 41] [(0, .slice o1 p0.length c2), (1, S p1), (5, I (w64 (v18 + ((get p0 v19).length : Int)))), (39, .slice o1 p0.length c2), (40, I (p0.length : Int)), (41, I (w64 (v19 + 1)))] (True) (by kernel_rfl) trivial ?_
        clear hk; intro a hk
        refine st_done ?_
        refine st_inl ?_
        exact ih p0 p1 (w64 (v18 + ((get p0 v19).length : Int))) (w64 (v19 + 1)) out H o1 c2 w0 Q rest a w hr0 hl0 (hk.to [0, 1, 5, 39, 40, 41] _ (by kernel_rfl)) ho J
    ·
      have h27 : ¬ (v19 < (p0.length : Int)) := of_decide_eq_false h20
      rw [if_neg h27] at H
      refine st_exit 1 _ (by kernel_rfl) rfl ?_
      obtain rfl := Option.some.inj H
      exact J v18  a w rfl (hk.to [0, 1, 5] _ (by kernel_rfl)) ho

theorem strings_Join.l1_ok : ∀ (k : Nat) (p0 : List Str) (p1 : Str) (v45 : List UInt8) (v48 : Int) (out : List UInt8), strings_Join.l1 k p0 p1 v45 v48 = some out → ∀ (o1 : Option Addr) (c2 : Nat) (b31 : Nat) (o46 : Option Addr) (c47 : Nat) (w0 : World) (Q : Exit → Act → World → Prop) (rest : List It) (a : Act) (w : World), (hr0 : Rd w0 o1 (p0.map S)) → (hl0 : p0.length ≤ c2) → Kn 75 a [(1, S p1), (8, .pointer (some ⟨b31, 0, none⟩)), (63, .slice (shA o1 c2 (Int.toNat (1 : Int)) 1) ((p0.drop (Int.toNat (1 : Int))).length) (c2 - Int.toNat (1 : Int))), (64, I ((p0.drop (Int.toNat (1 : Int))).length : Int)), (65, I v48)] → Ows [] w0 w [.blk b31 (.cells #[.pointer (some ⟨b31, 0, none⟩), .slice o46 v45.length c47] 83 (0, 0)), .row 1 5 1 (.slice o46 v45.length c47) v45.length (v45.map bV)] → (∀ (s : List UInt8) (o49 : Option Addr) (c50 : Nat) (a : Act) (w : World), out = s → Kn 75 a [(8, .pointer (some ⟨b31, 0, none⟩))] → Ows [] w0 w [.blk b31 (.cells #[.pointer (some ⟨b31, 0, none⟩), .slice o49 s.length c50] 83 (0, 0)), .row 1 5 1 (.slice o49 s.length c50) s.length (s.map bV)] → G Tryd.prog Q rest a w) → G Tryd.prog Q (.code (C28 [1, 1, 1, 1, 1, 1, 1, 1, 0, 1, 0, 0]) :: .inl (C28 [1, 1, 1, 1, 1, 1, 1, 1, 0, 1, 0, 0]) :: .endb 3 :: rest) a w := by
  intro k
  induction k with
  | zero => intro p0 p1 v45 v48 out H; simp [strings_Join.l1] at H
  | succ k ih =>
    intro p0 p1 v45 v48 out H o1 c2 b31 o46 c47 w0 Q rest a w hr0 hl0 hk ho J
    simp only [strings_Join.l1] at H
    refine st_seq (C28 [1, 1, 1, 1, 1, 1, 1, 1, 0, 1, 0, 0, 0]) (C28 [1, 1, 1, 1, 1, 1, 1, 1, 0, 1, 0, 0, 1]) (by kernel_rfl) ?_
    refine st_region 22 (opsOf (C28 [1, 1, 1, 1, 1, 1, 1, 1, 0, 1, 0, 0, 0])) [0] (by kernel_rfl) (by kernel_rfl) ?_
    refine st_pure tabOK hk [0] [] [1, 8, 63, 64, 65, 66] [(1, S p1), (8, .pointer (some ⟨b31, 0, none⟩)), (63, .slice (shA o1 c2 (Int.toNat (1 : Int)) 1) ((p0.drop (Int.toNat (1 : Int))).length) (c2 - Int.toNat (1 : Int))), (64, I ((p0.drop (Int.toNat (1 : Int))).length : Int)), (65, I v48), (66, .bool (decide (v48 < ((p0.drop (Int.toNat (1 : Int))).length : Int))))] (True) (by kernel_rfl) trivial ?_
    clear hk; intro a hk
    refine st_done ?_
    refine st_seq (C28 [1, 1, 1, 1, 1, 1, 1, 1, 0, 1, 0, 0, 1, 0]) (C28 [1, 1, 1, 1, 1, 1, 1, 1, 0, 1, 0, 0, 1, 1]) (by kernel_rfl) ?_
    refine st_cond hk (C28 [1, 1, 1, 1, 1, 1, 1, 1, 0, 1, 0, 0, 1, 0, 0]) (C28 [1, 1, 1, 1, 1, 1, 1, 1, 0, 1, 0, 0, 1, 0, 1]) (.tmp 66) (decide (v48 < ((p0.drop (Int.toNat (1 : Int))).length : Int))) (by kernel_rfl) (by kernel_rfl) (fun h51 => ?_) (fun h51 => ?_)
    ·
      have h52 : v48 < ((p0.drop (Int.toNat (1 : Int))).length : Int) := of_decide_eq_true h51
      rw [if_pos h52] at H
      refine st_skip (by kernel_rfl) ?_
      refine st_seq (C28 [1, 1, 1, 1, 1, 1, 1, 1, 0, 1, 0, 0, 1, 1, 0]) (C28 [1, 1, 1, 1, 1, 1, 1, 1, 0, 1, 0, 0, 1, 1, 1]) (by kernel_rfl) ?_
      refine st_block 4 (C28 [1, 1, 1, 1, 1, 1, 1, 1, 0, 1, 0, 0, 1, 1, 0, 0]) (by kernel_rfl) ?_
      refine st_seq (C28 [1, 1, 1, 1, 1, 1, 1, 1, 0, 1, 0, 0, 1, 1, 0, 0, 0]) (C28 [1, 1, 1, 1, 1, 1, 1, 1, 0, 1, 0, 0, 1, 1, 0, 0, 1]) (by kernel_rfl) ?_
      refine st_region 23 (opsOf (C28 [1, 1, 1, 1, 1, 1, 1, 1, 0, 1, 0, 0, 1, 1, 0, 0, 0])) [0, 1, 2] (by kernel_rfl) (by kernel_rfl) ?_
      have h53 : (0 : Int) ≤ v48 := by
        by_cases h53 : (0 : Int) ≤ v48
        · exact h53
        · rw [if_neg h53] at H; cases H
      rw [if_pos h53] at H
      refine st_pure tabOK hk [0] [1, 2] [1, 8, 63, 64, 65, 67] [(1, S p1), (8, .pointer (some ⟨b31, 0, none⟩)), (63, .slice (shA o1 c2 (Int.toNat (1 : Int)) 1) ((p0.drop (Int.toNat (1 : Int))).length) (c2 - Int.toNat (1 : Int))), (64, I ((p0.drop (Int.toNat (1 : Int))).length : Int)), (65, I v48), (67, .pointer ((shA o1 c2 (Int.toNat (1 : Int)) 1).map (·.add (v48.toNat * 1))))] (((shA o1 c2 (Int.toNat (1 : Int)) 1).isSome = true ∧ (0 : Int) ≤ v48 ∧ v48 < ((p0.drop (Int.toNat (1 : Int))).length : Int)) ∧ True) (by kernel_rfl) ⟨⟨(Rd.some1 (Rd.drop1 (hr0.old ho (fun _ _ => by simp)) hl0 (Int.toNat (1 : Int))) h53 h52), h53, h52⟩, trivial⟩ ?_
      clear hk; intro a hk
      refine st_load1 tabOK hk 9 ((shA o1 c2 (Int.toNat (1 : Int)) 1).map (·.add (v48.toNat * 1))) 68 (by kernel_rfl) (by kernel_rfl) (S (get (p0.drop (Int.toNat (1 : Int))) v48)) ((Rd.drop1 (hr0.old ho (fun _ _ => by simp)) hl0 (Int.toNat (1 : Int))).elem1 h53 h52) ?_
      clear hk; intro a hk
      refine st_pure tabOK hk [2] [] [1, 8, 10, 63, 64, 65] [(1, S p1), (8, .pointer (some ⟨b31, 0, none⟩)), (10, S (get (p0.drop (Int.toNat (1 : Int))) v48)), (63, .slice (shA o1 c2 (Int.toNat (1 : Int)) 1) ((p0.drop (Int.toNat (1 : Int))).length) (c2 - Int.toNat (1 : Int))), (64, I ((p0.drop (Int.toNat (1 : Int))).length : Int)), (65, I v48)] (True) (by kernel_rfl) trivial ?_
      clear hk; intro a hk
      refine st_done ?_
      refine st_seq (C28 [1, 1, 1, 1, 1, 1, 1, 1, 0, 1, 0, 0, 1, 1, 0, 0, 1, 0]) (C28 [1, 1, 1, 1, 1, 1, 1, 1, 0, 1, 0, 0, 1, 1, 0, 0, 1, 1]) (by kernel_rfl) ?_
      refine st_region 24 (opsOf (C28 [1, 1, 1, 1, 1, 1, 1, 1, 0, 1, 0, 0, 1, 1, 0, 0, 1, 0])) [0, 1] (by kernel_rfl) (by kernel_rfl) ?_
      refine st_pure tabOK hk [0] [1] [1, 8, 10, 63, 64, 65, 69] [(1, S p1), (8, .pointer (some ⟨b31, 0, none⟩)), (10, S (get (p0.drop (Int.toNat (1 : Int))) v48)), (63, .slice (shA o1 c2 (Int.toNat (1 : Int)) 1) ((p0.drop (Int.toNat (1 : Int))).length) (c2 - Int.toNat (1 : Int))), (64, I ((p0.drop (Int.toNat (1 : Int))).length : Int)), (65, I v48), (69, S p1)] (True) (by kernel_rfl) trivial ?_
      clear hk; intro a hk
      obtain ⟨t54, h55, H⟩ := Option.bind_eq_some_iff.1 H
      refine st_call hk 42 [.pointer (some ⟨b31, 0, none⟩), S p1] (some 70) enters42 (by kernel_rfl) (strings_Builder_WriteString_ps0t.ok  v45 p1 t54 h55 w b31 o46 c47 (Ows.has (K := [.blk b31 (.cells #[.pointer (some ⟨b31, 0, none⟩), .slice o46 v45.length c47] 83 (0, 0)), .row 1 5 1 (.slice o46 v45.length c47) v45.length (v45.map bV)]) (L := []) ho)) ?_
      clear hk; rintro a u w ⟨o56, c57, rfl, ho'⟩ hk
      replace ho : Ows [] w0 w [.blk b31 (.cells #[.pointer (some ⟨b31, 0, none⟩), .slice o56 t54.2.length c57] 83 (0, 0)), .row 1 5 1 (.slice o56 t54.2.length c57) t54.2.length (t54.2.map bV)] := Ows.callP (K := [.blk b31 (.cells #[.pointer (some ⟨b31, 0, none⟩), .slice o46 v45.length c47] 83 (0, 0)), .row 1 5 1 (.slice o46 v45.length c47) v45.length (v45.map bV)]) (L := []) ho ho' rfl; clear ho'
      refine st_done ?_
      refine st_region 25 (opsOf (C28 [1, 1, 1, 1, 1, 1, 1, 1, 0, 1, 0, 0, 1, 1, 0, 0, 1, 1])) [0, 1] (by kernel_rfl) (by kernel_rfl) ?_
      refine st_pure tabOK hk [0] [1] [1, 8, 63, 64, 65, 71] [(1, S p1), (8, .pointer (some ⟨b31, 0, none⟩)), (63, .slice (shA o1 c2 (Int.toNat (1 : Int)) 1) ((p0.drop (Int.toNat (1 : Int))).length) (c2 - Int.toNat (1 : Int))), (64, I ((p0.drop (Int.toNat (1 : Int))).length : Int)), (65, I v48), (71, S (get (p0.drop (Int.toNat (1 : Int))) v48))] (True) (by kernel_rfl) trivial ?_
      clear hk; intro a hk
      obtain ⟨t59, h60, H⟩ := Option.bind_eq_some_iff.1 H
      refine st_call hk 42 [.pointer (some ⟨b31, 0, none⟩), S (get (p0.drop (Int.toNat (1 : Int))) v48)] (some 72) enters42 (by kernel_rfl) (strings_Builder_WriteString_ps0t.ok  t54.2 (get (p0.drop (Int.toNat (1 : Int))) v48) t59 h60 w b31 o56 c57 (Ows.has (K := [.blk b31 (.cells #[.pointer (some ⟨b31, 0, none⟩), .slice o56 t54.2.length c57] 83 (0, 0)), .row 1 5 1 (.slice o56 t54.2.length c57) t54.2.length (t54.2.map bV)]) (L := []) ho)) ?_
      clear hk; rintro a u w ⟨o61, c62, rfl, ho'⟩ hk
      replace ho : Ows [] w0 w [.blk b31 (.cells #[.pointer (some ⟨b31, 0, none⟩), .slice o61 t59.2.length c62] 83 (0, 0)), .row 1 5 1 (.slice o61 t59.2.length c62) t59.2.length (t59.2.map bV)] := Ows.callP (K := [.blk b31 (.cells #[.pointer (some ⟨b31, 0, none⟩), .slice o56 t54.2.length c57] 83 (0, 0)), .row 1 5 1 (.slice o56 t54.2.length c57) t54.2.length (t54.2.map bV)]) (L := []) ho ho' rfl; clear ho'
      refine st_done ?_
      refine st_endb 4 ?_
      refine st_region 26 (opsOf (C28 [1, 1, 1, 1, 1, 1, 1, 1, 0, 1, 0, 0, 1, 1, 1])) [0, 1] (by kernel_rfl) (by kernel_rfl) ?_
      refine st_pure tabOK hk [0, 1] [] [1, 8, 63, 64, 65] [(1, S p1), (8, .pointer (some ⟨b31, 0, none⟩)), (63, .slice (shA o1 c2 (Int.toNat (1 : Int)) 1) ((p0.drop (Int.toNat (1 : Int))).length) (c2 - Int.toNat (1 : Int))), (64, I ((p0.drop (Int.toNat (1 : Int))).length : Int)), (65, I (w64 (v48 + 1)))] (True) (by kernel_rfl) trivial ?_
      clear hk; intro a hk
      refine st_done ?_
      refine st_inl ?_
      exact ih p0 p1 t59.2 (w64 (v48 + 1)) out H o1 c2 b31 o61 c62 w0 Q rest a w hr0 hl0 (hk.to [1, 8, 63, 64, 65] _ (by kernel_rfl)) ho J
    ·
      have h64 : ¬ (v48 < ((p0.drop (Int.toNat (1 : Int))).length : Int)) := of_decide_eq_false h51
      rw [if_neg h64] at H
      refine st_exit 3 _ (by kernel_rfl) rfl ?_
      obtain rfl := Option.some.inj H
      exact J v45 o46 c47 a w rfl (hk.to [8] _ (by kernel_rfl)) ho

theorem strings_Join.ok (K : Nat) (p0 : List Str) (p1 : Str) (r : Str) (H : strings_Join.f K p0 p1 = some r) (w0 : World) (o1 : Option Addr) (c2 : Nat) (hr0 : Rd w0 o1 (p0.map S)) (hl0 : p0.length ≤ c2) : Calls Tryd.prog 28 ⟨[.slice o1 p0.length c2, S p1]⟩ w0 fun e w => ∃ u, e = .returned u ∧ strings_Join.post w0 r u w := by
  unfold strings_Join.f at H
  refine st_start (N := 75) [.slice o1 p0.length c2, S p1] (C28 []) func28 (by kernel_rfl) (by kernel_rfl) (by kernel_rfl) ?_
  intro a w hk ho
  refine st_seq (C28 [0]) (C28 [1]) (by kernel_rfl) ?_
  refine st_region 0 (opsOf (C28 [0])) [0] (by kernel_rfl) (by kernel_rfl) ?_
  refine st_pure tabOK hk [0] [] [0, 1] [(0, .slice o1 p0.length c2), (1, S p1)] (True) (by kernel_rfl) trivial ?_
  clear hk; intro a hk
  refine st_done ?_
  refine st_seq (C28 [1, 0]) (C28 [1, 1]) (by kernel_rfl) ?_
  refine st_seq (C28 [1, 0, 0]) (C28 [1, 0, 1]) (by kernel_rfl) ?_
  refine st_region 1 (opsOf (C28 [1, 0, 0])) [0, 1] (by kernel_rfl) (by kernel_rfl) ?_
  refine st_pure tabOK hk [0, 1] [] [0, 1, 12] [(0, .slice o1 p0.length c2), (1, S p1), (12, I (p0.length : Int))] (True) (by kernel_rfl) trivial ?_
  clear hk; intro a hk
  refine st_done ?_
  refine st_block 0 (C28 [1, 0, 1, 0]) (by kernel_rfl) ?_
  refine st_seq (C28 [1, 0, 1, 0, 0]) (C28 [1, 0, 1, 0, 1]) (by kernel_rfl) ?_
  refine st_region 2 (opsOf (C28 [1, 0, 1, 0, 0])) [0, 1] (by kernel_rfl) (by kernel_rfl) ?_
  refine st_pure tabOK hk [0, 1] [] [0, 1, 12, 13] [(0, .slice o1 p0.length c2), (1, S p1), (12, I (p0.length : Int)), (13, .bool ((p0.length : Int) == 0))] (True) (by kernel_rfl) trivial ?_
  clear hk; intro a hk
  refine st_done ?_
  refine st_cond hk (C28 [1, 0, 1, 0, 1, 0]) (C28 [1, 0, 1, 0, 1, 1]) (.tmp 13) ((p0.length : Int) == 0) (by kernel_rfl) (by kernel_rfl) (fun h3 => ?_) (fun h3 => ?_)
  ·
    have h4 : ((p0.length : Int) == 0) = true := h3
    rw [if_pos h4] at H
    refine st_seq (C28 [1, 0, 1, 0, 1, 0, 0]) (C28 [1, 0, 1, 0, 1, 0, 1]) (by kernel_rfl) ?_
    refine st_region 3 (opsOf (C28 [1, 0, 1, 0, 1, 0, 0])) [0] (by kernel_rfl) (by kernel_rfl) ?_
    refine st_pure tabOK hk [0] [] [4] [(4, S ([]))] (True) (by kernel_rfl) trivial ?_
    clear hk; intro a hk
    refine st_done ?_
    refine st_retG hk (by kernel_rfl) [S ([])] #[.tmp 4] (by kernel_rfl) ⟨resT hk (by kernel_rfl), trivial⟩ ?_
    obtain rfl := Option.some.inj H
    exact ⟨_, rfl, rfl, ho⟩
  ·
    have h5 : ¬ (((p0.length : Int) == 0) = true) := ne_true_of_eq_false h3
    rw [if_neg h5] at H
    refine st_seq (C28 [1, 0, 1, 0, 1, 1, 0]) (C28 [1, 0, 1, 0, 1, 1, 1]) (by kernel_rfl) ?_
    refine st_region 4 (opsOf (C28 [1, 0, 1, 0, 1, 1, 0])) [0, 1] (by kernel_rfl) (by kernel_rfl) ?_
    refine st_pure tabOK hk [0, 1] [] [0, 1, 15] [(0, .slice o1 p0.length c2), (1, S p1), (15, .bool ((p0.length : Int) == 1))] (True) (by kernel_rfl) trivial ?_
    clear hk; intro a hk
    refine st_done ?_
    refine st_cond hk (C28 [1, 0, 1, 0, 1, 1, 1, 0]) (C28 [1, 0, 1, 0, 1, 1, 1, 1]) (.tmp 15) ((p0.length : Int) == 1) (by kernel_rfl) (by kernel_rfl) (fun h6 => ?_) (fun h6 => ?_)
    ·
      have h7 : ((p0.length : Int) == 1) = true := h6
      rw [if_pos h7] at H
      refine st_seq (C28 [1, 0, 1, 0, 1, 1, 1, 0, 0]) (C28 [1, 0, 1, 0, 1, 1, 1, 0, 1]) (by kernel_rfl) ?_
      refine st_region 5 (opsOf (C28 [1, 0, 1, 0, 1, 1, 1, 0, 0])) [0, 1, 2, 3] (by kernel_rfl) (by kernel_rfl) ?_
      have h8 : 0 < (p0.length : Int) := by
        by_cases h8 : 0 < (p0.length : Int)
        · exact h8
        · rw [if_neg h8] at H; cases H
      rw [if_pos h8] at H
      refine st_pure tabOK hk [0, 1] [2, 3] [18] [(18, .pointer (o1.map (·.add ((0 : Int).toNat * 1))))] ((o1.isSome = true ∧ (0 : Int) ≤ 0 ∧ 0 < (p0.length : Int)) ∧ True) (by kernel_rfl) ⟨⟨(Rd.some1 (hr0.old ho (fun _ _ => by simp)) (by decide) h8), (by decide), h8⟩, trivial⟩ ?_
      clear hk; intro a hk
      refine st_load1 tabOK hk 9 (o1.map (·.add ((0 : Int).toNat * 1))) 19 (by kernel_rfl) (by kernel_rfl) (S (get p0 0)) ((hr0.old ho (fun _ _ => by simp)).elem1 (by decide) h8) ?_
      clear hk; intro a hk
      refine st_pure tabOK hk [3] [] [4] [(4, S (get p0 0))] (True) (by kernel_rfl) trivial ?_
      clear hk; intro a hk
      refine st_done ?_
      refine st_retG hk (by kernel_rfl) [S (get p0 0)] #[.tmp 4] (by kernel_rfl) ⟨resT hk (by kernel_rfl), trivial⟩ ?_
      obtain rfl := Option.some.inj H
      exact ⟨_, rfl, rfl, ho⟩
    ·
      have h9 : ¬ (((p0.length : Int) == 1) = true) := ne_true_of_eq_false h6
      rw [if_neg h9] at H
      refine st_skip (by kernel_rfl) ?_
      refine st_endb 0 ?_
      refine st_seq (C28 [1, 1, 0]) (C28 [1, 1, 1]) (by kernel_rfl) ?_
      refine st_region 6 (opsOf (C28 [1, 1, 0])) [0] (by kernel_rfl) (by kernel_rfl) ?_
      refine st_pure tabOK hk [0] [] [0, 1, 5] [(0, .slice o1 p0.length c2), (1, S p1), (5, I 0)] (True) (by kernel_rfl) trivial ?_
      clear hk; intro a hk
      refine st_done ?_
      refine st_seq (C28 [1, 1, 1, 0]) (C28 [1, 1, 1, 1]) (by kernel_rfl) ?_
      refine st_seq (C28 [1, 1, 1, 0, 0]) (C28 [1, 1, 1, 0, 1]) (by kernel_rfl) ?_
      refine st_region 7 (opsOf (C28 [1, 1, 1, 0, 0])) [0, 1, 2] (by kernel_rfl) (by kernel_rfl) ?_
      refine st_pure tabOK hk [0, 1, 2] [] [0, 1, 5, 22] [(0, .slice o1 p0.length c2), (1, S p1), (5, I 0), (22, .bool (decide ((p1.length : Int) > 0)))] (True) (by kernel_rfl) trivial ?_
      clear hk; intro a hk
      refine st_done ?_
      obtain ⟨m10, HX, H⟩ := Option.bind_eq_some_iff.1 H
      refine cut_code (fun a w => Kn 75 a [(0, .slice o1 p0.length c2), (1, S p1), (5, I m10)] ∧ Ows [] w0 w []) ?_ ?_
      · intro J; clear H; have H := HX; clear HX
        refine st_cond hk (C28 [1, 1, 1, 0, 1, 0]) (C28 [1, 1, 1, 0, 1, 1]) (.tmp 22) (decide ((p1.length : Int) > 0)) (by kernel_rfl) (by kernel_rfl) (fun h11 => ?_) (fun h11 => ?_)
        ·
          have h12 : (p1.length : Int) > 0 := of_decide_eq_true h11
          rw [if_pos h12] at H
          refine st_seq (C28 [1, 1, 1, 0, 1, 0, 0]) (C28 [1, 1, 1, 0, 1, 0, 1]) (by kernel_rfl) ?_
          refine st_seq (C28 [1, 1, 1, 0, 1, 0, 0, 0]) (C28 [1, 1, 1, 0, 1, 0, 0, 1]) (by kernel_rfl) ?_
          refine st_region 8 (opsOf (C28 [1, 1, 1, 0, 1, 0, 0, 0])) [0, 1, 2, 3, 4, 5, 6] (by kernel_rfl) (by kernel_rfl) ?_
          have h13 : (w64 ((p0.length : Int) - 1) : Int) ≠ 0 := by
            by_cases h13 : (w64 ((p0.length : Int) - 1) : Int) ≠ 0
            · exact h13
            · rw [if_neg h13] at H; cases H
          rw [if_pos h13] at H
          refine st_pure tabOK hk [0, 1, 2, 3, 4, 5, 6] [] [0, 1, 5, 29] [(0, .slice o1 p0.length c2), (1, S p1), (5, I 0), (29, .bool (decide ((p1.length : Int) ≥ w64 ((9223372036854775807 : Int).tdiv (w64 ((p0.length : Int) - 1))))))] ((w64 ((p0.length : Int) - 1) : Int) ≠ 0 ∧ True) (by kernel_rfl) ⟨h13, trivial⟩ ?_
          clear hk; intro a hk
          refine st_done ?_
          refine st_cond hk (C28 [1, 1, 1, 0, 1, 0, 0, 1, 0]) (C28 [1, 1, 1, 0, 1, 0, 0, 1, 1]) (.tmp 29) (decide ((p1.length : Int) ≥ w64 ((9223372036854775807 : Int).tdiv (w64 ((p0.length : Int) - 1))))) (by kernel_rfl) (by kernel_rfl) (fun h14 => ?_) (fun h14 => ?_)
          ·
            have h15 : (p1.length : Int) ≥ w64 ((9223372036854775807 : Int).tdiv (w64 ((p0.length : Int) - 1))) := of_decide_eq_true h14
            rw [if_pos h15] at H
            exact nomatch H
          ·
            have h16 : ¬ ((p1.length : Int) ≥ w64 ((9223372036854775807 : Int).tdiv (w64 ((p0.length : Int) - 1)))) := of_decide_eq_false h14
            rw [if_neg h16] at H
            refine st_skip (by kernel_rfl) ?_
            refine st_region 10 (opsOf (C28 [1, 1, 1, 0, 1, 0, 1])) [0, 1, 2, 3, 4, 5, 6, 7, 8] (by kernel_rfl) (by kernel_rfl) ?_
            refine st_pure tabOK hk [0, 1, 2, 3, 4, 5, 6, 7, 8] [] [0, 1, 5] [(0, .slice o1 p0.length c2), (1, S p1), (5, I (w64 ((0 : Int) + (w64 ((p1.length : Int) * (w64 ((p0.length : Int) - 1)))))))] (True) (by kernel_rfl) trivial ?_
            clear hk; intro a hk
            refine st_done ?_
            obtain rfl := Option.some.inj H
            exact J a w ⟨hk.to [0, 1, 5] _ (by kernel_rfl), ho⟩
        ·
          have h17 : ¬ ((p1.length : Int) > 0) := of_decide_eq_false h11
          rw [if_neg h17] at H
          refine st_skip (by kernel_rfl) ?_
          obtain rfl := Option.some.inj H
          exact J a w ⟨hk.to [0, 1, 5] _ (by kernel_rfl), ho⟩
      · clear HX; rintro a w ⟨hk, ho⟩
        refine st_seq (C28 [1, 1, 1, 1, 0]) (C28 [1, 1, 1, 1, 1]) (by kernel_rfl) ?_
        refine st_seq (C28 [1, 1, 1, 1, 0, 0]) (C28 [1, 1, 1, 1, 0, 1]) (by kernel_rfl) ?_
        refine st_region 11 (opsOf (C28 [1, 1, 1, 1, 0, 0])) [0, 1, 2] (by kernel_rfl) (by kernel_rfl) ?_
        refine st_pure tabOK hk [0, 1, 2] [] [0, 1, 5, 39, 40, 41] [(0, .slice o1 p0.length c2), (1, S p1), (5, I m10), (39, .slice o1 p0.length c2), (40, I (p0.length : Int)), (41, I 0)] (True) (by kernel_rfl) trivial ?_
        clear hk; intro a hk
        refine st_done ?_
        refine st_block 1 (C28 [1, 1, 1, 1, 0, 1, 0]) (by kernel_rfl) ?_
        obtain ⟨m28, h29, H⟩ := Option.bind_eq_some_iff.1 H
        refine st_loop (C28 [1, 1, 1, 1, 0, 1, 0, 0]) (by kernel_rfl) ?_
        refine strings_Join.l0_ok K p0 p1 m10 0 m28 h29 o1 c2 w0 _ _ a w hr0 hl0 (hk.to [0, 1, 5, 39, 40, 41] _ (by kernel_rfl)) ho ?_
        · intro s30  a w e hk ho; have e := e.symm; subst e
          refine st_seq (C28 [1, 1, 1, 1, 1, 0]) (C28 [1, 1, 1, 1, 1, 1]) (by kernel_rfl) ?_
          refine st_region 18 (opsOf (C28 [1, 1, 1, 1, 1, 0])) [0] (by kernel_rfl) (by kernel_rfl) ?_
          refine st_new tabOK hk ho #[.pointer none, .slice none 0 0] 83 8 (by kernel_rfl) ?_
          clear hk ho; intro a b31 w hk ho
          refine st_done ?_
          refine st_seq (C28 [1, 1, 1, 1, 1, 1, 0]) (C28 [1, 1, 1, 1, 1, 1, 1]) (by kernel_rfl) ?_
          refine st_region 19 (opsOf (C28 [1, 1, 1, 1, 1, 1, 0])) [0, 1] (by kernel_rfl) (by kernel_rfl) ?_
          refine st_pure tabOK hk [0] [1] [0, 1, 8, 56] [(0, .slice o1 p0.length c2), (1, S p1), (8, .pointer (some ⟨b31, 0, none⟩)), (56, I s30)] (True) (by kernel_rfl) trivial ?_
          clear hk; intro a hk
          obtain ⟨t32, h33, H⟩ := Option.bind_eq_some_iff.1 H
          refine st_call hk 41 [.pointer (some ⟨b31, 0, none⟩), I s30] (some 57) enters41 (by kernel_rfl) (strings_Builder_Grow_pnsn.ok  s30 t32 h33 w b31 (Ows.has (K := [.blk b31 (.cells #[.pointer none, .slice none 0 0] 83 (0, 0))]) (L := []) ho)) ?_
          clear hk; rintro a u w ⟨o34, c35, rfl, ho'⟩ hk
          replace ho : Ows [] w0 w [.blk b31 (.cells #[.pointer (some ⟨b31, 0, none⟩), .slice o34 t32.length c35] 83 (0, 0)), .row 1 5 1 (.slice o34 t32.length c35) t32.length (t32.map bV)] := Ows.callP (K := [.blk b31 (.cells #[.pointer none, .slice none 0 0] 83 (0, 0))]) (L := []) ho ho' rfl; clear ho'
          refine st_done ?_
          refine st_seq (C28 [1, 1, 1, 1, 1, 1, 1, 0]) (C28 [1, 1, 1, 1, 1, 1, 1, 1]) (by kernel_rfl) ?_
          refine st_region 20 (opsOf (C28 [1, 1, 1, 1, 1, 1, 1, 0])) [0, 1, 2, 3] (by kernel_rfl) (by kernel_rfl) ?_
          have h37 : 0 < (p0.length : Int) := by
            by_cases h37 : 0 < (p0.length : Int)
            · exact h37
            · rw [if_neg h37] at H; cases H
          rw [if_pos h37] at H
          refine st_pure tabOK hk [0, 1] [2, 3] [0, 1, 8, 59] [(0, .slice o1 p0.length c2), (1, S p1), (8, .pointer (some ⟨b31, 0, none⟩)), (59, .pointer (o1.map (·.add ((0 : Int).toNat * 1))))] ((o1.isSome = true ∧ (0 : Int) ≤ 0 ∧ 0 < (p0.length : Int)) ∧ True) (by kernel_rfl) ⟨⟨(Rd.some1 (hr0.old ho (fun _ _ => by simp)) (by decide) h37), (by decide), h37⟩, trivial⟩ ?_
          clear hk; intro a hk
          refine st_load1 tabOK hk 9 (o1.map (·.add ((0 : Int).toNat * 1))) 60 (by kernel_rfl) (by kernel_rfl) (S (get p0 0)) ((hr0.old ho (fun _ _ => by simp)).elem1 (by decide) h37) ?_
          clear hk; intro a hk
          obtain ⟨t38, h39, H⟩ := Option.bind_eq_some_iff.1 H
          refine st_call hk 42 [.pointer (some ⟨b31, 0, none⟩), S (get p0 0)] (some 61) enters42 (by kernel_rfl) (strings_Builder_WriteString_ps0t.ok  t32 (get p0 0) t38 h39 w b31 o34 c35 (Ows.has (K := [.blk b31 (.cells #[.pointer (some ⟨b31, 0, none⟩), .slice o34 t32.length c35] 83 (0, 0)), .row 1 5 1 (.slice o34 t32.length c35) t32.length (t32.map bV)]) (L := []) ho)) ?_
          clear hk; rintro a u w ⟨o40, c41, rfl, ho'⟩ hk
          replace ho : Ows [] w0 w [.blk b31 (.cells #[.pointer (some ⟨b31, 0, none⟩), .slice o40 t38.2.length c41] 83 (0, 0)), .row 1 5 1 (.slice o40 t38.2.length c41) t38.2.length (t38.2.map bV)] := Ows.callP (K := [.blk b31 (.cells #[.pointer (some ⟨b31, 0, none⟩), .slice o34 t32.length c35] 83 (0, 0)), .row 1 5 1 (.slice o34 t32.length c35) t32.length (t32.map bV)]) (L := []) ho ho' rfl; clear ho'
          refine st_done ?_
          refine st_seq (C28 [1, 1, 1, 1, 1, 1, 1, 1, 0]) (C28 [1, 1, 1, 1, 1, 1, 1, 1, 1]) (by kernel_rfl) ?_
          refine st_seq (C28 [1, 1, 1, 1, 1, 1, 1, 1, 0, 0]) (C28 [1, 1, 1, 1, 1, 1, 1, 1, 0, 1]) (by kernel_rfl) ?_
          refine st_region 21 (opsOf (C28 [1, 1, 1, 1, 1, 1, 1, 1, 0, 0])) [0, 1, 2, 3] (by kernel_rfl) (by kernel_rfl) ?_
          have h43 : 1 ≤ (p0.length : Int) := by
            by_cases h43 : 1 ≤ (p0.length : Int)
            · exact h43
            · rw [if_neg h43] at H; cases H
          rw [if_pos h43] at H
          refine st_pure tabOK hk [0, 1] [2, 3] [1, 8, 63] [(1, S p1), (8, .pointer (some ⟨b31, 0, none⟩)), (63, .slice (shA o1 c2 (Int.toNat (1 : Int)) 1) (p0.length - Int.toNat (1 : Int)) (c2 - Int.toNat (1 : Int)))] (((0 : Int) ≤ 1 ∧ 1 ≤ (p0.length : Int)) ∧ True) (by kernel_rfl) ⟨⟨(by decide), h43⟩, trivial⟩ ?_
          clear hk; intro a hk
          have h44 : p0.length - Int.toNat (1 : Int) = (p0.drop (Int.toNat (1 : Int))).length := by have g_1 := h43; (try simp only [List.length_take, List.length_drop, Int.toNat_natCast]); try omega
          replace hk : Kn 75 a [(1, S p1), (8, .pointer (some ⟨b31, 0, none⟩)), (63, .slice (shA o1 c2 (Int.toNat (1 : Int)) 1) ((p0.drop (Int.toNat (1 : Int))).length) (c2 - Int.toNat (1 : Int)))] := by rw [← h44]; exact hk.to [1, 8, 63] _ (by kernel_rfl)
          refine st_pure tabOK hk [2, 3] [] [1, 8, 63, 64, 65] [(1, S p1), (8, .pointer (some ⟨b31, 0, none⟩)), (63, .slice (shA o1 c2 (Int.toNat (1 : Int)) 1) ((p0.drop (Int.toNat (1 : Int))).length) (c2 - Int.toNat (1 : Int))), (64, I ((p0.drop (Int.toNat (1 : Int))).length : Int)), (65, I 0)] (True) (by kernel_rfl) trivial ?_
          clear hk; intro a hk
          refine st_done ?_
          refine st_block 3 (C28 [1, 1, 1, 1, 1, 1, 1, 1, 0, 1, 0]) (by kernel_rfl) ?_
          obtain ⟨m65, h66, H⟩ := Option.bind_eq_some_iff.1 H
          refine st_loop (C28 [1, 1, 1, 1, 1, 1, 1, 1, 0, 1, 0, 0]) (by kernel_rfl) ?_
          refine strings_Join.l1_ok K p0 p1 t38.2 0 m65 h66 o1 c2 b31 o40 c41 w0 _ _ a w hr0 hl0 (hk.to [1, 8, 63, 64, 65] _ (by kernel_rfl)) ho ?_
          · intro s67 o68 c69 a w e hk ho; have e := e.symm; subst e
            refine st_seq (C28 [1, 1, 1, 1, 1, 1, 1, 1, 1, 0]) (C28 [1, 1, 1, 1, 1, 1, 1, 1, 1, 1]) (by kernel_rfl) ?_
            refine st_region 27 (opsOf (C28 [1, 1, 1, 1, 1, 1, 1, 1, 1, 0])) [0, 1] (by kernel_rfl) (by kernel_rfl) ?_
            obtain ⟨t70, h71, H⟩ := Option.bind_eq_some_iff.1 H
            refine st_call hk 43 [.pointer (some ⟨b31, 0, none⟩)] (some 74) enters43 (by kernel_rfl) (strings_Builder_String_ps0t.ok  s67 t70 h71 w b31 o68 c69 (Ows.has (K := [.blk b31 (.cells #[.pointer (some ⟨b31, 0, none⟩), .slice o68 s67.length c69] 83 (0, 0)), .row 1 5 1 (.slice o68 s67.length c69) s67.length (s67.map bV)]) (L := []) ho)) ?_
            clear hk; rintro a u w ⟨rfl, ho'⟩ hk
            replace ho : Ows [] w0 w [.blk b31 (.cells #[.pointer (some ⟨b31, 0, none⟩), .slice o68 s67.length c69] 83 (0, 0))] := Ows.callP (K := [.blk b31 (.cells #[.pointer (some ⟨b31, 0, none⟩), .slice o68 s67.length c69] 83 (0, 0)), .row 1 5 1 (.slice o68 s67.length c69) s67.length (s67.map bV)]) (L := []) ho ho' rfl; clear ho'
            refine st_pure tabOK hk [1] [] [4] [(4, S t70)] (True) (by kernel_rfl) trivial ?_
            clear hk; intro a hk
            refine st_done ?_
            replace ho : Ows [] w0 w [] := ho.erase 0
            refine st_retG hk (by kernel_rfl) [S t70] #[.tmp 4] (by kernel_rfl) ⟨resT hk (by kernel_rfl), trivial⟩ ?_
            obtain rfl := Option.some.inj H
            exact ⟨_, rfl, rfl, ho⟩


/-! scullery/head.Get: function 18 -/
noncomputable def C18 (p : List Nat) : Code := Sub (bodyOf f18) p
def head_Get.f (K : Nat) (p0 : List (Str × Str)) (p1 : Str) : Option (Str × Bool) := (((head_All.f p0 p1).bind fun t3 => ((strings_Join.f K t3 ([44, 32])).bind fun t8 => some (t8, decide ((t3.length : Int) > 0)))))
abbrev head_Get.post (w0 : World) (r : Str × Bool) (u : Value) (w : World) : Prop := u = .tuple #[S r.1, .bool r.2] ∧ Ows [] w0 w []
theorem head_Get.ok (K : Nat) (p0 : List (Str × Str)) (p1 : Str) (r : Str × Bool) (H : head_Get.f K p0 p1 = some r) (w0 : World) (o1 : Option Addr) (c2 : Nat) (hr0 : Rd w0 o1 (p0.flatMap encT31)) (hl0 : p0.length ≤ c2) : Calls Tryd.prog 18 ⟨[.slice o1 p0.length c2, S p1]⟩ w0 fun e w => ∃ u, e = .returned u ∧ head_Get.post w0 r u w := by
  unfold head_Get.f at H
  refine st_start (N := 15) [.slice o1 p0.length c2, S p1] (C18 []) func18 (by kernel_rfl) (by kernel_rfl) (by kernel_rfl) ?_
  intro a w hk ho
  refine st_seq (C18 [0]) (C18 [1]) (by kernel_rfl) ?_
  refine st_region 0 (opsOf (C18 [0])) [0, 1] (by kernel_rfl) (by kernel_rfl) ?_
  refine st_pure tabOK hk [0, 1] [] [0, 1] [(0, .slice o1 p0.length c2), (1, S p1)] (True) (by kernel_rfl) trivial ?_
  clear hk; intro a hk
  refine st_done ?_
  refine st_seq (C18 [1, 0]) (C18 [1, 1]) (by kernel_rfl) ?_
  refine st_region 1 (opsOf (C18 [1, 0])) [0, 1, 2, 3] (by kernel_rfl) (by kernel_rfl) ?_
  refine st_pure tabOK hk [0, 1] [2, 3] [7, 8] [(7, .slice o1 p0.length c2), (8, S p1)] (True) (by kernel_rfl) trivial ?_
  clear hk; intro a hk
  obtain ⟨t3, h4, H⟩ := Option.bind_eq_some_iff.1 H
  refine st_call hk 27 [.slice o1 p0.length c2, S p1] (some 9) enters27 (by kernel_rfl) (head_All.ok  p0 p1 t3 h4 w o1 c2 (hr0.old ho (fun _ _ => by simp)) hl0) ?_
  clear hk; rintro a u w ⟨o5, c6, rfl, ho'⟩ hk
  replace ho : Ows [] w0 w [.row 2 9 1 (.slice o5 t3.length c6) t3.length (t3.map S)] := ho.call ho'; clear ho'
  refine st_pure tabOK hk [3] [] [6] [(6, .slice o5 t3.length c6)] (True) (by kernel_rfl) trivial ?_
  clear hk; intro a hk
  refine st_done ?_
  refine st_seq (C18 [1, 1, 0]) (C18 [1, 1, 1]) (by kernel_rfl) ?_
  refine st_region 2 (opsOf (C18 [1, 1, 0])) [0, 1, 2, 3, 4, 5, 6] (by kernel_rfl) (by kernel_rfl) ?_
  refine st_pure tabOK hk [0] [1, 2, 3, 4, 5, 6] [6, 10] [(6, .slice o5 t3.length c6), (10, .slice o5 t3.length c6)] (True) (by kernel_rfl) trivial ?_
  clear hk; intro a hk
  obtain ⟨t8, h9, H⟩ := Option.bind_eq_some_iff.1 H
  refine st_call hk 28 [.slice o5 t3.length c6, S ([44, 32])] (some 11) enters28 (by kernel_rfl) (strings_Join.ok K  t3 ([44, 32]) t8 h9 w o5 c6 (ho.rd 0 rfl) (ho.le 0 rfl)) ?_
  clear hk; rintro a u w ⟨rfl, ho'⟩ hk
  replace ho : Ows [] w0 w [.row 2 9 1 (.slice o5 t3.length c6) t3.length (t3.map S)] := ho.call ho'; clear ho'
  refine st_pure tabOK hk [2, 3, 4, 5, 6] [] [4, 5] [(4, S t8), (5, .bool (decide ((t3.length : Int) > 0)))] (True) (by kernel_rfl) trivial ?_
  clear hk; intro a hk
  refine st_done ?_
  replace ho : Ows [] w0 w [] := ho.erase 0
  refine st_retG hk (by kernel_rfl) [S t8, .bool (decide ((t3.length : Int) > 0))] #[.tmp 4, .tmp 5] (by kernel_rfl) ⟨resT hk (by kernel_rfl), resT hk (by kernel_rfl), trivial⟩ ?_
  obtain rfl := Option.some.inj H
  exact ⟨_, rfl, rfl, ho⟩


/-! scullery/etag.Like: function 11 -/
noncomputable def C11 (p : List Nat) : Code := Sub (bodyOf f11) p
def etag_Like.f (p0_0 : Bool) (p0_1 : Str) (p1_0 : Bool) (p1_1 : Str) (p2 : Bool) : Option (Bool) := ((((if (!p2) = true then some (false, false) else some (p1_0, p0_0))).bind fun m3 => some (((m3.2 == m3.1) && ((p0_1 == p1_1) && true)) && (!m3.2))))
abbrev etag_Like.post (w0 : World) (r : Bool) (u : Value) (w : World) : Prop := u = .bool r ∧ Ows [] w0 w []
theorem etag_Like.ok (p0_0 : Bool) (p0_1 : Str) (p1_0 : Bool) (p1_1 : Str) (p2 : Bool) (r : Bool) (H : etag_Like.f p0_0 p0_1 p1_0 p1_1 p2 = some r) (w0 : World)  : Calls Tryd.prog 11 ⟨[.agg #[.bool p0_0, S p0_1], .agg #[.bool p1_0, S p1_1], .bool p2]⟩ w0 fun e w => ∃ u, e = .returned u ∧ etag_Like.post w0 r u w := by
  unfold etag_Like.f at H
  refine st_start (N := 19) [.agg #[.bool p0_0, S p0_1], .agg #[.bool p1_0, S p1_1], .bool p2] (C11 []) func11 (by kernel_rfl) (by kernel_rfl) (by kernel_rfl) ?_
  intro a w hk ho
  refine st_seq (C11 [0]) (C11 [1]) (by kernel_rfl) ?_
  refine st_region 0 (opsOf (C11 [0])) [0, 1, 2] (by kernel_rfl) (by kernel_rfl) ?_
  refine st_new tabOK hk ho #[.bool p0_0, S p0_1] 23 3 (by kernel_rfl) ?_
  clear hk ho; intro a b1 w hk ho
  refine st_new tabOK hk ho #[.bool p1_0, S p1_1] 23 4 (by kernel_rfl) ?_
  clear hk ho; intro a b2 w hk ho
  refine st_pure tabOK hk [2] [] [2, 3, 4] [(2, .bool p2), (3, .pointer (some ⟨b1, 0, none⟩)), (4, .pointer (some ⟨b2, 0, none⟩))] (True) (by kernel_rfl) trivial ?_
  clear hk; intro a hk
  refine st_done ?_
  refine st_seq (C11 [1, 0]) (C11 [1, 1]) (by kernel_rfl) ?_
  refine st_seq (C11 [1, 0, 0]) (C11 [1, 0, 1]) (by kernel_rfl) ?_
  refine st_region 1 (opsOf (C11 [1, 0, 0])) [0, 1] (by kernel_rfl) (by kernel_rfl) ?_
  refine st_pure tabOK hk [0, 1] [] [3, 4, 8] [(3, .pointer (some ⟨b1, 0, none⟩)), (4, .pointer (some ⟨b2, 0, none⟩)), (8, .bool (!p2))] (True) (by kernel_rfl) trivial ?_
  clear hk; intro a hk
  refine st_done ?_
  obtain ⟨m3, HX, H⟩ := Option.bind_eq_some_iff.1 H
  refine cut_code (fun a w => Kn 19 a [(3, .pointer (some ⟨b1, 0, none⟩)), (4, .pointer (some ⟨b2, 0, none⟩))] ∧ Ows [] w0 w [.blk b2 (.cells #[.bool m3.1, S p1_1] 23 (0, 0)), .blk b1 (.cells #[.bool m3.2, S p0_1] 23 (0, 0))]) ?_ ?_
  · intro J; clear H; have H := HX; clear HX
    refine st_cond hk (C11 [1, 0, 1, 0]) (C11 [1, 0, 1, 1]) (.tmp 8) (!p2) (by kernel_rfl) (by kernel_rfl) (fun h4 => ?_) (fun h4 => ?_)
    ·
      have h5 : (!p2) = true := h4
      rw [if_pos h5] at H
      refine st_region 2 (opsOf (C11 [1, 0, 1, 0])) [0, 1, 2, 3] (by kernel_rfl) (by kernel_rfl) ?_
      refine st_pure tabOK hk [0] [1, 2, 3] [3, 4, 9] [(3, .pointer (some ⟨b1, 0, none⟩)), (4, .pointer (some ⟨b2, 0, none⟩)), (9, .pointer (some ⟨b1, 0, none⟩))] (((some ⟨b1, 0, none⟩ : Option Addr).isSome = true) ∧ True) (by kernel_rfl) ⟨rfl, trivial⟩ ?_
      clear hk; intro a hk
      refine st_put1 hk ho 1 4 b1 0 (.bool false) #[.bool p0_0, S p0_1] 23 [.blk b2 (.cells #[.bool p1_0, S p1_1] 23 (0, 0)), .blk b1 (.cells #[.bool false, S p0_1] 23 (0, 0))] (by kernel_rfl) (by kernel_rfl) (by kernel_rfl) rfl (by kernel_rfl) (by kernel_rfl) rfl ?_
      clear ho; intro w ho
      refine st_pure tabOK hk [2] [3] [3, 4, 10] [(3, .pointer (some ⟨b1, 0, none⟩)), (4, .pointer (some ⟨b2, 0, none⟩)), (10, .pointer (some ⟨b2, 0, none⟩))] (((some ⟨b2, 0, none⟩ : Option Addr).isSome = true) ∧ True) (by kernel_rfl) ⟨rfl, trivial⟩ ?_
      clear hk; intro a hk
      refine st_put1 hk ho 0 4 b2 0 (.bool false) #[.bool p1_0, S p1_1] 23 [.blk b2 (.cells #[.bool false, S p1_1] 23 (0, 0)), .blk b1 (.cells #[.bool false, S p0_1] 23 (0, 0))] (by kernel_rfl) (by kernel_rfl) (by kernel_rfl) rfl (by kernel_rfl) (by kernel_rfl) rfl ?_
      clear ho; intro w ho
      refine st_done ?_
      obtain rfl := Option.some.inj H
      exact J a w ⟨hk.to [3, 4] _ (by kernel_rfl), ho⟩
    ·
      have h6 : ¬ ((!p2) = true) := ne_true_of_eq_false h4
      rw [if_neg h6] at H
      refine st_skip (by kernel_rfl) ?_
      obtain rfl := Option.some.inj H
      exact J a w ⟨hk.to [3, 4] _ (by kernel_rfl), ho⟩
  · clear HX; rintro a w ⟨hk, ho⟩
    refine st_seq (C11 [1, 1, 0]) (C11 [1, 1, 1]) (by kernel_rfl) ?_
    refine st_region 3 (opsOf (C11 [1, 1, 0])) [0, 1, 2, 3, 4, 5, 6, 7, 8] (by kernel_rfl) (by kernel_rfl) ?_
    refine st_loadA tabOK hk 23 (some ⟨b1, 0, none⟩) 11 (by kernel_rfl) (by kernel_rfl) (.agg #[.bool false, S ([])]) (by kernel_rfl) [.bool m3.2, S p0_1] rfl (ho.cellsA 1 rfl rfl) ?_
    clear hk; intro a hk
    refine st_loadA tabOK hk 23 (some ⟨b2, 0, none⟩) 12 (by kernel_rfl) (by kernel_rfl) (.agg #[.bool false, S ([])]) (by kernel_rfl) [.bool m3.1, S p1_1] rfl (ho.cellsA 0 rfl rfl) ?_
    clear hk; intro a hk
    refine st_pure tabOK hk [2, 3] [4, 5, 6, 7, 8] [3, 14] [(3, .pointer (some ⟨b1, 0, none⟩)), (14, .bool ((m3.2 == m3.1) && ((p0_1 == p1_1) && true)))] (True) (by kernel_rfl) trivial ?_
    clear hk; intro a hk
    refine cut_ops (fun a w => Kn 19 a [(6, .bool (((m3.2 == m3.1) && ((p0_1 == p1_1) && true)) && (!m3.2)))] ∧ Ows [] w0 w [.blk b2 (.cells #[.bool m3.1, S p1_1] 23 (0, 0)), .blk b1 (.cells #[.bool m3.2, S p0_1] 23 (0, 0))]) ?_ ?_
    · intro J
      rcases Bool.eq_false_or_eq_true (((m3.2 == m3.1) && ((p0_1 == p1_1) && true))) with h7 | h7
      ·
        rw [h7] at hk
        have h8 : ((m3.2 == m3.1) && ((p0_1 == p1_1) && true)) = true := h7
        refine st_pure tabOK hk [4] [5, 6, 7, 8] [14, 15] [(14, .bool true), (15, .pointer (some ⟨b1, 0, none⟩))] (((some ⟨b1, 0, none⟩ : Option Addr).isSome = true) ∧ True) (by kernel_rfl) ⟨rfl, trivial⟩ ?_
        clear hk; intro a hk
        refine st_load1 tabOK hk 4 (some ⟨b1, 0, none⟩) 16 (by kernel_rfl) (by kernel_rfl) (.bool m3.2) (ho.cell 1 rfl rfl) ?_
        clear hk; intro a hk
        refine st_pure tabOK hk [6, 7, 8] [] [6] [(6, .bool (!m3.2))] (True) (by kernel_rfl) trivial ?_
        clear hk; intro a hk
        refine st_done ?_
        have e : (((m3.2 == m3.1) && ((p0_1 == p1_1) && true)) && (!m3.2)) = (!m3.2) := by first | (simp only [h7]; done) | (simp only [h7]; rfl) | rfl | simp [h7]
        exact J a w ⟨by rw [e]; exact hk.to [6] _ (by kernel_rfl), ho⟩
      ·
        rw [h7] at hk
        have h9 : ¬ (((m3.2 == m3.1) && ((p0_1 == p1_1) && true)) = true) := ne_true_of_eq_false h7
        refine st_pure tabOK hk [4, 5, 6, 7, 8] [] [6] [(6, .bool false)] (True) (by kernel_rfl) trivial ?_
        clear hk; intro a hk
        refine st_done ?_
        have e : (((m3.2 == m3.1) && ((p0_1 == p1_1) && true)) && (!m3.2)) = false := by first | (simp only [h7]; done) | (simp only [h7]; rfl) | rfl | simp [h7]
        exact J a w ⟨by rw [e]; exact hk.to [6] _ (by kernel_rfl), ho⟩
    · rintro a w ⟨hk, ho⟩
      replace ho : Ows [] w0 w [.blk b1 (.cells #[.bool m3.2, S p0_1] 23 (0, 0))] := ho.erase 0
      replace ho : Ows [] w0 w [] := ho.erase 0
      refine st_retG hk (by kernel_rfl) [.bool (((m3.2 == m3.1) && ((p0_1 == p1_1) && true)) && (!m3.2))] #[.tmp 6] (by kernel_rfl) ⟨resT hk (by kernel_rfl), trivial⟩ ?_
      obtain rfl := Option.some.inj H
      exact ⟨_, rfl, rfl, ho⟩


/-! scullery/etag.tagged: function 19 -/
noncomputable def C19 (p : List Nat) : Code := Sub (bodyOf f19) p
def etag_tagged.l0 : Nat → ((List (Bool × Str)) × Bool × Int) → (Bool × Str × Int) → Int → Option ((Unit) ⊕ (Bool))
  | 0, _, _, _ => none
  | k + 1, t3, t16, v19 => (if v19 < (t3.1.length : Int) then (if (0 : Int) ≤ v19 then (((if (t16.2.2 == 0) = true then ((etag_Like.f ((get t3.1 v19).1) ((get t3.1 v19).2) t16.1 t16.2.1 false).bind fun t27 => some t27) else some false)).bind fun m24 => (if m24 = true then some (.inr true) else etag_tagged.l0 k t3 t16 (w64 (v19 + 1)))) else none) else some (.inl ()))
def etag_tagged.f (K : Nat) (p0 : Str) (p1 : List (Str × Str)) : Option (Bool) := (((etag_List.f K p0).bind fun t3 => (if ((t3.2.2 != 0) || t3.2.1) = true then some t3.2.1 else ((head_Get.f K p1 ([101, 116, 97, 103])).bind fun t14 => ((etag_Parse.f K t14.1).bind fun t16 => ((etag_tagged.l0 K t3 t16 0).bind fun m34 => match m34 with | .inl s36 => some false | .inr r37 => some r37))))))
abbrev etag_tagged.post (w0 : World) (r : Bool) (u : Value) (w : World) : Prop := u = .bool r ∧ Ows [] w0 w []
theorem etag_tagged.l0_ok : ∀ (k : Nat) (t3 : (List (Bool × Str)) × Bool × Int) (t16 : Bool × Str × Int) (v19 : Int) (out : (Unit) ⊕ (Bool)), etag_tagged.l0 k t3 t16 v19 = some out → ∀ (o5 : Option Addr) (c6 : Nat) (b18 : Nat) (w0 : World) (Q : Exit → Act → World → Prop) (rest : List It) (a : Act) (w : World), Kn 49 a [(7, I t16.2.2), (10, .pointer (some ⟨b18, 0, none⟩)), (35, .slice o5 t3.1.length c6), (36, I (t3.1.length : Int)), (37, I v19)] → Ows [] w0 w [.blk b18 (.cells #[.bool t16.1, S t16.2.1] 23 (0, 0)), .row 0 23 2 (.slice o5 t3.1.length c6) t3.1.length (t3.1.flatMap encT23)] → (∀ (s : Unit) (a : Act) (w : World), out = .inl s → Kn 49 a [] → Ows [] w0 w [] → G Tryd.prog Q rest a w) → (∀ (r : Bool) (a : Act) (w : World), out = .inr r → Kn 49 a [(4, .bool r)] → Ows [] w0 w [] → Q .ret a w) → G Tryd.prog Q (.code (C19 [1, 1, 1, 1, 1, 0, 1, 0, 0]) :: .inl (C19 [1, 1, 1, 1, 1, 0, 1, 0, 0]) :: .endb 0 :: rest) a w := by
  intro k
  induction k with
  | zero => intro t3 t16 v19 out H; simp [etag_tagged.l0] at H
  | succ k ih =>
    intro t3 t16 v19 out H o5 c6 b18 w0 Q rest a w  hk ho J R
    simp only [etag_tagged.l0] at H
    refine st_seq (C19 [1, 1, 1, 1, 1, 0, 1, 0, 0, 0]) (C19 [1, 1, 1, 1, 1, 0, 1, 0, 0, 1]) (by kernel_rfl) ?_
    refine st_region 7 (opsOf (C19 [1, 1, 1, 1, 1, 0, 1, 0, 0, 0])) [0] (by kernel_rfl) (by kernel_rfl) ?_
    refine st_pure tabOK hk [0] [] [7, 10, 35, 36, 37, 38] [(7, I t16.2.2), (10, .pointer (some ⟨b18, 0, none⟩)), (35, .slice o5 t3.1.length c6), (36, I (t3.1.length : Int)), (37, I v19), (38, .bool (decide (v19 < (t3.1.length : Int))))] (True) (by kernel_rfl) trivial ?_
    clear hk; intro a hk
    refine st_done ?_
    refine st_seq (C19 [1, 1, 1, 1, 1, 0, 1, 0, 0, 1, 0]) (C19 [1, 1, 1, 1, 1, 0, 1, 0, 0, 1, 1]) (by kernel_rfl) ?_
    refine st_cond hk (C19 [1, 1, 1, 1, 1, 0, 1, 0, 0, 1, 0, 0]) (C19 [1, 1, 1, 1, 1, 0, 1, 0, 0, 1, 0, 1]) (.tmp 38) (decide (v19 < (t3.1.length : Int))) (by kernel_rfl) (by kernel_rfl) (fun h20 => ?_) (fun h20 => ?_)
    ·
      have h21 : v19 < (t3.1.length : Int) := of_decide_eq_true h20
      rw [if_pos h21] at H
      refine st_skip (by kernel_rfl) ?_
      refine st_seq (C19 [1, 1, 1, 1, 1, 0, 1, 0, 0, 1, 1, 0]) (C19 [1, 1, 1, 1, 1, 0, 1, 0, 0, 1, 1, 1]) (by kernel_rfl) ?_
      refine st_block 1 (C19 [1, 1, 1, 1, 1, 0, 1, 0, 0, 1, 1, 0, 0]) (by kernel_rfl) ?_
      refine st_seq (C19 [1, 1, 1, 1, 1, 0, 1, 0, 0, 1, 1, 0, 0, 0]) (C19 [1, 1, 1, 1, 1, 0, 1, 0, 0, 1, 1, 0, 0, 1]) (by kernel_rfl) ?_
      refine st_region 8 (opsOf (C19 [1, 1, 1, 1, 1, 0, 1, 0, 0, 1, 1, 0, 0, 0])) [0, 1, 2, 3] (by kernel_rfl) (by kernel_rfl) ?_
      have h22 : (0 : Int) ≤ v19 := by
        by_cases h22 : (0 : Int) ≤ v19
        · exact h22
        · rw [if_neg h22] at H; cases H
      rw [if_pos h22] at H
      refine st_pure tabOK hk [0] [1, 2, 3] [7, 10, 35, 36, 37, 39] [(7, I t16.2.2), (10, .pointer (some ⟨b18, 0, none⟩)), (35, .slice o5 t3.1.length c6), (36, I (t3.1.length : Int)), (37, I v19), (39, .pointer (o5.map (·.add (v19.toNat * 2))))] ((o5.isSome = true ∧ (0 : Int) ≤ v19 ∧ v19 < (t3.1.length : Int)) ∧ True) (by kernel_rfl) ⟨⟨(Rd.someK (ho.rd 1 rfl) encT23_len h22 h21), h22, h21⟩, trivial⟩ ?_
      clear hk; intro a hk
      refine st_loadA tabOK hk 23 (o5.map (·.add (v19.toNat * 2))) 40 (by kernel_rfl) (by kernel_rfl) (.agg #[.bool false, S ([])]) (by kernel_rfl) [.bool ((get t3.1 v19).1), S ((get t3.1 v19).2)] rfl ((ho.rd 1 rfl).elemA encT23_len h22 h21) ?_
      clear hk; intro a hk
      refine st_new tabOK hk ho #[.bool false, S ([])] 23 12 (by kernel_rfl) ?_
      clear hk ho; intro a b23 w hk ho
      refine st_putA hk ho 0 23 b23 0 [.bool ((get t3.1 v19).1), S ((get t3.1 v19).2)] #[.bool false, S ([])] 23 [.blk b23 (.cells #[.bool ((get t3.1 v19).1), S ((get t3.1 v19).2)] 23 (0, 0)), .blk b18 (.cells #[.bool t16.1, S t16.2.1] 23 (0, 0)), .row 0 23 2 (.slice o5 t3.1.length c6) t3.1.length (t3.1.flatMap encT23)] (by kernel_rfl) (by kernel_rfl) (by kernel_rfl) rfl (by kernel_rfl) (by kernel_rfl) rfl ?_
      clear ho; intro w ho
      refine st_done ?_
      refine st_seq (C19 [1, 1, 1, 1, 1, 0, 1, 0, 0, 1, 1, 0, 0, 1, 0]) (C19 [1, 1, 1, 1, 1, 0, 1, 0, 0, 1, 1, 0, 0, 1, 1]) (by kernel_rfl) ?_
      refine st_region 9 (opsOf (C19 [1, 1, 1, 1, 1, 0, 1, 0, 0, 1, 1, 0, 0, 1, 0])) [0, 1, 2, 3, 4, 5, 6] (by kernel_rfl) (by kernel_rfl) ?_
      refine st_pure tabOK hk [0, 1, 2] [3, 4, 5, 6] [7, 10, 12, 35, 36, 37, 43] [(7, I t16.2.2), (10, .pointer (some ⟨b18, 0, none⟩)), (12, .pointer (some ⟨b23, 0, none⟩)), (35, .slice o5 t3.1.length c6), (36, I (t3.1.length : Int)), (37, I v19), (43, .bool (t16.2.2 == 0))] (True) (by kernel_rfl) trivial ?_
      clear hk; intro a hk
      obtain ⟨m24, HX, H⟩ := Option.bind_eq_some_iff.1 H
      refine cut_ops (fun a w => Kn 49 a [(7, I t16.2.2), (10, .pointer (some ⟨b18, 0, none⟩)), (35, .slice o5 t3.1.length c6), (36, I (t3.1.length : Int)), (37, I v19), (47, .bool m24)] ∧ Ows [] w0 w [.blk b18 (.cells #[.bool t16.1, S t16.2.1] 23 (0, 0)), .row 0 23 2 (.slice o5 t3.1.length c6) t3.1.length (t3.1.flatMap encT23)]) ?_ ?_
      · intro J; clear H; have H := HX; clear HX
        rcases Bool.eq_false_or_eq_true (t16.2.2 == 0) with h25 | h25
        ·
          rw [h25] at hk
          have h26 : (t16.2.2 == 0) = true := h25
          rw [if_pos h26] at H
          refine st_loadA tabOK hk 23 (some ⟨b23, 0, none⟩) 44 (by kernel_rfl) (by kernel_rfl) (.agg #[.bool false, S ([])]) (by kernel_rfl) [.bool ((get t3.1 v19).1), S ((get t3.1 v19).2)] rfl (ho.cellsA 0 rfl rfl) ?_
          clear hk; intro a hk
          refine st_loadA tabOK hk 23 (some ⟨b18, 0, none⟩) 45 (by kernel_rfl) (by kernel_rfl) (.agg #[.bool false, S ([])]) (by kernel_rfl) [.bool t16.1, S t16.2.1] rfl (ho.cellsA 1 rfl rfl) ?_
          clear hk; intro a hk
          obtain ⟨t27, h28, H⟩ := Option.bind_eq_some_iff.1 H
          refine st_call hk 11 [.agg #[.bool ((get t3.1 v19).1), S ((get t3.1 v19).2)], .agg #[.bool t16.1, S t16.2.1], .bool false] (some 46) enters11 (by kernel_rfl) (etag_Like.ok  ((get t3.1 v19).1) ((get t3.1 v19).2) t16.1 t16.2.1 false t27 h28 w ) ?_
          clear hk; rintro a u w ⟨rfl, ho'⟩ hk
          replace ho : Ows [] w0 w [.blk b23 (.cells #[.bool ((get t3.1 v19).1), S ((get t3.1 v19).2)] 23 (0, 0)), .blk b18 (.cells #[.bool t16.1, S t16.2.1] 23 (0, 0)), .row 0 23 2 (.slice o5 t3.1.length c6) t3.1.length (t3.1.flatMap encT23)] := ho.call ho'; clear ho'
          refine st_pure tabOK hk [6] [] [7, 10, 35, 36, 37, 47] [(7, I t16.2.2), (10, .pointer (some ⟨b18, 0, none⟩)), (35, .slice o5 t3.1.length c6), (36, I (t3.1.length : Int)), (37, I v19), (47, .bool t27)] (True) (by kernel_rfl) trivial ?_
          clear hk; intro a hk
          refine st_done ?_
          replace ho : Ows [] w0 w [.blk b18 (.cells #[.bool t16.1, S t16.2.1] 23 (0, 0)), .row 0 23 2 (.slice o5 t3.1.length c6) t3.1.length (t3.1.flatMap encT23)] := ho.erase 0
          obtain rfl := Option.some.inj H
          exact J a w ⟨hk.to [7, 10, 35, 36, 37, 47] _ (by kernel_rfl), ho⟩
        ·
          rw [h25] at hk
          have h29 : ¬ ((t16.2.2 == 0) = true) := ne_true_of_eq_false h25
          rw [if_neg h29] at H
          refine st_pure tabOK hk [3, 4, 5, 6] [] [7, 10, 35, 36, 37, 47] [(7, I t16.2.2), (10, .pointer (some ⟨b18, 0, none⟩)), (35, .slice o5 t3.1.length c6), (36, I (t3.1.length : Int)), (37, I v19), (47, .bool false)] (True) (by kernel_rfl) trivial ?_
          clear hk; intro a hk
          refine st_done ?_
          replace ho : Ows [] w0 w [.blk b18 (.cells #[.bool t16.1, S t16.2.1] 23 (0, 0)), .row 0 23 2 (.slice o5 t3.1.length c6) t3.1.length (t3.1.flatMap encT23)] := ho.erase 0
          obtain rfl := Option.some.inj H
          exact J a w ⟨hk.to [7, 10, 35, 36, 37, 47] _ (by kernel_rfl), ho⟩
      · clear HX; rintro a w ⟨hk, ho⟩
        refine st_cond hk (C19 [1, 1, 1, 1, 1, 0, 1, 0, 0, 1, 1, 0, 0, 1, 1, 0]) (C19 [1, 1, 1, 1, 1, 0, 1, 0, 0, 1, 1, 0, 0, 1, 1, 1]) (.tmp 47) (m24) (by kernel_rfl) (by kernel_rfl) (fun h30 => ?_) (fun h30 => ?_)
        ·
          have h31 : m24 = true := h30
          rw [if_pos h31] at H
          refine st_seq (C19 [1, 1, 1, 1, 1, 0, 1, 0, 0, 1, 1, 0, 0, 1, 1, 0, 0]) (C19 [1, 1, 1, 1, 1, 0, 1, 0, 0, 1, 1, 0, 0, 1, 1, 0, 1]) (by kernel_rfl) ?_
          refine st_region 10 (opsOf (C19 [1, 1, 1, 1, 1, 0, 1, 0, 0, 1, 1, 0, 0, 1, 1, 0, 0])) [0] (by kernel_rfl) (by kernel_rfl) ?_
          refine st_pure tabOK hk [0] [] [4] [(4, .bool true)] (True) (by kernel_rfl) trivial ?_
          clear hk; intro a hk
          refine st_done ?_
          refine st_ret (by kernel_rfl) ?_
          replace ho : Ows [] w0 w [.row 0 23 2 (.slice o5 t3.1.length c6) t3.1.length (t3.1.flatMap encT23)] := ho.erase 0
          replace ho : Ows [] w0 w [] := ho.erase 0
          obtain rfl := Option.some.inj H
          exact R true  a w rfl (hk.to [4] _ (by kernel_rfl)) ho
        ·
          have h32 : ¬ (m24 = true) := ne_true_of_eq_false h30
          rw [if_neg h32] at H
          refine st_skip (by kernel_rfl) ?_
          refine st_endb 1 ?_
          refine st_region 11 (opsOf (C19 [1, 1, 1, 1, 1, 0, 1, 0, 0, 1, 1, 1])) [0, 1] (by kernel_rfl) (by kernel_rfl) ?_
          refine st_pure tabOK hk [0, 1] [] [7, 10, 35, 36, 37] [(7, I t16.2.2), (10, .pointer (some ⟨b18, 0, none⟩)), (35, .slice o5 t3.1.length c6), (36, I (t3.1.length : Int)), (37, I (w64 (v19 + 1)))] (True) (by kernel_rfl) trivial ?_
          clear hk; intro a hk
          refine st_done ?_
          refine st_inl ?_
          exact ih t3 t16 (w64 (v19 + 1)) out H o5 c6 b18 w0 Q rest a w  (hk.to [7, 10, 35, 36, 37] _ (by kernel_rfl)) ho J R
    ·
      have h33 : ¬ (v19 < (t3.1.length : Int)) := of_decide_eq_false h20
      rw [if_neg h33] at H
      refine st_exit 0 _ (by kernel_rfl) rfl ?_
      replace ho : Ows [] w0 w [.row 0 23 2 (.slice o5 t3.1.length c6) t3.1.length (t3.1.flatMap encT23)] := ho.erase 0
      replace ho : Ows [] w0 w [] := ho.erase 0
      obtain rfl := Option.some.inj H
      exact J ()  a w rfl (hk.to [] _ (by kernel_rfl)) ho

theorem etag_tagged.ok (K : Nat) (p0 : Str) (p1 : List (Str × Str)) (r : Bool) (H : etag_tagged.f K p0 p1 = some r) (w0 : World) (o1 : Option Addr) (c2 : Nat) (hr1 : Rd w0 o1 (p1.flatMap encT31)) (hl1 : p1.length ≤ c2) : Calls Tryd.prog 19 ⟨[S p0, .slice o1 p1.length c2]⟩ w0 fun e w => ∃ u, e = .returned u ∧ etag_tagged.post w0 r u w := by
  unfold etag_tagged.f at H
  refine st_start (N := 49) [S p0, .slice o1 p1.length c2] (C19 []) func19 (by kernel_rfl) (by kernel_rfl) (by kernel_rfl) ?_
  intro a w hk ho
  refine st_seq (C19 [0]) (C19 [1]) (by kernel_rfl) ?_
  refine st_region 0 (opsOf (C19 [0])) [0] (by kernel_rfl) (by kernel_rfl) ?_
  refine st_pure tabOK hk [0] [] [0, 1] [(0, S p0), (1, .slice o1 p1.length c2)] (True) (by kernel_rfl) trivial ?_
  clear hk; intro a hk
  refine st_done ?_
  refine st_seq (C19 [1, 0]) (C19 [1, 1]) (by kernel_rfl) ?_
  refine st_region 1 (opsOf (C19 [1, 0])) [0, 1, 2, 3, 4, 5, 6, 7, 8] (by kernel_rfl) (by kernel_rfl) ?_
  refine st_pure tabOK hk [0] [1, 2, 3, 4, 5, 6, 7, 8] [1, 14] [(1, .slice o1 p1.length c2), (14, S p0)] (True) (by kernel_rfl) trivial ?_
  clear hk; intro a hk
  obtain ⟨t3, h4, H⟩ := Option.bind_eq_some_iff.1 H
  refine st_call hk 10 [S p0] (some 15) enters10 (by kernel_rfl) (etag_List.ok K  p0 t3 h4 w ) ?_
  clear hk; rintro a u w ⟨o5, c6, rfl, ho'⟩ hk
  replace ho : Ows [] w0 w [.row 0 23 2 (.slice o5 t3.1.length c6) t3.1.length (t3.1.flatMap encT23)] := ho.call ho'; clear ho'
  refine st_pure tabOK hk [2, 3, 4, 5, 6, 7, 8] [] [1, 5, 6, 7] [(1, .slice o1 p1.length c2), (5, .slice o5 t3.1.length c6), (6, .bool t3.2.1), (7, I t3.2.2)] (True) (by kernel_rfl) trivial ?_
  clear hk; intro a hk
  refine st_done ?_
  refine st_seq (C19 [1, 1, 0]) (C19 [1, 1, 1]) (by kernel_rfl) ?_
  refine st_seq (C19 [1, 1, 0, 0]) (C19 [1, 1, 0, 1]) (by kernel_rfl) ?_
  refine st_region 2 (opsOf (C19 [1, 1, 0, 0])) [0, 1, 2, 3, 4] (by kernel_rfl) (by kernel_rfl) ?_
  refine st_pure tabOK hk [0, 1, 2] [3, 4] [1, 5, 6, 21] [(1, .slice o1 p1.length c2), (5, .slice o5 t3.1.length c6), (6, .bool t3.2.1), (21, .bool (t3.2.2 != 0))] (True) (by kernel_rfl) trivial ?_
  clear hk; intro a hk
  refine cut_ops (fun a w => Kn 49 a [(1, .slice o1 p1.length c2), (5, .slice o5 t3.1.length c6), (6, .bool t3.2.1), (23, .bool ((t3.2.2 != 0) || t3.2.1))] ∧ Ows [] w0 w [.row 0 23 2 (.slice o5 t3.1.length c6) t3.1.length (t3.1.flatMap encT23)]) ?_ ?_
  · intro J
    rcases Bool.eq_false_or_eq_true (t3.2.2 != 0) with h8 | h8
    ·
      rw [h8] at hk
      have h9 : (t3.2.2 != 0) = true := h8
      refine st_pure tabOK hk [3, 4] [] [1, 5, 6, 23] [(1, .slice o1 p1.length c2), (5, .slice o5 t3.1.length c6), (6, .bool t3.2.1), (23, .bool true)] (True) (by kernel_rfl) trivial ?_
      clear hk; intro a hk
      refine st_done ?_
      have e : ((t3.2.2 != 0) || t3.2.1) = true := by first | (simp only [h8]; done) | (simp only [h8]; rfl) | rfl | simp [h8]
      exact J a w ⟨by rw [e]; exact hk.to [1, 5, 6, 23] _ (by kernel_rfl), ho⟩
    ·
      rw [h8] at hk
      have h10 : ¬ ((t3.2.2 != 0) = true) := ne_true_of_eq_false h8
      refine st_pure tabOK hk [3, 4] [] [1, 5, 6, 23] [(1, .slice o1 p1.length c2), (5, .slice o5 t3.1.length c6), (6, .bool t3.2.1), (23, .bool t3.2.1)] (True) (by kernel_rfl) trivial ?_
      clear hk; intro a hk
      refine st_done ?_
      have e : ((t3.2.2 != 0) || t3.2.1) = t3.2.1 := by first | (simp only [h8]; done) | (simp only [h8]; rfl) | rfl | simp [h8]
      exact J a w ⟨by rw [e]; exact hk.to [1, 5, 6, 23] _ (by kernel_rfl), ho⟩
  · rintro a w ⟨hk, ho⟩
    refine st_cond hk (C19 [1, 1, 0, 1, 0]) (C19 [1, 1, 0, 1, 1]) (.tmp 23) (((t3.2.2 != 0) || t3.2.1)) (by kernel_rfl) (by kernel_rfl) (fun h11 => ?_) (fun h11 => ?_)
    ·
      have h12 : ((t3.2.2 != 0) || t3.2.1) = true := h11
      rw [if_pos h12] at H
      refine st_seq (C19 [1, 1, 0, 1, 0, 0]) (C19 [1, 1, 0, 1, 0, 1]) (by kernel_rfl) ?_
      refine st_region 3 (opsOf (C19 [1, 1, 0, 1, 0, 0])) [0, 1] (by kernel_rfl) (by kernel_rfl) ?_
      refine st_pure tabOK hk [0, 1] [] [4] [(4, .bool t3.2.1)] (True) (by kernel_rfl) trivial ?_
      clear hk; intro a hk
      refine st_done ?_
      replace ho : Ows [] w0 w [] := ho.erase 0
      refine st_retG hk (by kernel_rfl) [.bool t3.2.1] #[.tmp 4] (by kernel_rfl) ⟨resT hk (by kernel_rfl), trivial⟩ ?_
      obtain rfl := Option.some.inj H
      exact ⟨_, rfl, rfl, ho⟩
    ·
      have h13 : ¬ (((t3.2.2 != 0) || t3.2.1) = true) := ne_true_of_eq_false h11
      rw [if_neg h13] at H
      refine st_skip (by kernel_rfl) ?_
      refine st_seq (C19 [1, 1, 1, 0]) (C19 [1, 1, 1, 1]) (by kernel_rfl) ?_
      refine st_region 4 (opsOf (C19 [1, 1, 1, 0])) [0, 1, 2, 3, 4, 5, 6] (by kernel_rfl) (by kernel_rfl) ?_
      refine st_pure tabOK hk [0] [1, 2, 3, 4, 5, 6] [5, 26] [(5, .slice o5 t3.1.length c6), (26, .slice o1 p1.length c2)] (True) (by kernel_rfl) trivial ?_
      clear hk; intro a hk
      obtain ⟨t14, h15, H⟩ := Option.bind_eq_some_iff.1 H
      refine st_call hk 18 [.slice o1 p1.length c2, S ([101, 116, 97, 103])] (some 27) enters18 (by kernel_rfl) (head_Get.ok K  p1 ([101, 116, 97, 103]) t14 h15 w o1 c2 (hr1.old ho (fun _ _ => by simp)) hl1) ?_
      clear hk; rintro a u w ⟨rfl, ho'⟩ hk
      replace ho : Ows [] w0 w [.row 0 23 2 (.slice o5 t3.1.length c6) t3.1.length (t3.1.flatMap encT23)] := ho.call ho'; clear ho'
      refine st_pure tabOK hk [2, 3, 4, 5, 6] [] [5, 8] [(5, .slice o5 t3.1.length c6), (8, S t14.1)] (True) (by kernel_rfl) trivial ?_
      clear hk; intro a hk
      refine st_done ?_
      refine st_seq (C19 [1, 1, 1, 1, 0]) (C19 [1, 1, 1, 1, 1]) (by kernel_rfl) ?_
      refine st_region 5 (opsOf (C19 [1, 1, 1, 1, 0])) [0, 1, 2, 3, 4, 5, 6, 7] (by kernel_rfl) (by kernel_rfl) ?_
      refine st_pure tabOK hk [0] [1, 2, 3, 4, 5, 6, 7] [5, 31] [(5, .slice o5 t3.1.length c6), (31, S t14.1)] (True) (by kernel_rfl) trivial ?_
      clear hk; intro a hk
      obtain ⟨t16, h17, H⟩ := Option.bind_eq_some_iff.1 H
      refine st_call hk 9 [S t14.1] (some 32) enters9 (by kernel_rfl) (etag_Parse.ok K  t14.1 t16 h17 w ) ?_
      clear hk; rintro a u w ⟨rfl, ho'⟩ hk
      replace ho : Ows [] w0 w [.row 0 23 2 (.slice o5 t3.1.length c6) t3.1.length (t3.1.flatMap encT23)] := ho.call ho'; clear ho'
      refine st_pure tabOK hk [2, 3, 4] [5, 6, 7] [5, 33, 34] [(5, .slice o5 t3.1.length c6), (33, .agg #[.bool t16.1, S t16.2.1]), (34, I t16.2.2)] (True) (by kernel_rfl) trivial ?_
      clear hk; intro a hk
      refine st_new tabOK hk ho #[.bool false, S ([])] 23 10 (by kernel_rfl) ?_
      clear hk ho; intro a b18 w hk ho
      refine st_putA hk ho 0 23 b18 0 [.bool t16.1, S t16.2.1] #[.bool false, S ([])] 23 [.blk b18 (.cells #[.bool t16.1, S t16.2.1] 23 (0, 0)), .row 0 23 2 (.slice o5 t3.1.length c6) t3.1.length (t3.1.flatMap encT23)] (by kernel_rfl) (by kernel_rfl) (by kernel_rfl) rfl (by kernel_rfl) (by kernel_rfl) rfl ?_
      clear ho; intro w ho
      refine st_pure tabOK hk [7] [] [5, 7, 10] [(5, .slice o5 t3.1.length c6), (7, I t16.2.2), (10, .pointer (some ⟨b18, 0, none⟩))] (True) (by kernel_rfl) trivial ?_
      clear hk; intro a hk
      refine st_done ?_
      refine st_seq (C19 [1, 1, 1, 1, 1, 0]) (C19 [1, 1, 1, 1, 1, 1]) (by kernel_rfl) ?_
      refine st_seq (C19 [1, 1, 1, 1, 1, 0, 0]) (C19 [1, 1, 1, 1, 1, 0, 1]) (by kernel_rfl) ?_
      refine st_region 6 (opsOf (C19 [1, 1, 1, 1, 1, 0, 0])) [0, 1, 2] (by kernel_rfl) (by kernel_rfl) ?_
      refine st_pure tabOK hk [0, 1, 2] [] [7, 10, 35, 36, 37] [(7, I t16.2.2), (10, .pointer (some ⟨b18, 0, none⟩)), (35, .slice o5 t3.1.length c6), (36, I (t3.1.length : Int)), (37, I 0)] (True) (by kernel_rfl) trivial ?_
      clear hk; intro a hk
      refine st_done ?_
      refine st_block 0 (C19 [1, 1, 1, 1, 1, 0, 1, 0]) (by kernel_rfl) ?_
      obtain ⟨m34, h35, H⟩ := Option.bind_eq_some_iff.1 H
      refine st_loop (C19 [1, 1, 1, 1, 1, 0, 1, 0, 0]) (by kernel_rfl) ?_
      refine etag_tagged.l0_ok K t3 t16 0 m34 h35 o5 c6 b18 w0 _ _ a w  (hk.to [7, 10, 35, 36, 37] _ (by kernel_rfl)) ho ?_ ?_
      · intro s36  a w e hk ho; subst e
        simp only [] at H
        refine st_seq (C19 [1, 1, 1, 1, 1, 1, 0]) (C19 [1, 1, 1, 1, 1, 1, 1]) (by kernel_rfl) ?_
        refine st_region 12 (opsOf (C19 [1, 1, 1, 1, 1, 1, 0])) [0] (by kernel_rfl) (by kernel_rfl) ?_
        refine st_pure tabOK hk [0] [] [4] [(4, .bool false)] (True) (by kernel_rfl) trivial ?_
        clear hk; intro a hk
        refine st_done ?_
        refine st_retG hk (by kernel_rfl) [.bool false] #[.tmp 4] (by kernel_rfl) ⟨resT hk (by kernel_rfl), trivial⟩ ?_
        obtain rfl := Option.some.inj H
        exact ⟨_, rfl, rfl, ho⟩
      · intro r37  a w e hk ho; subst e
        simp only [] at H
        refine retG hk [.bool r37] #[.tmp 4] (by kernel_rfl) ⟨resT hk (by kernel_rfl), trivial⟩ ?_
        obtain rfl := Option.some.inj H
        exact ⟨_, rfl, rfl, ho⟩


/-! scullery/date.weekdays: function 15 -/
noncomputable def C15 (p : List Nat) : Code := Sub (bodyOf f15) p
def date_weekdays.f  : Option (Str × Str × Str × Str × Str × Str × Str) := some ([83, 117, 110, 100, 97, 121], [77, 111, 110, 100, 97, 121], [84, 117, 101, 115, 100, 97, 121], [87, 101, 100, 110, 101, 115, 100, 97, 121], [84, 104, 117, 114, 115, 100, 97, 121], [70, 114, 105, 100, 97, 121], [83, 97, 116, 117, 114, 100, 97, 121])
abbrev date_weekdays.post (w0 : World) (r : Str × Str × Str × Str × Str × Str × Str) (u : Value) (w : World) : Prop := u = .agg #[S r.1, S r.2.1, S r.2.2.1, S r.2.2.2.1, S r.2.2.2.2.1, S r.2.2.2.2.2.1, S r.2.2.2.2.2.2] ∧ Ows [] w0 w []
theorem date_weekdays.ok  (r : Str × Str × Str × Str × Str × Str × Str) (H : date_weekdays.f  = some r) (w0 : World)  : Calls Tryd.prog 15 ⟨[]⟩ w0 fun e w => ∃ u, e = .returned u ∧ date_weekdays.post w0 r u w := by
  unfold date_weekdays.f at H
  refine st_start (N := 2) [] (C15 []) func15 (by kernel_rfl) (by kernel_rfl) (by kernel_rfl) ?_
  intro a w hk ho
  refine st_seq (C15 [0]) (C15 [1]) (by kernel_rfl) ?_
  refine st_region 0 (opsOf (C15 [0])) [0] (by kernel_rfl) (by kernel_rfl) ?_
  refine st_new tabOK hk ho #[S ([]), S ([]), S ([]), S ([]), S ([]), S ([]), S ([])] 46 0 (by kernel_rfl) ?_
  clear hk ho; intro a b1 w hk ho
  refine st_done ?_
  refine st_seq (C15 [1, 0]) (C15 [1, 1]) (by kernel_rfl) ?_
  refine st_region 1 (opsOf (C15 [1, 0])) [0, 1] (by kernel_rfl) (by kernel_rfl) ?_
  refine st_pure tabOK hk [0] [1] [0, 1] [(0, .pointer (some ⟨b1, 0, none⟩)), (1, .agg #[S ([83, 117, 110, 100, 97, 121]), S ([77, 111, 110, 100, 97, 121]), S ([84, 117, 101, 115, 100, 97, 121]), S ([87, 101, 100, 110, 101, 115, 100, 97, 121]), S ([84, 104, 117, 114, 115, 100, 97, 121]), S ([70, 114, 105, 100, 97, 121]), S ([83, 97, 116, 117, 114, 100, 97, 121])])] (True) (by kernel_rfl) trivial ?_
  clear hk; intro a hk
  refine st_putA hk ho 0 46 b1 0 [S ([83, 117, 110, 100, 97, 121]), S ([77, 111, 110, 100, 97, 121]), S ([84, 117, 101, 115, 100, 97, 121]), S ([87, 101, 100, 110, 101, 115, 100, 97, 121]), S ([84, 104, 117, 114, 115, 100, 97, 121]), S ([70, 114, 105, 100, 97, 121]), S ([83, 97, 116, 117, 114, 100, 97, 121])] #[S ([]), S ([]), S ([]), S ([]), S ([]), S ([]), S ([])] 46 [.blk b1 (.cells #[S ([83, 117, 110, 100, 97, 121]), S ([77, 111, 110, 100, 97, 121]), S ([84, 117, 101, 115, 100, 97, 121]), S ([87, 101, 100, 110, 101, 115, 100, 97, 121]), S ([84, 104, 117, 114, 115, 100, 97, 121]), S ([70, 114, 105, 100, 97, 121]), S ([83, 97, 116, 117, 114, 100, 97, 121])] 46 (0, 0))] (by kernel_rfl) (by kernel_rfl) (by kernel_rfl) rfl (by kernel_rfl) (by kernel_rfl) rfl ?_
  clear ho; intro w ho
  refine st_done ?_
  refine st_retG hk (by kernel_rfl) [.agg #[S ([83, 117, 110, 100, 97, 121]), S ([77, 111, 110, 100, 97, 121]), S ([84, 117, 101, 115, 100, 97, 121]), S ([87, 101, 100, 110, 101, 115, 100, 97, 121]), S ([84, 104, 117, 114, 115, 100, 97, 121]), S ([70, 114, 105, 100, 97, 121]), S ([83, 97, 116, 117, 114, 100, 97, 121])]] #[.cell 0 46] (by kernel_rfl) ⟨resC tabOK hk (by kernel_rfl) (ho.blkAt 0 rfl) rfl (by kernel_rfl) (z := .agg #[S ([]), S ([]), S ([]), S ([]), S ([]), S ([]), S ([])]) (by kernel_rfl) (by kernel_rfl), trivial⟩ ?_
  obtain rfl := Option.some.inj H
  replace ho : Ows [] w0 w [] := ho.erase 0
  exact ⟨_, rfl, rfl, ho⟩


/-! (*scullery/date.scan).word: function 47 -/
noncomputable def C47 (p : List Nat) : Code := Sub (bodyOf f47) p
def date_scan_word.f (p0_0 : Str) (p0_1 : Bool) (p1 : Str) : Option (Str × Bool) := (((strings_CutPrefix.f p0_0 p1).bind fun t2 => (((if p0_1 = true then some true else some (!t2.2))).bind fun m4 => some (t2.1, m4))))
abbrev date_scan_word.post (b1 : Nat) (w0 : World) (r : Str × Bool) (u : Value) (w : World) : Prop := u = .tuple #[] ∧ Ows [b1] w0 w [.blk b1 (.cells #[S r.1, .bool r.2] 96 (0, 0))]
theorem date_scan_word.ok (p0_0 : Str) (p0_1 : Bool) (p1 : Str) (r : Str × Bool) (H : date_scan_word.f p0_0 p0_1 p1 = some r) (w0 : World) (b1 : Nat) (hh : Has w0 [.blk b1 (.cells #[S p0_0, .bool p0_1] 96 (0, 0))]) : Calls Tryd.prog 47 ⟨[.pointer (some ⟨b1, 0, none⟩), S p1]⟩ w0 fun e w => ∃ u, e = .returned u ∧ date_scan_word.post b1 w0 r u w := by
  unfold date_scan_word.f at H
  refine st_startL (N := 30) [.pointer (some ⟨b1, 0, none⟩), S p1] (C47 []) func47 (by kernel_rfl) (by kernel_rfl) (by kernel_rfl) ([.blk b1 (.cells #[S p0_0, .bool p0_1] 96 (0, 0))]) hh ?_
  intro a w hk ho
  replace ho : Ows [b1] w0 w [.blk b1 (.cells #[S p0_0, .bool p0_1] 96 (0, 0))] := ho
  refine st_seq (C47 [0]) (C47 [1]) (by kernel_rfl) ?_
  refine st_region 0 (opsOf (C47 [0])) [0, 1, 2, 3, 4, 5, 6, 7, 8, 9, 10] (by kernel_rfl) (by kernel_rfl) ?_
  refine st_pure tabOK hk [0, 1, 2] [3, 4, 5, 6, 7, 8, 9, 10] [0, 1, 9] [(0, .pointer (some ⟨b1, 0, none⟩)), (1, S p1), (9, .pointer (some ⟨b1, 0, none⟩))] (((some ⟨b1, 0, none⟩ : Option Addr).isSome = true) ∧ (((some ⟨b1, 0, none⟩ : Option Addr).isSome = true) ∧ True)) (by kernel_rfl) ⟨rfl, ⟨rfl, trivial⟩⟩ ?_
  clear hk; intro a hk
  refine st_load1 tabOK hk 9 (some ⟨b1, 0, none⟩) 10 (by kernel_rfl) (by kernel_rfl) (S p0_0) (ho.cell 0 rfl rfl) ?_
  clear hk; intro a hk
  refine st_pure tabOK hk [4] [5, 6, 7, 8, 9, 10] [0, 10, 11] [(0, .pointer (some ⟨b1, 0, none⟩)), (10, S p0_0), (11, S p1)] (True) (by kernel_rfl) trivial ?_
  clear hk; intro a hk
  obtain ⟨t2, h3, H⟩ := Option.bind_eq_some_iff.1 H
  refine st_call hk 30 [S p0_0, S p1] (some 12) enters30 (by kernel_rfl) (strings_CutPrefix.ok  p0_0 p1 t2 h3 w ) ?_
  clear hk; rintro a u w ⟨rfl, ho'⟩ hk
  replace ho : Ows [b1] w0 w [.blk b1 (.cells #[S p0_0, .bool p0_1] 96 (0, 0))] := ho.call ho'; clear ho'
  refine st_pure tabOK hk [6, 7, 8, 9, 10] [] [0, 4, 5] [(0, .pointer (some ⟨b1, 0, none⟩)), (4, S t2.1), (5, .bool t2.2)] (True) (by kernel_rfl) trivial ?_
  clear hk; intro a hk
  refine st_done ?_
  refine st_region 1 (opsOf (C47 [1])) [0, 1, 2, 3, 4, 5, 6, 7, 8, 9, 10, 11, 12, 13, 14, 15, 16] (by kernel_rfl) (by kernel_rfl) ?_
  refine st_pure tabOK hk [0, 1, 2, 3, 4, 5] [6, 7, 8, 9, 10, 11, 12, 13, 14, 15, 16] [5, 15, 16, 17, 20] [(5, .bool t2.2), (15, .pointer (some ⟨b1, 0, none⟩)), (16, .pointer (some ⟨b1, 0, none⟩)), (17, S t2.1), (20, .pointer (some ⟨b1, 1, none⟩))] (((some ⟨b1, 0, none⟩ : Option Addr).isSome = true) ∧ (((some ⟨b1, 0, none⟩ : Option Addr).isSome = true) ∧ True)) (by kernel_rfl) ⟨rfl, ⟨rfl, trivial⟩⟩ ?_
  clear hk; intro a hk
  refine st_load1 tabOK hk 4 (some ⟨b1, 1, none⟩) 21 (by kernel_rfl) (by kernel_rfl) (.bool p0_1) (ho.cell 0 rfl rfl) ?_
  clear hk; intro a hk
  refine st_pure tabOK hk [7] [8, 9, 10, 11, 12, 13, 14, 15, 16] [5, 15, 16, 17, 22] [(5, .bool t2.2), (15, .pointer (some ⟨b1, 0, none⟩)), (16, .pointer (some ⟨b1, 0, none⟩)), (17, S t2.1), (22, .bool p0_1)] (True) (by kernel_rfl) trivial ?_
  clear hk; intro a hk
  obtain ⟨m4, HX, H⟩ := Option.bind_eq_some_iff.1 H
  refine cut_ops (fun a w => Kn 30 a [] ∧ Ows [b1] w0 w [.blk b1 (.cells #[S t2.1, .bool m4] 96 (0, 0))]) ?_ ?_
  · intro J; clear H; have H := HX; clear HX
    rcases Bool.eq_false_or_eq_true (p0_1) with h5 | h5
    ·
      rw [h5] at hk
      have h6 : p0_1 = true := h5
      rw [if_pos h6] at H
      refine st_pure tabOK hk [8, 9, 10, 11, 12] [13, 14, 15, 16] [16, 17, 25, 27] [(16, .pointer (some ⟨b1, 0, none⟩)), (17, S t2.1), (25, .bool true), (27, .pointer (some ⟨b1, 0, none⟩))] (((some ⟨b1, 0, none⟩ : Option Addr).isSome = true) ∧ (((some ⟨b1, 0, none⟩ : Option Addr).isSome = true) ∧ True)) (by kernel_rfl) ⟨rfl, ⟨rfl, trivial⟩⟩ ?_
      clear hk; intro a hk
      refine st_put1 hk ho 0 9 b1 0 (S t2.1) #[S p0_0, .bool p0_1] 96 [.blk b1 (.cells #[S t2.1, .bool p0_1] 96 (0, 0))] (by kernel_rfl) (by kernel_rfl) (by kernel_rfl) rfl (by kernel_rfl) (by kernel_rfl) rfl ?_
      clear ho; intro w ho
      refine st_pure tabOK hk [14, 15] [16] [25, 29] [(25, .bool true), (29, .pointer (some ⟨b1, 1, none⟩))] (((some ⟨b1, 0, none⟩ : Option Addr).isSome = true) ∧ (((some ⟨b1, 0, none⟩ : Option Addr).isSome = true) ∧ True)) (by kernel_rfl) ⟨rfl, ⟨rfl, trivial⟩⟩ ?_
      clear hk; intro a hk
      refine st_put1 hk ho 0 4 b1 1 (.bool true) #[S t2.1, .bool p0_1] 96 [.blk b1 (.cells #[S t2.1, .bool true] 96 (0, 0))] (by kernel_rfl) (by kernel_rfl) (by kernel_rfl) rfl (by kernel_rfl) (by kernel_rfl) rfl ?_
      clear ho; intro w ho
      refine st_done ?_
      obtain rfl := Option.some.inj H
      exact J a w ⟨hk.to [] _ (by kernel_rfl), ho⟩
    ·
      rw [h5] at hk
      have h7 : ¬ (p0_1 = true) := ne_true_of_eq_false h5
      rw [if_neg h7] at H
      refine st_pure tabOK hk [8, 9, 10, 11, 12] [13, 14, 15, 16] [16, 17, 25, 27] [(16, .pointer (some ⟨b1, 0, none⟩)), (17, S t2.1), (25, .bool (!t2.2)), (27, .pointer (some ⟨b1, 0, none⟩))] (((some ⟨b1, 0, none⟩ : Option Addr).isSome = true) ∧ (((some ⟨b1, 0, none⟩ : Option Addr).isSome = true) ∧ True)) (by kernel_rfl) ⟨rfl, ⟨rfl, trivial⟩⟩ ?_
      clear hk; intro a hk
      refine st_put1 hk ho 0 9 b1 0 (S t2.1) #[S p0_0, .bool p0_1] 96 [.blk b1 (.cells #[S t2.1, .bool p0_1] 96 (0, 0))] (by kernel_rfl) (by kernel_rfl) (by kernel_rfl) rfl (by kernel_rfl) (by kernel_rfl) rfl ?_
      clear ho; intro w ho
      refine st_pure tabOK hk [14, 15] [16] [25, 29] [(25, .bool (!t2.2)), (29, .pointer (some ⟨b1, 1, none⟩))] (((some ⟨b1, 0, none⟩ : Option Addr).isSome = true) ∧ (((some ⟨b1, 0, none⟩ : Option Addr).isSome = true) ∧ True)) (by kernel_rfl) ⟨rfl, ⟨rfl, trivial⟩⟩ ?_
      clear hk; intro a hk
      refine st_put1 hk ho 0 4 b1 1 (.bool (!t2.2)) #[S t2.1, .bool p0_1] 96 [.blk b1 (.cells #[S t2.1, .bool (!t2.2)] 96 (0, 0))] (by kernel_rfl) (by kernel_rfl) (by kernel_rfl) rfl (by kernel_rfl) (by kernel_rfl) rfl ?_
      clear ho; intro w ho
      refine st_done ?_
      obtain rfl := Option.some.inj H
      exact J a w ⟨hk.to [] _ (by kernel_rfl), ho⟩
  · clear HX; rintro a w ⟨hk, ho⟩
    refine st_endK hk [] #[] (by kernel_rfl) (by kernel_rfl) ?_
    obtain rfl := Option.some.inj H
    exact ⟨_, rfl, rfl, ho⟩

end Go.Proofs.YtifocgljpfaekaaDoor
