/- Go functions as plain functions, and that the machine's calls do what these say. -/
import Derived.Test.YtkkmbkelkbhecaaGreatDoorT
import Derived.Test.YtkkmbkelkbhecaaGreatDoorLay
import Derived.Test.YtkkmbkelkbhecaaGreatDoorHT
import Derived.Test.YtkkmbkelkbhecaaGreatDoorF3
set_option maxRecDepth 100000
set_option linter.unusedVariables false
namespace Go.Proofs.YtkkmbkelkbhecaaGreatDoor
open Go.Ev Go.Proofs.Tryz


/-! scullery/sculleryref06.Parse: function 19 -/
noncomputable def C19 (p : List Nat) : Code := Sub (bodyOf f19) p
def sculleryref06_Parse.l1 : Nat → Str → (List (Str × Str)) → Int → (Str × Int × Int) → Int → Int → Option (Int)
  | 0, _, _, _, _, _, _ => none
  | k + 1, p0, v2, v5, t8, v21, v22 => (if v22 ≥ 0 then (if (0 : Int) ≤ v22 then (if v22 < (t8.1.length : Int) then (((if ((bt t8.1 v22) == 58) = true then some v22 else some v21)).bind fun m27 => sculleryref06_Parse.l1 k p0 v2 v5 t8 m27 (w64 (v22 - 1))) else none) else none) else some v21)
def sculleryref06_Parse.l0 (K : Nat) : Nat → Str → (List (Str × Str)) → Int → Option ((List (Str × Str)) × Int × Int)
  | 0, _, _, _ => none
  | k + 1, p0, v2, v5 => (if (0 : Int) ≤ v5 then (if v5 ≤ (p0.length : Int) then ((sculleryref06_Line.f K (p0.drop v5.toNat)).bind fun t8 => (if (t8.2.2 != 0) = true then some (([] : List (Str × Str)), 0, t8.2.2) else (if (t8.1 == ([])) = true then some (v2, w64 (v5 + t8.2.1), 0) else (if (v2.length : Int) ≥ 64 then some (([] : List (Str × Str)), 0, 4) else ((sculleryref06_Parse.l1 K p0 v2 v5 t8 (-1) (w64 ((t8.1.length : Int) - 1))).bind fun s34 => (if s34 < 0 then some (([] : List (Str × Str)), 0, 2) else (if (0 : Int) ≤ s34 then (if s34 ≤ (t8.1.length : Int) then (if (0 : Int) ≤ w64 (s34 + 1) then (if w64 (s34 + 1) ≤ (t8.1.length : Int) then ((sculleryref01_Trim.f K (t8.1.drop (w64 (s34 + 1)).toNat)).bind fun t43 => ((sculleryref01_Token.f K (t8.1.take s34.toNat)).bind fun t45 => (((if (!t45) = true then some true else ((sculleryref01_Text.f K t43).bind fun t51 => some (!t51)))).bind fun m47 => (if m47 = true then some (([] : List (Str × Str)), 0, 2) else ((sculleryref01_Lower.f K (t8.1.take s34.toNat)).bind fun t57 => (if v2.length + ([(t57, t43)] : List (Str × Str)).length ≤ 4294967296 then sculleryref06_Parse.l0 K k p0 (v2 ++ ([(t57, t43)] : List (Str × Str))) (w64 (v5 + t8.2.1)) else none)))))) else none) else none) else none) else none))))))) else none) else none)
def sculleryref06_Parse.f (K : Nat) (p0 : Str) : Option ((List (Str × Str)) × Int × Int) := (((sculleryref06_Parse.l0 K K p0 ([] : List (Str × Str)) 0).bind fun r72 => some r72))
abbrev sculleryref06_Parse.post (w0 : World) (r : (List (Str × Str)) × Int × Int) (u : Value) (w : World) : Prop := ∃ (o76 : Option Addr), ∃ (c77 : Nat), u = .tuple #[.slice o76 r.1.length c77, I r.2.1, I r.2.2] ∧ Ows [] w0 w [.row 0 60 2 (.slice o76 r.1.length c77) r.1.length (r.1.flatMap encT60)]
theorem sculleryref06_Parse.l1_ok : ∀ (k : Nat) (p0 : Str) (v2 : List (Str × Str)) (v5 : Int) (t8 : Str × Int × Int) (v21 : Int) (v22 : Int) (out : Int), sculleryref06_Parse.l1 k p0 v2 v5 t8 v21 v22 = some out → ∀ (o3 : Option Addr) (c4 : Nat) (w0 : World) (Q : Exit → Act → World → Prop) (rest : List It) (a : Act) (w : World), Kn 72 a [(0, S p0), (5, .slice o3 v2.length c4), (6, I (w64 (v5 + t8.2.1))), (7, S t8.1), (10, I v21), (11, I v22)] → Ows [] w0 w [.row 2 60 2 (.slice o3 v2.length c4) v2.length (v2.flatMap encT60)] → (∀ (s : Int) (a : Act) (w : World), out = s → Kn 72 a [(0, S p0), (5, .slice o3 v2.length c4), (6, I (w64 (v5 + t8.2.1))), (7, S t8.1), (10, I s)] → Ows [] w0 w [.row 2 60 2 (.slice o3 v2.length c4) v2.length (v2.flatMap encT60)] → G Tryz.prog Q rest a w) → G Tryz.prog Q (.code (C19 [1, 1, 1, 0, 0, 0, 1, 1, 1, 1, 1, 1, 0, 1, 0, 0]) :: .inl (C19 [1, 1, 1, 0, 0, 0, 1, 1, 1, 1, 1, 1, 0, 1, 0, 0]) :: .endb 2 :: rest) a w := by
  intro k
  induction k with
  | zero => intro p0 v2 v5 t8 v21 v22 out H; simp [sculleryref06_Parse.l1] at H
  | succ k ih =>
    intro p0 v2 v5 t8 v21 v22 out H o3 c4 w0 Q rest a w  hk ho J
    simp only [sculleryref06_Parse.l1] at H
    refine st_seq (C19 [1, 1, 1, 0, 0, 0, 1, 1, 1, 1, 1, 1, 0, 1, 0, 0, 0]) (C19 [1, 1, 1, 0, 0, 0, 1, 1, 1, 1, 1, 1, 0, 1, 0, 0, 1]) (by kernel_rfl) ?_
    refine st_seq (C19 [1, 1, 1, 0, 0, 0, 1, 1, 1, 1, 1, 1, 0, 1, 0, 0, 0, 0]) (C19 [1, 1, 1, 0, 0, 0, 1, 1, 1, 1, 1, 1, 0, 1, 0, 0, 0, 1]) (by kernel_rfl) ?_
    refine st_region 13 (opsOf (C19 [1, 1, 1, 0, 0, 0, 1, 1, 1, 1, 1, 1, 0, 1, 0, 0, 0, 0])) [0, 1] (by kernel_rfl) (by kernel_rfl) ?_
    refine st_pure tabOK hk [0, 1] [] [0, 5, 6, 7, 10, 11, 39] [(0, S p0), (5, .slice o3 v2.length c4), (6, I (w64 (v5 + t8.2.1))), (7, S t8.1), (10, I v21), (11, I v22), (39, .bool (decide (v22 ≥ 0)))] (True) (by kernel_rfl) trivial ?_
    clear hk; intro a hk
    refine st_done ?_
    refine st_cond hk (C19 [1, 1, 1, 0, 0, 0, 1, 1, 1, 1, 1, 1, 0, 1, 0, 0, 0, 1, 0]) (C19 [1, 1, 1, 0, 0, 0, 1, 1, 1, 1, 1, 1, 0, 1, 0, 0, 0, 1, 1]) (.tmp 39) (decide (v22 ≥ 0)) (by kernel_rfl) (by kernel_rfl) (fun h23 => ?_) (fun h23 => ?_)
    ·
      have h24 : v22 ≥ 0 := of_decide_eq_true h23
      rw [if_pos h24] at H
      refine st_skip (by kernel_rfl) ?_
      refine st_seq (C19 [1, 1, 1, 0, 0, 0, 1, 1, 1, 1, 1, 1, 0, 1, 0, 0, 1, 0]) (C19 [1, 1, 1, 0, 0, 0, 1, 1, 1, 1, 1, 1, 0, 1, 0, 0, 1, 1]) (by kernel_rfl) ?_
      refine st_block 3 (C19 [1, 1, 1, 0, 0, 0, 1, 1, 1, 1, 1, 1, 0, 1, 0, 0, 1, 0, 0]) (by kernel_rfl) ?_
      refine st_seq (C19 [1, 1, 1, 0, 0, 0, 1, 1, 1, 1, 1, 1, 0, 1, 0, 0, 1, 0, 0, 0]) (C19 [1, 1, 1, 0, 0, 0, 1, 1, 1, 1, 1, 1, 0, 1, 0, 0, 1, 0, 0, 1]) (by kernel_rfl) ?_
      refine st_region 15 (opsOf (C19 [1, 1, 1, 0, 0, 0, 1, 1, 1, 1, 1, 1, 0, 1, 0, 0, 1, 0, 0, 0])) [0, 1, 2, 3] (by kernel_rfl) (by kernel_rfl) ?_
      have h25 : (0 : Int) ≤ v22 := by
        by_cases h25 : (0 : Int) ≤ v22
        · exact h25
        · rw [if_neg h25] at H; cases H
      rw [if_pos h25] at H
      have h26 : v22 < (t8.1.length : Int) := by
        by_cases h26 : v22 < (t8.1.length : Int)
        · exact h26
        · rw [if_neg h26] at H; cases H
      rw [if_pos h26] at H
      refine st_pure tabOK hk [0, 1, 2, 3] [] [0, 5, 6, 7, 10, 11, 45] [(0, S p0), (5, .slice o3 v2.length c4), (6, I (w64 (v5 + t8.2.1))), (7, S t8.1), (10, I v21), (11, I v22), (45, .bool ((bt t8.1 v22) == 58))] (((0 : Int) ≤ v22 ∧ v22 < (t8.1.length : Int)) ∧ True) (by kernel_rfl) ⟨⟨h25, h26⟩, trivial⟩ ?_
      clear hk; intro a hk
      refine st_done ?_
      obtain ⟨m27, HX, H⟩ := Option.bind_eq_some_iff.1 H
      refine cut_code (fun a w => Kn 72 a [(0, S p0), (5, .slice o3 v2.length c4), (6, I (w64 (v5 + t8.2.1))), (7, S t8.1), (10, I m27), (11, I v22)] ∧ Ows [] w0 w [.row 2 60 2 (.slice o3 v2.length c4) v2.length (v2.flatMap encT60)]) ?_ ?_
      · intro J; clear H; have H := HX; clear HX
        refine st_cond hk (C19 [1, 1, 1, 0, 0, 0, 1, 1, 1, 1, 1, 1, 0, 1, 0, 0, 1, 0, 0, 1, 0]) (C19 [1, 1, 1, 0, 0, 0, 1, 1, 1, 1, 1, 1, 0, 1, 0, 0, 1, 0, 0, 1, 1]) (.tmp 45) ((bt t8.1 v22) == 58) (by kernel_rfl) (by kernel_rfl) (fun h28 => ?_) (fun h28 => ?_)
        ·
          have h29 : ((bt t8.1 v22) == 58) = true := h28
          rw [if_pos h29] at H
          refine st_region 16 (opsOf (C19 [1, 1, 1, 0, 0, 0, 1, 1, 1, 1, 1, 1, 0, 1, 0, 0, 1, 0, 0, 1, 0])) [0, 1] (by kernel_rfl) (by kernel_rfl) ?_
          refine st_pure tabOK hk [0, 1] [] [0, 5, 6, 7, 10, 11] [(0, S p0), (5, .slice o3 v2.length c4), (6, I (w64 (v5 + t8.2.1))), (7, S t8.1), (10, I v22), (11, I v22)] (True) (by kernel_rfl) trivial ?_
          clear hk; intro a hk
          refine st_done ?_
          obtain rfl := Option.some.inj H
          exact J a w ⟨hk.to [0, 5, 6, 7, 10, 11] _ (by kernel_rfl), ho⟩
        ·
          have h30 : ¬ (((bt t8.1 v22) == 58) = true) := ne_true_of_eq_false h28
          rw [if_neg h30] at H
          refine st_skip (by kernel_rfl) ?_
          obtain rfl := Option.some.inj H
          exact J a w ⟨hk.to [0, 5, 6, 7, 10, 11] _ (by kernel_rfl), ho⟩
      · clear HX; rintro a w ⟨hk, ho⟩
        refine st_endb 3 ?_
        refine st_region 14 (opsOf (C19 [1, 1, 1, 0, 0, 0, 1, 1, 1, 1, 1, 1, 0, 1, 0, 0, 1, 1])) [0, 1, 2] (by kernel_rfl) (by kernel_rfl) ?_
        refine st_pure tabOK hk [0, 1, 2] [] [0, 5, 6, 7, 10, 11] [(0, S p0), (5, .slice o3 v2.length c4), (6, I (w64 (v5 + t8.2.1))), (7, S t8.1), (10, I m27), (11, I (w64 (v22 - 1)))] (True) (by kernel_rfl) trivial ?_
        clear hk; intro a hk
        refine st_done ?_
        refine st_inl ?_
        exact ih p0 v2 v5 t8 m27 (w64 (v22 - 1)) out H o3 c4 w0 Q rest a w  (hk.to [0, 5, 6, 7, 10, 11] _ (by kernel_rfl)) ho J
    ·
      have h31 : ¬ (v22 ≥ 0) := of_decide_eq_false h23
      rw [if_neg h31] at H
      refine st_exit 2 _ (by kernel_rfl) rfl ?_
      obtain rfl := Option.some.inj H
      exact J v21  a w rfl (hk.to [0, 5, 6, 7, 10] _ (by kernel_rfl)) ho

theorem sculleryref06_Parse.l0_ok (K : Nat) : ∀ (k : Nat) (p0 : Str) (v2 : List (Str × Str)) (v5 : Int) (out : (List (Str × Str)) × Int × Int), sculleryref06_Parse.l0 K k p0 v2 v5 = some out → ∀ (o3 : Option Addr) (c4 : Nat) (w0 : World) (Q : Exit → Act → World → Prop) (rest : List It) (a : Act) (w : World), Kn 72 a [(0, S p0), (5, .slice o3 v2.length c4), (6, I v5)] → Ows [] w0 w [.row 2 60 2 (.slice o3 v2.length c4) v2.length (v2.flatMap encT60)] → (∀ (r : (List (Str × Str)) × Int × Int) (o66 : Option Addr) (c67 : Nat) (a : Act) (w : World), out = r → Kn 72 a [(2, .slice o66 r.1.length c67), (3, I r.2.1), (4, I r.2.2)] → Ows [] w0 w [.row 0 60 2 (.slice o66 r.1.length c67) r.1.length (r.1.flatMap encT60)] → Q .ret a w) → G Tryz.prog Q (.code (C19 [1, 1, 1, 0, 0]) :: .inl (C19 [1, 1, 1, 0, 0]) :: rest) a w := by
  intro k
  induction k with
  | zero => intro p0 v2 v5 out H; simp [sculleryref06_Parse.l0] at H
  | succ k ih =>
    intro p0 v2 v5 out H o3 c4 w0 Q rest a w  hk ho R
    simp only [sculleryref06_Parse.l0] at H
    refine st_block 1 (C19 [1, 1, 1, 0, 0, 0]) (by kernel_rfl) ?_
    refine st_seq (C19 [1, 1, 1, 0, 0, 0, 0]) (C19 [1, 1, 1, 0, 0, 0, 1]) (by kernel_rfl) ?_
    refine st_region 3 (opsOf (C19 [1, 1, 1, 0, 0, 0, 0])) [0, 1, 2, 3, 4, 5, 6, 7, 8, 9, 10] (by kernel_rfl) (by kernel_rfl) ?_
    have h6 : (0 : Int) ≤ v5 := by
      by_cases h6 : (0 : Int) ≤ v5
      · exact h6
      · rw [if_neg h6] at H; cases H
    rw [if_pos h6] at H
    have h7 : v5 ≤ (p0.length : Int) := by
      by_cases h7 : v5 ≤ (p0.length : Int)
      · exact h7
      · rw [if_neg h7] at H; cases H
    rw [if_pos h7] at H
    refine st_pure tabOK hk [0, 1, 2] [3, 4, 5, 6, 7, 8, 9, 10] [0, 5, 6, 17] [(0, S p0), (5, .slice o3 v2.length c4), (6, I v5), (17, S (p0.drop v5.toNat))] (((0 : Int) ≤ v5 ∧ v5 ≤ (p0.length : Int)) ∧ True) (by kernel_rfl) ⟨⟨h6, h7⟩, trivial⟩ ?_
    clear hk; intro a hk
    obtain ⟨t8, h9, H⟩ := Option.bind_eq_some_iff.1 H
    refine st_call hk 17 [S (p0.drop v5.toNat)] (some 18) enters17 (by kernel_rfl) (sculleryref06_Line.ok K  (p0.drop v5.toNat) t8 h9 w ) ?_
    clear hk; rintro a u w ⟨rfl, ho'⟩ hk
    replace ho : Ows [] w0 w [.row 2 60 2 (.slice o3 v2.length c4) v2.length (v2.flatMap encT60)] := ho.call ho'; clear ho'
    refine st_pure tabOK hk [4, 5, 6, 7, 8, 9, 10] [] [0, 5, 6, 7, 8, 9] [(0, S p0), (5, .slice o3 v2.length c4), (6, I v5), (7, S t8.1), (8, I t8.2.1), (9, I t8.2.2)] (True) (by kernel_rfl) trivial ?_
    clear hk; intro a hk
    refine st_done ?_
    refine st_seq (C19 [1, 1, 1, 0, 0, 0, 1, 0]) (C19 [1, 1, 1, 0, 0, 0, 1, 1]) (by kernel_rfl) ?_
    refine st_seq (C19 [1, 1, 1, 0, 0, 0, 1, 0, 0]) (C19 [1, 1, 1, 0, 0, 0, 1, 0, 1]) (by kernel_rfl) ?_
    refine st_region 4 (opsOf (C19 [1, 1, 1, 0, 0, 0, 1, 0, 0])) [0, 1] (by kernel_rfl) (by kernel_rfl) ?_
    refine st_pure tabOK hk [0, 1] [] [0, 5, 6, 7, 8, 9, 23] [(0, S p0), (5, .slice o3 v2.length c4), (6, I v5), (7, S t8.1), (8, I t8.2.1), (9, I t8.2.2), (23, .bool (t8.2.2 != 0))] (True) (by kernel_rfl) trivial ?_
    clear hk; intro a hk
    refine st_done ?_
    refine st_cond hk (C19 [1, 1, 1, 0, 0, 0, 1, 0, 1, 0]) (C19 [1, 1, 1, 0, 0, 0, 1, 0, 1, 1]) (.tmp 23) (t8.2.2 != 0) (by kernel_rfl) (by kernel_rfl) (fun h10 => ?_) (fun h10 => ?_)
    ·
      have h11 : (t8.2.2 != 0) = true := h10
      rw [if_pos h11] at H
      refine st_seq (C19 [1, 1, 1, 0, 0, 0, 1, 0, 1, 0, 0]) (C19 [1, 1, 1, 0, 0, 0, 1, 0, 1, 0, 1]) (by kernel_rfl) ?_
      refine st_region 5 (opsOf (C19 [1, 1, 1, 0, 0, 0, 1, 0, 1, 0, 0])) [0, 1, 2, 3] (by kernel_rfl) (by kernel_rfl) ?_
      refine st_pure tabOK hk [0, 1, 2, 3] [] [2, 3, 4] [(2, .slice none 0 0), (3, I 0), (4, I t8.2.2)] (True) (by kernel_rfl) trivial ?_
      clear hk; intro a hk
      refine st_done ?_
      refine st_ret (by kernel_rfl) ?_
      replace ho := ho.nilRow 0 60 2
      replace ho : Ows [] w0 w [.row 0 60 2 (.slice none 0 0) 0 (([] : List (Str × Str)).flatMap encT60)] := ho.erase 1
      obtain rfl := Option.some.inj H
      exact R (([] : List (Str × Str)), 0, t8.2.2) none 0 a w rfl (hk.to [2, 3, 4] _ (by kernel_rfl)) ho
    ·
      have h13 : ¬ ((t8.2.2 != 0) = true) := ne_true_of_eq_false h10
      rw [if_neg h13] at H
      refine st_skip (by kernel_rfl) ?_
      refine st_seq (C19 [1, 1, 1, 0, 0, 0, 1, 1, 0]) (C19 [1, 1, 1, 0, 0, 0, 1, 1, 1]) (by kernel_rfl) ?_
      refine st_region 6 (opsOf (C19 [1, 1, 1, 0, 0, 0, 1, 1, 0])) [0, 1, 2, 3] (by kernel_rfl) (by kernel_rfl) ?_
      refine st_pure tabOK hk [0, 1, 2, 3] [] [0, 5, 6, 7] [(0, S p0), (5, .slice o3 v2.length c4), (6, I (w64 (v5 + t8.2.1))), (7, S t8.1)] (True) (by kernel_rfl) trivial ?_
      clear hk; intro a hk
      refine st_done ?_
      refine st_seq (C19 [1, 1, 1, 0, 0, 0, 1, 1, 1, 0]) (C19 [1, 1, 1, 0, 0, 0, 1, 1, 1, 1]) (by kernel_rfl) ?_
      refine st_seq (C19 [1, 1, 1, 0, 0, 0, 1, 1, 1, 0, 0]) (C19 [1, 1, 1, 0, 0, 0, 1, 1, 1, 0, 1]) (by kernel_rfl) ?_
      refine st_region 7 (opsOf (C19 [1, 1, 1, 0, 0, 0, 1, 1, 1, 0, 0])) [0, 1] (by kernel_rfl) (by kernel_rfl) ?_
      refine st_pure tabOK hk [0, 1] [] [0, 5, 6, 7, 29] [(0, S p0), (5, .slice o3 v2.length c4), (6, I (w64 (v5 + t8.2.1))), (7, S t8.1), (29, .bool (t8.1 == ([])))] (True) (by kernel_rfl) trivial ?_
      clear hk; intro a hk
      refine st_done ?_
      refine st_cond hk (C19 [1, 1, 1, 0, 0, 0, 1, 1, 1, 0, 1, 0]) (C19 [1, 1, 1, 0, 0, 0, 1, 1, 1, 0, 1, 1]) (.tmp 29) (t8.1 == ([])) (by kernel_rfl) (by kernel_rfl) (fun h14 => ?_) (fun h14 => ?_)
      ·
        have h15 : (t8.1 == ([])) = true := h14
        rw [if_pos h15] at H
        refine st_seq (C19 [1, 1, 1, 0, 0, 0, 1, 1, 1, 0, 1, 0, 0]) (C19 [1, 1, 1, 0, 0, 0, 1, 1, 1, 0, 1, 0, 1]) (by kernel_rfl) ?_
        refine st_region 8 (opsOf (C19 [1, 1, 1, 0, 0, 0, 1, 1, 1, 0, 1, 0, 0])) [0, 1, 2, 3, 4] (by kernel_rfl) (by kernel_rfl) ?_
        refine st_pure tabOK hk [0, 1, 2, 3, 4] [] [2, 3, 4] [(2, .slice o3 v2.length c4), (3, I (w64 (v5 + t8.2.1))), (4, I 0)] (True) (by kernel_rfl) trivial ?_
        clear hk; intro a hk
        refine st_done ?_
        refine st_ret (by kernel_rfl) ?_
        replace ho : Ows [] w0 w [.row 0 60 2 (.slice o3 v2.length c4) v2.length (v2.flatMap encT60)] := ho.weak 0 rfl _ rfl
        obtain rfl := Option.some.inj H
        exact R (v2, w64 (v5 + t8.2.1), 0) o3 c4 a w rfl (hk.to [2, 3, 4] _ (by kernel_rfl)) ho
      ·
        have h16 : ¬ ((t8.1 == ([])) = true) := ne_true_of_eq_false h14
        rw [if_neg h16] at H
        refine st_skip (by kernel_rfl) ?_
        refine st_seq (C19 [1, 1, 1, 0, 0, 0, 1, 1, 1, 1, 0]) (C19 [1, 1, 1, 0, 0, 0, 1, 1, 1, 1, 1]) (by kernel_rfl) ?_
        refine st_seq (C19 [1, 1, 1, 0, 0, 0, 1, 1, 1, 1, 0, 0]) (C19 [1, 1, 1, 0, 0, 0, 1, 1, 1, 1, 0, 1]) (by kernel_rfl) ?_
        refine st_region 9 (opsOf (C19 [1, 1, 1, 0, 0, 0, 1, 1, 1, 1, 0, 0])) [0, 1, 2] (by kernel_rfl) (by kernel_rfl) ?_
        refine st_pure tabOK hk [0, 1, 2] [] [0, 5, 6, 7, 34] [(0, S p0), (5, .slice o3 v2.length c4), (6, I (w64 (v5 + t8.2.1))), (7, S t8.1), (34, .bool (decide ((v2.length : Int) ≥ 64)))] (True) (by kernel_rfl) trivial ?_
        clear hk; intro a hk
        refine st_done ?_
        refine st_cond hk (C19 [1, 1, 1, 0, 0, 0, 1, 1, 1, 1, 0, 1, 0]) (C19 [1, 1, 1, 0, 0, 0, 1, 1, 1, 1, 0, 1, 1]) (.tmp 34) (decide ((v2.length : Int) ≥ 64)) (by kernel_rfl) (by kernel_rfl) (fun h17 => ?_) (fun h17 => ?_)
        ·
          have h18 : (v2.length : Int) ≥ 64 := of_decide_eq_true h17
          rw [if_pos h18] at H
          refine st_seq (C19 [1, 1, 1, 0, 0, 0, 1, 1, 1, 1, 0, 1, 0, 0]) (C19 [1, 1, 1, 0, 0, 0, 1, 1, 1, 1, 0, 1, 0, 1]) (by kernel_rfl) ?_
          refine st_region 10 (opsOf (C19 [1, 1, 1, 0, 0, 0, 1, 1, 1, 1, 0, 1, 0, 0])) [0, 1, 2] (by kernel_rfl) (by kernel_rfl) ?_
          refine st_pure tabOK hk [0, 1, 2] [] [2, 3, 4] [(2, .slice none 0 0), (3, I 0), (4, I 4)] (True) (by kernel_rfl) trivial ?_
          clear hk; intro a hk
          refine st_done ?_
          refine st_ret (by kernel_rfl) ?_
          replace ho := ho.nilRow 0 60 2
          replace ho : Ows [] w0 w [.row 0 60 2 (.slice none 0 0) 0 (([] : List (Str × Str)).flatMap encT60)] := ho.erase 1
          obtain rfl := Option.some.inj H
          exact R (([] : List (Str × Str)), 0, 4) none 0 a w rfl (hk.to [2, 3, 4] _ (by kernel_rfl)) ho
        ·
          have h20 : ¬ ((v2.length : Int) ≥ 64) := of_decide_eq_false h17
          rw [if_neg h20] at H
          refine st_skip (by kernel_rfl) ?_
          refine st_seq (C19 [1, 1, 1, 0, 0, 0, 1, 1, 1, 1, 1, 0]) (C19 [1, 1, 1, 0, 0, 0, 1, 1, 1, 1, 1, 1]) (by kernel_rfl) ?_
          refine st_region 11 (opsOf (C19 [1, 1, 1, 0, 0, 0, 1, 1, 1, 1, 1, 0])) [0] (by kernel_rfl) (by kernel_rfl) ?_
          refine st_pure tabOK hk [0] [] [0, 5, 6, 7, 10] [(0, S p0), (5, .slice o3 v2.length c4), (6, I (w64 (v5 + t8.2.1))), (7, S t8.1), (10, I (-1))] (True) (by kernel_rfl) trivial ?_
          clear hk; intro a hk
          refine st_done ?_
          refine st_seq (C19 [1, 1, 1, 0, 0, 0, 1, 1, 1, 1, 1, 1, 0]) (C19 [1, 1, 1, 0, 0, 0, 1, 1, 1, 1, 1, 1, 1]) (by kernel_rfl) ?_
          refine st_seq (C19 [1, 1, 1, 0, 0, 0, 1, 1, 1, 1, 1, 1, 0, 0]) (C19 [1, 1, 1, 0, 0, 0, 1, 1, 1, 1, 1, 1, 0, 1]) (by kernel_rfl) ?_
          refine st_region 12 (opsOf (C19 [1, 1, 1, 0, 0, 0, 1, 1, 1, 1, 1, 1, 0, 0])) [0, 1, 2, 3] (by kernel_rfl) (by kernel_rfl) ?_
          refine st_pure tabOK hk [0, 1, 2, 3] [] [0, 5, 6, 7, 10, 11] [(0, S p0), (5, .slice o3 v2.length c4), (6, I (w64 (v5 + t8.2.1))), (7, S t8.1), (10, I (-1)), (11, I (w64 ((t8.1.length : Int) - 1)))] (True) (by kernel_rfl) trivial ?_
          clear hk; intro a hk
          refine st_done ?_
          refine st_block 2 (C19 [1, 1, 1, 0, 0, 0, 1, 1, 1, 1, 1, 1, 0, 1, 0]) (by kernel_rfl) ?_
          obtain ⟨m32, h33, H⟩ := Option.bind_eq_some_iff.1 H
          refine st_loop (C19 [1, 1, 1, 0, 0, 0, 1, 1, 1, 1, 1, 1, 0, 1, 0, 0]) (by kernel_rfl) ?_
          refine sculleryref06_Parse.l1_ok K p0 v2 v5 t8 (-1) (w64 ((t8.1.length : Int) - 1)) m32 h33 o3 c4 w0 _ _ a w  (hk.to [0, 5, 6, 7, 10, 11] _ (by kernel_rfl)) ho ?_
          · intro s34  a w e hk ho; have e := e.symm; subst e
            refine st_seq (C19 [1, 1, 1, 0, 0, 0, 1, 1, 1, 1, 1, 1, 1, 0]) (C19 [1, 1, 1, 0, 0, 0, 1, 1, 1, 1, 1, 1, 1, 1]) (by kernel_rfl) ?_
            refine st_seq (C19 [1, 1, 1, 0, 0, 0, 1, 1, 1, 1, 1, 1, 1, 0, 0]) (C19 [1, 1, 1, 0, 0, 0, 1, 1, 1, 1, 1, 1, 1, 0, 1]) (by kernel_rfl) ?_
            refine st_region 17 (opsOf (C19 [1, 1, 1, 0, 0, 0, 1, 1, 1, 1, 1, 1, 1, 0, 0])) [0, 1] (by kernel_rfl) (by kernel_rfl) ?_
            refine st_pure tabOK hk [0, 1] [] [0, 5, 6, 7, 10, 48] [(0, S p0), (5, .slice o3 v2.length c4), (6, I (w64 (v5 + t8.2.1))), (7, S t8.1), (10, I s34), (48, .bool (decide (s34 < 0)))] (True) (by kernel_rfl) trivial ?_
            clear hk; intro a hk
            refine st_done ?_
            refine st_cond hk (C19 [1, 1, 1, 0, 0, 0, 1, 1, 1, 1, 1, 1, 1, 0, 1, 0]) (C19 [1, 1, 1, 0, 0, 0, 1, 1, 1, 1, 1, 1, 1, 0, 1, 1]) (.tmp 48) (decide (s34 < 0)) (by kernel_rfl) (by kernel_rfl) (fun h35 => ?_) (fun h35 => ?_)
            ·
              have h36 : s34 < 0 := of_decide_eq_true h35
              rw [if_pos h36] at H
              refine st_seq (C19 [1, 1, 1, 0, 0, 0, 1, 1, 1, 1, 1, 1, 1, 0, 1, 0, 0]) (C19 [1, 1, 1, 0, 0, 0, 1, 1, 1, 1, 1, 1, 1, 0, 1, 0, 1]) (by kernel_rfl) ?_
              refine st_region 18 (opsOf (C19 [1, 1, 1, 0, 0, 0, 1, 1, 1, 1, 1, 1, 1, 0, 1, 0, 0])) [0, 1, 2] (by kernel_rfl) (by kernel_rfl) ?_
              refine st_pure tabOK hk [0, 1, 2] [] [2, 3, 4] [(2, .slice none 0 0), (3, I 0), (4, I 2)] (True) (by kernel_rfl) trivial ?_
              clear hk; intro a hk
              refine st_done ?_
              refine st_ret (by kernel_rfl) ?_
              replace ho := ho.nilRow 0 60 2
              replace ho : Ows [] w0 w [.row 0 60 2 (.slice none 0 0) 0 (([] : List (Str × Str)).flatMap encT60)] := ho.erase 1
              obtain rfl := Option.some.inj H
              exact R (([] : List (Str × Str)), 0, 2) none 0 a w rfl (hk.to [2, 3, 4] _ (by kernel_rfl)) ho
            ·
              have h38 : ¬ (s34 < 0) := of_decide_eq_false h35
              rw [if_neg h38] at H
              refine st_skip (by kernel_rfl) ?_
              refine st_seq (C19 [1, 1, 1, 0, 0, 0, 1, 1, 1, 1, 1, 1, 1, 1, 0]) (C19 [1, 1, 1, 0, 0, 0, 1, 1, 1, 1, 1, 1, 1, 1, 1]) (by kernel_rfl) ?_
              refine st_region 19 (opsOf (C19 [1, 1, 1, 0, 0, 0, 1, 1, 1, 1, 1, 1, 1, 1, 0])) [0, 1, 2, 3] (by kernel_rfl) (by kernel_rfl) ?_
              have h39 : (0 : Int) ≤ s34 := by
                by_cases h39 : (0 : Int) ≤ s34
                · exact h39
                · rw [if_neg h39] at H; cases H
              rw [if_pos h39] at H
              have h40 : s34 ≤ (t8.1.length : Int) := by
                by_cases h40 : s34 ≤ (t8.1.length : Int)
                · exact h40
                · rw [if_neg h40] at H; cases H
              rw [if_pos h40] at H
              refine st_pure tabOK hk [0, 1, 2, 3] [] [0, 5, 6, 7, 10, 12] [(0, S p0), (5, .slice o3 v2.length c4), (6, I (w64 (v5 + t8.2.1))), (7, S t8.1), (10, I s34), (12, S (t8.1.take s34.toNat))] (((0 : Int) ≤ s34 ∧ s34 ≤ (t8.1.length : Int)) ∧ True) (by kernel_rfl) ⟨⟨h39, h40⟩, trivial⟩ ?_
              clear hk; intro a hk
              refine st_done ?_
              refine st_seq (C19 [1, 1, 1, 0, 0, 0, 1, 1, 1, 1, 1, 1, 1, 1, 1, 0]) (C19 [1, 1, 1, 0, 0, 0, 1, 1, 1, 1, 1, 1, 1, 1, 1, 1]) (by kernel_rfl) ?_
              refine st_region 20 (opsOf (C19 [1, 1, 1, 0, 0, 0, 1, 1, 1, 1, 1, 1, 1, 1, 1, 0])) [0, 1, 2, 3, 4, 5] (by kernel_rfl) (by kernel_rfl) ?_
              have h41 : (0 : Int) ≤ w64 (s34 + 1) := by
                by_cases h41 : (0 : Int) ≤ w64 (s34 + 1)
                · exact h41
                · rw [if_neg h41] at H; cases H
              rw [if_pos h41] at H
              have h42 : w64 (s34 + 1) ≤ (t8.1.length : Int) := by
                by_cases h42 : w64 (s34 + 1) ≤ (t8.1.length : Int)
                · exact h42
                · rw [if_neg h42] at H; cases H
              rw [if_pos h42] at H
              refine st_pure tabOK hk [0, 1, 2, 3] [4, 5] [0, 5, 6, 12, 55] [(0, S p0), (5, .slice o3 v2.length c4), (6, I (w64 (v5 + t8.2.1))), (12, S (t8.1.take s34.toNat)), (55, S (t8.1.drop (w64 (s34 + 1)).toNat))] (((0 : Int) ≤ w64 (s34 + 1) ∧ w64 (s34 + 1) ≤ (t8.1.length : Int)) ∧ True) (by kernel_rfl) ⟨⟨h41, h42⟩, trivial⟩ ?_
              clear hk; intro a hk
              obtain ⟨t43, h44, H⟩ := Option.bind_eq_some_iff.1 H
              refine st_call hk 33 [S (t8.1.drop (w64 (s34 + 1)).toNat)] (some 56) enters33 (by kernel_rfl) (sculleryref01_Trim.ok K  (t8.1.drop (w64 (s34 + 1)).toNat) t43 h44 w ) ?_
              clear hk; rintro a u w ⟨rfl, ho'⟩ hk
              replace ho : Ows [] w0 w [.row 2 60 2 (.slice o3 v2.length c4) v2.length (v2.flatMap encT60)] := ho.call ho'; clear ho'
              refine st_pure tabOK hk [5] [] [0, 5, 6, 12, 13] [(0, S p0), (5, .slice o3 v2.length c4), (6, I (w64 (v5 + t8.2.1))), (12, S (t8.1.take s34.toNat)), (13, S t43)] (True) (by kernel_rfl) trivial ?_
              clear hk; intro a hk
              refine st_done ?_
              refine st_seq (C19 [1, 1, 1, 0, 0, 0, 1, 1, 1, 1, 1, 1, 1, 1, 1, 1, 0]) (C19 [1, 1, 1, 0, 0, 0, 1, 1, 1, 1, 1, 1, 1, 1, 1, 1, 1]) (by kernel_rfl) ?_
              refine st_seq (C19 [1, 1, 1, 0, 0, 0, 1, 1, 1, 1, 1, 1, 1, 1, 1, 1, 0, 0]) (C19 [1, 1, 1, 0, 0, 0, 1, 1, 1, 1, 1, 1, 1, 1, 1, 1, 0, 1]) (by kernel_rfl) ?_
              refine st_region 21 (opsOf (C19 [1, 1, 1, 0, 0, 0, 1, 1, 1, 1, 1, 1, 1, 1, 1, 1, 0, 0])) [0, 1, 2, 3, 4, 5, 6, 7] (by kernel_rfl) (by kernel_rfl) ?_
              refine st_pure tabOK hk [0] [1, 2, 3, 4, 5, 6, 7] [0, 5, 6, 12, 13, 57] [(0, S p0), (5, .slice o3 v2.length c4), (6, I (w64 (v5 + t8.2.1))), (12, S (t8.1.take s34.toNat)), (13, S t43), (57, S (t8.1.take s34.toNat))] (True) (by kernel_rfl) trivial ?_
              clear hk; intro a hk
              obtain ⟨t45, h46, H⟩ := Option.bind_eq_some_iff.1 H
              refine st_call hk 34 [S (t8.1.take s34.toNat)] (some 58) enters34 (by kernel_rfl) (sculleryref01_Token.ok K  (t8.1.take s34.toNat) t45 h46 w ) ?_
              clear hk; rintro a u w ⟨rfl, ho'⟩ hk
              replace ho : Ows [] w0 w [.row 2 60 2 (.slice o3 v2.length c4) v2.length (v2.flatMap encT60)] := ho.call ho'; clear ho'
              refine st_pure tabOK hk [2, 3] [4, 5, 6, 7] [0, 5, 6, 12, 13, 60] [(0, S p0), (5, .slice o3 v2.length c4), (6, I (w64 (v5 + t8.2.1))), (12, S (t8.1.take s34.toNat)), (13, S t43), (60, .bool (!t45))] (True) (by kernel_rfl) trivial ?_
              clear hk; intro a hk
              obtain ⟨m47, HX, H⟩ := Option.bind_eq_some_iff.1 H
              refine cut_ops (fun a w => Kn 72 a [(0, S p0), (5, .slice o3 v2.length c4), (6, I (w64 (v5 + t8.2.1))), (12, S (t8.1.take s34.toNat)), (13, S t43), (64, .bool m47)] ∧ Ows [] w0 w [.row 2 60 2 (.slice o3 v2.length c4) v2.length (v2.flatMap encT60)]) ?_ ?_
              · intro J; clear H; have H := HX; clear HX
                rcases Bool.eq_false_or_eq_true (!t45) with h48 | h48
                ·
                  rw [h48] at hk
                  have h49 : (!t45) = true := h48
                  rw [if_pos h49] at H
                  refine st_pure tabOK hk [4, 5, 6, 7] [] [0, 5, 6, 12, 13, 64] [(0, S p0), (5, .slice o3 v2.length c4), (6, I (w64 (v5 + t8.2.1))), (12, S (t8.1.take s34.toNat)), (13, S t43), (64, .bool true)] (True) (by kernel_rfl) trivial ?_
                  clear hk; intro a hk
                  refine st_done ?_
                  obtain rfl := Option.some.inj H
                  exact J a w ⟨hk.to [0, 5, 6, 12, 13, 64] _ (by kernel_rfl), ho⟩
                ·
                  rw [h48] at hk
                  have h50 : ¬ ((!t45) = true) := ne_true_of_eq_false h48
                  rw [if_neg h50] at H
                  refine st_pure tabOK hk [4] [5, 6, 7] [0, 5, 6, 12, 13, 60, 61] [(0, S p0), (5, .slice o3 v2.length c4), (6, I (w64 (v5 + t8.2.1))), (12, S (t8.1.take s34.toNat)), (13, S t43), (60, .bool false), (61, S t43)] (True) (by kernel_rfl) trivial ?_
                  clear hk; intro a hk
                  obtain ⟨t51, h52, H⟩ := Option.bind_eq_some_iff.1 H
                  refine st_call hk 32 [S t43] (some 62) enters32 (by kernel_rfl) (sculleryref01_Text.ok K  t43 t51 h52 w ) ?_
                  clear hk; rintro a u w ⟨rfl, ho'⟩ hk
                  replace ho : Ows [] w0 w [.row 2 60 2 (.slice o3 v2.length c4) v2.length (v2.flatMap encT60)] := ho.call ho'; clear ho'
                  refine st_pure tabOK hk [6, 7] [] [0, 5, 6, 12, 13, 64] [(0, S p0), (5, .slice o3 v2.length c4), (6, I (w64 (v5 + t8.2.1))), (12, S (t8.1.take s34.toNat)), (13, S t43), (64, .bool (!t51))] (True) (by kernel_rfl) trivial ?_
                  clear hk; intro a hk
                  refine st_done ?_
                  obtain rfl := Option.some.inj H
                  exact J a w ⟨hk.to [0, 5, 6, 12, 13, 64] _ (by kernel_rfl), ho⟩
              · clear HX; rintro a w ⟨hk, ho⟩
                refine st_cond hk (C19 [1, 1, 1, 0, 0, 0, 1, 1, 1, 1, 1, 1, 1, 1, 1, 1, 0, 1, 0]) (C19 [1, 1, 1, 0, 0, 0, 1, 1, 1, 1, 1, 1, 1, 1, 1, 1, 0, 1, 1]) (.tmp 64) (m47) (by kernel_rfl) (by kernel_rfl) (fun h53 => ?_) (fun h53 => ?_)
                ·
                  have h54 : m47 = true := h53
                  rw [if_pos h54] at H
                  refine st_seq (C19 [1, 1, 1, 0, 0, 0, 1, 1, 1, 1, 1, 1, 1, 1, 1, 1, 0, 1, 0, 0]) (C19 [1, 1, 1, 0, 0, 0, 1, 1, 1, 1, 1, 1, 1, 1, 1, 1, 0, 1, 0, 1]) (by kernel_rfl) ?_
                  refine st_region 22 (opsOf (C19 [1, 1, 1, 0, 0, 0, 1, 1, 1, 1, 1, 1, 1, 1, 1, 1, 0, 1, 0, 0])) [0, 1, 2] (by kernel_rfl) (by kernel_rfl) ?_
                  refine st_pure tabOK hk [0, 1, 2] [] [2, 3, 4] [(2, .slice none 0 0), (3, I 0), (4, I 2)] (True) (by kernel_rfl) trivial ?_
                  clear hk; intro a hk
                  refine st_done ?_
                  refine st_ret (by kernel_rfl) ?_
                  replace ho := ho.nilRow 0 60 2
                  replace ho : Ows [] w0 w [.row 0 60 2 (.slice none 0 0) 0 (([] : List (Str × Str)).flatMap encT60)] := ho.erase 1
                  obtain rfl := Option.some.inj H
                  exact R (([] : List (Str × Str)), 0, 2) none 0 a w rfl (hk.to [2, 3, 4] _ (by kernel_rfl)) ho
                ·
                  have h56 : ¬ (m47 = true) := ne_true_of_eq_false h53
                  rw [if_neg h56] at H
                  refine st_skip (by kernel_rfl) ?_
                  refine st_region 23 (opsOf (C19 [1, 1, 1, 0, 0, 0, 1, 1, 1, 1, 1, 1, 1, 1, 1, 1, 1])) [0, 1, 2, 3, 4, 5, 6, 7] (by kernel_rfl) (by kernel_rfl) ?_
                  refine st_pure tabOK hk [0, 1] [2, 3, 4, 5, 6, 7] [0, 6, 13, 65, 66] [(0, S p0), (6, I (w64 (v5 + t8.2.1))), (13, S t43), (65, .slice o3 v2.length c4), (66, S (t8.1.take s34.toNat))] (True) (by kernel_rfl) trivial ?_
                  clear hk; intro a hk
                  obtain ⟨t57, h58, H⟩ := Option.bind_eq_some_iff.1 H
                  refine st_call hk 35 [S (t8.1.take s34.toNat)] (some 67) enters35 (by kernel_rfl) (sculleryref01_Lower.ok K  (t8.1.take s34.toNat) t57 h58 w ) ?_
                  clear hk; rintro a u w ⟨rfl, ho'⟩ hk
                  replace ho : Ows [] w0 w [.row 2 60 2 (.slice o3 v2.length c4) v2.length (v2.flatMap encT60)] := ho.call ho'; clear ho'
                  refine st_pure tabOK hk [3, 4] [5, 6, 7] [0, 6, 65, 69] [(0, S p0), (6, I (w64 (v5 + t8.2.1))), (65, .slice o3 v2.length c4), (69, .agg #[S t57, S t43])] (True) (by kernel_rfl) trivial ?_
                  clear hk; intro a hk
                  refine st_lit tabOK hk ho #[S t57, S t43] 60 2 1 70 (by kernel_rfl) ?_
                  clear hk ho; intro a o59 w h60 hk ho
                  replace ho : Ows [] w0 w [.row 0 60 2 (.slice o59 (([(t57, t43)] : List (Str × Str)).length) 1) (([(t57, t43)] : List (Str × Str)).length) (([(t57, t43)] : List (Str × Str)).flatMap encT60), .row 2 60 2 (.slice o3 v2.length c4) v2.length (v2.flatMap encT60)] := ho
                  replace hk : Kn 72 a [(0, S p0), (6, I (w64 (v5 + t8.2.1))), (65, .slice o3 v2.length c4), (70, .slice o59 (([(t57, t43)] : List (Str × Str)).length) 1)] := hk.to [0, 6, 65, 70] _ (by kernel_rfl)
                  have h62 : v2.length + ([(t57, t43)] : List (Str × Str)).length ≤ 4294967296 := by
                    by_cases h62 : v2.length + ([(t57, t43)] : List (Str × Str)).length ≤ 4294967296
                    · exact h62
                    · rw [if_neg h62] at H; cases H
                  rw [if_pos h62] at H
                  refine st_append tabOK hk ho 1 45 60 2 71 (.agg #[S ([]), S ([])]) o3 v2.length c4 (v2.flatMap encT60) o59 (([(t57, t43)] : List (Str × Str)).length) 1 (([(t57, t43)] : List (Str × Str)).flatMap encT60) (by kernel_rfl) (by kernel_rfl) (by kernel_rfl) (by decide) rfl (flat_len encT60_len _) (ho.rd 0 rfl) (one_flat encT60_one _) h62 ((v2 ++ ([(t57, t43)] : List (Str × Str))).length) ((v2 ++ ([(t57, t43)] : List (Str × Str))).flatMap encT60) (by simp) (by first | rfl | exact (List.flatMap_append ..).symm) ?_
                  clear hk ho; intro a o63 c64 w h65 hk ho
                  replace ho : Ows [] w0 w [.row 0 60 2 (.slice o59 (([(t57, t43)] : List (Str × Str)).length) 1) (([(t57, t43)] : List (Str × Str)).length) (([(t57, t43)] : List (Str × Str)).flatMap encT60), .row 2 60 2 (.slice o63 ((v2 ++ ([(t57, t43)] : List (Str × Str))).length) c64) ((v2 ++ ([(t57, t43)] : List (Str × Str))).length) ((v2 ++ ([(t57, t43)] : List (Str × Str))).flatMap encT60)] := ho
                  refine st_pure tabOK hk [7] [] [0, 5, 6] [(0, S p0), (5, .slice o63 ((v2 ++ ([(t57, t43)] : List (Str × Str))).length) c64), (6, I (w64 (v5 + t8.2.1)))] (True) (by kernel_rfl) trivial ?_
                  clear hk; intro a hk
                  refine st_done ?_
                  refine st_endb 1 ?_
                  refine st_inl ?_
                  replace ho : Ows [] w0 w [.row 2 60 2 (.slice o63 ((v2 ++ ([(t57, t43)] : List (Str × Str))).length) c64) ((v2 ++ ([(t57, t43)] : List (Str × Str))).length) ((v2 ++ ([(t57, t43)] : List (Str × Str))).flatMap encT60)] := ho.erase 0
                  exact ih p0 (v2 ++ ([(t57, t43)] : List (Str × Str))) (w64 (v5 + t8.2.1)) out H o63 c64 w0 Q rest a w  (hk.to [0, 5, 6] _ (by kernel_rfl)) ho R

theorem sculleryref06_Parse.ok (K : Nat) (p0 : Str) (r : (List (Str × Str)) × Int × Int) (H : sculleryref06_Parse.f K p0 = some r) (w0 : World)  : Calls Tryz.prog 19 ⟨[S p0]⟩ w0 fun e w => ∃ u, e = .returned u ∧ sculleryref06_Parse.post w0 r u w := by
  unfold sculleryref06_Parse.f at H
  refine st_start (N := 72) [S p0] (C19 []) func19 (by kernel_rfl) (by kernel_rfl) (by kernel_rfl) ?_
  intro a w hk ho
  refine st_seq (C19 [0]) (C19 [1]) (by kernel_rfl) ?_
  refine st_region 0 (opsOf (C19 [0])) [0, 1, 2] (by kernel_rfl) (by kernel_rfl) ?_
  refine st_pure tabOK hk [0, 1, 2] [] [0] [(0, S p0)] (True) (by kernel_rfl) trivial ?_
  clear hk; intro a hk
  refine st_done ?_
  refine st_seq (C19 [1, 0]) (C19 [1, 1]) (by kernel_rfl) ?_
  refine st_region 1 (opsOf (C19 [1, 0])) [0] (by kernel_rfl) (by kernel_rfl) ?_
  refine st_pure tabOK hk [0] [] [0, 5] [(0, S p0), (5, .slice none 0 0)] (True) (by kernel_rfl) trivial ?_
  clear hk; intro a hk
  refine st_done ?_
  refine st_seq (C19 [1, 1, 0]) (C19 [1, 1, 1]) (by kernel_rfl) ?_
  refine st_region 2 (opsOf (C19 [1, 1, 0])) [0] (by kernel_rfl) (by kernel_rfl) ?_
  refine st_pure tabOK hk [0] [] [0, 5, 6] [(0, S p0), (5, .slice none 0 0), (6, I 0)] (True) (by kernel_rfl) trivial ?_
  clear hk; intro a hk
  refine st_done ?_
  refine st_block 0 (C19 [1, 1, 1, 0]) (by kernel_rfl) ?_
  replace ho := ho.nilRow 2 60 2
  obtain ⟨m69, h70, H⟩ := Option.bind_eq_some_iff.1 H
  refine st_loop (C19 [1, 1, 1, 0, 0]) (by kernel_rfl) ?_
  refine sculleryref06_Parse.l0_ok K K p0 ([] : List (Str × Str)) 0 m69 h70 none 0 w0 _ _ a w  (hk.to [0, 5, 6] _ (by kernel_rfl)) ho ?_
  · intro r72 o73 c74 a w e hk ho; have e := e.symm; subst e
    refine retG hk [.slice o73 r72.1.length c74, I r72.2.1, I r72.2.2] #[.tmp 2, .tmp 3, .tmp 4] (by kernel_rfl) ⟨resT hk (by kernel_rfl), resT hk (by kernel_rfl), resT hk (by kernel_rfl), trivial⟩ ?_
    obtain rfl := Option.some.inj H
    exact ⟨_, rfl, o73, c74, rfl, ho⟩


/-! scullery/sculleryref07.Decode: function 8 -/
noncomputable def C8 (p : List Nat) : Code := Sub (bodyOf f8) p
def sculleryref07_Decode.l0 (K : Nat) : Nat → Str → Str → Int → Option (Str × Int × Int)
  | 0, _, _, _ => none
  | k + 1, p0, v1, v2 => (if (0 : Int) ≤ v2 then (if v2 ≤ (p0.length : Int) then ((sculleryref06_Line.f K (p0.drop v2.toNat)).bind fun t5 => (if (t5.2.2 != 0) = true then some ([], 0, t5.2.2) else ((sculleryref07_size.f K t5.1).bind fun t10 => (if (!t10.2) = true then some ([], 0, 2) else (if w64 ((v1.length : Int) + t10.1) > 100000 then some ([], 0, 4) else (if (t10.1 == 0) = true then (if (0 : Int) ≤ w64 (v2 + t5.2.1) then (if w64 (v2 + t5.2.1) ≤ (p0.length : Int) then ((sculleryref06_Parse.f K (p0.drop (w64 (v2 + t5.2.1)).toNat)).bind fun t22 => (if (t22.2.2 != 0) = true then some ([], 0, t22.2.2) else some (v1, w64 ((w64 (v2 + t5.2.1)) + t22.2.1), 0))) else none) else none) else (if w64 ((p0.length : Int) - (w64 (v2 + t5.2.1))) < w64 (t10.1 + 2) then some ([], 0, 3) else (if (0 : Int) ≤ w64 ((w64 (v2 + t5.2.1)) + t10.1) then (if w64 ((w64 (v2 + t5.2.1)) + t10.1) < (p0.length : Int) then (((if ((bt p0 (w64 ((w64 (v2 + t5.2.1)) + t10.1))) != 13) = true then some true else (if (0 : Int) ≤ w64 ((w64 ((w64 (v2 + t5.2.1)) + t10.1)) + 1) then (if w64 ((w64 ((w64 (v2 + t5.2.1)) + t10.1)) + 1) < (p0.length : Int) then some ((bt p0 (w64 ((w64 ((w64 (v2 + t5.2.1)) + t10.1)) + 1))) != 10) else none) else none))).bind fun m36 => (if m36 = true then some ([], 0, 2) else (if w64 ((w64 (v2 + t5.2.1)) + t10.1) ≤ (p0.length : Int) then (if (0 : Int) ≤ w64 (v2 + t5.2.1) then (if w64 (v2 + t5.2.1) ≤ w64 ((w64 (v2 + t5.2.1)) + t10.1) then (if v1.length + ((p0.take (w64 ((w64 (v2 + t5.2.1)) + t10.1)).toNat).drop (w64 (v2 + t5.2.1)).toNat).length ≤ maxI then sculleryref07_Decode.l0 K k p0 (v1 ++ ((p0.take (w64 ((w64 (v2 + t5.2.1)) + t10.1)).toNat).drop (w64 (v2 + t5.2.1)).toNat)) (w64 ((w64 ((w64 (v2 + t5.2.1)) + t10.1)) + 2)) else none) else none) else none) else none))) else none) else none)))))))) else none) else none)
def sculleryref07_Decode.f (K : Nat) (p0 : Str) : Option (Str × Int × Int) := (((sculleryref07_Decode.l0 K K p0 ([]) 0).bind fun r52 => some r52))
abbrev sculleryref07_Decode.post (w0 : World) (r : Str × Int × Int) (u : Value) (w : World) : Prop := u = .tuple #[S r.1, I r.2.1, I r.2.2] ∧ Ows [] w0 w []
theorem sculleryref07_Decode.l0_ok (K : Nat) : ∀ (k : Nat) (p0 : Str) (v1 : Str) (v2 : Int) (out : Str × Int × Int), sculleryref07_Decode.l0 K k p0 v1 v2 = some out → ∀ (w0 : World) (Q : Exit → Act → World → Prop) (rest : List It) (a : Act) (w : World), Kn 92 a [(0, S p0), (5, S v1), (6, I v2)] → Ows [] w0 w [] → (∀ (r : Str × Int × Int) (a : Act) (w : World), out = r → Kn 92 a [(2, S r.1), (3, I r.2.1), (4, I r.2.2)] → Ows [] w0 w [] → Q .ret a w) → G Tryz.prog Q (.code (C8 [1, 1, 1, 0, 0]) :: .inl (C8 [1, 1, 1, 0, 0]) :: rest) a w := by
  intro k
  induction k with
  | zero => intro p0 v1 v2 out H; simp [sculleryref07_Decode.l0] at H
  | succ k ih =>
    intro p0 v1 v2 out H  w0 Q rest a w  hk ho R
    simp only [sculleryref07_Decode.l0] at H
    refine st_block 1 (C8 [1, 1, 1, 0, 0, 0]) (by kernel_rfl) ?_
    refine st_seq (C8 [1, 1, 1, 0, 0, 0, 0]) (C8 [1, 1, 1, 0, 0, 0, 1]) (by kernel_rfl) ?_
    refine st_region 3 (opsOf (C8 [1, 1, 1, 0, 0, 0, 0])) [0, 1, 2, 3, 4, 5, 6, 7, 8, 9, 10] (by kernel_rfl) (by kernel_rfl) ?_
    have h3 : (0 : Int) ≤ v2 := by
      by_cases h3 : (0 : Int) ≤ v2
      · exact h3
      · rw [if_neg h3] at H; cases H
    rw [if_pos h3] at H
    have h4 : v2 ≤ (p0.length : Int) := by
      by_cases h4 : v2 ≤ (p0.length : Int)
      · exact h4
      · rw [if_neg h4] at H; cases H
    rw [if_pos h4] at H
    refine st_pure tabOK hk [0, 1, 2] [3, 4, 5, 6, 7, 8, 9, 10] [0, 5, 6, 18] [(0, S p0), (5, S v1), (6, I v2), (18, S (p0.drop v2.toNat))] (((0 : Int) ≤ v2 ∧ v2 ≤ (p0.length : Int)) ∧ True) (by kernel_rfl) ⟨⟨h3, h4⟩, trivial⟩ ?_
    clear hk; intro a hk
    obtain ⟨t5, h6, H⟩ := Option.bind_eq_some_iff.1 H
    refine st_call hk 17 [S (p0.drop v2.toNat)] (some 19) enters17 (by kernel_rfl) (sculleryref06_Line.ok K  (p0.drop v2.toNat) t5 h6 w ) ?_
    clear hk; rintro a u w ⟨rfl, ho'⟩ hk
    replace ho : Ows [] w0 w [] := ho.call ho'; clear ho'
    refine st_pure tabOK hk [4, 5, 6, 7, 8, 9, 10] [] [0, 5, 6, 7, 8, 9] [(0, S p0), (5, S v1), (6, I v2), (7, S t5.1), (8, I t5.2.1), (9, I t5.2.2)] (True) (by kernel_rfl) trivial ?_
    clear hk; intro a hk
    refine st_done ?_
    refine st_seq (C8 [1, 1, 1, 0, 0, 0, 1, 0]) (C8 [1, 1, 1, 0, 0, 0, 1, 1]) (by kernel_rfl) ?_
    refine st_seq (C8 [1, 1, 1, 0, 0, 0, 1, 0, 0]) (C8 [1, 1, 1, 0, 0, 0, 1, 0, 1]) (by kernel_rfl) ?_
    refine st_region 4 (opsOf (C8 [1, 1, 1, 0, 0, 0, 1, 0, 0])) [0, 1] (by kernel_rfl) (by kernel_rfl) ?_
    refine st_pure tabOK hk [0, 1] [] [0, 5, 6, 7, 8, 9, 24] [(0, S p0), (5, S v1), (6, I v2), (7, S t5.1), (8, I t5.2.1), (9, I t5.2.2), (24, .bool (t5.2.2 != 0))] (True) (by kernel_rfl) trivial ?_
    clear hk; intro a hk
    refine st_done ?_
    refine st_cond hk (C8 [1, 1, 1, 0, 0, 0, 1, 0, 1, 0]) (C8 [1, 1, 1, 0, 0, 0, 1, 0, 1, 1]) (.tmp 24) (t5.2.2 != 0) (by kernel_rfl) (by kernel_rfl) (fun h7 => ?_) (fun h7 => ?_)
    ·
      have h8 : (t5.2.2 != 0) = true := h7
      rw [if_pos h8] at H
      refine st_seq (C8 [1, 1, 1, 0, 0, 0, 1, 0, 1, 0, 0]) (C8 [1, 1, 1, 0, 0, 0, 1, 0, 1, 0, 1]) (by kernel_rfl) ?_
      refine st_region 5 (opsOf (C8 [1, 1, 1, 0, 0, 0, 1, 0, 1, 0, 0])) [0, 1, 2, 3] (by kernel_rfl) (by kernel_rfl) ?_
      refine st_pure tabOK hk [0, 1, 2, 3] [] [2, 3, 4] [(2, S ([])), (3, I 0), (4, I t5.2.2)] (True) (by kernel_rfl) trivial ?_
      clear hk; intro a hk
      refine st_done ?_
      refine st_ret (by kernel_rfl) ?_
      obtain rfl := Option.some.inj H
      exact R ([], 0, t5.2.2)  a w rfl (hk.to [2, 3, 4] _ (by kernel_rfl)) ho
    ·
      have h9 : ¬ ((t5.2.2 != 0) = true) := ne_true_of_eq_false h7
      rw [if_neg h9] at H
      refine st_skip (by kernel_rfl) ?_
      refine st_seq (C8 [1, 1, 1, 0, 0, 0, 1, 1, 0]) (C8 [1, 1, 1, 0, 0, 0, 1, 1, 1]) (by kernel_rfl) ?_
      refine st_region 6 (opsOf (C8 [1, 1, 1, 0, 0, 0, 1, 1, 0])) [0, 1, 2, 3] (by kernel_rfl) (by kernel_rfl) ?_
      refine st_pure tabOK hk [0, 1, 2, 3] [] [0, 5, 6, 7] [(0, S p0), (5, S v1), (6, I (w64 (v2 + t5.2.1))), (7, S t5.1)] (True) (by kernel_rfl) trivial ?_
      clear hk; intro a hk
      refine st_done ?_
      refine st_seq (C8 [1, 1, 1, 0, 0, 0, 1, 1, 1, 0]) (C8 [1, 1, 1, 0, 0, 0, 1, 1, 1, 1]) (by kernel_rfl) ?_
      refine st_region 7 (opsOf (C8 [1, 1, 1, 0, 0, 0, 1, 1, 1, 0])) [0, 1, 2, 3, 4, 5, 6] (by kernel_rfl) (by kernel_rfl) ?_
      refine st_pure tabOK hk [0] [1, 2, 3, 4, 5, 6] [0, 5, 6, 30] [(0, S p0), (5, S v1), (6, I (w64 (v2 + t5.2.1))), (30, S t5.1)] (True) (by kernel_rfl) trivial ?_
      clear hk; intro a hk
      obtain ⟨t10, h11, H⟩ := Option.bind_eq_some_iff.1 H
      refine st_call hk 18 [S t5.1] (some 31) enters18 (by kernel_rfl) (sculleryref07_size.ok K  t5.1 t10 h11 w ) ?_
      clear hk; rintro a u w ⟨rfl, ho'⟩ hk
      replace ho : Ows [] w0 w [] := ho.call ho'; clear ho'
      refine st_pure tabOK hk [2, 3, 4, 5, 6] [] [0, 5, 6, 10, 11] [(0, S p0), (5, S v1), (6, I (w64 (v2 + t5.2.1))), (10, I t10.1), (11, .bool t10.2)] (True) (by kernel_rfl) trivial ?_
      clear hk; intro a hk
      refine st_done ?_
      refine st_seq (C8 [1, 1, 1, 0, 0, 0, 1, 1, 1, 1, 0]) (C8 [1, 1, 1, 0, 0, 0, 1, 1, 1, 1, 1]) (by kernel_rfl) ?_
      refine st_seq (C8 [1, 1, 1, 0, 0, 0, 1, 1, 1, 1, 0, 0]) (C8 [1, 1, 1, 0, 0, 0, 1, 1, 1, 1, 0, 1]) (by kernel_rfl) ?_
      refine st_region 8 (opsOf (C8 [1, 1, 1, 0, 0, 0, 1, 1, 1, 1, 0, 0])) [0, 1] (by kernel_rfl) (by kernel_rfl) ?_
      refine st_pure tabOK hk [0, 1] [] [0, 5, 6, 10, 35] [(0, S p0), (5, S v1), (6, I (w64 (v2 + t5.2.1))), (10, I t10.1), (35, .bool (!t10.2))] (True) (by kernel_rfl) trivial ?_
      clear hk; intro a hk
      refine st_done ?_
      refine st_cond hk (C8 [1, 1, 1, 0, 0, 0, 1, 1, 1, 1, 0, 1, 0]) (C8 [1, 1, 1, 0, 0, 0, 1, 1, 1, 1, 0, 1, 1]) (.tmp 35) (!t10.2) (by kernel_rfl) (by kernel_rfl) (fun h12 => ?_) (fun h12 => ?_)
      ·
        have h13 : (!t10.2) = true := h12
        rw [if_pos h13] at H
        refine st_seq (C8 [1, 1, 1, 0, 0, 0, 1, 1, 1, 1, 0, 1, 0, 0]) (C8 [1, 1, 1, 0, 0, 0, 1, 1, 1, 1, 0, 1, 0, 1]) (by kernel_rfl) ?_
        refine st_region 9 (opsOf (C8 [1, 1, 1, 0, 0, 0, 1, 1, 1, 1, 0, 1, 0, 0])) [0, 1, 2] (by kernel_rfl) (by kernel_rfl) ?_
        refine st_pure tabOK hk [0, 1, 2] [] [2, 3, 4] [(2, S ([])), (3, I 0), (4, I 2)] (True) (by kernel_rfl) trivial ?_
        clear hk; intro a hk
        refine st_done ?_
        refine st_ret (by kernel_rfl) ?_
        obtain rfl := Option.some.inj H
        exact R ([], 0, 2)  a w rfl (hk.to [2, 3, 4] _ (by kernel_rfl)) ho
      ·
        have h14 : ¬ ((!t10.2) = true) := ne_true_of_eq_false h12
        rw [if_neg h14] at H
        refine st_skip (by kernel_rfl) ?_
        refine st_seq (C8 [1, 1, 1, 0, 0, 0, 1, 1, 1, 1, 1, 0]) (C8 [1, 1, 1, 0, 0, 0, 1, 1, 1, 1, 1, 1]) (by kernel_rfl) ?_
        refine st_seq (C8 [1, 1, 1, 0, 0, 0, 1, 1, 1, 1, 1, 0, 0]) (C8 [1, 1, 1, 0, 0, 0, 1, 1, 1, 1, 1, 0, 1]) (by kernel_rfl) ?_
        refine st_region 10 (opsOf (C8 [1, 1, 1, 0, 0, 0, 1, 1, 1, 1, 1, 0, 0])) [0, 1, 2, 3, 4] (by kernel_rfl) (by kernel_rfl) ?_
        refine st_pure tabOK hk [0, 1, 2, 3, 4] [] [0, 5, 6, 10, 40] [(0, S p0), (5, S v1), (6, I (w64 (v2 + t5.2.1))), (10, I t10.1), (40, .bool (decide (w64 ((v1.length : Int) + t10.1) > 100000)))] (True) (by kernel_rfl) trivial ?_
        clear hk; intro a hk
        refine st_done ?_
        refine st_cond hk (C8 [1, 1, 1, 0, 0, 0, 1, 1, 1, 1, 1, 0, 1, 0]) (C8 [1, 1, 1, 0, 0, 0, 1, 1, 1, 1, 1, 0, 1, 1]) (.tmp 40) (decide (w64 ((v1.length : Int) + t10.1) > 100000)) (by kernel_rfl) (by kernel_rfl) (fun h15 => ?_) (fun h15 => ?_)
        ·
          have h16 : w64 ((v1.length : Int) + t10.1) > 100000 := of_decide_eq_true h15
          rw [if_pos h16] at H
          refine st_seq (C8 [1, 1, 1, 0, 0, 0, 1, 1, 1, 1, 1, 0, 1, 0, 0]) (C8 [1, 1, 1, 0, 0, 0, 1, 1, 1, 1, 1, 0, 1, 0, 1]) (by kernel_rfl) ?_
          refine st_region 11 (opsOf (C8 [1, 1, 1, 0, 0, 0, 1, 1, 1, 1, 1, 0, 1, 0, 0])) [0, 1, 2] (by kernel_rfl) (by kernel_rfl) ?_
          refine st_pure tabOK hk [0, 1, 2] [] [2, 3, 4] [(2, S ([])), (3, I 0), (4, I 4)] (True) (by kernel_rfl) trivial ?_
          clear hk; intro a hk
          refine st_done ?_
          refine st_ret (by kernel_rfl) ?_
          obtain rfl := Option.some.inj H
          exact R ([], 0, 4)  a w rfl (hk.to [2, 3, 4] _ (by kernel_rfl)) ho
        ·
          have h17 : ¬ (w64 ((v1.length : Int) + t10.1) > 100000) := of_decide_eq_false h15
          rw [if_neg h17] at H
          refine st_skip (by kernel_rfl) ?_
          refine st_seq (C8 [1, 1, 1, 0, 0, 0, 1, 1, 1, 1, 1, 1, 0]) (C8 [1, 1, 1, 0, 0, 0, 1, 1, 1, 1, 1, 1, 1]) (by kernel_rfl) ?_
          refine st_seq (C8 [1, 1, 1, 0, 0, 0, 1, 1, 1, 1, 1, 1, 0, 0]) (C8 [1, 1, 1, 0, 0, 0, 1, 1, 1, 1, 1, 1, 0, 1]) (by kernel_rfl) ?_
          refine st_region 12 (opsOf (C8 [1, 1, 1, 0, 0, 0, 1, 1, 1, 1, 1, 1, 0, 0])) [0, 1] (by kernel_rfl) (by kernel_rfl) ?_
          refine st_pure tabOK hk [0, 1] [] [0, 5, 6, 10, 42] [(0, S p0), (5, S v1), (6, I (w64 (v2 + t5.2.1))), (10, I t10.1), (42, .bool (t10.1 == 0))] (True) (by kernel_rfl) trivial ?_
          clear hk; intro a hk
          refine st_done ?_
          refine st_cond hk (C8 [1, 1, 1, 0, 0, 0, 1, 1, 1, 1, 1, 1, 0, 1, 0]) (C8 [1, 1, 1, 0, 0, 0, 1, 1, 1, 1, 1, 1, 0, 1, 1]) (.tmp 42) (t10.1 == 0) (by kernel_rfl) (by kernel_rfl) (fun h18 => ?_) (fun h18 => ?_)
          ·
            have h19 : (t10.1 == 0) = true := h18
            rw [if_pos h19] at H
            refine st_seq (C8 [1, 1, 1, 0, 0, 0, 1, 1, 1, 1, 1, 1, 0, 1, 0, 0]) (C8 [1, 1, 1, 0, 0, 0, 1, 1, 1, 1, 1, 1, 0, 1, 0, 1]) (by kernel_rfl) ?_
            refine st_region 13 (opsOf (C8 [1, 1, 1, 0, 0, 0, 1, 1, 1, 1, 1, 1, 0, 1, 0, 0])) [0, 1, 2, 3, 4, 5, 6, 7, 8, 9, 10] (by kernel_rfl) (by kernel_rfl) ?_
            have h20 : (0 : Int) ≤ w64 (v2 + t5.2.1) := by
              by_cases h20 : (0 : Int) ≤ w64 (v2 + t5.2.1)
              · exact h20
              · rw [if_neg h20] at H; cases H
            rw [if_pos h20] at H
            have h21 : w64 (v2 + t5.2.1) ≤ (p0.length : Int) := by
              by_cases h21 : w64 (v2 + t5.2.1) ≤ (p0.length : Int)
              · exact h21
              · rw [if_neg h21] at H; cases H
            rw [if_pos h21] at H
            refine st_pure tabOK hk [0, 1, 2] [3, 4, 5, 6, 7, 8, 9, 10] [5, 6, 46] [(5, S v1), (6, I (w64 (v2 + t5.2.1))), (46, S (p0.drop (w64 (v2 + t5.2.1)).toNat))] (((0 : Int) ≤ w64 (v2 + t5.2.1) ∧ w64 (v2 + t5.2.1) ≤ (p0.length : Int)) ∧ True) (by kernel_rfl) ⟨⟨h20, h21⟩, trivial⟩ ?_
            clear hk; intro a hk
            obtain ⟨t22, h23, H⟩ := Option.bind_eq_some_iff.1 H
            refine st_call hk 19 [S (p0.drop (w64 (v2 + t5.2.1)).toNat)] (some 47) enters19 (by kernel_rfl) (sculleryref06_Parse.ok K  (p0.drop (w64 (v2 + t5.2.1)).toNat) t22 h23 w ) ?_
            clear hk; rintro a u w ⟨o24, c25, rfl, ho'⟩ hk
            replace ho : Ows [] w0 w [.row 0 60 2 (.slice o24 t22.1.length c25) t22.1.length (t22.1.flatMap encT60)] := ho.call ho'; clear ho'
            refine st_pure tabOK hk [4, 5, 6, 7, 8, 9, 10] [] [5, 6, 13, 14] [(5, S v1), (6, I (w64 (v2 + t5.2.1))), (13, I t22.2.1), (14, I t22.2.2)] (True) (by kernel_rfl) trivial ?_
            clear hk; intro a hk
            refine st_done ?_
            refine st_seq (C8 [1, 1, 1, 0, 0, 0, 1, 1, 1, 1, 1, 1, 0, 1, 0, 1, 0]) (C8 [1, 1, 1, 0, 0, 0, 1, 1, 1, 1, 1, 1, 0, 1, 0, 1, 1]) (by kernel_rfl) ?_
            refine st_seq (C8 [1, 1, 1, 0, 0, 0, 1, 1, 1, 1, 1, 1, 0, 1, 0, 1, 0, 0]) (C8 [1, 1, 1, 0, 0, 0, 1, 1, 1, 1, 1, 1, 0, 1, 0, 1, 0, 1]) (by kernel_rfl) ?_
            refine st_region 14 (opsOf (C8 [1, 1, 1, 0, 0, 0, 1, 1, 1, 1, 1, 1, 0, 1, 0, 1, 0, 0])) [0, 1] (by kernel_rfl) (by kernel_rfl) ?_
            refine st_pure tabOK hk [0, 1] [] [5, 6, 13, 14, 52] [(5, S v1), (6, I (w64 (v2 + t5.2.1))), (13, I t22.2.1), (14, I t22.2.2), (52, .bool (t22.2.2 != 0))] (True) (by kernel_rfl) trivial ?_
            clear hk; intro a hk
            refine st_done ?_
            refine st_cond hk (C8 [1, 1, 1, 0, 0, 0, 1, 1, 1, 1, 1, 1, 0, 1, 0, 1, 0, 1, 0]) (C8 [1, 1, 1, 0, 0, 0, 1, 1, 1, 1, 1, 1, 0, 1, 0, 1, 0, 1, 1]) (.tmp 52) (t22.2.2 != 0) (by kernel_rfl) (by kernel_rfl) (fun h27 => ?_) (fun h27 => ?_)
            ·
              have h28 : (t22.2.2 != 0) = true := h27
              rw [if_pos h28] at H
              refine st_seq (C8 [1, 1, 1, 0, 0, 0, 1, 1, 1, 1, 1, 1, 0, 1, 0, 1, 0, 1, 0, 0]) (C8 [1, 1, 1, 0, 0, 0, 1, 1, 1, 1, 1, 1, 0, 1, 0, 1, 0, 1, 0, 1]) (by kernel_rfl) ?_
              refine st_region 15 (opsOf (C8 [1, 1, 1, 0, 0, 0, 1, 1, 1, 1, 1, 1, 0, 1, 0, 1, 0, 1, 0, 0])) [0, 1, 2, 3] (by kernel_rfl) (by kernel_rfl) ?_
              refine st_pure tabOK hk [0, 1, 2, 3] [] [2, 3, 4] [(2, S ([])), (3, I 0), (4, I t22.2.2)] (True) (by kernel_rfl) trivial ?_
              clear hk; intro a hk
              refine st_done ?_
              refine st_ret (by kernel_rfl) ?_
              replace ho : Ows [] w0 w [] := ho.erase 0
              obtain rfl := Option.some.inj H
              exact R ([], 0, t22.2.2)  a w rfl (hk.to [2, 3, 4] _ (by kernel_rfl)) ho
            ·
              have h29 : ¬ ((t22.2.2 != 0) = true) := ne_true_of_eq_false h27
              rw [if_neg h29] at H
              refine st_skip (by kernel_rfl) ?_
              refine st_seq (C8 [1, 1, 1, 0, 0, 0, 1, 1, 1, 1, 1, 1, 0, 1, 0, 1, 1, 0]) (C8 [1, 1, 1, 0, 0, 0, 1, 1, 1, 1, 1, 1, 0, 1, 0, 1, 1, 1]) (by kernel_rfl) ?_
              refine st_region 16 (opsOf (C8 [1, 1, 1, 0, 0, 0, 1, 1, 1, 1, 1, 1, 0, 1, 0, 1, 1, 0])) [0, 1, 2, 3, 4, 5, 6] (by kernel_rfl) (by kernel_rfl) ?_
              refine st_pure tabOK hk [0, 1, 2, 3, 4, 5, 6] [] [2, 3, 4] [(2, S v1), (3, I (w64 ((w64 (v2 + t5.2.1)) + t22.2.1))), (4, I 0)] (True) (by kernel_rfl) trivial ?_
              clear hk; intro a hk
              refine st_done ?_
              refine st_ret (by kernel_rfl) ?_
              replace ho : Ows [] w0 w [] := ho.erase 0
              obtain rfl := Option.some.inj H
              exact R (v1, w64 ((w64 (v2 + t5.2.1)) + t22.2.1), 0)  a w rfl (hk.to [2, 3, 4] _ (by kernel_rfl)) ho
          ·
            have h30 : ¬ ((t10.1 == 0) = true) := ne_true_of_eq_false h18
            rw [if_neg h30] at H
            refine st_skip (by kernel_rfl) ?_
            refine st_seq (C8 [1, 1, 1, 0, 0, 0, 1, 1, 1, 1, 1, 1, 1, 0]) (C8 [1, 1, 1, 0, 0, 0, 1, 1, 1, 1, 1, 1, 1, 1]) (by kernel_rfl) ?_
            refine st_seq (C8 [1, 1, 1, 0, 0, 0, 1, 1, 1, 1, 1, 1, 1, 0, 0]) (C8 [1, 1, 1, 0, 0, 0, 1, 1, 1, 1, 1, 1, 1, 0, 1]) (by kernel_rfl) ?_
            refine st_region 17 (opsOf (C8 [1, 1, 1, 0, 0, 0, 1, 1, 1, 1, 1, 1, 1, 0, 0])) [0, 1, 2, 3, 4, 5, 6] (by kernel_rfl) (by kernel_rfl) ?_
            refine st_pure tabOK hk [0, 1, 2, 3, 4, 5, 6] [] [0, 5, 6, 10, 64] [(0, S p0), (5, S v1), (6, I (w64 (v2 + t5.2.1))), (10, I t10.1), (64, .bool (decide (w64 ((p0.length : Int) - (w64 (v2 + t5.2.1))) < w64 (t10.1 + 2))))] (True) (by kernel_rfl) trivial ?_
            clear hk; intro a hk
            refine st_done ?_
            refine st_cond hk (C8 [1, 1, 1, 0, 0, 0, 1, 1, 1, 1, 1, 1, 1, 0, 1, 0]) (C8 [1, 1, 1, 0, 0, 0, 1, 1, 1, 1, 1, 1, 1, 0, 1, 1]) (.tmp 64) (decide (w64 ((p0.length : Int) - (w64 (v2 + t5.2.1))) < w64 (t10.1 + 2))) (by kernel_rfl) (by kernel_rfl) (fun h31 => ?_) (fun h31 => ?_)
            ·
              have h32 : w64 ((p0.length : Int) - (w64 (v2 + t5.2.1))) < w64 (t10.1 + 2) := of_decide_eq_true h31
              rw [if_pos h32] at H
              refine st_seq (C8 [1, 1, 1, 0, 0, 0, 1, 1, 1, 1, 1, 1, 1, 0, 1, 0, 0]) (C8 [1, 1, 1, 0, 0, 0, 1, 1, 1, 1, 1, 1, 1, 0, 1, 0, 1]) (by kernel_rfl) ?_
              refine st_region 18 (opsOf (C8 [1, 1, 1, 0, 0, 0, 1, 1, 1, 1, 1, 1, 1, 0, 1, 0, 0])) [0, 1, 2] (by kernel_rfl) (by kernel_rfl) ?_
              refine st_pure tabOK hk [0, 1, 2] [] [2, 3, 4] [(2, S ([])), (3, I 0), (4, I 3)] (True) (by kernel_rfl) trivial ?_
              clear hk; intro a hk
              refine st_done ?_
              refine st_ret (by kernel_rfl) ?_
              obtain rfl := Option.some.inj H
              exact R ([], 0, 3)  a w rfl (hk.to [2, 3, 4] _ (by kernel_rfl)) ho
            ·
              have h33 : ¬ (w64 ((p0.length : Int) - (w64 (v2 + t5.2.1))) < w64 (t10.1 + 2)) := of_decide_eq_false h31
              rw [if_neg h33] at H
              refine st_skip (by kernel_rfl) ?_
              refine st_seq (C8 [1, 1, 1, 0, 0, 0, 1, 1, 1, 1, 1, 1, 1, 1, 0]) (C8 [1, 1, 1, 0, 0, 0, 1, 1, 1, 1, 1, 1, 1, 1, 1]) (by kernel_rfl) ?_
              refine st_seq (C8 [1, 1, 1, 0, 0, 0, 1, 1, 1, 1, 1, 1, 1, 1, 0, 0]) (C8 [1, 1, 1, 0, 0, 0, 1, 1, 1, 1, 1, 1, 1, 1, 0, 1]) (by kernel_rfl) ?_
              refine st_region 19 (opsOf (C8 [1, 1, 1, 0, 0, 0, 1, 1, 1, 1, 1, 1, 1, 1, 0, 0])) [0, 1, 2, 3, 4, 5, 6, 7, 8, 9, 10, 11, 12, 13, 14] (by kernel_rfl) (by kernel_rfl) ?_
              have h34 : (0 : Int) ≤ w64 ((w64 (v2 + t5.2.1)) + t10.1) := by
                by_cases h34 : (0 : Int) ≤ w64 ((w64 (v2 + t5.2.1)) + t10.1)
                · exact h34
                · rw [if_neg h34] at H; cases H
              rw [if_pos h34] at H
              have h35 : w64 ((w64 (v2 + t5.2.1)) + t10.1) < (p0.length : Int) := by
                by_cases h35 : w64 ((w64 (v2 + t5.2.1)) + t10.1) < (p0.length : Int)
                · exact h35
                · rw [if_neg h35] at H; cases H
              rw [if_pos h35] at H
              refine st_pure tabOK hk [0, 1, 2, 3, 4, 5, 6] [7, 8, 9, 10, 11, 12, 13, 14] [0, 5, 6, 10, 71] [(0, S p0), (5, S v1), (6, I (w64 (v2 + t5.2.1))), (10, I t10.1), (71, .bool ((bt p0 (w64 ((w64 (v2 + t5.2.1)) + t10.1))) != 13))] (((0 : Int) ≤ w64 ((w64 (v2 + t5.2.1)) + t10.1) ∧ w64 ((w64 (v2 + t5.2.1)) + t10.1) < (p0.length : Int)) ∧ True) (by kernel_rfl) ⟨⟨h34, h35⟩, trivial⟩ ?_
              clear hk; intro a hk
              obtain ⟨m36, HX, H⟩ := Option.bind_eq_some_iff.1 H
              refine cut_ops (fun a w => Kn 92 a [(0, S p0), (5, S v1), (6, I (w64 (v2 + t5.2.1))), (10, I t10.1), (79, .bool m36)] ∧ Ows [] w0 w []) ?_ ?_
              · intro J; clear H; have H := HX; clear HX
                rcases Bool.eq_false_or_eq_true ((bt p0 (w64 ((w64 (v2 + t5.2.1)) + t10.1))) != 13) with h37 | h37
                ·
                  rw [h37] at hk
                  have h38 : ((bt p0 (w64 ((w64 (v2 + t5.2.1)) + t10.1))) != 13) = true := h37
                  rw [if_pos h38] at H
                  refine st_pure tabOK hk [7, 8, 9, 10, 11, 12, 13, 14] [] [0, 5, 6, 10, 79] [(0, S p0), (5, S v1), (6, I (w64 (v2 + t5.2.1))), (10, I t10.1), (79, .bool true)] (True) (by kernel_rfl) trivial ?_
                  clear hk; intro a hk
                  refine st_done ?_
                  obtain rfl := Option.some.inj H
                  exact J a w ⟨hk.to [0, 5, 6, 10, 79] _ (by kernel_rfl), ho⟩
                ·
                  rw [h37] at hk
                  have h39 : ¬ (((bt p0 (w64 ((w64 (v2 + t5.2.1)) + t10.1))) != 13) = true) := ne_true_of_eq_false h37
                  rw [if_neg h39] at H
                  have h40 : (0 : Int) ≤ w64 ((w64 ((w64 (v2 + t5.2.1)) + t10.1)) + 1) := by
                    by_cases h40 : (0 : Int) ≤ w64 ((w64 ((w64 (v2 + t5.2.1)) + t10.1)) + 1)
                    · exact h40
                    · rw [if_neg h40] at H; cases H
                  rw [if_pos h40] at H
                  have h41 : w64 ((w64 ((w64 (v2 + t5.2.1)) + t10.1)) + 1) < (p0.length : Int) := by
                    by_cases h41 : w64 ((w64 ((w64 (v2 + t5.2.1)) + t10.1)) + 1) < (p0.length : Int)
                    · exact h41
                    · rw [if_neg h41] at H; cases H
                  rw [if_pos h41] at H
                  refine st_pure tabOK hk [7, 8, 9, 10, 11, 12, 13, 14] [] [0, 5, 6, 10, 79] [(0, S p0), (5, S v1), (6, I (w64 (v2 + t5.2.1))), (10, I t10.1), (79, .bool ((bt p0 (w64 ((w64 ((w64 (v2 + t5.2.1)) + t10.1)) + 1))) != 10))] (((0 : Int) ≤ w64 ((w64 ((w64 (v2 + t5.2.1)) + t10.1)) + 1) ∧ w64 ((w64 ((w64 (v2 + t5.2.1)) + t10.1)) + 1) < (p0.length : Int)) ∧ True) (by kernel_rfl) ⟨⟨h40, h41⟩, trivial⟩ ?_
                  clear hk; intro a hk
                  refine st_done ?_
                  obtain rfl := Option.some.inj H
                  exact J a w ⟨hk.to [0, 5, 6, 10, 79] _ (by kernel_rfl), ho⟩
              · clear HX; rintro a w ⟨hk, ho⟩
                refine st_cond hk (C8 [1, 1, 1, 0, 0, 0, 1, 1, 1, 1, 1, 1, 1, 1, 0, 1, 0]) (C8 [1, 1, 1, 0, 0, 0, 1, 1, 1, 1, 1, 1, 1, 1, 0, 1, 1]) (.tmp 79) (m36) (by kernel_rfl) (by kernel_rfl) (fun h42 => ?_) (fun h42 => ?_)
                ·
                  have h43 : m36 = true := h42
                  rw [if_pos h43] at H
                  refine st_seq (C8 [1, 1, 1, 0, 0, 0, 1, 1, 1, 1, 1, 1, 1, 1, 0, 1, 0, 0]) (C8 [1, 1, 1, 0, 0, 0, 1, 1, 1, 1, 1, 1, 1, 1, 0, 1, 0, 1]) (by kernel_rfl) ?_
                  refine st_region 20 (opsOf (C8 [1, 1, 1, 0, 0, 0, 1, 1, 1, 1, 1, 1, 1, 1, 0, 1, 0, 0])) [0, 1, 2] (by kernel_rfl) (by kernel_rfl) ?_
                  refine st_pure tabOK hk [0, 1, 2] [] [2, 3, 4] [(2, S ([])), (3, I 0), (4, I 2)] (True) (by kernel_rfl) trivial ?_
                  clear hk; intro a hk
                  refine st_done ?_
                  refine st_ret (by kernel_rfl) ?_
                  obtain rfl := Option.some.inj H
                  exact R ([], 0, 2)  a w rfl (hk.to [2, 3, 4] _ (by kernel_rfl)) ho
                ·
                  have h44 : ¬ (m36 = true) := ne_true_of_eq_false h42
                  rw [if_neg h44] at H
                  refine st_skip (by kernel_rfl) ?_
                  refine st_seq (C8 [1, 1, 1, 0, 0, 0, 1, 1, 1, 1, 1, 1, 1, 1, 1, 0]) (C8 [1, 1, 1, 0, 0, 0, 1, 1, 1, 1, 1, 1, 1, 1, 1, 1]) (by kernel_rfl) ?_
                  refine st_region 21 (opsOf (C8 [1, 1, 1, 0, 0, 0, 1, 1, 1, 1, 1, 1, 1, 1, 1, 0])) [0, 1, 2, 3, 4, 5, 6, 7, 8] (by kernel_rfl) (by kernel_rfl) ?_
                  have h45 : w64 ((w64 (v2 + t5.2.1)) + t10.1) ≤ (p0.length : Int) := by
                    by_cases h45 : w64 ((w64 (v2 + t5.2.1)) + t10.1) ≤ (p0.length : Int)
                    · exact h45
                    · rw [if_neg h45] at H; cases H
                  rw [if_pos h45] at H
                  have h46 : (0 : Int) ≤ w64 (v2 + t5.2.1) := by
                    by_cases h46 : (0 : Int) ≤ w64 (v2 + t5.2.1)
                    · exact h46
                    · rw [if_neg h46] at H; cases H
                  rw [if_pos h46] at H
                  have h47 : w64 (v2 + t5.2.1) ≤ w64 ((w64 (v2 + t5.2.1)) + t10.1) := by
                    by_cases h47 : w64 (v2 + t5.2.1) ≤ w64 ((w64 (v2 + t5.2.1)) + t10.1)
                    · exact h47
                    · rw [if_neg h47] at H; cases H
                  rw [if_pos h47] at H
                  have h48 : v1.length + ((p0.take (w64 ((w64 (v2 + t5.2.1)) + t10.1)).toNat).drop (w64 (v2 + t5.2.1)).toNat).length ≤ maxI := by
                    by_cases h48 : v1.length + ((p0.take (w64 ((w64 (v2 + t5.2.1)) + t10.1)).toNat).drop (w64 (v2 + t5.2.1)).toNat).length ≤ maxI
                    · exact h48
                    · rw [if_neg h48] at H; cases H
                  rw [if_pos h48] at H
                  refine st_pure tabOK hk [0, 1, 2, 3, 4, 5, 6, 7, 8] [] [0, 5, 6, 10] [(0, S p0), (5, S (v1 ++ ((p0.take (w64 ((w64 (v2 + t5.2.1)) + t10.1)).toNat).drop (w64 (v2 + t5.2.1)).toNat))), (6, I (w64 (v2 + t5.2.1))), (10, I t10.1)] ((((0 : Int) ≤ w64 ((w64 (v2 + t5.2.1)) + t10.1) ∧ w64 ((w64 (v2 + t5.2.1)) + t10.1) ≤ (p0.length : Int)) ∧ ((0 : Int) ≤ w64 (v2 + t5.2.1) ∧ w64 (v2 + t5.2.1) ≤ w64 ((w64 (v2 + t5.2.1)) + t10.1))) ∧ (v1.length + ((p0.take (w64 ((w64 (v2 + t5.2.1)) + t10.1)).toNat).drop (w64 (v2 + t5.2.1)).toNat).length ≤ maxI ∧ True)) (by kernel_rfl) ⟨⟨⟨h34, h45⟩, ⟨h46, h47⟩⟩, ⟨h48, trivial⟩⟩ ?_
                  clear hk; intro a hk
                  refine st_done ?_
                  refine st_region 22 (opsOf (C8 [1, 1, 1, 0, 0, 0, 1, 1, 1, 1, 1, 1, 1, 1, 1, 1])) [0, 1, 2, 3, 4] (by kernel_rfl) (by kernel_rfl) ?_
                  refine st_pure tabOK hk [0, 1, 2, 3, 4] [] [0, 5, 6] [(0, S p0), (5, S (v1 ++ ((p0.take (w64 ((w64 (v2 + t5.2.1)) + t10.1)).toNat).drop (w64 (v2 + t5.2.1)).toNat))), (6, I (w64 ((w64 ((w64 (v2 + t5.2.1)) + t10.1)) + 2)))] (True) (by kernel_rfl) trivial ?_
                  clear hk; intro a hk
                  refine st_done ?_
                  refine st_endb 1 ?_
                  refine st_inl ?_
                  exact ih p0 (v1 ++ ((p0.take (w64 ((w64 (v2 + t5.2.1)) + t10.1)).toNat).drop (w64 (v2 + t5.2.1)).toNat)) (w64 ((w64 ((w64 (v2 + t5.2.1)) + t10.1)) + 2)) out H  w0 Q rest a w  (hk.to [0, 5, 6] _ (by kernel_rfl)) ho R

theorem sculleryref07_Decode.ok (K : Nat) (p0 : Str) (r : Str × Int × Int) (H : sculleryref07_Decode.f K p0 = some r) (w0 : World)  : Calls Tryz.prog 8 ⟨[S p0]⟩ w0 fun e w => ∃ u, e = .returned u ∧ sculleryref07_Decode.post w0 r u w := by
  unfold sculleryref07_Decode.f at H
  refine st_start (N := 92) [S p0] (C8 []) func8 (by kernel_rfl) (by kernel_rfl) (by kernel_rfl) ?_
  intro a w hk ho
  refine st_seq (C8 [0]) (C8 [1]) (by kernel_rfl) ?_
  refine st_region 0 (opsOf (C8 [0])) [0, 1, 2] (by kernel_rfl) (by kernel_rfl) ?_
  refine st_pure tabOK hk [0, 1, 2] [] [0] [(0, S p0)] (True) (by kernel_rfl) trivial ?_
  clear hk; intro a hk
  refine st_done ?_
  refine st_seq (C8 [1, 0]) (C8 [1, 1]) (by kernel_rfl) ?_
  refine st_region 1 (opsOf (C8 [1, 0])) [0] (by kernel_rfl) (by kernel_rfl) ?_
  refine st_pure tabOK hk [0] [] [0, 5] [(0, S p0), (5, S ([]))] (True) (by kernel_rfl) trivial ?_
  clear hk; intro a hk
  refine st_done ?_
  refine st_seq (C8 [1, 1, 0]) (C8 [1, 1, 1]) (by kernel_rfl) ?_
  refine st_region 2 (opsOf (C8 [1, 1, 0])) [0] (by kernel_rfl) (by kernel_rfl) ?_
  refine st_pure tabOK hk [0] [] [0, 5, 6] [(0, S p0), (5, S ([])), (6, I 0)] (True) (by kernel_rfl) trivial ?_
  clear hk; intro a hk
  refine st_done ?_
  refine st_block 0 (C8 [1, 1, 1, 0]) (by kernel_rfl) ?_
  obtain ⟨m49, h50, H⟩ := Option.bind_eq_some_iff.1 H
  refine st_loop (C8 [1, 1, 1, 0, 0]) (by kernel_rfl) ?_
  refine sculleryref07_Decode.l0_ok K K p0 ([]) 0 m49 h50  w0 _ _ a w  (hk.to [0, 5, 6] _ (by kernel_rfl)) ho ?_
  · intro r52  a w e hk ho; have e := e.symm; subst e
    refine retG hk [S r52.1, I r52.2.1, I r52.2.2] #[.tmp 2, .tmp 3, .tmp 4] (by kernel_rfl) ⟨resT hk (by kernel_rfl), resT hk (by kernel_rfl), resT hk (by kernel_rfl), trivial⟩ ?_
    obtain rfl := Option.some.inj H
    exact ⟨_, rfl, rfl, ho⟩


/-! scullery/scullerylaw07.ChunkTells: function 3 -/
noncomputable def C3 (p : List Nat) : Code := Sub (bodyOf f3) p
def scullerylaw07_ChunkTells.f (K : Nat) (p0 : Str) (p1 : Str) (p2 : Int) : Option (Bool) := (((scullerylaw07_awake.f K ).bind fun t1 => (if ((decide ((p0.length : Int) > 1000)) || (decide ((p1.length : Int) > 3000))) = true then some t1 else ((chunk_Encode.f K p0 p2).bind fun t9 => ((sculleryref07_Encode.f K p0 p2).bind fun t11 => ((chunk_Decode.f K p1).bind fun t13 => ((sculleryref07_Decode.f K p1).bind fun t15 => some (t1 && ((t9.1 == t11.1) && ((t9.2 == t11.2) && ((t13.1 == t15.1) && ((t13.2.1 == t15.2.1) && (t13.2.2 == t15.2.2)))))))))))))
abbrev scullerylaw07_ChunkTells.post (w0 : World) (r : Bool) (u : Value) (w : World) : Prop := u = .bool r ∧ Ows [] w0 w []
theorem scullerylaw07_ChunkTells.ok (K : Nat) (p0 : Str) (p1 : Str) (p2 : Int) (r : Bool) (H : scullerylaw07_ChunkTells.f K p0 p1 p2 = some r) (w0 : World) (hg : Glob w0) : Calls Tryz.prog 3 ⟨[S p0, S p1, I p2]⟩ w0 fun e w => ∃ u, e = .returned u ∧ scullerylaw07_ChunkTells.post w0 r u w := by
  unfold scullerylaw07_ChunkTells.f at H
  refine st_start (N := 78) [S p0, S p1, I p2] (C3 []) func3 (by kernel_rfl) (by kernel_rfl) (by kernel_rfl) ?_
  intro a w hk ho
  refine st_seq (C3 [0]) (C3 [1]) (by kernel_rfl) ?_
  refine st_region 0 (opsOf (C3 [0])) [0] (by kernel_rfl) (by kernel_rfl) ?_
  refine st_pure tabOK hk [0] [] [0, 1, 2] [(0, S p0), (1, S p1), (2, I p2)] (True) (by kernel_rfl) trivial ?_
  clear hk; intro a hk
  refine st_done ?_
  refine st_seq (C3 [1, 0]) (C3 [1, 1]) (by kernel_rfl) ?_
  refine st_region 1 (opsOf (C3 [1, 0])) [0, 1] (by kernel_rfl) (by kernel_rfl) ?_
  obtain ⟨t1, h2, H⟩ := Option.bind_eq_some_iff.1 H
  refine st_call hk 4 [] (some 18) enters4 (by kernel_rfl) (scullerylaw07_awake.ok K   t1 h2 w (hg.of ho)) ?_
  clear hk; rintro a u w ⟨rfl, ho'⟩ hk
  replace ho : Ows [] w0 w [] := ho.call ho'; clear ho'
  refine st_pure tabOK hk [1] [] [0, 1, 2, 7] [(0, S p0), (1, S p1), (2, I p2), (7, .bool t1)] (True) (by kernel_rfl) trivial ?_
  clear hk; intro a hk
  refine st_done ?_
  refine st_seq (C3 [1, 1, 0]) (C3 [1, 1, 1]) (by kernel_rfl) ?_
  refine st_seq (C3 [1, 1, 0, 0]) (C3 [1, 1, 0, 1]) (by kernel_rfl) ?_
  refine st_region 2 (opsOf (C3 [1, 1, 0, 0])) [0, 1, 2, 3, 4, 5, 6, 7] (by kernel_rfl) (by kernel_rfl) ?_
  refine st_pure tabOK hk [0, 1, 2, 3] [4, 5, 6, 7] [0, 1, 2, 7, 22] [(0, S p0), (1, S p1), (2, I p2), (7, .bool t1), (22, .bool (decide ((p0.length : Int) > 1000)))] (True) (by kernel_rfl) trivial ?_
  clear hk; intro a hk
  refine cut_ops (fun a w => Kn 78 a [(0, S p0), (1, S p1), (2, I p2), (7, .bool t1), (26, .bool ((decide ((p0.length : Int) > 1000)) || (decide ((p1.length : Int) > 3000))))] ∧ Ows [] w0 w []) ?_ ?_
  · intro J
    rcases Bool.eq_false_or_eq_true (decide ((p0.length : Int) > 1000)) with h3 | h3
    ·
      rw [h3] at hk
      have h4 : (p0.length : Int) > 1000 := of_decide_eq_true h3
      refine st_pure tabOK hk [4, 5, 6, 7] [] [0, 1, 2, 7, 26] [(0, S p0), (1, S p1), (2, I p2), (7, .bool t1), (26, .bool true)] (True) (by kernel_rfl) trivial ?_
      clear hk; intro a hk
      refine st_done ?_
      have e : ((decide ((p0.length : Int) > 1000)) || (decide ((p1.length : Int) > 3000))) = true := by first | (simp only [h3]; done) | (simp only [h3]; rfl) | rfl | simp [h3]
      exact J a w ⟨by rw [e]; exact hk.to [0, 1, 2, 7, 26] _ (by kernel_rfl), ho⟩
    ·
      rw [h3] at hk
      have h5 : ¬ ((p0.length : Int) > 1000) := of_decide_eq_false h3
      refine st_pure tabOK hk [4, 5, 6, 7] [] [0, 1, 2, 7, 26] [(0, S p0), (1, S p1), (2, I p2), (7, .bool t1), (26, .bool (decide ((p1.length : Int) > 3000)))] (True) (by kernel_rfl) trivial ?_
      clear hk; intro a hk
      refine st_done ?_
      have e : ((decide ((p0.length : Int) > 1000)) || (decide ((p1.length : Int) > 3000))) = (decide ((p1.length : Int) > 3000)) := by first | (simp only [h3]; done) | (simp only [h3]; rfl) | rfl | simp [h3]
      exact J a w ⟨by rw [e]; exact hk.to [0, 1, 2, 7, 26] _ (by kernel_rfl), ho⟩
  · rintro a w ⟨hk, ho⟩
    refine st_cond hk (C3 [1, 1, 0, 1, 0]) (C3 [1, 1, 0, 1, 1]) (.tmp 26) (((decide ((p0.length : Int) > 1000)) || (decide ((p1.length : Int) > 3000)))) (by kernel_rfl) (by kernel_rfl) (fun h6 => ?_) (fun h6 => ?_)
    ·
      have h7 : ((decide ((p0.length : Int) > 1000)) || (decide ((p1.length : Int) > 3000))) = true := h6
      rw [if_pos h7] at H
      refine st_seq (C3 [1, 1, 0, 1, 0, 0]) (C3 [1, 1, 0, 1, 0, 1]) (by kernel_rfl) ?_
      refine st_region 3 (opsOf (C3 [1, 1, 0, 1, 0, 0])) [0, 1] (by kernel_rfl) (by kernel_rfl) ?_
      refine st_pure tabOK hk [0, 1] [] [6] [(6, .bool t1)] (True) (by kernel_rfl) trivial ?_
      clear hk; intro a hk
      refine st_done ?_
      refine st_retG hk (by kernel_rfl) [.bool t1] #[.tmp 6] (by kernel_rfl) ⟨resT hk (by kernel_rfl), trivial⟩ ?_
      obtain rfl := Option.some.inj H
      exact ⟨_, rfl, rfl, ho⟩
    ·
      have h8 : ¬ (((decide ((p0.length : Int) > 1000)) || (decide ((p1.length : Int) > 3000))) = true) := ne_true_of_eq_false h6
      rw [if_neg h8] at H
      refine st_skip (by kernel_rfl) ?_
      refine st_seq (C3 [1, 1, 1, 0]) (C3 [1, 1, 1, 1]) (by kernel_rfl) ?_
      refine st_region 4 (opsOf (C3 [1, 1, 1, 0])) [0, 1, 2, 3, 4, 5, 6, 7] (by kernel_rfl) (by kernel_rfl) ?_
      refine st_pure tabOK hk [0, 1] [2, 3, 4, 5, 6, 7] [0, 1, 2, 7, 29, 30] [(0, S p0), (1, S p1), (2, I p2), (7, .bool t1), (29, S p0), (30, I p2)] (True) (by kernel_rfl) trivial ?_
      clear hk; intro a hk
      obtain ⟨t9, h10, H⟩ := Option.bind_eq_some_iff.1 H
      refine st_call hk 5 [S p0, I p2] (some 31) enters5 (by kernel_rfl) (chunk_Encode.ok K  p0 p2 t9 h10 w (hg.of ho)) ?_
      clear hk; rintro a u w ⟨rfl, ho'⟩ hk
      replace ho : Ows [] w0 w [] := ho.call ho'; clear ho'
      refine st_pure tabOK hk [3, 4, 5, 6, 7] [] [0, 1, 2, 7, 8, 9] [(0, S p0), (1, S p1), (2, I p2), (7, .bool t1), (8, S t9.1), (9, I t9.2)] (True) (by kernel_rfl) trivial ?_
      clear hk; intro a hk
      refine st_done ?_
      refine st_seq (C3 [1, 1, 1, 1, 0]) (C3 [1, 1, 1, 1, 1]) (by kernel_rfl) ?_
      refine st_region 5 (opsOf (C3 [1, 1, 1, 1, 0])) [0, 1, 2, 3, 4, 5, 6, 7] (by kernel_rfl) (by kernel_rfl) ?_
      refine st_pure tabOK hk [0, 1] [2, 3, 4, 5, 6, 7] [1, 7, 8, 9, 35, 36] [(1, S p1), (7, .bool t1), (8, S t9.1), (9, I t9.2), (35, S p0), (36, I p2)] (True) (by kernel_rfl) trivial ?_
      clear hk; intro a hk
      obtain ⟨t11, h12, H⟩ := Option.bind_eq_some_iff.1 H
      refine st_call hk 6 [S p0, I p2] (some 37) enters6 (by kernel_rfl) (sculleryref07_Encode.ok K  p0 p2 t11 h12 w ) ?_
      clear hk; rintro a u w ⟨rfl, ho'⟩ hk
      replace ho : Ows [] w0 w [] := ho.call ho'; clear ho'
      refine st_pure tabOK hk [3, 4, 5, 6, 7] [] [1, 7, 8, 9, 10, 11] [(1, S p1), (7, .bool t1), (8, S t9.1), (9, I t9.2), (10, S t11.1), (11, I t11.2)] (True) (by kernel_rfl) trivial ?_
      clear hk; intro a hk
      refine st_done ?_
      refine st_seq (C3 [1, 1, 1, 1, 1, 0]) (C3 [1, 1, 1, 1, 1, 1]) (by kernel_rfl) ?_
      refine st_region 6 (opsOf (C3 [1, 1, 1, 1, 1, 0])) [0, 1, 2, 3, 4, 5, 6, 7, 8] (by kernel_rfl) (by kernel_rfl) ?_
      refine st_pure tabOK hk [0] [1, 2, 3, 4, 5, 6, 7, 8] [1, 7, 8, 9, 10, 11, 41] [(1, S p1), (7, .bool t1), (8, S t9.1), (9, I t9.2), (10, S t11.1), (11, I t11.2), (41, S p1)] (True) (by kernel_rfl) trivial ?_
      clear hk; intro a hk
      obtain ⟨t13, h14, H⟩ := Option.bind_eq_some_iff.1 H
      refine st_call hk 7 [S p1] (some 42) enters7 (by kernel_rfl) (chunk_Decode.ok K  p1 t13 h14 w (hg.of ho)) ?_
      clear hk; rintro a u w ⟨rfl, ho'⟩ hk
      replace ho : Ows [] w0 w [] := ho.call ho'; clear ho'
      refine st_pure tabOK hk [2, 3, 4, 5, 6, 7, 8] [] [1, 7, 8, 9, 10, 11, 12, 13, 14] [(1, S p1), (7, .bool t1), (8, S t9.1), (9, I t9.2), (10, S t11.1), (11, I t11.2), (12, S t13.1), (13, I t13.2.1), (14, I t13.2.2)] (True) (by kernel_rfl) trivial ?_
      clear hk; intro a hk
      refine st_done ?_
      refine st_seq (C3 [1, 1, 1, 1, 1, 1, 0]) (C3 [1, 1, 1, 1, 1, 1, 1]) (by kernel_rfl) ?_
      refine st_region 7 (opsOf (C3 [1, 1, 1, 1, 1, 1, 0])) [0, 1, 2, 3, 4, 5, 6, 7, 8] (by kernel_rfl) (by kernel_rfl) ?_
      refine st_pure tabOK hk [0] [1, 2, 3, 4, 5, 6, 7, 8] [7, 8, 9, 10, 11, 12, 13, 14, 47] [(7, .bool t1), (8, S t9.1), (9, I t9.2), (10, S t11.1), (11, I t11.2), (12, S t13.1), (13, I t13.2.1), (14, I t13.2.2), (47, S p1)] (True) (by kernel_rfl) trivial ?_
      clear hk; intro a hk
      obtain ⟨t15, h16, H⟩ := Option.bind_eq_some_iff.1 H
      refine st_call hk 8 [S p1] (some 48) enters8 (by kernel_rfl) (sculleryref07_Decode.ok K  p1 t15 h16 w ) ?_
      clear hk; rintro a u w ⟨rfl, ho'⟩ hk
      replace ho : Ows [] w0 w [] := ho.call ho'; clear ho'
      refine st_pure tabOK hk [2, 3, 4, 5, 6, 7, 8] [] [7, 8, 9, 10, 11, 12, 13, 14, 15, 16, 17] [(7, .bool t1), (8, S t9.1), (9, I t9.2), (10, S t11.1), (11, I t11.2), (12, S t13.1), (13, I t13.2.1), (14, I t13.2.2), (15, S t15.1), (16, I t15.2.1), (17, I t15.2.2)] (True) (by kernel_rfl) trivial ?_
      clear hk; intro a hk
      refine st_done ?_
      refine st_seq (C3 [1, 1, 1, 1, 1, 1, 1, 0]) (C3 [1, 1, 1, 1, 1, 1, 1, 1]) (by kernel_rfl) ?_
      refine st_region 8 (opsOf (C3 [1, 1, 1, 1, 1, 1, 1, 0])) [0, 1, 2, 3, 4, 5, 6, 7, 8, 9, 10, 11, 12, 13, 14, 15, 16, 17, 18, 19, 20, 21, 22, 23, 24, 25, 26] (by kernel_rfl) (by kernel_rfl) ?_
      refine st_pure tabOK hk [0, 1] [2, 3, 4, 5, 6, 7, 8, 9, 10, 11, 12, 13, 14, 15, 16, 17, 18, 19, 20, 21, 22, 23, 24, 25, 26] [8, 9, 10, 11, 12, 13, 14, 15, 16, 17, 53] [(8, S t9.1), (9, I t9.2), (10, S t11.1), (11, I t11.2), (12, S t13.1), (13, I t13.2.1), (14, I t13.2.2), (15, S t15.1), (16, I t15.2.1), (17, I t15.2.2), (53, .bool t1)] (True) (by kernel_rfl) trivial ?_
      clear hk; intro a hk
      refine cut_ops (fun a w => Kn 78 a [(6, .bool (t1 && ((t9.1 == t11.1) && ((t9.2 == t11.2) && ((t13.1 == t15.1) && ((t13.2.1 == t15.2.1) && (t13.2.2 == t15.2.2)))))))] ∧ Ows [] w0 w []) ?_ ?_
      · intro J
        rcases Bool.eq_false_or_eq_true (t1) with h17 | h17
        ·
          rw [h17] at hk
          have h18 : t1 = true := h17
          refine st_pure tabOK hk [2, 3, 4, 5, 6] [7, 8, 9, 10, 11, 12, 13, 14, 15, 16, 17, 18, 19, 20, 21, 22, 23, 24, 25, 26] [9, 11, 12, 13, 14, 15, 16, 17, 58] [(9, I t9.2), (11, I t11.2), (12, S t13.1), (13, I t13.2.1), (14, I t13.2.2), (15, S t15.1), (16, I t15.2.1), (17, I t15.2.2), (58, .bool (t9.1 == t11.1))] (True) (by kernel_rfl) trivial ?_
          clear hk; intro a hk
          rcases Bool.eq_false_or_eq_true (t9.1 == t11.1) with h19 | h19
          ·
            rw [h19] at hk
            have h20 : (t9.1 == t11.1) = true := h19
            refine st_pure tabOK hk [7, 8, 9, 10, 11] [12, 13, 14, 15, 16, 17, 18, 19, 20, 21, 22, 23, 24, 25, 26] [12, 13, 14, 15, 16, 17, 63] [(12, S t13.1), (13, I t13.2.1), (14, I t13.2.2), (15, S t15.1), (16, I t15.2.1), (17, I t15.2.2), (63, .bool (t9.2 == t11.2))] (True) (by kernel_rfl) trivial ?_
            clear hk; intro a hk
            rcases Bool.eq_false_or_eq_true (t9.2 == t11.2) with h21 | h21
            ·
              rw [h21] at hk
              have h22 : (t9.2 == t11.2) = true := h21
              refine st_pure tabOK hk [12, 13, 14, 15, 16] [17, 18, 19, 20, 21, 22, 23, 24, 25, 26] [13, 14, 16, 17, 68] [(13, I t13.2.1), (14, I t13.2.2), (16, I t15.2.1), (17, I t15.2.2), (68, .bool (t13.1 == t15.1))] (True) (by kernel_rfl) trivial ?_
              clear hk; intro a hk
              rcases Bool.eq_false_or_eq_true (t13.1 == t15.1) with h23 | h23
              ·
                rw [h23] at hk
                have h24 : (t13.1 == t15.1) = true := h23
                refine st_pure tabOK hk [17, 18, 19, 20, 21] [22, 23, 24, 25, 26] [14, 17, 73] [(14, I t13.2.2), (17, I t15.2.2), (73, .bool (t13.2.1 == t15.2.1))] (True) (by kernel_rfl) trivial ?_
                clear hk; intro a hk
                rcases Bool.eq_false_or_eq_true (t13.2.1 == t15.2.1) with h25 | h25
                ·
                  rw [h25] at hk
                  have h26 : (t13.2.1 == t15.2.1) = true := h25
                  refine st_pure tabOK hk [22, 23, 24, 25, 26] [] [6] [(6, .bool (t13.2.2 == t15.2.2))] (True) (by kernel_rfl) trivial ?_
                  clear hk; intro a hk
                  refine st_done ?_
                  have e : (t1 && ((t9.1 == t11.1) && ((t9.2 == t11.2) && ((t13.1 == t15.1) && ((t13.2.1 == t15.2.1) && (t13.2.2 == t15.2.2)))))) = (t13.2.2 == t15.2.2) := by first | (simp only [h17, h19, h21, h23, h25]; done) | (simp only [h17, h19, h21, h23, h25]; rfl) | rfl | simp [h17, h19, h21, h23, h25]
                  exact J a w ⟨by rw [e]; exact hk.to [6] _ (by kernel_rfl), ho⟩
                ·
                  rw [h25] at hk
                  have h27 : ¬ ((t13.2.1 == t15.2.1) = true) := ne_true_of_eq_false h25
                  refine st_pure tabOK hk [22, 23, 24, 25, 26] [] [6] [(6, .bool false)] (True) (by kernel_rfl) trivial ?_
                  clear hk; intro a hk
                  refine st_done ?_
                  have e : (t1 && ((t9.1 == t11.1) && ((t9.2 == t11.2) && ((t13.1 == t15.1) && ((t13.2.1 == t15.2.1) && (t13.2.2 == t15.2.2)))))) = false := by first | (simp only [h17, h19, h21, h23, h25]; done) | (simp only [h17, h19, h21, h23, h25]; rfl) | rfl | simp [h17, h19, h21, h23, h25]
                  exact J a w ⟨by rw [e]; exact hk.to [6] _ (by kernel_rfl), ho⟩
              ·
                rw [h23] at hk
                have h28 : ¬ ((t13.1 == t15.1) = true) := ne_true_of_eq_false h23
                refine st_pure tabOK hk [17, 18, 19, 20, 21, 22, 23, 24, 25, 26] [] [6] [(6, .bool false)] (True) (by kernel_rfl) trivial ?_
                clear hk; intro a hk
                refine st_done ?_
                have e : (t1 && ((t9.1 == t11.1) && ((t9.2 == t11.2) && ((t13.1 == t15.1) && ((t13.2.1 == t15.2.1) && (t13.2.2 == t15.2.2)))))) = false := by first | (simp only [h17, h19, h21, h23]; done) | (simp only [h17, h19, h21, h23]; rfl) | rfl | simp [h17, h19, h21, h23]
                exact J a w ⟨by rw [e]; exact hk.to [6] _ (by kernel_rfl), ho⟩
            ·
              rw [h21] at hk
              have h29 : ¬ ((t9.2 == t11.2) = true) := ne_true_of_eq_false h21
              refine st_pure tabOK hk [12, 13, 14, 15, 16, 17, 18, 19, 20, 21, 22, 23, 24, 25, 26] [] [6] [(6, .bool false)] (True) (by kernel_rfl) trivial ?_
              clear hk; intro a hk
              refine st_done ?_
              have e : (t1 && ((t9.1 == t11.1) && ((t9.2 == t11.2) && ((t13.1 == t15.1) && ((t13.2.1 == t15.2.1) && (t13.2.2 == t15.2.2)))))) = false := by first | (simp only [h17, h19, h21]; done) | (simp only [h17, h19, h21]; rfl) | rfl | simp [h17, h19, h21]
              exact J a w ⟨by rw [e]; exact hk.to [6] _ (by kernel_rfl), ho⟩
          ·
            rw [h19] at hk
            have h30 : ¬ ((t9.1 == t11.1) = true) := ne_true_of_eq_false h19
            refine st_pure tabOK hk [7, 8, 9, 10, 11, 12, 13, 14, 15, 16, 17, 18, 19, 20, 21, 22, 23, 24, 25, 26] [] [6] [(6, .bool false)] (True) (by kernel_rfl) trivial ?_
            clear hk; intro a hk
            refine st_done ?_
            have e : (t1 && ((t9.1 == t11.1) && ((t9.2 == t11.2) && ((t13.1 == t15.1) && ((t13.2.1 == t15.2.1) && (t13.2.2 == t15.2.2)))))) = false := by first | (simp only [h17, h19]; done) | (simp only [h17, h19]; rfl) | rfl | simp [h17, h19]
            exact J a w ⟨by rw [e]; exact hk.to [6] _ (by kernel_rfl), ho⟩
        ·
          rw [h17] at hk
          have h31 : ¬ (t1 = true) := ne_true_of_eq_false h17
          refine st_pure tabOK hk [2, 3, 4, 5, 6, 7, 8, 9, 10, 11, 12, 13, 14, 15, 16, 17, 18, 19, 20, 21, 22, 23, 24, 25, 26] [] [6] [(6, .bool false)] (True) (by kernel_rfl) trivial ?_
          clear hk; intro a hk
          refine st_done ?_
          have e : (t1 && ((t9.1 == t11.1) && ((t9.2 == t11.2) && ((t13.1 == t15.1) && ((t13.2.1 == t15.2.1) && (t13.2.2 == t15.2.2)))))) = false := by first | (simp only [h17]; done) | (simp only [h17]; rfl) | rfl | simp [h17]
          exact J a w ⟨by rw [e]; exact hk.to [6] _ (by kernel_rfl), ho⟩
      · rintro a w ⟨hk, ho⟩
        refine st_retG hk (by kernel_rfl) [.bool (t1 && ((t9.1 == t11.1) && ((t9.2 == t11.2) && ((t13.1 == t15.1) && ((t13.2.1 == t15.2.1) && (t13.2.2 == t15.2.2))))))] #[.tmp 6] (by kernel_rfl) ⟨resT hk (by kernel_rfl), trivial⟩ ?_
        obtain rfl := Option.some.inj H
        exact ⟨_, rfl, rfl, ho⟩

end Go.Proofs.YtkkmbkelkbhecaaGreatDoor
