/- Go functions as plain functions, and that the machine's calls do what these say. -/
import Derived.Test.YtifocgljpfaekaaDoorT
import Derived.Test.YtifocgljpfaekaaDoorHA
import Derived.Test.YtifocgljpfaekaaDoorHT
import Derived.Test.YtifocgljpfaekaaDoorF1
set_option maxRecDepth 100000
set_option linter.unusedVariables false
namespace Go.Proofs.YtifocgljpfaekaaDoor
open Go.Ev Go.Proofs.Tryd


/-! (*scullery/date.scan).number: function 58 -/
noncomputable def C58 (p : List Nat) : Code := Sub (bodyOf f58) p
def date_scan_number.l0 : Nat → Int → Int → Str → Bool → Int → Int → Option ((Str × Bool × Int) ⊕ (Int × Str × Bool))
  | 0, _, _, _, _, _, _ => none
  | k + 1, p1, p2, v2, v3, v4, v5 => (if v5 < p1 then (((if v5 ≥ (v2.length : Int) then some true else (if (0 : Int) ≤ v5 then (if v5 < (v2.length : Int) then (if bt v2 v5 < 48 then some true else some (decide (bt v2 v5 > 57))) else none) else none))).bind fun m8 => (if m8 = true then some (.inr (0, v2, true)) else (if (0 : Int) ≤ v5 then (if v5 < (v2.length : Int) then date_scan_number.l0 k p1 p2 v2 v3 (w64 ((w64 ((10 : Int) * v4)) + (w64 (w8 ((bt v2 v5) - 48))))) (w64 (v5 + 1)) else none) else none))) else some (.inl (v2, v3, v4)))
def date_scan_number.f (K : Nat) (p0_0 : Str) (p0_1 : Bool) (p1 : Int) (p2 : Int) : Option (Int × Str × Bool) := (((date_scan_number.l0 K p1 p2 p0_0 p0_1 0 0).bind fun m23 => match m23 with | .inl s25 => (if (0 : Int) ≤ p1 then (if p1 ≤ (s25.1.length : Int) then some (s25.2.2, s25.1.drop p1.toNat, (s25.2.1 || (decide (s25.2.2 > p2)))) else none) else none) | .inr r38 => some r38))
abbrev date_scan_number.post (b1 : Nat) (w0 : World) (r : Int × Str × Bool) (u : Value) (w : World) : Prop := u = I r.1 ∧ Ows [b1] w0 w [.blk b1 (.cells #[S r.2.1, .bool r.2.2] 96 (0, 0))]
theorem date_scan_number.l0_ok : ∀ (k : Nat) (p1 : Int) (p2 : Int) (v2 : Str) (v3 : Bool) (v4 : Int) (v5 : Int) (out : (Str × Bool × Int) ⊕ (Int × Str × Bool)), date_scan_number.l0 k p1 p2 v2 v3 v4 v5 = some out → ∀ (b1 : Nat) (w0 : World) (Q : Exit → Act → World → Prop) (rest : List It) (a : Act) (w : World), Kn 75 a [(0, .pointer (some ⟨b1, 0, none⟩)), (1, I p1), (2, I p2), (7, I v4), (9, I p1), (10, I v5)] → Ows [b1] w0 w [.blk b1 (.cells #[S v2, .bool v3] 96 (0, 0))] → (∀ (s : Str × Bool × Int) (a : Act) (w : World), out = .inl s → Kn 75 a [(0, .pointer (some ⟨b1, 0, none⟩)), (1, I p1), (2, I p2), (7, I s.2.2)] → Ows [b1] w0 w [.blk b1 (.cells #[S s.1, .bool s.2.1] 96 (0, 0))] → G Tryd.prog Q rest a w) → (∀ (r : Int × Str × Bool) (a : Act) (w : World), out = .inr r → Kn 75 a [(6, I r.1)] → Ows [b1] w0 w [.blk b1 (.cells #[S r.2.1, .bool r.2.2] 96 (0, 0))] → Q .ret a w) → G Tryd.prog Q (.code (C58 [1, 1, 0, 1, 0, 0]) :: .inl (C58 [1, 1, 0, 1, 0, 0]) :: .endb 0 :: rest) a w := by
  intro k
  induction k with
  | zero => intro p1 p2 v2 v3 v4 v5 out H; simp [date_scan_number.l0] at H
  | succ k ih =>
    intro p1 p2 v2 v3 v4 v5 out H b1 w0 Q rest a w  hk ho J R
    simp only [date_scan_number.l0] at H
    refine st_seq (C58 [1, 1, 0, 1, 0, 0, 0]) (C58 [1, 1, 0, 1, 0, 0, 1]) (by kernel_rfl) ?_
    refine st_region 3 (opsOf (C58 [1, 1, 0, 1, 0, 0, 0])) [0] (by kernel_rfl) (by kernel_rfl) ?_
    refine st_pure tabOK hk [0] [] [0, 1, 2, 7, 9, 10, 11] [(0, .pointer (some ⟨b1, 0, none⟩)), (1, I p1), (2, I p2), (7, I v4), (9, I p1), (10, I v5), (11, .bool (decide (v5 < p1)))] (True) (by kernel_rfl) trivial ?_
    clear hk; intro a hk
    refine st_done ?_
    refine st_seq (C58 [1, 1, 0, 1, 0, 0, 1, 0]) (C58 [1, 1, 0, 1, 0, 0, 1, 1]) (by kernel_rfl) ?_
    refine st_cond hk (C58 [1, 1, 0, 1, 0, 0, 1, 0, 0]) (C58 [1, 1, 0, 1, 0, 0, 1, 0, 1]) (.tmp 11) (decide (v5 < p1)) (by kernel_rfl) (by kernel_rfl) (fun h6 => ?_) (fun h6 => ?_)
    ·
      have h7 : v5 < p1 := of_decide_eq_true h6
      rw [if_pos h7] at H
      refine st_skip (by kernel_rfl) ?_
      refine st_seq (C58 [1, 1, 0, 1, 0, 0, 1, 1, 0]) (C58 [1, 1, 0, 1, 0, 0, 1, 1, 1]) (by kernel_rfl) ?_
      refine st_block 1 (C58 [1, 1, 0, 1, 0, 0, 1, 1, 0, 0]) (by kernel_rfl) ?_
      refine st_seq (C58 [1, 1, 0, 1, 0, 0, 1, 1, 0, 0, 0]) (C58 [1, 1, 0, 1, 0, 0, 1, 1, 0, 0, 1]) (by kernel_rfl) ?_
      refine st_region 4 (opsOf (C58 [1, 1, 0, 1, 0, 0, 1, 1, 0, 0, 0])) [0, 1] (by kernel_rfl) (by kernel_rfl) ?_
      refine st_pure tabOK hk [0, 1] [] [0, 1, 2, 7, 8, 9, 10] [(0, .pointer (some ⟨b1, 0, none⟩)), (1, I p1), (2, I p2), (7, I v4), (8, I v5), (9, I p1), (10, I v5)] (True) (by kernel_rfl) trivial ?_
      clear hk; intro a hk
      refine st_done ?_
      refine st_seq (C58 [1, 1, 0, 1, 0, 0, 1, 1, 0, 0, 1, 0]) (C58 [1, 1, 0, 1, 0, 0, 1, 1, 0, 0, 1, 1]) (by kernel_rfl) ?_
      refine st_seq (C58 [1, 1, 0, 1, 0, 0, 1, 1, 0, 0, 1, 0, 0]) (C58 [1, 1, 0, 1, 0, 0, 1, 1, 0, 0, 1, 0, 1]) (by kernel_rfl) ?_
      refine st_region 5 (opsOf (C58 [1, 1, 0, 1, 0, 0, 1, 1, 0, 0, 1, 0, 0])) [0, 1, 2, 3, 4, 5, 6, 7, 8, 9, 10, 11, 12, 13, 14, 15, 16, 17, 18, 19, 20, 21, 22, 23, 24] (by kernel_rfl) (by kernel_rfl) ?_
      refine st_pure tabOK hk [0, 1, 2, 3] [4, 5, 6, 7, 8, 9, 10, 11, 12, 13, 14, 15, 16, 17, 18, 19, 20, 21, 22, 23, 24] [0, 1, 2, 7, 8, 9, 10, 13, 16] [(0, .pointer (some ⟨b1, 0, none⟩)), (1, I p1), (2, I p2), (7, I v4), (8, I v5), (9, I p1), (10, I v5), (13, I v5), (16, .pointer (some ⟨b1, 0, none⟩))] (((some ⟨b1, 0, none⟩ : Option Addr).isSome = true) ∧ (((some ⟨b1, 0, none⟩ : Option Addr).isSome = true) ∧ True)) (by kernel_rfl) ⟨rfl, ⟨rfl, trivial⟩⟩ ?_
      clear hk; intro a hk
      refine st_load1 tabOK hk 9 (some ⟨b1, 0, none⟩) 17 (by kernel_rfl) (by kernel_rfl) (S v2) (ho.cell 0 rfl rfl) ?_
      clear hk; intro a hk
      refine st_pure tabOK hk [5, 6, 7] [8, 9, 10, 11, 12, 13, 14, 15, 16, 17, 18, 19, 20, 21, 22, 23, 24] [0, 1, 2, 7, 8, 9, 10, 20] [(0, .pointer (some ⟨b1, 0, none⟩)), (1, I p1), (2, I p2), (7, I v4), (8, I v5), (9, I p1), (10, I v5), (20, .bool (decide (v5 ≥ (v2.length : Int))))] (True) (by kernel_rfl) trivial ?_
      clear hk; intro a hk
      obtain ⟨m8, HX, H⟩ := Option.bind_eq_some_iff.1 H
      refine cut_ops (fun a w => Kn 75 a [(0, .pointer (some ⟨b1, 0, none⟩)), (1, I p1), (2, I p2), (7, I v4), (8, I v5), (9, I p1), (10, I v5), (37, .bool m8)] ∧ Ows [b1] w0 w [.blk b1 (.cells #[S v2, .bool v3] 96 (0, 0))]) ?_ ?_
      · intro J; clear H; have H := HX; clear HX
        rcases Bool.eq_false_or_eq_true (decide (v5 ≥ (v2.length : Int))) with h9 | h9
        ·
          rw [h9] at hk
          have h10 : v5 ≥ (v2.length : Int) := of_decide_eq_true h9
          rw [if_pos h10] at H
          refine st_pure tabOK hk [8, 9, 10, 11, 12, 13, 14, 15, 16, 17, 18, 19, 20, 21, 22, 23, 24] [] [0, 1, 2, 7, 8, 9, 10, 37] [(0, .pointer (some ⟨b1, 0, none⟩)), (1, I p1), (2, I p2), (7, I v4), (8, I v5), (9, I p1), (10, I v5), (37, .bool true)] (True) (by kernel_rfl) trivial ?_
          clear hk; intro a hk
          refine st_done ?_
          obtain rfl := Option.some.inj H
          exact J a w ⟨hk.to [0, 1, 2, 7, 8, 9, 10, 37] _ (by kernel_rfl), ho⟩
        ·
          rw [h9] at hk
          have h11 : ¬ (v5 ≥ (v2.length : Int)) := of_decide_eq_false h9
          rw [if_neg h11] at H
          refine st_pure tabOK hk [8, 9, 10] [11, 12, 13, 14, 15, 16, 17, 18, 19, 20, 21, 22, 23, 24] [0, 1, 2, 7, 8, 9, 10, 20, 23] [(0, .pointer (some ⟨b1, 0, none⟩)), (1, I p1), (2, I p2), (7, I v4), (8, I v5), (9, I p1), (10, I v5), (20, .bool false), (23, .pointer (some ⟨b1, 0, none⟩))] (((some ⟨b1, 0, none⟩ : Option Addr).isSome = true) ∧ (((some ⟨b1, 0, none⟩ : Option Addr).isSome = true) ∧ True)) (by kernel_rfl) ⟨rfl, ⟨rfl, trivial⟩⟩ ?_
          clear hk; intro a hk
          refine st_load1 tabOK hk 9 (some ⟨b1, 0, none⟩) 24 (by kernel_rfl) (by kernel_rfl) (S v2) (ho.cell 0 rfl rfl) ?_
          clear hk; intro a hk
          have h12 : (0 : Int) ≤ v5 := by
            by_cases h12 : (0 : Int) ≤ v5
            · exact h12
            · rw [if_neg h12] at H; cases H
          rw [if_pos h12] at H
          have h13 : v5 < (v2.length : Int) := by
            by_cases h13 : v5 < (v2.length : Int)
            · exact h13
            · rw [if_neg h13] at H; cases H
          rw [if_pos h13] at H
          refine st_pure tabOK hk [12, 13, 14, 15, 16] [17, 18, 19, 20, 21, 22, 23, 24] [0, 1, 2, 7, 8, 9, 10, 29] [(0, .pointer (some ⟨b1, 0, none⟩)), (1, I p1), (2, I p2), (7, I v4), (8, I v5), (9, I p1), (10, I v5), (29, .bool (decide (bt v2 v5 < 48)))] (((0 : Int) ≤ v5 ∧ v5 < (v2.length : Int)) ∧ True) (by kernel_rfl) ⟨⟨h12, h13⟩, trivial⟩ ?_
          clear hk; intro a hk
          rcases Bool.eq_false_or_eq_true (decide (bt v2 v5 < 48)) with h14 | h14
          ·
            rw [h14] at hk
            have h15 : bt v2 v5 < 48 := of_decide_eq_true h14
            rw [if_pos h15] at H
            refine st_pure tabOK hk [17, 18, 19, 20, 21, 22, 23, 24] [] [0, 1, 2, 7, 8, 9, 10, 37] [(0, .pointer (some ⟨b1, 0, none⟩)), (1, I p1), (2, I p2), (7, I v4), (8, I v5), (9, I p1), (10, I v5), (37, .bool true)] (True) (by kernel_rfl) trivial ?_
            clear hk; intro a hk
            refine st_done ?_
            obtain rfl := Option.some.inj H
            exact J a w ⟨hk.to [0, 1, 2, 7, 8, 9, 10, 37] _ (by kernel_rfl), ho⟩
          ·
            rw [h14] at hk
            have h16 : ¬ (bt v2 v5 < 48) := of_decide_eq_false h14
            rw [if_neg h16] at H
            refine st_pure tabOK hk [17, 18, 19] [20, 21, 22, 23, 24] [0, 1, 2, 7, 8, 9, 10, 29, 32] [(0, .pointer (some ⟨b1, 0, none⟩)), (1, I p1), (2, I p2), (7, I v4), (8, I v5), (9, I p1), (10, I v5), (29, .bool false), (32, .pointer (some ⟨b1, 0, none⟩))] (((some ⟨b1, 0, none⟩ : Option Addr).isSome = true) ∧ (((some ⟨b1, 0, none⟩ : Option Addr).isSome = true) ∧ True)) (by kernel_rfl) ⟨rfl, ⟨rfl, trivial⟩⟩ ?_
            clear hk; intro a hk
            refine st_load1 tabOK hk 9 (some ⟨b1, 0, none⟩) 33 (by kernel_rfl) (by kernel_rfl) (S v2) (ho.cell 0 rfl rfl) ?_
            clear hk; intro a hk
            refine st_pure tabOK hk [21, 22, 23, 24] [] [0, 1, 2, 7, 8, 9, 10, 37] [(0, .pointer (some ⟨b1, 0, none⟩)), (1, I p1), (2, I p2), (7, I v4), (8, I v5), (9, I p1), (10, I v5), (37, .bool (decide (bt v2 v5 > 57)))] (((0 : Int) ≤ v5 ∧ v5 < (v2.length : Int)) ∧ True) (by kernel_rfl) ⟨⟨h12, h13⟩, trivial⟩ ?_
            clear hk; intro a hk
            refine st_done ?_
            obtain rfl := Option.some.inj H
            exact J a w ⟨hk.to [0, 1, 2, 7, 8, 9, 10, 37] _ (by kernel_rfl), ho⟩
      · clear HX; rintro a w ⟨hk, ho⟩
        refine st_cond hk (C58 [1, 1, 0, 1, 0, 0, 1, 1, 0, 0, 1, 0, 1, 0]) (C58 [1, 1, 0, 1, 0, 0, 1, 1, 0, 0, 1, 0, 1, 1]) (.tmp 37) (m8) (by kernel_rfl) (by kernel_rfl) (fun h17 => ?_) (fun h17 => ?_)
        ·
          have h18 : m8 = true := h17
          rw [if_pos h18] at H
          refine st_seq (C58 [1, 1, 0, 1, 0, 0, 1, 1, 0, 0, 1, 0, 1, 0, 0]) (C58 [1, 1, 0, 1, 0, 0, 1, 1, 0, 0, 1, 0, 1, 0, 1]) (by kernel_rfl) ?_
          refine st_region 6 (opsOf (C58 [1, 1, 0, 1, 0, 0, 1, 1, 0, 0, 1, 0, 1, 0, 0])) [0, 1, 2, 3] (by kernel_rfl) (by kernel_rfl) ?_
          refine st_pure tabOK hk [0, 1, 2] [3] [40] [(40, .pointer (some ⟨b1, 1, none⟩))] (((some ⟨b1, 0, none⟩ : Option Addr).isSome = true) ∧ (((some ⟨b1, 0, none⟩ : Option Addr).isSome = true) ∧ True)) (by kernel_rfl) ⟨rfl, ⟨rfl, trivial⟩⟩ ?_
          clear hk; intro a hk
          refine st_put1 hk ho 0 4 b1 1 (.bool true) #[S v2, .bool v3] 96 [.blk b1 (.cells #[S v2, .bool true] 96 (0, 0))] (by kernel_rfl) (by kernel_rfl) (by kernel_rfl) rfl (by kernel_rfl) (by kernel_rfl) rfl ?_
          clear ho; intro w ho
          refine st_done ?_
          refine st_seq (C58 [1, 1, 0, 1, 0, 0, 1, 1, 0, 0, 1, 0, 1, 0, 1, 0]) (C58 [1, 1, 0, 1, 0, 0, 1, 1, 0, 0, 1, 0, 1, 0, 1, 1]) (by kernel_rfl) ?_
          refine st_region 7 (opsOf (C58 [1, 1, 0, 1, 0, 0, 1, 1, 0, 0, 1, 0, 1, 0, 1, 0])) [0] (by kernel_rfl) (by kernel_rfl) ?_
          refine st_pure tabOK hk [0] [] [6] [(6, I 0)] (True) (by kernel_rfl) trivial ?_
          clear hk; intro a hk
          refine st_done ?_
          refine st_ret (by kernel_rfl) ?_
          obtain rfl := Option.some.inj H
          exact R (0, v2, true)  a w rfl (hk.to [6] _ (by kernel_rfl)) ho
        ·
          have h19 : ¬ (m8 = true) := ne_true_of_eq_false h17
          rw [if_neg h19] at H
          refine st_skip (by kernel_rfl) ?_
          refine st_region 8 (opsOf (C58 [1, 1, 0, 1, 0, 0, 1, 1, 0, 0, 1, 1])) [0, 1, 2, 3, 4, 5, 6, 7, 8, 9, 10, 11] (by kernel_rfl) (by kernel_rfl) ?_
          refine st_pure tabOK hk [0, 1, 2, 3, 4] [5, 6, 7, 8, 9, 10, 11] [0, 1, 2, 8, 9, 10, 42, 45] [(0, .pointer (some ⟨b1, 0, none⟩)), (1, I p1), (2, I p2), (8, I v5), (9, I p1), (10, I v5), (42, I (w64 ((10 : Int) * v4))), (45, .pointer (some ⟨b1, 0, none⟩))] (((some ⟨b1, 0, none⟩ : Option Addr).isSome = true) ∧ (((some ⟨b1, 0, none⟩ : Option Addr).isSome = true) ∧ True)) (by kernel_rfl) ⟨rfl, ⟨rfl, trivial⟩⟩ ?_
          clear hk; intro a hk
          refine st_load1 tabOK hk 9 (some ⟨b1, 0, none⟩) 46 (by kernel_rfl) (by kernel_rfl) (S v2) (ho.cell 0 rfl rfl) ?_
          clear hk; intro a hk
          have h20 : (0 : Int) ≤ v5 := by
            by_cases h20 : (0 : Int) ≤ v5
            · exact h20
            · rw [if_neg h20] at H; cases H
          rw [if_pos h20] at H
          have h21 : v5 < (v2.length : Int) := by
            by_cases h21 : v5 < (v2.length : Int)
            · exact h21
            · rw [if_neg h21] at H; cases H
          rw [if_pos h21] at H
          refine st_pure tabOK hk [6, 7, 8, 9, 10, 11] [] [0, 1, 2, 7, 9, 10] [(0, .pointer (some ⟨b1, 0, none⟩)), (1, I p1), (2, I p2), (7, I (w64 ((w64 ((10 : Int) * v4)) + (w64 (w8 ((bt v2 v5) - 48)))))), (9, I p1), (10, I v5)] (((0 : Int) ≤ v5 ∧ v5 < (v2.length : Int)) ∧ True) (by kernel_rfl) ⟨⟨h20, h21⟩, trivial⟩ ?_
          clear hk; intro a hk
          refine st_done ?_
          refine st_endb 1 ?_
          refine st_region 9 (opsOf (C58 [1, 1, 0, 1, 0, 0, 1, 1, 1])) [0, 1] (by kernel_rfl) (by kernel_rfl) ?_
          refine st_pure tabOK hk [0, 1] [] [0, 1, 2, 7, 9, 10] [(0, .pointer (some ⟨b1, 0, none⟩)), (1, I p1), (2, I p2), (7, I (w64 ((w64 ((10 : Int) * v4)) + (w64 (w8 ((bt v2 v5) - 48)))))), (9, I p1), (10, I (w64 (v5 + 1)))] (True) (by kernel_rfl) trivial ?_
          clear hk; intro a hk
          refine st_done ?_
          refine st_inl ?_
          exact ih p1 p2 v2 v3 (w64 ((w64 ((10 : Int) * v4)) + (w64 (w8 ((bt v2 v5) - 48))))) (w64 (v5 + 1)) out H b1 w0 Q rest a w  (hk.to [0, 1, 2, 7, 9, 10] _ (by kernel_rfl)) ho J R
    ·
      have h22 : ¬ (v5 < p1) := of_decide_eq_false h6
      rw [if_neg h22] at H
      refine st_exit 0 _ (by kernel_rfl) rfl ?_
      obtain rfl := Option.some.inj H
      exact J (v2, v3, v4)  a w rfl (hk.to [0, 1, 2, 7] _ (by kernel_rfl)) ho

theorem date_scan_number.ok (K : Nat) (p0_0 : Str) (p0_1 : Bool) (p1 : Int) (p2 : Int) (r : Int × Str × Bool) (H : date_scan_number.f K p0_0 p0_1 p1 p2 = some r) (w0 : World) (b1 : Nat) (hh : Has w0 [.blk b1 (.cells #[S p0_0, .bool p0_1] 96 (0, 0))]) : Calls Tryd.prog 58 ⟨[.pointer (some ⟨b1, 0, none⟩), I p1, I p2]⟩ w0 fun e w => ∃ u, e = .returned u ∧ date_scan_number.post b1 w0 r u w := by
  unfold date_scan_number.f at H
  refine st_startL (N := 75) [.pointer (some ⟨b1, 0, none⟩), I p1, I p2] (C58 []) func58 (by kernel_rfl) (by kernel_rfl) (by kernel_rfl) ([.blk b1 (.cells #[S p0_0, .bool p0_1] 96 (0, 0))]) hh ?_
  intro a w hk ho
  replace ho : Ows [b1] w0 w [.blk b1 (.cells #[S p0_0, .bool p0_1] 96 (0, 0))] := ho
  refine st_seq (C58 [0]) (C58 [1]) (by kernel_rfl) ?_
  refine st_region 0 (opsOf (C58 [0])) [0] (by kernel_rfl) (by kernel_rfl) ?_
  refine st_pure tabOK hk [0] [] [0, 1, 2] [(0, .pointer (some ⟨b1, 0, none⟩)), (1, I p1), (2, I p2)] (True) (by kernel_rfl) trivial ?_
  clear hk; intro a hk
  refine st_done ?_
  refine st_seq (C58 [1, 0]) (C58 [1, 1]) (by kernel_rfl) ?_
  refine st_region 1 (opsOf (C58 [1, 0])) [0] (by kernel_rfl) (by kernel_rfl) ?_
  refine st_pure tabOK hk [0] [] [0, 1, 2, 7] [(0, .pointer (some ⟨b1, 0, none⟩)), (1, I p1), (2, I p2), (7, I 0)] (True) (by kernel_rfl) trivial ?_
  clear hk; intro a hk
  refine st_done ?_
  refine st_seq (C58 [1, 1, 0]) (C58 [1, 1, 1]) (by kernel_rfl) ?_
  refine st_seq (C58 [1, 1, 0, 0]) (C58 [1, 1, 0, 1]) (by kernel_rfl) ?_
  refine st_region 2 (opsOf (C58 [1, 1, 0, 0])) [0, 1] (by kernel_rfl) (by kernel_rfl) ?_
  refine st_pure tabOK hk [0, 1] [] [0, 1, 2, 7, 9, 10] [(0, .pointer (some ⟨b1, 0, none⟩)), (1, I p1), (2, I p2), (7, I 0), (9, I p1), (10, I 0)] (True) (by kernel_rfl) trivial ?_
  clear hk; intro a hk
  refine st_done ?_
  refine st_block 0 (C58 [1, 1, 0, 1, 0]) (by kernel_rfl) ?_
  obtain ⟨m23, h24, H⟩ := Option.bind_eq_some_iff.1 H
  refine st_loop (C58 [1, 1, 0, 1, 0, 0]) (by kernel_rfl) ?_
  refine date_scan_number.l0_ok K p1 p2 p0_0 p0_1 0 0 m23 h24 b1 w0 _ _ a w  (hk.to [0, 1, 2, 7, 9, 10] _ (by kernel_rfl)) ho ?_ ?_
  · intro s25  a w e hk ho; subst e
    simp only [] at H
    refine st_seq (C58 [1, 1, 1, 0]) (C58 [1, 1, 1, 1]) (by kernel_rfl) ?_
    have h26 : (0 : Int) ≤ p1 := by
      by_cases h26 : (0 : Int) ≤ p1
      · exact h26
      · rw [if_neg h26] at H; cases H
    rw [if_pos h26] at H
    have h27 : p1 ≤ (s25.1.length : Int) := by
      by_cases h27 : p1 ≤ (s25.1.length : Int)
      · exact h27
      · rw [if_neg h27] at H; cases H
    rw [if_pos h27] at H
    refine cut_code (fun a w => Kn 75 a [(7, I s25.2.2)] ∧ Ows [b1] w0 w [.blk b1 (.cells #[S (s25.1.drop p1.toNat), .bool (s25.2.1 || (decide (s25.2.2 > p2)))] 96 (0, 0))]) ?_ ?_
    · intro J
      refine st_draw ho 10 (opsOf (C58 [1, 1, 1, 0])) [0, 1, 2, 3, 4, 5, 6, 7, 8, 9, 10, 11, 12, 13, 14, 15, 16, 17, 18, 19, 20, 21, 22] (by kernel_rfl) (by kernel_rfl) (by kernel_rfl) ?_
      clear ho; intro w ho
      refine any_pure tabOK hk [0, 1, 2, 3, 4, 6, 8, 9, 10] [0, 1, 2, 3, 4, 5, 6, 7, 8, 9, 10, 11, 12, 13, 14, 15, 16, 17, 18, 19, 20, 21, 22] [5, 7, 11, 12, 13, 14, 15, 16, 17, 18, 19, 20, 21, 22] [2, 7, 53, 54, 57, 59, 63] [(2, I p2), (7, I s25.2.2), (53, .pointer (some ⟨b1, 0, none⟩)), (54, .pointer (some ⟨b1, 0, none⟩)), (57, .pointer (some ⟨b1, 0, none⟩)), (59, I p1), (63, .pointer (some ⟨b1, 1, none⟩))] (((some ⟨b1, 0, none⟩ : Option Addr).isSome = true) ∧ (((some ⟨b1, 0, none⟩ : Option Addr).isSome = true) ∧ (((some ⟨b1, 0, none⟩ : Option Addr).isSome = true) ∧ (((some ⟨b1, 0, none⟩ : Option Addr).isSome = true) ∧ True)))) (by kernel_rfl) (by kernel_rfl) (by kernel_rfl) ⟨rfl, ⟨rfl, ⟨rfl, ⟨rfl, trivial⟩⟩⟩⟩ ?_
      clear hk; intro a hk
      refine any_all [5, 11] (by kernel_rfl) (by decide) ⟨?_, ?_, trivial⟩
      ·
        change wpOps _ _ _ [5] _ _
        refine st_load1 tabOK hk 9 (some ⟨b1, 0, none⟩) 58 (by kernel_rfl) (by kernel_rfl) (S s25.1) (ho.cell 0 rfl rfl) ?_
        clear hk; intro a hk
        refine any_go [7, 11, 12, 13, 14, 15, 16, 17, 18, 19, 20, 21, 22] (by kernel_rfl) ?_
        refine any_pure tabOK hk [7] [7, 11, 12, 13, 14, 15, 16, 17, 18, 19, 20, 21, 22] [11, 12, 13, 14, 15, 16, 17, 18, 19, 20, 21, 22] [2, 7, 53, 54, 60, 63] [(2, I p2), (7, I s25.2.2), (53, .pointer (some ⟨b1, 0, none⟩)), (54, .pointer (some ⟨b1, 0, none⟩)), (60, S (s25.1.drop p1.toNat)), (63, .pointer (some ⟨b1, 1, none⟩))] (((0 : Int) ≤ p1 ∧ p1 ≤ (s25.1.length : Int)) ∧ True) (by kernel_rfl) (by kernel_rfl) (by kernel_rfl) ⟨⟨h26, h27⟩, trivial⟩ ?_
        clear hk; intro a hk
        refine any_all [11] (by kernel_rfl) (by decide) ⟨?_, trivial⟩
        change wpOps _ _ _ [11] _ _
        refine st_load1 tabOK hk 4 (some ⟨b1, 1, none⟩) 64 (by kernel_rfl) (by kernel_rfl) (.bool s25.2.1) (ho.cell 0 rfl rfl) ?_
        clear hk; intro a hk
        refine any_go [12, 13, 14, 15, 16, 17, 18, 19, 20, 21, 22] (by kernel_rfl) ?_
        refine any_pure tabOK hk [12, 17, 18] [12, 13, 14, 15, 16, 17, 18, 19, 20, 21, 22] [13, 14, 15, 16, 19, 20, 21, 22] [2, 7, 54, 60, 65, 71] [(2, I p2), (7, I s25.2.2), (54, .pointer (some ⟨b1, 0, none⟩)), (60, S (s25.1.drop p1.toNat)), (65, .bool s25.2.1), (71, .pointer (some ⟨b1, 0, none⟩))] (((some ⟨b1, 0, none⟩ : Option Addr).isSome = true) ∧ (((some ⟨b1, 0, none⟩ : Option Addr).isSome = true) ∧ True)) (by kernel_rfl) (by kernel_rfl) (by kernel_rfl) ⟨rfl, ⟨rfl, trivial⟩⟩ ?_
        clear hk; intro a hk
        rcases Bool.eq_false_or_eq_true (s25.2.1) with h28 | h28
        ·
          rw [h28] at hk
          have h29 : s25.2.1 = true := h28
          refine any_pure tabOK hk [13, 14, 15, 16] [13, 14, 15, 16, 19, 20, 21, 22] [19, 20, 21, 22] [7, 54, 60, 69, 71] [(7, I s25.2.2), (54, .pointer (some ⟨b1, 0, none⟩)), (60, S (s25.1.drop p1.toNat)), (69, .bool true), (71, .pointer (some ⟨b1, 0, none⟩))] (True) (by kernel_rfl) (by kernel_rfl) (by kernel_rfl) trivial ?_
          clear hk; intro a hk
          refine any_all [19] (by kernel_rfl) (by decide) ⟨?_, trivial⟩
          change wpOps _ _ _ [19] _ _
          refine st_put1 hk ho 0 9 b1 0 (S (s25.1.drop p1.toNat)) #[S s25.1, .bool s25.2.1] 96 [.blk b1 (.cells #[S (s25.1.drop p1.toNat), .bool s25.2.1] 96 (0, 0))] (by kernel_rfl) (by kernel_rfl) (by kernel_rfl) rfl (by kernel_rfl) (by kernel_rfl) rfl ?_
          clear ho; intro w ho
          refine any_go [20, 21, 22] (by kernel_rfl) ?_
          refine any_pure tabOK hk [20, 21] [20, 21, 22] [22] [7, 69, 73] [(7, I s25.2.2), (69, .bool true), (73, .pointer (some ⟨b1, 1, none⟩))] (((some ⟨b1, 0, none⟩ : Option Addr).isSome = true) ∧ (((some ⟨b1, 0, none⟩ : Option Addr).isSome = true) ∧ True)) (by kernel_rfl) (by kernel_rfl) (by kernel_rfl) ⟨rfl, ⟨rfl, trivial⟩⟩ ?_
          clear hk; intro a hk
          refine any_all [22] (by kernel_rfl) (by decide) ⟨?_, trivial⟩
          change wpOps _ _ _ [22] _ _
          refine st_put1 hk ho 0 4 b1 1 (.bool true) #[S (s25.1.drop p1.toNat), .bool s25.2.1] 96 [.blk b1 (.cells #[S (s25.1.drop p1.toNat), .bool true] 96 (0, 0))] (by kernel_rfl) (by kernel_rfl) (by kernel_rfl) rfl (by kernel_rfl) (by kernel_rfl) rfl ?_
          clear ho; intro w ho
          refine any_go [] (by kernel_rfl) ?_
          refine any_end ?_
          have e30 : (s25.2.1 || (decide (s25.2.2 > p2))) = true := by first | (simp only [h28]; done) | (simp only [h28]; rfl) | rfl | simp [h28]
          exact J a w ⟨by exact hk.to [7] _ (by kernel_rfl), by rw [e30]; exact ho⟩
        ·
          rw [h28] at hk
          have h31 : ¬ (s25.2.1 = true) := ne_true_of_eq_false h28
          refine any_pure tabOK hk [13, 14, 15, 16] [13, 14, 15, 16, 19, 20, 21, 22] [19, 20, 21, 22] [7, 54, 60, 69, 71] [(7, I s25.2.2), (54, .pointer (some ⟨b1, 0, none⟩)), (60, S (s25.1.drop p1.toNat)), (69, .bool (decide (s25.2.2 > p2))), (71, .pointer (some ⟨b1, 0, none⟩))] (True) (by kernel_rfl) (by kernel_rfl) (by kernel_rfl) trivial ?_
          clear hk; intro a hk
          refine any_all [19] (by kernel_rfl) (by decide) ⟨?_, trivial⟩
          change wpOps _ _ _ [19] _ _
          refine st_put1 hk ho 0 9 b1 0 (S (s25.1.drop p1.toNat)) #[S s25.1, .bool s25.2.1] 96 [.blk b1 (.cells #[S (s25.1.drop p1.toNat), .bool s25.2.1] 96 (0, 0))] (by kernel_rfl) (by kernel_rfl) (by kernel_rfl) rfl (by kernel_rfl) (by kernel_rfl) rfl ?_
          clear ho; intro w ho
          refine any_go [20, 21, 22] (by kernel_rfl) ?_
          refine any_pure tabOK hk [20, 21] [20, 21, 22] [22] [7, 69, 73] [(7, I s25.2.2), (69, .bool (decide (s25.2.2 > p2))), (73, .pointer (some ⟨b1, 1, none⟩))] (((some ⟨b1, 0, none⟩ : Option Addr).isSome = true) ∧ (((some ⟨b1, 0, none⟩ : Option Addr).isSome = true) ∧ True)) (by kernel_rfl) (by kernel_rfl) (by kernel_rfl) ⟨rfl, ⟨rfl, trivial⟩⟩ ?_
          clear hk; intro a hk
          refine any_all [22] (by kernel_rfl) (by decide) ⟨?_, trivial⟩
          change wpOps _ _ _ [22] _ _
          refine st_put1 hk ho 0 4 b1 1 (.bool (decide (s25.2.2 > p2))) #[S (s25.1.drop p1.toNat), .bool s25.2.1] 96 [.blk b1 (.cells #[S (s25.1.drop p1.toNat), .bool (decide (s25.2.2 > p2))] 96 (0, 0))] (by kernel_rfl) (by kernel_rfl) (by kernel_rfl) rfl (by kernel_rfl) (by kernel_rfl) rfl ?_
          clear ho; intro w ho
          refine any_go [] (by kernel_rfl) ?_
          refine any_end ?_
          have e32 : (s25.2.1 || (decide (s25.2.2 > p2))) = (decide (s25.2.2 > p2)) := by first | (simp only [h28]; done) | (simp only [h28]; rfl) | rfl | simp [h28]
          exact J a w ⟨by exact hk.to [7] _ (by kernel_rfl), by rw [e32]; exact ho⟩
      ·
        change wpOps _ _ _ [11] _ _
        refine st_load1 tabOK hk 4 (some ⟨b1, 1, none⟩) 64 (by kernel_rfl) (by kernel_rfl) (.bool s25.2.1) (ho.cell 0 rfl rfl) ?_
        clear hk; intro a hk
        refine any_go [5, 7, 12, 13, 14, 15, 16, 17, 18, 19, 20, 21, 22] (by kernel_rfl) ?_
        refine any_pure tabOK hk [12] [5, 7, 12, 13, 14, 15, 16, 17, 18, 19, 20, 21, 22] [5, 7, 13, 14, 15, 16, 17, 18, 19, 20, 21, 22] [2, 7, 53, 54, 57, 59, 65] [(2, I p2), (7, I s25.2.2), (53, .pointer (some ⟨b1, 0, none⟩)), (54, .pointer (some ⟨b1, 0, none⟩)), (57, .pointer (some ⟨b1, 0, none⟩)), (59, I p1), (65, .bool s25.2.1)] (True) (by kernel_rfl) (by kernel_rfl) (by kernel_rfl) trivial ?_
        clear hk; intro a hk
        rcases Bool.eq_false_or_eq_true (s25.2.1) with h33 | h33
        ·
          rw [h33] at hk
          have h34 : s25.2.1 = true := h33
          refine any_pure tabOK hk [13, 14, 15, 16] [5, 7, 13, 14, 15, 16, 17, 18, 19, 20, 21, 22] [5, 7, 17, 18, 19, 20, 21, 22] [7, 53, 54, 57, 59, 69] [(7, I s25.2.2), (53, .pointer (some ⟨b1, 0, none⟩)), (54, .pointer (some ⟨b1, 0, none⟩)), (57, .pointer (some ⟨b1, 0, none⟩)), (59, I p1), (69, .bool true)] (True) (by kernel_rfl) (by kernel_rfl) (by kernel_rfl) trivial ?_
          clear hk; intro a hk
          refine any_all [5] (by kernel_rfl) (by decide) ⟨?_, trivial⟩
          change wpOps _ _ _ [5] _ _
          refine st_load1 tabOK hk 9 (some ⟨b1, 0, none⟩) 58 (by kernel_rfl) (by kernel_rfl) (S s25.1) (ho.cell 0 rfl rfl) ?_
          clear hk; intro a hk
          refine any_go [7, 17, 18, 19, 20, 21, 22] (by kernel_rfl) ?_
          refine any_pure tabOK hk [7, 17, 18] [7, 17, 18, 19, 20, 21, 22] [19, 20, 21, 22] [7, 54, 60, 69, 71] [(7, I s25.2.2), (54, .pointer (some ⟨b1, 0, none⟩)), (60, S (s25.1.drop p1.toNat)), (69, .bool true), (71, .pointer (some ⟨b1, 0, none⟩))] (((0 : Int) ≤ p1 ∧ p1 ≤ (s25.1.length : Int)) ∧ (((some ⟨b1, 0, none⟩ : Option Addr).isSome = true) ∧ (((some ⟨b1, 0, none⟩ : Option Addr).isSome = true) ∧ True))) (by kernel_rfl) (by kernel_rfl) (by kernel_rfl) ⟨⟨h26, h27⟩, ⟨rfl, ⟨rfl, trivial⟩⟩⟩ ?_
          clear hk; intro a hk
          refine any_all [19] (by kernel_rfl) (by decide) ⟨?_, trivial⟩
          change wpOps _ _ _ [19] _ _
          refine st_put1 hk ho 0 9 b1 0 (S (s25.1.drop p1.toNat)) #[S s25.1, .bool s25.2.1] 96 [.blk b1 (.cells #[S (s25.1.drop p1.toNat), .bool s25.2.1] 96 (0, 0))] (by kernel_rfl) (by kernel_rfl) (by kernel_rfl) rfl (by kernel_rfl) (by kernel_rfl) rfl ?_
          clear ho; intro w ho
          refine any_go [20, 21, 22] (by kernel_rfl) ?_
          refine any_pure tabOK hk [20, 21] [20, 21, 22] [22] [7, 69, 73] [(7, I s25.2.2), (69, .bool true), (73, .pointer (some ⟨b1, 1, none⟩))] (((some ⟨b1, 0, none⟩ : Option Addr).isSome = true) ∧ (((some ⟨b1, 0, none⟩ : Option Addr).isSome = true) ∧ True)) (by kernel_rfl) (by kernel_rfl) (by kernel_rfl) ⟨rfl, ⟨rfl, trivial⟩⟩ ?_
          clear hk; intro a hk
          refine any_all [22] (by kernel_rfl) (by decide) ⟨?_, trivial⟩
          change wpOps _ _ _ [22] _ _
          refine st_put1 hk ho 0 4 b1 1 (.bool true) #[S (s25.1.drop p1.toNat), .bool s25.2.1] 96 [.blk b1 (.cells #[S (s25.1.drop p1.toNat), .bool true] 96 (0, 0))] (by kernel_rfl) (by kernel_rfl) (by kernel_rfl) rfl (by kernel_rfl) (by kernel_rfl) rfl ?_
          clear ho; intro w ho
          refine any_go [] (by kernel_rfl) ?_
          refine any_end ?_
          have e35 : (s25.2.1 || (decide (s25.2.2 > p2))) = true := by first | (simp only [h33]; done) | (simp only [h33]; rfl) | rfl | simp [h33]
          exact J a w ⟨by exact hk.to [7] _ (by kernel_rfl), by rw [e35]; exact ho⟩
        ·
          rw [h33] at hk
          have h36 : ¬ (s25.2.1 = true) := ne_true_of_eq_false h33
          refine any_pure tabOK hk [13, 14, 15, 16] [5, 7, 13, 14, 15, 16, 17, 18, 19, 20, 21, 22] [5, 7, 17, 18, 19, 20, 21, 22] [7, 53, 54, 57, 59, 69] [(7, I s25.2.2), (53, .pointer (some ⟨b1, 0, none⟩)), (54, .pointer (some ⟨b1, 0, none⟩)), (57, .pointer (some ⟨b1, 0, none⟩)), (59, I p1), (69, .bool (decide (s25.2.2 > p2)))] (True) (by kernel_rfl) (by kernel_rfl) (by kernel_rfl) trivial ?_
          clear hk; intro a hk
          refine any_all [5] (by kernel_rfl) (by decide) ⟨?_, trivial⟩
          change wpOps _ _ _ [5] _ _
          refine st_load1 tabOK hk 9 (some ⟨b1, 0, none⟩) 58 (by kernel_rfl) (by kernel_rfl) (S s25.1) (ho.cell 0 rfl rfl) ?_
          clear hk; intro a hk
          refine any_go [7, 17, 18, 19, 20, 21, 22] (by kernel_rfl) ?_
          refine any_pure tabOK hk [7, 17, 18] [7, 17, 18, 19, 20, 21, 22] [19, 20, 21, 22] [7, 54, 60, 69, 71] [(7, I s25.2.2), (54, .pointer (some ⟨b1, 0, none⟩)), (60, S (s25.1.drop p1.toNat)), (69, .bool (decide (s25.2.2 > p2))), (71, .pointer (some ⟨b1, 0, none⟩))] (((0 : Int) ≤ p1 ∧ p1 ≤ (s25.1.length : Int)) ∧ (((some ⟨b1, 0, none⟩ : Option Addr).isSome = true) ∧ (((some ⟨b1, 0, none⟩ : Option Addr).isSome = true) ∧ True))) (by kernel_rfl) (by kernel_rfl) (by kernel_rfl) ⟨⟨h26, h27⟩, ⟨rfl, ⟨rfl, trivial⟩⟩⟩ ?_
          clear hk; intro a hk
          refine any_all [19] (by kernel_rfl) (by decide) ⟨?_, trivial⟩
          change wpOps _ _ _ [19] _ _
          refine st_put1 hk ho 0 9 b1 0 (S (s25.1.drop p1.toNat)) #[S s25.1, .bool s25.2.1] 96 [.blk b1 (.cells #[S (s25.1.drop p1.toNat), .bool s25.2.1] 96 (0, 0))] (by kernel_rfl) (by kernel_rfl) (by kernel_rfl) rfl (by kernel_rfl) (by kernel_rfl) rfl ?_
          clear ho; intro w ho
          refine any_go [20, 21, 22] (by kernel_rfl) ?_
          refine any_pure tabOK hk [20, 21] [20, 21, 22] [22] [7, 69, 73] [(7, I s25.2.2), (69, .bool (decide (s25.2.2 > p2))), (73, .pointer (some ⟨b1, 1, none⟩))] (((some ⟨b1, 0, none⟩ : Option Addr).isSome = true) ∧ (((some ⟨b1, 0, none⟩ : Option Addr).isSome = true) ∧ True)) (by kernel_rfl) (by kernel_rfl) (by kernel_rfl) ⟨rfl, ⟨rfl, trivial⟩⟩ ?_
          clear hk; intro a hk
          refine any_all [22] (by kernel_rfl) (by decide) ⟨?_, trivial⟩
          change wpOps _ _ _ [22] _ _
          refine st_put1 hk ho 0 4 b1 1 (.bool (decide (s25.2.2 > p2))) #[S (s25.1.drop p1.toNat), .bool s25.2.1] 96 [.blk b1 (.cells #[S (s25.1.drop p1.toNat), .bool (decide (s25.2.2 > p2))] 96 (0, 0))] (by kernel_rfl) (by kernel_rfl) (by kernel_rfl) rfl (by kernel_rfl) (by kernel_rfl) rfl ?_
          clear ho; intro w ho
          refine any_go [] (by kernel_rfl) ?_
          refine any_end ?_
          have e37 : (s25.2.1 || (decide (s25.2.2 > p2))) = (decide (s25.2.2 > p2)) := by first | (simp only [h33]; done) | (simp only [h33]; rfl) | rfl | simp [h33]
          exact J a w ⟨by exact hk.to [7] _ (by kernel_rfl), by rw [e37]; exact ho⟩
    · rintro a w ⟨hk, ho⟩
      refine st_seq (C58 [1, 1, 1, 1, 0]) (C58 [1, 1, 1, 1, 1]) (by kernel_rfl) ?_
      refine st_region 11 (opsOf (C58 [1, 1, 1, 1, 0])) [0, 1] (by kernel_rfl) (by kernel_rfl) ?_
      refine st_pure tabOK hk [0, 1] [] [6] [(6, I s25.2.2)] (True) (by kernel_rfl) trivial ?_
      clear hk; intro a hk
      refine st_done ?_
      refine st_retG hk (by kernel_rfl) [I s25.2.2] #[.tmp 6] (by kernel_rfl) ⟨resT hk (by kernel_rfl), trivial⟩ ?_
      obtain rfl := Option.some.inj H
      exact ⟨_, rfl, rfl, ho⟩
  · intro r38  a w e hk ho; subst e
    simp only [] at H
    refine retG hk [I r38.1] #[.tmp 6] (by kernel_rfl) ⟨resT hk (by kernel_rfl), trivial⟩ ?_
    obtain rfl := Option.some.inj H
    exact ⟨_, rfl, rfl, ho⟩


/-! scullery/date.names: function 17 -/
noncomputable def C17 (p : List Nat) : Code := Sub (bodyOf f17) p
def date_names.f  : Option (Str × Str × Str × Str × Str × Str × Str × Str × Str × Str × Str × Str) := some ([74, 97, 110], [70, 101, 98], [77, 97, 114], [65, 112, 114], [77, 97, 121], [74, 117, 110], [74, 117, 108], [65, 117, 103], [83, 101, 112], [79, 99, 116], [78, 111, 118], [68, 101, 99])
abbrev date_names.post (w0 : World) (r : Str × Str × Str × Str × Str × Str × Str × Str × Str × Str × Str × Str) (u : Value) (w : World) : Prop := u = .agg #[S r.1, S r.2.1, S r.2.2.1, S r.2.2.2.1, S r.2.2.2.2.1, S r.2.2.2.2.2.1, S r.2.2.2.2.2.2.1, S r.2.2.2.2.2.2.2.1, S r.2.2.2.2.2.2.2.2.1, S r.2.2.2.2.2.2.2.2.2.1, S r.2.2.2.2.2.2.2.2.2.2.1, S r.2.2.2.2.2.2.2.2.2.2.2] ∧ Ows [] w0 w []
theorem date_names.ok  (r : Str × Str × Str × Str × Str × Str × Str × Str × Str × Str × Str × Str) (H : date_names.f  = some r) (w0 : World)  : Calls Tryd.prog 17 ⟨[]⟩ w0 fun e w => ∃ u, e = .returned u ∧ date_names.post w0 r u w := by
  unfold date_names.f at H
  refine st_start (N := 2) [] (C17 []) func17 (by kernel_rfl) (by kernel_rfl) (by kernel_rfl) ?_
  intro a w hk ho
  refine st_seq (C17 [0]) (C17 [1]) (by kernel_rfl) ?_
  refine st_region 0 (opsOf (C17 [0])) [0] (by kernel_rfl) (by kernel_rfl) ?_
  refine st_new tabOK hk ho #[S ([]), S ([]), S ([]), S ([]), S ([]), S ([]), S ([]), S ([]), S ([]), S ([]), S ([]), S ([])] 49 0 (by kernel_rfl) ?_
  clear hk ho; intro a b1 w hk ho
  refine st_done ?_
  refine st_seq (C17 [1, 0]) (C17 [1, 1]) (by kernel_rfl) ?_
  refine st_region 1 (opsOf (C17 [1, 0])) [0, 1] (by kernel_rfl) (by kernel_rfl) ?_
  refine st_pure tabOK hk [0] [1] [0, 1] [(0, .pointer (some ⟨b1, 0, none⟩)), (1, .agg #[S ([74, 97, 110]), S ([70, 101, 98]), S ([77, 97, 114]), S ([65, 112, 114]), S ([77, 97, 121]), S ([74, 117, 110]), S ([74, 117, 108]), S ([65, 117, 103]), S ([83, 101, 112]), S ([79, 99, 116]), S ([78, 111, 118]), S ([68, 101, 99])])] (True) (by kernel_rfl) trivial ?_
  clear hk; intro a hk
  refine st_putA hk ho 0 49 b1 0 [S ([74, 97, 110]), S ([70, 101, 98]), S ([77, 97, 114]), S ([65, 112, 114]), S ([77, 97, 121]), S ([74, 117, 110]), S ([74, 117, 108]), S ([65, 117, 103]), S ([83, 101, 112]), S ([79, 99, 116]), S ([78, 111, 118]), S ([68, 101, 99])] #[S ([]), S ([]), S ([]), S ([]), S ([]), S ([]), S ([]), S ([]), S ([]), S ([]), S ([]), S ([])] 49 [.blk b1 (.cells #[S ([74, 97, 110]), S ([70, 101, 98]), S ([77, 97, 114]), S ([65, 112, 114]), S ([77, 97, 121]), S ([74, 117, 110]), S ([74, 117, 108]), S ([65, 117, 103]), S ([83, 101, 112]), S ([79, 99, 116]), S ([78, 111, 118]), S ([68, 101, 99])] 49 (0, 0))] (by kernel_rfl) (by kernel_rfl) (by kernel_rfl) rfl (by kernel_rfl) (by kernel_rfl) rfl ?_
  clear ho; intro w ho
  refine st_done ?_
  refine st_retG hk (by kernel_rfl) [.agg #[S ([74, 97, 110]), S ([70, 101, 98]), S ([77, 97, 114]), S ([65, 112, 114]), S ([77, 97, 121]), S ([74, 117, 110]), S ([74, 117, 108]), S ([65, 117, 103]), S ([83, 101, 112]), S ([79, 99, 116]), S ([78, 111, 118]), S ([68, 101, 99])]] #[.cell 0 49] (by kernel_rfl) ⟨resC tabOK hk (by kernel_rfl) (ho.blkAt 0 rfl) rfl (by kernel_rfl) (z := .agg #[S ([]), S ([]), S ([]), S ([]), S ([]), S ([]), S ([]), S ([]), S ([]), S ([]), S ([]), S ([])]) (by kernel_rfl) (by kernel_rfl), trivial⟩ ?_
  obtain rfl := Option.some.inj H
  replace ho : Ows [] w0 w [] := ho.erase 0
  exact ⟨_, rfl, rfl, ho⟩


/-! strings.HasPrefix: function 61 -/
noncomputable def C61 (p : List Nat) : Code := Sub (bodyOf f61) p
def strings_HasPrefix.f (p0 : Str) (p1 : Str) : Option (Bool) := (((stringslite_HasPrefix.f p0 p1).bind fun t1 => some t1))
abbrev strings_HasPrefix.post (w0 : World) (r : Bool) (u : Value) (w : World) : Prop := u = .bool r ∧ Ows [] w0 w []
theorem strings_HasPrefix.ok (p0 : Str) (p1 : Str) (r : Bool) (H : strings_HasPrefix.f p0 p1 = some r) (w0 : World)  : Calls Tryd.prog 61 ⟨[S p0, S p1]⟩ w0 fun e w => ∃ u, e = .returned u ∧ strings_HasPrefix.post w0 r u w := by
  unfold strings_HasPrefix.f at H
  refine st_start (N := 8) [S p0, S p1] (C61 []) func61 (by kernel_rfl) (by kernel_rfl) (by kernel_rfl) ?_
  intro a w hk ho
  refine st_seq (C61 [0]) (C61 [1]) (by kernel_rfl) ?_
  refine st_region 0 (opsOf (C61 [0])) [0] (by kernel_rfl) (by kernel_rfl) ?_
  refine st_pure tabOK hk [0] [] [0, 1] [(0, S p0), (1, S p1)] (True) (by kernel_rfl) trivial ?_
  clear hk; intro a hk
  refine st_done ?_
  refine st_seq (C61 [1, 0]) (C61 [1, 1]) (by kernel_rfl) ?_
  refine st_region 1 (opsOf (C61 [1, 0])) [0, 1, 2, 3] (by kernel_rfl) (by kernel_rfl) ?_
  refine st_pure tabOK hk [0, 1] [2, 3] [5, 6] [(5, S p0), (6, S p1)] (True) (by kernel_rfl) trivial ?_
  clear hk; intro a hk
  obtain ⟨t1, h2, H⟩ := Option.bind_eq_some_iff.1 H
  refine st_call hk 62 [S p0, S p1] (some 7) enters62 (by kernel_rfl) (stringslite_HasPrefix.ok  p0 p1 t1 h2 w ) ?_
  clear hk; rintro a u w ⟨rfl, ho'⟩ hk
  replace ho : Ows [] w0 w [] := ho.call ho'; clear ho'
  refine st_pure tabOK hk [3] [] [4] [(4, .bool t1)] (True) (by kernel_rfl) trivial ?_
  clear hk; intro a hk
  refine st_done ?_
  refine st_retG hk (by kernel_rfl) [.bool t1] #[.tmp 4] (by kernel_rfl) ⟨resT hk (by kernel_rfl), trivial⟩ ?_
  obtain rfl := Option.some.inj H
  exact ⟨_, rfl, rfl, ho⟩


/-! (*scullery/date.scan).month: function 59 -/
noncomputable def C59 (p : List Nat) : Code := Sub (bodyOf f59) p
def date_scan_month.l0 : Nat → (Str × Str × Str × Str × Str × Str × Str × Str × Str × Str × Str × Str) → Str → Bool → Int → Option ((Str × Bool) ⊕ (Int × Str × Bool))
  | 0, _, _, _, _ => none
  | k + 1, t2, v4, v5, v6 => (if v6 < 12 then (if (0 : Int) ≤ v6 then ((strings_HasPrefix.f v4 (get ([t2.1, t2.2.1, t2.2.2.1, t2.2.2.2.1, t2.2.2.2.2.1, t2.2.2.2.2.2.1, t2.2.2.2.2.2.2.1, t2.2.2.2.2.2.2.2.1, t2.2.2.2.2.2.2.2.2.1, t2.2.2.2.2.2.2.2.2.2.1, t2.2.2.2.2.2.2.2.2.2.2.1, t2.2.2.2.2.2.2.2.2.2.2.2] : List (Str)) v6)).bind fun t10 => (if t10 = true then ((date_scan_word.f v4 v5 (get ([t2.1, t2.2.1, t2.2.2.1, t2.2.2.2.1, t2.2.2.2.2.1, t2.2.2.2.2.2.1, t2.2.2.2.2.2.2.1, t2.2.2.2.2.2.2.2.1, t2.2.2.2.2.2.2.2.2.1, t2.2.2.2.2.2.2.2.2.2.1, t2.2.2.2.2.2.2.2.2.2.2.1, t2.2.2.2.2.2.2.2.2.2.2.2] : List (Str)) v6)).bind fun t14 => some (.inr (w64 (v6 + 1), t14.1, t14.2))) else date_scan_month.l0 k t2 v4 v5 (w64 (v6 + 1)))) else none) else some (.inl (v4, v5)))
def date_scan_month.f (K : Nat) (p0_0 : Str) (p0_1 : Bool) : Option (Int × Str × Bool) := (((date_names.f ).bind fun t2 => ((date_scan_month.l0 K t2 p0_0 p0_1 0).bind fun m18 => match m18 with | .inl s20 => some (0, s20.1, true) | .inr r21 => some r21)))
abbrev date_scan_month.post (b1 : Nat) (w0 : World) (r : Int × Str × Bool) (u : Value) (w : World) : Prop := u = I r.1 ∧ Ows [b1] w0 w [.blk b1 (.cells #[S r.2.1, .bool r.2.2] 96 (0, 0))]
theorem date_scan_month.l0_ok : ∀ (k : Nat) (t2 : Str × Str × Str × Str × Str × Str × Str × Str × Str × Str × Str × Str) (v4 : Str) (v5 : Bool) (v6 : Int) (out : (Str × Bool) ⊕ (Int × Str × Bool)), date_scan_month.l0 k t2 v4 v5 v6 = some out → ∀ (b1 : Nat) (w0 : World) (Q : Exit → Act → World → Prop) (rest : List It) (a : Act) (w : World), Kn 25 a [(0, .pointer (some ⟨b1, 0, none⟩)), (5, .agg #[S t2.1, S t2.2.1, S t2.2.2.1, S t2.2.2.2.1, S t2.2.2.2.2.1, S t2.2.2.2.2.2.1, S t2.2.2.2.2.2.2.1, S t2.2.2.2.2.2.2.2.1, S t2.2.2.2.2.2.2.2.2.1, S t2.2.2.2.2.2.2.2.2.2.1, S t2.2.2.2.2.2.2.2.2.2.2.1, S t2.2.2.2.2.2.2.2.2.2.2.2]), (6, I v6)] → Ows [b1] w0 w [.blk b1 (.cells #[S v4, .bool v5] 96 (0, 0))] → (∀ (s : Str × Bool) (a : Act) (w : World), out = .inl s → Kn 25 a [(0, .pointer (some ⟨b1, 0, none⟩))] → Ows [b1] w0 w [.blk b1 (.cells #[S s.1, .bool s.2] 96 (0, 0))] → G Tryd.prog Q rest a w) → (∀ (r : Int × Str × Bool) (a : Act) (w : World), out = .inr r → Kn 25 a [(2, I r.1)] → Ows [b1] w0 w [.blk b1 (.cells #[S r.2.1, .bool r.2.2] 96 (0, 0))] → Q .ret a w) → G Tryd.prog Q (.code (C59 [1, 0, 1, 0, 0]) :: .inl (C59 [1, 0, 1, 0, 0]) :: .endb 0 :: rest) a w := by
  intro k
  induction k with
  | zero => intro t2 v4 v5 v6 out H; simp [date_scan_month.l0] at H
  | succ k ih =>
    intro t2 v4 v5 v6 out H b1 w0 Q rest a w  hk ho J R
    simp only [date_scan_month.l0] at H
    refine st_seq (C59 [1, 0, 1, 0, 0, 0]) (C59 [1, 0, 1, 0, 0, 1]) (by kernel_rfl) ?_
    refine st_region 2 (opsOf (C59 [1, 0, 1, 0, 0, 0])) [0] (by kernel_rfl) (by kernel_rfl) ?_
    refine st_pure tabOK hk [0] [] [0, 5, 6, 7] [(0, .pointer (some ⟨b1, 0, none⟩)), (5, .agg #[S t2.1, S t2.2.1, S t2.2.2.1, S t2.2.2.2.1, S t2.2.2.2.2.1, S t2.2.2.2.2.2.1, S t2.2.2.2.2.2.2.1, S t2.2.2.2.2.2.2.2.1, S t2.2.2.2.2.2.2.2.2.1, S t2.2.2.2.2.2.2.2.2.2.1, S t2.2.2.2.2.2.2.2.2.2.2.1, S t2.2.2.2.2.2.2.2.2.2.2.2]), (6, I v6), (7, .bool (decide (v6 < 12)))] (True) (by kernel_rfl) trivial ?_
    clear hk; intro a hk
    refine st_done ?_
    refine st_seq (C59 [1, 0, 1, 0, 0, 1, 0]) (C59 [1, 0, 1, 0, 0, 1, 1]) (by kernel_rfl) ?_
    refine st_cond hk (C59 [1, 0, 1, 0, 0, 1, 0, 0]) (C59 [1, 0, 1, 0, 0, 1, 0, 1]) (.tmp 7) (decide (v6 < 12)) (by kernel_rfl) (by kernel_rfl) (fun h7 => ?_) (fun h7 => ?_)
    ·
      have h8 : v6 < 12 := of_decide_eq_true h7
      rw [if_pos h8] at H
      refine st_skip (by kernel_rfl) ?_
      refine st_seq (C59 [1, 0, 1, 0, 0, 1, 1, 0]) (C59 [1, 0, 1, 0, 0, 1, 1, 1]) (by kernel_rfl) ?_
      refine st_block 1 (C59 [1, 0, 1, 0, 0, 1, 1, 0, 0]) (by kernel_rfl) ?_
      refine st_seq (C59 [1, 0, 1, 0, 0, 1, 1, 0, 0, 0]) (C59 [1, 0, 1, 0, 0, 1, 1, 0, 0, 1]) (by kernel_rfl) ?_
      refine st_region 3 (opsOf (C59 [1, 0, 1, 0, 0, 1, 1, 0, 0, 0])) [0, 1, 2, 3] (by kernel_rfl) (by kernel_rfl) ?_
      have h9 : (0 : Int) ≤ v6 := by
        by_cases h9 : (0 : Int) ≤ v6
        · exact h9
        · rw [if_neg h9] at H; cases H
      rw [if_pos h9] at H
      refine st_pure tabOK hk [0] [1, 2, 3] [0, 5, 6, 8] [(0, .pointer (some ⟨b1, 0, none⟩)), (5, .agg #[S t2.1, S t2.2.1, S t2.2.2.1, S t2.2.2.2.1, S t2.2.2.2.2.1, S t2.2.2.2.2.2.1, S t2.2.2.2.2.2.2.1, S t2.2.2.2.2.2.2.2.1, S t2.2.2.2.2.2.2.2.2.1, S t2.2.2.2.2.2.2.2.2.2.1, S t2.2.2.2.2.2.2.2.2.2.2.1, S t2.2.2.2.2.2.2.2.2.2.2.2]), (6, I v6), (8, I v6)] (True) (by kernel_rfl) trivial ?_
      clear hk; intro a hk
      refine st_yield hk 9 (S (get ([t2.1, t2.2.1, t2.2.2.1, t2.2.2.2.1, t2.2.2.2.2.1, t2.2.2.2.2.2.1, t2.2.2.2.2.2.2.1, t2.2.2.2.2.2.2.2.1, t2.2.2.2.2.2.2.2.2.1, t2.2.2.2.2.2.2.2.2.2.1, t2.2.2.2.2.2.2.2.2.2.2.1, t2.2.2.2.2.2.2.2.2.2.2.2] : List (Str)) v6)) (ix1 tabOK 49 9 9 .i64 S ([t2.1, t2.2.1, t2.2.2.1, t2.2.2.2.1, t2.2.2.2.2.1, t2.2.2.2.2.2.1, t2.2.2.2.2.2.2.1, t2.2.2.2.2.2.2.2.1, t2.2.2.2.2.2.2.2.2.1, t2.2.2.2.2.2.2.2.2.2.1, t2.2.2.2.2.2.2.2.2.2.2.1, t2.2.2.2.2.2.2.2.2.2.2.2] : List (Str)) v6 12 (by kernel_rfl) (by kernel_rfl) rfl h9 h8) ?_
      clear hk; intro a hk
      refine st_pure tabOK hk [2, 3] [] [0, 3, 4, 5, 6] [(0, .pointer (some ⟨b1, 0, none⟩)), (3, I v6), (4, S (get ([t2.1, t2.2.1, t2.2.2.1, t2.2.2.2.1, t2.2.2.2.2.1, t2.2.2.2.2.2.1, t2.2.2.2.2.2.2.1, t2.2.2.2.2.2.2.2.1, t2.2.2.2.2.2.2.2.2.1, t2.2.2.2.2.2.2.2.2.2.1, t2.2.2.2.2.2.2.2.2.2.2.1, t2.2.2.2.2.2.2.2.2.2.2.2] : List (Str)) v6)), (5, .agg #[S t2.1, S t2.2.1, S t2.2.2.1, S t2.2.2.2.1, S t2.2.2.2.2.1, S t2.2.2.2.2.2.1, S t2.2.2.2.2.2.2.1, S t2.2.2.2.2.2.2.2.1, S t2.2.2.2.2.2.2.2.2.1, S t2.2.2.2.2.2.2.2.2.2.1, S t2.2.2.2.2.2.2.2.2.2.2.1, S t2.2.2.2.2.2.2.2.2.2.2.2]), (6, I v6)] (True) (by kernel_rfl) trivial ?_
      clear hk; intro a hk
      refine st_done ?_
      refine st_seq (C59 [1, 0, 1, 0, 0, 1, 1, 0, 0, 1, 0]) (C59 [1, 0, 1, 0, 0, 1, 1, 0, 0, 1, 1]) (by kernel_rfl) ?_
      refine st_region 4 (opsOf (C59 [1, 0, 1, 0, 0, 1, 1, 0, 0, 1, 0])) [0, 1, 2, 3, 4, 5] (by kernel_rfl) (by kernel_rfl) ?_
      refine st_pure tabOK hk [0, 1, 2] [3, 4, 5] [0, 3, 4, 5, 6, 12] [(0, .pointer (some ⟨b1, 0, none⟩)), (3, I v6), (4, S (get ([t2.1, t2.2.1, t2.2.2.1, t2.2.2.2.1, t2.2.2.2.2.1, t2.2.2.2.2.2.1, t2.2.2.2.2.2.2.1, t2.2.2.2.2.2.2.2.1, t2.2.2.2.2.2.2.2.2.1, t2.2.2.2.2.2.2.2.2.2.1, t2.2.2.2.2.2.2.2.2.2.2.1, t2.2.2.2.2.2.2.2.2.2.2.2] : List (Str)) v6)), (5, .agg #[S t2.1, S t2.2.1, S t2.2.2.1, S t2.2.2.2.1, S t2.2.2.2.2.1, S t2.2.2.2.2.2.1, S t2.2.2.2.2.2.2.1, S t2.2.2.2.2.2.2.2.1, S t2.2.2.2.2.2.2.2.2.1, S t2.2.2.2.2.2.2.2.2.2.1, S t2.2.2.2.2.2.2.2.2.2.2.1, S t2.2.2.2.2.2.2.2.2.2.2.2]), (6, I v6), (12, .pointer (some ⟨b1, 0, none⟩))] (((some ⟨b1, 0, none⟩ : Option Addr).isSome = true) ∧ (((some ⟨b1, 0, none⟩ : Option Addr).isSome = true) ∧ True)) (by kernel_rfl) ⟨rfl, ⟨rfl, trivial⟩⟩ ?_
      clear hk; intro a hk
      refine st_load1 tabOK hk 9 (some ⟨b1, 0, none⟩) 13 (by kernel_rfl) (by kernel_rfl) (S v4) (ho.cell 0 rfl rfl) ?_
      clear hk; intro a hk
      refine st_pure tabOK hk [4] [5] [0, 3, 4, 5, 6, 13, 14] [(0, .pointer (some ⟨b1, 0, none⟩)), (3, I v6), (4, S (get ([t2.1, t2.2.1, t2.2.2.1, t2.2.2.2.1, t2.2.2.2.2.1, t2.2.2.2.2.2.1, t2.2.2.2.2.2.2.1, t2.2.2.2.2.2.2.2.1, t2.2.2.2.2.2.2.2.2.1, t2.2.2.2.2.2.2.2.2.2.1, t2.2.2.2.2.2.2.2.2.2.2.1, t2.2.2.2.2.2.2.2.2.2.2.2] : List (Str)) v6)), (5, .agg #[S t2.1, S t2.2.1, S t2.2.2.1, S t2.2.2.2.1, S t2.2.2.2.2.1, S t2.2.2.2.2.2.1, S t2.2.2.2.2.2.2.1, S t2.2.2.2.2.2.2.2.1, S t2.2.2.2.2.2.2.2.2.1, S t2.2.2.2.2.2.2.2.2.2.1, S t2.2.2.2.2.2.2.2.2.2.2.1, S t2.2.2.2.2.2.2.2.2.2.2.2]), (6, I v6), (13, S v4), (14, S (get ([t2.1, t2.2.1, t2.2.2.1, t2.2.2.2.1, t2.2.2.2.2.1, t2.2.2.2.2.2.1, t2.2.2.2.2.2.2.1, t2.2.2.2.2.2.2.2.1, t2.2.2.2.2.2.2.2.2.1, t2.2.2.2.2.2.2.2.2.2.1, t2.2.2.2.2.2.2.2.2.2.2.1, t2.2.2.2.2.2.2.2.2.2.2.2] : List (Str)) v6))] (True) (by kernel_rfl) trivial ?_
      clear hk; intro a hk
      obtain ⟨t10, h11, H⟩ := Option.bind_eq_some_iff.1 H
      refine st_call hk 61 [S v4, S (get ([t2.1, t2.2.1, t2.2.2.1, t2.2.2.2.1, t2.2.2.2.2.1, t2.2.2.2.2.2.1, t2.2.2.2.2.2.2.1, t2.2.2.2.2.2.2.2.1, t2.2.2.2.2.2.2.2.2.1, t2.2.2.2.2.2.2.2.2.2.1, t2.2.2.2.2.2.2.2.2.2.2.1, t2.2.2.2.2.2.2.2.2.2.2.2] : List (Str)) v6)] (some 15) enters61 (by kernel_rfl) (strings_HasPrefix.ok  v4 (get ([t2.1, t2.2.1, t2.2.2.1, t2.2.2.2.1, t2.2.2.2.2.1, t2.2.2.2.2.2.1, t2.2.2.2.2.2.2.1, t2.2.2.2.2.2.2.2.1, t2.2.2.2.2.2.2.2.2.1, t2.2.2.2.2.2.2.2.2.2.1, t2.2.2.2.2.2.2.2.2.2.2.1, t2.2.2.2.2.2.2.2.2.2.2.2] : List (Str)) v6) t10 h11 w ) ?_
      clear hk; rintro a u w ⟨rfl, ho'⟩ hk
      replace ho : Ows [b1] w0 w [.blk b1 (.cells #[S v4, .bool v5] 96 (0, 0))] := ho.call ho'; clear ho'
      refine st_done ?_
      refine st_cond hk (C59 [1, 0, 1, 0, 0, 1, 1, 0, 0, 1, 1, 0]) (C59 [1, 0, 1, 0, 0, 1, 1, 0, 0, 1, 1, 1]) (.tmp 15) (t10) (by kernel_rfl) (by kernel_rfl) (fun h12 => ?_) (fun h12 => ?_)
      ·
        have h13 : t10 = true := h12
        rw [if_pos h13] at H
        refine st_seq (C59 [1, 0, 1, 0, 0, 1, 1, 0, 0, 1, 1, 0, 0]) (C59 [1, 0, 1, 0, 0, 1, 1, 0, 0, 1, 1, 0, 1]) (by kernel_rfl) ?_
        refine st_region 5 (opsOf (C59 [1, 0, 1, 0, 0, 1, 1, 0, 0, 1, 1, 0, 0])) [0, 1, 2] (by kernel_rfl) (by kernel_rfl) ?_
        refine st_pure tabOK hk [0, 1] [2] [3, 16, 17] [(3, I v6), (16, .pointer (some ⟨b1, 0, none⟩)), (17, S (get ([t2.1, t2.2.1, t2.2.2.1, t2.2.2.2.1, t2.2.2.2.2.1, t2.2.2.2.2.2.1, t2.2.2.2.2.2.2.1, t2.2.2.2.2.2.2.2.1, t2.2.2.2.2.2.2.2.2.1, t2.2.2.2.2.2.2.2.2.2.1, t2.2.2.2.2.2.2.2.2.2.2.1, t2.2.2.2.2.2.2.2.2.2.2.2] : List (Str)) v6))] (True) (by kernel_rfl) trivial ?_
        clear hk; intro a hk
        obtain ⟨t14, h15, H⟩ := Option.bind_eq_some_iff.1 H
        refine st_call hk 47 [.pointer (some ⟨b1, 0, none⟩), S (get ([t2.1, t2.2.1, t2.2.2.1, t2.2.2.2.1, t2.2.2.2.2.1, t2.2.2.2.2.2.1, t2.2.2.2.2.2.2.1, t2.2.2.2.2.2.2.2.1, t2.2.2.2.2.2.2.2.2.1, t2.2.2.2.2.2.2.2.2.2.1, t2.2.2.2.2.2.2.2.2.2.2.1, t2.2.2.2.2.2.2.2.2.2.2.2] : List (Str)) v6)] (some 18) enters47 (by kernel_rfl) (date_scan_word.ok  v4 v5 (get ([t2.1, t2.2.1, t2.2.2.1, t2.2.2.2.1, t2.2.2.2.2.1, t2.2.2.2.2.2.1, t2.2.2.2.2.2.2.1, t2.2.2.2.2.2.2.2.1, t2.2.2.2.2.2.2.2.2.1, t2.2.2.2.2.2.2.2.2.2.1, t2.2.2.2.2.2.2.2.2.2.2.1, t2.2.2.2.2.2.2.2.2.2.2.2] : List (Str)) v6) t14 h15 w b1 (Ows.has (K := [.blk b1 (.cells #[S v4, .bool v5] 96 (0, 0))]) (L := []) ho)) ?_
        clear hk; rintro a u w ⟨rfl, ho'⟩ hk
        replace ho : Ows [b1] w0 w [.blk b1 (.cells #[S t14.1, .bool t14.2] 96 (0, 0))] := Ows.callP (K := [.blk b1 (.cells #[S v4, .bool v5] 96 (0, 0))]) (L := []) ho ho' rfl; clear ho'
        refine st_done ?_
        refine st_seq (C59 [1, 0, 1, 0, 0, 1, 1, 0, 0, 1, 1, 0, 1, 0]) (C59 [1, 0, 1, 0, 0, 1, 1, 0, 0, 1, 1, 0, 1, 1]) (by kernel_rfl) ?_
        refine st_region 6 (opsOf (C59 [1, 0, 1, 0, 0, 1, 1, 0, 0, 1, 1, 0, 1, 0])) [0, 1, 2] (by kernel_rfl) (by kernel_rfl) ?_
        refine st_pure tabOK hk [0, 1, 2] [] [2] [(2, I (w64 (v6 + 1)))] (True) (by kernel_rfl) trivial ?_
        clear hk; intro a hk
        refine st_done ?_
        refine st_ret (by kernel_rfl) ?_
        obtain rfl := Option.some.inj H
        exact R (w64 (v6 + 1), t14.1, t14.2)  a w rfl (hk.to [2] _ (by kernel_rfl)) ho
      ·
        have h16 : ¬ (t10 = true) := ne_true_of_eq_false h12
        rw [if_neg h16] at H
        refine st_skip (by kernel_rfl) ?_
        refine st_endb 1 ?_
        refine st_region 7 (opsOf (C59 [1, 0, 1, 0, 0, 1, 1, 1])) [0, 1] (by kernel_rfl) (by kernel_rfl) ?_
        refine st_pure tabOK hk [0, 1] [] [0, 5, 6] [(0, .pointer (some ⟨b1, 0, none⟩)), (5, .agg #[S t2.1, S t2.2.1, S t2.2.2.1, S t2.2.2.2.1, S t2.2.2.2.2.1, S t2.2.2.2.2.2.1, S t2.2.2.2.2.2.2.1, S t2.2.2.2.2.2.2.2.1, S t2.2.2.2.2.2.2.2.2.1, S t2.2.2.2.2.2.2.2.2.2.1, S t2.2.2.2.2.2.2.2.2.2.2.1, S t2.2.2.2.2.2.2.2.2.2.2.2]), (6, I (w64 (v6 + 1)))] (True) (by kernel_rfl) trivial ?_
        clear hk; intro a hk
        refine st_done ?_
        refine st_inl ?_
        exact ih t2 v4 v5 (w64 (v6 + 1)) out H b1 w0 Q rest a w  (hk.to [0, 5, 6] _ (by kernel_rfl)) ho J R
    ·
      have h17 : ¬ (v6 < 12) := of_decide_eq_false h7
      rw [if_neg h17] at H
      refine st_exit 0 _ (by kernel_rfl) rfl ?_
      obtain rfl := Option.some.inj H
      exact J (v4, v5)  a w rfl (hk.to [0] _ (by kernel_rfl)) ho

theorem date_scan_month.ok (K : Nat) (p0_0 : Str) (p0_1 : Bool) (r : Int × Str × Bool) (H : date_scan_month.f K p0_0 p0_1 = some r) (w0 : World) (b1 : Nat) (hh : Has w0 [.blk b1 (.cells #[S p0_0, .bool p0_1] 96 (0, 0))]) : Calls Tryd.prog 59 ⟨[.pointer (some ⟨b1, 0, none⟩)]⟩ w0 fun e w => ∃ u, e = .returned u ∧ date_scan_month.post b1 w0 r u w := by
  unfold date_scan_month.f at H
  refine st_startL (N := 25) [.pointer (some ⟨b1, 0, none⟩)] (C59 []) func59 (by kernel_rfl) (by kernel_rfl) (by kernel_rfl) ([.blk b1 (.cells #[S p0_0, .bool p0_1] 96 (0, 0))]) hh ?_
  intro a w hk ho
  replace ho : Ows [b1] w0 w [.blk b1 (.cells #[S p0_0, .bool p0_1] 96 (0, 0))] := ho
  refine st_seq (C59 [0]) (C59 [1]) (by kernel_rfl) ?_
  refine st_region 0 (opsOf (C59 [0])) [0] (by kernel_rfl) (by kernel_rfl) ?_
  refine st_pure tabOK hk [0] [] [0] [(0, .pointer (some ⟨b1, 0, none⟩))] (True) (by kernel_rfl) trivial ?_
  clear hk; intro a hk
  refine st_done ?_
  refine st_seq (C59 [1, 0]) (C59 [1, 1]) (by kernel_rfl) ?_
  refine st_seq (C59 [1, 0, 0]) (C59 [1, 0, 1]) (by kernel_rfl) ?_
  refine st_region 1 (opsOf (C59 [1, 0, 0])) [0, 1] (by kernel_rfl) (by kernel_rfl) ?_
  obtain ⟨t2, h3, H⟩ := Option.bind_eq_some_iff.1 H
  refine st_call hk 17 [] (some 5) enters17 (by kernel_rfl) (date_names.ok   t2 h3 w ) ?_
  clear hk; rintro a u w ⟨rfl, ho'⟩ hk
  replace ho : Ows [b1] w0 w [.blk b1 (.cells #[S p0_0, .bool p0_1] 96 (0, 0))] := ho.call ho'; clear ho'
  refine st_pure tabOK hk [1] [] [0, 5, 6] [(0, .pointer (some ⟨b1, 0, none⟩)), (5, .agg #[S t2.1, S t2.2.1, S t2.2.2.1, S t2.2.2.2.1, S t2.2.2.2.2.1, S t2.2.2.2.2.2.1, S t2.2.2.2.2.2.2.1, S t2.2.2.2.2.2.2.2.1, S t2.2.2.2.2.2.2.2.2.1, S t2.2.2.2.2.2.2.2.2.2.1, S t2.2.2.2.2.2.2.2.2.2.2.1, S t2.2.2.2.2.2.2.2.2.2.2.2]), (6, I 0)] (True) (by kernel_rfl) trivial ?_
  clear hk; intro a hk
  refine st_done ?_
  refine st_block 0 (C59 [1, 0, 1, 0]) (by kernel_rfl) ?_
  obtain ⟨m18, h19, H⟩ := Option.bind_eq_some_iff.1 H
  refine st_loop (C59 [1, 0, 1, 0, 0]) (by kernel_rfl) ?_
  refine date_scan_month.l0_ok K t2 p0_0 p0_1 0 m18 h19 b1 w0 _ _ a w  (hk.to [0, 5, 6] _ (by kernel_rfl)) ho ?_ ?_
  · intro s20  a w e hk ho; subst e
    simp only [] at H
    refine st_seq (C59 [1, 1, 0]) (C59 [1, 1, 1]) (by kernel_rfl) ?_
    refine st_region 8 (opsOf (C59 [1, 1, 0])) [0, 1, 2, 3] (by kernel_rfl) (by kernel_rfl) ?_
    refine st_pure tabOK hk [0, 1, 2] [3] [24] [(24, .pointer (some ⟨b1, 1, none⟩))] (((some ⟨b1, 0, none⟩ : Option Addr).isSome = true) ∧ (((some ⟨b1, 0, none⟩ : Option Addr).isSome = true) ∧ True)) (by kernel_rfl) ⟨rfl, ⟨rfl, trivial⟩⟩ ?_
    clear hk; intro a hk
    refine st_put1 hk ho 0 4 b1 1 (.bool true) #[S s20.1, .bool s20.2] 96 [.blk b1 (.cells #[S s20.1, .bool true] 96 (0, 0))] (by kernel_rfl) (by kernel_rfl) (by kernel_rfl) rfl (by kernel_rfl) (by kernel_rfl) rfl ?_
    clear ho; intro w ho
    refine st_done ?_
    refine st_seq (C59 [1, 1, 1, 0]) (C59 [1, 1, 1, 1]) (by kernel_rfl) ?_
    refine st_region 9 (opsOf (C59 [1, 1, 1, 0])) [0] (by kernel_rfl) (by kernel_rfl) ?_
    refine st_pure tabOK hk [0] [] [2] [(2, I 0)] (True) (by kernel_rfl) trivial ?_
    clear hk; intro a hk
    refine st_done ?_
    refine st_retG hk (by kernel_rfl) [I 0] #[.tmp 2] (by kernel_rfl) ⟨resT hk (by kernel_rfl), trivial⟩ ?_
    obtain rfl := Option.some.inj H
    exact ⟨_, rfl, rfl, ho⟩
  · intro r21  a w e hk ho; subst e
    simp only [] at H
    refine retG hk [I r21.1] #[.tmp 2] (by kernel_rfl) ⟨resT hk (by kernel_rfl), trivial⟩ ?_
    obtain rfl := Option.some.inj H
    exact ⟨_, rfl, rfl, ho⟩


/-! (*scullery/date.scan).clock: function 60 -/
noncomputable def C60 (p : List Nat) : Code := Sub (bodyOf f60) p
def date_scan_clock.f (K : Nat) (p0_0 : Str) (p0_1 : Bool) : Option (Int × Str × Bool) := (((date_scan_number.f K p0_0 p0_1 2 23).bind fun t2 => ((date_scan_word.f t2.2.1 t2.2.2 ([58])).bind fun t4 => ((date_scan_number.f K t4.1 t4.2 2 59).bind fun t6 => ((date_scan_word.f t6.2.1 t6.2.2 ([58])).bind fun t8 => ((date_scan_number.f K t8.1 t8.2 2 59).bind fun t10 => some (w64 ((w64 ((w64 (t2.1 * 3600)) + (w64 (t6.1 * 60)))) + t10.1), t10.2.1, t10.2.2)))))))
abbrev date_scan_clock.post (b1 : Nat) (w0 : World) (r : Int × Str × Bool) (u : Value) (w : World) : Prop := u = I r.1 ∧ Ows [b1] w0 w [.blk b1 (.cells #[S r.2.1, .bool r.2.2] 96 (0, 0))]
theorem date_scan_clock.ok (K : Nat) (p0_0 : Str) (p0_1 : Bool) (r : Int × Str × Bool) (H : date_scan_clock.f K p0_0 p0_1 = some r) (w0 : World) (b1 : Nat) (hh : Has w0 [.blk b1 (.cells #[S p0_0, .bool p0_1] 96 (0, 0))]) : Calls Tryd.prog 60 ⟨[.pointer (some ⟨b1, 0, none⟩)]⟩ w0 fun e w => ∃ u, e = .returned u ∧ date_scan_clock.post b1 w0 r u w := by
  unfold date_scan_clock.f at H
  refine st_startL (N := 21) [.pointer (some ⟨b1, 0, none⟩)] (C60 []) func60 (by kernel_rfl) (by kernel_rfl) (by kernel_rfl) ([.blk b1 (.cells #[S p0_0, .bool p0_1] 96 (0, 0))]) hh ?_
  intro a w hk ho
  replace ho : Ows [b1] w0 w [.blk b1 (.cells #[S p0_0, .bool p0_1] 96 (0, 0))] := ho
  refine st_seq (C60 [0]) (C60 [1]) (by kernel_rfl) ?_
  refine st_region 0 (opsOf (C60 [0])) [0] (by kernel_rfl) (by kernel_rfl) ?_
  refine st_pure tabOK hk [0] [] [0] [(0, .pointer (some ⟨b1, 0, none⟩))] (True) (by kernel_rfl) trivial ?_
  clear hk; intro a hk
  refine st_done ?_
  refine st_seq (C60 [1, 0]) (C60 [1, 1]) (by kernel_rfl) ?_
  refine st_region 1 (opsOf (C60 [1, 0])) [0, 1, 2] (by kernel_rfl) (by kernel_rfl) ?_
  refine st_pure tabOK hk [0] [1, 2] [0, 5] [(0, .pointer (some ⟨b1, 0, none⟩)), (5, .pointer (some ⟨b1, 0, none⟩))] (True) (by kernel_rfl) trivial ?_
  clear hk; intro a hk
  obtain ⟨t2, h3, H⟩ := Option.bind_eq_some_iff.1 H
  refine st_call hk 58 [.pointer (some ⟨b1, 0, none⟩), I 2, I 23] (some 6) enters58 (by kernel_rfl) (date_scan_number.ok K  p0_0 p0_1 2 23 t2 h3 w b1 (Ows.has (K := [.blk b1 (.cells #[S p0_0, .bool p0_1] 96 (0, 0))]) (L := []) ho)) ?_
  clear hk; rintro a u w ⟨rfl, ho'⟩ hk
  replace ho : Ows [b1] w0 w [.blk b1 (.cells #[S t2.2.1, .bool t2.2.2] 96 (0, 0))] := Ows.callP (K := [.blk b1 (.cells #[S p0_0, .bool p0_1] 96 (0, 0))]) (L := []) ho ho' rfl; clear ho'
  refine st_pure tabOK hk [2] [] [0, 3] [(0, .pointer (some ⟨b1, 0, none⟩)), (3, I t2.1)] (True) (by kernel_rfl) trivial ?_
  clear hk; intro a hk
  refine st_done ?_
  refine st_seq (C60 [1, 1, 0]) (C60 [1, 1, 1]) (by kernel_rfl) ?_
  refine st_region 2 (opsOf (C60 [1, 1, 0])) [0, 1] (by kernel_rfl) (by kernel_rfl) ?_
  refine st_pure tabOK hk [0] [1] [0, 3, 7] [(0, .pointer (some ⟨b1, 0, none⟩)), (3, I t2.1), (7, .pointer (some ⟨b1, 0, none⟩))] (True) (by kernel_rfl) trivial ?_
  clear hk; intro a hk
  obtain ⟨t4, h5, H⟩ := Option.bind_eq_some_iff.1 H
  refine st_call hk 47 [.pointer (some ⟨b1, 0, none⟩), S ([58])] (some 8) enters47 (by kernel_rfl) (date_scan_word.ok  t2.2.1 t2.2.2 ([58]) t4 h5 w b1 (Ows.has (K := [.blk b1 (.cells #[S t2.2.1, .bool t2.2.2] 96 (0, 0))]) (L := []) ho)) ?_
  clear hk; rintro a u w ⟨rfl, ho'⟩ hk
  replace ho : Ows [b1] w0 w [.blk b1 (.cells #[S t4.1, .bool t4.2] 96 (0, 0))] := Ows.callP (K := [.blk b1 (.cells #[S t2.2.1, .bool t2.2.2] 96 (0, 0))]) (L := []) ho ho' rfl; clear ho'
  refine st_done ?_
  refine st_seq (C60 [1, 1, 1, 0]) (C60 [1, 1, 1, 1]) (by kernel_rfl) ?_
  refine st_region 3 (opsOf (C60 [1, 1, 1, 0])) [0, 1, 2] (by kernel_rfl) (by kernel_rfl) ?_
  refine st_pure tabOK hk [0] [1, 2] [0, 3, 9] [(0, .pointer (some ⟨b1, 0, none⟩)), (3, I t2.1), (9, .pointer (some ⟨b1, 0, none⟩))] (True) (by kernel_rfl) trivial ?_
  clear hk; intro a hk
  obtain ⟨t6, h7, H⟩ := Option.bind_eq_some_iff.1 H
  refine st_call hk 58 [.pointer (some ⟨b1, 0, none⟩), I 2, I 59] (some 10) enters58 (by kernel_rfl) (date_scan_number.ok K  t4.1 t4.2 2 59 t6 h7 w b1 (Ows.has (K := [.blk b1 (.cells #[S t4.1, .bool t4.2] 96 (0, 0))]) (L := []) ho)) ?_
  clear hk; rintro a u w ⟨rfl, ho'⟩ hk
  replace ho : Ows [b1] w0 w [.blk b1 (.cells #[S t6.2.1, .bool t6.2.2] 96 (0, 0))] := Ows.callP (K := [.blk b1 (.cells #[S t4.1, .bool t4.2] 96 (0, 0))]) (L := []) ho ho' rfl; clear ho'
  refine st_pure tabOK hk [2] [] [0, 3, 4] [(0, .pointer (some ⟨b1, 0, none⟩)), (3, I t2.1), (4, I t6.1)] (True) (by kernel_rfl) trivial ?_
  clear hk; intro a hk
  refine st_done ?_
  refine st_seq (C60 [1, 1, 1, 1, 0]) (C60 [1, 1, 1, 1, 1]) (by kernel_rfl) ?_
  refine st_region 4 (opsOf (C60 [1, 1, 1, 1, 0])) [0, 1] (by kernel_rfl) (by kernel_rfl) ?_
  refine st_pure tabOK hk [0] [1] [0, 3, 4, 11] [(0, .pointer (some ⟨b1, 0, none⟩)), (3, I t2.1), (4, I t6.1), (11, .pointer (some ⟨b1, 0, none⟩))] (True) (by kernel_rfl) trivial ?_
  clear hk; intro a hk
  obtain ⟨t8, h9, H⟩ := Option.bind_eq_some_iff.1 H
  refine st_call hk 47 [.pointer (some ⟨b1, 0, none⟩), S ([58])] (some 12) enters47 (by kernel_rfl) (date_scan_word.ok  t6.2.1 t6.2.2 ([58]) t8 h9 w b1 (Ows.has (K := [.blk b1 (.cells #[S t6.2.1, .bool t6.2.2] 96 (0, 0))]) (L := []) ho)) ?_
  clear hk; rintro a u w ⟨rfl, ho'⟩ hk
  replace ho : Ows [b1] w0 w [.blk b1 (.cells #[S t8.1, .bool t8.2] 96 (0, 0))] := Ows.callP (K := [.blk b1 (.cells #[S t6.2.1, .bool t6.2.2] 96 (0, 0))]) (L := []) ho ho' rfl; clear ho'
  refine st_done ?_
  refine st_seq (C60 [1, 1, 1, 1, 1, 0]) (C60 [1, 1, 1, 1, 1, 1]) (by kernel_rfl) ?_
  refine st_region 5 (opsOf (C60 [1, 1, 1, 1, 1, 0])) [0, 1, 2, 3, 4, 5, 6, 7, 8] (by kernel_rfl) (by kernel_rfl) ?_
  refine st_pure tabOK hk [0, 1, 2, 3, 4, 5] [6, 7, 8] [17, 18] [(17, I (w64 ((w64 (t2.1 * 3600)) + (w64 (t6.1 * 60))))), (18, .pointer (some ⟨b1, 0, none⟩))] (True) (by kernel_rfl) trivial ?_
  clear hk; intro a hk
  obtain ⟨t10, h11, H⟩ := Option.bind_eq_some_iff.1 H
  refine st_call hk 58 [.pointer (some ⟨b1, 0, none⟩), I 2, I 59] (some 19) enters58 (by kernel_rfl) (date_scan_number.ok K  t8.1 t8.2 2 59 t10 h11 w b1 (Ows.has (K := [.blk b1 (.cells #[S t8.1, .bool t8.2] 96 (0, 0))]) (L := []) ho)) ?_
  clear hk; rintro a u w ⟨rfl, ho'⟩ hk
  replace ho : Ows [b1] w0 w [.blk b1 (.cells #[S t10.2.1, .bool t10.2.2] 96 (0, 0))] := Ows.callP (K := [.blk b1 (.cells #[S t8.1, .bool t8.2] 96 (0, 0))]) (L := []) ho ho' rfl; clear ho'
  refine st_pure tabOK hk [7, 8] [] [2] [(2, I (w64 ((w64 ((w64 (t2.1 * 3600)) + (w64 (t6.1 * 60)))) + t10.1)))] (True) (by kernel_rfl) trivial ?_
  clear hk; intro a hk
  refine st_done ?_
  refine st_retG hk (by kernel_rfl) [I (w64 ((w64 ((w64 (t2.1 * 3600)) + (w64 (t6.1 * 60)))) + t10.1))] #[.tmp 2] (by kernel_rfl) ⟨resT hk (by kernel_rfl), trivial⟩ ?_
  obtain rfl := Option.some.inj H
  exact ⟨_, rfl, rfl, ho⟩


/-! scullery/date.first: function 44 -/
noncomputable def C44 (p : List Nat) : Code := Sub (bodyOf f44) p
def date_first.f (K : Nat) (p0_0 : Str) (p0_1 : Bool) : Option (Int × Int × Int × Int × Str × Bool) := (((date_scan_word.f p0_0 p0_1 ([44, 32])).bind fun t3 => ((date_scan_number.f K t3.1 t3.2 2 31).bind fun t5 => ((date_scan_word.f t5.2.1 t5.2.2 ([32])).bind fun t7 => ((date_scan_month.f K t7.1 t7.2).bind fun t9 => ((date_scan_word.f t9.2.1 t9.2.2 ([32])).bind fun t11 => ((date_scan_number.f K t11.1 t11.2 4 9999).bind fun t13 => ((date_scan_word.f t13.2.1 t13.2.2 ([32])).bind fun t15 => ((date_scan_clock.f K t15.1 t15.2).bind fun t17 => ((date_scan_word.f t17.2.1 t17.2.2 ([32, 71, 77, 84])).bind fun t19 => some (t13.1, t9.1, t5.1, t17.1, t19.1, t19.2)))))))))))
abbrev date_first.post (b1 : Nat) (w0 : World) (r : Int × Int × Int × Int × Str × Bool) (u : Value) (w : World) : Prop := u = .agg #[I r.1, I r.2.1, I r.2.2.1, I r.2.2.2.1] ∧ Ows [b1] w0 w [.blk b1 (.cells #[S r.2.2.2.2.1, .bool r.2.2.2.2.2] 96 (0, 0))]
theorem date_first.ok (K : Nat) (p0_0 : Str) (p0_1 : Bool) (r : Int × Int × Int × Int × Str × Bool) (H : date_first.f K p0_0 p0_1 = some r) (w0 : World) (b1 : Nat) (hh : Has w0 [.blk b1 (.cells #[S p0_0, .bool p0_1] 96 (0, 0))]) : Calls Tryd.prog 44 ⟨[.pointer (some ⟨b1, 0, none⟩)]⟩ w0 fun e w => ∃ u, e = .returned u ∧ date_first.post b1 w0 r u w := by
  unfold date_first.f at H
  refine st_startL (N := 26) [.pointer (some ⟨b1, 0, none⟩)] (C44 []) func44 (by kernel_rfl) (by kernel_rfl) (by kernel_rfl) ([.blk b1 (.cells #[S p0_0, .bool p0_1] 96 (0, 0))]) hh ?_
  intro a w hk ho
  replace ho : Ows [b1] w0 w [.blk b1 (.cells #[S p0_0, .bool p0_1] 96 (0, 0))] := ho
  refine st_seq (C44 [0]) (C44 [1]) (by kernel_rfl) ?_
  refine st_region 0 (opsOf (C44 [0])) [0] (by kernel_rfl) (by kernel_rfl) ?_
  refine st_new tabOK hk ho #[I 0, I 0, I 0, I 0] 99 2 (by kernel_rfl) ?_
  clear hk ho; intro a b2 w hk ho
  refine st_done ?_
  refine st_seq (C44 [1, 0]) (C44 [1, 1]) (by kernel_rfl) ?_
  refine st_region 1 (opsOf (C44 [1, 0])) [0, 1] (by kernel_rfl) (by kernel_rfl) ?_
  refine st_pure tabOK hk [0] [1] [0, 2, 3] [(0, .pointer (some ⟨b1, 0, none⟩)), (2, .pointer (some ⟨b2, 0, none⟩)), (3, .pointer (some ⟨b1, 0, none⟩))] (True) (by kernel_rfl) trivial ?_
  clear hk; intro a hk
  replace ho : Ows [b1] w0 w [.blk b1 (.cells #[S p0_0, .bool p0_1] 96 (0, 0)), .blk b2 (.cells #[I 0, I 0, I 0, I 0] 99 (0, 0))] := ho.front 1 _ _ rfl rfl
  obtain ⟨t3, h4, H⟩ := Option.bind_eq_some_iff.1 H
  refine st_call hk 47 [.pointer (some ⟨b1, 0, none⟩), S ([44, 32])] (some 4) enters47 (by kernel_rfl) (date_scan_word.ok  p0_0 p0_1 ([44, 32]) t3 h4 w b1 (Ows.has (K := [.blk b1 (.cells #[S p0_0, .bool p0_1] 96 (0, 0))]) (L := [.blk b2 (.cells #[I 0, I 0, I 0, I 0] 99 (0, 0))]) ho)) ?_
  clear hk; rintro a u w ⟨rfl, ho'⟩ hk
  replace ho : Ows [b1] w0 w [.blk b1 (.cells #[S t3.1, .bool t3.2] 96 (0, 0)), .blk b2 (.cells #[I 0, I 0, I 0, I 0] 99 (0, 0))] := Ows.callP (K := [.blk b1 (.cells #[S p0_0, .bool p0_1] 96 (0, 0))]) (L := [.blk b2 (.cells #[I 0, I 0, I 0, I 0] 99 (0, 0))]) ho ho' rfl; clear ho'
  refine st_done ?_
  refine st_seq (C44 [1, 1, 0]) (C44 [1, 1, 1]) (by kernel_rfl) ?_
  refine st_region 2 (opsOf (C44 [1, 1, 0])) [0, 1, 2, 3] (by kernel_rfl) (by kernel_rfl) ?_
  refine st_pure tabOK hk [0] [1, 2, 3] [0, 2, 5] [(0, .pointer (some ⟨b1, 0, none⟩)), (2, .pointer (some ⟨b2, 0, none⟩)), (5, .pointer (some ⟨b1, 0, none⟩))] (True) (by kernel_rfl) trivial ?_
  clear hk; intro a hk
  obtain ⟨t5, h6, H⟩ := Option.bind_eq_some_iff.1 H
  refine st_call hk 58 [.pointer (some ⟨b1, 0, none⟩), I 2, I 31] (some 6) enters58 (by kernel_rfl) (date_scan_number.ok K  t3.1 t3.2 2 31 t5 h6 w b1 (Ows.has (K := [.blk b1 (.cells #[S t3.1, .bool t3.2] 96 (0, 0))]) (L := [.blk b2 (.cells #[I 0, I 0, I 0, I 0] 99 (0, 0))]) ho)) ?_
  clear hk; rintro a u w ⟨rfl, ho'⟩ hk
  replace ho : Ows [b1] w0 w [.blk b1 (.cells #[S t5.2.1, .bool t5.2.2] 96 (0, 0)), .blk b2 (.cells #[I 0, I 0, I 0, I 0] 99 (0, 0))] := Ows.callP (K := [.blk b1 (.cells #[S t3.1, .bool t3.2] 96 (0, 0))]) (L := [.blk b2 (.cells #[I 0, I 0, I 0, I 0] 99 (0, 0))]) ho ho' rfl; clear ho'
  refine st_pure tabOK hk [2] [3] [0, 2, 6, 7] [(0, .pointer (some ⟨b1, 0, none⟩)), (2, .pointer (some ⟨b2, 0, none⟩)), (6, I t5.1), (7, .pointer (some ⟨b2, 2, none⟩))] (((some ⟨b2, 0, none⟩ : Option Addr).isSome = true) ∧ True) (by kernel_rfl) ⟨rfl, trivial⟩ ?_
  clear hk; intro a hk
  refine st_put1 hk ho 1 3 b2 2 (I t5.1) #[I 0, I 0, I 0, I 0] 99 [.blk b1 (.cells #[S t5.2.1, .bool t5.2.2] 96 (0, 0)), .blk b2 (.cells #[I 0, I 0, I t5.1, I 0] 99 (0, 0))] (by kernel_rfl) (by kernel_rfl) (by kernel_rfl) rfl (by kernel_rfl) (by kernel_rfl) rfl ?_
  clear ho; intro w ho
  refine st_done ?_
  refine st_seq (C44 [1, 1, 1, 0]) (C44 [1, 1, 1, 1]) (by kernel_rfl) ?_
  refine st_region 3 (opsOf (C44 [1, 1, 1, 0])) [0, 1] (by kernel_rfl) (by kernel_rfl) ?_
  refine st_pure tabOK hk [0] [1] [0, 2, 8] [(0, .pointer (some ⟨b1, 0, none⟩)), (2, .pointer (some ⟨b2, 0, none⟩)), (8, .pointer (some ⟨b1, 0, none⟩))] (True) (by kernel_rfl) trivial ?_
  clear hk; intro a hk
  obtain ⟨t7, h8, H⟩ := Option.bind_eq_some_iff.1 H
  refine st_call hk 47 [.pointer (some ⟨b1, 0, none⟩), S ([32])] (some 9) enters47 (by kernel_rfl) (date_scan_word.ok  t5.2.1 t5.2.2 ([32]) t7 h8 w b1 (Ows.has (K := [.blk b1 (.cells #[S t5.2.1, .bool t5.2.2] 96 (0, 0))]) (L := [.blk b2 (.cells #[I 0, I 0, I t5.1, I 0] 99 (0, 0))]) ho)) ?_
  clear hk; rintro a u w ⟨rfl, ho'⟩ hk
  replace ho : Ows [b1] w0 w [.blk b1 (.cells #[S t7.1, .bool t7.2] 96 (0, 0)), .blk b2 (.cells #[I 0, I 0, I t5.1, I 0] 99 (0, 0))] := Ows.callP (K := [.blk b1 (.cells #[S t5.2.1, .bool t5.2.2] 96 (0, 0))]) (L := [.blk b2 (.cells #[I 0, I 0, I t5.1, I 0] 99 (0, 0))]) ho ho' rfl; clear ho'
  refine st_done ?_
  refine st_seq (C44 [1, 1, 1, 1, 0]) (C44 [1, 1, 1, 1, 1]) (by kernel_rfl) ?_
  refine st_region 4 (opsOf (C44 [1, 1, 1, 1, 0])) [0, 1, 2, 3] (by kernel_rfl) (by kernel_rfl) ?_
  refine st_pure tabOK hk [0] [1, 2, 3] [0, 2, 10] [(0, .pointer (some ⟨b1, 0, none⟩)), (2, .pointer (some ⟨b2, 0, none⟩)), (10, .pointer (some ⟨b1, 0, none⟩))] (True) (by kernel_rfl) trivial ?_
  clear hk; intro a hk
  obtain ⟨t9, h10, H⟩ := Option.bind_eq_some_iff.1 H
  refine st_call hk 59 [.pointer (some ⟨b1, 0, none⟩)] (some 11) enters59 (by kernel_rfl) (date_scan_month.ok K  t7.1 t7.2 t9 h10 w b1 (Ows.has (K := [.blk b1 (.cells #[S t7.1, .bool t7.2] 96 (0, 0))]) (L := [.blk b2 (.cells #[I 0, I 0, I t5.1, I 0] 99 (0, 0))]) ho)) ?_
  clear hk; rintro a u w ⟨rfl, ho'⟩ hk
  replace ho : Ows [b1] w0 w [.blk b1 (.cells #[S t9.2.1, .bool t9.2.2] 96 (0, 0)), .blk b2 (.cells #[I 0, I 0, I t5.1, I 0] 99 (0, 0))] := Ows.callP (K := [.blk b1 (.cells #[S t7.1, .bool t7.2] 96 (0, 0))]) (L := [.blk b2 (.cells #[I 0, I 0, I t5.1, I 0] 99 (0, 0))]) ho ho' rfl; clear ho'
  refine st_pure tabOK hk [2] [3] [0, 2, 11, 12] [(0, .pointer (some ⟨b1, 0, none⟩)), (2, .pointer (some ⟨b2, 0, none⟩)), (11, I t9.1), (12, .pointer (some ⟨b2, 1, none⟩))] (((some ⟨b2, 0, none⟩ : Option Addr).isSome = true) ∧ True) (by kernel_rfl) ⟨rfl, trivial⟩ ?_
  clear hk; intro a hk
  refine st_put1 hk ho 1 3 b2 1 (I t9.1) #[I 0, I 0, I t5.1, I 0] 99 [.blk b1 (.cells #[S t9.2.1, .bool t9.2.2] 96 (0, 0)), .blk b2 (.cells #[I 0, I t9.1, I t5.1, I 0] 99 (0, 0))] (by kernel_rfl) (by kernel_rfl) (by kernel_rfl) rfl (by kernel_rfl) (by kernel_rfl) rfl ?_
  clear ho; intro w ho
  refine st_done ?_
  refine st_seq (C44 [1, 1, 1, 1, 1, 0]) (C44 [1, 1, 1, 1, 1, 1]) (by kernel_rfl) ?_
  refine st_region 5 (opsOf (C44 [1, 1, 1, 1, 1, 0])) [0, 1] (by kernel_rfl) (by kernel_rfl) ?_
  refine st_pure tabOK hk [0] [1] [0, 2, 13] [(0, .pointer (some ⟨b1, 0, none⟩)), (2, .pointer (some ⟨b2, 0, none⟩)), (13, .pointer (some ⟨b1, 0, none⟩))] (True) (by kernel_rfl) trivial ?_
  clear hk; intro a hk
  obtain ⟨t11, h12, H⟩ := Option.bind_eq_some_iff.1 H
  refine st_call hk 47 [.pointer (some ⟨b1, 0, none⟩), S ([32])] (some 14) enters47 (by kernel_rfl) (date_scan_word.ok  t9.2.1 t9.2.2 ([32]) t11 h12 w b1 (Ows.has (K := [.blk b1 (.cells #[S t9.2.1, .bool t9.2.2] 96 (0, 0))]) (L := [.blk b2 (.cells #[I 0, I t9.1, I t5.1, I 0] 99 (0, 0))]) ho)) ?_
  clear hk; rintro a u w ⟨rfl, ho'⟩ hk
  replace ho : Ows [b1] w0 w [.blk b1 (.cells #[S t11.1, .bool t11.2] 96 (0, 0)), .blk b2 (.cells #[I 0, I t9.1, I t5.1, I 0] 99 (0, 0))] := Ows.callP (K := [.blk b1 (.cells #[S t9.2.1, .bool t9.2.2] 96 (0, 0))]) (L := [.blk b2 (.cells #[I 0, I t9.1, I t5.1, I 0] 99 (0, 0))]) ho ho' rfl; clear ho'
  refine st_done ?_
  refine st_seq (C44 [1, 1, 1, 1, 1, 1, 0]) (C44 [1, 1, 1, 1, 1, 1, 1]) (by kernel_rfl) ?_
  refine st_region 6 (opsOf (C44 [1, 1, 1, 1, 1, 1, 0])) [0, 1, 2, 3] (by kernel_rfl) (by kernel_rfl) ?_
  refine st_pure tabOK hk [0] [1, 2, 3] [0, 2, 15] [(0, .pointer (some ⟨b1, 0, none⟩)), (2, .pointer (some ⟨b2, 0, none⟩)), (15, .pointer (some ⟨b1, 0, none⟩))] (True) (by kernel_rfl) trivial ?_
  clear hk; intro a hk
  obtain ⟨t13, h14, H⟩ := Option.bind_eq_some_iff.1 H
  refine st_call hk 58 [.pointer (some ⟨b1, 0, none⟩), I 4, I 9999] (some 16) enters58 (by kernel_rfl) (date_scan_number.ok K  t11.1 t11.2 4 9999 t13 h14 w b1 (Ows.has (K := [.blk b1 (.cells #[S t11.1, .bool t11.2] 96 (0, 0))]) (L := [.blk b2 (.cells #[I 0, I t9.1, I t5.1, I 0] 99 (0, 0))]) ho)) ?_
  clear hk; rintro a u w ⟨rfl, ho'⟩ hk
  replace ho : Ows [b1] w0 w [.blk b1 (.cells #[S t13.2.1, .bool t13.2.2] 96 (0, 0)), .blk b2 (.cells #[I 0, I t9.1, I t5.1, I 0] 99 (0, 0))] := Ows.callP (K := [.blk b1 (.cells #[S t11.1, .bool t11.2] 96 (0, 0))]) (L := [.blk b2 (.cells #[I 0, I t9.1, I t5.1, I 0] 99 (0, 0))]) ho ho' rfl; clear ho'
  refine st_pure tabOK hk [2] [3] [0, 2, 16, 17] [(0, .pointer (some ⟨b1, 0, none⟩)), (2, .pointer (some ⟨b2, 0, none⟩)), (16, I t13.1), (17, .pointer (some ⟨b2, 0, none⟩))] (((some ⟨b2, 0, none⟩ : Option Addr).isSome = true) ∧ True) (by kernel_rfl) ⟨rfl, trivial⟩ ?_
  clear hk; intro a hk
  refine st_put1 hk ho 1 3 b2 0 (I t13.1) #[I 0, I t9.1, I t5.1, I 0] 99 [.blk b1 (.cells #[S t13.2.1, .bool t13.2.2] 96 (0, 0)), .blk b2 (.cells #[I t13.1, I t9.1, I t5.1, I 0] 99 (0, 0))] (by kernel_rfl) (by kernel_rfl) (by kernel_rfl) rfl (by kernel_rfl) (by kernel_rfl) rfl ?_
  clear ho; intro w ho
  refine st_done ?_
  refine st_seq (C44 [1, 1, 1, 1, 1, 1, 1, 0]) (C44 [1, 1, 1, 1, 1, 1, 1, 1]) (by kernel_rfl) ?_
  refine st_region 7 (opsOf (C44 [1, 1, 1, 1, 1, 1, 1, 0])) [0, 1] (by kernel_rfl) (by kernel_rfl) ?_
  refine st_pure tabOK hk [0] [1] [0, 2, 18] [(0, .pointer (some ⟨b1, 0, none⟩)), (2, .pointer (some ⟨b2, 0, none⟩)), (18, .pointer (some ⟨b1, 0, none⟩))] (True) (by kernel_rfl) trivial ?_
  clear hk; intro a hk
  obtain ⟨t15, h16, H⟩ := Option.bind_eq_some_iff.1 H
  refine st_call hk 47 [.pointer (some ⟨b1, 0, none⟩), S ([32])] (some 19) enters47 (by kernel_rfl) (date_scan_word.ok  t13.2.1 t13.2.2 ([32]) t15 h16 w b1 (Ows.has (K := [.blk b1 (.cells #[S t13.2.1, .bool t13.2.2] 96 (0, 0))]) (L := [.blk b2 (.cells #[I t13.1, I t9.1, I t5.1, I 0] 99 (0, 0))]) ho)) ?_
  clear hk; rintro a u w ⟨rfl, ho'⟩ hk
  replace ho : Ows [b1] w0 w [.blk b1 (.cells #[S t15.1, .bool t15.2] 96 (0, 0)), .blk b2 (.cells #[I t13.1, I t9.1, I t5.1, I 0] 99 (0, 0))] := Ows.callP (K := [.blk b1 (.cells #[S t13.2.1, .bool t13.2.2] 96 (0, 0))]) (L := [.blk b2 (.cells #[I t13.1, I t9.1, I t5.1, I 0] 99 (0, 0))]) ho ho' rfl; clear ho'
  refine st_done ?_
  refine st_seq (C44 [1, 1, 1, 1, 1, 1, 1, 1, 0]) (C44 [1, 1, 1, 1, 1, 1, 1, 1, 1]) (by kernel_rfl) ?_
  refine st_region 8 (opsOf (C44 [1, 1, 1, 1, 1, 1, 1, 1, 0])) [0, 1, 2, 3] (by kernel_rfl) (by kernel_rfl) ?_
  refine st_pure tabOK hk [0] [1, 2, 3] [0, 2, 20] [(0, .pointer (some ⟨b1, 0, none⟩)), (2, .pointer (some ⟨b2, 0, none⟩)), (20, .pointer (some ⟨b1, 0, none⟩))] (True) (by kernel_rfl) trivial ?_
  clear hk; intro a hk
  obtain ⟨t17, h18, H⟩ := Option.bind_eq_some_iff.1 H
  refine st_call hk 60 [.pointer (some ⟨b1, 0, none⟩)] (some 21) enters60 (by kernel_rfl) (date_scan_clock.ok K  t15.1 t15.2 t17 h18 w b1 (Ows.has (K := [.blk b1 (.cells #[S t15.1, .bool t15.2] 96 (0, 0))]) (L := [.blk b2 (.cells #[I t13.1, I t9.1, I t5.1, I 0] 99 (0, 0))]) ho)) ?_
  clear hk; rintro a u w ⟨rfl, ho'⟩ hk
  replace ho : Ows [b1] w0 w [.blk b1 (.cells #[S t17.2.1, .bool t17.2.2] 96 (0, 0)), .blk b2 (.cells #[I t13.1, I t9.1, I t5.1, I 0] 99 (0, 0))] := Ows.callP (K := [.blk b1 (.cells #[S t15.1, .bool t15.2] 96 (0, 0))]) (L := [.blk b2 (.cells #[I t13.1, I t9.1, I t5.1, I 0] 99 (0, 0))]) ho ho' rfl; clear ho'
  refine st_pure tabOK hk [2] [3] [0, 2, 21, 22] [(0, .pointer (some ⟨b1, 0, none⟩)), (2, .pointer (some ⟨b2, 0, none⟩)), (21, I t17.1), (22, .pointer (some ⟨b2, 3, none⟩))] (((some ⟨b2, 0, none⟩ : Option Addr).isSome = true) ∧ True) (by kernel_rfl) ⟨rfl, trivial⟩ ?_
  clear hk; intro a hk
  refine st_put1 hk ho 1 3 b2 3 (I t17.1) #[I t13.1, I t9.1, I t5.1, I 0] 99 [.blk b1 (.cells #[S t17.2.1, .bool t17.2.2] 96 (0, 0)), .blk b2 (.cells #[I t13.1, I t9.1, I t5.1, I t17.1] 99 (0, 0))] (by kernel_rfl) (by kernel_rfl) (by kernel_rfl) rfl (by kernel_rfl) (by kernel_rfl) rfl ?_
  clear ho; intro w ho
  refine st_done ?_
  refine st_seq (C44 [1, 1, 1, 1, 1, 1, 1, 1, 1, 0]) (C44 [1, 1, 1, 1, 1, 1, 1, 1, 1, 1]) (by kernel_rfl) ?_
  refine st_region 9 (opsOf (C44 [1, 1, 1, 1, 1, 1, 1, 1, 1, 0])) [0, 1] (by kernel_rfl) (by kernel_rfl) ?_
  refine st_pure tabOK hk [0] [1] [2, 23] [(2, .pointer (some ⟨b2, 0, none⟩)), (23, .pointer (some ⟨b1, 0, none⟩))] (True) (by kernel_rfl) trivial ?_
  clear hk; intro a hk
  obtain ⟨t19, h20, H⟩ := Option.bind_eq_some_iff.1 H
  refine st_call hk 47 [.pointer (some ⟨b1, 0, none⟩), S ([32, 71, 77, 84])] (some 24) enters47 (by kernel_rfl) (date_scan_word.ok  t17.2.1 t17.2.2 ([32, 71, 77, 84]) t19 h20 w b1 (Ows.has (K := [.blk b1 (.cells #[S t17.2.1, .bool t17.2.2] 96 (0, 0))]) (L := [.blk b2 (.cells #[I t13.1, I t9.1, I t5.1, I t17.1] 99 (0, 0))]) ho)) ?_
  clear hk; rintro a u w ⟨rfl, ho'⟩ hk
  replace ho : Ows [b1] w0 w [.blk b1 (.cells #[S t19.1, .bool t19.2] 96 (0, 0)), .blk b2 (.cells #[I t13.1, I t9.1, I t5.1, I t17.1] 99 (0, 0))] := Ows.callP (K := [.blk b1 (.cells #[S t17.2.1, .bool t17.2.2] 96 (0, 0))]) (L := [.blk b2 (.cells #[I t13.1, I t9.1, I t5.1, I t17.1] 99 (0, 0))]) ho ho' rfl; clear ho'
  refine st_done ?_
  refine st_seq (C44 [1, 1, 1, 1, 1, 1, 1, 1, 1, 1, 0]) (C44 [1, 1, 1, 1, 1, 1, 1, 1, 1, 1, 1]) (by kernel_rfl) ?_
  refine st_region 10 (opsOf (C44 [1, 1, 1, 1, 1, 1, 1, 1, 1, 1, 0])) [0, 1] (by kernel_rfl) (by kernel_rfl) ?_
  refine st_loadA tabOK hk 99 (some ⟨b2, 0, none⟩) 25 (by kernel_rfl) (by kernel_rfl) (.agg #[I 0, I 0, I 0, I 0]) (by kernel_rfl) [I t13.1, I t9.1, I t5.1, I t17.1] rfl (ho.cellsA 1 rfl rfl) ?_
  clear hk; intro a hk
  refine st_putA hk ho 1 99 b2 0 [I t13.1, I t9.1, I t5.1, I t17.1] #[I t13.1, I t9.1, I t5.1, I t17.1] 99 [.blk b1 (.cells #[S t19.1, .bool t19.2] 96 (0, 0)), .blk b2 (.cells #[I t13.1, I t9.1, I t5.1, I t17.1] 99 (0, 0))] (by kernel_rfl) (by kernel_rfl) (by kernel_rfl) rfl (by kernel_rfl) (by kernel_rfl) rfl ?_
  clear ho; intro w ho
  refine st_done ?_
  replace ho : Ows [b1] w0 w [.blk b2 (.cells #[I t13.1, I t9.1, I t5.1, I t17.1] 99 (0, 0)), .blk b1 (.cells #[S t19.1, .bool t19.2] 96 (0, 0))] := ho.front 1 _ _ rfl rfl
  refine st_retG hk (by kernel_rfl) [.agg #[I t13.1, I t9.1, I t5.1, I t17.1]] #[.cell 2 99] (by kernel_rfl) ⟨resC tabOK hk (by kernel_rfl) (ho.blkAt 0 rfl) rfl (by kernel_rfl) (z := .agg #[I 0, I 0, I 0, I 0]) (by kernel_rfl) (by kernel_rfl), trivial⟩ ?_
  obtain rfl := Option.some.inj H
  replace ho : Ows [b1] w0 w [.blk b1 (.cells #[S t19.1, .bool t19.2] 96 (0, 0))] := ho.erase 0
  exact ⟨_, rfl, rfl, ho⟩


/-! scullery/date.leap: function 39 -/
noncomputable def C39 (p : List Nat) : Code := Sub (bodyOf f39) p
def date_leap.f (p0 : Int) : Option (Bool) := some (((p0.tmod 4) == 0) && (((p0.tmod 100) != 0) || ((p0.tmod 400) == 0)))
abbrev date_leap.post (w0 : World) (r : Bool) (u : Value) (w : World) : Prop := u = .bool r ∧ Ows [] w0 w []
theorem date_leap.ok (p0 : Int) (r : Bool) (H : date_leap.f p0 = some r) (w0 : World)  : Calls Tryd.prog 39 ⟨[I p0]⟩ w0 fun e w => ∃ u, e = .returned u ∧ date_leap.post w0 r u w := by
  unfold date_leap.f at H
  refine st_start (N := 16) [I p0] (C39 []) func39 (by kernel_rfl) (by kernel_rfl) (by kernel_rfl) ?_
  intro a w hk ho
  refine st_seq (C39 [0]) (C39 [1]) (by kernel_rfl) ?_
  refine st_region 0 (opsOf (C39 [0])) [0] (by kernel_rfl) (by kernel_rfl) ?_
  refine st_pure tabOK hk [0] [] [0] [(0, I p0)] (True) (by kernel_rfl) trivial ?_
  clear hk; intro a hk
  refine st_done ?_
  refine st_seq (C39 [1, 0]) (C39 [1, 1]) (by kernel_rfl) ?_
  refine st_region 1 (opsOf (C39 [1, 0])) [0, 1, 2, 3, 4, 5, 6, 7, 8, 9, 10, 11, 12, 13] (by kernel_rfl) (by kernel_rfl) ?_
  refine st_pure tabOK hk [0, 1, 2, 3] [4, 5, 6, 7, 8, 9, 10, 11, 12, 13] [0, 6] [(0, I p0), (6, .bool ((p0.tmod 4) == 0))] ((4 : Int) ≠ 0 ∧ True) (by kernel_rfl) ⟨(by decide), trivial⟩ ?_
  clear hk; intro a hk
  refine cut_ops (fun a w => Kn 16 a [(2, .bool (((p0.tmod 4) == 0) && (((p0.tmod 100) != 0) || ((p0.tmod 400) == 0))))] ∧ Ows [] w0 w []) ?_ ?_
  · intro J
    rcases Bool.eq_false_or_eq_true ((p0.tmod 4) == 0) with h1 | h1
    ·
      rw [h1] at hk
      have h2 : ((p0.tmod 4) == 0) = true := h1
      refine st_pure tabOK hk [4, 5, 6, 7] [8, 9, 10, 11, 12, 13] [0, 6, 10] [(0, I p0), (6, .bool true), (10, .bool ((p0.tmod 100) != 0))] ((100 : Int) ≠ 0 ∧ True) (by kernel_rfl) ⟨(by decide), trivial⟩ ?_
      clear hk; intro a hk
      rcases Bool.eq_false_or_eq_true ((p0.tmod 100) != 0) with h3 | h3
      ·
        rw [h3] at hk
        have h4 : ((p0.tmod 100) != 0) = true := h3
        refine st_pure tabOK hk [8, 9, 10, 11, 12, 13] [] [2] [(2, .bool true)] (True) (by kernel_rfl) trivial ?_
        clear hk; intro a hk
        refine st_done ?_
        have e : (((p0.tmod 4) == 0) && (((p0.tmod 100) != 0) || ((p0.tmod 400) == 0))) = true := by first | (simp only [h1, h3]; done) | (simp only [h1, h3]; rfl) | rfl | simp [h1, h3]
        exact J a w ⟨by rw [e]; exact hk.to [2] _ (by kernel_rfl), ho⟩
      ·
        rw [h3] at hk
        have h5 : ¬ (((p0.tmod 100) != 0) = true) := ne_true_of_eq_false h3
        refine st_pure tabOK hk [8, 9, 10, 11, 12, 13] [] [2] [(2, .bool ((p0.tmod 400) == 0))] ((400 : Int) ≠ 0 ∧ True) (by kernel_rfl) ⟨(by decide), trivial⟩ ?_
        clear hk; intro a hk
        refine st_done ?_
        have e : (((p0.tmod 4) == 0) && (((p0.tmod 100) != 0) || ((p0.tmod 400) == 0))) = ((p0.tmod 400) == 0) := by first | (simp only [h1, h3]; done) | (simp only [h1, h3]; rfl) | rfl | simp [h1, h3]
        exact J a w ⟨by rw [e]; exact hk.to [2] _ (by kernel_rfl), ho⟩
    ·
      rw [h1] at hk
      have h6 : ¬ (((p0.tmod 4) == 0) = true) := ne_true_of_eq_false h1
      refine st_pure tabOK hk [4, 5, 6, 7, 8, 9, 10, 11, 12, 13] [] [2] [(2, .bool false)] (True) (by kernel_rfl) trivial ?_
      clear hk; intro a hk
      refine st_done ?_
      have e : (((p0.tmod 4) == 0) && (((p0.tmod 100) != 0) || ((p0.tmod 400) == 0))) = false := by first | (simp only [h1]; done) | (simp only [h1]; rfl) | rfl | simp [h1]
      exact J a w ⟨by rw [e]; exact hk.to [2] _ (by kernel_rfl), ho⟩
  · rintro a w ⟨hk, ho⟩
    refine st_retG hk (by kernel_rfl) [.bool (((p0.tmod 4) == 0) && (((p0.tmod 100) != 0) || ((p0.tmod 400) == 0)))] #[.tmp 2] (by kernel_rfl) ⟨resT hk (by kernel_rfl), trivial⟩ ?_
    obtain rfl := Option.some.inj H
    exact ⟨_, rfl, rfl, ho⟩


/-! scullery/date.long: function 26 -/
noncomputable def C26 (p : List Nat) : Code := Sub (bodyOf f26) p
def date_long.f (p0 : Int) (p1 : Int) : Option (Int) := ((((if (p1 == 2) = true then ((date_leap.f p0).bind fun t4 => some t4) else some false)).bind fun m1 => (if m1 = true then some 29 else (if (p1 == 2) = true then some 28 else (if ((p1 == 4) || ((p1 == 6) || ((p1 == 9) || (p1 == 11)))) = true then some 30 else some 31)))))
abbrev date_long.post (w0 : World) (r : Int) (u : Value) (w : World) : Prop := u = I r ∧ Ows [] w0 w []
theorem date_long.ok (p0 : Int) (p1 : Int) (r : Int) (H : date_long.f p0 p1 = some r) (w0 : World)  : Calls Tryd.prog 26 ⟨[I p0, I p1]⟩ w0 fun e w => ∃ u, e = .returned u ∧ date_long.post w0 r u w := by
  unfold date_long.f at H
  refine st_start (N := 30) [I p0, I p1] (C26 []) func26 (by kernel_rfl) (by kernel_rfl) (by kernel_rfl) ?_
  intro a w hk ho
  refine st_seq (C26 [0]) (C26 [1]) (by kernel_rfl) ?_
  refine st_region 0 (opsOf (C26 [0])) [0] (by kernel_rfl) (by kernel_rfl) ?_
  refine st_pure tabOK hk [0] [] [0, 1] [(0, I p0), (1, I p1)] (True) (by kernel_rfl) trivial ?_
  clear hk; intro a hk
  refine st_done ?_
  refine st_seq (C26 [1, 0]) (C26 [1, 1]) (by kernel_rfl) ?_
  refine st_block 0 (C26 [1, 0, 0]) (by kernel_rfl) ?_
  refine st_seq (C26 [1, 0, 0, 0]) (C26 [1, 0, 0, 1]) (by kernel_rfl) ?_
  refine st_region 1 (opsOf (C26 [1, 0, 0, 0])) [0, 1, 2, 3, 4, 5, 6] (by kernel_rfl) (by kernel_rfl) ?_
  refine st_pure tabOK hk [0, 1, 2] [3, 4, 5, 6] [0, 1, 8] [(0, I p0), (1, I p1), (8, .bool (p1 == 2))] (True) (by kernel_rfl) trivial ?_
  clear hk; intro a hk
  obtain ⟨m1, HX, H⟩ := Option.bind_eq_some_iff.1 H
  refine cut_ops (fun a w => Kn 30 a [(1, I p1), (5, .bool m1)] ∧ Ows [] w0 w []) ?_ ?_
  · intro J; clear H; have H := HX; clear HX
    rcases Bool.eq_false_or_eq_true (p1 == 2) with h2 | h2
    ·
      rw [h2] at hk
      have h3 : (p1 == 2) = true := h2
      rw [if_pos h3] at H
      refine st_pure tabOK hk [3] [4, 5, 6] [1, 8, 9] [(1, I p1), (8, .bool true), (9, I p0)] (True) (by kernel_rfl) trivial ?_
      clear hk; intro a hk
      obtain ⟨t4, h5, H⟩ := Option.bind_eq_some_iff.1 H
      refine st_call hk 39 [I p0] (some 10) enters39 (by kernel_rfl) (date_leap.ok  p0 t4 h5 w ) ?_
      clear hk; rintro a u w ⟨rfl, ho'⟩ hk
      replace ho : Ows [] w0 w [] := ho.call ho'; clear ho'
      refine st_pure tabOK hk [5, 6] [] [1, 5] [(1, I p1), (5, .bool t4)] (True) (by kernel_rfl) trivial ?_
      clear hk; intro a hk
      refine st_done ?_
      obtain rfl := Option.some.inj H
      exact J a w ⟨hk.to [1, 5] _ (by kernel_rfl), ho⟩
    ·
      rw [h2] at hk
      have h6 : ¬ ((p1 == 2) = true) := ne_true_of_eq_false h2
      rw [if_neg h6] at H
      refine st_pure tabOK hk [3, 4, 5, 6] [] [1, 5] [(1, I p1), (5, .bool false)] (True) (by kernel_rfl) trivial ?_
      clear hk; intro a hk
      refine st_done ?_
      obtain rfl := Option.some.inj H
      exact J a w ⟨hk.to [1, 5] _ (by kernel_rfl), ho⟩
  · clear HX; rintro a w ⟨hk, ho⟩
    refine st_cond hk (C26 [1, 0, 0, 1, 0]) (C26 [1, 0, 0, 1, 1]) (.tmp 5) (m1) (by kernel_rfl) (by kernel_rfl) (fun h7 => ?_) (fun h7 => ?_)
    ·
      have h8 : m1 = true := h7
      rw [if_pos h8] at H
      refine st_seq (C26 [1, 0, 0, 1, 0, 0]) (C26 [1, 0, 0, 1, 0, 1]) (by kernel_rfl) ?_
      refine st_region 2 (opsOf (C26 [1, 0, 0, 1, 0, 0])) [0] (by kernel_rfl) (by kernel_rfl) ?_
      refine st_pure tabOK hk [0] [] [4] [(4, I 29)] (True) (by kernel_rfl) trivial ?_
      clear hk; intro a hk
      refine st_done ?_
      refine st_retG hk (by kernel_rfl) [I 29] #[.tmp 4] (by kernel_rfl) ⟨resT hk (by kernel_rfl), trivial⟩ ?_
      obtain rfl := Option.some.inj H
      exact ⟨_, rfl, rfl, ho⟩
    ·
      have h9 : ¬ (m1 = true) := ne_true_of_eq_false h7
      rw [if_neg h9] at H
      refine st_seq (C26 [1, 0, 0, 1, 1, 0]) (C26 [1, 0, 0, 1, 1, 1]) (by kernel_rfl) ?_
      refine st_region 3 (opsOf (C26 [1, 0, 0, 1, 1, 0])) [0, 1, 2] (by kernel_rfl) (by kernel_rfl) ?_
      refine st_pure tabOK hk [0, 1, 2] [] [1, 12] [(1, I p1), (12, .bool (p1 == 2))] (True) (by kernel_rfl) trivial ?_
      clear hk; intro a hk
      refine st_done ?_
      refine st_cond hk (C26 [1, 0, 0, 1, 1, 1, 0]) (C26 [1, 0, 0, 1, 1, 1, 1]) (.tmp 12) (p1 == 2) (by kernel_rfl) (by kernel_rfl) (fun h10 => ?_) (fun h10 => ?_)
      ·
        have h11 : (p1 == 2) = true := h10
        rw [if_pos h11] at H
        refine st_seq (C26 [1, 0, 0, 1, 1, 1, 0, 0]) (C26 [1, 0, 0, 1, 1, 1, 0, 1]) (by kernel_rfl) ?_
        refine st_region 4 (opsOf (C26 [1, 0, 0, 1, 1, 1, 0, 0])) [0] (by kernel_rfl) (by kernel_rfl) ?_
        refine st_pure tabOK hk [0] [] [4] [(4, I 28)] (True) (by kernel_rfl) trivial ?_
        clear hk; intro a hk
        refine st_done ?_
        refine st_retG hk (by kernel_rfl) [I 28] #[.tmp 4] (by kernel_rfl) ⟨resT hk (by kernel_rfl), trivial⟩ ?_
        obtain rfl := Option.some.inj H
        exact ⟨_, rfl, rfl, ho⟩
      ·
        have h12 : ¬ ((p1 == 2) = true) := ne_true_of_eq_false h10
        rw [if_neg h12] at H
        refine st_seq (C26 [1, 0, 0, 1, 1, 1, 1, 0]) (C26 [1, 0, 0, 1, 1, 1, 1, 1]) (by kernel_rfl) ?_
        refine st_region 5 (opsOf (C26 [1, 0, 0, 1, 1, 1, 1, 0])) [0, 1, 2, 3, 4, 5, 6, 7, 8, 9, 10, 11, 12, 13, 14] (by kernel_rfl) (by kernel_rfl) ?_
        refine st_pure tabOK hk [0, 1, 2] [3, 4, 5, 6, 7, 8, 9, 10, 11, 12, 13, 14] [1, 18] [(1, I p1), (18, .bool (p1 == 4))] (True) (by kernel_rfl) trivial ?_
        clear hk; intro a hk
        refine cut_ops (fun a w => Kn 30 a [(15, .bool ((p1 == 4) || ((p1 == 6) || ((p1 == 9) || (p1 == 11)))))] ∧ Ows [] w0 w []) ?_ ?_
        · intro J
          rcases Bool.eq_false_or_eq_true (p1 == 4) with h13 | h13
          ·
            rw [h13] at hk
            have h14 : (p1 == 4) = true := h13
            refine st_pure tabOK hk [3, 4, 5, 6, 7, 8, 9, 10, 11, 12, 13, 14] [] [15] [(15, .bool true)] (True) (by kernel_rfl) trivial ?_
            clear hk; intro a hk
            refine st_done ?_
            have e : ((p1 == 4) || ((p1 == 6) || ((p1 == 9) || (p1 == 11)))) = true := by first | (simp only [h13]; done) | (simp only [h13]; rfl) | rfl | simp [h13]
            exact J a w ⟨by rw [e]; exact hk.to [15] _ (by kernel_rfl), ho⟩
          ·
            rw [h13] at hk
            have h15 : ¬ ((p1 == 4) = true) := ne_true_of_eq_false h13
            refine st_pure tabOK hk [3, 4, 5, 6] [7, 8, 9, 10, 11, 12, 13, 14] [1, 22] [(1, I p1), (22, .bool (p1 == 6))] (True) (by kernel_rfl) trivial ?_
            clear hk; intro a hk
            rcases Bool.eq_false_or_eq_true (p1 == 6) with h16 | h16
            ·
              rw [h16] at hk
              have h17 : (p1 == 6) = true := h16
              refine st_pure tabOK hk [7, 8, 9, 10, 11, 12, 13, 14] [] [15] [(15, .bool true)] (True) (by kernel_rfl) trivial ?_
              clear hk; intro a hk
              refine st_done ?_
              have e : ((p1 == 4) || ((p1 == 6) || ((p1 == 9) || (p1 == 11)))) = true := by first | (simp only [h13, h16]; done) | (simp only [h13, h16]; rfl) | rfl | simp [h13, h16]
              exact J a w ⟨by rw [e]; exact hk.to [15] _ (by kernel_rfl), ho⟩
            ·
              rw [h16] at hk
              have h18 : ¬ ((p1 == 6) = true) := ne_true_of_eq_false h16
              refine st_pure tabOK hk [7, 8, 9, 10] [11, 12, 13, 14] [1, 26] [(1, I p1), (26, .bool (p1 == 9))] (True) (by kernel_rfl) trivial ?_
              clear hk; intro a hk
              rcases Bool.eq_false_or_eq_true (p1 == 9) with h19 | h19
              ·
                rw [h19] at hk
                have h20 : (p1 == 9) = true := h19
                refine st_pure tabOK hk [11, 12, 13, 14] [] [15] [(15, .bool true)] (True) (by kernel_rfl) trivial ?_
                clear hk; intro a hk
                refine st_done ?_
                have e : ((p1 == 4) || ((p1 == 6) || ((p1 == 9) || (p1 == 11)))) = true := by first | (simp only [h13, h16, h19]; done) | (simp only [h13, h16, h19]; rfl) | rfl | simp [h13, h16, h19]
                exact J a w ⟨by rw [e]; exact hk.to [15] _ (by kernel_rfl), ho⟩
              ·
                rw [h19] at hk
                have h21 : ¬ ((p1 == 9) = true) := ne_true_of_eq_false h19
                refine st_pure tabOK hk [11, 12, 13, 14] [] [15] [(15, .bool (p1 == 11))] (True) (by kernel_rfl) trivial ?_
                clear hk; intro a hk
                refine st_done ?_
                have e : ((p1 == 4) || ((p1 == 6) || ((p1 == 9) || (p1 == 11)))) = (p1 == 11) := by first | (simp only [h13, h16, h19]; done) | (simp only [h13, h16, h19]; rfl) | rfl | simp [h13, h16, h19]
                exact J a w ⟨by rw [e]; exact hk.to [15] _ (by kernel_rfl), ho⟩
        · rintro a w ⟨hk, ho⟩
          refine st_cond hk (C26 [1, 0, 0, 1, 1, 1, 1, 1, 0]) (C26 [1, 0, 0, 1, 1, 1, 1, 1, 1]) (.tmp 15) (((p1 == 4) || ((p1 == 6) || ((p1 == 9) || (p1 == 11))))) (by kernel_rfl) (by kernel_rfl) (fun h22 => ?_) (fun h22 => ?_)
          ·
            have h23 : ((p1 == 4) || ((p1 == 6) || ((p1 == 9) || (p1 == 11)))) = true := h22
            rw [if_pos h23] at H
            refine st_seq (C26 [1, 0, 0, 1, 1, 1, 1, 1, 0, 0]) (C26 [1, 0, 0, 1, 1, 1, 1, 1, 0, 1]) (by kernel_rfl) ?_
            refine st_region 6 (opsOf (C26 [1, 0, 0, 1, 1, 1, 1, 1, 0, 0])) [0] (by kernel_rfl) (by kernel_rfl) ?_
            refine st_pure tabOK hk [0] [] [4] [(4, I 30)] (True) (by kernel_rfl) trivial ?_
            clear hk; intro a hk
            refine st_done ?_
            refine st_retG hk (by kernel_rfl) [I 30] #[.tmp 4] (by kernel_rfl) ⟨resT hk (by kernel_rfl), trivial⟩ ?_
            obtain rfl := Option.some.inj H
            exact ⟨_, rfl, rfl, ho⟩
          ·
            have h24 : ¬ (((p1 == 4) || ((p1 == 6) || ((p1 == 9) || (p1 == 11)))) = true) := ne_true_of_eq_false h22
            rw [if_neg h24] at H
            refine st_skip (by kernel_rfl) ?_
            refine st_endb 0 ?_
            refine st_seq (C26 [1, 1, 0]) (C26 [1, 1, 1]) (by kernel_rfl) ?_
            refine st_region 7 (opsOf (C26 [1, 1, 0])) [0] (by kernel_rfl) (by kernel_rfl) ?_
            refine st_pure tabOK hk [0] [] [4] [(4, I 31)] (True) (by kernel_rfl) trivial ?_
            clear hk; intro a hk
            refine st_done ?_
            refine st_retG hk (by kernel_rfl) [I 31] #[.tmp 4] (by kernel_rfl) ⟨resT hk (by kernel_rfl), trivial⟩ ?_
            obtain rfl := Option.some.inj H
            exact ⟨_, rfl, rfl, ho⟩


/-! scullery/date.ahead: function 25 -/
noncomputable def C25 (p : List Nat) : Code := Sub (bodyOf f25) p
def date_ahead.f (p0 : Int) : Option (Int) := some (w64 ((w64 ((w64 ((w64 ((365 : Int) * p0)) + (w64 ((w64 (p0 - 1)).tdiv 4)))) - (w64 ((w64 (p0 - 1)).tdiv 100)))) + (w64 ((w64 (p0 - 1)).tdiv 400))))
abbrev date_ahead.post (w0 : World) (r : Int) (u : Value) (w : World) : Prop := u = I r ∧ Ows [] w0 w []
theorem date_ahead.ok (p0 : Int) (r : Int) (H : date_ahead.f p0 = some r) (w0 : World)  : Calls Tryd.prog 25 ⟨[I p0]⟩ w0 fun e w => ∃ u, e = .returned u ∧ date_ahead.post w0 r u w := by
  unfold date_ahead.f at H
  refine st_start (N := 17) [I p0] (C25 []) func25 (by kernel_rfl) (by kernel_rfl) (by kernel_rfl) ?_
  intro a w hk ho
  refine st_seq (C25 [0]) (C25 [1]) (by kernel_rfl) ?_
  refine st_region 0 (opsOf (C25 [0])) [0] (by kernel_rfl) (by kernel_rfl) ?_
  refine st_pure tabOK hk [0] [] [0] [(0, I p0)] (True) (by kernel_rfl) trivial ?_
  clear hk; intro a hk
  refine st_done ?_
  refine st_seq (C25 [1, 0]) (C25 [1, 1]) (by kernel_rfl) ?_
  refine st_region 1 (opsOf (C25 [1, 0])) [0, 1, 2] (by kernel_rfl) (by kernel_rfl) ?_
  refine st_pure tabOK hk [0, 1, 2] [] [0, 3] [(0, I p0), (3, I (w64 (p0 - 1)))] (True) (by kernel_rfl) trivial ?_
  clear hk; intro a hk
  refine st_done ?_
  refine st_seq (C25 [1, 1, 0]) (C25 [1, 1, 1]) (by kernel_rfl) ?_
  refine st_region 2 (opsOf (C25 [1, 1, 0])) [0, 1, 2, 3, 4, 5, 6, 7, 8, 9, 10, 11] (by kernel_rfl) (by kernel_rfl) ?_
  refine st_pure tabOK hk [0, 1, 2, 3, 4, 5, 6, 7, 8, 9, 10, 11] [] [2] [(2, I (w64 ((w64 ((w64 ((w64 ((365 : Int) * p0)) + (w64 ((w64 (p0 - 1)).tdiv 4)))) - (w64 ((w64 (p0 - 1)).tdiv 100)))) + (w64 ((w64 (p0 - 1)).tdiv 400)))))] ((4 : Int) ≠ 0 ∧ ((100 : Int) ≠ 0 ∧ ((400 : Int) ≠ 0 ∧ True))) (by kernel_rfl) ⟨(by decide), ⟨(by decide), ⟨(by decide), trivial⟩⟩⟩ ?_
  clear hk; intro a hk
  refine st_done ?_
  refine st_retG hk (by kernel_rfl) [I (w64 ((w64 ((w64 ((w64 ((365 : Int) * p0)) + (w64 ((w64 (p0 - 1)).tdiv 4)))) - (w64 ((w64 (p0 - 1)).tdiv 100)))) + (w64 ((w64 (p0 - 1)).tdiv 400))))] #[.tmp 2] (by kernel_rfl) ⟨resT hk (by kernel_rfl), trivial⟩ ?_
  obtain rfl := Option.some.inj H
  exact ⟨_, rfl, rfl, ho⟩


/-! scullery/date.Days: function 48 -/
noncomputable def C48 (p : List Nat) : Code := Sub (bodyOf f48) p
def date_Days.l0 : Nat → Int → Int → Int → Int → Option (Int)
  | 0, _, _, _, _ => none
  | k + 1, p0, p1, v26, v27 => (if v27 < p1 then ((date_long.f p0 v27).bind fun t30 => date_Days.l0 k p0 p1 (w64 (v26 + t30)) (w64 (v27 + 1))) else some v26)
def date_Days.f (K : Nat) (p0 : Int) (p1 : Int) (p2 : Int) : Option (Int × Int) := ((((if p0 < 1970 then some true else (if p0 > 9999 then some true else (if p1 < 1 then some true else (if p1 > 12 then some true else (if p2 < 1 then some true else ((date_long.f p0 p1).bind fun t17 => some (decide (p2 > t17))))))))).bind fun m1 => (if m1 = true then some (0, 1) else ((date_ahead.f p0).bind fun t22 => ((date_ahead.f 1970).bind fun t24 => ((date_Days.l0 K p0 p1 (w64 ((w64 ((w64 (t22 - t24)) + p2)) - 1)) 1).bind fun s35 => some (s35, 0)))))))
abbrev date_Days.post (w0 : World) (r : Int × Int) (u : Value) (w : World) : Prop := u = .tuple #[I r.1, I r.2] ∧ Ows [] w0 w []
theorem date_Days.l0_ok : ∀ (k : Nat) (p0 : Int) (p1 : Int) (v26 : Int) (v27 : Int) (out : Int), date_Days.l0 k p0 p1 v26 v27 = some out → ∀ (w0 : World) (Q : Exit → Act → World → Prop) (rest : List It) (a : Act) (w : World), Kn 53 a [(0, I p0), (1, I p1), (8, I v26), (9, I v27)] → Ows [] w0 w [] → (∀ (s : Int) (a : Act) (w : World), out = s → Kn 53 a [(8, I s)] → Ows [] w0 w [] → G Tryd.prog Q rest a w) → G Tryd.prog Q (.code (C48 [1, 1, 1, 0, 1, 0, 0]) :: .inl (C48 [1, 1, 1, 0, 1, 0, 0]) :: .endb 0 :: rest) a w := by
  intro k
  induction k with
  | zero => intro p0 p1 v26 v27 out H; simp [date_Days.l0] at H
  | succ k ih =>
    intro p0 p1 v26 v27 out H  w0 Q rest a w  hk ho J
    simp only [date_Days.l0] at H
    refine st_seq (C48 [1, 1, 1, 0, 1, 0, 0, 0]) (C48 [1, 1, 1, 0, 1, 0, 0, 1]) (by kernel_rfl) ?_
    refine st_seq (C48 [1, 1, 1, 0, 1, 0, 0, 0, 0]) (C48 [1, 1, 1, 0, 1, 0, 0, 0, 1]) (by kernel_rfl) ?_
    refine st_region 5 (opsOf (C48 [1, 1, 1, 0, 1, 0, 0, 0, 0])) [0, 1, 2] (by kernel_rfl) (by kernel_rfl) ?_
    refine st_pure tabOK hk [0, 1, 2] [] [0, 1, 8, 9, 44] [(0, I p0), (1, I p1), (8, I v26), (9, I v27), (44, .bool (decide (v27 < p1)))] (True) (by kernel_rfl) trivial ?_
    clear hk; intro a hk
    refine st_done ?_
    refine st_cond hk (C48 [1, 1, 1, 0, 1, 0, 0, 0, 1, 0]) (C48 [1, 1, 1, 0, 1, 0, 0, 0, 1, 1]) (.tmp 44) (decide (v27 < p1)) (by kernel_rfl) (by kernel_rfl) (fun h28 => ?_) (fun h28 => ?_)
    ·
      have h29 : v27 < p1 := of_decide_eq_true h28
      rw [if_pos h29] at H
      refine st_skip (by kernel_rfl) ?_
      refine st_seq (C48 [1, 1, 1, 0, 1, 0, 0, 1, 0]) (C48 [1, 1, 1, 0, 1, 0, 0, 1, 1]) (by kernel_rfl) ?_
      refine st_block 1 (C48 [1, 1, 1, 0, 1, 0, 0, 1, 0, 0]) (by kernel_rfl) ?_
      refine st_region 7 (opsOf (C48 [1, 1, 1, 0, 1, 0, 0, 1, 0, 0])) [0, 1, 2, 3, 4, 5] (by kernel_rfl) (by kernel_rfl) ?_
      refine st_pure tabOK hk [0, 1, 2] [3, 4, 5] [0, 1, 9, 47, 48, 49] [(0, I p0), (1, I p1), (9, I v27), (47, I v26), (48, I p0), (49, I v27)] (True) (by kernel_rfl) trivial ?_
      clear hk; intro a hk
      obtain ⟨t30, h31, H⟩ := Option.bind_eq_some_iff.1 H
      refine st_call hk 26 [I p0, I v27] (some 50) enters26 (by kernel_rfl) (date_long.ok  p0 v27 t30 h31 w ) ?_
      clear hk; rintro a u w ⟨rfl, ho'⟩ hk
      replace ho : Ows [] w0 w [] := ho.call ho'; clear ho'
      refine st_pure tabOK hk [4, 5] [] [0, 1, 8, 9] [(0, I p0), (1, I p1), (8, I (w64 (v26 + t30))), (9, I v27)] (True) (by kernel_rfl) trivial ?_
      clear hk; intro a hk
      refine st_done ?_
      refine st_endb 1 ?_
      refine st_region 6 (opsOf (C48 [1, 1, 1, 0, 1, 0, 0, 1, 1])) [0, 1, 2] (by kernel_rfl) (by kernel_rfl) ?_
      refine st_pure tabOK hk [0, 1, 2] [] [0, 1, 8, 9] [(0, I p0), (1, I p1), (8, I (w64 (v26 + t30))), (9, I (w64 (v27 + 1)))] (True) (by kernel_rfl) trivial ?_
      clear hk; intro a hk
      refine st_done ?_
      refine st_inl ?_
      exact ih p0 p1 (w64 (v26 + t30)) (w64 (v27 + 1)) out H  w0 Q rest a w  (hk.to [0, 1, 8, 9] _ (by kernel_rfl)) ho J
    ·
      have h32 : ¬ (v27 < p1) := of_decide_eq_false h28
      rw [if_neg h32] at H
      refine st_exit 0 _ (by kernel_rfl) rfl ?_
      obtain rfl := Option.some.inj H
      exact J v26  a w rfl (hk.to [8] _ (by kernel_rfl)) ho

theorem date_Days.ok (K : Nat) (p0 : Int) (p1 : Int) (p2 : Int) (r : Int × Int) (H : date_Days.f K p0 p1 p2 = some r) (w0 : World)  : Calls Tryd.prog 48 ⟨[I p0, I p1, I p2]⟩ w0 fun e w => ∃ u, e = .returned u ∧ date_Days.post w0 r u w := by
  unfold date_Days.f at H
  refine st_start (N := 53) [I p0, I p1, I p2] (C48 []) func48 (by kernel_rfl) (by kernel_rfl) (by kernel_rfl) ?_
  intro a w hk ho
  refine st_seq (C48 [0]) (C48 [1]) (by kernel_rfl) ?_
  refine st_region 0 (opsOf (C48 [0])) [0, 1] (by kernel_rfl) (by kernel_rfl) ?_
  refine st_pure tabOK hk [0, 1] [] [0, 1, 2] [(0, I p0), (1, I p1), (2, I p2)] (True) (by kernel_rfl) trivial ?_
  clear hk; intro a hk
  refine st_done ?_
  refine st_seq (C48 [1, 0]) (C48 [1, 1]) (by kernel_rfl) ?_
  refine st_seq (C48 [1, 0, 0]) (C48 [1, 0, 1]) (by kernel_rfl) ?_
  refine st_region 1 (opsOf (C48 [1, 0, 0])) [0, 1, 2, 3, 4, 5, 6, 7, 8, 9, 10, 11, 12, 13, 14, 15, 16, 17, 18, 19, 20, 21, 22, 23, 24] (by kernel_rfl) (by kernel_rfl) ?_
  refine st_pure tabOK hk [0, 1, 2] [3, 4, 5, 6, 7, 8, 9, 10, 11, 12, 13, 14, 15, 16, 17, 18, 19, 20, 21, 22, 23, 24] [0, 1, 2, 12] [(0, I p0), (1, I p1), (2, I p2), (12, .bool (decide (p0 < 1970)))] (True) (by kernel_rfl) trivial ?_
  clear hk; intro a hk
  obtain ⟨m1, HX, H⟩ := Option.bind_eq_some_iff.1 H
  refine cut_ops (fun a w => Kn 53 a [(0, I p0), (1, I p1), (2, I p2), (34, .bool m1)] ∧ Ows [] w0 w []) ?_ ?_
  · intro J; clear H; have H := HX; clear HX
    rcases Bool.eq_false_or_eq_true (decide (p0 < 1970)) with h2 | h2
    ·
      rw [h2] at hk
      have h3 : p0 < 1970 := of_decide_eq_true h2
      rw [if_pos h3] at H
      refine st_pure tabOK hk [3, 4, 5, 6, 7, 8, 9, 10, 11, 12, 13, 14, 15, 16, 17, 18, 19, 20, 21, 22, 23, 24] [] [0, 1, 2, 34] [(0, I p0), (1, I p1), (2, I p2), (34, .bool true)] (True) (by kernel_rfl) trivial ?_
      clear hk; intro a hk
      refine st_done ?_
      obtain rfl := Option.some.inj H
      exact J a w ⟨hk.to [0, 1, 2, 34] _ (by kernel_rfl), ho⟩
    ·
      rw [h2] at hk
      have h4 : ¬ (p0 < 1970) := of_decide_eq_false h2
      rw [if_neg h4] at H
      refine st_pure tabOK hk [3, 4, 5, 6] [7, 8, 9, 10, 11, 12, 13, 14, 15, 16, 17, 18, 19, 20, 21, 22, 23, 24] [0, 1, 2, 16] [(0, I p0), (1, I p1), (2, I p2), (16, .bool (decide (p0 > 9999)))] (True) (by kernel_rfl) trivial ?_
      clear hk; intro a hk
      rcases Bool.eq_false_or_eq_true (decide (p0 > 9999)) with h5 | h5
      ·
        rw [h5] at hk
        have h6 : p0 > 9999 := of_decide_eq_true h5
        rw [if_pos h6] at H
        refine st_pure tabOK hk [7, 8, 9, 10, 11, 12, 13, 14, 15, 16, 17, 18, 19, 20, 21, 22, 23, 24] [] [0, 1, 2, 34] [(0, I p0), (1, I p1), (2, I p2), (34, .bool true)] (True) (by kernel_rfl) trivial ?_
        clear hk; intro a hk
        refine st_done ?_
        obtain rfl := Option.some.inj H
        exact J a w ⟨hk.to [0, 1, 2, 34] _ (by kernel_rfl), ho⟩
      ·
        rw [h5] at hk
        have h7 : ¬ (p0 > 9999) := of_decide_eq_false h5
        rw [if_neg h7] at H
        refine st_pure tabOK hk [7, 8, 9, 10] [11, 12, 13, 14, 15, 16, 17, 18, 19, 20, 21, 22, 23, 24] [0, 1, 2, 20] [(0, I p0), (1, I p1), (2, I p2), (20, .bool (decide (p1 < 1)))] (True) (by kernel_rfl) trivial ?_
        clear hk; intro a hk
        rcases Bool.eq_false_or_eq_true (decide (p1 < 1)) with h8 | h8
        ·
          rw [h8] at hk
          have h9 : p1 < 1 := of_decide_eq_true h8
          rw [if_pos h9] at H
          refine st_pure tabOK hk [11, 12, 13, 14, 15, 16, 17, 18, 19, 20, 21, 22, 23, 24] [] [0, 1, 2, 34] [(0, I p0), (1, I p1), (2, I p2), (34, .bool true)] (True) (by kernel_rfl) trivial ?_
          clear hk; intro a hk
          refine st_done ?_
          obtain rfl := Option.some.inj H
          exact J a w ⟨hk.to [0, 1, 2, 34] _ (by kernel_rfl), ho⟩
        ·
          rw [h8] at hk
          have h10 : ¬ (p1 < 1) := of_decide_eq_false h8
          rw [if_neg h10] at H
          refine st_pure tabOK hk [11, 12, 13, 14] [15, 16, 17, 18, 19, 20, 21, 22, 23, 24] [0, 1, 2, 24] [(0, I p0), (1, I p1), (2, I p2), (24, .bool (decide (p1 > 12)))] (True) (by kernel_rfl) trivial ?_
          clear hk; intro a hk
          rcases Bool.eq_false_or_eq_true (decide (p1 > 12)) with h11 | h11
          ·
            rw [h11] at hk
            have h12 : p1 > 12 := of_decide_eq_true h11
            rw [if_pos h12] at H
            refine st_pure tabOK hk [15, 16, 17, 18, 19, 20, 21, 22, 23, 24] [] [0, 1, 2, 34] [(0, I p0), (1, I p1), (2, I p2), (34, .bool true)] (True) (by kernel_rfl) trivial ?_
            clear hk; intro a hk
            refine st_done ?_
            obtain rfl := Option.some.inj H
            exact J a w ⟨hk.to [0, 1, 2, 34] _ (by kernel_rfl), ho⟩
          ·
            rw [h11] at hk
            have h13 : ¬ (p1 > 12) := of_decide_eq_false h11
            rw [if_neg h13] at H
            refine st_pure tabOK hk [15, 16, 17, 18] [19, 20, 21, 22, 23, 24] [0, 1, 2, 28] [(0, I p0), (1, I p1), (2, I p2), (28, .bool (decide (p2 < 1)))] (True) (by kernel_rfl) trivial ?_
            clear hk; intro a hk
            rcases Bool.eq_false_or_eq_true (decide (p2 < 1)) with h14 | h14
            ·
              rw [h14] at hk
              have h15 : p2 < 1 := of_decide_eq_true h14
              rw [if_pos h15] at H
              refine st_pure tabOK hk [19, 20, 21, 22, 23, 24] [] [0, 1, 2, 34] [(0, I p0), (1, I p1), (2, I p2), (34, .bool true)] (True) (by kernel_rfl) trivial ?_
              clear hk; intro a hk
              refine st_done ?_
              obtain rfl := Option.some.inj H
              exact J a w ⟨hk.to [0, 1, 2, 34] _ (by kernel_rfl), ho⟩
            ·
              rw [h14] at hk
              have h16 : ¬ (p2 < 1) := of_decide_eq_false h14
              rw [if_neg h16] at H
              refine st_pure tabOK hk [19, 20, 21] [22, 23, 24] [0, 1, 2, 28, 29, 30, 31] [(0, I p0), (1, I p1), (2, I p2), (28, .bool false), (29, I p2), (30, I p0), (31, I p1)] (True) (by kernel_rfl) trivial ?_
              clear hk; intro a hk
              obtain ⟨t17, h18, H⟩ := Option.bind_eq_some_iff.1 H
              refine st_call hk 26 [I p0, I p1] (some 32) enters26 (by kernel_rfl) (date_long.ok  p0 p1 t17 h18 w ) ?_
              clear hk; rintro a u w ⟨rfl, ho'⟩ hk
              replace ho : Ows [] w0 w [] := ho.call ho'; clear ho'
              refine st_pure tabOK hk [23, 24] [] [0, 1, 2, 34] [(0, I p0), (1, I p1), (2, I p2), (34, .bool (decide (p2 > t17)))] (True) (by kernel_rfl) trivial ?_
              clear hk; intro a hk
              refine st_done ?_
              obtain rfl := Option.some.inj H
              exact J a w ⟨hk.to [0, 1, 2, 34] _ (by kernel_rfl), ho⟩
  · clear HX; rintro a w ⟨hk, ho⟩
    refine st_cond hk (C48 [1, 0, 1, 0]) (C48 [1, 0, 1, 1]) (.tmp 34) (m1) (by kernel_rfl) (by kernel_rfl) (fun h19 => ?_) (fun h19 => ?_)
    ·
      have h20 : m1 = true := h19
      rw [if_pos h20] at H
      refine st_seq (C48 [1, 0, 1, 0, 0]) (C48 [1, 0, 1, 0, 1]) (by kernel_rfl) ?_
      refine st_region 2 (opsOf (C48 [1, 0, 1, 0, 0])) [0, 1] (by kernel_rfl) (by kernel_rfl) ?_
      refine st_pure tabOK hk [0, 1] [] [6, 7] [(6, I 0), (7, I 1)] (True) (by kernel_rfl) trivial ?_
      clear hk; intro a hk
      refine st_done ?_
      refine st_retG hk (by kernel_rfl) [I 0, I 1] #[.tmp 6, .tmp 7] (by kernel_rfl) ⟨resT hk (by kernel_rfl), resT hk (by kernel_rfl), trivial⟩ ?_
      obtain rfl := Option.some.inj H
      exact ⟨_, rfl, rfl, ho⟩
    ·
      have h21 : ¬ (m1 = true) := ne_true_of_eq_false h19
      rw [if_neg h21] at H
      refine st_skip (by kernel_rfl) ?_
      refine st_seq (C48 [1, 1, 0]) (C48 [1, 1, 1]) (by kernel_rfl) ?_
      refine st_region 3 (opsOf (C48 [1, 1, 0])) [0, 1, 2, 3, 4, 5, 6, 7] (by kernel_rfl) (by kernel_rfl) ?_
      refine st_pure tabOK hk [0] [1, 2, 3, 4, 5, 6, 7] [0, 1, 2, 35] [(0, I p0), (1, I p1), (2, I p2), (35, I p0)] (True) (by kernel_rfl) trivial ?_
      clear hk; intro a hk
      obtain ⟨t22, h23, H⟩ := Option.bind_eq_some_iff.1 H
      refine st_call hk 25 [I p0] (some 36) enters25 (by kernel_rfl) (date_ahead.ok  p0 t22 h23 w ) ?_
      clear hk; rintro a u w ⟨rfl, ho'⟩ hk
      replace ho : Ows [] w0 w [] := ho.call ho'; clear ho'
      obtain ⟨t24, h25, H⟩ := Option.bind_eq_some_iff.1 H
      refine st_call hk 25 [I 1970] (some 37) enters25 (by kernel_rfl) (date_ahead.ok  1970 t24 h25 w ) ?_
      clear hk; rintro a u w ⟨rfl, ho'⟩ hk
      replace ho : Ows [] w0 w [] := ho.call ho'; clear ho'
      refine st_pure tabOK hk [3, 4, 5, 6, 7] [] [0, 1, 8] [(0, I p0), (1, I p1), (8, I (w64 ((w64 ((w64 (t22 - t24)) + p2)) - 1)))] (True) (by kernel_rfl) trivial ?_
      clear hk; intro a hk
      refine st_done ?_
      refine st_seq (C48 [1, 1, 1, 0]) (C48 [1, 1, 1, 1]) (by kernel_rfl) ?_
      refine st_seq (C48 [1, 1, 1, 0, 0]) (C48 [1, 1, 1, 0, 1]) (by kernel_rfl) ?_
      refine st_region 4 (opsOf (C48 [1, 1, 1, 0, 0])) [0] (by kernel_rfl) (by kernel_rfl) ?_
      refine st_pure tabOK hk [0] [] [0, 1, 8, 9] [(0, I p0), (1, I p1), (8, I (w64 ((w64 ((w64 (t22 - t24)) + p2)) - 1))), (9, I 1)] (True) (by kernel_rfl) trivial ?_
      clear hk; intro a hk
      refine st_done ?_
      refine st_block 0 (C48 [1, 1, 1, 0, 1, 0]) (by kernel_rfl) ?_
      obtain ⟨m33, h34, H⟩ := Option.bind_eq_some_iff.1 H
      refine st_loop (C48 [1, 1, 1, 0, 1, 0, 0]) (by kernel_rfl) ?_
      refine date_Days.l0_ok K p0 p1 (w64 ((w64 ((w64 (t22 - t24)) + p2)) - 1)) 1 m33 h34  w0 _ _ a w  (hk.to [0, 1, 8, 9] _ (by kernel_rfl)) ho ?_
      · intro s35  a w e hk ho; have e := e.symm; subst e
        refine st_seq (C48 [1, 1, 1, 1, 0]) (C48 [1, 1, 1, 1, 1]) (by kernel_rfl) ?_
        refine st_region 8 (opsOf (C48 [1, 1, 1, 1, 0])) [0, 1, 2] (by kernel_rfl) (by kernel_rfl) ?_
        refine st_pure tabOK hk [0, 1, 2] [] [6, 7] [(6, I s35), (7, I 0)] (True) (by kernel_rfl) trivial ?_
        clear hk; intro a hk
        refine st_done ?_
        refine st_retG hk (by kernel_rfl) [I s35, I 0] #[.tmp 6, .tmp 7] (by kernel_rfl) ⟨resT hk (by kernel_rfl), resT hk (by kernel_rfl), trivial⟩ ?_
        obtain rfl := Option.some.inj H
        exact ⟨_, rfl, rfl, ho⟩


/-! scullery/date.Weekday: function 16 -/
noncomputable def C16 (p : List Nat) : Code := Sub (bodyOf f16) p
def date_Weekday.f (p0 : Int) : Option (Int) := (if p0 < 0 then some 0 else some ((w64 ((p0.tmod 7) + 4)).tmod 7))
abbrev date_Weekday.post (w0 : World) (r : Int) (u : Value) (w : World) : Prop := u = I r ∧ Ows [] w0 w []
theorem date_Weekday.ok (p0 : Int) (r : Int) (H : date_Weekday.f p0 = some r) (w0 : World)  : Calls Tryd.prog 16 ⟨[I p0]⟩ w0 fun e w => ∃ u, e = .returned u ∧ date_Weekday.post w0 r u w := by
  unfold date_Weekday.f at H
  refine st_start (N := 9) [I p0] (C16 []) func16 (by kernel_rfl) (by kernel_rfl) (by kernel_rfl) ?_
  intro a w hk ho
  refine st_seq (C16 [0]) (C16 [1]) (by kernel_rfl) ?_
  refine st_region 0 (opsOf (C16 [0])) [0] (by kernel_rfl) (by kernel_rfl) ?_
  refine st_pure tabOK hk [0] [] [0] [(0, I p0)] (True) (by kernel_rfl) trivial ?_
  clear hk; intro a hk
  refine st_done ?_
  refine st_seq (C16 [1, 0]) (C16 [1, 1]) (by kernel_rfl) ?_
  refine st_seq (C16 [1, 0, 0]) (C16 [1, 0, 1]) (by kernel_rfl) ?_
  refine st_region 1 (opsOf (C16 [1, 0, 0])) [0, 1] (by kernel_rfl) (by kernel_rfl) ?_
  refine st_pure tabOK hk [0, 1] [] [0, 4] [(0, I p0), (4, .bool (decide (p0 < 0)))] (True) (by kernel_rfl) trivial ?_
  clear hk; intro a hk
  refine st_done ?_
  refine st_cond hk (C16 [1, 0, 1, 0]) (C16 [1, 0, 1, 1]) (.tmp 4) (decide (p0 < 0)) (by kernel_rfl) (by kernel_rfl) (fun h1 => ?_) (fun h1 => ?_)
  ·
    have h2 : p0 < 0 := of_decide_eq_true h1
    rw [if_pos h2] at H
    refine st_seq (C16 [1, 0, 1, 0, 0]) (C16 [1, 0, 1, 0, 1]) (by kernel_rfl) ?_
    refine st_region 2 (opsOf (C16 [1, 0, 1, 0, 0])) [0] (by kernel_rfl) (by kernel_rfl) ?_
    refine st_pure tabOK hk [0] [] [2] [(2, I 0)] (True) (by kernel_rfl) trivial ?_
    clear hk; intro a hk
    refine st_done ?_
    refine st_retG hk (by kernel_rfl) [I 0] #[.tmp 2] (by kernel_rfl) ⟨resT hk (by kernel_rfl), trivial⟩ ?_
    obtain rfl := Option.some.inj H
    exact ⟨_, rfl, rfl, ho⟩
  ·
    have h3 : ¬ (p0 < 0) := of_decide_eq_false h1
    rw [if_neg h3] at H
    refine st_skip (by kernel_rfl) ?_
    refine st_seq (C16 [1, 1, 0]) (C16 [1, 1, 1]) (by kernel_rfl) ?_
    refine st_region 3 (opsOf (C16 [1, 1, 0])) [0, 1, 2, 3, 4] (by kernel_rfl) (by kernel_rfl) ?_
    refine st_pure tabOK hk [0, 1, 2, 3, 4] [] [2] [(2, I ((w64 ((p0.tmod 7) + 4)).tmod 7))] ((7 : Int) ≠ 0 ∧ ((7 : Int) ≠ 0 ∧ True)) (by kernel_rfl) ⟨(by decide), ⟨(by decide), trivial⟩⟩ ?_
    clear hk; intro a hk
    refine st_done ?_
    refine st_retG hk (by kernel_rfl) [I ((w64 ((p0.tmod 7) + 4)).tmod 7)] #[.tmp 2] (by kernel_rfl) ⟨resT hk (by kernel_rfl), trivial⟩ ?_
    obtain rfl := Option.some.inj H
    exact ⟨_, rfl, rfl, ho⟩


/-! scullery/date.second: function 45 -/
noncomputable def C45 (p : List Nat) : Code := Sub (bodyOf f45) p
def date_second.f (K : Nat) (p0_0 : Str) (p0_1 : Bool) : Option (Int × Int × Int × Int × Str × Bool) := (((date_scan_word.f p0_0 p0_1 ([44, 32])).bind fun t3 => ((date_scan_number.f K t3.1 t3.2 2 31).bind fun t5 => ((date_scan_word.f t5.2.1 t5.2.2 ([45])).bind fun t7 => ((date_scan_month.f K t7.1 t7.2).bind fun t9 => ((date_scan_word.f t9.2.1 t9.2.2 ([45])).bind fun t11 => ((date_scan_number.f K t11.1 t11.2 2 9999).bind fun t13 => (((if w64 (t13.1 + 1900) < 1970 then some (w64 ((w64 (t13.1 + 1900)) + 100)) else some (w64 (t13.1 + 1900)))).bind fun m15 => ((date_scan_word.f t13.2.1 t13.2.2 ([32])).bind fun t19 => ((date_scan_clock.f K t19.1 t19.2).bind fun t21 => ((date_scan_word.f t21.2.1 t21.2.2 ([32, 71, 77, 84])).bind fun t23 => some (m15, t9.1, t5.1, t21.1, t23.1, t23.2))))))))))))
abbrev date_second.post (b1 : Nat) (w0 : World) (r : Int × Int × Int × Int × Str × Bool) (u : Value) (w : World) : Prop := u = .agg #[I r.1, I r.2.1, I r.2.2.1, I r.2.2.2.1] ∧ Ows [b1] w0 w [.blk b1 (.cells #[S r.2.2.2.2.1, .bool r.2.2.2.2.2] 96 (0, 0))]
theorem date_second.ok (K : Nat) (p0_0 : Str) (p0_1 : Bool) (r : Int × Int × Int × Int × Str × Bool) (H : date_second.f K p0_0 p0_1 = some r) (w0 : World) (b1 : Nat) (hh : Has w0 [.blk b1 (.cells #[S p0_0, .bool p0_1] 96 (0, 0))]) : Calls Tryd.prog 45 ⟨[.pointer (some ⟨b1, 0, none⟩)]⟩ w0 fun e w => ∃ u, e = .returned u ∧ date_second.post b1 w0 r u w := by
  unfold date_second.f at H
  refine st_startL (N := 37) [.pointer (some ⟨b1, 0, none⟩)] (C45 []) func45 (by kernel_rfl) (by kernel_rfl) (by kernel_rfl) ([.blk b1 (.cells #[S p0_0, .bool p0_1] 96 (0, 0))]) hh ?_
  intro a w hk ho
  replace ho : Ows [b1] w0 w [.blk b1 (.cells #[S p0_0, .bool p0_1] 96 (0, 0))] := ho
  refine st_seq (C45 [0]) (C45 [1]) (by kernel_rfl) ?_
  refine st_region 0 (opsOf (C45 [0])) [0] (by kernel_rfl) (by kernel_rfl) ?_
  refine st_new tabOK hk ho #[I 0, I 0, I 0, I 0] 99 2 (by kernel_rfl) ?_
  clear hk ho; intro a b2 w hk ho
  refine st_done ?_
  refine st_seq (C45 [1, 0]) (C45 [1, 1]) (by kernel_rfl) ?_
  refine st_region 1 (opsOf (C45 [1, 0])) [0, 1] (by kernel_rfl) (by kernel_rfl) ?_
  refine st_pure tabOK hk [0] [1] [0, 2, 3] [(0, .pointer (some ⟨b1, 0, none⟩)), (2, .pointer (some ⟨b2, 0, none⟩)), (3, .pointer (some ⟨b1, 0, none⟩))] (True) (by kernel_rfl) trivial ?_
  clear hk; intro a hk
  replace ho : Ows [b1] w0 w [.blk b1 (.cells #[S p0_0, .bool p0_1] 96 (0, 0)), .blk b2 (.cells #[I 0, I 0, I 0, I 0] 99 (0, 0))] := ho.front 1 _ _ rfl rfl
  obtain ⟨t3, h4, H⟩ := Option.bind_eq_some_iff.1 H
  refine st_call hk 47 [.pointer (some ⟨b1, 0, none⟩), S ([44, 32])] (some 4) enters47 (by kernel_rfl) (date_scan_word.ok  p0_0 p0_1 ([44, 32]) t3 h4 w b1 (Ows.has (K := [.blk b1 (.cells #[S p0_0, .bool p0_1] 96 (0, 0))]) (L := [.blk b2 (.cells #[I 0, I 0, I 0, I 0] 99 (0, 0))]) ho)) ?_
  clear hk; rintro a u w ⟨rfl, ho'⟩ hk
  replace ho : Ows [b1] w0 w [.blk b1 (.cells #[S t3.1, .bool t3.2] 96 (0, 0)), .blk b2 (.cells #[I 0, I 0, I 0, I 0] 99 (0, 0))] := Ows.callP (K := [.blk b1 (.cells #[S p0_0, .bool p0_1] 96 (0, 0))]) (L := [.blk b2 (.cells #[I 0, I 0, I 0, I 0] 99 (0, 0))]) ho ho' rfl; clear ho'
  refine st_done ?_
  refine st_seq (C45 [1, 1, 0]) (C45 [1, 1, 1]) (by kernel_rfl) ?_
  refine st_region 2 (opsOf (C45 [1, 1, 0])) [0, 1, 2, 3] (by kernel_rfl) (by kernel_rfl) ?_
  refine st_pure tabOK hk [0] [1, 2, 3] [0, 2, 5] [(0, .pointer (some ⟨b1, 0, none⟩)), (2, .pointer (some ⟨b2, 0, none⟩)), (5, .pointer (some ⟨b1, 0, none⟩))] (True) (by kernel_rfl) trivial ?_
  clear hk; intro a hk
  obtain ⟨t5, h6, H⟩ := Option.bind_eq_some_iff.1 H
  refine st_call hk 58 [.pointer (some ⟨b1, 0, none⟩), I 2, I 31] (some 6) enters58 (by kernel_rfl) (date_scan_number.ok K  t3.1 t3.2 2 31 t5 h6 w b1 (Ows.has (K := [.blk b1 (.cells #[S t3.1, .bool t3.2] 96 (0, 0))]) (L := [.blk b2 (.cells #[I 0, I 0, I 0, I 0] 99 (0, 0))]) ho)) ?_
  clear hk; rintro a u w ⟨rfl, ho'⟩ hk
  replace ho : Ows [b1] w0 w [.blk b1 (.cells #[S t5.2.1, .bool t5.2.2] 96 (0, 0)), .blk b2 (.cells #[I 0, I 0, I 0, I 0] 99 (0, 0))] := Ows.callP (K := [.blk b1 (.cells #[S t3.1, .bool t3.2] 96 (0, 0))]) (L := [.blk b2 (.cells #[I 0, I 0, I 0, I 0] 99 (0, 0))]) ho ho' rfl; clear ho'
  refine st_pure tabOK hk [2] [3] [0, 2, 6, 7] [(0, .pointer (some ⟨b1, 0, none⟩)), (2, .pointer (some ⟨b2, 0, none⟩)), (6, I t5.1), (7, .pointer (some ⟨b2, 2, none⟩))] (((some ⟨b2, 0, none⟩ : Option Addr).isSome = true) ∧ True) (by kernel_rfl) ⟨rfl, trivial⟩ ?_
  clear hk; intro a hk
  refine st_put1 hk ho 1 3 b2 2 (I t5.1) #[I 0, I 0, I 0, I 0] 99 [.blk b1 (.cells #[S t5.2.1, .bool t5.2.2] 96 (0, 0)), .blk b2 (.cells #[I 0, I 0, I t5.1, I 0] 99 (0, 0))] (by kernel_rfl) (by kernel_rfl) (by kernel_rfl) rfl (by kernel_rfl) (by kernel_rfl) rfl ?_
  clear ho; intro w ho
  refine st_done ?_
  refine st_seq (C45 [1, 1, 1, 0]) (C45 [1, 1, 1, 1]) (by kernel_rfl) ?_
  refine st_region 3 (opsOf (C45 [1, 1, 1, 0])) [0, 1] (by kernel_rfl) (by kernel_rfl) ?_
  refine st_pure tabOK hk [0] [1] [0, 2, 8] [(0, .pointer (some ⟨b1, 0, none⟩)), (2, .pointer (some ⟨b2, 0, none⟩)), (8, .pointer (some ⟨b1, 0, none⟩))] (True) (by kernel_rfl) trivial ?_
  clear hk; intro a hk
  obtain ⟨t7, h8, H⟩ := Option.bind_eq_some_iff.1 H
  refine st_call hk 47 [.pointer (some ⟨b1, 0, none⟩), S ([45])] (some 9) enters47 (by kernel_rfl) (date_scan_word.ok  t5.2.1 t5.2.2 ([45]) t7 h8 w b1 (Ows.has (K := [.blk b1 (.cells #[S t5.2.1, .bool t5.2.2] 96 (0, 0))]) (L := [.blk b2 (.cells #[I 0, I 0, I t5.1, I 0] 99 (0, 0))]) ho)) ?_
  clear hk; rintro a u w ⟨rfl, ho'⟩ hk
  replace ho : Ows [b1] w0 w [.blk b1 (.cells #[S t7.1, .bool t7.2] 96 (0, 0)), .blk b2 (.cells #[I 0, I 0, I t5.1, I 0] 99 (0, 0))] := Ows.callP (K := [.blk b1 (.cells #[S t5.2.1, .bool t5.2.2] 96 (0, 0))]) (L := [.blk b2 (.cells #[I 0, I 0, I t5.1, I 0] 99 (0, 0))]) ho ho' rfl; clear ho'
  refine st_done ?_
  refine st_seq (C45 [1, 1, 1, 1, 0]) (C45 [1, 1, 1, 1, 1]) (by kernel_rfl) ?_
  refine st_region 4 (opsOf (C45 [1, 1, 1, 1, 0])) [0, 1, 2, 3] (by kernel_rfl) (by kernel_rfl) ?_
  refine st_pure tabOK hk [0] [1, 2, 3] [0, 2, 10] [(0, .pointer (some ⟨b1, 0, none⟩)), (2, .pointer (some ⟨b2, 0, none⟩)), (10, .pointer (some ⟨b1, 0, none⟩))] (True) (by kernel_rfl) trivial ?_
  clear hk; intro a hk
  obtain ⟨t9, h10, H⟩ := Option.bind_eq_some_iff.1 H
  refine st_call hk 59 [.pointer (some ⟨b1, 0, none⟩)] (some 11) enters59 (by kernel_rfl) (date_scan_month.ok K  t7.1 t7.2 t9 h10 w b1 (Ows.has (K := [.blk b1 (.cells #[S t7.1, .bool t7.2] 96 (0, 0))]) (L := [.blk b2 (.cells #[I 0, I 0, I t5.1, I 0] 99 (0, 0))]) ho)) ?_
  clear hk; rintro a u w ⟨rfl, ho'⟩ hk
  replace ho : Ows [b1] w0 w [.blk b1 (.cells #[S t9.2.1, .bool t9.2.2] 96 (0, 0)), .blk b2 (.cells #[I 0, I 0, I t5.1, I 0] 99 (0, 0))] := Ows.callP (K := [.blk b1 (.cells #[S t7.1, .bool t7.2] 96 (0, 0))]) (L := [.blk b2 (.cells #[I 0, I 0, I t5.1, I 0] 99 (0, 0))]) ho ho' rfl; clear ho'
  refine st_pure tabOK hk [2] [3] [0, 2, 11, 12] [(0, .pointer (some ⟨b1, 0, none⟩)), (2, .pointer (some ⟨b2, 0, none⟩)), (11, I t9.1), (12, .pointer (some ⟨b2, 1, none⟩))] (((some ⟨b2, 0, none⟩ : Option Addr).isSome = true) ∧ True) (by kernel_rfl) ⟨rfl, trivial⟩ ?_
  clear hk; intro a hk
  refine st_put1 hk ho 1 3 b2 1 (I t9.1) #[I 0, I 0, I t5.1, I 0] 99 [.blk b1 (.cells #[S t9.2.1, .bool t9.2.2] 96 (0, 0)), .blk b2 (.cells #[I 0, I t9.1, I t5.1, I 0] 99 (0, 0))] (by kernel_rfl) (by kernel_rfl) (by kernel_rfl) rfl (by kernel_rfl) (by kernel_rfl) rfl ?_
  clear ho; intro w ho
  refine st_done ?_
  refine st_seq (C45 [1, 1, 1, 1, 1, 0]) (C45 [1, 1, 1, 1, 1, 1]) (by kernel_rfl) ?_
  refine st_region 5 (opsOf (C45 [1, 1, 1, 1, 1, 0])) [0, 1] (by kernel_rfl) (by kernel_rfl) ?_
  refine st_pure tabOK hk [0] [1] [0, 2, 13] [(0, .pointer (some ⟨b1, 0, none⟩)), (2, .pointer (some ⟨b2, 0, none⟩)), (13, .pointer (some ⟨b1, 0, none⟩))] (True) (by kernel_rfl) trivial ?_
  clear hk; intro a hk
  obtain ⟨t11, h12, H⟩ := Option.bind_eq_some_iff.1 H
  refine st_call hk 47 [.pointer (some ⟨b1, 0, none⟩), S ([45])] (some 14) enters47 (by kernel_rfl) (date_scan_word.ok  t9.2.1 t9.2.2 ([45]) t11 h12 w b1 (Ows.has (K := [.blk b1 (.cells #[S t9.2.1, .bool t9.2.2] 96 (0, 0))]) (L := [.blk b2 (.cells #[I 0, I t9.1, I t5.1, I 0] 99 (0, 0))]) ho)) ?_
  clear hk; rintro a u w ⟨rfl, ho'⟩ hk
  replace ho : Ows [b1] w0 w [.blk b1 (.cells #[S t11.1, .bool t11.2] 96 (0, 0)), .blk b2 (.cells #[I 0, I t9.1, I t5.1, I 0] 99 (0, 0))] := Ows.callP (K := [.blk b1 (.cells #[S t9.2.1, .bool t9.2.2] 96 (0, 0))]) (L := [.blk b2 (.cells #[I 0, I t9.1, I t5.1, I 0] 99 (0, 0))]) ho ho' rfl; clear ho'
  refine st_done ?_
  refine st_seq (C45 [1, 1, 1, 1, 1, 1, 0]) (C45 [1, 1, 1, 1, 1, 1, 1]) (by kernel_rfl) ?_
  refine st_region 6 (opsOf (C45 [1, 1, 1, 1, 1, 1, 0])) [0, 1, 2, 3] (by kernel_rfl) (by kernel_rfl) ?_
  refine st_pure tabOK hk [0] [1, 2, 3] [0, 2, 15] [(0, .pointer (some ⟨b1, 0, none⟩)), (2, .pointer (some ⟨b2, 0, none⟩)), (15, .pointer (some ⟨b1, 0, none⟩))] (True) (by kernel_rfl) trivial ?_
  clear hk; intro a hk
  obtain ⟨t13, h14, H⟩ := Option.bind_eq_some_iff.1 H
  refine st_call hk 58 [.pointer (some ⟨b1, 0, none⟩), I 2, I 9999] (some 16) enters58 (by kernel_rfl) (date_scan_number.ok K  t11.1 t11.2 2 9999 t13 h14 w b1 (Ows.has (K := [.blk b1 (.cells #[S t11.1, .bool t11.2] 96 (0, 0))]) (L := [.blk b2 (.cells #[I 0, I t9.1, I t5.1, I 0] 99 (0, 0))]) ho)) ?_
  clear hk; rintro a u w ⟨rfl, ho'⟩ hk
  replace ho : Ows [b1] w0 w [.blk b1 (.cells #[S t13.2.1, .bool t13.2.2] 96 (0, 0)), .blk b2 (.cells #[I 0, I t9.1, I t5.1, I 0] 99 (0, 0))] := Ows.callP (K := [.blk b1 (.cells #[S t11.1, .bool t11.2] 96 (0, 0))]) (L := [.blk b2 (.cells #[I 0, I t9.1, I t5.1, I 0] 99 (0, 0))]) ho ho' rfl; clear ho'
  refine st_pure tabOK hk [2] [3] [0, 2, 16, 17] [(0, .pointer (some ⟨b1, 0, none⟩)), (2, .pointer (some ⟨b2, 0, none⟩)), (16, I t13.1), (17, .pointer (some ⟨b2, 0, none⟩))] (((some ⟨b2, 0, none⟩ : Option Addr).isSome = true) ∧ True) (by kernel_rfl) ⟨rfl, trivial⟩ ?_
  clear hk; intro a hk
  refine st_put1 hk ho 1 3 b2 0 (I t13.1) #[I 0, I t9.1, I t5.1, I 0] 99 [.blk b1 (.cells #[S t13.2.1, .bool t13.2.2] 96 (0, 0)), .blk b2 (.cells #[I t13.1, I t9.1, I t5.1, I 0] 99 (0, 0))] (by kernel_rfl) (by kernel_rfl) (by kernel_rfl) rfl (by kernel_rfl) (by kernel_rfl) rfl ?_
  clear ho; intro w ho
  refine st_done ?_
  refine st_seq (C45 [1, 1, 1, 1, 1, 1, 1, 0]) (C45 [1, 1, 1, 1, 1, 1, 1, 1]) (by kernel_rfl) ?_
  refine st_seq (C45 [1, 1, 1, 1, 1, 1, 1, 0, 0]) (C45 [1, 1, 1, 1, 1, 1, 1, 0, 1]) (by kernel_rfl) ?_
  refine st_region 7 (opsOf (C45 [1, 1, 1, 1, 1, 1, 1, 0, 0])) [0, 1, 2, 3, 4] (by kernel_rfl) (by kernel_rfl) ?_
  refine st_pure tabOK hk [0] [1, 2, 3, 4] [0, 2, 18] [(0, .pointer (some ⟨b1, 0, none⟩)), (2, .pointer (some ⟨b2, 0, none⟩)), (18, .pointer (some ⟨b2, 0, none⟩))] (((some ⟨b2, 0, none⟩ : Option Addr).isSome = true) ∧ True) (by kernel_rfl) ⟨rfl, trivial⟩ ?_
  clear hk; intro a hk
  refine st_load1 tabOK hk 3 (some ⟨b2, 0, none⟩) 19 (by kernel_rfl) (by kernel_rfl) (I t13.1) (ho.cell 1 rfl rfl) ?_
  clear hk; intro a hk
  refine st_pure tabOK hk [2, 3] [4] [0, 2, 20, 21] [(0, .pointer (some ⟨b1, 0, none⟩)), (2, .pointer (some ⟨b2, 0, none⟩)), (20, I (w64 (t13.1 + 1900))), (21, .pointer (some ⟨b2, 0, none⟩))] (((some ⟨b2, 0, none⟩ : Option Addr).isSome = true) ∧ True) (by kernel_rfl) ⟨rfl, trivial⟩ ?_
  clear hk; intro a hk
  refine st_put1 hk ho 1 3 b2 0 (I (w64 (t13.1 + 1900))) #[I t13.1, I t9.1, I t5.1, I 0] 99 [.blk b1 (.cells #[S t13.2.1, .bool t13.2.2] 96 (0, 0)), .blk b2 (.cells #[I (w64 (t13.1 + 1900)), I t9.1, I t5.1, I 0] 99 (0, 0))] (by kernel_rfl) (by kernel_rfl) (by kernel_rfl) rfl (by kernel_rfl) (by kernel_rfl) rfl ?_
  clear ho; intro w ho
  refine st_done ?_
  refine st_seq (C45 [1, 1, 1, 1, 1, 1, 1, 0, 1, 0]) (C45 [1, 1, 1, 1, 1, 1, 1, 0, 1, 1]) (by kernel_rfl) ?_
  refine st_region 8 (opsOf (C45 [1, 1, 1, 1, 1, 1, 1, 0, 1, 0])) [0, 1, 2] (by kernel_rfl) (by kernel_rfl) ?_
  refine st_pure tabOK hk [0] [1, 2] [0, 2, 22] [(0, .pointer (some ⟨b1, 0, none⟩)), (2, .pointer (some ⟨b2, 0, none⟩)), (22, .pointer (some ⟨b2, 0, none⟩))] (((some ⟨b2, 0, none⟩ : Option Addr).isSome = true) ∧ True) (by kernel_rfl) ⟨rfl, trivial⟩ ?_
  clear hk; intro a hk
  refine st_load1 tabOK hk 3 (some ⟨b2, 0, none⟩) 23 (by kernel_rfl) (by kernel_rfl) (I (w64 (t13.1 + 1900))) (ho.cell 1 rfl rfl) ?_
  clear hk; intro a hk
  refine st_pure tabOK hk [2] [] [0, 2, 24] [(0, .pointer (some ⟨b1, 0, none⟩)), (2, .pointer (some ⟨b2, 0, none⟩)), (24, .bool (decide (w64 (t13.1 + 1900) < 1970)))] (True) (by kernel_rfl) trivial ?_
  clear hk; intro a hk
  refine st_done ?_
  obtain ⟨m15, HX, H⟩ := Option.bind_eq_some_iff.1 H
  refine cut_code (fun a w => Kn 37 a [(0, .pointer (some ⟨b1, 0, none⟩)), (2, .pointer (some ⟨b2, 0, none⟩))] ∧ Ows [b1] w0 w [.blk b1 (.cells #[S t13.2.1, .bool t13.2.2] 96 (0, 0)), .blk b2 (.cells #[I m15, I t9.1, I t5.1, I 0] 99 (0, 0))]) ?_ ?_
  · intro J; clear H; have H := HX; clear HX
    refine st_cond hk (C45 [1, 1, 1, 1, 1, 1, 1, 0, 1, 1, 0]) (C45 [1, 1, 1, 1, 1, 1, 1, 0, 1, 1, 1]) (.tmp 24) (decide (w64 (t13.1 + 1900) < 1970)) (by kernel_rfl) (by kernel_rfl) (fun h16 => ?_) (fun h16 => ?_)
    ·
      have h17 : w64 (t13.1 + 1900) < 1970 := of_decide_eq_true h16
      rw [if_pos h17] at H
      refine st_region 9 (opsOf (C45 [1, 1, 1, 1, 1, 1, 1, 0, 1, 1, 0])) [0, 1, 2, 3, 4] (by kernel_rfl) (by kernel_rfl) ?_
      refine st_pure tabOK hk [0] [1, 2, 3, 4] [0, 2, 25] [(0, .pointer (some ⟨b1, 0, none⟩)), (2, .pointer (some ⟨b2, 0, none⟩)), (25, .pointer (some ⟨b2, 0, none⟩))] (((some ⟨b2, 0, none⟩ : Option Addr).isSome = true) ∧ True) (by kernel_rfl) ⟨rfl, trivial⟩ ?_
      clear hk; intro a hk
      refine st_load1 tabOK hk 3 (some ⟨b2, 0, none⟩) 26 (by kernel_rfl) (by kernel_rfl) (I (w64 (t13.1 + 1900))) (ho.cell 1 rfl rfl) ?_
      clear hk; intro a hk
      refine st_pure tabOK hk [2, 3] [4] [0, 2, 27, 28] [(0, .pointer (some ⟨b1, 0, none⟩)), (2, .pointer (some ⟨b2, 0, none⟩)), (27, I (w64 ((w64 (t13.1 + 1900)) + 100))), (28, .pointer (some ⟨b2, 0, none⟩))] (((some ⟨b2, 0, none⟩ : Option Addr).isSome = true) ∧ True) (by kernel_rfl) ⟨rfl, trivial⟩ ?_
      clear hk; intro a hk
      refine st_put1 hk ho 1 3 b2 0 (I (w64 ((w64 (t13.1 + 1900)) + 100))) #[I (w64 (t13.1 + 1900)), I t9.1, I t5.1, I 0] 99 [.blk b1 (.cells #[S t13.2.1, .bool t13.2.2] 96 (0, 0)), .blk b2 (.cells #[I (w64 ((w64 (t13.1 + 1900)) + 100)), I t9.1, I t5.1, I 0] 99 (0, 0))] (by kernel_rfl) (by kernel_rfl) (by kernel_rfl) rfl (by kernel_rfl) (by kernel_rfl) rfl ?_
      clear ho; intro w ho
      refine st_done ?_
      obtain rfl := Option.some.inj H
      exact J a w ⟨hk.to [0, 2] _ (by kernel_rfl), ho⟩
    ·
      have h18 : ¬ (w64 (t13.1 + 1900) < 1970) := of_decide_eq_false h16
      rw [if_neg h18] at H
      refine st_skip (by kernel_rfl) ?_
      obtain rfl := Option.some.inj H
      exact J a w ⟨hk.to [0, 2] _ (by kernel_rfl), ho⟩
  · clear HX; rintro a w ⟨hk, ho⟩
    refine st_seq (C45 [1, 1, 1, 1, 1, 1, 1, 1, 0]) (C45 [1, 1, 1, 1, 1, 1, 1, 1, 1]) (by kernel_rfl) ?_
    refine st_region 10 (opsOf (C45 [1, 1, 1, 1, 1, 1, 1, 1, 0])) [0, 1] (by kernel_rfl) (by kernel_rfl) ?_
    refine st_pure tabOK hk [0] [1] [0, 2, 29] [(0, .pointer (some ⟨b1, 0, none⟩)), (2, .pointer (some ⟨b2, 0, none⟩)), (29, .pointer (some ⟨b1, 0, none⟩))] (True) (by kernel_rfl) trivial ?_
    clear hk; intro a hk
    obtain ⟨t19, h20, H⟩ := Option.bind_eq_some_iff.1 H
    refine st_call hk 47 [.pointer (some ⟨b1, 0, none⟩), S ([32])] (some 30) enters47 (by kernel_rfl) (date_scan_word.ok  t13.2.1 t13.2.2 ([32]) t19 h20 w b1 (Ows.has (K := [.blk b1 (.cells #[S t13.2.1, .bool t13.2.2] 96 (0, 0))]) (L := [.blk b2 (.cells #[I m15, I t9.1, I t5.1, I 0] 99 (0, 0))]) ho)) ?_
    clear hk; rintro a u w ⟨rfl, ho'⟩ hk
    replace ho : Ows [b1] w0 w [.blk b1 (.cells #[S t19.1, .bool t19.2] 96 (0, 0)), .blk b2 (.cells #[I m15, I t9.1, I t5.1, I 0] 99 (0, 0))] := Ows.callP (K := [.blk b1 (.cells #[S t13.2.1, .bool t13.2.2] 96 (0, 0))]) (L := [.blk b2 (.cells #[I m15, I t9.1, I t5.1, I 0] 99 (0, 0))]) ho ho' rfl; clear ho'
    refine st_done ?_
    refine st_seq (C45 [1, 1, 1, 1, 1, 1, 1, 1, 1, 0]) (C45 [1, 1, 1, 1, 1, 1, 1, 1, 1, 1]) (by kernel_rfl) ?_
    refine st_region 11 (opsOf (C45 [1, 1, 1, 1, 1, 1, 1, 1, 1, 0])) [0, 1, 2, 3] (by kernel_rfl) (by kernel_rfl) ?_
    refine st_pure tabOK hk [0] [1, 2, 3] [0, 2, 31] [(0, .pointer (some ⟨b1, 0, none⟩)), (2, .pointer (some ⟨b2, 0, none⟩)), (31, .pointer (some ⟨b1, 0, none⟩))] (True) (by kernel_rfl) trivial ?_
    clear hk; intro a hk
    obtain ⟨t21, h22, H⟩ := Option.bind_eq_some_iff.1 H
    refine st_call hk 60 [.pointer (some ⟨b1, 0, none⟩)] (some 32) enters60 (by kernel_rfl) (date_scan_clock.ok K  t19.1 t19.2 t21 h22 w b1 (Ows.has (K := [.blk b1 (.cells #[S t19.1, .bool t19.2] 96 (0, 0))]) (L := [.blk b2 (.cells #[I m15, I t9.1, I t5.1, I 0] 99 (0, 0))]) ho)) ?_
    clear hk; rintro a u w ⟨rfl, ho'⟩ hk
    replace ho : Ows [b1] w0 w [.blk b1 (.cells #[S t21.2.1, .bool t21.2.2] 96 (0, 0)), .blk b2 (.cells #[I m15, I t9.1, I t5.1, I 0] 99 (0, 0))] := Ows.callP (K := [.blk b1 (.cells #[S t19.1, .bool t19.2] 96 (0, 0))]) (L := [.blk b2 (.cells #[I m15, I t9.1, I t5.1, I 0] 99 (0, 0))]) ho ho' rfl; clear ho'
    refine st_pure tabOK hk [2] [3] [0, 2, 32, 33] [(0, .pointer (some ⟨b1, 0, none⟩)), (2, .pointer (some ⟨b2, 0, none⟩)), (32, I t21.1), (33, .pointer (some ⟨b2, 3, none⟩))] (((some ⟨b2, 0, none⟩ : Option Addr).isSome = true) ∧ True) (by kernel_rfl) ⟨rfl, trivial⟩ ?_
    clear hk; intro a hk
    refine st_put1 hk ho 1 3 b2 3 (I t21.1) #[I m15, I t9.1, I t5.1, I 0] 99 [.blk b1 (.cells #[S t21.2.1, .bool t21.2.2] 96 (0, 0)), .blk b2 (.cells #[I m15, I t9.1, I t5.1, I t21.1] 99 (0, 0))] (by kernel_rfl) (by kernel_rfl) (by kernel_rfl) rfl (by kernel_rfl) (by kernel_rfl) rfl ?_
    clear ho; intro w ho
    refine st_done ?_
    refine st_seq (C45 [1, 1, 1, 1, 1, 1, 1, 1, 1, 1, 0]) (C45 [1, 1, 1, 1, 1, 1, 1, 1, 1, 1, 1]) (by kernel_rfl) ?_
    refine st_region 12 (opsOf (C45 [1, 1, 1, 1, 1, 1, 1, 1, 1, 1, 0])) [0, 1] (by kernel_rfl) (by kernel_rfl) ?_
    refine st_pure tabOK hk [0] [1] [2, 34] [(2, .pointer (some ⟨b2, 0, none⟩)), (34, .pointer (some ⟨b1, 0, none⟩))] (True) (by kernel_rfl) trivial ?_
    clear hk; intro a hk
    obtain ⟨t23, h24, H⟩ := Option.bind_eq_some_iff.1 H
    refine st_call hk 47 [.pointer (some ⟨b1, 0, none⟩), S ([32, 71, 77, 84])] (some 35) enters47 (by kernel_rfl) (date_scan_word.ok  t21.2.1 t21.2.2 ([32, 71, 77, 84]) t23 h24 w b1 (Ows.has (K := [.blk b1 (.cells #[S t21.2.1, .bool t21.2.2] 96 (0, 0))]) (L := [.blk b2 (.cells #[I m15, I t9.1, I t5.1, I t21.1] 99 (0, 0))]) ho)) ?_
    clear hk; rintro a u w ⟨rfl, ho'⟩ hk
    replace ho : Ows [b1] w0 w [.blk b1 (.cells #[S t23.1, .bool t23.2] 96 (0, 0)), .blk b2 (.cells #[I m15, I t9.1, I t5.1, I t21.1] 99 (0, 0))] := Ows.callP (K := [.blk b1 (.cells #[S t21.2.1, .bool t21.2.2] 96 (0, 0))]) (L := [.blk b2 (.cells #[I m15, I t9.1, I t5.1, I t21.1] 99 (0, 0))]) ho ho' rfl; clear ho'
    refine st_done ?_
    refine st_seq (C45 [1, 1, 1, 1, 1, 1, 1, 1, 1, 1, 1, 0]) (C45 [1, 1, 1, 1, 1, 1, 1, 1, 1, 1, 1, 1]) (by kernel_rfl) ?_
    refine st_region 13 (opsOf (C45 [1, 1, 1, 1, 1, 1, 1, 1, 1, 1, 1, 0])) [0, 1] (by kernel_rfl) (by kernel_rfl) ?_
    refine st_loadA tabOK hk 99 (some ⟨b2, 0, none⟩) 36 (by kernel_rfl) (by kernel_rfl) (.agg #[I 0, I 0, I 0, I 0]) (by kernel_rfl) [I m15, I t9.1, I t5.1, I t21.1] rfl (ho.cellsA 1 rfl rfl) ?_
    clear hk; intro a hk
    refine st_putA hk ho 1 99 b2 0 [I m15, I t9.1, I t5.1, I t21.1] #[I m15, I t9.1, I t5.1, I t21.1] 99 [.blk b1 (.cells #[S t23.1, .bool t23.2] 96 (0, 0)), .blk b2 (.cells #[I m15, I t9.1, I t5.1, I t21.1] 99 (0, 0))] (by kernel_rfl) (by kernel_rfl) (by kernel_rfl) rfl (by kernel_rfl) (by kernel_rfl) rfl ?_
    clear ho; intro w ho
    refine st_done ?_
    replace ho : Ows [b1] w0 w [.blk b2 (.cells #[I m15, I t9.1, I t5.1, I t21.1] 99 (0, 0)), .blk b1 (.cells #[S t23.1, .bool t23.2] 96 (0, 0))] := ho.front 1 _ _ rfl rfl
    refine st_retG hk (by kernel_rfl) [.agg #[I m15, I t9.1, I t5.1, I t21.1]] #[.cell 2 99] (by kernel_rfl) ⟨resC tabOK hk (by kernel_rfl) (ho.blkAt 0 rfl) rfl (by kernel_rfl) (z := .agg #[I 0, I 0, I 0, I 0]) (by kernel_rfl) (by kernel_rfl), trivial⟩ ?_
    obtain rfl := Option.some.inj H
    replace ho : Ows [b1] w0 w [.blk b1 (.cells #[S t23.1, .bool t23.2] 96 (0, 0))] := ho.erase 0
    exact ⟨_, rfl, rfl, ho⟩


/-! scullery/date.third: function 46 -/
noncomputable def C46 (p : List Nat) : Code := Sub (bodyOf f46) p
def date_third.f (K : Nat) (p0_0 : Str) (p0_1 : Bool) : Option (Int × Int × Int × Int × Str × Bool) := (((date_scan_word.f p0_0 p0_1 ([32])).bind fun t3 => ((date_scan_month.f K t3.1 t3.2).bind fun t5 => ((date_scan_word.f t5.2.1 t5.2.2 ([32])).bind fun t7 => ((strings_HasPrefix.f t7.1 ([32])).bind fun t9 => (((if t9 = true then ((date_scan_word.f t7.1 t7.2 ([32])).bind fun t14 => ((date_scan_number.f K t14.1 t14.2 1 9).bind fun t16 => some (t16.2.1, t16.2.2, t16.1))) else ((date_scan_number.f K t7.1 t7.2 2 31).bind fun t19 => (if t19.1 < 10 then some (t19.2.1, true, t19.1) else some (t19.2.1, t19.2.2, t19.1))))).bind fun m11 => ((date_scan_word.f m11.1 m11.2.1 ([32])).bind fun t24 => ((date_scan_clock.f K t24.1 t24.2).bind fun t26 => ((date_scan_word.f t26.2.1 t26.2.2 ([32])).bind fun t28 => ((date_scan_number.f K t28.1 t28.2 4 9999).bind fun t30 => some (t30.1, t5.1, m11.2.2, t26.1, t30.2.1, t30.2.2)))))))))))
abbrev date_third.post (b1 : Nat) (w0 : World) (r : Int × Int × Int × Int × Str × Bool) (u : Value) (w : World) : Prop := u = .agg #[I r.1, I r.2.1, I r.2.2.1, I r.2.2.2.1] ∧ Ows [b1] w0 w [.blk b1 (.cells #[S r.2.2.2.2.1, .bool r.2.2.2.2.2] 96 (0, 0))]
theorem date_third.ok (K : Nat) (p0_0 : Str) (p0_1 : Bool) (r : Int × Int × Int × Int × Str × Bool) (H : date_third.f K p0_0 p0_1 = some r) (w0 : World) (b1 : Nat) (hh : Has w0 [.blk b1 (.cells #[S p0_0, .bool p0_1] 96 (0, 0))]) : Calls Tryd.prog 46 ⟨[.pointer (some ⟨b1, 0, none⟩)]⟩ w0 fun e w => ∃ u, e = .returned u ∧ date_third.post b1 w0 r u w := by
  unfold date_third.f at H
  refine st_startL (N := 40) [.pointer (some ⟨b1, 0, none⟩)] (C46 []) func46 (by kernel_rfl) (by kernel_rfl) (by kernel_rfl) ([.blk b1 (.cells #[S p0_0, .bool p0_1] 96 (0, 0))]) hh ?_
  intro a w hk ho
  replace ho : Ows [b1] w0 w [.blk b1 (.cells #[S p0_0, .bool p0_1] 96 (0, 0))] := ho
  refine st_seq (C46 [0]) (C46 [1]) (by kernel_rfl) ?_
  refine st_region 0 (opsOf (C46 [0])) [0] (by kernel_rfl) (by kernel_rfl) ?_
  refine st_new tabOK hk ho #[I 0, I 0, I 0, I 0] 99 2 (by kernel_rfl) ?_
  clear hk ho; intro a b2 w hk ho
  refine st_done ?_
  refine st_seq (C46 [1, 0]) (C46 [1, 1]) (by kernel_rfl) ?_
  refine st_region 1 (opsOf (C46 [1, 0])) [0, 1] (by kernel_rfl) (by kernel_rfl) ?_
  refine st_pure tabOK hk [0] [1] [0, 2, 3] [(0, .pointer (some ⟨b1, 0, none⟩)), (2, .pointer (some ⟨b2, 0, none⟩)), (3, .pointer (some ⟨b1, 0, none⟩))] (True) (by kernel_rfl) trivial ?_
  clear hk; intro a hk
  replace ho : Ows [b1] w0 w [.blk b1 (.cells #[S p0_0, .bool p0_1] 96 (0, 0)), .blk b2 (.cells #[I 0, I 0, I 0, I 0] 99 (0, 0))] := ho.front 1 _ _ rfl rfl
  obtain ⟨t3, h4, H⟩ := Option.bind_eq_some_iff.1 H
  refine st_call hk 47 [.pointer (some ⟨b1, 0, none⟩), S ([32])] (some 4) enters47 (by kernel_rfl) (date_scan_word.ok  p0_0 p0_1 ([32]) t3 h4 w b1 (Ows.has (K := [.blk b1 (.cells #[S p0_0, .bool p0_1] 96 (0, 0))]) (L := [.blk b2 (.cells #[I 0, I 0, I 0, I 0] 99 (0, 0))]) ho)) ?_
  clear hk; rintro a u w ⟨rfl, ho'⟩ hk
  replace ho : Ows [b1] w0 w [.blk b1 (.cells #[S t3.1, .bool t3.2] 96 (0, 0)), .blk b2 (.cells #[I 0, I 0, I 0, I 0] 99 (0, 0))] := Ows.callP (K := [.blk b1 (.cells #[S p0_0, .bool p0_1] 96 (0, 0))]) (L := [.blk b2 (.cells #[I 0, I 0, I 0, I 0] 99 (0, 0))]) ho ho' rfl; clear ho'
  refine st_done ?_
  refine st_seq (C46 [1, 1, 0]) (C46 [1, 1, 1]) (by kernel_rfl) ?_
  refine st_region 2 (opsOf (C46 [1, 1, 0])) [0, 1, 2, 3] (by kernel_rfl) (by kernel_rfl) ?_
  refine st_pure tabOK hk [0] [1, 2, 3] [0, 2, 5] [(0, .pointer (some ⟨b1, 0, none⟩)), (2, .pointer (some ⟨b2, 0, none⟩)), (5, .pointer (some ⟨b1, 0, none⟩))] (True) (by kernel_rfl) trivial ?_
  clear hk; intro a hk
  obtain ⟨t5, h6, H⟩ := Option.bind_eq_some_iff.1 H
  refine st_call hk 59 [.pointer (some ⟨b1, 0, none⟩)] (some 6) enters59 (by kernel_rfl) (date_scan_month.ok K  t3.1 t3.2 t5 h6 w b1 (Ows.has (K := [.blk b1 (.cells #[S t3.1, .bool t3.2] 96 (0, 0))]) (L := [.blk b2 (.cells #[I 0, I 0, I 0, I 0] 99 (0, 0))]) ho)) ?_
  clear hk; rintro a u w ⟨rfl, ho'⟩ hk
  replace ho : Ows [b1] w0 w [.blk b1 (.cells #[S t5.2.1, .bool t5.2.2] 96 (0, 0)), .blk b2 (.cells #[I 0, I 0, I 0, I 0] 99 (0, 0))] := Ows.callP (K := [.blk b1 (.cells #[S t3.1, .bool t3.2] 96 (0, 0))]) (L := [.blk b2 (.cells #[I 0, I 0, I 0, I 0] 99 (0, 0))]) ho ho' rfl; clear ho'
  refine st_pure tabOK hk [2] [3] [0, 2, 6, 7] [(0, .pointer (some ⟨b1, 0, none⟩)), (2, .pointer (some ⟨b2, 0, none⟩)), (6, I t5.1), (7, .pointer (some ⟨b2, 1, none⟩))] (((some ⟨b2, 0, none⟩ : Option Addr).isSome = true) ∧ True) (by kernel_rfl) ⟨rfl, trivial⟩ ?_
  clear hk; intro a hk
  refine st_put1 hk ho 1 3 b2 1 (I t5.1) #[I 0, I 0, I 0, I 0] 99 [.blk b1 (.cells #[S t5.2.1, .bool t5.2.2] 96 (0, 0)), .blk b2 (.cells #[I 0, I t5.1, I 0, I 0] 99 (0, 0))] (by kernel_rfl) (by kernel_rfl) (by kernel_rfl) rfl (by kernel_rfl) (by kernel_rfl) rfl ?_
  clear ho; intro w ho
  refine st_done ?_
  refine st_seq (C46 [1, 1, 1, 0]) (C46 [1, 1, 1, 1]) (by kernel_rfl) ?_
  refine st_region 3 (opsOf (C46 [1, 1, 1, 0])) [0, 1] (by kernel_rfl) (by kernel_rfl) ?_
  refine st_pure tabOK hk [0] [1] [0, 2, 8] [(0, .pointer (some ⟨b1, 0, none⟩)), (2, .pointer (some ⟨b2, 0, none⟩)), (8, .pointer (some ⟨b1, 0, none⟩))] (True) (by kernel_rfl) trivial ?_
  clear hk; intro a hk
  obtain ⟨t7, h8, H⟩ := Option.bind_eq_some_iff.1 H
  refine st_call hk 47 [.pointer (some ⟨b1, 0, none⟩), S ([32])] (some 9) enters47 (by kernel_rfl) (date_scan_word.ok  t5.2.1 t5.2.2 ([32]) t7 h8 w b1 (Ows.has (K := [.blk b1 (.cells #[S t5.2.1, .bool t5.2.2] 96 (0, 0))]) (L := [.blk b2 (.cells #[I 0, I t5.1, I 0, I 0] 99 (0, 0))]) ho)) ?_
  clear hk; rintro a u w ⟨rfl, ho'⟩ hk
  replace ho : Ows [b1] w0 w [.blk b1 (.cells #[S t7.1, .bool t7.2] 96 (0, 0)), .blk b2 (.cells #[I 0, I t5.1, I 0, I 0] 99 (0, 0))] := Ows.callP (K := [.blk b1 (.cells #[S t5.2.1, .bool t5.2.2] 96 (0, 0))]) (L := [.blk b2 (.cells #[I 0, I t5.1, I 0, I 0] 99 (0, 0))]) ho ho' rfl; clear ho'
  refine st_done ?_
  refine st_seq (C46 [1, 1, 1, 1, 0]) (C46 [1, 1, 1, 1, 1]) (by kernel_rfl) ?_
  refine st_seq (C46 [1, 1, 1, 1, 0, 0]) (C46 [1, 1, 1, 1, 0, 1]) (by kernel_rfl) ?_
  refine st_region 4 (opsOf (C46 [1, 1, 1, 1, 0, 0])) [0, 1, 2, 3, 4] (by kernel_rfl) (by kernel_rfl) ?_
  refine st_pure tabOK hk [0, 1, 2] [3, 4] [0, 2, 12] [(0, .pointer (some ⟨b1, 0, none⟩)), (2, .pointer (some ⟨b2, 0, none⟩)), (12, .pointer (some ⟨b1, 0, none⟩))] (((some ⟨b1, 0, none⟩ : Option Addr).isSome = true) ∧ (((some ⟨b1, 0, none⟩ : Option Addr).isSome = true) ∧ True)) (by kernel_rfl) ⟨rfl, ⟨rfl, trivial⟩⟩ ?_
  clear hk; intro a hk
  refine st_load1 tabOK hk 9 (some ⟨b1, 0, none⟩) 13 (by kernel_rfl) (by kernel_rfl) (S t7.1) (ho.cell 0 rfl rfl) ?_
  clear hk; intro a hk
  obtain ⟨t9, h10, H⟩ := Option.bind_eq_some_iff.1 H
  refine st_call hk 61 [S t7.1, S ([32])] (some 14) enters61 (by kernel_rfl) (strings_HasPrefix.ok  t7.1 ([32]) t9 h10 w ) ?_
  clear hk; rintro a u w ⟨rfl, ho'⟩ hk
  replace ho : Ows [b1] w0 w [.blk b1 (.cells #[S t7.1, .bool t7.2] 96 (0, 0)), .blk b2 (.cells #[I 0, I t5.1, I 0, I 0] 99 (0, 0))] := ho.call ho'; clear ho'
  refine st_done ?_
  obtain ⟨m11, HX, H⟩ := Option.bind_eq_some_iff.1 H
  refine cut_code (fun a w => Kn 40 a [(0, .pointer (some ⟨b1, 0, none⟩)), (2, .pointer (some ⟨b2, 0, none⟩))] ∧ Ows [b1] w0 w [.blk b1 (.cells #[S m11.1, .bool m11.2.1] 96 (0, 0)), .blk b2 (.cells #[I 0, I t5.1, I m11.2.2, I 0] 99 (0, 0))]) ?_ ?_
  · intro J; clear H; have H := HX; clear HX
    refine st_cond hk (C46 [1, 1, 1, 1, 0, 1, 0]) (C46 [1, 1, 1, 1, 0, 1, 1]) (.tmp 14) (t9) (by kernel_rfl) (by kernel_rfl) (fun h12 => ?_) (fun h12 => ?_)
    ·
      have h13 : t9 = true := h12
      rw [if_pos h13] at H
      refine st_seq (C46 [1, 1, 1, 1, 0, 1, 0, 0]) (C46 [1, 1, 1, 1, 0, 1, 0, 1]) (by kernel_rfl) ?_
      refine st_region 5 (opsOf (C46 [1, 1, 1, 1, 0, 1, 0, 0])) [0, 1] (by kernel_rfl) (by kernel_rfl) ?_
      refine st_pure tabOK hk [0] [1] [0, 2, 15] [(0, .pointer (some ⟨b1, 0, none⟩)), (2, .pointer (some ⟨b2, 0, none⟩)), (15, .pointer (some ⟨b1, 0, none⟩))] (True) (by kernel_rfl) trivial ?_
      clear hk; intro a hk
      obtain ⟨t14, h15, H⟩ := Option.bind_eq_some_iff.1 H
      refine st_call hk 47 [.pointer (some ⟨b1, 0, none⟩), S ([32])] (some 16) enters47 (by kernel_rfl) (date_scan_word.ok  t7.1 t7.2 ([32]) t14 h15 w b1 (Ows.has (K := [.blk b1 (.cells #[S t7.1, .bool t7.2] 96 (0, 0))]) (L := [.blk b2 (.cells #[I 0, I t5.1, I 0, I 0] 99 (0, 0))]) ho)) ?_
      clear hk; rintro a u w ⟨rfl, ho'⟩ hk
      replace ho : Ows [b1] w0 w [.blk b1 (.cells #[S t14.1, .bool t14.2] 96 (0, 0)), .blk b2 (.cells #[I 0, I t5.1, I 0, I 0] 99 (0, 0))] := Ows.callP (K := [.blk b1 (.cells #[S t7.1, .bool t7.2] 96 (0, 0))]) (L := [.blk b2 (.cells #[I 0, I t5.1, I 0, I 0] 99 (0, 0))]) ho ho' rfl; clear ho'
      refine st_done ?_
      refine st_region 6 (opsOf (C46 [1, 1, 1, 1, 0, 1, 0, 1])) [0, 1, 2, 3] (by kernel_rfl) (by kernel_rfl) ?_
      refine st_pure tabOK hk [0] [1, 2, 3] [0, 2, 17] [(0, .pointer (some ⟨b1, 0, none⟩)), (2, .pointer (some ⟨b2, 0, none⟩)), (17, .pointer (some ⟨b1, 0, none⟩))] (True) (by kernel_rfl) trivial ?_
      clear hk; intro a hk
      obtain ⟨t16, h17, H⟩ := Option.bind_eq_some_iff.1 H
      refine st_call hk 58 [.pointer (some ⟨b1, 0, none⟩), I 1, I 9] (some 18) enters58 (by kernel_rfl) (date_scan_number.ok K  t14.1 t14.2 1 9 t16 h17 w b1 (Ows.has (K := [.blk b1 (.cells #[S t14.1, .bool t14.2] 96 (0, 0))]) (L := [.blk b2 (.cells #[I 0, I t5.1, I 0, I 0] 99 (0, 0))]) ho)) ?_
      clear hk; rintro a u w ⟨rfl, ho'⟩ hk
      replace ho : Ows [b1] w0 w [.blk b1 (.cells #[S t16.2.1, .bool t16.2.2] 96 (0, 0)), .blk b2 (.cells #[I 0, I t5.1, I 0, I 0] 99 (0, 0))] := Ows.callP (K := [.blk b1 (.cells #[S t14.1, .bool t14.2] 96 (0, 0))]) (L := [.blk b2 (.cells #[I 0, I t5.1, I 0, I 0] 99 (0, 0))]) ho ho' rfl; clear ho'
      refine st_pure tabOK hk [2] [3] [0, 2, 18, 19] [(0, .pointer (some ⟨b1, 0, none⟩)), (2, .pointer (some ⟨b2, 0, none⟩)), (18, I t16.1), (19, .pointer (some ⟨b2, 2, none⟩))] (((some ⟨b2, 0, none⟩ : Option Addr).isSome = true) ∧ True) (by kernel_rfl) ⟨rfl, trivial⟩ ?_
      clear hk; intro a hk
      refine st_put1 hk ho 1 3 b2 2 (I t16.1) #[I 0, I t5.1, I 0, I 0] 99 [.blk b1 (.cells #[S t16.2.1, .bool t16.2.2] 96 (0, 0)), .blk b2 (.cells #[I 0, I t5.1, I t16.1, I 0] 99 (0, 0))] (by kernel_rfl) (by kernel_rfl) (by kernel_rfl) rfl (by kernel_rfl) (by kernel_rfl) rfl ?_
      clear ho; intro w ho
      refine st_done ?_
      obtain rfl := Option.some.inj H
      exact J a w ⟨hk.to [0, 2] _ (by kernel_rfl), ho⟩
    ·
      have h18 : ¬ (t9 = true) := ne_true_of_eq_false h12
      rw [if_neg h18] at H
      refine st_seq (C46 [1, 1, 1, 1, 0, 1, 1, 0]) (C46 [1, 1, 1, 1, 0, 1, 1, 1]) (by kernel_rfl) ?_
      refine st_region 7 (opsOf (C46 [1, 1, 1, 1, 0, 1, 1, 0])) [0, 1, 2, 3] (by kernel_rfl) (by kernel_rfl) ?_
      refine st_pure tabOK hk [0] [1, 2, 3] [0, 2, 20] [(0, .pointer (some ⟨b1, 0, none⟩)), (2, .pointer (some ⟨b2, 0, none⟩)), (20, .pointer (some ⟨b1, 0, none⟩))] (True) (by kernel_rfl) trivial ?_
      clear hk; intro a hk
      obtain ⟨t19, h20, H⟩ := Option.bind_eq_some_iff.1 H
      refine st_call hk 58 [.pointer (some ⟨b1, 0, none⟩), I 2, I 31] (some 21) enters58 (by kernel_rfl) (date_scan_number.ok K  t7.1 t7.2 2 31 t19 h20 w b1 (Ows.has (K := [.blk b1 (.cells #[S t7.1, .bool t7.2] 96 (0, 0))]) (L := [.blk b2 (.cells #[I 0, I t5.1, I 0, I 0] 99 (0, 0))]) ho)) ?_
      clear hk; rintro a u w ⟨rfl, ho'⟩ hk
      replace ho : Ows [b1] w0 w [.blk b1 (.cells #[S t19.2.1, .bool t19.2.2] 96 (0, 0)), .blk b2 (.cells #[I 0, I t5.1, I 0, I 0] 99 (0, 0))] := Ows.callP (K := [.blk b1 (.cells #[S t7.1, .bool t7.2] 96 (0, 0))]) (L := [.blk b2 (.cells #[I 0, I t5.1, I 0, I 0] 99 (0, 0))]) ho ho' rfl; clear ho'
      refine st_pure tabOK hk [2] [3] [0, 2, 21, 22] [(0, .pointer (some ⟨b1, 0, none⟩)), (2, .pointer (some ⟨b2, 0, none⟩)), (21, I t19.1), (22, .pointer (some ⟨b2, 2, none⟩))] (((some ⟨b2, 0, none⟩ : Option Addr).isSome = true) ∧ True) (by kernel_rfl) ⟨rfl, trivial⟩ ?_
      clear hk; intro a hk
      refine st_put1 hk ho 1 3 b2 2 (I t19.1) #[I 0, I t5.1, I 0, I 0] 99 [.blk b1 (.cells #[S t19.2.1, .bool t19.2.2] 96 (0, 0)), .blk b2 (.cells #[I 0, I t5.1, I t19.1, I 0] 99 (0, 0))] (by kernel_rfl) (by kernel_rfl) (by kernel_rfl) rfl (by kernel_rfl) (by kernel_rfl) rfl ?_
      clear ho; intro w ho
      refine st_done ?_
      refine st_seq (C46 [1, 1, 1, 1, 0, 1, 1, 1, 0]) (C46 [1, 1, 1, 1, 0, 1, 1, 1, 1]) (by kernel_rfl) ?_
      refine st_region 8 (opsOf (C46 [1, 1, 1, 1, 0, 1, 1, 1, 0])) [0, 1, 2] (by kernel_rfl) (by kernel_rfl) ?_
      refine st_pure tabOK hk [0] [1, 2] [0, 2, 23] [(0, .pointer (some ⟨b1, 0, none⟩)), (2, .pointer (some ⟨b2, 0, none⟩)), (23, .pointer (some ⟨b2, 2, none⟩))] (((some ⟨b2, 0, none⟩ : Option Addr).isSome = true) ∧ True) (by kernel_rfl) ⟨rfl, trivial⟩ ?_
      clear hk; intro a hk
      refine st_load1 tabOK hk 3 (some ⟨b2, 2, none⟩) 24 (by kernel_rfl) (by kernel_rfl) (I t19.1) (ho.cell 1 rfl rfl) ?_
      clear hk; intro a hk
      refine st_pure tabOK hk [2] [] [0, 2, 25] [(0, .pointer (some ⟨b1, 0, none⟩)), (2, .pointer (some ⟨b2, 0, none⟩)), (25, .bool (decide (t19.1 < 10)))] (True) (by kernel_rfl) trivial ?_
      clear hk; intro a hk
      refine st_done ?_
      refine st_cond hk (C46 [1, 1, 1, 1, 0, 1, 1, 1, 1, 0]) (C46 [1, 1, 1, 1, 0, 1, 1, 1, 1, 1]) (.tmp 25) (decide (t19.1 < 10)) (by kernel_rfl) (by kernel_rfl) (fun h21 => ?_) (fun h21 => ?_)
      ·
        have h22 : t19.1 < 10 := of_decide_eq_true h21
        rw [if_pos h22] at H
        refine st_region 9 (opsOf (C46 [1, 1, 1, 1, 0, 1, 1, 1, 1, 0])) [0, 1, 2, 3] (by kernel_rfl) (by kernel_rfl) ?_
        refine st_pure tabOK hk [0, 1, 2] [3] [0, 2, 28] [(0, .pointer (some ⟨b1, 0, none⟩)), (2, .pointer (some ⟨b2, 0, none⟩)), (28, .pointer (some ⟨b1, 1, none⟩))] (((some ⟨b1, 0, none⟩ : Option Addr).isSome = true) ∧ (((some ⟨b1, 0, none⟩ : Option Addr).isSome = true) ∧ True)) (by kernel_rfl) ⟨rfl, ⟨rfl, trivial⟩⟩ ?_
        clear hk; intro a hk
        refine st_put1 hk ho 0 4 b1 1 (.bool true) #[S t19.2.1, .bool t19.2.2] 96 [.blk b1 (.cells #[S t19.2.1, .bool true] 96 (0, 0)), .blk b2 (.cells #[I 0, I t5.1, I t19.1, I 0] 99 (0, 0))] (by kernel_rfl) (by kernel_rfl) (by kernel_rfl) rfl (by kernel_rfl) (by kernel_rfl) rfl ?_
        clear ho; intro w ho
        refine st_done ?_
        obtain rfl := Option.some.inj H
        exact J a w ⟨hk.to [0, 2] _ (by kernel_rfl), ho⟩
      ·
        have h23 : ¬ (t19.1 < 10) := of_decide_eq_false h21
        rw [if_neg h23] at H
        refine st_skip (by kernel_rfl) ?_
        obtain rfl := Option.some.inj H
        exact J a w ⟨hk.to [0, 2] _ (by kernel_rfl), ho⟩
  · clear HX; rintro a w ⟨hk, ho⟩
    refine st_seq (C46 [1, 1, 1, 1, 1, 0]) (C46 [1, 1, 1, 1, 1, 1]) (by kernel_rfl) ?_
    refine st_region 10 (opsOf (C46 [1, 1, 1, 1, 1, 0])) [0, 1] (by kernel_rfl) (by kernel_rfl) ?_
    refine st_pure tabOK hk [0] [1] [0, 2, 29] [(0, .pointer (some ⟨b1, 0, none⟩)), (2, .pointer (some ⟨b2, 0, none⟩)), (29, .pointer (some ⟨b1, 0, none⟩))] (True) (by kernel_rfl) trivial ?_
    clear hk; intro a hk
    obtain ⟨t24, h25, H⟩ := Option.bind_eq_some_iff.1 H
    refine st_call hk 47 [.pointer (some ⟨b1, 0, none⟩), S ([32])] (some 30) enters47 (by kernel_rfl) (date_scan_word.ok  m11.1 m11.2.1 ([32]) t24 h25 w b1 (Ows.has (K := [.blk b1 (.cells #[S m11.1, .bool m11.2.1] 96 (0, 0))]) (L := [.blk b2 (.cells #[I 0, I t5.1, I m11.2.2, I 0] 99 (0, 0))]) ho)) ?_
    clear hk; rintro a u w ⟨rfl, ho'⟩ hk
    replace ho : Ows [b1] w0 w [.blk b1 (.cells #[S t24.1, .bool t24.2] 96 (0, 0)), .blk b2 (.cells #[I 0, I t5.1, I m11.2.2, I 0] 99 (0, 0))] := Ows.callP (K := [.blk b1 (.cells #[S m11.1, .bool m11.2.1] 96 (0, 0))]) (L := [.blk b2 (.cells #[I 0, I t5.1, I m11.2.2, I 0] 99 (0, 0))]) ho ho' rfl; clear ho'
    refine st_done ?_
    refine st_seq (C46 [1, 1, 1, 1, 1, 1, 0]) (C46 [1, 1, 1, 1, 1, 1, 1]) (by kernel_rfl) ?_
    refine st_region 11 (opsOf (C46 [1, 1, 1, 1, 1, 1, 0])) [0, 1, 2, 3] (by kernel_rfl) (by kernel_rfl) ?_
    refine st_pure tabOK hk [0] [1, 2, 3] [0, 2, 31] [(0, .pointer (some ⟨b1, 0, none⟩)), (2, .pointer (some ⟨b2, 0, none⟩)), (31, .pointer (some ⟨b1, 0, none⟩))] (True) (by kernel_rfl) trivial ?_
    clear hk; intro a hk
    obtain ⟨t26, h27, H⟩ := Option.bind_eq_some_iff.1 H
    refine st_call hk 60 [.pointer (some ⟨b1, 0, none⟩)] (some 32) enters60 (by kernel_rfl) (date_scan_clock.ok K  t24.1 t24.2 t26 h27 w b1 (Ows.has (K := [.blk b1 (.cells #[S t24.1, .bool t24.2] 96 (0, 0))]) (L := [.blk b2 (.cells #[I 0, I t5.1, I m11.2.2, I 0] 99 (0, 0))]) ho)) ?_
    clear hk; rintro a u w ⟨rfl, ho'⟩ hk
    replace ho : Ows [b1] w0 w [.blk b1 (.cells #[S t26.2.1, .bool t26.2.2] 96 (0, 0)), .blk b2 (.cells #[I 0, I t5.1, I m11.2.2, I 0] 99 (0, 0))] := Ows.callP (K := [.blk b1 (.cells #[S t24.1, .bool t24.2] 96 (0, 0))]) (L := [.blk b2 (.cells #[I 0, I t5.1, I m11.2.2, I 0] 99 (0, 0))]) ho ho' rfl; clear ho'
    refine st_pure tabOK hk [2] [3] [0, 2, 32, 33] [(0, .pointer (some ⟨b1, 0, none⟩)), (2, .pointer (some ⟨b2, 0, none⟩)), (32, I t26.1), (33, .pointer (some ⟨b2, 3, none⟩))] (((some ⟨b2, 0, none⟩ : Option Addr).isSome = true) ∧ True) (by kernel_rfl) ⟨rfl, trivial⟩ ?_
    clear hk; intro a hk
    refine st_put1 hk ho 1 3 b2 3 (I t26.1) #[I 0, I t5.1, I m11.2.2, I 0] 99 [.blk b1 (.cells #[S t26.2.1, .bool t26.2.2] 96 (0, 0)), .blk b2 (.cells #[I 0, I t5.1, I m11.2.2, I t26.1] 99 (0, 0))] (by kernel_rfl) (by kernel_rfl) (by kernel_rfl) rfl (by kernel_rfl) (by kernel_rfl) rfl ?_
    clear ho; intro w ho
    refine st_done ?_
    refine st_seq (C46 [1, 1, 1, 1, 1, 1, 1, 0]) (C46 [1, 1, 1, 1, 1, 1, 1, 1]) (by kernel_rfl) ?_
    refine st_region 12 (opsOf (C46 [1, 1, 1, 1, 1, 1, 1, 0])) [0, 1] (by kernel_rfl) (by kernel_rfl) ?_
    refine st_pure tabOK hk [0] [1] [0, 2, 34] [(0, .pointer (some ⟨b1, 0, none⟩)), (2, .pointer (some ⟨b2, 0, none⟩)), (34, .pointer (some ⟨b1, 0, none⟩))] (True) (by kernel_rfl) trivial ?_
    clear hk; intro a hk
    obtain ⟨t28, h29, H⟩ := Option.bind_eq_some_iff.1 H
    refine st_call hk 47 [.pointer (some ⟨b1, 0, none⟩), S ([32])] (some 35) enters47 (by kernel_rfl) (date_scan_word.ok  t26.2.1 t26.2.2 ([32]) t28 h29 w b1 (Ows.has (K := [.blk b1 (.cells #[S t26.2.1, .bool t26.2.2] 96 (0, 0))]) (L := [.blk b2 (.cells #[I 0, I t5.1, I m11.2.2, I t26.1] 99 (0, 0))]) ho)) ?_
    clear hk; rintro a u w ⟨rfl, ho'⟩ hk
    replace ho : Ows [b1] w0 w [.blk b1 (.cells #[S t28.1, .bool t28.2] 96 (0, 0)), .blk b2 (.cells #[I 0, I t5.1, I m11.2.2, I t26.1] 99 (0, 0))] := Ows.callP (K := [.blk b1 (.cells #[S t26.2.1, .bool t26.2.2] 96 (0, 0))]) (L := [.blk b2 (.cells #[I 0, I t5.1, I m11.2.2, I t26.1] 99 (0, 0))]) ho ho' rfl; clear ho'
    refine st_done ?_
    refine st_seq (C46 [1, 1, 1, 1, 1, 1, 1, 1, 0]) (C46 [1, 1, 1, 1, 1, 1, 1, 1, 1]) (by kernel_rfl) ?_
    refine st_region 13 (opsOf (C46 [1, 1, 1, 1, 1, 1, 1, 1, 0])) [0, 1, 2, 3] (by kernel_rfl) (by kernel_rfl) ?_
    refine st_pure tabOK hk [0] [1, 2, 3] [2, 36] [(2, .pointer (some ⟨b2, 0, none⟩)), (36, .pointer (some ⟨b1, 0, none⟩))] (True) (by kernel_rfl) trivial ?_
    clear hk; intro a hk
    obtain ⟨t30, h31, H⟩ := Option.bind_eq_some_iff.1 H
    refine st_call hk 58 [.pointer (some ⟨b1, 0, none⟩), I 4, I 9999] (some 37) enters58 (by kernel_rfl) (date_scan_number.ok K  t28.1 t28.2 4 9999 t30 h31 w b1 (Ows.has (K := [.blk b1 (.cells #[S t28.1, .bool t28.2] 96 (0, 0))]) (L := [.blk b2 (.cells #[I 0, I t5.1, I m11.2.2, I t26.1] 99 (0, 0))]) ho)) ?_
    clear hk; rintro a u w ⟨rfl, ho'⟩ hk
    replace ho : Ows [b1] w0 w [.blk b1 (.cells #[S t30.2.1, .bool t30.2.2] 96 (0, 0)), .blk b2 (.cells #[I 0, I t5.1, I m11.2.2, I t26.1] 99 (0, 0))] := Ows.callP (K := [.blk b1 (.cells #[S t28.1, .bool t28.2] 96 (0, 0))]) (L := [.blk b2 (.cells #[I 0, I t5.1, I m11.2.2, I t26.1] 99 (0, 0))]) ho ho' rfl; clear ho'
    refine st_pure tabOK hk [2] [3] [2, 37, 38] [(2, .pointer (some ⟨b2, 0, none⟩)), (37, I t30.1), (38, .pointer (some ⟨b2, 0, none⟩))] (((some ⟨b2, 0, none⟩ : Option Addr).isSome = true) ∧ True) (by kernel_rfl) ⟨rfl, trivial⟩ ?_
    clear hk; intro a hk
    refine st_put1 hk ho 1 3 b2 0 (I t30.1) #[I 0, I t5.1, I m11.2.2, I t26.1] 99 [.blk b1 (.cells #[S t30.2.1, .bool t30.2.2] 96 (0, 0)), .blk b2 (.cells #[I t30.1, I t5.1, I m11.2.2, I t26.1] 99 (0, 0))] (by kernel_rfl) (by kernel_rfl) (by kernel_rfl) rfl (by kernel_rfl) (by kernel_rfl) rfl ?_
    clear ho; intro w ho
    refine st_done ?_
    refine st_seq (C46 [1, 1, 1, 1, 1, 1, 1, 1, 1, 0]) (C46 [1, 1, 1, 1, 1, 1, 1, 1, 1, 1]) (by kernel_rfl) ?_
    refine st_region 14 (opsOf (C46 [1, 1, 1, 1, 1, 1, 1, 1, 1, 0])) [0, 1] (by kernel_rfl) (by kernel_rfl) ?_
    refine st_loadA tabOK hk 99 (some ⟨b2, 0, none⟩) 39 (by kernel_rfl) (by kernel_rfl) (.agg #[I 0, I 0, I 0, I 0]) (by kernel_rfl) [I t30.1, I t5.1, I m11.2.2, I t26.1] rfl (ho.cellsA 1 rfl rfl) ?_
    clear hk; intro a hk
    refine st_putA hk ho 1 99 b2 0 [I t30.1, I t5.1, I m11.2.2, I t26.1] #[I t30.1, I t5.1, I m11.2.2, I t26.1] 99 [.blk b1 (.cells #[S t30.2.1, .bool t30.2.2] 96 (0, 0)), .blk b2 (.cells #[I t30.1, I t5.1, I m11.2.2, I t26.1] 99 (0, 0))] (by kernel_rfl) (by kernel_rfl) (by kernel_rfl) rfl (by kernel_rfl) (by kernel_rfl) rfl ?_
    clear ho; intro w ho
    refine st_done ?_
    replace ho : Ows [b1] w0 w [.blk b2 (.cells #[I t30.1, I t5.1, I m11.2.2, I t26.1] 99 (0, 0)), .blk b1 (.cells #[S t30.2.1, .bool t30.2.2] 96 (0, 0))] := ho.front 1 _ _ rfl rfl
    refine st_retG hk (by kernel_rfl) [.agg #[I t30.1, I t5.1, I m11.2.2, I t26.1]] #[.cell 2 99] (by kernel_rfl) ⟨resC tabOK hk (by kernel_rfl) (ho.blkAt 0 rfl) rfl (by kernel_rfl) (z := .agg #[I 0, I 0, I 0, I 0]) (by kernel_rfl) (by kernel_rfl), trivial⟩ ?_
    obtain rfl := Option.some.inj H
    replace ho : Ows [b1] w0 w [.blk b1 (.cells #[S t30.2.1, .bool t30.2.2] 96 (0, 0))] := ho.erase 0
    exact ⟨_, rfl, rfl, ho⟩

end Go.Proofs.YtifocgljpfaekaaDoor
