/- Go functions as plain functions, and that the machine's calls do what these say. -/
import Derived.Test.YtimggfeejbfdnaaDoorT
import Derived.Test.YtimggfeejbfdnaaDoorLay
import Derived.Test.YtimggfeejbfdnaaDoorHC
import Derived.Test.YtimggfeejbfdnaaDoorF1
set_option maxRecDepth 100000
set_option linter.unusedVariables false
namespace Go.Proofs.YtimggfeejbfdnaaDoor
open Go.Ev Go.Proofs.Tryd


/-! scullery/target.Percent: function 10 -/
noncomputable def C10 (p : List Nat) : Code := Sub (bodyOf f10) p
def target_Percent.l0 (K : Nat) : Nat → List UInt8 → Str → Option ((List UInt8) ⊕ (Str × Int))
  | 0, _, _ => none
  | k + 1, v2, v5 => (if (!(v5 == ([]))) = true then (if 0 < (v5.length : Int) then (if ((decide (bt v5 0 ≤ 32)) || ((decide (bt v5 0 > 126)) || ((bt v5 0) == 35))) = true then some (.inr ([], 2)) else (if ((bt v5 0) != 37) = true then (if 1 ≤ (v5.length : Int) then (if v2.length + ([(u8 (bt v5 0))] : List (UInt8)).length ≤ 4294967296 then target_Percent.l0 K k (v2 ++ ([(u8 (bt v5 0))] : List (UInt8))) (v5.drop 1) else none) else none) else (if (v5.length : Int) < 3 then some (.inr ([], 2)) else (if 3 ≤ (v5.length : Int) then ((strconv_ParseUint_16_8.f K ((v5.take 3).drop 1)).bind fun t35 => ((target_alnum.f (w8 (t35))).bind fun t37 => (((if t37 = true then some true else ((strings_IndexByte.f ([45, 46, 95, 126]) (w8 (t35))).bind fun t43 => some (decide (t43 ≥ 0))))).bind fun m39 => (((if m39 = true then (if v2.length + ([(u8 (w8 (t35)))] : List (UInt8)).length ≤ 4294967296 then some (v2 ++ ([(u8 (w8 (t35)))] : List (UInt8))) else none) else (if (0 : Int) ≤ shI .shr .u8 (w8 (t35)) 4 then (if shI .shr .u8 (w8 (t35)) 4 < (([48, 49, 50, 51, 52, 53, 54, 55, 56, 57, 65, 66, 67, 68, 69, 70]).length : Int) then (if (0 : Int) ≤ bitI .and .u8 (w8 (t35)) 15 then (if bitI .and .u8 (w8 (t35)) 15 < (([48, 49, 50, 51, 52, 53, 54, 55, 56, 57, 65, 66, 67, 68, 69, 70]).length : Int) then (if v2.length + ([(u8 37), (u8 (bt ([48, 49, 50, 51, 52, 53, 54, 55, 56, 57, 65, 66, 67, 68, 69, 70]) (shI .shr .u8 (w8 (t35)) 4))), (u8 (bt ([48, 49, 50, 51, 52, 53, 54, 55, 56, 57, 65, 66, 67, 68, 69, 70]) (bitI .and .u8 (w8 (t35)) 15)))] : List (UInt8)).length ≤ 4294967296 then some (v2 ++ ([(u8 37), (u8 (bt ([48, 49, 50, 51, 52, 53, 54, 55, 56, 57, 65, 66, 67, 68, 69, 70]) (shI .shr .u8 (w8 (t35)) 4))), (u8 (bt ([48, 49, 50, 51, 52, 53, 54, 55, 56, 57, 65, 66, 67, 68, 69, 70]) (bitI .and .u8 (w8 (t35)) 15)))] : List (UInt8))) else none) else none) else none) else none) else none))).bind fun m45 => target_Percent.l0 K k m45 (v5.drop 3))))) else none)))) else none) else some (.inl v2))
def target_Percent.f (K : Nat) (p0 : Str) : Option (Str × Int) := (((target_Percent.l0 K K ([] : List UInt8) p0).bind fun m70 => match m70 with | .inl s72 => some (s72, 0) | .inr r75 => some r75))
abbrev target_Percent.post (w0 : World) (r : Str × Int) (u : Value) (w : World) : Prop := u = .tuple #[S r.1, I r.2] ∧ Ows [] w0 w []
theorem target_Percent.l0_ok (K : Nat) : ∀ (k : Nat) (v2 : List UInt8) (v5 : Str) (out : (List UInt8) ⊕ (Str × Int)), target_Percent.l0 K k v2 v5 = some out → ∀ (o3 : Option Addr) (c4 : Nat) (w0 : World) (Q : Exit → Act → World → Prop) (rest : List It) (a : Act) (w : World), Kn 70 a [(0, S v5), (4, .slice o3 v2.length c4)] → Ows [] w0 w [.row 2 5 1 (.slice o3 v2.length c4) v2.length (v2.map bV)] → (∀ (s : List UInt8) (o6 : Option Addr) (c7 : Nat) (a : Act) (w : World), out = .inl s → Kn 70 a [(4, .slice o6 s.length c7)] → Ows [] w0 w [.row 2 5 1 (.slice o6 s.length c7) s.length (s.map bV)] → G Tryd.prog Q rest a w) → (∀ (r : Str × Int) (a : Act) (w : World), out = .inr r → Kn 70 a [(2, S r.1), (3, I r.2)] → Ows [] w0 w [] → Q .ret a w) → G Tryd.prog Q (.code (C10 [1, 1, 0, 0, 0]) :: .inl (C10 [1, 1, 0, 0, 0]) :: .endb 0 :: rest) a w := by
  intro k
  induction k with
  | zero => intro v2 v5 out H; simp [target_Percent.l0] at H
  | succ k ih =>
    intro v2 v5 out H o3 c4 w0 Q rest a w  hk ho J R
    simp only [target_Percent.l0] at H
    refine st_seq (C10 [1, 1, 0, 0, 0, 0]) (C10 [1, 1, 0, 0, 0, 1]) (by kernel_rfl) ?_
    refine st_seq (C10 [1, 1, 0, 0, 0, 0, 0]) (C10 [1, 1, 0, 0, 0, 0, 1]) (by kernel_rfl) ?_
    refine st_region 2 (opsOf (C10 [1, 1, 0, 0, 0, 0, 0])) [0, 1] (by kernel_rfl) (by kernel_rfl) ?_
    refine st_pure tabOK hk [0, 1] [] [0, 4, 9] [(0, S v5), (4, .slice o3 v2.length c4), (9, .bool (!(v5 == ([]))))] (True) (by kernel_rfl) trivial ?_
    clear hk; intro a hk
    refine st_done ?_
    refine st_cond hk (C10 [1, 1, 0, 0, 0, 0, 1, 0]) (C10 [1, 1, 0, 0, 0, 0, 1, 1]) (.tmp 9) (!(v5 == ([]))) (by kernel_rfl) (by kernel_rfl) (fun h8 => ?_) (fun h8 => ?_)
    ·
      have h9 : (!(v5 == ([]))) = true := h8
      rw [if_pos h9] at H
      refine st_skip (by kernel_rfl) ?_
      refine st_block 1 (C10 [1, 1, 0, 0, 0, 1, 0]) (by kernel_rfl) ?_
      refine st_seq (C10 [1, 1, 0, 0, 0, 1, 0, 0]) (C10 [1, 1, 0, 0, 0, 1, 0, 1]) (by kernel_rfl) ?_
      refine st_region 3 (opsOf (C10 [1, 1, 0, 0, 0, 1, 0, 0])) [0, 1, 2] (by kernel_rfl) (by kernel_rfl) ?_
      have h10 : 0 < (v5.length : Int) := by
        by_cases h10 : 0 < (v5.length : Int)
        · exact h10
        · rw [if_neg h10] at H; cases H
      rw [if_pos h10] at H
      refine st_pure tabOK hk [0, 1, 2] [] [0, 4, 5] [(0, S v5), (4, .slice o3 v2.length c4), (5, .int .u8 (bt v5 0))] (((0 : Int) ≤ 0 ∧ 0 < (v5.length : Int)) ∧ True) (by kernel_rfl) ⟨⟨(by decide), h10⟩, trivial⟩ ?_
      clear hk; intro a hk
      refine st_done ?_
      refine st_seq (C10 [1, 1, 0, 0, 0, 1, 0, 1, 0]) (C10 [1, 1, 0, 0, 0, 1, 0, 1, 1]) (by kernel_rfl) ?_
      refine st_block 2 (C10 [1, 1, 0, 0, 0, 1, 0, 1, 0, 0]) (by kernel_rfl) ?_
      refine st_seq (C10 [1, 1, 0, 0, 0, 1, 0, 1, 0, 0, 0]) (C10 [1, 1, 0, 0, 0, 1, 0, 1, 0, 0, 1]) (by kernel_rfl) ?_
      refine st_region 4 (opsOf (C10 [1, 1, 0, 0, 0, 1, 0, 1, 0, 0, 0])) [0, 1, 2, 3, 4, 5, 6, 7, 8, 9, 10] (by kernel_rfl) (by kernel_rfl) ?_
      refine st_pure tabOK hk [0, 1, 2] [3, 4, 5, 6, 7, 8, 9, 10] [0, 4, 5, 15] [(0, S v5), (4, .slice o3 v2.length c4), (5, .int .u8 (bt v5 0)), (15, .bool (decide (bt v5 0 ≤ 32)))] (True) (by kernel_rfl) trivial ?_
      clear hk; intro a hk
      refine cut_ops (fun a w => Kn 70 a [(0, S v5), (4, .slice o3 v2.length c4), (5, .int .u8 (bt v5 0)), (12, .bool ((decide (bt v5 0 ≤ 32)) || ((decide (bt v5 0 > 126)) || ((bt v5 0) == 35))))] ∧ Ows [] w0 w [.row 2 5 1 (.slice o3 v2.length c4) v2.length (v2.map bV)]) ?_ ?_
      · intro J
        rcases Bool.eq_false_or_eq_true (decide (bt v5 0 ≤ 32)) with h11 | h11
        ·
          rw [h11] at hk
          have h12 : bt v5 0 ≤ 32 := of_decide_eq_true h11
          refine st_pure tabOK hk [3, 4, 5, 6, 7, 8, 9, 10] [] [0, 4, 5, 12] [(0, S v5), (4, .slice o3 v2.length c4), (5, .int .u8 (bt v5 0)), (12, .bool true)] (True) (by kernel_rfl) trivial ?_
          clear hk; intro a hk
          refine st_done ?_
          have e : ((decide (bt v5 0 ≤ 32)) || ((decide (bt v5 0 > 126)) || ((bt v5 0) == 35))) = true := by first | (simp only [h11]; done) | (simp only [h11]; rfl) | rfl | simp [h11]
          exact J a w ⟨by rw [e]; exact hk.to [0, 4, 5, 12] _ (by kernel_rfl), ho⟩
        ·
          rw [h11] at hk
          have h13 : ¬ (bt v5 0 ≤ 32) := of_decide_eq_false h11
          refine st_pure tabOK hk [3, 4, 5, 6] [7, 8, 9, 10] [0, 4, 5, 19] [(0, S v5), (4, .slice o3 v2.length c4), (5, .int .u8 (bt v5 0)), (19, .bool (decide (bt v5 0 > 126)))] (True) (by kernel_rfl) trivial ?_
          clear hk; intro a hk
          rcases Bool.eq_false_or_eq_true (decide (bt v5 0 > 126)) with h14 | h14
          ·
            rw [h14] at hk
            have h15 : bt v5 0 > 126 := of_decide_eq_true h14
            refine st_pure tabOK hk [7, 8, 9, 10] [] [0, 4, 5, 12] [(0, S v5), (4, .slice o3 v2.length c4), (5, .int .u8 (bt v5 0)), (12, .bool true)] (True) (by kernel_rfl) trivial ?_
            clear hk; intro a hk
            refine st_done ?_
            have e : ((decide (bt v5 0 ≤ 32)) || ((decide (bt v5 0 > 126)) || ((bt v5 0) == 35))) = true := by first | (simp only [h11, h14]; done) | (simp only [h11, h14]; rfl) | rfl | simp [h11, h14]
            exact J a w ⟨by rw [e]; exact hk.to [0, 4, 5, 12] _ (by kernel_rfl), ho⟩
          ·
            rw [h14] at hk
            have h16 : ¬ (bt v5 0 > 126) := of_decide_eq_false h14
            refine st_pure tabOK hk [7, 8, 9, 10] [] [0, 4, 5, 12] [(0, S v5), (4, .slice o3 v2.length c4), (5, .int .u8 (bt v5 0)), (12, .bool ((bt v5 0) == 35))] (True) (by kernel_rfl) trivial ?_
            clear hk; intro a hk
            refine st_done ?_
            have e : ((decide (bt v5 0 ≤ 32)) || ((decide (bt v5 0 > 126)) || ((bt v5 0) == 35))) = ((bt v5 0) == 35) := by first | (simp only [h11, h14]; done) | (simp only [h11, h14]; rfl) | rfl | simp [h11, h14]
            exact J a w ⟨by rw [e]; exact hk.to [0, 4, 5, 12] _ (by kernel_rfl), ho⟩
      · rintro a w ⟨hk, ho⟩
        refine st_cond hk (C10 [1, 1, 0, 0, 0, 1, 0, 1, 0, 0, 1, 0]) (C10 [1, 1, 0, 0, 0, 1, 0, 1, 0, 0, 1, 1]) (.tmp 12) (((decide (bt v5 0 ≤ 32)) || ((decide (bt v5 0 > 126)) || ((bt v5 0) == 35)))) (by kernel_rfl) (by kernel_rfl) (fun h17 => ?_) (fun h17 => ?_)
        ·
          have h18 : ((decide (bt v5 0 ≤ 32)) || ((decide (bt v5 0 > 126)) || ((bt v5 0) == 35))) = true := h17
          rw [if_pos h18] at H
          refine st_seq (C10 [1, 1, 0, 0, 0, 1, 0, 1, 0, 0, 1, 0, 0]) (C10 [1, 1, 0, 0, 0, 1, 0, 1, 0, 0, 1, 0, 1]) (by kernel_rfl) ?_
          refine st_region 5 (opsOf (C10 [1, 1, 0, 0, 0, 1, 0, 1, 0, 0, 1, 0, 0])) [0, 1] (by kernel_rfl) (by kernel_rfl) ?_
          refine st_pure tabOK hk [0, 1] [] [2, 3] [(2, S ([])), (3, I 2)] (True) (by kernel_rfl) trivial ?_
          clear hk; intro a hk
          refine st_done ?_
          refine st_ret (by kernel_rfl) ?_
          replace ho : Ows [] w0 w [] := ho.erase 0
          obtain rfl := Option.some.inj H
          exact R ([], 2)  a w rfl (hk.to [2, 3] _ (by kernel_rfl)) ho
        ·
          have h19 : ¬ (((decide (bt v5 0 ≤ 32)) || ((decide (bt v5 0 > 126)) || ((bt v5 0) == 35))) = true) := ne_true_of_eq_false h17
          rw [if_neg h19] at H
          refine st_seq (C10 [1, 1, 0, 0, 0, 1, 0, 1, 0, 0, 1, 1, 0]) (C10 [1, 1, 0, 0, 0, 1, 0, 1, 0, 0, 1, 1, 1]) (by kernel_rfl) ?_
          refine st_region 6 (opsOf (C10 [1, 1, 0, 0, 0, 1, 0, 1, 0, 0, 1, 1, 0])) [0, 1, 2] (by kernel_rfl) (by kernel_rfl) ?_
          refine st_pure tabOK hk [0, 1, 2] [] [0, 4, 5, 23] [(0, S v5), (4, .slice o3 v2.length c4), (5, .int .u8 (bt v5 0)), (23, .bool ((bt v5 0) != 37))] (True) (by kernel_rfl) trivial ?_
          clear hk; intro a hk
          refine st_done ?_
          refine st_cond hk (C10 [1, 1, 0, 0, 0, 1, 0, 1, 0, 0, 1, 1, 1, 0]) (C10 [1, 1, 0, 0, 0, 1, 0, 1, 0, 0, 1, 1, 1, 1]) (.tmp 23) ((bt v5 0) != 37) (by kernel_rfl) (by kernel_rfl) (fun h20 => ?_) (fun h20 => ?_)
          ·
            have h21 : ((bt v5 0) != 37) = true := h20
            rw [if_pos h21] at H
            refine st_seq (C10 [1, 1, 0, 0, 0, 1, 0, 1, 0, 0, 1, 1, 1, 0, 0]) (C10 [1, 1, 0, 0, 0, 1, 0, 1, 0, 0, 1, 1, 1, 0, 1]) (by kernel_rfl) ?_
            refine st_draw ho 7 (opsOf (C10 [1, 1, 0, 0, 0, 1, 0, 1, 0, 0, 1, 1, 1, 0, 0])) [0, 1, 2, 3, 4, 5, 6, 7] (by kernel_rfl) (by kernel_rfl) (by kernel_rfl) ?_
            clear ho; intro w ho
            have h22 : 1 ≤ (v5.length : Int) := by
              by_cases h22 : 1 ≤ (v5.length : Int)
              · exact h22
              · rw [if_neg h22] at H; cases H
            rw [if_pos h22] at H
            refine any_pure tabOK hk [0, 1, 4, 5] [0, 1, 2, 3, 4, 5, 6, 7] [2, 3, 6, 7] [0, 4, 26, 27, 31] [(0, S v5), (4, .slice o3 v2.length c4), (26, .slice o3 v2.length c4), (27, .int .u8 (bt v5 0)), (31, S (v5.drop 1))] (((0 : Int) ≤ 1 ∧ 1 ≤ (v5.length : Int)) ∧ True) (by kernel_rfl) (by kernel_rfl) (by kernel_rfl) ⟨⟨(by decide), h22⟩, trivial⟩ ?_
            clear hk; intro a hk
            refine any_all [2] (by kernel_rfl) (by decide) ⟨?_, trivial⟩
            change wpOps _ _ _ [2] _ _
            refine st_lit tabOK hk ho #[.int .u8 (bt v5 0)] 5 1 1 28 (by kernel_rfl) ?_
            clear hk ho; intro a o23 w h24 hk ho
            rw [u8_bV (bt v5 0) (bt_lo _ _) (bt_hi _ _)] at ho
            replace ho : Ows [] w0 w [.row 0 5 1 (.slice o23 (([(u8 (bt v5 0))] : List (UInt8)).length) 1) (([(u8 (bt v5 0))] : List (UInt8)).length) (([(u8 (bt v5 0))] : List (UInt8)).map bV), .row 2 5 1 (.slice o3 v2.length c4) v2.length (v2.map bV)] := ho
            replace hk : Kn 70 a [(0, S v5), (4, .slice o3 v2.length c4), (26, .slice o3 v2.length c4), (28, .slice o23 (([(u8 (bt v5 0))] : List (UInt8)).length) 1), (31, S (v5.drop 1))] := hk.to [0, 4, 26, 28, 31] _ (by kernel_rfl)
            refine any_go [3, 6, 7] (by kernel_rfl) ?_
            refine any_all [3] (by kernel_rfl) (by decide) ⟨?_, trivial⟩
            change wpOps _ _ _ [3] _ _
            have h26 : v2.length + ([(u8 (bt v5 0))] : List (UInt8)).length ≤ 4294967296 := by
              by_cases h26 : v2.length + ([(u8 (bt v5 0))] : List (UInt8)).length ≤ 4294967296
              · exact h26
              · rw [if_neg h26] at H; cases H
            rw [if_pos h26] at H
            refine st_append tabOK hk ho 1 30 5 1 29 (.int .u8 0) o3 v2.length c4 (v2.map bV) o23 (([(u8 (bt v5 0))] : List (UInt8)).length) 1 (([(u8 (bt v5 0))] : List (UInt8)).map bV) (by kernel_rfl) (by kernel_rfl) (by kernel_rfl) (by decide) rfl (by simp) (ho.rd 0 rfl) (one_map (fun _ => rfl) _) h26 ((v2 ++ ([(u8 (bt v5 0))] : List (UInt8))).length) ((v2 ++ ([(u8 (bt v5 0))] : List (UInt8))).map bV) (by simp) (by first | rfl | exact (List.map_append ..).symm) ?_
            clear hk ho; intro a o27 c28 w h29 hk ho
            replace ho : Ows [] w0 w [.row 0 5 1 (.slice o23 (([(u8 (bt v5 0))] : List (UInt8)).length) 1) (([(u8 (bt v5 0))] : List (UInt8)).length) (([(u8 (bt v5 0))] : List (UInt8)).map bV), .row 2 5 1 (.slice o27 ((v2 ++ ([(u8 (bt v5 0))] : List (UInt8))).length) c28) ((v2 ++ ([(u8 (bt v5 0))] : List (UInt8))).length) ((v2 ++ ([(u8 (bt v5 0))] : List (UInt8))).map bV)] := ho
            refine any_go [6, 7] (by kernel_rfl) ?_
            refine any_pure tabOK hk [6, 7] [6, 7] [] [0, 4] [(0, S (v5.drop 1)), (4, .slice o27 ((v2 ++ ([(u8 (bt v5 0))] : List (UInt8))).length) c28)] (True) (by kernel_rfl) (by kernel_rfl) (by kernel_rfl) trivial ?_
            clear hk; intro a hk
            refine any_end ?_
            refine st_exit 1 _ (by kernel_rfl) rfl ?_
            refine st_inl ?_
            replace ho : Ows [] w0 w [.row 2 5 1 (.slice o27 ((v2 ++ ([(u8 (bt v5 0))] : List (UInt8))).length) c28) ((v2 ++ ([(u8 (bt v5 0))] : List (UInt8))).length) ((v2 ++ ([(u8 (bt v5 0))] : List (UInt8))).map bV)] := ho.erase 0
            exact ih (v2 ++ ([(u8 (bt v5 0))] : List (UInt8))) (v5.drop 1) out H o27 c28 w0 Q rest a w  (hk.to [0, 4] _ (by kernel_rfl)) ho J R
          ·
            have h30 : ¬ (((bt v5 0) != 37) = true) := ne_true_of_eq_false h20
            rw [if_neg h30] at H
            refine st_seq (C10 [1, 1, 0, 0, 0, 1, 0, 1, 0, 0, 1, 1, 1, 1, 0]) (C10 [1, 1, 0, 0, 0, 1, 0, 1, 0, 0, 1, 1, 1, 1, 1]) (by kernel_rfl) ?_
            refine st_region 8 (opsOf (C10 [1, 1, 0, 0, 0, 1, 0, 1, 0, 0, 1, 1, 1, 1, 0])) [0, 1, 2, 3] (by kernel_rfl) (by kernel_rfl) ?_
            refine st_pure tabOK hk [0, 1, 2, 3] [] [0, 4, 32] [(0, S v5), (4, .slice o3 v2.length c4), (32, .bool (decide ((v5.length : Int) < 3)))] (True) (by kernel_rfl) trivial ?_
            clear hk; intro a hk
            refine st_done ?_
            refine st_cond hk (C10 [1, 1, 0, 0, 0, 1, 0, 1, 0, 0, 1, 1, 1, 1, 1, 0]) (C10 [1, 1, 0, 0, 0, 1, 0, 1, 0, 0, 1, 1, 1, 1, 1, 1]) (.tmp 32) (decide ((v5.length : Int) < 3)) (by kernel_rfl) (by kernel_rfl) (fun h31 => ?_) (fun h31 => ?_)
            ·
              have h32 : (v5.length : Int) < 3 := of_decide_eq_true h31
              rw [if_pos h32] at H
              refine st_seq (C10 [1, 1, 0, 0, 0, 1, 0, 1, 0, 0, 1, 1, 1, 1, 1, 0, 0]) (C10 [1, 1, 0, 0, 0, 1, 0, 1, 0, 0, 1, 1, 1, 1, 1, 0, 1]) (by kernel_rfl) ?_
              refine st_region 9 (opsOf (C10 [1, 1, 0, 0, 0, 1, 0, 1, 0, 0, 1, 1, 1, 1, 1, 0, 0])) [0, 1] (by kernel_rfl) (by kernel_rfl) ?_
              refine st_pure tabOK hk [0, 1] [] [2, 3] [(2, S ([])), (3, I 2)] (True) (by kernel_rfl) trivial ?_
              clear hk; intro a hk
              refine st_done ?_
              refine st_ret (by kernel_rfl) ?_
              replace ho : Ows [] w0 w [] := ho.erase 0
              obtain rfl := Option.some.inj H
              exact R ([], 2)  a w rfl (hk.to [2, 3] _ (by kernel_rfl)) ho
            ·
              have h33 : ¬ ((v5.length : Int) < 3) := of_decide_eq_false h31
              rw [if_neg h33] at H
              refine st_skip (by kernel_rfl) ?_
              refine st_endb 2 ?_
              refine st_seq (C10 [1, 1, 0, 0, 0, 1, 0, 1, 1, 0]) (C10 [1, 1, 0, 0, 0, 1, 0, 1, 1, 1]) (by kernel_rfl) ?_
              refine st_region 10 (opsOf (C10 [1, 1, 0, 0, 0, 1, 0, 1, 1, 0])) [0, 1, 2, 3, 4, 5, 6, 7] (by kernel_rfl) (by kernel_rfl) ?_
              have h34 : 3 ≤ (v5.length : Int) := by
                by_cases h34 : 3 ≤ (v5.length : Int)
                · exact h34
                · rw [if_neg h34] at H; cases H
              rw [if_pos h34] at H
              refine st_pure tabOK hk [0, 1] [2, 3, 4, 5, 6, 7] [0, 4, 38] [(0, S v5), (4, .slice o3 v2.length c4), (38, S ((v5.take 3).drop 1))] ((((0 : Int) ≤ 3 ∧ 3 ≤ (v5.length : Int)) ∧ ((0 : Int) ≤ 1 ∧ (1 : Int) ≤ 3)) ∧ True) (by kernel_rfl) ⟨⟨⟨(by decide), h34⟩, ⟨(by decide), (by decide)⟩⟩, trivial⟩ ?_
              clear hk; intro a hk
              obtain ⟨t35, h36, H⟩ := Option.bind_eq_some_iff.1 H
              refine st_call hk 27 [S ((v5.take 3).drop 1), I 16, I 8] (some 39) enters27 (by kernel_rfl) (strconv_ParseUint_16_8.ok K  ((v5.take 3).drop 1) t35 h36 w ) ?_
              clear hk; rintro a u w ⟨rfl, ho'⟩ hk
              replace ho : Ows [] w0 w [.row 2 5 1 (.slice o3 v2.length c4) v2.length (v2.map bV)] := ho.call ho'; clear ho'
              refine st_pure tabOK hk [3, 4, 5, 6, 7] [] [0, 4, 6, 7] [(0, S v5), (4, .slice o3 v2.length c4), (6, .int .u64 t35), (7, .nilIface)] (True) (by kernel_rfl) trivial ?_
              clear hk; intro a hk
              refine st_done ?_
              refine st_seq (C10 [1, 1, 0, 0, 0, 1, 0, 1, 1, 1, 0]) (C10 [1, 1, 0, 0, 0, 1, 0, 1, 1, 1, 1]) (by kernel_rfl) ?_
              refine st_seq (C10 [1, 1, 0, 0, 0, 1, 0, 1, 1, 1, 0, 0]) (C10 [1, 1, 0, 0, 0, 1, 0, 1, 1, 1, 0, 1]) (by kernel_rfl) ?_
              refine st_region 11 (opsOf (C10 [1, 1, 0, 0, 0, 1, 0, 1, 1, 1, 0, 0])) [0, 1] (by kernel_rfl) (by kernel_rfl) ?_
              refine st_pure tabOK hk [0, 1] [] [0, 4, 6, 43] [(0, S v5), (4, .slice o3 v2.length c4), (6, .int .u64 t35), (43, .bool false)] (True) (by kernel_rfl) trivial ?_
              clear hk; intro a hk
              refine st_done ?_
              refine st_cond_false hk (C10 [1, 1, 0, 0, 0, 1, 0, 1, 1, 1, 0, 1, 0]) (C10 [1, 1, 0, 0, 0, 1, 0, 1, 1, 1, 0, 1, 1]) (.tmp 43) (by kernel_rfl) (by kernel_rfl) ?_
              refine st_skip (by kernel_rfl) ?_
              refine st_seq (C10 [1, 1, 0, 0, 0, 1, 0, 1, 1, 1, 1, 0]) (C10 [1, 1, 0, 0, 0, 1, 0, 1, 1, 1, 1, 1]) (by kernel_rfl) ?_
              refine st_seq (C10 [1, 1, 0, 0, 0, 1, 0, 1, 1, 1, 1, 0, 0]) (C10 [1, 1, 0, 0, 0, 1, 0, 1, 1, 1, 1, 0, 1]) (by kernel_rfl) ?_
              refine st_region 13 (opsOf (C10 [1, 1, 0, 0, 0, 1, 0, 1, 1, 1, 1, 0, 0])) [0, 1, 2] (by kernel_rfl) (by kernel_rfl) ?_
              refine st_pure tabOK hk [0, 1, 2] [] [0, 4, 5] [(0, S v5), (4, .slice o3 v2.length c4), (5, .int .u8 (w8 (t35)))] (True) (by kernel_rfl) trivial ?_
              clear hk; intro a hk
              refine st_done ?_
              refine st_seq (C10 [1, 1, 0, 0, 0, 1, 0, 1, 1, 1, 1, 0, 1, 0]) (C10 [1, 1, 0, 0, 0, 1, 0, 1, 1, 1, 1, 0, 1, 1]) (by kernel_rfl) ?_
              refine st_region 14 (opsOf (C10 [1, 1, 0, 0, 0, 1, 0, 1, 1, 1, 1, 0, 1, 0])) [0, 1, 2, 3, 4, 5, 6] (by kernel_rfl) (by kernel_rfl) ?_
              refine st_pure tabOK hk [0] [1, 2, 3, 4, 5, 6] [0, 4, 5, 46] [(0, S v5), (4, .slice o3 v2.length c4), (5, .int .u8 (w8 (t35))), (46, .int .u8 (w8 (t35)))] (True) (by kernel_rfl) trivial ?_
              clear hk; intro a hk
              obtain ⟨t37, h38, H⟩ := Option.bind_eq_some_iff.1 H
              refine st_call hk 21 [.int .u8 (w8 (t35))] (some 47) enters21 (by kernel_rfl) (target_alnum.ok  (w8 (t35)) t37 h38 w ) ?_
              clear hk; rintro a u w ⟨rfl, ho'⟩ hk
              replace ho : Ows [] w0 w [.row 2 5 1 (.slice o3 v2.length c4) v2.length (v2.map bV)] := ho.call ho'; clear ho'
              refine st_pure tabOK hk [2] [3, 4, 5, 6] [0, 4, 5, 48] [(0, S v5), (4, .slice o3 v2.length c4), (5, .int .u8 (w8 (t35))), (48, .bool t37)] (True) (by kernel_rfl) trivial ?_
              clear hk; intro a hk
              obtain ⟨m39, HX, H⟩ := Option.bind_eq_some_iff.1 H
              refine cut_ops (fun a w => Kn 70 a [(0, S v5), (4, .slice o3 v2.length c4), (5, .int .u8 (w8 (t35))), (52, .bool m39)] ∧ Ows [] w0 w [.row 2 5 1 (.slice o3 v2.length c4) v2.length (v2.map bV)]) ?_ ?_
              · intro J; clear H; have H := HX; clear HX
                rcases Bool.eq_false_or_eq_true (t37) with h40 | h40
                ·
                  rw [h40] at hk
                  have h41 : t37 = true := h40
                  rw [if_pos h41] at H
                  refine st_pure tabOK hk [3, 4, 5, 6] [] [0, 4, 5, 52] [(0, S v5), (4, .slice o3 v2.length c4), (5, .int .u8 (w8 (t35))), (52, .bool true)] (True) (by kernel_rfl) trivial ?_
                  clear hk; intro a hk
                  refine st_done ?_
                  obtain rfl := Option.some.inj H
                  exact J a w ⟨hk.to [0, 4, 5, 52] _ (by kernel_rfl), ho⟩
                ·
                  rw [h40] at hk
                  have h42 : ¬ (t37 = true) := ne_true_of_eq_false h40
                  rw [if_neg h42] at H
                  refine st_pure tabOK hk [3] [4, 5, 6] [0, 4, 5, 48, 49] [(0, S v5), (4, .slice o3 v2.length c4), (5, .int .u8 (w8 (t35))), (48, .bool false), (49, .int .u8 (w8 (t35)))] (True) (by kernel_rfl) trivial ?_
                  clear hk; intro a hk
                  obtain ⟨t43, h44, H⟩ := Option.bind_eq_some_iff.1 H
                  refine st_call hk 28 [S ([45, 46, 95, 126]), .int .u8 (w8 (t35))] (some 50) enters28 (by kernel_rfl) (strings_IndexByte.ok  ([45, 46, 95, 126]) (w8 (t35)) t43 h44 w ) ?_
                  clear hk; rintro a u w ⟨rfl, ho'⟩ hk
                  replace ho : Ows [] w0 w [.row 2 5 1 (.slice o3 v2.length c4) v2.length (v2.map bV)] := ho.call ho'; clear ho'
                  refine st_pure tabOK hk [5, 6] [] [0, 4, 5, 52] [(0, S v5), (4, .slice o3 v2.length c4), (5, .int .u8 (w8 (t35))), (52, .bool (decide (t43 ≥ 0)))] (True) (by kernel_rfl) trivial ?_
                  clear hk; intro a hk
                  refine st_done ?_
                  obtain rfl := Option.some.inj H
                  exact J a w ⟨hk.to [0, 4, 5, 52] _ (by kernel_rfl), ho⟩
              · clear HX; rintro a w ⟨hk, ho⟩
                obtain ⟨m45, HX, H⟩ := Option.bind_eq_some_iff.1 H
                refine cut_code (fun a w => ∃ (o46 : Option Addr), ∃ (c47 : Nat), Kn 70 a [(0, S v5), (4, .slice o46 m45.length c47)] ∧ Ows [] w0 w [.row 2 5 1 (.slice o46 m45.length c47) m45.length (m45.map bV)]) ?_ ?_
                · intro J; clear H; have H := HX; clear HX
                  refine st_cond hk (C10 [1, 1, 0, 0, 0, 1, 0, 1, 1, 1, 1, 0, 1, 1, 0]) (C10 [1, 1, 0, 0, 0, 1, 0, 1, 1, 1, 1, 0, 1, 1, 1]) (.tmp 52) (m39) (by kernel_rfl) (by kernel_rfl) (fun h48 => ?_) (fun h48 => ?_)
                  ·
                    have h49 : m39 = true := h48
                    rw [if_pos h49] at H
                    refine st_region 15 (opsOf (C10 [1, 1, 0, 0, 0, 1, 0, 1, 1, 1, 1, 0, 1, 1, 0])) [0, 1, 2, 3, 4] (by kernel_rfl) (by kernel_rfl) ?_
                    refine st_pure tabOK hk [0, 1] [2, 3, 4] [0, 53, 54] [(0, S v5), (53, .slice o3 v2.length c4), (54, .int .u8 (w8 (t35)))] (True) (by kernel_rfl) trivial ?_
                    clear hk; intro a hk
                    refine st_lit tabOK hk ho #[.int .u8 (w8 (t35))] 5 1 1 55 (by kernel_rfl) ?_
                    clear hk ho; intro a o50 w h51 hk ho
                    rw [u8_bV (w8 (t35)) (w8_range _).1 (w8_range _).2] at ho
                    replace ho : Ows [] w0 w [.row 0 5 1 (.slice o50 (([(u8 (w8 (t35)))] : List (UInt8)).length) 1) (([(u8 (w8 (t35)))] : List (UInt8)).length) (([(u8 (w8 (t35)))] : List (UInt8)).map bV), .row 2 5 1 (.slice o3 v2.length c4) v2.length (v2.map bV)] := ho
                    replace hk : Kn 70 a [(0, S v5), (53, .slice o3 v2.length c4), (55, .slice o50 (([(u8 (w8 (t35)))] : List (UInt8)).length) 1)] := hk.to [0, 53, 55] _ (by kernel_rfl)
                    have h53 : v2.length + ([(u8 (w8 (t35)))] : List (UInt8)).length ≤ 4294967296 := by
                      by_cases h53 : v2.length + ([(u8 (w8 (t35)))] : List (UInt8)).length ≤ 4294967296
                      · exact h53
                      · rw [if_neg h53] at H; cases H
                    rw [if_pos h53] at H
                    refine st_append tabOK hk ho 1 30 5 1 56 (.int .u8 0) o3 v2.length c4 (v2.map bV) o50 (([(u8 (w8 (t35)))] : List (UInt8)).length) 1 (([(u8 (w8 (t35)))] : List (UInt8)).map bV) (by kernel_rfl) (by kernel_rfl) (by kernel_rfl) (by decide) rfl (by simp) (ho.rd 0 rfl) (one_map (fun _ => rfl) _) h53 ((v2 ++ ([(u8 (w8 (t35)))] : List (UInt8))).length) ((v2 ++ ([(u8 (w8 (t35)))] : List (UInt8))).map bV) (by simp) (by first | rfl | exact (List.map_append ..).symm) ?_
                    clear hk ho; intro a o54 c55 w h56 hk ho
                    replace ho : Ows [] w0 w [.row 0 5 1 (.slice o50 (([(u8 (w8 (t35)))] : List (UInt8)).length) 1) (([(u8 (w8 (t35)))] : List (UInt8)).length) (([(u8 (w8 (t35)))] : List (UInt8)).map bV), .row 2 5 1 (.slice o54 ((v2 ++ ([(u8 (w8 (t35)))] : List (UInt8))).length) c55) ((v2 ++ ([(u8 (w8 (t35)))] : List (UInt8))).length) ((v2 ++ ([(u8 (w8 (t35)))] : List (UInt8))).map bV)] := ho
                    refine st_pure tabOK hk [4] [] [0, 4] [(0, S v5), (4, .slice o54 ((v2 ++ ([(u8 (w8 (t35)))] : List (UInt8))).length) c55)] (True) (by kernel_rfl) trivial ?_
                    clear hk; intro a hk
                    refine st_done ?_
                    replace ho : Ows [] w0 w [.row 2 5 1 (.slice o54 ((v2 ++ ([(u8 (w8 (t35)))] : List (UInt8))).length) c55) ((v2 ++ ([(u8 (w8 (t35)))] : List (UInt8))).length) ((v2 ++ ([(u8 (w8 (t35)))] : List (UInt8))).map bV)] := ho.erase 0
                    obtain rfl := Option.some.inj H
                    exact J a w ⟨o54, c55, hk.to [0, 4] _ (by kernel_rfl), ho⟩
                  ·
                    have h57 : ¬ (m39 = true) := ne_true_of_eq_false h48
                    rw [if_neg h57] at H
                    refine st_draw ho 16 (opsOf (C10 [1, 1, 0, 0, 0, 1, 0, 1, 1, 1, 1, 0, 1, 1, 1])) [0, 1, 2, 3, 4, 5, 6, 7, 8, 9] (by kernel_rfl) (by kernel_rfl) (by kernel_rfl) ?_
                    clear ho; intro w ho
                    have h58 : (0 : Int) ≤ shI .shr .u8 (w8 (t35)) 4 := by
                      by_cases h58 : (0 : Int) ≤ shI .shr .u8 (w8 (t35)) 4
                      · exact h58
                      · rw [if_neg h58] at H; cases H
                    rw [if_pos h58] at H
                    have h59 : shI .shr .u8 (w8 (t35)) 4 < (([48, 49, 50, 51, 52, 53, 54, 55, 56, 57, 65, 66, 67, 68, 69, 70]).length : Int) := by
                      by_cases h59 : shI .shr .u8 (w8 (t35)) 4 < (([48, 49, 50, 51, 52, 53, 54, 55, 56, 57, 65, 66, 67, 68, 69, 70]).length : Int)
                      · exact h59
                      · rw [if_neg h59] at H; cases H
                    rw [if_pos h59] at H
                    have h60 : (0 : Int) ≤ bitI .and .u8 (w8 (t35)) 15 := by
                      by_cases h60 : (0 : Int) ≤ bitI .and .u8 (w8 (t35)) 15
                      · exact h60
                      · rw [if_neg h60] at H; cases H
                    rw [if_pos h60] at H
                    have h61 : bitI .and .u8 (w8 (t35)) 15 < (([48, 49, 50, 51, 52, 53, 54, 55, 56, 57, 65, 66, 67, 68, 69, 70]).length : Int) := by
                      by_cases h61 : bitI .and .u8 (w8 (t35)) 15 < (([48, 49, 50, 51, 52, 53, 54, 55, 56, 57, 65, 66, 67, 68, 69, 70]).length : Int)
                      · exact h61
                      · rw [if_neg h61] at H; cases H
                    rw [if_pos h61] at H
                    refine any_pure tabOK hk [0, 1, 2, 3, 4, 5, 6] [0, 1, 2, 3, 4, 5, 6, 7, 8, 9] [7, 8, 9] [0, 4, 57, 60, 63] [(0, S v5), (4, .slice o3 v2.length c4), (57, .slice o3 v2.length c4), (60, .int .u8 (bt ([48, 49, 50, 51, 52, 53, 54, 55, 56, 57, 65, 66, 67, 68, 69, 70]) (shI .shr .u8 (w8 (t35)) 4))), (63, .int .u8 (bt ([48, 49, 50, 51, 52, 53, 54, 55, 56, 57, 65, 66, 67, 68, 69, 70]) (bitI .and .u8 (w8 (t35)) 15)))] ((0 : Int) ≤ 4 ∧ (((0 : Int) ≤ shI .shr .u8 (w8 (t35)) 4 ∧ shI .shr .u8 (w8 (t35)) 4 < (([48, 49, 50, 51, 52, 53, 54, 55, 56, 57, 65, 66, 67, 68, 69, 70]).length : Int)) ∧ (((0 : Int) ≤ bitI .and .u8 (w8 (t35)) 15 ∧ bitI .and .u8 (w8 (t35)) 15 < (([48, 49, 50, 51, 52, 53, 54, 55, 56, 57, 65, 66, 67, 68, 69, 70]).length : Int)) ∧ True))) (by kernel_rfl) (by kernel_rfl) (by kernel_rfl) ⟨(by decide), ⟨⟨h58, h59⟩, ⟨⟨h60, h61⟩, trivial⟩⟩⟩ ?_
                    clear hk; intro a hk
                    refine any_all [7] (by kernel_rfl) (by decide) ⟨?_, trivial⟩
                    change wpOps _ _ _ [7] _ _
                    refine st_lit tabOK hk ho #[.int .u8 37, .int .u8 (bt ([48, 49, 50, 51, 52, 53, 54, 55, 56, 57, 65, 66, 67, 68, 69, 70]) (shI .shr .u8 (w8 (t35)) 4)), .int .u8 (bt ([48, 49, 50, 51, 52, 53, 54, 55, 56, 57, 65, 66, 67, 68, 69, 70]) (bitI .and .u8 (w8 (t35)) 15))] 5 1 3 64 (by kernel_rfl) ?_
                    clear hk ho; intro a o62 w h63 hk ho
                    rw [u8_bV 37 (by decide) (by decide)] at ho
                    rw [u8_bV (bt ([48, 49, 50, 51, 52, 53, 54, 55, 56, 57, 65, 66, 67, 68, 69, 70]) (shI .shr .u8 (w8 (t35)) 4)) (bt_lo _ _) (bt_hi _ _)] at ho
                    rw [u8_bV (bt ([48, 49, 50, 51, 52, 53, 54, 55, 56, 57, 65, 66, 67, 68, 69, 70]) (bitI .and .u8 (w8 (t35)) 15)) (bt_lo _ _) (bt_hi _ _)] at ho
                    replace ho : Ows [] w0 w [.row 0 5 1 (.slice o62 (([(u8 37), (u8 (bt ([48, 49, 50, 51, 52, 53, 54, 55, 56, 57, 65, 66, 67, 68, 69, 70]) (shI .shr .u8 (w8 (t35)) 4))), (u8 (bt ([48, 49, 50, 51, 52, 53, 54, 55, 56, 57, 65, 66, 67, 68, 69, 70]) (bitI .and .u8 (w8 (t35)) 15)))] : List (UInt8)).length) 3) (([(u8 37), (u8 (bt ([48, 49, 50, 51, 52, 53, 54, 55, 56, 57, 65, 66, 67, 68, 69, 70]) (shI .shr .u8 (w8 (t35)) 4))), (u8 (bt ([48, 49, 50, 51, 52, 53, 54, 55, 56, 57, 65, 66, 67, 68, 69, 70]) (bitI .and .u8 (w8 (t35)) 15)))] : List (UInt8)).length) (([(u8 37), (u8 (bt ([48, 49, 50, 51, 52, 53, 54, 55, 56, 57, 65, 66, 67, 68, 69, 70]) (shI .shr .u8 (w8 (t35)) 4))), (u8 (bt ([48, 49, 50, 51, 52, 53, 54, 55, 56, 57, 65, 66, 67, 68, 69, 70]) (bitI .and .u8 (w8 (t35)) 15)))] : List (UInt8)).map bV), .row 2 5 1 (.slice o3 v2.length c4) v2.length (v2.map bV)] := ho
                    replace hk : Kn 70 a [(0, S v5), (4, .slice o3 v2.length c4), (57, .slice o3 v2.length c4), (64, .slice o62 (([(u8 37), (u8 (bt ([48, 49, 50, 51, 52, 53, 54, 55, 56, 57, 65, 66, 67, 68, 69, 70]) (shI .shr .u8 (w8 (t35)) 4))), (u8 (bt ([48, 49, 50, 51, 52, 53, 54, 55, 56, 57, 65, 66, 67, 68, 69, 70]) (bitI .and .u8 (w8 (t35)) 15)))] : List (UInt8)).length) 3)] := hk.to [0, 4, 57, 64] _ (by kernel_rfl)
                    refine any_go [8, 9] (by kernel_rfl) ?_
                    refine any_all [8] (by kernel_rfl) (by decide) ⟨?_, trivial⟩
                    change wpOps _ _ _ [8] _ _
                    have h65 : v2.length + ([(u8 37), (u8 (bt ([48, 49, 50, 51, 52, 53, 54, 55, 56, 57, 65, 66, 67, 68, 69, 70]) (shI .shr .u8 (w8 (t35)) 4))), (u8 (bt ([48, 49, 50, 51, 52, 53, 54, 55, 56, 57, 65, 66, 67, 68, 69, 70]) (bitI .and .u8 (w8 (t35)) 15)))] : List (UInt8)).length ≤ 4294967296 := by
                      by_cases h65 : v2.length + ([(u8 37), (u8 (bt ([48, 49, 50, 51, 52, 53, 54, 55, 56, 57, 65, 66, 67, 68, 69, 70]) (shI .shr .u8 (w8 (t35)) 4))), (u8 (bt ([48, 49, 50, 51, 52, 53, 54, 55, 56, 57, 65, 66, 67, 68, 69, 70]) (bitI .and .u8 (w8 (t35)) 15)))] : List (UInt8)).length ≤ 4294967296
                      · exact h65
                      · rw [if_neg h65] at H; cases H
                    rw [if_pos h65] at H
                    refine st_append tabOK hk ho 1 30 5 1 65 (.int .u8 0) o3 v2.length c4 (v2.map bV) o62 (([(u8 37), (u8 (bt ([48, 49, 50, 51, 52, 53, 54, 55, 56, 57, 65, 66, 67, 68, 69, 70]) (shI .shr .u8 (w8 (t35)) 4))), (u8 (bt ([48, 49, 50, 51, 52, 53, 54, 55, 56, 57, 65, 66, 67, 68, 69, 70]) (bitI .and .u8 (w8 (t35)) 15)))] : List (UInt8)).length) 3 (([(u8 37), (u8 (bt ([48, 49, 50, 51, 52, 53, 54, 55, 56, 57, 65, 66, 67, 68, 69, 70]) (shI .shr .u8 (w8 (t35)) 4))), (u8 (bt ([48, 49, 50, 51, 52, 53, 54, 55, 56, 57, 65, 66, 67, 68, 69, 70]) (bitI .and .u8 (w8 (t35)) 15)))] : List (UInt8)).map bV) (by kernel_rfl) (by kernel_rfl) (by kernel_rfl) (by decide) rfl (by simp) (ho.rd 0 rfl) (one_map (fun _ => rfl) _) h65 ((v2 ++ ([(u8 37), (u8 (bt ([48, 49, 50, 51, 52, 53, 54, 55, 56, 57, 65, 66, 67, 68, 69, 70]) (shI .shr .u8 (w8 (t35)) 4))), (u8 (bt ([48, 49, 50, 51, 52, 53, 54, 55, 56, 57, 65, 66, 67, 68, 69, 70]) (bitI .and .u8 (w8 (t35)) 15)))] : List (UInt8))).length) ((v2 ++ ([(u8 37), (u8 (bt ([48, 49, 50, 51, 52, 53, 54, 55, 56, 57, 65, 66, 67, 68, 69, 70]) (shI .shr .u8 (w8 (t35)) 4))), (u8 (bt ([48, 49, 50, 51, 52, 53, 54, 55, 56, 57, 65, 66, 67, 68, 69, 70]) (bitI .and .u8 (w8 (t35)) 15)))] : List (UInt8))).map bV) (by simp) (by first | rfl | exact (List.map_append ..).symm) ?_
                    clear hk ho; intro a o66 c67 w h68 hk ho
                    replace ho : Ows [] w0 w [.row 0 5 1 (.slice o62 (([(u8 37), (u8 (bt ([48, 49, 50, 51, 52, 53, 54, 55, 56, 57, 65, 66, 67, 68, 69, 70]) (shI .shr .u8 (w8 (t35)) 4))), (u8 (bt ([48, 49, 50, 51, 52, 53, 54, 55, 56, 57, 65, 66, 67, 68, 69, 70]) (bitI .and .u8 (w8 (t35)) 15)))] : List (UInt8)).length) 3) (([(u8 37), (u8 (bt ([48, 49, 50, 51, 52, 53, 54, 55, 56, 57, 65, 66, 67, 68, 69, 70]) (shI .shr .u8 (w8 (t35)) 4))), (u8 (bt ([48, 49, 50, 51, 52, 53, 54, 55, 56, 57, 65, 66, 67, 68, 69, 70]) (bitI .and .u8 (w8 (t35)) 15)))] : List (UInt8)).length) (([(u8 37), (u8 (bt ([48, 49, 50, 51, 52, 53, 54, 55, 56, 57, 65, 66, 67, 68, 69, 70]) (shI .shr .u8 (w8 (t35)) 4))), (u8 (bt ([48, 49, 50, 51, 52, 53, 54, 55, 56, 57, 65, 66, 67, 68, 69, 70]) (bitI .and .u8 (w8 (t35)) 15)))] : List (UInt8)).map bV), .row 2 5 1 (.slice o66 ((v2 ++ ([(u8 37), (u8 (bt ([48, 49, 50, 51, 52, 53, 54, 55, 56, 57, 65, 66, 67, 68, 69, 70]) (shI .shr .u8 (w8 (t35)) 4))), (u8 (bt ([48, 49, 50, 51, 52, 53, 54, 55, 56, 57, 65, 66, 67, 68, 69, 70]) (bitI .and .u8 (w8 (t35)) 15)))] : List (UInt8))).length) c67) ((v2 ++ ([(u8 37), (u8 (bt ([48, 49, 50, 51, 52, 53, 54, 55, 56, 57, 65, 66, 67, 68, 69, 70]) (shI .shr .u8 (w8 (t35)) 4))), (u8 (bt ([48, 49, 50, 51, 52, 53, 54, 55, 56, 57, 65, 66, 67, 68, 69, 70]) (bitI .and .u8 (w8 (t35)) 15)))] : List (UInt8))).length) ((v2 ++ ([(u8 37), (u8 (bt ([48, 49, 50, 51, 52, 53, 54, 55, 56, 57, 65, 66, 67, 68, 69, 70]) (shI .shr .u8 (w8 (t35)) 4))), (u8 (bt ([48, 49, 50, 51, 52, 53, 54, 55, 56, 57, 65, 66, 67, 68, 69, 70]) (bitI .and .u8 (w8 (t35)) 15)))] : List (UInt8))).map bV)] := ho
                    refine any_go [9] (by kernel_rfl) ?_
                    refine any_pure tabOK hk [9] [9] [] [0, 4] [(0, S v5), (4, .slice o66 ((v2 ++ ([(u8 37), (u8 (bt ([48, 49, 50, 51, 52, 53, 54, 55, 56, 57, 65, 66, 67, 68, 69, 70]) (shI .shr .u8 (w8 (t35)) 4))), (u8 (bt ([48, 49, 50, 51, 52, 53, 54, 55, 56, 57, 65, 66, 67, 68, 69, 70]) (bitI .and .u8 (w8 (t35)) 15)))] : List (UInt8))).length) c67)] (True) (by kernel_rfl) (by kernel_rfl) (by kernel_rfl) trivial ?_
                    clear hk; intro a hk
                    refine any_end ?_
                    replace ho : Ows [] w0 w [.row 2 5 1 (.slice o66 ((v2 ++ ([(u8 37), (u8 (bt ([48, 49, 50, 51, 52, 53, 54, 55, 56, 57, 65, 66, 67, 68, 69, 70]) (shI .shr .u8 (w8 (t35)) 4))), (u8 (bt ([48, 49, 50, 51, 52, 53, 54, 55, 56, 57, 65, 66, 67, 68, 69, 70]) (bitI .and .u8 (w8 (t35)) 15)))] : List (UInt8))).length) c67) ((v2 ++ ([(u8 37), (u8 (bt ([48, 49, 50, 51, 52, 53, 54, 55, 56, 57, 65, 66, 67, 68, 69, 70]) (shI .shr .u8 (w8 (t35)) 4))), (u8 (bt ([48, 49, 50, 51, 52, 53, 54, 55, 56, 57, 65, 66, 67, 68, 69, 70]) (bitI .and .u8 (w8 (t35)) 15)))] : List (UInt8))).length) ((v2 ++ ([(u8 37), (u8 (bt ([48, 49, 50, 51, 52, 53, 54, 55, 56, 57, 65, 66, 67, 68, 69, 70]) (shI .shr .u8 (w8 (t35)) 4))), (u8 (bt ([48, 49, 50, 51, 52, 53, 54, 55, 56, 57, 65, 66, 67, 68, 69, 70]) (bitI .and .u8 (w8 (t35)) 15)))] : List (UInt8))).map bV)] := ho.erase 0
                    obtain rfl := Option.some.inj H
                    exact J a w ⟨o66, c67, hk.to [0, 4] _ (by kernel_rfl), ho⟩
                · clear HX; rintro a w ⟨o46, c47, hk, ho⟩
                  refine st_region 17 (opsOf (C10 [1, 1, 0, 0, 0, 1, 0, 1, 1, 1, 1, 1])) [0, 1, 2] (by kernel_rfl) (by kernel_rfl) ?_
                  refine st_pure tabOK hk [0, 1, 2] [] [0, 4] [(0, S (v5.drop 3)), (4, .slice o46 m45.length c47)] (((0 : Int) ≤ 3 ∧ 3 ≤ (v5.length : Int)) ∧ True) (by kernel_rfl) ⟨⟨(by decide), h34⟩, trivial⟩ ?_
                  clear hk; intro a hk
                  refine st_done ?_
                  refine st_endb 1 ?_
                  refine st_inl ?_
                  exact ih m45 (v5.drop 3) out H o46 c47 w0 Q rest a w  (hk.to [0, 4] _ (by kernel_rfl)) ho J R
    ·
      have h69 : ¬ ((!(v5 == ([]))) = true) := ne_true_of_eq_false h8
      rw [if_neg h69] at H
      refine st_exit 0 _ (by kernel_rfl) rfl ?_
      obtain rfl := Option.some.inj H
      exact J v2 o3 c4 a w rfl (hk.to [4] _ (by kernel_rfl)) ho

theorem target_Percent.ok (K : Nat) (p0 : Str) (r : Str × Int) (H : target_Percent.f K p0 = some r) (w0 : World)  : Calls Tryd.prog 10 ⟨[S p0]⟩ w0 fun e w => ∃ u, e = .returned u ∧ target_Percent.post w0 r u w := by
  unfold target_Percent.f at H
  refine st_start (N := 70) [S p0] (C10 []) func10 (by kernel_rfl) (by kernel_rfl) (by kernel_rfl) ?_
  intro a w hk ho
  refine st_seq (C10 [0]) (C10 [1]) (by kernel_rfl) ?_
  refine st_region 0 (opsOf (C10 [0])) [0, 1] (by kernel_rfl) (by kernel_rfl) ?_
  refine st_pure tabOK hk [0, 1] [] [0] [(0, S p0)] (True) (by kernel_rfl) trivial ?_
  clear hk; intro a hk
  refine st_done ?_
  refine st_seq (C10 [1, 0]) (C10 [1, 1]) (by kernel_rfl) ?_
  refine st_region 1 (opsOf (C10 [1, 0])) [0] (by kernel_rfl) (by kernel_rfl) ?_
  refine st_pure tabOK hk [0] [] [0, 4] [(0, S p0), (4, .slice none 0 0)] (True) (by kernel_rfl) trivial ?_
  clear hk; intro a hk
  refine st_done ?_
  refine st_seq (C10 [1, 1, 0]) (C10 [1, 1, 1]) (by kernel_rfl) ?_
  refine st_block 0 (C10 [1, 1, 0, 0]) (by kernel_rfl) ?_
  replace ho := ho.nilRow 2 5 1
  obtain ⟨m70, h71, H⟩ := Option.bind_eq_some_iff.1 H
  refine st_loop (C10 [1, 1, 0, 0, 0]) (by kernel_rfl) ?_
  refine target_Percent.l0_ok K K ([] : List UInt8) p0 m70 h71 none 0 w0 _ _ a w  (hk.to [0, 4] _ (by kernel_rfl)) ho ?_ ?_
  · intro s72 o73 c74 a w e hk ho; subst e
    simp only [] at H
    refine st_seq (C10 [1, 1, 1, 0]) (C10 [1, 1, 1, 1]) (by kernel_rfl) ?_
    refine st_region 18 (opsOf (C10 [1, 1, 1, 0])) [0, 1, 2, 3] (by kernel_rfl) (by kernel_rfl) ?_
    refine st_pure tabOK hk [0] [1, 2, 3] [68] [(68, .slice o73 s72.length c74)] (True) (by kernel_rfl) trivial ?_
    clear hk; intro a hk
    refine st_string tabOK hk 30 9 5 69 o73 s72.length c74 s72 (by kernel_rfl) (by kernel_rfl) (by kernel_rfl) (by kernel_rfl) rfl (ho.rd 0 rfl) ?_
    clear hk; intro a hk
    refine st_pure tabOK hk [2, 3] [] [2, 3] [(2, S s72), (3, I 0)] (True) (by kernel_rfl) trivial ?_
    clear hk; intro a hk
    refine st_done ?_
    replace ho : Ows [] w0 w [] := ho.erase 0
    refine st_retG hk (by kernel_rfl) [S s72, I 0] #[.tmp 2, .tmp 3] (by kernel_rfl) ⟨resT hk (by kernel_rfl), resT hk (by kernel_rfl), trivial⟩ ?_
    obtain rfl := Option.some.inj H
    exact ⟨_, rfl, rfl, ho⟩
  · intro r75  a w e hk ho; subst e
    simp only [] at H
    refine retG hk [S r75.1, I r75.2] #[.tmp 2, .tmp 3] (by kernel_rfl) ⟨resT hk (by kernel_rfl), resT hk (by kernel_rfl), trivial⟩ ?_
    obtain rfl := Option.some.inj H
    exact ⟨_, rfl, rfl, ho⟩


/-! internal/stringslite.HasPrefix: function 66 -/
noncomputable def C66 (p : List Nat) : Code := Sub (bodyOf f66) p
def stringslite_HasPrefix.f (p0 : Str) (p1 : Str) : Option (Bool) := ((((if (p0.length : Int) ≥ (p1.length : Int) then (if (p1.length : Int) ≤ (p0.length : Int) then some ((p0.take (p1.length : Int).toNat) == p1) else none) else some false)).bind fun m1 => some m1))
abbrev stringslite_HasPrefix.post (w0 : World) (r : Bool) (u : Value) (w : World) : Prop := u = .bool r ∧ Ows [] w0 w []
theorem stringslite_HasPrefix.ok (p0 : Str) (p1 : Str) (r : Bool) (H : stringslite_HasPrefix.f p0 p1 = some r) (w0 : World)  : Calls Tryd.prog 66 ⟨[S p0, S p1]⟩ w0 fun e w => ∃ u, e = .returned u ∧ stringslite_HasPrefix.post w0 r u w := by
  unfold stringslite_HasPrefix.f at H
  refine st_start (N := 18) [S p0, S p1] (C66 []) func66 (by kernel_rfl) (by kernel_rfl) (by kernel_rfl) ?_
  intro a w hk ho
  refine st_seq (C66 [0]) (C66 [1]) (by kernel_rfl) ?_
  refine st_region 0 (opsOf (C66 [0])) [0] (by kernel_rfl) (by kernel_rfl) ?_
  refine st_pure tabOK hk [0] [] [0, 1] [(0, S p0), (1, S p1)] (True) (by kernel_rfl) trivial ?_
  clear hk; intro a hk
  refine st_done ?_
  refine st_seq (C66 [1, 0]) (C66 [1, 1]) (by kernel_rfl) ?_
  refine st_region 1 (opsOf (C66 [1, 0])) [0, 1, 2, 3, 4, 5, 6, 7, 8, 9, 10, 11, 12, 13] (by kernel_rfl) (by kernel_rfl) ?_
  refine st_pure tabOK hk [0, 1, 2, 3, 4, 5] [6, 7, 8, 9, 10, 11, 12, 13] [0, 1, 10] [(0, S p0), (1, S p1), (10, .bool (decide ((p0.length : Int) ≥ (p1.length : Int))))] (True) (by kernel_rfl) trivial ?_
  clear hk; intro a hk
  obtain ⟨m1, HX, H⟩ := Option.bind_eq_some_iff.1 H
  refine cut_ops (fun a w => Kn 18 a [(4, .bool m1)] ∧ Ows [] w0 w []) ?_ ?_
  · intro J; clear H; have H := HX; clear HX
    rcases Bool.eq_false_or_eq_true (decide ((p0.length : Int) ≥ (p1.length : Int))) with h2 | h2
    ·
      rw [h2] at hk
      have h3 : (p0.length : Int) ≥ (p1.length : Int) := of_decide_eq_true h2
      rw [if_pos h3] at H
      have h4 : (p1.length : Int) ≤ (p0.length : Int) := by
        by_cases h4 : (p1.length : Int) ≤ (p0.length : Int)
        · exact h4
        · rw [if_neg h4] at H; cases H
      rw [if_pos h4] at H
      refine st_pure tabOK hk [6, 7, 8, 9, 10, 11, 12, 13] [] [4] [(4, .bool ((p0.take (p1.length : Int).toNat) == p1))] (((0 : Int) ≤ (p1.length : Int) ∧ (p1.length : Int) ≤ (p0.length : Int)) ∧ True) (by kernel_rfl) ⟨⟨(Int.natCast_nonneg _), h4⟩, trivial⟩ ?_
      clear hk; intro a hk
      refine st_done ?_
      obtain rfl := Option.some.inj H
      exact J a w ⟨hk.to [4] _ (by kernel_rfl), ho⟩
    ·
      rw [h2] at hk
      have h5 : ¬ ((p0.length : Int) ≥ (p1.length : Int)) := of_decide_eq_false h2
      rw [if_neg h5] at H
      refine st_pure tabOK hk [6, 7, 8, 9, 10, 11, 12, 13] [] [4] [(4, .bool false)] (True) (by kernel_rfl) trivial ?_
      clear hk; intro a hk
      refine st_done ?_
      obtain rfl := Option.some.inj H
      exact J a w ⟨hk.to [4] _ (by kernel_rfl), ho⟩
  · clear HX; rintro a w ⟨hk, ho⟩
    refine st_retG hk (by kernel_rfl) [.bool m1] #[.tmp 4] (by kernel_rfl) ⟨resT hk (by kernel_rfl), trivial⟩ ?_
    obtain rfl := Option.some.inj H
    exact ⟨_, rfl, rfl, ho⟩


/-! internal/stringslite.CutPrefix: function 47 -/
noncomputable def C47 (p : List Nat) : Code := Sub (bodyOf f47) p
def stringslite_CutPrefix.f (p0 : Str) (p1 : Str) : Option (Str × Bool) := (((stringslite_HasPrefix.f p0 p1).bind fun t1 => (if (!t1) = true then some (p0, false) else (if (p1.length : Int) ≤ (p0.length : Int) then some (p0.drop (p1.length : Int).toNat, true) else none))))
abbrev stringslite_CutPrefix.post (w0 : World) (r : Str × Bool) (u : Value) (w : World) : Prop := u = .tuple #[S r.1, .bool r.2] ∧ Ows [] w0 w []
theorem stringslite_CutPrefix.ok (p0 : Str) (p1 : Str) (r : Str × Bool) (H : stringslite_CutPrefix.f p0 p1 = some r) (w0 : World)  : Calls Tryd.prog 47 ⟨[S p0, S p1]⟩ w0 fun e w => ∃ u, e = .returned u ∧ stringslite_CutPrefix.post w0 r u w := by
  unfold stringslite_CutPrefix.f at H
  refine st_start (N := 15) [S p0, S p1] (C47 []) func47 (by kernel_rfl) (by kernel_rfl) (by kernel_rfl) ?_
  intro a w hk ho
  refine st_seq (C47 [0]) (C47 [1]) (by kernel_rfl) ?_
  refine st_region 0 (opsOf (C47 [0])) [0, 1] (by kernel_rfl) (by kernel_rfl) ?_
  refine st_pure tabOK hk [0, 1] [] [0, 1] [(0, S p0), (1, S p1)] (True) (by kernel_rfl) trivial ?_
  clear hk; intro a hk
  refine st_done ?_
  refine st_seq (C47 [1, 0]) (C47 [1, 1]) (by kernel_rfl) ?_
  refine st_seq (C47 [1, 0, 0]) (C47 [1, 0, 1]) (by kernel_rfl) ?_
  refine st_region 1 (opsOf (C47 [1, 0, 0])) [0, 1, 2, 3] (by kernel_rfl) (by kernel_rfl) ?_
  refine st_pure tabOK hk [0, 1] [2, 3] [0, 1, 6, 7] [(0, S p0), (1, S p1), (6, S p0), (7, S p1)] (True) (by kernel_rfl) trivial ?_
  clear hk; intro a hk
  obtain ⟨t1, h2, H⟩ := Option.bind_eq_some_iff.1 H
  refine st_call hk 66 [S p0, S p1] (some 8) enters66 (by kernel_rfl) (stringslite_HasPrefix.ok  p0 p1 t1 h2 w ) ?_
  clear hk; rintro a u w ⟨rfl, ho'⟩ hk
  replace ho : Ows [] w0 w [] := ho.call ho'; clear ho'
  refine st_pure tabOK hk [3] [] [0, 1, 9] [(0, S p0), (1, S p1), (9, .bool (!t1))] (True) (by kernel_rfl) trivial ?_
  clear hk; intro a hk
  refine st_done ?_
  refine st_cond hk (C47 [1, 0, 1, 0]) (C47 [1, 0, 1, 1]) (.tmp 9) (!t1) (by kernel_rfl) (by kernel_rfl) (fun h3 => ?_) (fun h3 => ?_)
  ·
    have h4 : (!t1) = true := h3
    rw [if_pos h4] at H
    refine st_seq (C47 [1, 0, 1, 0, 0]) (C47 [1, 0, 1, 0, 1]) (by kernel_rfl) ?_
    refine st_region 2 (opsOf (C47 [1, 0, 1, 0, 0])) [0, 1, 2] (by kernel_rfl) (by kernel_rfl) ?_
    refine st_pure tabOK hk [0, 1, 2] [] [4, 5] [(4, S p0), (5, .bool false)] (True) (by kernel_rfl) trivial ?_
    clear hk; intro a hk
    refine st_done ?_
    refine st_retG hk (by kernel_rfl) [S p0, .bool false] #[.tmp 4, .tmp 5] (by kernel_rfl) ⟨resT hk (by kernel_rfl), resT hk (by kernel_rfl), trivial⟩ ?_
    obtain rfl := Option.some.inj H
    exact ⟨_, rfl, rfl, ho⟩
  ·
    have h5 : ¬ ((!t1) = true) := ne_true_of_eq_false h3
    rw [if_neg h5] at H
    refine st_skip (by kernel_rfl) ?_
    refine st_seq (C47 [1, 1, 0]) (C47 [1, 1, 1]) (by kernel_rfl) ?_
    refine st_region 3 (opsOf (C47 [1, 1, 0])) [0, 1, 2, 3, 4, 5] (by kernel_rfl) (by kernel_rfl) ?_
    have h6 : (p1.length : Int) ≤ (p0.length : Int) := by
      by_cases h6 : (p1.length : Int) ≤ (p0.length : Int)
      · exact h6
      · rw [if_neg h6] at H; cases H
    rw [if_pos h6] at H
    refine st_pure tabOK hk [0, 1, 2, 3, 4, 5] [] [4, 5] [(4, S (p0.drop (p1.length : Int).toNat)), (5, .bool true)] (((0 : Int) ≤ (p1.length : Int) ∧ (p1.length : Int) ≤ (p0.length : Int)) ∧ True) (by kernel_rfl) ⟨⟨(Int.natCast_nonneg _), h6⟩, trivial⟩ ?_
    clear hk; intro a hk
    refine st_done ?_
    refine st_retG hk (by kernel_rfl) [S (p0.drop (p1.length : Int).toNat), .bool true] #[.tmp 4, .tmp 5] (by kernel_rfl) ⟨resT hk (by kernel_rfl), resT hk (by kernel_rfl), trivial⟩ ?_
    obtain rfl := Option.some.inj H
    exact ⟨_, rfl, rfl, ho⟩


/-! strings.CutPrefix: function 32 -/
noncomputable def C32 (p : List Nat) : Code := Sub (bodyOf f32) p
def strings_CutPrefix.f (p0 : Str) (p1 : Str) : Option (Str × Bool) := (((stringslite_CutPrefix.f p0 p1).bind fun t1 => some (t1.1, t1.2)))
abbrev strings_CutPrefix.post (w0 : World) (r : Str × Bool) (u : Value) (w : World) : Prop := u = .tuple #[S r.1, .bool r.2] ∧ Ows [] w0 w []
theorem strings_CutPrefix.ok (p0 : Str) (p1 : Str) (r : Str × Bool) (H : strings_CutPrefix.f p0 p1 = some r) (w0 : World)  : Calls Tryd.prog 32 ⟨[S p0, S p1]⟩ w0 fun e w => ∃ u, e = .returned u ∧ strings_CutPrefix.post w0 r u w := by
  unfold strings_CutPrefix.f at H
  refine st_start (N := 11) [S p0, S p1] (C32 []) func32 (by kernel_rfl) (by kernel_rfl) (by kernel_rfl) ?_
  intro a w hk ho
  refine st_seq (C32 [0]) (C32 [1]) (by kernel_rfl) ?_
  refine st_region 0 (opsOf (C32 [0])) [0, 1] (by kernel_rfl) (by kernel_rfl) ?_
  refine st_pure tabOK hk [0, 1] [] [0, 1] [(0, S p0), (1, S p1)] (True) (by kernel_rfl) trivial ?_
  clear hk; intro a hk
  refine st_done ?_
  refine st_seq (C32 [1, 0]) (C32 [1, 1]) (by kernel_rfl) ?_
  refine st_region 1 (opsOf (C32 [1, 0])) [0, 1, 2, 3, 4, 5, 6] (by kernel_rfl) (by kernel_rfl) ?_
  refine st_pure tabOK hk [0, 1] [2, 3, 4, 5, 6] [6, 7] [(6, S p0), (7, S p1)] (True) (by kernel_rfl) trivial ?_
  clear hk; intro a hk
  obtain ⟨t1, h2, H⟩ := Option.bind_eq_some_iff.1 H
  refine st_call hk 47 [S p0, S p1] (some 8) enters47 (by kernel_rfl) (stringslite_CutPrefix.ok  p0 p1 t1 h2 w ) ?_
  clear hk; rintro a u w ⟨rfl, ho'⟩ hk
  replace ho : Ows [] w0 w [] := ho.call ho'; clear ho'
  refine st_pure tabOK hk [3, 4, 5, 6] [] [4, 5] [(4, S t1.1), (5, .bool t1.2)] (True) (by kernel_rfl) trivial ?_
  clear hk; intro a hk
  refine st_done ?_
  refine st_retG hk (by kernel_rfl) [S t1.1, .bool t1.2] #[.tmp 4, .tmp 5] (by kernel_rfl) ⟨resT hk (by kernel_rfl), resT hk (by kernel_rfl), trivial⟩ ?_
  obtain rfl := Option.some.inj H
  exact ⟨_, rfl, rfl, ho⟩


/-! (*strings.Builder).copyCheck: function 68 -/
noncomputable def C68 (p : List Nat) : Code := Sub (bodyOf f68) p
def strings_Builder_copyCheck_pnsn.f  : Option (Unit) := some ()
abbrev strings_Builder_copyCheck_pnsn.post (b1 : Nat) (w0 : World) (r : Unit) (u : Value) (w : World) : Prop := u = .tuple #[] ∧ Ows [b1] w0 w [.blk b1 (.cells #[.pointer (some ⟨b1, 0, none⟩), .slice none 0 0] 64 (0, 0))]
theorem strings_Builder_copyCheck_pnsn.ok  (r : Unit) (H : strings_Builder_copyCheck_pnsn.f  = some r) (w0 : World) (b1 : Nat) (hh : Has w0 [.blk b1 (.cells #[.pointer none, .slice none 0 0] 64 (0, 0))]) : Calls Tryd.prog 68 ⟨[.pointer (some ⟨b1, 0, none⟩)]⟩ w0 fun e w => ∃ u, e = .returned u ∧ strings_Builder_copyCheck_pnsn.post b1 w0 r u w := by
  unfold strings_Builder_copyCheck_pnsn.f at H
  refine st_startL (N := 20) [.pointer (some ⟨b1, 0, none⟩)] (C68 []) func68 (by kernel_rfl) (by kernel_rfl) (by kernel_rfl) ([.blk b1 (.cells #[.pointer none, .slice none 0 0] 64 (0, 0))]) hh ?_
  intro a w hk ho
  replace ho : Ows [b1] w0 w [.blk b1 (.cells #[.pointer none, .slice none 0 0] 64 (0, 0))] := ho
  refine st_seq (C68 [0]) (C68 [1]) (by kernel_rfl) ?_
  refine st_region 0 (opsOf (C68 [0])) [0, 1, 2, 3, 4] (by kernel_rfl) (by kernel_rfl) ?_
  refine st_pure tabOK hk [0, 1, 2] [3, 4] [0, 4] [(0, .pointer (some ⟨b1, 0, none⟩)), (4, .pointer (some ⟨b1, 0, none⟩))] (((some ⟨b1, 0, none⟩ : Option Addr).isSome = true) ∧ (((some ⟨b1, 0, none⟩ : Option Addr).isSome = true) ∧ True)) (by kernel_rfl) ⟨rfl, ⟨rfl, trivial⟩⟩ ?_
  clear hk; intro a hk
  refine st_load1 tabOK hk 62 (some ⟨b1, 0, none⟩) 5 (by kernel_rfl) (by kernel_rfl) (.pointer none) (ho.cell 0 rfl rfl) ?_
  clear hk; intro a hk
  refine st_pure tabOK hk [4] [] [0, 6] [(0, .pointer (some ⟨b1, 0, none⟩)), (6, .bool true)] (True) (by kernel_rfl) trivial ?_
  clear hk; intro a hk
  refine st_done ?_
  refine st_cond_true hk (C68 [1, 0]) (C68 [1, 1]) (.tmp 6) (by kernel_rfl) (by kernel_rfl) ?_
  refine st_region 1 (opsOf (C68 [1, 0])) [0, 1, 2, 3, 4, 5, 6, 7] (by kernel_rfl) (by kernel_rfl) ?_
  refine st_pure tabOK hk [0, 1] [2, 3, 4, 5, 6, 7] [7, 8] [(7, .pointer (some ⟨b1, 0, none⟩)), (8, .pointer (some ⟨b1, 0, none⟩))] (True) (by kernel_rfl) trivial ?_
  clear hk; intro a hk
  refine st_toU hk ho 0 62 90 64 9 b1 0 64 #[.pointer none, .slice none 0 0] (by kernel_rfl) (by kernel_rfl) (by kernel_rfl) (by rw [show ((Tryd.prog.info? 64).map (·.size)).getD 0 = 2 from by kernel_rfl]; decide) rfl (by kernel_rfl) ?_
  clear hk; intro a hk
  refine st_ext hk 75 [.pointer (some ⟨b1, 0, none⟩)] 10 ext75 (by kernel_rfl) (same_run _ _) ?_
  clear hk; intro a hk
  refine st_fromU hk ho 0 90 62 64 11 b1 0 64 2 #[.pointer none, .slice none 0 0] (by kernel_rfl) (by kernel_rfl) (by kernel_rfl) (by kernel_rfl) rfl (by kernel_rfl) (by kernel_rfl) ?_
  clear hk; intro a hk
  refine st_pure tabOK hk [5, 6] [7] [11, 13] [(11, .pointer (some ⟨b1, 0, none⟩)), (13, .pointer (some ⟨b1, 0, none⟩))] (((some ⟨b1, 0, none⟩ : Option Addr).isSome = true) ∧ (((some ⟨b1, 0, none⟩ : Option Addr).isSome = true) ∧ True)) (by kernel_rfl) ⟨rfl, ⟨rfl, trivial⟩⟩ ?_
  clear hk; intro a hk
  refine st_put1 hk ho 0 62 b1 0 (.pointer (some ⟨b1, 0, none⟩)) #[.pointer none, .slice none 0 0] 64 [.blk b1 (.cells #[.pointer (some ⟨b1, 0, none⟩), .slice none 0 0] 64 (0, 0))] (by kernel_rfl) (by kernel_rfl) (by kernel_rfl) rfl (by kernel_rfl) (by kernel_rfl) rfl ?_
  clear ho; intro w ho
  refine st_done ?_
  refine st_endK hk [] #[] (by kernel_rfl) (by kernel_rfl) ?_
  obtain rfl := Option.some.inj H
  exact ⟨_, rfl, rfl, ho⟩


/-! (*strings.Builder).grow: function 69 -/
noncomputable def C69 (p : List Nat) : Code := Sub (bodyOf f69) p
def strings_Builder_grow_ps0sn.f (p1 : Int) : Option (List UInt8) := (if (0 : Int) < w64 ((0 : Int) + p1) then (if w64 ((0 : Int) + p1) ≤ 4294967296 then some ([] : List UInt8) else none) else none)
abbrev strings_Builder_grow_ps0sn.post (b1 : Nat) (w0 : World) (r : List UInt8) (u : Value) (w : World) : Prop := ∃ (o19 : Option Addr), ∃ (c20 : Nat), u = .tuple #[] ∧ Ows [b1] w0 w [.blk b1 (.cells #[.pointer (some ⟨b1, 0, none⟩), .slice o19 r.length c20] 64 (0, 0)), .row 1 5 1 (.slice o19 r.length c20) r.length (r.map bV)]
theorem strings_Builder_grow_ps0sn.ok (p1 : Int) (r : List UInt8) (H : strings_Builder_grow_ps0sn.f p1 = some r) (w0 : World) (b1 : Nat) (hh : Has w0 [.blk b1 (.cells #[.pointer (some ⟨b1, 0, none⟩), .slice none 0 0] 64 (0, 0))]) : Calls Tryd.prog 69 ⟨[.pointer (some ⟨b1, 0, none⟩), I p1]⟩ w0 fun e w => ∃ u, e = .returned u ∧ strings_Builder_grow_ps0sn.post b1 w0 r u w := by
  unfold strings_Builder_grow_ps0sn.f at H
  refine st_startL (N := 30) [.pointer (some ⟨b1, 0, none⟩), I p1] (C69 []) func69 (by kernel_rfl) (by kernel_rfl) (by kernel_rfl) ([.blk b1 (.cells #[.pointer (some ⟨b1, 0, none⟩), .slice none 0 0] 64 (0, 0))]) hh ?_
  intro a w hk ho
  replace ho : Ows [b1] w0 w [.blk b1 (.cells #[.pointer (some ⟨b1, 0, none⟩), .slice none 0 0] 64 (0, 0))] := ho
  refine st_seq (C69 [0]) (C69 [1]) (by kernel_rfl) ?_
  have h2 : (0 : Int) < w64 ((0 : Int) + p1) := by
    by_cases h2 : (0 : Int) < w64 ((0 : Int) + p1)
    · exact h2
    · rw [if_neg h2] at H; cases H
  rw [if_pos h2] at H
  have h3 : w64 ((0 : Int) + p1) ≤ 4294967296 := by
    by_cases h3 : w64 ((0 : Int) + p1) ≤ 4294967296
    · exact h3
    · rw [if_neg h3] at H; cases H
  rw [if_pos h3] at H
  refine cut_code (fun a w => ∃ (o4 : Option Addr), ∃ (c5 : Nat), Kn 30 a [(0, .pointer (some ⟨b1, 0, none⟩)), (4, .slice o4 0 c5)] ∧ Ows [b1] w0 w [.row 1 5 1 (.slice o4 0 c5) 0 (([] : List UInt8).map bV), .blk b1 (.cells #[.pointer (some ⟨b1, 0, none⟩), .slice none 0 0] 64 (0, 0))]) ?_ ?_
  · intro J
    refine st_draw ho 0 (opsOf (C69 [0])) [0, 1, 2, 3, 4, 5, 6, 7, 8, 9, 10, 11, 12, 13, 14, 15] (by kernel_rfl) (by kernel_rfl) (by kernel_rfl) ?_
    clear ho; intro w ho
    refine any_pure tabOK hk [0, 1, 2, 6, 9, 10, 11] [0, 1, 2, 3, 4, 5, 6, 7, 8, 9, 10, 11, 12, 13, 14, 15] [3, 4, 5, 7, 8, 12, 13, 14, 15] [0, 7, 11, 16] [(0, .pointer (some ⟨b1, 0, none⟩)), (7, .pointer (some ⟨b1, 1, none⟩)), (11, I p1), (16, .pointer (some ⟨b1, 1, none⟩))] (((some ⟨b1, 0, none⟩ : Option Addr).isSome = true) ∧ (((some ⟨b1, 0, none⟩ : Option Addr).isSome = true) ∧ (((some ⟨b1, 0, none⟩ : Option Addr).isSome = true) ∧ (((some ⟨b1, 0, none⟩ : Option Addr).isSome = true) ∧ True)))) (by kernel_rfl) (by kernel_rfl) (by kernel_rfl) ⟨rfl, ⟨rfl, ⟨rfl, ⟨rfl, trivial⟩⟩⟩⟩ ?_
    clear hk; intro a hk
    refine any_all [3, 12] (by kernel_rfl) (by decide) ⟨?_, ?_, trivial⟩
    ·
      change wpOps _ _ _ [3] _ _
      refine st_load1 tabOK hk 30 (some ⟨b1, 1, none⟩) 8 (by kernel_rfl) (by kernel_rfl) (.slice none 0 0) (ho.cell 0 rfl rfl) ?_
      clear hk; intro a hk
      refine any_go [4, 5, 7, 8, 12, 13, 14, 15] (by kernel_rfl) ?_
      refine any_pure tabOK hk [4, 5, 7] [4, 5, 7, 8, 12, 13, 14, 15] [8, 12, 13, 14, 15] [0, 12, 16] [(0, .pointer (some ⟨b1, 0, none⟩)), (12, I (w64 ((0 : Int) + p1))), (16, .pointer (some ⟨b1, 1, none⟩))] (True) (by kernel_rfl) (by kernel_rfl) (by kernel_rfl) trivial ?_
      clear hk; intro a hk
      refine any_all [8, 12] (by kernel_rfl) (by decide) ⟨?_, ?_, trivial⟩
      ·
        change wpOps _ _ _ [8] _ _
        refine st_make0 tabOK hk ho 76 30 5 13 (w64 ((0 : Int) + p1)) #[3] ext76 (by kernel_rfl) (by kernel_rfl) h2 h3 ?_
        clear hk ho; intro a o4 c5 vs6 w h7 hk ho
        refine any_go [12, 13, 14, 15] (by kernel_rfl) ?_
        refine any_all [12] (by kernel_rfl) (by decide) ⟨?_, trivial⟩
        change wpOps _ _ _ [12] _ _
        refine st_load1 tabOK hk 30 (some ⟨b1, 1, none⟩) 17 (by kernel_rfl) (by kernel_rfl) (.slice none 0 0) (ho.cell 1 rfl rfl) ?_
        clear hk; intro a hk
        refine any_go [13, 14, 15] (by kernel_rfl) ?_
        refine any_pure tabOK hk [13, 14] [13, 14, 15] [15] [0, 19] [(0, .pointer (some ⟨b1, 0, none⟩)), (19, .slice o4 (Int.toNat 0) c5)] (((0 : Int) ≤ 0 ∧ (0 : Int) ≤ (c5 : Int)) ∧ True) (by kernel_rfl) (by kernel_rfl) (by kernel_rfl) ⟨⟨by decide, Int.natCast_nonneg _⟩, trivial⟩ ?_
        clear hk; intro a hk
        replace ho : Ows [b1] w0 w [.row 1 5 1 (.slice o4 0 c5) 0 (([] : List UInt8).map bV), .blk b1 (.cells #[.pointer (some ⟨b1, 0, none⟩), .slice none 0 0] 64 (0, 0))] := ho.shrink 0 rfl 0 (Nat.zero_le _) (by decide) [] (by simp) _ rfl
        replace hk : Kn 30 a [(0, .pointer (some ⟨b1, 0, none⟩)), (19, .slice o4 0 c5)] := hk.to [0, 19] _ (by kernel_rfl)
        refine any_pure tabOK hk [15] [15] [] [0, 4] [(0, .pointer (some ⟨b1, 0, none⟩)), (4, .slice o4 0 c5)] (True) (by kernel_rfl) (by kernel_rfl) (by kernel_rfl) trivial ?_
        clear hk; intro a hk
        refine any_end ?_
        exact J a w ⟨o4, c5, by exact hk.to [0, 4] _ (by kernel_rfl), by exact ho⟩
      ·
        change wpOps _ _ _ [12] _ _
        refine st_load1 tabOK hk 30 (some ⟨b1, 1, none⟩) 17 (by kernel_rfl) (by kernel_rfl) (.slice none 0 0) (ho.cell 0 rfl rfl) ?_
        clear hk; intro a hk
        refine any_go [8, 13, 14, 15] (by kernel_rfl) ?_
        refine any_pure tabOK hk [13] [8, 13, 14, 15] [8, 14, 15] [0, 12, 18] [(0, .pointer (some ⟨b1, 0, none⟩)), (12, I (w64 ((0 : Int) + p1))), (18, I 0)] (True) (by kernel_rfl) (by kernel_rfl) (by kernel_rfl) trivial ?_
        clear hk; intro a hk
        refine any_all [8] (by kernel_rfl) (by decide) ⟨?_, trivial⟩
        change wpOps _ _ _ [8] _ _
        refine st_make0 tabOK hk ho 76 30 5 13 (w64 ((0 : Int) + p1)) #[3] ext76 (by kernel_rfl) (by kernel_rfl) h2 h3 ?_
        clear hk ho; intro a o9 c10 vs11 w h12 hk ho
        refine any_go [14, 15] (by kernel_rfl) ?_
        refine any_pure tabOK hk [14] [14, 15] [15] [0, 19] [(0, .pointer (some ⟨b1, 0, none⟩)), (19, .slice o9 (Int.toNat 0) c10)] (((0 : Int) ≤ 0 ∧ (0 : Int) ≤ (c10 : Int)) ∧ True) (by kernel_rfl) (by kernel_rfl) (by kernel_rfl) ⟨⟨by decide, Int.natCast_nonneg _⟩, trivial⟩ ?_
        clear hk; intro a hk
        replace ho : Ows [b1] w0 w [.row 1 5 1 (.slice o9 0 c10) 0 (([] : List UInt8).map bV), .blk b1 (.cells #[.pointer (some ⟨b1, 0, none⟩), .slice none 0 0] 64 (0, 0))] := ho.shrink 0 rfl 0 (Nat.zero_le _) (by decide) [] (by simp) _ rfl
        replace hk : Kn 30 a [(0, .pointer (some ⟨b1, 0, none⟩)), (19, .slice o9 0 c10)] := hk.to [0, 19] _ (by kernel_rfl)
        refine any_pure tabOK hk [15] [15] [] [0, 4] [(0, .pointer (some ⟨b1, 0, none⟩)), (4, .slice o9 0 c10)] (True) (by kernel_rfl) (by kernel_rfl) (by kernel_rfl) trivial ?_
        clear hk; intro a hk
        refine any_end ?_
        exact J a w ⟨o9, c10, by exact hk.to [0, 4] _ (by kernel_rfl), by exact ho⟩
    ·
      change wpOps _ _ _ [12] _ _
      refine st_load1 tabOK hk 30 (some ⟨b1, 1, none⟩) 17 (by kernel_rfl) (by kernel_rfl) (.slice none 0 0) (ho.cell 0 rfl rfl) ?_
      clear hk; intro a hk
      refine any_go [3, 4, 5, 7, 8, 13, 14, 15] (by kernel_rfl) ?_
      refine any_pure tabOK hk [13] [3, 4, 5, 7, 8, 13, 14, 15] [3, 4, 5, 7, 8, 14, 15] [0, 7, 11, 18] [(0, .pointer (some ⟨b1, 0, none⟩)), (7, .pointer (some ⟨b1, 1, none⟩)), (11, I p1), (18, I 0)] (True) (by kernel_rfl) (by kernel_rfl) (by kernel_rfl) trivial ?_
      clear hk; intro a hk
      refine any_all [3] (by kernel_rfl) (by decide) ⟨?_, trivial⟩
      change wpOps _ _ _ [3] _ _
      refine st_load1 tabOK hk 30 (some ⟨b1, 1, none⟩) 8 (by kernel_rfl) (by kernel_rfl) (.slice none 0 0) (ho.cell 0 rfl rfl) ?_
      clear hk; intro a hk
      refine any_go [4, 5, 7, 8, 14, 15] (by kernel_rfl) ?_
      refine any_pure tabOK hk [4, 5, 7] [4, 5, 7, 8, 14, 15] [8, 14, 15] [0, 12, 18] [(0, .pointer (some ⟨b1, 0, none⟩)), (12, I (w64 ((0 : Int) + p1))), (18, I 0)] (True) (by kernel_rfl) (by kernel_rfl) (by kernel_rfl) trivial ?_
      clear hk; intro a hk
      refine any_all [8] (by kernel_rfl) (by decide) ⟨?_, trivial⟩
      change wpOps _ _ _ [8] _ _
      refine st_make0 tabOK hk ho 76 30 5 13 (w64 ((0 : Int) + p1)) #[3] ext76 (by kernel_rfl) (by kernel_rfl) h2 h3 ?_
      clear hk ho; intro a o14 c15 vs16 w h17 hk ho
      refine any_go [14, 15] (by kernel_rfl) ?_
      refine any_pure tabOK hk [14] [14, 15] [15] [0, 19] [(0, .pointer (some ⟨b1, 0, none⟩)), (19, .slice o14 (Int.toNat 0) c15)] (((0 : Int) ≤ 0 ∧ (0 : Int) ≤ (c15 : Int)) ∧ True) (by kernel_rfl) (by kernel_rfl) (by kernel_rfl) ⟨⟨by decide, Int.natCast_nonneg _⟩, trivial⟩ ?_
      clear hk; intro a hk
      replace ho : Ows [b1] w0 w [.row 1 5 1 (.slice o14 0 c15) 0 (([] : List UInt8).map bV), .blk b1 (.cells #[.pointer (some ⟨b1, 0, none⟩), .slice none 0 0] 64 (0, 0))] := ho.shrink 0 rfl 0 (Nat.zero_le _) (by decide) [] (by simp) _ rfl
      replace hk : Kn 30 a [(0, .pointer (some ⟨b1, 0, none⟩)), (19, .slice o14 0 c15)] := hk.to [0, 19] _ (by kernel_rfl)
      refine any_pure tabOK hk [15] [15] [] [0, 4] [(0, .pointer (some ⟨b1, 0, none⟩)), (4, .slice o14 0 c15)] (True) (by kernel_rfl) (by kernel_rfl) (by kernel_rfl) trivial ?_
      clear hk; intro a hk
      refine any_end ?_
      exact J a w ⟨o14, c15, by exact hk.to [0, 4] _ (by kernel_rfl), by exact ho⟩
  · rintro a w ⟨o4, c5, hk, ho⟩
    refine st_seq (C69 [1, 0]) (C69 [1, 1]) (by kernel_rfl) ?_
    refine st_region 1 (opsOf (C69 [1, 0])) [0, 1, 2, 3, 4, 5] (by kernel_rfl) (by kernel_rfl) ?_
    refine st_pure tabOK hk [0, 1, 2, 3] [4, 5] [0, 4, 20, 23] [(0, .pointer (some ⟨b1, 0, none⟩)), (4, .slice o4 0 c5), (20, .slice o4 0 c5), (23, .pointer (some ⟨b1, 1, none⟩))] (((some ⟨b1, 0, none⟩ : Option Addr).isSome = true) ∧ (((some ⟨b1, 0, none⟩ : Option Addr).isSome = true) ∧ True)) (by kernel_rfl) ⟨rfl, ⟨rfl, trivial⟩⟩ ?_
    clear hk; intro a hk
    refine st_load1 tabOK hk 30 (some ⟨b1, 1, none⟩) 24 (by kernel_rfl) (by kernel_rfl) (.slice none 0 0) (ho.cell 1 rfl rfl) ?_
    clear hk; intro a hk
    refine st_yield hk 25 (I 0) (copyY tabOK 30 30 5 25 o4 0 c5 (by kernel_rfl) (by kernel_rfl)) ?_
    clear hk; intro a hk
    refine st_done ?_
    refine st_region 2 (opsOf (C69 [1, 1])) [0, 1, 2, 3, 4] (by kernel_rfl) (by kernel_rfl) ?_
    refine st_pure tabOK hk [0, 1, 2, 3] [4] [27, 29] [(27, .slice o4 0 c5), (29, .pointer (some ⟨b1, 1, none⟩))] (((some ⟨b1, 0, none⟩ : Option Addr).isSome = true) ∧ (((some ⟨b1, 0, none⟩ : Option Addr).isSome = true) ∧ True)) (by kernel_rfl) ⟨rfl, ⟨rfl, trivial⟩⟩ ?_
    clear hk; intro a hk
    refine st_put1 hk ho 1 30 b1 1 (.slice o4 0 c5) #[.pointer (some ⟨b1, 0, none⟩), .slice none 0 0] 64 [.row 1 5 1 (.slice o4 0 c5) 0 (([] : List UInt8).map bV), .blk b1 (.cells #[.pointer (some ⟨b1, 0, none⟩), .slice o4 0 c5] 64 (0, 0))] (by kernel_rfl) (by kernel_rfl) (by kernel_rfl) rfl (by kernel_rfl) (by kernel_rfl) rfl ?_
    clear ho; intro w ho
    refine st_done ?_
    replace ho : Ows [b1] w0 w [.blk b1 (.cells #[.pointer (some ⟨b1, 0, none⟩), .slice o4 0 c5] 64 (0, 0)), .row 1 5 1 (.slice o4 0 c5) 0 (([] : List UInt8).map bV)] := ho.front 1 _ _ rfl rfl
    refine st_endK hk [] #[] (by kernel_rfl) (by kernel_rfl) ?_
    obtain rfl := Option.some.inj H
    exact ⟨_, rfl, o4, c5, rfl, ho⟩


/-! (*strings.Builder).Grow: function 49 -/
noncomputable def C49 (p : List Nat) : Code := Sub (bodyOf f49) p
def strings_Builder_Grow_pnsn.f (p1 : Int) : Option (List UInt8) := (((strings_Builder_copyCheck_pnsn.f ).bind fun t2 => (((if p1 < 0 then none else some ())).bind fun m4 => (if 0 < p1 then ((strings_Builder_grow_ps0sn.f p1).bind fun t10 => some t10) else some ([] : List UInt8)))))
abbrev strings_Builder_Grow_pnsn.post (b1 : Nat) (w0 : World) (r : List UInt8) (u : Value) (w : World) : Prop := ∃ (o17 : Option Addr), ∃ (c18 : Nat), u = .tuple #[] ∧ Ows [b1] w0 w [.blk b1 (.cells #[.pointer (some ⟨b1, 0, none⟩), .slice o17 r.length c18] 64 (0, 0)), .row 1 5 1 (.slice o17 r.length c18) r.length (r.map bV)]
theorem strings_Builder_Grow_pnsn.ok (p1 : Int) (r : List UInt8) (H : strings_Builder_Grow_pnsn.f p1 = some r) (w0 : World) (b1 : Nat) (hh : Has w0 [.blk b1 (.cells #[.pointer none, .slice none 0 0] 64 (0, 0))]) : Calls Tryd.prog 49 ⟨[.pointer (some ⟨b1, 0, none⟩), I p1]⟩ w0 fun e w => ∃ u, e = .returned u ∧ strings_Builder_Grow_pnsn.post b1 w0 r u w := by
  unfold strings_Builder_Grow_pnsn.f at H
  refine st_startL (N := 25) [.pointer (some ⟨b1, 0, none⟩), I p1] (C49 []) func49 (by kernel_rfl) (by kernel_rfl) (by kernel_rfl) ([.blk b1 (.cells #[.pointer none, .slice none 0 0] 64 (0, 0))]) hh ?_
  intro a w hk ho
  replace ho : Ows [b1] w0 w [.blk b1 (.cells #[.pointer none, .slice none 0 0] 64 (0, 0))] := ho
  refine st_seq (C49 [0]) (C49 [1]) (by kernel_rfl) ?_
  refine st_region 0 (opsOf (C49 [0])) [0, 1] (by kernel_rfl) (by kernel_rfl) ?_
  refine st_pure tabOK hk [0] [1] [0, 1, 4] [(0, .pointer (some ⟨b1, 0, none⟩)), (1, I p1), (4, .pointer (some ⟨b1, 0, none⟩))] (True) (by kernel_rfl) trivial ?_
  clear hk; intro a hk
  obtain ⟨t2, h3, H⟩ := Option.bind_eq_some_iff.1 H
  refine st_call hk 68 [.pointer (some ⟨b1, 0, none⟩)] (some 5) enters68 (by kernel_rfl) (strings_Builder_copyCheck_pnsn.ok   t2 h3 w b1 (Ows.has (K := [.blk b1 (.cells #[.pointer none, .slice none 0 0] 64 (0, 0))]) (L := []) ho)) ?_
  clear hk; rintro a u w ⟨rfl, ho'⟩ hk
  replace ho : Ows [b1] w0 w [.blk b1 (.cells #[.pointer (some ⟨b1, 0, none⟩), .slice none 0 0] 64 (0, 0))] := Ows.callP (K := [.blk b1 (.cells #[.pointer none, .slice none 0 0] 64 (0, 0))]) (L := []) ho ho' rfl; clear ho'
  refine st_done ?_
  refine st_seq (C49 [1, 0]) (C49 [1, 1]) (by kernel_rfl) ?_
  refine st_seq (C49 [1, 0, 0]) (C49 [1, 0, 1]) (by kernel_rfl) ?_
  refine st_region 1 (opsOf (C49 [1, 0, 0])) [0, 1] (by kernel_rfl) (by kernel_rfl) ?_
  refine st_pure tabOK hk [0, 1] [] [0, 1, 7] [(0, .pointer (some ⟨b1, 0, none⟩)), (1, I p1), (7, .bool (decide (p1 < 0)))] (True) (by kernel_rfl) trivial ?_
  clear hk; intro a hk
  refine st_done ?_
  obtain ⟨m4, HX, H⟩ := Option.bind_eq_some_iff.1 H
  refine cut_code (fun a w => Kn 25 a [(0, .pointer (some ⟨b1, 0, none⟩)), (1, I p1)] ∧ Ows [b1] w0 w [.blk b1 (.cells #[.pointer (some ⟨b1, 0, none⟩), .slice none 0 0] 64 (0, 0))]) ?_ ?_
  · intro J; clear H; have H := HX; clear HX
    refine st_cond hk (C49 [1, 0, 1, 0]) (C49 [1, 0, 1, 1]) (.tmp 7) (decide (p1 < 0)) (by kernel_rfl) (by kernel_rfl) (fun h5 => ?_) (fun h5 => ?_)
    ·
      have h6 : p1 < 0 := of_decide_eq_true h5
      rw [if_pos h6] at H
      exact nomatch H
    ·
      have h7 : ¬ (p1 < 0) := of_decide_eq_false h5
      rw [if_neg h7] at H
      refine st_skip (by kernel_rfl) ?_
      obtain rfl := Option.some.inj H
      exact J a w ⟨hk.to [0, 1] _ (by kernel_rfl), ho⟩
  · clear HX; rintro a w ⟨hk, ho⟩
    refine st_seq (C49 [1, 1, 0]) (C49 [1, 1, 1]) (by kernel_rfl) ?_
    refine cut_code (fun a w => Kn 25 a [(0, .pointer (some ⟨b1, 0, none⟩)), (1, I p1), (21, .bool (decide (0 < p1)))] ∧ Ows [b1] w0 w [.blk b1 (.cells #[.pointer (some ⟨b1, 0, none⟩), .slice none 0 0] 64 (0, 0))]) ?_ ?_
    · intro J
      refine st_draw ho 3 (opsOf (C49 [1, 1, 0])) [0, 1, 2, 3, 4, 5, 6, 7, 8, 9, 10, 11, 12] (by kernel_rfl) (by kernel_rfl) (by kernel_rfl) ?_
      clear ho; intro w ho
      refine any_pure tabOK hk [0, 1, 2, 5, 6, 7, 11] [0, 1, 2, 3, 4, 5, 6, 7, 8, 9, 10, 11, 12] [3, 4, 8, 9, 10, 12] [0, 1, 11, 16, 20] [(0, .pointer (some ⟨b1, 0, none⟩)), (1, I p1), (11, .pointer (some ⟨b1, 1, none⟩)), (16, .pointer (some ⟨b1, 1, none⟩)), (20, I p1)] (((some ⟨b1, 0, none⟩ : Option Addr).isSome = true) ∧ (((some ⟨b1, 0, none⟩ : Option Addr).isSome = true) ∧ (((some ⟨b1, 0, none⟩ : Option Addr).isSome = true) ∧ (((some ⟨b1, 0, none⟩ : Option Addr).isSome = true) ∧ True)))) (by kernel_rfl) (by kernel_rfl) (by kernel_rfl) ⟨rfl, ⟨rfl, ⟨rfl, ⟨rfl, trivial⟩⟩⟩⟩ ?_
      clear hk; intro a hk
      refine any_all [3, 8] (by kernel_rfl) (by decide) ⟨?_, ?_, trivial⟩
      ·
        change wpOps _ _ _ [3] _ _
        refine st_load1 tabOK hk 30 (some ⟨b1, 1, none⟩) 12 (by kernel_rfl) (by kernel_rfl) (.slice none 0 0) (ho.cell 0 rfl rfl) ?_
        clear hk; intro a hk
        refine any_go [4, 8, 9, 10, 12] (by kernel_rfl) ?_
        refine any_pure tabOK hk [4] [4, 8, 9, 10, 12] [8, 9, 10, 12] [0, 1, 13, 16, 20] [(0, .pointer (some ⟨b1, 0, none⟩)), (1, I p1), (13, I 0), (16, .pointer (some ⟨b1, 1, none⟩)), (20, I p1)] (True) (by kernel_rfl) (by kernel_rfl) (by kernel_rfl) trivial ?_
        clear hk; intro a hk
        refine any_all [8] (by kernel_rfl) (by decide) ⟨?_, trivial⟩
        change wpOps _ _ _ [8] _ _
        refine st_load1 tabOK hk 30 (some ⟨b1, 1, none⟩) 17 (by kernel_rfl) (by kernel_rfl) (.slice none 0 0) (ho.cell 0 rfl rfl) ?_
        clear hk; intro a hk
        refine any_go [9, 10, 12] (by kernel_rfl) ?_
        refine any_pure tabOK hk [9, 10, 12] [9, 10, 12] [] [0, 1, 21] [(0, .pointer (some ⟨b1, 0, none⟩)), (1, I p1), (21, .bool (decide (0 < p1)))] (True) (by kernel_rfl) (by kernel_rfl) (by kernel_rfl) trivial ?_
        clear hk; intro a hk
        refine any_end ?_
        exact J a w ⟨by exact hk.to [0, 1, 21] _ (by kernel_rfl), by exact ho⟩
      ·
        change wpOps _ _ _ [8] _ _
        refine st_load1 tabOK hk 30 (some ⟨b1, 1, none⟩) 17 (by kernel_rfl) (by kernel_rfl) (.slice none 0 0) (ho.cell 0 rfl rfl) ?_
        clear hk; intro a hk
        refine any_go [3, 4, 9, 10, 12] (by kernel_rfl) ?_
        refine any_pure tabOK hk [9] [3, 4, 9, 10, 12] [3, 4, 10, 12] [0, 1, 11, 18, 20] [(0, .pointer (some ⟨b1, 0, none⟩)), (1, I p1), (11, .pointer (some ⟨b1, 1, none⟩)), (18, I 0), (20, I p1)] (True) (by kernel_rfl) (by kernel_rfl) (by kernel_rfl) trivial ?_
        clear hk; intro a hk
        refine any_all [3] (by kernel_rfl) (by decide) ⟨?_, trivial⟩
        change wpOps _ _ _ [3] _ _
        refine st_load1 tabOK hk 30 (some ⟨b1, 1, none⟩) 12 (by kernel_rfl) (by kernel_rfl) (.slice none 0 0) (ho.cell 0 rfl rfl) ?_
        clear hk; intro a hk
        refine any_go [4, 10, 12] (by kernel_rfl) ?_
        refine any_pure tabOK hk [4, 10, 12] [4, 10, 12] [] [0, 1, 21] [(0, .pointer (some ⟨b1, 0, none⟩)), (1, I p1), (21, .bool (decide (0 < p1)))] (True) (by kernel_rfl) (by kernel_rfl) (by kernel_rfl) trivial ?_
        clear hk; intro a hk
        refine any_end ?_
        exact J a w ⟨by exact hk.to [0, 1, 21] _ (by kernel_rfl), by exact ho⟩
    · rintro a w ⟨hk, ho⟩
      refine st_cond hk (C49 [1, 1, 1, 0]) (C49 [1, 1, 1, 1]) (.tmp 21) (decide (0 < p1)) (by kernel_rfl) (by kernel_rfl) (fun h8 => ?_) (fun h8 => ?_)
      ·
        have h9 : 0 < p1 := of_decide_eq_true h8
        rw [if_pos h9] at H
        refine st_region 4 (opsOf (C49 [1, 1, 1, 0])) [0, 1, 2] (by kernel_rfl) (by kernel_rfl) ?_
        refine st_pure tabOK hk [0, 1] [2] [22, 23] [(22, .pointer (some ⟨b1, 0, none⟩)), (23, I p1)] (True) (by kernel_rfl) trivial ?_
        clear hk; intro a hk
        obtain ⟨t10, h11, H⟩ := Option.bind_eq_some_iff.1 H
        refine st_call hk 69 [.pointer (some ⟨b1, 0, none⟩), I p1] (some 24) enters69 (by kernel_rfl) (strings_Builder_grow_ps0sn.ok  p1 t10 h11 w b1 (Ows.has (K := [.blk b1 (.cells #[.pointer (some ⟨b1, 0, none⟩), .slice none 0 0] 64 (0, 0))]) (L := []) ho)) ?_
        clear hk; rintro a u w ⟨o12, c13, rfl, ho'⟩ hk
        replace ho : Ows [b1] w0 w [.blk b1 (.cells #[.pointer (some ⟨b1, 0, none⟩), .slice o12 t10.length c13] 64 (0, 0)), .row 1 5 1 (.slice o12 t10.length c13) t10.length (t10.map bV)] := Ows.callP (K := [.blk b1 (.cells #[.pointer (some ⟨b1, 0, none⟩), .slice none 0 0] 64 (0, 0))]) (L := []) ho ho' rfl; clear ho'
        refine st_done ?_
        refine st_endK hk [] #[] (by kernel_rfl) (by kernel_rfl) ?_
        obtain rfl := Option.some.inj H
        exact ⟨_, rfl, o12, c13, rfl, ho⟩
      ·
        have h15 : ¬ (0 < p1) := of_decide_eq_false h8
        rw [if_neg h15] at H
        refine st_skip (by kernel_rfl) ?_
        replace ho := ho.nilRow 1 5 1
        replace ho : Ows [b1] w0 w [.blk b1 (.cells #[.pointer (some ⟨b1, 0, none⟩), .slice none 0 0] 64 (0, 0)), .row 1 5 1 (.slice none 0 0) 0 (([] : List UInt8).map bV)] := ho.front 1 _ _ rfl rfl
        refine st_endK hk [] #[] (by kernel_rfl) (by kernel_rfl) ?_
        obtain rfl := Option.some.inj H
        exact ⟨_, rfl, none, 0, rfl, ho⟩


/-! (*strings.Builder).copyCheck: function 68 -/
def strings_Builder_copyCheck_ps0t.f (p0_1 : List UInt8) : Option (List UInt8) := some p0_1
abbrev strings_Builder_copyCheck_ps0t.post (b1 : Nat) (o2 : Option Addr) (p0_1 : List UInt8) (c3 : Nat) (w0 : World) (r : List UInt8) (u : Value) (w : World) : Prop := ∃ (o5 : Option Addr), ∃ (c6 : Nat), u = .tuple #[] ∧ Ows (feet [.blk b1 (.cells #[.pointer (some ⟨b1, 0, none⟩), .slice o2 p0_1.length c3] 64 (0, 0)), .row 1 5 1 (.slice o2 p0_1.length c3) p0_1.length (p0_1.map bV)]) w0 w [.blk b1 (.cells #[.pointer (some ⟨b1, 0, none⟩), .slice o5 r.length c6] 64 (0, 0)), .row 1 5 1 (.slice o5 r.length c6) r.length (r.map bV)]
theorem strings_Builder_copyCheck_ps0t.ok (p0_1 : List UInt8) (r : List UInt8) (H : strings_Builder_copyCheck_ps0t.f p0_1 = some r) (w0 : World) (b1 : Nat) (o2 : Option Addr) (c3 : Nat) (hh : Has w0 [.blk b1 (.cells #[.pointer (some ⟨b1, 0, none⟩), .slice o2 p0_1.length c3] 64 (0, 0)), .row 1 5 1 (.slice o2 p0_1.length c3) p0_1.length (p0_1.map bV)]) : Calls Tryd.prog 68 ⟨[.pointer (some ⟨b1, 0, none⟩)]⟩ w0 fun e w => ∃ u, e = .returned u ∧ strings_Builder_copyCheck_ps0t.post b1 o2 p0_1 c3 w0 r u w := by
  unfold strings_Builder_copyCheck_ps0t.f at H
  refine st_startL (N := 20) [.pointer (some ⟨b1, 0, none⟩)] (C68 []) func68 (by kernel_rfl) (by kernel_rfl) (by kernel_rfl) ([.blk b1 (.cells #[.pointer (some ⟨b1, 0, none⟩), .slice o2 p0_1.length c3] 64 (0, 0)), .row 1 5 1 (.slice o2 p0_1.length c3) p0_1.length (p0_1.map bV)]) hh ?_
  intro a w hk ho
  replace ho : Ows (feet [.blk b1 (.cells #[.pointer (some ⟨b1, 0, none⟩), .slice o2 p0_1.length c3] 64 (0, 0)), .row 1 5 1 (.slice o2 p0_1.length c3) p0_1.length (p0_1.map bV)]) w0 w [.blk b1 (.cells #[.pointer (some ⟨b1, 0, none⟩), .slice o2 p0_1.length c3] 64 (0, 0)), .row 1 5 1 (.slice o2 p0_1.length c3) p0_1.length (p0_1.map bV)] := ho
  refine st_seq (C68 [0]) (C68 [1]) (by kernel_rfl) ?_
  refine st_region 0 (opsOf (C68 [0])) [0, 1, 2, 3, 4] (by kernel_rfl) (by kernel_rfl) ?_
  refine st_pure tabOK hk [0, 1, 2] [3, 4] [0, 4] [(0, .pointer (some ⟨b1, 0, none⟩)), (4, .pointer (some ⟨b1, 0, none⟩))] (((some ⟨b1, 0, none⟩ : Option Addr).isSome = true) ∧ (((some ⟨b1, 0, none⟩ : Option Addr).isSome = true) ∧ True)) (by kernel_rfl) ⟨rfl, ⟨rfl, trivial⟩⟩ ?_
  clear hk; intro a hk
  refine st_load1 tabOK hk 62 (some ⟨b1, 0, none⟩) 5 (by kernel_rfl) (by kernel_rfl) (.pointer (some ⟨b1, 0, none⟩)) (ho.cell 0 rfl rfl) ?_
  clear hk; intro a hk
  refine st_pure tabOK hk [4] [] [0, 6] [(0, .pointer (some ⟨b1, 0, none⟩)), (6, .bool false)] (True) (by kernel_rfl) trivial ?_
  clear hk; intro a hk
  refine st_done ?_
  refine st_cond_false hk (C68 [1, 0]) (C68 [1, 1]) (.tmp 6) (by kernel_rfl) (by kernel_rfl) ?_
  refine st_seq (C68 [1, 1, 0]) (C68 [1, 1, 1]) (by kernel_rfl) ?_
  refine st_region 2 (opsOf (C68 [1, 1, 0])) [0, 1, 2, 3, 4, 5] (by kernel_rfl) (by kernel_rfl) ?_
  refine st_pure tabOK hk [0, 1, 2] [3, 4, 5] [0, 16] [(0, .pointer (some ⟨b1, 0, none⟩)), (16, .pointer (some ⟨b1, 0, none⟩))] (((some ⟨b1, 0, none⟩ : Option Addr).isSome = true) ∧ (((some ⟨b1, 0, none⟩ : Option Addr).isSome = true) ∧ True)) (by kernel_rfl) ⟨rfl, ⟨rfl, trivial⟩⟩ ?_
  clear hk; intro a hk
  refine st_load1 tabOK hk 62 (some ⟨b1, 0, none⟩) 17 (by kernel_rfl) (by kernel_rfl) (.pointer (some ⟨b1, 0, none⟩)) (ho.cell 0 rfl rfl) ?_
  clear hk; intro a hk
  refine st_pure tabOK hk [4] [5] [17, 18] [(17, .pointer (some ⟨b1, 0, none⟩)), (18, .pointer (some ⟨b1, 0, none⟩))] (True) (by kernel_rfl) trivial ?_
  clear hk; intro a hk
  refine st_yield hk 19 (.bool false) (ptrNeY tabOK 62 19 ⟨b1, 0, none⟩ (by kernel_rfl) (by kernel_rfl) (fun e he => by rw [show Tryd.prog.underlying 62 = some (.pointer 64) from by kernel_rfl] at he; cases he; kernel_rfl)) ?_
  clear hk; intro a hk
  refine st_done ?_
  refine st_cond_false hk (C68 [1, 1, 1, 0]) (C68 [1, 1, 1, 1]) (.tmp 19) (by kernel_rfl) (by kernel_rfl) ?_
  refine st_skip (by kernel_rfl) ?_
  refine st_endK hk [] #[] (by kernel_rfl) (by kernel_rfl) ?_
  obtain rfl := Option.some.inj H
  exact ⟨_, rfl, o2, c3, rfl, ho⟩


/-! (*strings.Builder).WriteString: function 50 -/
noncomputable def C50 (p : List Nat) : Code := Sub (bodyOf f50) p
def strings_Builder_WriteString_ps0t.f (p0_1 : List UInt8) (p1 : Str) : Option (Int × List UInt8) := (((strings_Builder_copyCheck_ps0t.f p0_1).bind fun t5 => (if t5.length + p1.length ≤ 4294967296 then some ((p1.length : Int), t5 ++ p1) else none)))
abbrev strings_Builder_WriteString_ps0t.post (b1 : Nat) (o2 : Option Addr) (p0_1 : List UInt8) (c3 : Nat) (w0 : World) (r : Int × List UInt8) (u : Value) (w : World) : Prop := ∃ (o14 : Option Addr), ∃ (c15 : Nat), u = .tuple #[I r.1, .nilIface] ∧ Ows (feet [.blk b1 (.cells #[.pointer (some ⟨b1, 0, none⟩), .slice o2 p0_1.length c3] 64 (0, 0)), .row 1 5 1 (.slice o2 p0_1.length c3) p0_1.length (p0_1.map bV)]) w0 w [.blk b1 (.cells #[.pointer (some ⟨b1, 0, none⟩), .slice o14 r.2.length c15] 64 (0, 0)), .row 1 5 1 (.slice o14 r.2.length c15) r.2.length (r.2.map bV)]
theorem strings_Builder_WriteString_ps0t.ok (p0_1 : List UInt8) (p1 : Str) (r : Int × List UInt8) (H : strings_Builder_WriteString_ps0t.f p0_1 p1 = some r) (w0 : World) (b1 : Nat) (o2 : Option Addr) (c3 : Nat) (hh : Has w0 [.blk b1 (.cells #[.pointer (some ⟨b1, 0, none⟩), .slice o2 p0_1.length c3] 64 (0, 0)), .row 1 5 1 (.slice o2 p0_1.length c3) p0_1.length (p0_1.map bV)]) : Calls Tryd.prog 50 ⟨[.pointer (some ⟨b1, 0, none⟩), S p1]⟩ w0 fun e w => ∃ u, e = .returned u ∧ strings_Builder_WriteString_ps0t.post b1 o2 p0_1 c3 w0 r u w := by
  unfold strings_Builder_WriteString_ps0t.f at H
  refine st_startL (N := 19) [.pointer (some ⟨b1, 0, none⟩), S p1] (C50 []) func50 (by kernel_rfl) (by kernel_rfl) (by kernel_rfl) ([.blk b1 (.cells #[.pointer (some ⟨b1, 0, none⟩), .slice o2 p0_1.length c3] 64 (0, 0)), .row 1 5 1 (.slice o2 p0_1.length c3) p0_1.length (p0_1.map bV)]) hh ?_
  intro a w hk ho
  replace ho : Ows (feet [.blk b1 (.cells #[.pointer (some ⟨b1, 0, none⟩), .slice o2 p0_1.length c3] 64 (0, 0)), .row 1 5 1 (.slice o2 p0_1.length c3) p0_1.length (p0_1.map bV)]) w0 w [.blk b1 (.cells #[.pointer (some ⟨b1, 0, none⟩), .slice o2 p0_1.length c3] 64 (0, 0)), .row 1 5 1 (.slice o2 p0_1.length c3) p0_1.length (p0_1.map bV)] := ho
  refine st_seq (C50 [0]) (C50 [1]) (by kernel_rfl) ?_
  refine st_region 0 (opsOf (C50 [0])) [0, 1] (by kernel_rfl) (by kernel_rfl) ?_
  refine st_pure tabOK hk [0, 1] [] [0, 1] [(0, .pointer (some ⟨b1, 0, none⟩)), (1, S p1)] (True) (by kernel_rfl) trivial ?_
  clear hk; intro a hk
  refine st_done ?_
  refine st_seq (C50 [1, 0]) (C50 [1, 1]) (by kernel_rfl) ?_
  refine st_region 1 (opsOf (C50 [1, 0])) [0, 1] (by kernel_rfl) (by kernel_rfl) ?_
  refine st_pure tabOK hk [0] [1] [0, 1, 6] [(0, .pointer (some ⟨b1, 0, none⟩)), (1, S p1), (6, .pointer (some ⟨b1, 0, none⟩))] (True) (by kernel_rfl) trivial ?_
  clear hk; intro a hk
  obtain ⟨t5, h6, H⟩ := Option.bind_eq_some_iff.1 H
  refine st_call hk 68 [.pointer (some ⟨b1, 0, none⟩)] (some 7) enters68 (by kernel_rfl) (strings_Builder_copyCheck_ps0t.ok  p0_1 t5 h6 w b1 o2 c3 (Ows.has (K := [.blk b1 (.cells #[.pointer (some ⟨b1, 0, none⟩), .slice o2 p0_1.length c3] 64 (0, 0)), .row 1 5 1 (.slice o2 p0_1.length c3) p0_1.length (p0_1.map bV)]) (L := []) ho)) ?_
  clear hk; rintro a u w ⟨o7, c8, rfl, ho'⟩ hk
  replace ho : Ows (feet [.blk b1 (.cells #[.pointer (some ⟨b1, 0, none⟩), .slice o2 p0_1.length c3] 64 (0, 0)), .row 1 5 1 (.slice o2 p0_1.length c3) p0_1.length (p0_1.map bV)]) w0 w [.blk b1 (.cells #[.pointer (some ⟨b1, 0, none⟩), .slice o7 t5.length c8] 64 (0, 0)), .row 1 5 1 (.slice o7 t5.length c8) t5.length (t5.map bV)] := Ows.callP (K := [.blk b1 (.cells #[.pointer (some ⟨b1, 0, none⟩), .slice o2 p0_1.length c3] 64 (0, 0)), .row 1 5 1 (.slice o2 p0_1.length c3) p0_1.length (p0_1.map bV)]) (L := []) ho ho' rfl; clear ho'
  refine st_done ?_
  refine st_seq (C50 [1, 1, 0]) (C50 [1, 1, 1]) (by kernel_rfl) ?_
  refine st_region 2 (opsOf (C50 [1, 1, 0])) [0, 1, 2, 3, 4, 5, 6, 7, 8, 9] (by kernel_rfl) (by kernel_rfl) ?_
  refine st_pure tabOK hk [0, 1, 2, 3] [4, 5, 6, 7, 8, 9] [1, 8, 11] [(1, S p1), (8, .pointer (some ⟨b1, 0, none⟩)), (11, .pointer (some ⟨b1, 1, none⟩))] (((some ⟨b1, 0, none⟩ : Option Addr).isSome = true) ∧ (((some ⟨b1, 0, none⟩ : Option Addr).isSome = true) ∧ True)) (by kernel_rfl) ⟨rfl, ⟨rfl, trivial⟩⟩ ?_
  clear hk; intro a hk
  refine st_load1 tabOK hk 30 (some ⟨b1, 1, none⟩) 12 (by kernel_rfl) (by kernel_rfl) (.slice o7 t5.length c8) (ho.cell 0 rfl rfl) ?_
  clear hk; intro a hk
  refine st_pure tabOK hk [5] [6, 7, 8, 9] [1, 8, 12, 13] [(1, S p1), (8, .pointer (some ⟨b1, 0, none⟩)), (12, .slice o7 t5.length c8), (13, S p1)] (True) (by kernel_rfl) trivial ?_
  clear hk; intro a hk
  have h10 : t5.length + p1.length ≤ 4294967296 := by
    by_cases h10 : t5.length + p1.length ≤ 4294967296
    · exact h10
    · rw [if_neg h10] at H; cases H
  rw [if_pos h10] at H
  refine st_appendS tabOK hk ho 1 30 9 5 14 (.int .u8 0) o7 t5.length c8 t5 p1 (by kernel_rfl) (by kernel_rfl) (by kernel_rfl) (by kernel_rfl) rfl h10 rfl (t5 ++ p1).length rfl ?_
  clear hk ho; intro a o11 c12 w h13 hk ho
  replace ho : Ows (feet [.blk b1 (.cells #[.pointer (some ⟨b1, 0, none⟩), .slice o2 p0_1.length c3] 64 (0, 0)), .row 1 5 1 (.slice o2 p0_1.length c3) p0_1.length (p0_1.map bV)]) w0 w [.blk b1 (.cells #[.pointer (some ⟨b1, 0, none⟩), .slice o7 t5.length c8] 64 (0, 0)), .row 1 5 1 (.slice o11 ((t5 ++ p1).length) c12) ((t5 ++ p1).length) ((t5 ++ p1).map bV)] := ho
  refine st_pure tabOK hk [7, 8] [9] [1, 14, 16] [(1, S p1), (14, .slice o11 ((t5 ++ p1).length) c12), (16, .pointer (some ⟨b1, 1, none⟩))] (((some ⟨b1, 0, none⟩ : Option Addr).isSome = true) ∧ (((some ⟨b1, 0, none⟩ : Option Addr).isSome = true) ∧ True)) (by kernel_rfl) ⟨rfl, ⟨rfl, trivial⟩⟩ ?_
  clear hk; intro a hk
  refine st_put1 hk ho 0 30 b1 1 (.slice o11 ((t5 ++ p1).length) c12) #[.pointer (some ⟨b1, 0, none⟩), .slice o7 t5.length c8] 64 [.blk b1 (.cells #[.pointer (some ⟨b1, 0, none⟩), .slice o11 ((t5 ++ p1).length) c12] 64 (0, 0)), .row 1 5 1 (.slice o11 ((t5 ++ p1).length) c12) ((t5 ++ p1).length) ((t5 ++ p1).map bV)] (by kernel_rfl) (by kernel_rfl) (by kernel_rfl) rfl (by kernel_rfl) (by kernel_rfl) rfl ?_
  clear ho; intro w ho
  refine st_done ?_
  refine st_seq (C50 [1, 1, 1, 0]) (C50 [1, 1, 1, 1]) (by kernel_rfl) ?_
  refine st_region 3 (opsOf (C50 [1, 1, 1, 0])) [0, 1, 2, 3] (by kernel_rfl) (by kernel_rfl) ?_
  refine st_pure tabOK hk [0, 1, 2, 3] [] [4, 5] [(4, I (p1.length : Int)), (5, .nilIface)] (True) (by kernel_rfl) trivial ?_
  clear hk; intro a hk
  refine st_done ?_
  refine st_retG hk (by kernel_rfl) [I (p1.length : Int), .nilIface] #[.tmp 4, .tmp 5] (by kernel_rfl) ⟨resT hk (by kernel_rfl), resT hk (by kernel_rfl), trivial⟩ ?_
  obtain rfl := Option.some.inj H
  exact ⟨_, rfl, o11, c12, rfl, ho⟩


/-! (*strings.Builder).String: function 51 -/
noncomputable def C51 (p : List Nat) : Code := Sub (bodyOf f51) p
def strings_Builder_String_ps0t.f (p0_1 : List UInt8) : Option (Str) := some p0_1
abbrev strings_Builder_String_ps0t.post (b1 : Nat) (o2 : Option Addr) (p0_1 : List UInt8) (c3 : Nat) (w0 : World) (r : Str) (u : Value) (w : World) : Prop := u = S r ∧ Ows (feet [.blk b1 (.cells #[.pointer (some ⟨b1, 0, none⟩), .slice o2 p0_1.length c3] 64 (0, 0)), .row 1 5 1 (.slice o2 p0_1.length c3) p0_1.length (p0_1.map bV)]) w0 w [.blk b1 (.cells #[.pointer (some ⟨b1, 0, none⟩), .slice o2 p0_1.length c3] 64 (0, 0))]
theorem strings_Builder_String_ps0t.ok (p0_1 : List UInt8) (r : Str) (H : strings_Builder_String_ps0t.f p0_1 = some r) (w0 : World) (b1 : Nat) (o2 : Option Addr) (c3 : Nat) (hh : Has w0 [.blk b1 (.cells #[.pointer (some ⟨b1, 0, none⟩), .slice o2 p0_1.length c3] 64 (0, 0)), .row 1 5 1 (.slice o2 p0_1.length c3) p0_1.length (p0_1.map bV)]) : Calls Tryd.prog 51 ⟨[.pointer (some ⟨b1, 0, none⟩)]⟩ w0 fun e w => ∃ u, e = .returned u ∧ strings_Builder_String_ps0t.post b1 o2 p0_1 c3 w0 r u w := by
  unfold strings_Builder_String_ps0t.f at H
  refine st_startL (N := 14) [.pointer (some ⟨b1, 0, none⟩)] (C51 []) func51 (by kernel_rfl) (by kernel_rfl) (by kernel_rfl) ([.blk b1 (.cells #[.pointer (some ⟨b1, 0, none⟩), .slice o2 p0_1.length c3] 64 (0, 0)), .row 1 5 1 (.slice o2 p0_1.length c3) p0_1.length (p0_1.map bV)]) hh ?_
  intro a w hk ho
  replace ho : Ows (feet [.blk b1 (.cells #[.pointer (some ⟨b1, 0, none⟩), .slice o2 p0_1.length c3] 64 (0, 0)), .row 1 5 1 (.slice o2 p0_1.length c3) p0_1.length (p0_1.map bV)]) w0 w [.blk b1 (.cells #[.pointer (some ⟨b1, 0, none⟩), .slice o2 p0_1.length c3] 64 (0, 0)), .row 1 5 1 (.slice o2 p0_1.length c3) p0_1.length (p0_1.map bV)] := ho
  refine st_seq (C51 [0]) (C51 [1]) (by kernel_rfl) ?_
  refine st_region 0 (opsOf (C51 [0])) [0] (by kernel_rfl) (by kernel_rfl) ?_
  refine st_pure tabOK hk [0] [] [0] [(0, .pointer (some ⟨b1, 0, none⟩))] (True) (by kernel_rfl) trivial ?_
  clear hk; intro a hk
  refine st_done ?_
  refine st_seq (C51 [1, 0]) (C51 [1, 1]) (by kernel_rfl) ?_
  refine cut_code (fun a w => Kn 14 a [(2, S p0_1)] ∧ Ows (feet [.blk b1 (.cells #[.pointer (some ⟨b1, 0, none⟩), .slice o2 p0_1.length c3] 64 (0, 0)), .row 1 5 1 (.slice o2 p0_1.length c3) p0_1.length (p0_1.map bV)]) w0 w [.blk b1 (.cells #[.pointer (some ⟨b1, 0, none⟩), .slice o2 p0_1.length c3] 64 (0, 0))]) ?_ ?_
  · intro J
    refine st_draw ho 1 (opsOf (C51 [1, 0])) [0, 1, 2, 3, 4, 5, 6, 7, 8, 9, 10, 11] (by kernel_rfl) (by kernel_rfl) (by kernel_rfl) ?_
    clear ho; intro w ho
    refine any_pure tabOK hk [0, 1, 2, 5, 6, 7] [0, 1, 2, 3, 4, 5, 6, 7, 8, 9, 10, 11] [3, 4, 8, 9, 10, 11] [5, 10] [(5, .pointer (some ⟨b1, 1, none⟩)), (10, .pointer (some ⟨b1, 1, none⟩))] (((some ⟨b1, 0, none⟩ : Option Addr).isSome = true) ∧ (((some ⟨b1, 0, none⟩ : Option Addr).isSome = true) ∧ (((some ⟨b1, 0, none⟩ : Option Addr).isSome = true) ∧ (((some ⟨b1, 0, none⟩ : Option Addr).isSome = true) ∧ True)))) (by kernel_rfl) (by kernel_rfl) (by kernel_rfl) ⟨rfl, ⟨rfl, ⟨rfl, ⟨rfl, trivial⟩⟩⟩⟩ ?_
    clear hk; intro a hk
    refine any_all [3, 8] (by kernel_rfl) (by decide) ⟨?_, ?_, trivial⟩
    ·
      change wpOps _ _ _ [3] _ _
      refine st_load1 tabOK hk 30 (some ⟨b1, 1, none⟩) 6 (by kernel_rfl) (by kernel_rfl) (.slice o2 p0_1.length c3) (ho.cell 0 rfl rfl) ?_
      clear hk; intro a hk
      refine any_go [4, 8, 9, 10, 11] (by kernel_rfl) ?_
      refine any_yield hk 4 [4, 8, 9, 10, 11] [8, 9, 10, 11] 7 (.pointer o2) (by kernel_rfl) (usdY 30 7 o2 p0_1.length c3 (by kernel_rfl) (ho.nz 1 rfl)) (by kernel_rfl) ?_
      clear hk; intro a hk
      refine any_all [8] (by kernel_rfl) (by decide) ⟨?_, trivial⟩
      change wpOps _ _ _ [8] _ _
      refine st_load1 tabOK hk 30 (some ⟨b1, 1, none⟩) 11 (by kernel_rfl) (by kernel_rfl) (.slice o2 p0_1.length c3) (ho.cell 0 rfl rfl) ?_
      clear hk; intro a hk
      refine any_go [9, 10, 11] (by kernel_rfl) ?_
      refine any_pure tabOK hk [9] [9, 10, 11] [10, 11] [7, 12] [(7, .pointer o2), (12, I (p0_1.length : Int))] (True) (by kernel_rfl) (by kernel_rfl) (by kernel_rfl) trivial ?_
      clear hk; intro a hk
      refine any_all [10] (by kernel_rfl) (by decide) ⟨?_, trivial⟩
      change wpOps _ _ _ [10] _ _
      refine st_ustr tabOK hk ho 1 82 3 5 13 o2 p0_1.length c3 p0_1 [.blk b1 (.cells #[.pointer (some ⟨b1, 0, none⟩), .slice o2 p0_1.length c3] 64 (0, 0))] (by kernel_rfl) (by kernel_rfl) (by kernel_rfl) rfl (by first | rfl | simp) rfl ?_
      clear hk ho; intro a w hk ho
      refine any_go [11] (by kernel_rfl) ?_
      refine any_pure tabOK hk [11] [11] [] [2] [(2, S p0_1)] (True) (by kernel_rfl) (by kernel_rfl) (by kernel_rfl) trivial ?_
      clear hk; intro a hk
      refine any_end ?_
      exact J a w ⟨by exact hk.to [2] _ (by kernel_rfl), by exact ho⟩
    ·
      change wpOps _ _ _ [8] _ _
      refine st_load1 tabOK hk 30 (some ⟨b1, 1, none⟩) 11 (by kernel_rfl) (by kernel_rfl) (.slice o2 p0_1.length c3) (ho.cell 0 rfl rfl) ?_
      clear hk; intro a hk
      refine any_go [3, 4, 9, 10, 11] (by kernel_rfl) ?_
      refine any_pure tabOK hk [9] [3, 4, 9, 10, 11] [3, 4, 10, 11] [5, 12] [(5, .pointer (some ⟨b1, 1, none⟩)), (12, I (p0_1.length : Int))] (True) (by kernel_rfl) (by kernel_rfl) (by kernel_rfl) trivial ?_
      clear hk; intro a hk
      refine any_all [3] (by kernel_rfl) (by decide) ⟨?_, trivial⟩
      change wpOps _ _ _ [3] _ _
      refine st_load1 tabOK hk 30 (some ⟨b1, 1, none⟩) 6 (by kernel_rfl) (by kernel_rfl) (.slice o2 p0_1.length c3) (ho.cell 0 rfl rfl) ?_
      clear hk; intro a hk
      refine any_go [4, 10, 11] (by kernel_rfl) ?_
      refine any_yield hk 4 [4, 10, 11] [10, 11] 7 (.pointer o2) (by kernel_rfl) (usdY 30 7 o2 p0_1.length c3 (by kernel_rfl) (ho.nz 1 rfl)) (by kernel_rfl) ?_
      clear hk; intro a hk
      refine any_all [10] (by kernel_rfl) (by decide) ⟨?_, trivial⟩
      change wpOps _ _ _ [10] _ _
      refine st_ustr tabOK hk ho 1 82 3 5 13 o2 p0_1.length c3 p0_1 [.blk b1 (.cells #[.pointer (some ⟨b1, 0, none⟩), .slice o2 p0_1.length c3] 64 (0, 0))] (by kernel_rfl) (by kernel_rfl) (by kernel_rfl) rfl (by first | rfl | simp) rfl ?_
      clear hk ho; intro a w hk ho
      refine any_go [11] (by kernel_rfl) ?_
      refine any_pure tabOK hk [11] [11] [] [2] [(2, S p0_1)] (True) (by kernel_rfl) (by kernel_rfl) (by kernel_rfl) trivial ?_
      clear hk; intro a hk
      refine any_end ?_
      exact J a w ⟨by exact hk.to [2] _ (by kernel_rfl), by exact ho⟩
  · rintro a w ⟨hk, ho⟩
    refine st_retG hk (by kernel_rfl) [S p0_1] #[.tmp 2] (by kernel_rfl) ⟨resT hk (by kernel_rfl), trivial⟩ ?_
    obtain rfl := Option.some.inj H
    exact ⟨_, rfl, rfl, ho⟩


/-! strings.Join: function 34 -/
noncomputable def C34 (p : List Nat) : Code := Sub (bodyOf f34) p
def strings_Join.l0 : Nat → List Str → Str → Int → Int → Option (Int)
  | 0, _, _, _, _ => none
  | k + 1, p0, p1, v18, v19 => (if v19 < (p0.length : Int) then (if (0 : Int) ≤ v19 then (((if ((get p0 v19).length : Int) > w64 ((9223372036854775807 : Int) - v18) then none else some ())).bind fun m23 => strings_Join.l0 k p0 p1 (w64 (v18 + ((get p0 v19).length : Int))) (w64 (v19 + 1))) else none) else some v18)
def strings_Join.l1 : Nat → List Str → Str → List UInt8 → Int → Option (List UInt8)
  | 0, _, _, _, _ => none
  | k + 1, p0, p1, v45, v48 => (if v48 < ((p0.drop (Int.toNat (1 : Int))).length : Int) then (if (0 : Int) ≤ v48 then ((strings_Builder_WriteString_ps0t.f v45 p1).bind fun t54 => ((strings_Builder_WriteString_ps0t.f t54.2 (get (p0.drop (Int.toNat (1 : Int))) v48)).bind fun t59 => strings_Join.l1 k p0 p1 t59.2 (w64 (v48 + 1)))) else none) else some v45)
def strings_Join.f (K : Nat) (p0 : List Str) (p1 : Str) : Option (Str) := (if ((p0.length : Int) == 0) = true then some ([]) else (if ((p0.length : Int) == 1) = true then (if 0 < (p0.length : Int) then some (get p0 0) else none) else (((if (p1.length : Int) > 0 then (if (w64 ((p0.length : Int) - 1) : Int) ≠ 0 then (if (p1.length : Int) ≥ w64 ((9223372036854775807 : Int).tdiv (w64 ((p0.length : Int) - 1))) then none else some (w64 ((0 : Int) + (w64 ((p1.length : Int) * (w64 ((p0.length : Int) - 1))))))) else none) else some 0)).bind fun m10 => ((strings_Join.l0 K p0 p1 m10 0).bind fun s30 => ((strings_Builder_Grow_pnsn.f s30).bind fun t32 => (if 0 < (p0.length : Int) then ((strings_Builder_WriteString_ps0t.f t32 (get p0 0)).bind fun t38 => (if 1 ≤ (p0.length : Int) then ((strings_Join.l1 K p0 p1 t38.2 0).bind fun s67 => ((strings_Builder_String_ps0t.f s67).bind fun t70 => some t70)) else none)) else none))))))
abbrev strings_Join.post (w0 : World) (r : Str) (u : Value) (w : World) : Prop := u = S r ∧ Ows [] w0 w []
theorem strings_Join.l0_ok : ∀ (k : Nat) (p0 : List Str) (p1 : Str) (v18 : Int) (v19 : Int) (out : Int), strings_Join.l0 k p0 p1 v18 v19 = some out → ∀ (o1 : Option Addr) (c2 : Nat) (w0 : World) (Q : Exit → Act → World → Prop) (rest : List It) (a : Act) (w : World), (hr0 : Rd w0 o1 (p0.map S)) → (hl0 : p0.length ≤ c2) → Kn 75 a [(0, .slice o1 p0.length c2), (1, S p1), (5, I v18), (39, .slice o1 p0.length c2), (40, I (p0.length : Int)), (41, I v19)] → Ows [] w0 w [] → (∀ (s : Int) (a : Act) (w : World), out = s → Kn 75 a [(0, .slice o1 p0.length c2), (1, S p1), (5, I s)] → Ows [] w0 w [] → G Tryd.prog Q rest a w) → G Tryd.prog Q (.code (C34 [1, 1, 1, 1, 0, 1, 0, 0]) :: .inl (C34 [1, 1, 1, 1, 0, 1, 0, 0]) :: .endb 1 :: rest) a w := by
  intro k
  induction k with
  | zero => intro p0 p1 v18 v19 out H; simp [strings_Join.l0] at H
  | succ k ih =>
    intro p0 p1 v18 v19 out H o1 c2 w0 Q rest a w hr0 hl0 hk ho J
    simp only [strings_Join.l0] at H
    refine st_seq (C34 [1, 1, 1, 1, 0, 1, 0, 0, 0]) (C34 [1, 1, 1, 1, 0, 1, 0, 0, 1]) (by kernel_rfl) ?_
    refine st_region 12 (opsOf (C34 [1, 1, 1, 1, 0, 1, 0, 0, 0])) [0] (by kernel_rfl) (by kernel_rfl) ?_
    refine st_pure tabOK hk [0] [] [0, 1, 5, 39, 40, 41, 42] [(0, .slice o1 p0.length c2), (1, S p1), (5, I v18), (39, .slice o1 p0.length c2), (40, I (p0.length : Int)), (41, I v19), (42, .bool (decide (v19 < (p0.length : Int))))] (True) (by kernel_rfl) trivial ?_
    clear hk; intro a hk
    refine st_done ?_
    refine st_seq (C34 [1, 1, 1, 1, 0, 1, 0, 0, 1, 0]) (C34 [1, 1, 1, 1, 0, 1, 0, 0, 1, 1]) (by kernel_rfl) ?_
    refine st_cond hk (C34 [1, 1, 1, 1, 0, 1, 0, 0, 1, 0, 0]) (C34 [1, 1, 1, 1, 0, 1, 0, 0, 1, 0, 1]) (.tmp 42) (decide (v19 < (p0.length : Int))) (by kernel_rfl) (by kernel_rfl) (fun h20 => ?_) (fun h20 => ?_)
    ·
      have h21 : v19 < (p0.length : Int) := of_decide_eq_true h20
      rw [if_pos h21] at H
      refine st_skip (by kernel_rfl) ?_
      refine st_seq (C34 [1, 1, 1, 1, 0, 1, 0, 0, 1, 1, 0]) (C34 [1, 1, 1, 1, 0, 1, 0, 0, 1, 1, 1]) (by kernel_rfl) ?_
      refine st_block 2 (C34 [1, 1, 1, 1, 0, 1, 0, 0, 1, 1, 0, 0]) (by kernel_rfl) ?_
      refine st_seq (C34 [1, 1, 1, 1, 0, 1, 0, 0, 1, 1, 0, 0, 0]) (C34 [1, 1, 1, 1, 0, 1, 0, 0, 1, 1, 0, 0, 1]) (by kernel_rfl) ?_
      refine st_region 13 (opsOf (C34 [1, 1, 1, 1, 0, 1, 0, 0, 1, 1, 0, 0, 0])) [0, 1, 2] (by kernel_rfl) (by kernel_rfl) ?_
      have h22 : (0 : Int) ≤ v19 := by
        by_cases h22 : (0 : Int) ≤ v19
        · exact h22
        · rw [if_neg h22] at H; cases H
      rw [if_pos h22] at H
      refine st_pure tabOK hk [0] [1, 2] [0, 1, 5, 39, 40, 41, 43] [(0, .slice o1 p0.length c2), (1, S p1), (5, I v18), (39, .slice o1 p0.length c2), (40, I (p0.length : Int)), (41, I v19), (43, .pointer (o1.map (·.add (v19.toNat * 1))))] ((o1.isSome = true ∧ (0 : Int) ≤ v19 ∧ v19 < (p0.length : Int)) ∧ True) (by kernel_rfl) ⟨⟨(Rd.some1 (hr0.old ho (fun _ _ => by simp)) h22 h21), h22, h21⟩, trivial⟩ ?_
      clear hk; intro a hk
      refine st_load1 tabOK hk 9 (o1.map (·.add (v19.toNat * 1))) 44 (by kernel_rfl) (by kernel_rfl) (S (get p0 v19)) ((hr0.old ho (fun _ _ => by simp)).elem1 h22 h21) ?_
      clear hk; intro a hk
      refine st_pure tabOK hk [2] [] [0, 1, 5, 7, 39, 40, 41] [(0, .slice o1 p0.length c2), (1, S p1), (5, I v18), (7, S (get p0 v19)), (39, .slice o1 p0.length c2), (40, I (p0.length : Int)), (41, I v19)] (True) (by kernel_rfl) trivial ?_
      clear hk; intro a hk
      refine st_done ?_
      refine st_seq (C34 [1, 1, 1, 1, 0, 1, 0, 0, 1, 1, 0, 0, 1, 0]) (C34 [1, 1, 1, 1, 0, 1, 0, 0, 1, 1, 0, 0, 1, 1]) (by kernel_rfl) ?_
      refine st_seq (C34 [1, 1, 1, 1, 0, 1, 0, 0, 1, 1, 0, 0, 1, 0, 0]) (C34 [1, 1, 1, 1, 0, 1, 0, 0, 1, 1, 0, 0, 1, 0, 1]) (by kernel_rfl) ?_
      refine st_region 14 (opsOf (C34 [1, 1, 1, 1, 0, 1, 0, 0, 1, 1, 0, 0, 1, 0, 0])) [0, 1, 2, 3, 4] (by kernel_rfl) (by kernel_rfl) ?_
      refine st_pure tabOK hk [0, 1, 2, 3, 4] [] [0, 1, 5, 7, 39, 40, 41, 49] [(0, .slice o1 p0.length c2), (1, S p1), (5, I v18), (7, S (get p0 v19)), (39, .slice o1 p0.length c2), (40, I (p0.length : Int)), (41, I v19), (49, .bool (decide (((get p0 v19).length : Int) > w64 ((9223372036854775807 : Int) - v18))))] (True) (by kernel_rfl) trivial ?_
      clear hk; intro a hk
      refine st_done ?_
      obtain ⟨m23, HX, H⟩ := Option.bind_eq_some_iff.1 H
      refine cut_code (fun a w => Kn 75 a [(0, .slice o1 p0.length c2), (1, S p1), (5, I v18), (7, S (get p0 v19)), (39, .slice o1 p0.length c2), (40, I (p0.length : Int)), (41, I v19)] ∧ Ows [] w0 w []) ?_ ?_
      · intro J; clear H; have H := HX; clear HX
        refine st_cond hk (C34 [1, 1, 1, 1, 0, 1, 0, 0, 1, 1, 0, 0, 1, 0, 1, 0]) (C34 [1, 1, 1, 1, 0, 1, 0, 0, 1, 1, 0, 0, 1, 0, 1, 1]) (.tmp 49) (decide (((get p0 v19).length : Int) > w64 ((9223372036854775807 : Int) - v18))) (by kernel_rfl) (by kernel_rfl) (fun h24 => ?_) (fun h24 => ?_)
        ·
          have h25 : ((get p0 v19).length : Int) > w64 ((9223372036854775807 : Int) - v18) := of_decide_eq_true h24
          rw [if_pos h25] at H
          exact nomatch H
        ·
          have h26 : ¬ (((get p0 v19).length : Int) > w64 ((9223372036854775807 : Int) - v18)) := of_decide_eq_false h24
          rw [if_neg h26] at H
          refine st_skip (by kernel_rfl) ?_
          obtain rfl := Option.some.inj H
          exact J a w ⟨hk.to [0, 1, 5, 7, 39, 40, 41] _ (by kernel_rfl), ho⟩
      · clear HX; rintro a w ⟨hk, ho⟩
        refine st_region 16 (opsOf (C34 [1, 1, 1, 1, 0, 1, 0, 0, 1, 1, 0, 0, 1, 1])) [0, 1, 2, 3, 4] (by kernel_rfl) (by kernel_rfl) ?_
        refine st_pure tabOK hk [0, 1, 2, 3, 4] [] [0, 1, 5, 39, 40, 41] [(0, .slice o1 p0.length c2), (1, S p1), (5, I (w64 (v18 + ((get p0 v19).length : Int)))), (39, .slice o1 p0.length c2), (40, I (p0.length : Int)), (41, I v19)] (True) (by kernel_rfl) trivial ?_
        clear hk; intro a hk
        refine st_done ?_
        refine st_endb 2 ?_
        refine st_region 17 (opsOf (C34 [1, 1, 1, 1, 0, 1, 0, 0, 1, 1, 1])) [0, 1] (by kernel_rfl) (by kernel_rfl) ?_
        refine st_pure tabOK hk [0, 1] [] [0, 1, 5, 39, 40, 41] [(0, .slice o1 p0.length c2), (1, S p1), (5, I (w64 (v18 + ((get p0 v19).length : Int)))), (39, .slice o1 p0.length c2), (40, I (p0.length : Int)), (41, I (w64 (v19 + 1)))] (True) (by kernel_rfl) trivial ?_
        clear hk; intro a hk
        refine st_done ?_
        refine st_inl ?_
        exact ih p0 p1 (w64 (v18 + ((get p0 v19).length : Int))) (w64 (v19 + 1)) out H o1 c2 w0 Q rest a w hr0 hl0 (hk.to [0, 1, 5, 39, 40, 41] _ (by kernel_rfl)) ho J
    ·
      have h27 : ¬ (v19 < (p0.length : Int)) := of_decide_eq_false h20
      rw [if_neg h27] at H
      refine st_exit 1 _ (by kernel_rfl) rfl ?_
      obtain rfl := Option.some.inj H
      exact J v18  a w rfl (hk.to [0, 1, 5] _ (by kernel_rfl)) ho

theorem strings_Join.l1_ok : ∀ (k : Nat) (p0 : List Str) (p1 : Str) (v45 : List UInt8) (v48 : Int) (out : List UInt8), strings_Join.l1 k p0 p1 v45 v48 = some out → ∀ (o1 : Option Addr) (c2 : Nat) (b31 : Nat) (o46 : Option Addr) (c47 : Nat) (w0 : World) (Q : Exit → Act → World → Prop) (rest : List It) (a : Act) (w : World), (hr0 : Rd w0 o1 (p0.map S)) → (hl0 : p0.length ≤ c2) → Kn 75 a [(1, S p1), (8, .pointer (some ⟨b31, 0, none⟩)), (63, .slice (shA o1 c2 (Int.toNat (1 : Int)) 1) ((p0.drop (Int.toNat (1 : Int))).length) (c2 - Int.toNat (1 : Int))), (64, I ((p0.drop (Int.toNat (1 : Int))).length : Int)), (65, I v48)] → Ows [] w0 w [.blk b31 (.cells #[.pointer (some ⟨b31, 0, none⟩), .slice o46 v45.length c47] 64 (0, 0)), .row 1 5 1 (.slice o46 v45.length c47) v45.length (v45.map bV)] → (∀ (s : List UInt8) (o49 : Option Addr) (c50 : Nat) (a : Act) (w : World), out = s → Kn 75 a [(8, .pointer (some ⟨b31, 0, none⟩))] → Ows [] w0 w [.blk b31 (.cells #[.pointer (some ⟨b31, 0, none⟩), .slice o49 s.length c50] 64 (0, 0)), .row 1 5 1 (.slice o49 s.length c50) s.length (s.map bV)] → G Tryd.prog Q rest a w) → G Tryd.prog Q (.code (C34 [1, 1, 1, 1, 1, 1, 1, 1, 0, 1, 0, 0]) :: .inl (C34 [1, 1, 1, 1, 1, 1, 1, 1, 0, 1, 0, 0]) :: .endb 3 :: rest) a w := by
  intro k
  induction k with
  | zero => intro p0 p1 v45 v48 out H; simp [strings_Join.l1] at H
  | succ k ih =>
    intro p0 p1 v45 v48 out H o1 c2 b31 o46 c47 w0 Q rest a w hr0 hl0 hk ho J
    simp only [strings_Join.l1] at H
    refine st_seq (C34 [1, 1, 1, 1, 1, 1, 1, 1, 0, 1, 0, 0, 0]) (C34 [1, 1, 1, 1, 1, 1, 1, 1, 0, 1, 0, 0, 1]) (by kernel_rfl) ?_
    refine st_region 22 (opsOf (C34 [1, 1, 1, 1, 1, 1, 1, 1, 0, 1, 0, 0, 0])) [0] (by kernel_rfl) (by kernel_rfl) ?_
    refine st_pure tabOK hk [0] [] [1, 8, 63, 64, 65, 66] [(1, S p1), (8, .pointer (some ⟨b31, 0, none⟩)), (63, .slice (shA o1 c2 (Int.toNat (1 : Int)) 1) ((p0.drop (Int.toNat (1 : Int))).length) (c2 - Int.toNat (1 : Int))), (64, I ((p0.drop (Int.toNat (1 : Int))).length : Int)), (65, I v48), (66, .bool (decide (v48 < ((p0.drop (Int.toNat (1 : Int))).length : Int))))] (True) (by kernel_rfl) trivial ?_
    clear hk; intro a hk
    refine st_done ?_
    refine st_seq (C34 [1, 1, 1, 1, 1, 1, 1, 1, 0, 1, 0, 0, 1, 0]) (C34 [1, 1, 1, 1, 1, 1, 1, 1, 0, 1, 0, 0, 1, 1]) (by kernel_rfl) ?_
    refine st_cond hk (C34 [1, 1, 1, 1, 1, 1, 1, 1, 0, 1, 0, 0, 1, 0, 0]) (C34 [1, 1, 1, 1, 1, 1, 1, 1, 0, 1, 0, 0, 1, 0, 1]) (.tmp 66) (decide (v48 < ((p0.drop (Int.toNat (1 : Int))).length : Int))) (by kernel_rfl) (by kernel_rfl) (fun h51 => ?_) (fun h51 => ?_)
    ·
      have h52 : v48 < ((p0.drop (Int.toNat (1 : Int))).length : Int) := of_decide_eq_true h51
      rw [if_pos h52] at H
      refine st_skip (by kernel_rfl) ?_
      refine st_seq (C34 [1, 1, 1, 1, 1, 1, 1, 1, 0, 1, 0, 0, 1, 1, 0]) (C34 [1, 1, 1, 1, 1, 1, 1, 1, 0, 1, 0, 0, 1, 1, 1]) (by kernel_rfl) ?_
      refine st_block 4 (C34 [1, 1, 1, 1, 1, 1, 1, 1, 0, 1, 0, 0, 1, 1, 0, 0]) (by kernel_rfl) ?_
      refine st_seq (C34 [1, 1, 1, 1, 1, 1, 1, 1, 0, 1, 0, 0, 1, 1, 0, 0, 0]) (C34 [1, 1, 1, 1, 1, 1, 1, 1, 0, 1, 0, 0, 1, 1, 0, 0, 1]) (by kernel_rfl) ?_
      refine st_region 23 (opsOf (C34 [1, 1, 1, 1, 1, 1, 1, 1, 0, 1, 0, 0, 1, 1, 0, 0, 0])) [0, 1, 2] (by kernel_rfl) (by kernel_rfl) ?_
      have h53 : (0 : Int) ≤ v48 := by
        by_cases h53 : (0 : Int) ≤ v48
        · exact h53
        · rw [if_neg h53] at H; cases H
      rw [if_pos h53] at H
      refine st_pure tabOK hk [0] [1, 2] [1, 8, 63, 64, 65, 67] [(1, S p1), (8, .pointer (some ⟨b31, 0, none⟩)), (63, .slice (shA o1 c2 (Int.toNat (1 : Int)) 1) ((p0.drop (Int.toNat (1 : Int))).length) (c2 - Int.toNat (1 : Int))), (64, I ((p0.drop (Int.toNat (1 : Int))).length : Int)), (65, I v48), (67, .pointer ((shA o1 c2 (Int.toNat (1 : Int)) 1).map (·.add (v48.toNat * 1))))] (((shA o1 c2 (Int.toNat (1 : Int)) 1).isSome = true ∧ (0 : Int) ≤ v48 ∧ v48 < ((p0.drop (Int.toNat (1 : Int))).length : Int)) ∧ True) (by kernel_rfl) ⟨⟨(Rd.some1 (Rd.drop1 (hr0.old ho (fun _ _ => by simp)) hl0 (Int.toNat (1 : Int))) h53 h52), h53, h52⟩, trivial⟩ ?_
      clear hk; intro a hk
      refine st_load1 tabOK hk 9 ((shA o1 c2 (Int.toNat (1 : Int)) 1).map (·.add (v48.toNat * 1))) 68 (by kernel_rfl) (by kernel_rfl) (S (get (p0.drop (Int.toNat (1 : Int))) v48)) ((Rd.drop1 (hr0.old ho (fun _ _ => by simp)) hl0 (Int.toNat (1 : Int))).elem1 h53 h52) ?_
      clear hk; intro a hk
      refine st_pure tabOK hk [2] [] [1, 8, 10, 63, 64, 65] [(1, S p1), (8, .pointer (some ⟨b31, 0, none⟩)), (10, S (get (p0.drop (Int.toNat (1 : Int))) v48)), (63, .slice (shA o1 c2 (Int.toNat (1 : Int)) 1) ((p0.drop (Int.toNat (1 : Int))).length) (c2 - Int.toNat (1 : Int))), (64, I ((p0.drop (Int.toNat (1 : Int))).length : Int)), (65, I v48)] (True) (by kernel_rfl) trivial ?_
      clear hk; intro a hk
      refine st_done ?_
      refine st_seq (C34 [1, 1, 1, 1, 1, 1, 1, 1, 0, 1, 0, 0, 1, 1, 0, 0, 1, 0]) (C34 [1, 1, 1, 1, 1, 1, 1, 1, 0, 1, 0, 0, 1, 1, 0, 0, 1, 1]) (by kernel_rfl) ?_
      refine st_region 24 (opsOf (C34 [1, 1, 1, 1, 1, 1, 1, 1, 0, 1, 0, 0, 1, 1, 0, 0, 1, 0])) [0, 1] (by kernel_rfl) (by kernel_rfl) ?_
      refine st_pure tabOK hk [0] [1] [1, 8, 10, 63, 64, 65, 69] [(1, S p1), (8, .pointer (some ⟨b31, 0, none⟩)), (10, S (get (p0.drop (Int.toNat (1 : Int))) v48)), (63, .slice (shA o1 c2 (Int.toNat (1 : Int)) 1) ((p0.drop (Int.toNat (1 : Int))).length) (c2 - Int.toNat (1 : Int))), (64, I ((p0.drop (Int.toNat (1 : Int))).length : Int)), (65, I v48), (69, S p1)] (True) (by kernel_rfl) trivial ?_
      clear hk; intro a hk
      obtain ⟨t54, h55, H⟩ := Option.bind_eq_some_iff.1 H
      refine st_call hk 50 [.pointer (some ⟨b31, 0, none⟩), S p1] (some 70) enters50 (by kernel_rfl) (strings_Builder_WriteString_ps0t.ok  v45 p1 t54 h55 w b31 o46 c47 (Ows.has (K := [.blk b31 (.cells #[.pointer (some ⟨b31, 0, none⟩), .slice o46 v45.length c47] 64 (0, 0)), .row 1 5 1 (.slice o46 v45.length c47) v45.length (v45.map bV)]) (L := []) ho)) ?_
      clear hk; rintro a u w ⟨o56, c57, rfl, ho'⟩ hk
      replace ho : Ows [] w0 w [.blk b31 (.cells #[.pointer (some ⟨b31, 0, none⟩), .slice o56 t54.2.length c57] 64 (0, 0)), .row 1 5 1 (.slice o56 t54.2.length c57) t54.2.length (t54.2.map bV)] := Ows.callP (K := [.blk b31 (.cells #[.pointer (some ⟨b31, 0, none⟩), .slice o46 v45.length c47] 64 (0, 0)), .row 1 5 1 (.slice o46 v45.length c47) v45.length (v45.map bV)]) (L := []) ho ho' rfl; clear ho'
      refine st_done ?_
      refine st_region 25 (opsOf (C34 [1, 1, 1, 1, 1, 1, 1, 1, 0, 1, 0, 0, 1, 1, 0, 0, 1, 1])) [0, 1] (by kernel_rfl) (by kernel_rfl) ?_
      refine st_pure tabOK hk [0] [1] [1, 8, 63, 64, 65, 71] [(1, S p1), (8, .pointer (some ⟨b31, 0, none⟩)), (63, .slice (shA o1 c2 (Int.toNat (1 : Int)) 1) ((p0.drop (Int.toNat (1 : Int))).length) (c2 - Int.toNat (1 : Int))), (64, I ((p0.drop (Int.toNat (1 : Int))).length : Int)), (65, I v48), (71, S (get (p0.drop (Int.toNat (1 : Int))) v48))] (True) (by kernel_rfl) trivial ?_
      clear hk; intro a hk
      obtain ⟨t59, h60, H⟩ := Option.bind_eq_some_iff.1 H
      refine st_call hk 50 [.pointer (some ⟨b31, 0, none⟩), S (get (p0.drop (Int.toNat (1 : Int))) v48)] (some 72) enters50 (by kernel_rfl) (strings_Builder_WriteString_ps0t.ok  t54.2 (get (p0.drop (Int.toNat (1 : Int))) v48) t59 h60 w b31 o56 c57 (Ows.has (K := [.blk b31 (.cells #[.pointer (some ⟨b31, 0, none⟩), .slice o56 t54.2.length c57] 64 (0, 0)), .row 1 5 1 (.slice o56 t54.2.length c57) t54.2.length (t54.2.map bV)]) (L := []) ho)) ?_
      clear hk; rintro a u w ⟨o61, c62, rfl, ho'⟩ hk
      replace ho : Ows [] w0 w [.blk b31 (.cells #[.pointer (some ⟨b31, 0, none⟩), .slice o61 t59.2.length c62] 64 (0, 0)), .row 1 5 1 (.slice o61 t59.2.length c62) t59.2.length (t59.2.map bV)] := Ows.callP (K := [.blk b31 (.cells #[.pointer (some ⟨b31, 0, none⟩), .slice o56 t54.2.length c57] 64 (0, 0)), .row 1 5 1 (.slice o56 t54.2.length c57) t54.2.length (t54.2.map bV)]) (L := []) ho ho' rfl; clear ho'
      refine st_done ?_
      refine st_endb 4 ?_
      refine st_region 26 (opsOf (C34 [1, 1, 1, 1, 1, 1, 1, 1, 0, 1, 0, 0, 1, 1, 1])) [0, 1] (by kernel_rfl) (by kernel_rfl) ?_
      refine st_pure tabOK hk [0, 1] [] [1, 8, 63, 64, 65] [(1, S p1), (8, .pointer (some ⟨b31, 0, none⟩)), (63, .slice (shA o1 c2 (Int.toNat (1 : Int)) 1) ((p0.drop (Int.toNat (1 : Int))).length) (c2 - Int.toNat (1 : Int))), (64, I ((p0.drop (Int.toNat (1 : Int))).length : Int)), (65, I (w64 (v48 + 1)))] (True) (by kernel_rfl) trivial ?_
      clear hk; intro a hk
      refine st_done ?_
      refine st_inl ?_
      exact ih p0 p1 t59.2 (w64 (v48 + 1)) out H o1 c2 b31 o61 c62 w0 Q rest a w hr0 hl0 (hk.to [1, 8, 63, 64, 65] _ (by kernel_rfl)) ho J
    ·
      have h64 : ¬ (v48 < ((p0.drop (Int.toNat (1 : Int))).length : Int)) := of_decide_eq_false h51
      rw [if_neg h64] at H
      refine st_exit 3 _ (by kernel_rfl) rfl ?_
      obtain rfl := Option.some.inj H
      exact J v45 o46 c47 a w rfl (hk.to [8] _ (by kernel_rfl)) ho

theorem strings_Join.ok (K : Nat) (p0 : List Str) (p1 : Str) (r : Str) (H : strings_Join.f K p0 p1 = some r) (w0 : World) (o1 : Option Addr) (c2 : Nat) (hr0 : Rd w0 o1 (p0.map S)) (hl0 : p0.length ≤ c2) : Calls Tryd.prog 34 ⟨[.slice o1 p0.length c2, S p1]⟩ w0 fun e w => ∃ u, e = .returned u ∧ strings_Join.post w0 r u w := by
  unfold strings_Join.f at H
  refine st_start (N := 75) [.slice o1 p0.length c2, S p1] (C34 []) func34 (by kernel_rfl) (by kernel_rfl) (by kernel_rfl) ?_
  intro a w hk ho
  refine st_seq (C34 [0]) (C34 [1]) (by kernel_rfl) ?_
  refine st_region 0 (opsOf (C34 [0])) [0] (by kernel_rfl) (by kernel_rfl) ?_
  refine st_pure tabOK hk [0] [] [0, 1] [(0, .slice o1 p0.length c2), (1, S p1)] (True) (by kernel_rfl) trivial ?_
  clear hk; intro a hk
  refine st_done ?_
  refine st_seq (C34 [1, 0]) (C34 [1, 1]) (by kernel_rfl) ?_
  refine st_seq (C34 [1, 0, 0]) (C34 [1, 0, 1]) (by kernel_rfl) ?_
  refine st_region 1 (opsOf (C34 [1, 0, 0])) [0, 1] (by kernel_rfl) (by kernel_rfl) ?_
  refine st_pure tabOK hk [0, 1] [] [0, 1, 12] [(0, .slice o1 p0.length c2), (1, S p1), (12, I (p0.length : Int))] (True) (by kernel_rfl) trivial ?_
  clear hk; intro a hk
  refine st_done ?_
  refine st_block 0 (C34 [1, 0, 1, 0]) (by kernel_rfl) ?_
  refine st_seq (C34 [1, 0, 1, 0, 0]) (C34 [1, 0, 1, 0, 1]) (by kernel_rfl) ?_
  refine st_region 2 (opsOf (C34 [1, 0, 1, 0, 0])) [0, 1] (by kernel_rfl) (by kernel_rfl) ?_
  refine st_pure tabOK hk [0, 1] [] [0, 1, 12, 13] [(0, .slice o1 p0.length c2), (1, S p1), (12, I (p0.length : Int)), (13, .bool ((p0.length : Int) == 0))] (True) (by kernel_rfl) trivial ?_
  clear hk; intro a hk
  refine st_done ?_
  refine st_cond hk (C34 [1, 0, 1, 0, 1, 0]) (C34 [1, 0, 1, 0, 1, 1]) (.tmp 13) ((p0.length : Int) == 0) (by kernel_rfl) (by kernel_rfl) (fun h3 => ?_) (fun h3 => ?_)
  ·
    have h4 : ((p0.length : Int) == 0) = true := h3
    rw [if_pos h4] at H
    refine st_seq (C34 [1, 0, 1, 0, 1, 0, 0]) (C34 [1, 0, 1, 0, 1, 0, 1]) (by kernel_rfl) ?_
    refine st_region 3 (opsOf (C34 [1, 0, 1, 0, 1, 0, 0])) [0] (by kernel_rfl) (by kernel_rfl) ?_
    refine st_pure tabOK hk [0] [] [4] [(4, S ([]))] (True) (by kernel_rfl) trivial ?_
    clear hk; intro a hk
    refine st_done ?_
    refine st_retG hk (by kernel_rfl) [S ([])] #[.tmp 4] (by kernel_rfl) ⟨resT hk (by kernel_rfl), trivial⟩ ?_
    obtain rfl := Option.some.inj H
    exact ⟨_, rfl, rfl, ho⟩
  ·
    have h5 : ¬ (((p0.length : Int) == 0) = true) := ne_true_of_eq_false h3
    rw [if_neg h5] at H
    refine st_seq (C34 [1, 0, 1, 0, 1, 1, 0]) (C34 [1, 0, 1, 0, 1, 1, 1]) (by kernel_rfl) ?_
    refine st_region 4 (opsOf (C34 [1, 0, 1, 0, 1, 1, 0])) [0, 1] (by kernel_rfl) (by kernel_rfl) ?_
    refine st_pure tabOK hk [0, 1] [] [0, 1, 15] [(0, .slice o1 p0.length c2), (1, S p1), (15, .bool ((p0.length : Int) == 1))] (True) (by kernel_rfl) trivial ?_
    clear hk; intro a hk
    refine st_done ?_
    refine st_cond hk (C34 [1, 0, 1, 0, 1, 1, 1, 0]) (C34 [1, 0, 1, 0, 1, 1, 1, 1]) (.tmp 15) ((p0.length : Int) == 1) (by kernel_rfl) (by kernel_rfl) (fun h6 => ?_) (fun h6 => ?_)
    ·
      have h7 : ((p0.length : Int) == 1) = true := h6
      rw [if_pos h7] at H
      refine st_seq (C34 [1, 0, 1, 0, 1, 1, 1, 0, 0]) (C34 [1, 0, 1, 0, 1, 1, 1, 0, 1]) (by kernel_rfl) ?_
      refine st_region 5 (opsOf (C34 [1, 0, 1, 0, 1, 1, 1, 0, 0])) [0, 1, 2, 3] (by kernel_rfl) (by kernel_rfl) ?_
      have h8 : 0 < (p0.length : Int) := by
        by_cases h8 : 0 < (p0.length : Int)
        · exact h8
        · rw [if_neg h8] at H; cases H
      rw [if_pos h8] at H
      refine st_pure tabOK hk [0, 1] [2, 3] [18] [(18, .pointer (o1.map (·.add ((0 : Int).toNat * 1))))] ((o1.isSome = true ∧ (0 : Int) ≤ 0 ∧ 0 < (p0.length : Int)) ∧ True) (by kernel_rfl) ⟨⟨(Rd.some1 (hr0.old ho (fun _ _ => by simp)) (by decide) h8), (by decide), h8⟩, trivial⟩ ?_
      clear hk; intro a hk
      refine st_load1 tabOK hk 9 (o1.map (·.add ((0 : Int).toNat * 1))) 19 (by kernel_rfl) (by kernel_rfl) (S (get p0 0)) ((hr0.old ho (fun _ _ => by simp)).elem1 (by decide) h8) ?_
      clear hk; intro a hk
      refine st_pure tabOK hk [3] [] [4] [(4, S (get p0 0))] (True) (by kernel_rfl) trivial ?_
      clear hk; intro a hk
      refine st_done ?_
      refine st_retG hk (by kernel_rfl) [S (get p0 0)] #[.tmp 4] (by kernel_rfl) ⟨resT hk (by kernel_rfl), trivial⟩ ?_
      obtain rfl := Option.some.inj H
      exact ⟨_, rfl, rfl, ho⟩
    ·
      have h9 : ¬ (((p0.length : Int) == 1) = true) := ne_true_of_eq_false h6
      rw [if_neg h9] at H
      refine st_skip (by kernel_rfl) ?_
      refine st_endb 0 ?_
      refine st_seq (C34 [1, 1, 0]) (C34 [1, 1, 1]) (by kernel_rfl) ?_
      refine st_region 6 (opsOf (C34 [1, 1, 0])) [0] (by kernel_rfl) (by kernel_rfl) ?_
      refine st_pure tabOK hk [0] [] [0, 1, 5] [(0, .slice o1 p0.length c2), (1, S p1), (5, I 0)] (True) (by kernel_rfl) trivial ?_
      clear hk; intro a hk
      refine st_done ?_
      refine st_seq (C34 [1, 1, 1, 0]) (C34 [1, 1, 1, 1]) (by kernel_rfl) ?_
      refine st_seq (C34 [1, 1, 1, 0, 0]) (C34 [1, 1, 1, 0, 1]) (by kernel_rfl) ?_
      refine st_region 7 (opsOf (C34 [1, 1, 1, 0, 0])) [0, 1, 2] (by kernel_rfl) (by kernel_rfl) ?_
      refine st_pure tabOK hk [0, 1, 2] [] [0, 1, 5, 22] [(0, .slice o1 p0.length c2), (1, S p1), (5, I 0), (22, .bool (decide ((p1.length : Int) > 0)))] (True) (by kernel_rfl) trivial ?_
      clear hk; intro a hk
      refine st_done ?_
      obtain ⟨m10, HX, H⟩ := Option.bind_eq_some_iff.1 H
      refine cut_code (fun a w => Kn 75 a [(0, .slice o1 p0.length c2), (1, S p1), (5, I m10)] ∧ Ows [] w0 w []) ?_ ?_
      · intro J; clear H; have H := HX; clear HX
        refine st_cond hk (C34 [1, 1, 1, 0, 1, 0]) (C34 [1, 1, 1, 0, 1, 1]) (.tmp 22) (decide ((p1.length : Int) > 0)) (by kernel_rfl) (by kernel_rfl) (fun h11 => ?_) (fun h11 => ?_)
        ·
          have h12 : (p1.length : Int) > 0 := of_decide_eq_true h11
          rw [if_pos h12] at H
          refine st_seq (C34 [1, 1, 1, 0, 1, 0, 0]) (C34 [1, 1, 1, 0, 1, 0, 1]) (by kernel_rfl) ?_
          refine st_seq (C34 [1, 1, 1, 0, 1, 0, 0, 0]) (C34 [1, 1, 1, 0, 1, 0, 0, 1]) (by kernel_rfl) ?_
          refine st_region 8 (opsOf (C34 [1, 1, 1, 0, 1, 0, 0, 0])) [0, 1, 2, 3, 4, 5, 6] (by kernel_rfl) (by kernel_rfl) ?_
          have h13 : (w64 ((p0.length : Int) - 1) : Int) ≠ 0 := by
            by_cases h13 : (w64 ((p0.length : Int) - 1) : Int) ≠ 0
            · exact h13
            · rw [if_neg h13] at H; cases H
          rw [if_pos h13] at H
          refine st_pure tabOK hk [0, 1, 2, 3, 4, 5, 6] [] [0, 1, 5, 29] [(0, .slice o1 p0.length c2), (1, S p1), (5, I 0), (29, .bool (decide ((p1.length : Int) ≥ w64 ((9223372036854775807 : Int).tdiv (w64 ((p0.length : Int) - 1))))))] ((w64 ((p0.length : Int) - 1) : Int) ≠ 0 ∧ True) (by kernel_rfl) ⟨h13, trivial⟩ ?_
          clear hk; intro a hk
          refine st_done ?_
          refine st_cond hk (C34 [1, 1, 1, 0, 1, 0, 0, 1, 0]) (C34 [1, 1, 1, 0, 1, 0, 0, 1, 1]) (.tmp 29) (decide ((p1.length : Int) ≥ w64 ((9223372036854775807 : Int).tdiv (w64 ((p0.length : Int) - 1))))) (by kernel_rfl) (by kernel_rfl) (fun h14 => ?_) (fun h14 => ?_)
          ·
            have h15 : (p1.length : Int) ≥ w64 ((9223372036854775807 : Int).tdiv (w64 ((p0.length : Int) - 1))) := of_decide_eq_true h14
            rw [if_pos h15] at H
            exact nomatch H
          ·
            have h16 : ¬ ((p1.length : Int) ≥ w64 ((9223372036854775807 : Int).tdiv (w64 ((p0.length : Int) - 1)))) := of_decide_eq_false h14
            rw [if_neg h16] at H
            refine st_skip (by kernel_rfl) ?_
            refine st_region 10 (opsOf (C34 [1, 1, 1, 0, 1, 0, 1])) [0, 1, 2, 3, 4, 5, 6, 7, 8] (by kernel_rfl) (by kernel_rfl) ?_
            refine st_pure tabOK hk [0, 1, 2, 3, 4, 5, 6, 7, 8] [] [0, 1, 5] [(0, .slice o1 p0.length c2), (1, S p1), (5, I (w64 ((0 : Int) + (w64 ((p1.length : Int) * (w64 ((p0.length : Int) - 1)))))))] (True) (by kernel_rfl) trivial ?_
            clear hk; intro a hk
            refine st_done ?_
            obtain rfl := Option.some.inj H
            exact J a w ⟨hk.to [0, 1, 5] _ (by kernel_rfl), ho⟩
        ·
          have h17 : ¬ ((p1.length : Int) > 0) := of_decide_eq_false h11
          rw [if_neg h17] at H
          refine st_skip (by kernel_rfl) ?_
          obtain rfl := Option.some.inj H
          exact J a w ⟨hk.to [0, 1, 5] _ (by kernel_rfl), ho⟩
      · clear HX; rintro a w ⟨hk, ho⟩
        refine st_seq (C34 [1, 1, 1, 1, 0]) (C34 [1, 1, 1, 1, 1]) (by kernel_rfl) ?_
        refine st_seq (C34 [1, 1, 1, 1, 0, 0]) (C34 [1, 1, 1, 1, 0, 1]) (by kernel_rfl) ?_
        refine st_region 11 (opsOf (C34 [1, 1, 1, 1, 0, 0])) [0, 1, 2] (by kernel_rfl) (by kernel_rfl) ?_
        refine st_pure tabOK hk [0, 1, 2] [] [0, 1, 5, 39, 40, 41] [(0, .slice o1 p0.length c2), (1, S p1), (5, I m10), (39, .slice o1 p0.length c2), (40, I (p0.length : Int)), (41, I 0)] (True) (by kernel_rfl) trivial ?_
        clear hk; intro a hk
        refine st_done ?_
        refine st_block 1 (C34 [1, 1, 1, 1, 0, 1, 0]) (by kernel_rfl) ?_
        obtain ⟨m28, h29, H⟩ := Option.bind_eq_some_iff.1 H
        refine st_loop (C34 [1, 1, 1, 1, 0, 1, 0, 0]) (by kernel_rfl) ?_
        refine strings_Join.l0_ok K p0 p1 m10 0 m28 h29 o1 c2 w0 _ _ a w hr0 hl0 (hk.to [0, 1, 5, 39, 40, 41] _ (by kernel_rfl)) ho ?_
        · intro s30  a w e hk ho; have e := e.symm; subst e
          refine st_seq (C34 [1, 1, 1, 1, 1, 0]) (C34 [1, 1, 1, 1, 1, 1]) (by kernel_rfl) ?_
          refine st_region 18 (opsOf (C34 [1, 1, 1, 1, 1, 0])) [0] (by kernel_rfl) (by kernel_rfl) ?_
          refine st_new tabOK hk ho #[.pointer none, .slice none 0 0] 64 8 (by kernel_rfl) ?_
          clear hk ho; intro a b31 w hk ho
          refine st_done ?_
          refine st_seq (C34 [1, 1, 1, 1, 1, 1, 0]) (C34 [1, 1, 1, 1, 1, 1, 1]) (by kernel_rfl) ?_
          refine st_region 19 (opsOf (C34 [1, 1, 1, 1, 1, 1, 0])) [0, 1] (by kernel_rfl) (by kernel_rfl) ?_
          refine st_pure tabOK hk [0] [1] [0, 1, 8, 56] [(0, .slice o1 p0.length c2), (1, S p1), (8, .pointer (some ⟨b31, 0, none⟩)), (56, I s30)] (True) (by kernel_rfl) trivial ?_
          clear hk; intro a hk
          obtain ⟨t32, h33, H⟩ := Option.bind_eq_some_iff.1 H
          refine st_call hk 49 [.pointer (some ⟨b31, 0, none⟩), I s30] (some 57) enters49 (by kernel_rfl) (strings_Builder_Grow_pnsn.ok  s30 t32 h33 w b31 (Ows.has (K := [.blk b31 (.cells #[.pointer none, .slice none 0 0] 64 (0, 0))]) (L := []) ho)) ?_
          clear hk; rintro a u w ⟨o34, c35, rfl, ho'⟩ hk
          replace ho : Ows [] w0 w [.blk b31 (.cells #[.pointer (some ⟨b31, 0, none⟩), .slice o34 t32.length c35] 64 (0, 0)), .row 1 5 1 (.slice o34 t32.length c35) t32.length (t32.map bV)] := Ows.callP (K := [.blk b31 (.cells #[.pointer none, .slice none 0 0] 64 (0, 0))]) (L := []) ho ho' rfl; clear ho'
          refine st_done ?_
          refine st_seq (C34 [1, 1, 1, 1, 1, 1, 1, 0]) (C34 [1, 1, 1, 1, 1, 1, 1, 1]) (by kernel_rfl) ?_
          refine st_region 20 (opsOf (C34 [1, 1, 1, 1, 1, 1, 1, 0])) [0, 1, 2, 3] (by kernel_rfl) (by kernel_rfl) ?_
          have h37 : 0 < (p0.length : Int) := by
            by_cases h37 : 0 < (p0.length : Int)
            · exact h37
            · rw [if_neg h37] at H; cases H
          rw [if_pos h37] at H
          refine st_pure tabOK hk [0, 1] [2, 3] [0, 1, 8, 59] [(0, .slice o1 p0.length c2), (1, S p1), (8, .pointer (some ⟨b31, 0, none⟩)), (59, .pointer (o1.map (·.add ((0 : Int).toNat * 1))))] ((o1.isSome = true ∧ (0 : Int) ≤ 0 ∧ 0 < (p0.length : Int)) ∧ True) (by kernel_rfl) ⟨⟨(Rd.some1 (hr0.old ho (fun _ _ => by simp)) (by decide) h37), (by decide), h37⟩, trivial⟩ ?_
          clear hk; intro a hk
          refine st_load1 tabOK hk 9 (o1.map (·.add ((0 : Int).toNat * 1))) 60 (by kernel_rfl) (by kernel_rfl) (S (get p0 0)) ((hr0.old ho (fun _ _ => by simp)).elem1 (by decide) h37) ?_
          clear hk; intro a hk
          obtain ⟨t38, h39, H⟩ := Option.bind_eq_some_iff.1 H
          refine st_call hk 50 [.pointer (some ⟨b31, 0, none⟩), S (get p0 0)] (some 61) enters50 (by kernel_rfl) (strings_Builder_WriteString_ps0t.ok  t32 (get p0 0) t38 h39 w b31 o34 c35 (Ows.has (K := [.blk b31 (.cells #[.pointer (some ⟨b31, 0, none⟩), .slice o34 t32.length c35] 64 (0, 0)), .row 1 5 1 (.slice o34 t32.length c35) t32.length (t32.map bV)]) (L := []) ho)) ?_
          clear hk; rintro a u w ⟨o40, c41, rfl, ho'⟩ hk
          replace ho : Ows [] w0 w [.blk b31 (.cells #[.pointer (some ⟨b31, 0, none⟩), .slice o40 t38.2.length c41] 64 (0, 0)), .row 1 5 1 (.slice o40 t38.2.length c41) t38.2.length (t38.2.map bV)] := Ows.callP (K := [.blk b31 (.cells #[.pointer (some ⟨b31, 0, none⟩), .slice o34 t32.length c35] 64 (0, 0)), .row 1 5 1 (.slice o34 t32.length c35) t32.length (t32.map bV)]) (L := []) ho ho' rfl; clear ho'
          refine st_done ?_
          refine st_seq (C34 [1, 1, 1, 1, 1, 1, 1, 1, 0]) (C34 [1, 1, 1, 1, 1, 1, 1, 1, 1]) (by kernel_rfl) ?_
          refine st_seq (C34 [1, 1, 1, 1, 1, 1, 1, 1, 0, 0]) (C34 [1, 1, 1, 1, 1, 1, 1, 1, 0, 1]) (by kernel_rfl) ?_
          refine st_region 21 (opsOf (C34 [1, 1, 1, 1, 1, 1, 1, 1, 0, 0])) [0, 1, 2, 3] (by kernel_rfl) (by kernel_rfl) ?_
          have h43 : 1 ≤ (p0.length : Int) := by
            by_cases h43 : 1 ≤ (p0.length : Int)
            · exact h43
            · rw [if_neg h43] at H; cases H
          rw [if_pos h43] at H
          refine st_pure tabOK hk [0, 1] [2, 3] [1, 8, 63] [(1, S p1), (8, .pointer (some ⟨b31, 0, none⟩)), (63, .slice (shA o1 c2 (Int.toNat (1 : Int)) 1) (p0.length - Int.toNat (1 : Int)) (c2 - Int.toNat (1 : Int)))] (((0 : Int) ≤ 1 ∧ 1 ≤ (p0.length : Int)) ∧ True) (by kernel_rfl) ⟨⟨(by decide), h43⟩, trivial⟩ ?_
          clear hk; intro a hk
          have h44 : p0.length - Int.toNat (1 : Int) = (p0.drop (Int.toNat (1 : Int))).length := by have g_1 := h43; (try simp only [List.length_take, List.length_drop, Int.toNat_natCast]); try omega
          replace hk : Kn 75 a [(1, S p1), (8, .pointer (some ⟨b31, 0, none⟩)), (63, .slice (shA o1 c2 (Int.toNat (1 : Int)) 1) ((p0.drop (Int.toNat (1 : Int))).length) (c2 - Int.toNat (1 : Int)))] := by rw [← h44]; exact hk.to [1, 8, 63] _ (by kernel_rfl)
          refine st_pure tabOK hk [2, 3] [] [1, 8, 63, 64, 65] [(1, S p1), (8, .pointer (some ⟨b31, 0, none⟩)), (63, .slice (shA o1 c2 (Int.toNat (1 : Int)) 1) ((p0.drop (Int.toNat (1 : Int))).length) (c2 - Int.toNat (1 : Int))), (64, I ((p0.drop (Int.toNat (1 : Int))).length : Int)), (65, I 0)] (True) (by kernel_rfl) trivial ?_
          clear hk; intro a hk
          refine st_done ?_
          refine st_block 3 (C34 [1, 1, 1, 1, 1, 1, 1, 1, 0, 1, 0]) (by kernel_rfl) ?_
          obtain ⟨m65, h66, H⟩ := Option.bind_eq_some_iff.1 H
          refine st_loop (C34 [1, 1, 1, 1, 1, 1, 1, 1, 0, 1, 0, 0]) (by kernel_rfl) ?_
          refine strings_Join.l1_ok K p0 p1 t38.2 0 m65 h66 o1 c2 b31 o40 c41 w0 _ _ a w hr0 hl0 (hk.to [1, 8, 63, 64, 65] _ (by kernel_rfl)) ho ?_
          · intro s67 o68 c69 a w e hk ho; have e := e.symm; subst e
            refine st_seq (C34 [1, 1, 1, 1, 1, 1, 1, 1, 1, 0]) (C34 [1, 1, 1, 1, 1, 1, 1, 1, 1, 1]) (by kernel_rfl) ?_
            refine st_region 27 (opsOf (C34 [1, 1, 1, 1, 1, 1, 1, 1, 1, 0])) [0, 1] (by kernel_rfl) (by kernel_rfl) ?_
            obtain ⟨t70, h71, H⟩ := Option.bind_eq_some_iff.1 H
            refine st_call hk 51 [.pointer (some ⟨b31, 0, none⟩)] (some 74) enters51 (by kernel_rfl) (strings_Builder_String_ps0t.ok  s67 t70 h71 w b31 o68 c69 (Ows.has (K := [.blk b31 (.cells #[.pointer (some ⟨b31, 0, none⟩), .slice o68 s67.length c69] 64 (0, 0)), .row 1 5 1 (.slice o68 s67.length c69) s67.length (s67.map bV)]) (L := []) ho)) ?_
            clear hk; rintro a u w ⟨rfl, ho'⟩ hk
            replace ho : Ows [] w0 w [.blk b31 (.cells #[.pointer (some ⟨b31, 0, none⟩), .slice o68 s67.length c69] 64 (0, 0))] := Ows.callP (K := [.blk b31 (.cells #[.pointer (some ⟨b31, 0, none⟩), .slice o68 s67.length c69] 64 (0, 0)), .row 1 5 1 (.slice o68 s67.length c69) s67.length (s67.map bV)]) (L := []) ho ho' rfl; clear ho'
            refine st_pure tabOK hk [1] [] [4] [(4, S t70)] (True) (by kernel_rfl) trivial ?_
            clear hk; intro a hk
            refine st_done ?_
            replace ho : Ows [] w0 w [] := ho.erase 0
            refine st_retG hk (by kernel_rfl) [S t70] #[.tmp 4] (by kernel_rfl) ⟨resT hk (by kernel_rfl), trivial⟩ ?_
            obtain rfl := Option.some.inj H
            exact ⟨_, rfl, rfl, ho⟩


/-! scullery/target.Dots: function 14 -/
noncomputable def C14 (p : List Nat) : Code := Sub (bodyOf f14) p
def target_Dots.l0 : Nat → List Str → List Str → Int → Option (List Str)
  | 0, _, _, _ => none
  | k + 1, t6, v17, v20 => (if v20 < (t6.length : Int) then (if (0 : Int) ≤ v20 then (((if ((get t6 v20) == ([46, 46])) = true then (if (0 : Int) ≤ mxI (w64 ((v17.length : Int) - 1)) 0 then (if mxI (w64 ((v17.length : Int) - 1)) 0 ≤ (v17.length : Int) then some (v17.take (Int.toNat (mxI (w64 ((v17.length : Int) - 1)) 0))) else none) else none) else some v17)).bind fun m29 => (((if (!(((get t6 v20) == ([46])) || ((get t6 v20) == ([46, 46])))) = true then (if m29.length + ([get t6 v20] : List (Str)).length ≤ 4294967296 then some (m29 ++ ([get t6 v20] : List (Str))) else none) else (if (v20 == (w64 ((t6.length : Int) - 1))) = true then (if m29.length + ([[]] : List (Str)).length ≤ 4294967296 then some (m29 ++ ([[]] : List (Str))) else none) else some m29))).bind fun m39 => target_Dots.l0 k t6 m39 (w64 (v20 + 1)))) else none) else some v17)
def target_Dots.f (K : Nat) (p0 : Str) : Option (Str) := (((strings_CutPrefix.f p0 ([47])).bind fun t1 => (if (!t1.2) = true then some p0 else ((strings_Split.f t1.1 ([47])).bind fun t6 => (if 0 ≤ w64 ((t6.length : Int) + 1) then (if w64 ((t6.length : Int) + 1) ≤ 4294967296 then ((target_Dots.l0 K t6 ([] : List Str) 0).bind fun s65 => ((strings_Join.f K s65 ([47])).bind fun t68 => (if ([47]).length + t68.length ≤ maxI then some (([47]) ++ t68) else none))) else none) else none)))))
abbrev target_Dots.post (w0 : World) (r : Str) (u : Value) (w : World) : Prop := u = S r ∧ Ows [] w0 w []
theorem target_Dots.l0_ok : ∀ (k : Nat) (t6 : List Str) (v17 : List Str) (v20 : Int) (out : List Str), target_Dots.l0 k t6 v17 v20 = some out → ∀ (o8 : Option Addr) (c9 : Nat) (o18 : Option Addr) (c19 : Nat) (w0 : World) (Q : Exit → Act → World → Prop) (rest : List It) (a : Act) (w : World), Kn 69 a [(5, .slice o8 t6.length c9), (6, .slice o18 v17.length c19), (25, .slice o8 t6.length c9), (26, I (t6.length : Int)), (27, I v20)] → Ows [] w0 w [.row 0 9 1 (.slice o18 v17.length c19) v17.length (v17.map S), .row 0 9 1 (.slice o8 t6.length c9) t6.length (t6.map S)] → (∀ (s : List Str) (o21 : Option Addr) (c22 : Nat) (a : Act) (w : World), out = s → Kn 69 a [(6, .slice o21 s.length c22)] → Ows [] w0 w [.row 0 9 1 (.slice o21 s.length c22) s.length (s.map S)] → G Tryd.prog Q rest a w) → G Tryd.prog Q (.code (C14 [1, 1, 1, 1, 1, 0, 1, 0, 0]) :: .inl (C14 [1, 1, 1, 1, 1, 0, 1, 0, 0]) :: .endb 0 :: rest) a w := by
  intro k
  induction k with
  | zero => intro t6 v17 v20 out H; simp [target_Dots.l0] at H
  | succ k ih =>
    intro t6 v17 v20 out H o8 c9 o18 c19 w0 Q rest a w  hk ho J
    simp only [target_Dots.l0] at H
    refine st_seq (C14 [1, 1, 1, 1, 1, 0, 1, 0, 0, 0]) (C14 [1, 1, 1, 1, 1, 0, 1, 0, 0, 1]) (by kernel_rfl) ?_
    refine st_region 7 (opsOf (C14 [1, 1, 1, 1, 1, 0, 1, 0, 0, 0])) [0] (by kernel_rfl) (by kernel_rfl) ?_
    refine st_pure tabOK hk [0] [] [5, 6, 25, 26, 27, 28] [(5, .slice o8 t6.length c9), (6, .slice o18 v17.length c19), (25, .slice o8 t6.length c9), (26, I (t6.length : Int)), (27, I v20), (28, .bool (decide (v20 < (t6.length : Int))))] (True) (by kernel_rfl) trivial ?_
    clear hk; intro a hk
    refine st_done ?_
    refine st_seq (C14 [1, 1, 1, 1, 1, 0, 1, 0, 0, 1, 0]) (C14 [1, 1, 1, 1, 1, 0, 1, 0, 0, 1, 1]) (by kernel_rfl) ?_
    refine st_cond hk (C14 [1, 1, 1, 1, 1, 0, 1, 0, 0, 1, 0, 0]) (C14 [1, 1, 1, 1, 1, 0, 1, 0, 0, 1, 0, 1]) (.tmp 28) (decide (v20 < (t6.length : Int))) (by kernel_rfl) (by kernel_rfl) (fun h23 => ?_) (fun h23 => ?_)
    ·
      have h24 : v20 < (t6.length : Int) := of_decide_eq_true h23
      rw [if_pos h24] at H
      refine st_skip (by kernel_rfl) ?_
      refine st_seq (C14 [1, 1, 1, 1, 1, 0, 1, 0, 0, 1, 1, 0]) (C14 [1, 1, 1, 1, 1, 0, 1, 0, 0, 1, 1, 1]) (by kernel_rfl) ?_
      refine st_block 1 (C14 [1, 1, 1, 1, 1, 0, 1, 0, 0, 1, 1, 0, 0]) (by kernel_rfl) ?_
      refine st_seq (C14 [1, 1, 1, 1, 1, 0, 1, 0, 0, 1, 1, 0, 0, 0]) (C14 [1, 1, 1, 1, 1, 0, 1, 0, 0, 1, 1, 0, 0, 1]) (by kernel_rfl) ?_
      refine st_region 8 (opsOf (C14 [1, 1, 1, 1, 1, 0, 1, 0, 0, 1, 1, 0, 0, 0])) [0, 1, 2, 3, 4] (by kernel_rfl) (by kernel_rfl) ?_
      have h25 : (0 : Int) ≤ v20 := by
        by_cases h25 : (0 : Int) ≤ v20
        · exact h25
        · rw [if_neg h25] at H; cases H
      rw [if_pos h25] at H
      refine st_pure tabOK hk [0, 1] [2, 3, 4] [5, 6, 25, 26, 27, 29, 30] [(5, .slice o8 t6.length c9), (6, .slice o18 v17.length c19), (25, .slice o8 t6.length c9), (26, I (t6.length : Int)), (27, I v20), (29, I v20), (30, .pointer (o8.map (·.add (v20.toNat * 1))))] ((o8.isSome = true ∧ (0 : Int) ≤ v20 ∧ v20 < (t6.length : Int)) ∧ True) (by kernel_rfl) ⟨⟨(Rd.some1 (ho.rd 1 rfl) h25 h24), h25, h24⟩, trivial⟩ ?_
      clear hk; intro a hk
      refine st_load1 tabOK hk 9 (o8.map (·.add (v20.toNat * 1))) 31 (by kernel_rfl) (by kernel_rfl) (S (get t6 v20)) ((ho.rd 1 rfl).elem1 h25 h24) ?_
      clear hk; intro a hk
      refine st_pure tabOK hk [3, 4] [] [5, 6, 7, 8, 25, 26, 27] [(5, .slice o8 t6.length c9), (6, .slice o18 v17.length c19), (7, I v20), (8, S (get t6 v20)), (25, .slice o8 t6.length c9), (26, I (t6.length : Int)), (27, I v20)] (True) (by kernel_rfl) trivial ?_
      clear hk; intro a hk
      refine st_done ?_
      refine st_seq (C14 [1, 1, 1, 1, 1, 0, 1, 0, 0, 1, 1, 0, 0, 1, 0]) (C14 [1, 1, 1, 1, 1, 0, 1, 0, 0, 1, 1, 0, 0, 1, 1]) (by kernel_rfl) ?_
      refine st_region 9 (opsOf (C14 [1, 1, 1, 1, 1, 0, 1, 0, 0, 1, 1, 0, 0, 1, 0])) [0, 1, 2, 3, 4, 5, 6] (by kernel_rfl) (by kernel_rfl) ?_
      refine st_pure tabOK hk [0, 1, 2] [3, 4, 5, 6] [5, 6, 7, 8, 25, 26, 27, 34] [(5, .slice o8 t6.length c9), (6, .slice o18 v17.length c19), (7, I v20), (8, S (get t6 v20)), (25, .slice o8 t6.length c9), (26, I (t6.length : Int)), (27, I v20), (34, .bool ((get t6 v20) == ([46])))] (True) (by kernel_rfl) trivial ?_
      clear hk; intro a hk
      refine cut_ops (fun a w => Kn 69 a [(5, .slice o8 t6.length c9), (6, .slice o18 v17.length c19), (7, I v20), (8, S (get t6 v20)), (9, .bool (((get t6 v20) == ([46])) || ((get t6 v20) == ([46, 46])))), (25, .slice o8 t6.length c9), (26, I (t6.length : Int)), (27, I v20)] ∧ Ows [] w0 w [.row 0 9 1 (.slice o18 v17.length c19) v17.length (v17.map S), .row 0 9 1 (.slice o8 t6.length c9) t6.length (t6.map S)]) ?_ ?_
      · intro J
        rcases Bool.eq_false_or_eq_true ((get t6 v20) == ([46])) with h26 | h26
        ·
          rw [h26] at hk
          have h27 : ((get t6 v20) == ([46])) = true := h26
          refine st_pure tabOK hk [3, 4, 5, 6] [] [5, 6, 7, 8, 9, 25, 26, 27] [(5, .slice o8 t6.length c9), (6, .slice o18 v17.length c19), (7, I v20), (8, S (get t6 v20)), (9, .bool true), (25, .slice o8 t6.length c9), (26, I (t6.length : Int)), (27, I v20)] (True) (by kernel_rfl) trivial ?_
          clear hk; intro a hk
          refine st_done ?_
          have e : (((get t6 v20) == ([46])) || ((get t6 v20) == ([46, 46]))) = true := by first | (simp only [h26]; done) | (simp only [h26]; rfl) | rfl | simp [h26]
          exact J a w ⟨by rw [e]; exact hk.to [5, 6, 7, 8, 9, 25, 26, 27] _ (by kernel_rfl), ho⟩
        ·
          rw [h26] at hk
          have h28 : ¬ (((get t6 v20) == ([46])) = true) := ne_true_of_eq_false h26
          refine st_pure tabOK hk [3, 4, 5, 6] [] [5, 6, 7, 8, 9, 25, 26, 27] [(5, .slice o8 t6.length c9), (6, .slice o18 v17.length c19), (7, I v20), (8, S (get t6 v20)), (9, .bool ((get t6 v20) == ([46, 46]))), (25, .slice o8 t6.length c9), (26, I (t6.length : Int)), (27, I v20)] (True) (by kernel_rfl) trivial ?_
          clear hk; intro a hk
          refine st_done ?_
          have e : (((get t6 v20) == ([46])) || ((get t6 v20) == ([46, 46]))) = ((get t6 v20) == ([46, 46])) := by first | (simp only [h26]; done) | (simp only [h26]; rfl) | rfl | simp [h26]
          exact J a w ⟨by rw [e]; exact hk.to [5, 6, 7, 8, 9, 25, 26, 27] _ (by kernel_rfl), ho⟩
      · rintro a w ⟨hk, ho⟩
        refine st_seq (C14 [1, 1, 1, 1, 1, 0, 1, 0, 0, 1, 1, 0, 0, 1, 1, 0]) (C14 [1, 1, 1, 1, 1, 0, 1, 0, 0, 1, 1, 0, 0, 1, 1, 1]) (by kernel_rfl) ?_
        refine st_seq (C14 [1, 1, 1, 1, 1, 0, 1, 0, 0, 1, 1, 0, 0, 1, 1, 0, 0]) (C14 [1, 1, 1, 1, 1, 0, 1, 0, 0, 1, 1, 0, 0, 1, 1, 0, 1]) (by kernel_rfl) ?_
        refine st_region 10 (opsOf (C14 [1, 1, 1, 1, 1, 0, 1, 0, 0, 1, 1, 0, 0, 1, 1, 0, 0])) [0, 1] (by kernel_rfl) (by kernel_rfl) ?_
        refine st_pure tabOK hk [0, 1] [] [5, 6, 7, 8, 9, 25, 26, 27, 39] [(5, .slice o8 t6.length c9), (6, .slice o18 v17.length c19), (7, I v20), (8, S (get t6 v20)), (9, .bool (((get t6 v20) == ([46])) || ((get t6 v20) == ([46, 46])))), (25, .slice o8 t6.length c9), (26, I (t6.length : Int)), (27, I v20), (39, .bool ((get t6 v20) == ([46, 46])))] (True) (by kernel_rfl) trivial ?_
        clear hk; intro a hk
        refine st_done ?_
        obtain ⟨m29, HX, H⟩ := Option.bind_eq_some_iff.1 H
        refine cut_code (fun a w => ∃ (o30 : Option Addr), ∃ (c31 : Nat), Kn 69 a [(5, .slice o8 t6.length c9), (6, .slice o30 m29.length c31), (7, I v20), (8, S (get t6 v20)), (9, .bool (((get t6 v20) == ([46])) || ((get t6 v20) == ([46, 46])))), (25, .slice o8 t6.length c9), (26, I (t6.length : Int)), (27, I v20)] ∧ Ows [] w0 w [.row 0 9 1 (.slice o30 m29.length c31) m29.length (m29.map S), .row 0 9 1 (.slice o8 t6.length c9) t6.length (t6.map S)]) ?_ ?_
        · intro J; clear H; have H := HX; clear HX
          refine st_cond hk (C14 [1, 1, 1, 1, 1, 0, 1, 0, 0, 1, 1, 0, 0, 1, 1, 0, 1, 0]) (C14 [1, 1, 1, 1, 1, 0, 1, 0, 0, 1, 1, 0, 0, 1, 1, 0, 1, 1]) (.tmp 39) ((get t6 v20) == ([46, 46])) (by kernel_rfl) (by kernel_rfl) (fun h32 => ?_) (fun h32 => ?_)
          ·
            have h33 : ((get t6 v20) == ([46, 46])) = true := h32
            rw [if_pos h33] at H
            refine st_seq (C14 [1, 1, 1, 1, 1, 0, 1, 0, 0, 1, 1, 0, 0, 1, 1, 0, 1, 0, 0]) (C14 [1, 1, 1, 1, 1, 0, 1, 0, 0, 1, 1, 0, 0, 1, 1, 0, 1, 0, 1]) (by kernel_rfl) ?_
            refine st_region 11 (opsOf (C14 [1, 1, 1, 1, 1, 0, 1, 0, 0, 1, 1, 0, 0, 1, 1, 0, 1, 0, 0])) [0, 1, 2, 3, 4] (by kernel_rfl) (by kernel_rfl) ?_
            refine st_pure tabOK hk [0, 1, 2, 3, 4] [] [5, 6, 7, 8, 9, 10, 25, 26, 27] [(5, .slice o8 t6.length c9), (6, .slice o18 v17.length c19), (7, I v20), (8, S (get t6 v20)), (9, .bool (((get t6 v20) == ([46])) || ((get t6 v20) == ([46, 46])))), (10, I (mxI (w64 ((v17.length : Int) - 1)) 0)), (25, .slice o8 t6.length c9), (26, I (t6.length : Int)), (27, I v20)] (True) (by kernel_rfl) trivial ?_
            clear hk; intro a hk
            refine st_done ?_
            refine st_region 12 (opsOf (C14 [1, 1, 1, 1, 1, 0, 1, 0, 0, 1, 1, 0, 0, 1, 1, 0, 1, 0, 1])) [0, 1, 2, 3, 4, 5] (by kernel_rfl) (by kernel_rfl) ?_
            have h34 : (0 : Int) ≤ mxI (w64 ((v17.length : Int) - 1)) 0 := by
              by_cases h34 : (0 : Int) ≤ mxI (w64 ((v17.length : Int) - 1)) 0
              · exact h34
              · rw [if_neg h34] at H; cases H
            rw [if_pos h34] at H
            have h35 : mxI (w64 ((v17.length : Int) - 1)) 0 ≤ (v17.length : Int) := by
              by_cases h35 : mxI (w64 ((v17.length : Int) - 1)) 0 ≤ (v17.length : Int)
              · exact h35
              · rw [if_neg h35] at H; cases H
            rw [if_pos h35] at H
            refine st_pure tabOK hk [0, 1, 2, 3, 4] [5] [5, 7, 8, 9, 25, 26, 27, 48] [(5, .slice o8 t6.length c9), (7, I v20), (8, S (get t6 v20)), (9, .bool (((get t6 v20) == ([46])) || ((get t6 v20) == ([46, 46])))), (25, .slice o8 t6.length c9), (26, I (t6.length : Int)), (27, I v20), (48, .slice o18 (Int.toNat (mxI (w64 ((v17.length : Int) - 1)) 0)) (Int.toNat (c19 : Int)))] ((((0 : Int) ≤ (c19 : Int) ∧ (c19 : Int) ≤ (c19 : Int)) ∧ ((0 : Int) ≤ mxI (w64 ((v17.length : Int) - 1)) 0 ∧ mxI (w64 ((v17.length : Int) - 1)) 0 ≤ (c19 : Int))) ∧ True) (by kernel_rfl) ⟨(by have h_0 := (ho.le 0 rfl); have h_1 := h34; have h_2 := h35; omega), trivial⟩ ?_
            clear hk; intro a hk
            have h36 : Int.toNat (mxI (w64 ((v17.length : Int) - 1)) 0) = (v17.take (Int.toNat (mxI (w64 ((v17.length : Int) - 1)) 0))).length := by have h_0 := h34; have h_1 := h35; (try simp only [List.length_take, List.length_drop, Int.toNat_natCast]); try omega
            replace ho : Ows [] w0 w [.row 0 9 1 (.slice o18 (Int.toNat (mxI (w64 ((v17.length : Int) - 1)) 0)) c19) (Int.toNat (mxI (w64 ((v17.length : Int) - 1)) 0)) ((v17.take (Int.toNat (mxI (w64 ((v17.length : Int) - 1)) 0))).map S), .row 0 9 1 (.slice o8 t6.length c9) t6.length (t6.map S)] := ho.shrink 0 rfl (Int.toNat (mxI (w64 ((v17.length : Int) - 1)) 0)) (by have h_0 := h34; have h_1 := h35; omega) (by decide) ((v17.take (Int.toNat (mxI (w64 ((v17.length : Int) - 1)) 0))).map S) (by rw [Nat.mul_one, List.map_take]) _ rfl
            replace ho : Ows [] w0 w [.row 0 9 1 (.slice o18 ((v17.take (Int.toNat (mxI (w64 ((v17.length : Int) - 1)) 0))).length) c19) ((v17.take (Int.toNat (mxI (w64 ((v17.length : Int) - 1)) 0))).length) ((v17.take (Int.toNat (mxI (w64 ((v17.length : Int) - 1)) 0))).map S), .row 0 9 1 (.slice o8 t6.length c9) t6.length (t6.map S)] := by rw [← h36]; exact ho
            have h37 : Int.toNat (c19 : Int) = c19 := by omega
            replace hk : Kn 69 a [(5, .slice o8 t6.length c9), (7, I v20), (8, S (get t6 v20)), (9, .bool (((get t6 v20) == ([46])) || ((get t6 v20) == ([46, 46])))), (25, .slice o8 t6.length c9), (26, I (t6.length : Int)), (27, I v20), (48, .slice o18 ((v17.take (Int.toNat (mxI (w64 ((v17.length : Int) - 1)) 0))).length) c19)] := by rw [← h36, ← h37]; exact hk.to [5, 7, 8, 9, 25, 26, 27, 48] _ (by kernel_rfl)
            refine st_pure tabOK hk [5] [] [5, 6, 7, 8, 9, 25, 26, 27] [(5, .slice o8 t6.length c9), (6, .slice o18 ((v17.take (Int.toNat (mxI (w64 ((v17.length : Int) - 1)) 0))).length) c19), (7, I v20), (8, S (get t6 v20)), (9, .bool (((get t6 v20) == ([46])) || ((get t6 v20) == ([46, 46])))), (25, .slice o8 t6.length c9), (26, I (t6.length : Int)), (27, I v20)] (True) (by kernel_rfl) trivial ?_
            clear hk; intro a hk
            refine st_done ?_
            obtain rfl := Option.some.inj H
            exact J a w ⟨o18, c19, hk.to [5, 6, 7, 8, 9, 25, 26, 27] _ (by kernel_rfl), ho⟩
          ·
            have h38 : ¬ (((get t6 v20) == ([46, 46])) = true) := ne_true_of_eq_false h32
            rw [if_neg h38] at H
            refine st_skip (by kernel_rfl) ?_
            obtain rfl := Option.some.inj H
            exact J a w ⟨o18, c19, hk.to [5, 6, 7, 8, 9, 25, 26, 27] _ (by kernel_rfl), ho⟩
        · clear HX; rintro a w ⟨o30, c31, hk, ho⟩
          refine st_block 2 (C14 [1, 1, 1, 1, 1, 0, 1, 0, 0, 1, 1, 0, 0, 1, 1, 1, 0]) (by kernel_rfl) ?_
          refine st_seq (C14 [1, 1, 1, 1, 1, 0, 1, 0, 0, 1, 1, 0, 0, 1, 1, 1, 0, 0]) (C14 [1, 1, 1, 1, 1, 0, 1, 0, 0, 1, 1, 0, 0, 1, 1, 1, 0, 1]) (by kernel_rfl) ?_
          refine st_region 13 (opsOf (C14 [1, 1, 1, 1, 1, 0, 1, 0, 0, 1, 1, 0, 0, 1, 1, 1, 0, 0])) [0, 1, 2] (by kernel_rfl) (by kernel_rfl) ?_
          refine st_pure tabOK hk [0, 1, 2] [] [5, 6, 7, 8, 25, 26, 27, 49] [(5, .slice o8 t6.length c9), (6, .slice o30 m29.length c31), (7, I v20), (8, S (get t6 v20)), (25, .slice o8 t6.length c9), (26, I (t6.length : Int)), (27, I v20), (49, .bool (!(((get t6 v20) == ([46])) || ((get t6 v20) == ([46, 46])))))] (True) (by kernel_rfl) trivial ?_
          clear hk; intro a hk
          refine st_done ?_
          obtain ⟨m39, HX, H⟩ := Option.bind_eq_some_iff.1 H
          refine cut_code (fun a w => ∃ (o40 : Option Addr), ∃ (c41 : Nat), Kn 69 a [(5, .slice o8 t6.length c9), (6, .slice o40 m39.length c41), (25, .slice o8 t6.length c9), (26, I (t6.length : Int)), (27, I v20)] ∧ Ows [] w0 w [.row 0 9 1 (.slice o40 m39.length c41) m39.length (m39.map S), .row 0 9 1 (.slice o8 t6.length c9) t6.length (t6.map S)]) ?_ ?_
          · intro J; clear H; have H := HX; clear HX
            refine st_cond hk (C14 [1, 1, 1, 1, 1, 0, 1, 0, 0, 1, 1, 0, 0, 1, 1, 1, 0, 1, 0]) (C14 [1, 1, 1, 1, 1, 0, 1, 0, 0, 1, 1, 0, 0, 1, 1, 1, 0, 1, 1]) (.tmp 49) (!(((get t6 v20) == ([46])) || ((get t6 v20) == ([46, 46])))) (by kernel_rfl) (by kernel_rfl) (fun h42 => ?_) (fun h42 => ?_)
            ·
              have h43 : (!(((get t6 v20) == ([46])) || ((get t6 v20) == ([46, 46])))) = true := h42
              rw [if_pos h43] at H
              refine st_region 14 (opsOf (C14 [1, 1, 1, 1, 1, 0, 1, 0, 0, 1, 1, 0, 0, 1, 1, 1, 0, 1, 0])) [0, 1, 2, 3, 4] (by kernel_rfl) (by kernel_rfl) ?_
              refine st_pure tabOK hk [0, 1] [2, 3, 4] [5, 25, 26, 27, 52, 53] [(5, .slice o8 t6.length c9), (25, .slice o8 t6.length c9), (26, I (t6.length : Int)), (27, I v20), (52, .slice o30 m29.length c31), (53, S (get t6 v20))] (True) (by kernel_rfl) trivial ?_
              clear hk; intro a hk
              refine st_lit tabOK hk ho #[S (get t6 v20)] 9 1 1 54 (by kernel_rfl) ?_
              clear hk ho; intro a o44 w h45 hk ho
              replace ho : Ows [] w0 w [.row 0 9 1 (.slice o44 (([get t6 v20] : List (Str)).length) 1) (([get t6 v20] : List (Str)).length) (([get t6 v20] : List (Str)).map S), .row 0 9 1 (.slice o30 m29.length c31) m29.length (m29.map S), .row 0 9 1 (.slice o8 t6.length c9) t6.length (t6.map S)] := ho
              replace hk : Kn 69 a [(5, .slice o8 t6.length c9), (25, .slice o8 t6.length c9), (26, I (t6.length : Int)), (27, I v20), (52, .slice o30 m29.length c31), (54, .slice o44 (([get t6 v20] : List (Str)).length) 1)] := hk.to [5, 25, 26, 27, 52, 54] _ (by kernel_rfl)
              have h47 : m29.length + ([get t6 v20] : List (Str)).length ≤ 4294967296 := by
                by_cases h47 : m29.length + ([get t6 v20] : List (Str)).length ≤ 4294967296
                · exact h47
                · rw [if_neg h47] at H; cases H
              rw [if_pos h47] at H
              refine st_append tabOK hk ho 1 53 9 1 55 (S ([])) o30 m29.length c31 (m29.map S) o44 (([get t6 v20] : List (Str)).length) 1 (([get t6 v20] : List (Str)).map S) (by kernel_rfl) (by kernel_rfl) (by kernel_rfl) (by decide) rfl (by simp) (ho.rd 0 rfl) (one_map (fun _ => rfl) _) h47 ((m29 ++ ([get t6 v20] : List (Str))).length) ((m29 ++ ([get t6 v20] : List (Str))).map S) (by simp) (by first | rfl | exact (List.map_append ..).symm) ?_
              clear hk ho; intro a o48 c49 w h50 hk ho
              replace ho : Ows [] w0 w [.row 0 9 1 (.slice o44 (([get t6 v20] : List (Str)).length) 1) (([get t6 v20] : List (Str)).length) (([get t6 v20] : List (Str)).map S), .row 0 9 1 (.slice o48 ((m29 ++ ([get t6 v20] : List (Str))).length) c49) ((m29 ++ ([get t6 v20] : List (Str))).length) ((m29 ++ ([get t6 v20] : List (Str))).map S), .row 0 9 1 (.slice o8 t6.length c9) t6.length (t6.map S)] := ho
              refine st_pure tabOK hk [4] [] [5, 6, 25, 26, 27] [(5, .slice o8 t6.length c9), (6, .slice o48 ((m29 ++ ([get t6 v20] : List (Str))).length) c49), (25, .slice o8 t6.length c9), (26, I (t6.length : Int)), (27, I v20)] (True) (by kernel_rfl) trivial ?_
              clear hk; intro a hk
              refine st_done ?_
              replace ho : Ows [] w0 w [.row 0 9 1 (.slice o48 ((m29 ++ ([get t6 v20] : List (Str))).length) c49) ((m29 ++ ([get t6 v20] : List (Str))).length) ((m29 ++ ([get t6 v20] : List (Str))).map S), .row 0 9 1 (.slice o8 t6.length c9) t6.length (t6.map S)] := ho.erase 0
              obtain rfl := Option.some.inj H
              exact J a w ⟨o48, c49, hk.to [5, 6, 25, 26, 27] _ (by kernel_rfl), ho⟩
            ·
              have h51 : ¬ ((!(((get t6 v20) == ([46])) || ((get t6 v20) == ([46, 46])))) = true) := ne_true_of_eq_false h42
              rw [if_neg h51] at H
              refine st_seq (C14 [1, 1, 1, 1, 1, 0, 1, 0, 0, 1, 1, 0, 0, 1, 1, 1, 0, 1, 1, 0]) (C14 [1, 1, 1, 1, 1, 0, 1, 0, 0, 1, 1, 0, 0, 1, 1, 1, 0, 1, 1, 1]) (by kernel_rfl) ?_
              refine st_region 15 (opsOf (C14 [1, 1, 1, 1, 1, 0, 1, 0, 0, 1, 1, 0, 0, 1, 1, 1, 0, 1, 1, 0])) [0, 1, 2, 3, 4, 5] (by kernel_rfl) (by kernel_rfl) ?_
              refine st_pure tabOK hk [0, 1, 2, 3, 4, 5] [] [5, 6, 25, 26, 27, 56] [(5, .slice o8 t6.length c9), (6, .slice o30 m29.length c31), (25, .slice o8 t6.length c9), (26, I (t6.length : Int)), (27, I v20), (56, .bool (v20 == (w64 ((t6.length : Int) - 1))))] (True) (by kernel_rfl) trivial ?_
              clear hk; intro a hk
              refine st_done ?_
              refine st_cond hk (C14 [1, 1, 1, 1, 1, 0, 1, 0, 0, 1, 1, 0, 0, 1, 1, 1, 0, 1, 1, 1, 0]) (C14 [1, 1, 1, 1, 1, 0, 1, 0, 0, 1, 1, 0, 0, 1, 1, 1, 0, 1, 1, 1, 1]) (.tmp 56) (v20 == (w64 ((t6.length : Int) - 1))) (by kernel_rfl) (by kernel_rfl) (fun h52 => ?_) (fun h52 => ?_)
              ·
                have h53 : (v20 == (w64 ((t6.length : Int) - 1))) = true := h52
                rw [if_pos h53] at H
                refine st_region 16 (opsOf (C14 [1, 1, 1, 1, 1, 0, 1, 0, 0, 1, 1, 0, 0, 1, 1, 1, 0, 1, 1, 1, 0])) [0, 1, 2, 3] (by kernel_rfl) (by kernel_rfl) ?_
                refine st_pure tabOK hk [0] [1, 2, 3] [5, 25, 26, 27, 62] [(5, .slice o8 t6.length c9), (25, .slice o8 t6.length c9), (26, I (t6.length : Int)), (27, I v20), (62, .slice o30 m29.length c31)] (True) (by kernel_rfl) trivial ?_
                clear hk; intro a hk
                refine st_lit tabOK hk ho #[S ([])] 9 1 1 63 (by kernel_rfl) ?_
                clear hk ho; intro a o54 w h55 hk ho
                replace ho : Ows [] w0 w [.row 0 9 1 (.slice o54 (([[]] : List (Str)).length) 1) (([[]] : List (Str)).length) (([[]] : List (Str)).map S), .row 0 9 1 (.slice o30 m29.length c31) m29.length (m29.map S), .row 0 9 1 (.slice o8 t6.length c9) t6.length (t6.map S)] := ho
                replace hk : Kn 69 a [(5, .slice o8 t6.length c9), (25, .slice o8 t6.length c9), (26, I (t6.length : Int)), (27, I v20), (62, .slice o30 m29.length c31), (63, .slice o54 (([[]] : List (Str)).length) 1)] := hk.to [5, 25, 26, 27, 62, 63] _ (by kernel_rfl)
                have h57 : m29.length + ([[]] : List (Str)).length ≤ 4294967296 := by
                  by_cases h57 : m29.length + ([[]] : List (Str)).length ≤ 4294967296
                  · exact h57
                  · rw [if_neg h57] at H; cases H
                rw [if_pos h57] at H
                refine st_append tabOK hk ho 1 53 9 1 64 (S ([])) o30 m29.length c31 (m29.map S) o54 (([[]] : List (Str)).length) 1 (([[]] : List (Str)).map S) (by kernel_rfl) (by kernel_rfl) (by kernel_rfl) (by decide) rfl (by simp) (ho.rd 0 rfl) (one_map (fun _ => rfl) _) h57 ((m29 ++ ([[]] : List (Str))).length) ((m29 ++ ([[]] : List (Str))).map S) (by simp) (by first | rfl | exact (List.map_append ..).symm) ?_
                clear hk ho; intro a o58 c59 w h60 hk ho
                replace ho : Ows [] w0 w [.row 0 9 1 (.slice o54 (([[]] : List (Str)).length) 1) (([[]] : List (Str)).length) (([[]] : List (Str)).map S), .row 0 9 1 (.slice o58 ((m29 ++ ([[]] : List (Str))).length) c59) ((m29 ++ ([[]] : List (Str))).length) ((m29 ++ ([[]] : List (Str))).map S), .row 0 9 1 (.slice o8 t6.length c9) t6.length (t6.map S)] := ho
                refine st_pure tabOK hk [3] [] [5, 6, 25, 26, 27] [(5, .slice o8 t6.length c9), (6, .slice o58 ((m29 ++ ([[]] : List (Str))).length) c59), (25, .slice o8 t6.length c9), (26, I (t6.length : Int)), (27, I v20)] (True) (by kernel_rfl) trivial ?_
                clear hk; intro a hk
                refine st_done ?_
                replace ho : Ows [] w0 w [.row 0 9 1 (.slice o58 ((m29 ++ ([[]] : List (Str))).length) c59) ((m29 ++ ([[]] : List (Str))).length) ((m29 ++ ([[]] : List (Str))).map S), .row 0 9 1 (.slice o8 t6.length c9) t6.length (t6.map S)] := ho.erase 0
                obtain rfl := Option.some.inj H
                exact J a w ⟨o58, c59, hk.to [5, 6, 25, 26, 27] _ (by kernel_rfl), ho⟩
              ·
                have h61 : ¬ ((v20 == (w64 ((t6.length : Int) - 1))) = true) := ne_true_of_eq_false h52
                rw [if_neg h61] at H
                refine st_skip (by kernel_rfl) ?_
                obtain rfl := Option.some.inj H
                exact J a w ⟨o30, c31, hk.to [5, 6, 25, 26, 27] _ (by kernel_rfl), ho⟩
          · clear HX; rintro a w ⟨o40, c41, hk, ho⟩
            refine st_endb 2 ?_
            refine st_endb 1 ?_
            refine st_region 17 (opsOf (C14 [1, 1, 1, 1, 1, 0, 1, 0, 0, 1, 1, 1])) [0, 1] (by kernel_rfl) (by kernel_rfl) ?_
            refine st_pure tabOK hk [0, 1] [] [5, 6, 25, 26, 27] [(5, .slice o8 t6.length c9), (6, .slice o40 m39.length c41), (25, .slice o8 t6.length c9), (26, I (t6.length : Int)), (27, I (w64 (v20 + 1)))] (True) (by kernel_rfl) trivial ?_
            clear hk; intro a hk
            refine st_done ?_
            refine st_inl ?_
            exact ih t6 m39 (w64 (v20 + 1)) out H o8 c9 o40 c41 w0 Q rest a w  (hk.to [5, 6, 25, 26, 27] _ (by kernel_rfl)) ho J
    ·
      have h62 : ¬ (v20 < (t6.length : Int)) := of_decide_eq_false h23
      rw [if_neg h62] at H
      refine st_exit 0 _ (by kernel_rfl) rfl ?_
      replace ho : Ows [] w0 w [.row 0 9 1 (.slice o18 v17.length c19) v17.length (v17.map S)] := ho.erase 1
      obtain rfl := Option.some.inj H
      exact J v17 o18 c19 a w rfl (hk.to [6] _ (by kernel_rfl)) ho

theorem target_Dots.ok (K : Nat) (p0 : Str) (r : Str) (H : target_Dots.f K p0 = some r) (w0 : World) (hg : Glob w0) : Calls Tryd.prog 14 ⟨[S p0]⟩ w0 fun e w => ∃ u, e = .returned u ∧ target_Dots.post w0 r u w := by
  unfold target_Dots.f at H
  refine st_start (N := 69) [S p0] (C14 []) func14 (by kernel_rfl) (by kernel_rfl) (by kernel_rfl) ?_
  intro a w hk ho
  refine st_seq (C14 [0]) (C14 [1]) (by kernel_rfl) ?_
  refine st_region 0 (opsOf (C14 [0])) [0] (by kernel_rfl) (by kernel_rfl) ?_
  refine st_pure tabOK hk [0] [] [0] [(0, S p0)] (True) (by kernel_rfl) trivial ?_
  clear hk; intro a hk
  refine st_done ?_
  refine st_seq (C14 [1, 0]) (C14 [1, 1]) (by kernel_rfl) ?_
  refine st_region 1 (opsOf (C14 [1, 0])) [0, 1, 2, 3, 4, 5, 6] (by kernel_rfl) (by kernel_rfl) ?_
  refine st_pure tabOK hk [0] [1, 2, 3, 4, 5, 6] [0, 12] [(0, S p0), (12, S p0)] (True) (by kernel_rfl) trivial ?_
  clear hk; intro a hk
  obtain ⟨t1, h2, H⟩ := Option.bind_eq_some_iff.1 H
  refine st_call hk 32 [S p0, S ([47])] (some 13) enters32 (by kernel_rfl) (strings_CutPrefix.ok  p0 ([47]) t1 h2 w ) ?_
  clear hk; rintro a u w ⟨rfl, ho'⟩ hk
  replace ho : Ows [] w0 w [] := ho.call ho'; clear ho'
  refine st_pure tabOK hk [2, 3, 4, 5, 6] [] [0, 3, 4] [(0, S p0), (3, S t1.1), (4, .bool t1.2)] (True) (by kernel_rfl) trivial ?_
  clear hk; intro a hk
  refine st_done ?_
  refine st_seq (C14 [1, 1, 0]) (C14 [1, 1, 1]) (by kernel_rfl) ?_
  refine st_seq (C14 [1, 1, 0, 0]) (C14 [1, 1, 0, 1]) (by kernel_rfl) ?_
  refine st_region 2 (opsOf (C14 [1, 1, 0, 0])) [0, 1] (by kernel_rfl) (by kernel_rfl) ?_
  refine st_pure tabOK hk [0, 1] [] [0, 3, 17] [(0, S p0), (3, S t1.1), (17, .bool (!t1.2))] (True) (by kernel_rfl) trivial ?_
  clear hk; intro a hk
  refine st_done ?_
  refine st_cond hk (C14 [1, 1, 0, 1, 0]) (C14 [1, 1, 0, 1, 1]) (.tmp 17) (!t1.2) (by kernel_rfl) (by kernel_rfl) (fun h3 => ?_) (fun h3 => ?_)
  ·
    have h4 : (!t1.2) = true := h3
    rw [if_pos h4] at H
    refine st_seq (C14 [1, 1, 0, 1, 0, 0]) (C14 [1, 1, 0, 1, 0, 1]) (by kernel_rfl) ?_
    refine st_region 3 (opsOf (C14 [1, 1, 0, 1, 0, 0])) [0, 1] (by kernel_rfl) (by kernel_rfl) ?_
    refine st_pure tabOK hk [0, 1] [] [2] [(2, S p0)] (True) (by kernel_rfl) trivial ?_
    clear hk; intro a hk
    refine st_done ?_
    refine st_retG hk (by kernel_rfl) [S p0] #[.tmp 2] (by kernel_rfl) ⟨resT hk (by kernel_rfl), trivial⟩ ?_
    obtain rfl := Option.some.inj H
    exact ⟨_, rfl, rfl, ho⟩
  ·
    have h5 : ¬ ((!t1.2) = true) := ne_true_of_eq_false h3
    rw [if_neg h5] at H
    refine st_skip (by kernel_rfl) ?_
    refine st_seq (C14 [1, 1, 1, 0]) (C14 [1, 1, 1, 1]) (by kernel_rfl) ?_
    refine st_region 4 (opsOf (C14 [1, 1, 1, 0])) [0, 1, 2] (by kernel_rfl) (by kernel_rfl) ?_
    refine st_pure tabOK hk [0] [1, 2] [19] [(19, S t1.1)] (True) (by kernel_rfl) trivial ?_
    clear hk; intro a hk
    obtain ⟨t6, h7, H⟩ := Option.bind_eq_some_iff.1 H
    refine st_call hk 33 [S t1.1, S ([47])] (some 20) enters33 (by kernel_rfl) (strings_Split.ok  t1.1 ([47]) t6 h7 w (hg.of ho)) ?_
    clear hk; rintro a u w ⟨o8, c9, rfl, ho'⟩ hk
    replace ho : Ows [] w0 w [.row 0 9 1 (.slice o8 t6.length c9) t6.length (t6.map S)] := ho.call ho'; clear ho'
    refine st_pure tabOK hk [2] [] [5] [(5, .slice o8 t6.length c9)] (True) (by kernel_rfl) trivial ?_
    clear hk; intro a hk
    refine st_done ?_
    refine st_seq (C14 [1, 1, 1, 1, 0]) (C14 [1, 1, 1, 1, 1]) (by kernel_rfl) ?_
    refine st_region 5 (opsOf (C14 [1, 1, 1, 1, 0])) [0, 1, 2, 3, 4] (by kernel_rfl) (by kernel_rfl) ?_
    refine st_pure tabOK hk [0, 1, 2] [3, 4] [5, 23] [(5, .slice o8 t6.length c9), (23, I (w64 ((t6.length : Int) + 1)))] (True) (by kernel_rfl) trivial ?_
    clear hk; intro a hk
    have h11 : 0 ≤ w64 ((t6.length : Int) + 1) := by
      by_cases h11 : 0 ≤ w64 ((t6.length : Int) + 1)
      · exact h11
      · rw [if_neg h11] at H; cases H
    rw [if_pos h11] at H
    have h12 : w64 ((t6.length : Int) + 1) ≤ 4294967296 := by
      by_cases h12 : w64 ((t6.length : Int) + 1) ≤ 4294967296
      · exact h12
      · rw [if_neg h12] at H; cases H
    rw [if_pos h12] at H
    refine st_make tabOK hk ho 53 9 24 0 (w64 ((t6.length : Int) + 1)) (S ([])) (by kernel_rfl) (by kernel_rfl) (by kernel_rfl) rfl (by decide) h11 h12 ?_
    clear hk ho; intro a o13 w h14 hk ho
    have h16 : 0 = ([] : List Str).length := by simp
    replace ho : Ows [] w0 w [.row 0 9 1 (.slice o13 (([] : List Str).length) ((w64 ((t6.length : Int) + 1)).toNat)) (([] : List Str).length) (([] : List Str).map S), .row 0 9 1 (.slice o8 t6.length c9) t6.length (t6.map S)] := by rw [← h16]; exact ho
    replace hk : Kn 69 a [(5, .slice o8 t6.length c9), (24, .slice o13 (([] : List Str).length) ((w64 ((t6.length : Int) + 1)).toNat))] := by rw [← h16]; exact hk.to [5, 24] _ (by kernel_rfl)
    refine st_pure tabOK hk [4] [] [5, 6] [(5, .slice o8 t6.length c9), (6, .slice o13 (([] : List Str).length) ((w64 ((t6.length : Int) + 1)).toNat))] (True) (by kernel_rfl) trivial ?_
    clear hk; intro a hk
    refine st_done ?_
    refine st_seq (C14 [1, 1, 1, 1, 1, 0]) (C14 [1, 1, 1, 1, 1, 1]) (by kernel_rfl) ?_
    refine st_seq (C14 [1, 1, 1, 1, 1, 0, 0]) (C14 [1, 1, 1, 1, 1, 0, 1]) (by kernel_rfl) ?_
    refine st_region 6 (opsOf (C14 [1, 1, 1, 1, 1, 0, 0])) [0, 1, 2] (by kernel_rfl) (by kernel_rfl) ?_
    refine st_pure tabOK hk [0, 1, 2] [] [5, 6, 25, 26, 27] [(5, .slice o8 t6.length c9), (6, .slice o13 (([] : List Str).length) ((w64 ((t6.length : Int) + 1)).toNat)), (25, .slice o8 t6.length c9), (26, I (t6.length : Int)), (27, I 0)] (True) (by kernel_rfl) trivial ?_
    clear hk; intro a hk
    refine st_done ?_
    refine st_block 0 (C14 [1, 1, 1, 1, 1, 0, 1, 0]) (by kernel_rfl) ?_
    obtain ⟨m63, h64, H⟩ := Option.bind_eq_some_iff.1 H
    refine st_loop (C14 [1, 1, 1, 1, 1, 0, 1, 0, 0]) (by kernel_rfl) ?_
    refine target_Dots.l0_ok K t6 ([] : List Str) 0 m63 h64 o8 c9 o13 ((w64 ((t6.length : Int) + 1)).toNat) w0 _ _ a w  (hk.to [5, 6, 25, 26, 27] _ (by kernel_rfl)) ho ?_
    · intro s65 o66 c67 a w e hk ho; have e := e.symm; subst e
      refine st_seq (C14 [1, 1, 1, 1, 1, 1, 0]) (C14 [1, 1, 1, 1, 1, 1, 1]) (by kernel_rfl) ?_
      refine st_region 18 (opsOf (C14 [1, 1, 1, 1, 1, 1, 0])) [0, 1, 2, 3] (by kernel_rfl) (by kernel_rfl) ?_
      refine st_pure tabOK hk [0] [1, 2, 3] [66] [(66, .slice o66 s65.length c67)] (True) (by kernel_rfl) trivial ?_
      clear hk; intro a hk
      obtain ⟨t68, h69, H⟩ := Option.bind_eq_some_iff.1 H
      refine st_call hk 34 [.slice o66 s65.length c67, S ([47])] (some 67) enters34 (by kernel_rfl) (strings_Join.ok K  s65 ([47]) t68 h69 w o66 c67 (ho.rd 0 rfl) (ho.le 0 rfl)) ?_
      clear hk; rintro a u w ⟨rfl, ho'⟩ hk
      replace ho : Ows [] w0 w [.row 0 9 1 (.slice o66 s65.length c67) s65.length (s65.map S)] := ho.call ho'; clear ho'
      have h70 : ([47]).length + t68.length ≤ maxI := by
        by_cases h70 : ([47]).length + t68.length ≤ maxI
        · exact h70
        · rw [if_neg h70] at H; cases H
      rw [if_pos h70] at H
      refine st_pure tabOK hk [2, 3] [] [2] [(2, S (([47]) ++ t68))] (([47]).length + t68.length ≤ maxI ∧ True) (by kernel_rfl) ⟨h70, trivial⟩ ?_
      clear hk; intro a hk
      refine st_done ?_
      replace ho : Ows [] w0 w [] := ho.erase 0
      refine st_retG hk (by kernel_rfl) [S (([47]) ++ t68)] #[.tmp 2] (by kernel_rfl) ⟨resT hk (by kernel_rfl), trivial⟩ ?_
      obtain rfl := Option.some.inj H
      exact ⟨_, rfl, rfl, ho⟩


/-! scullery/target.Normal: function 12 -/
noncomputable def C12 (p : List Nat) : Code := Sub (bodyOf f12) p
def target_Normal.f (K : Nat) (p0 : Str) (p1 : Str) : Option (Str × Int) := (((target_whole.f K p0 p1).bind fun t1 => ((target_Host.f K t1.1).bind fun t3 => (if (t3.2 != 0) = true then some ([], t3.2) else ((target_Percent.f K t1.2).bind fun t8 => (((if (t8.2 != 0) = true then some true else (if (!(t1.2 == ([]))) = true then (if 0 < (t1.2.length : Int) then (if ((bt t1.2 0) != 47) = true then some ((bt t1.2 0) != 63) else some false) else none) else some false))).bind fun m10 => (if m10 = true then some ([], 2) else ((strings_Cut.f t8.1 ([63])).bind fun t24 => ((target_Dots.f K t24.1).bind fun t26 => (((if (t26 == ([])) = true then some ([47]) else some t26)).bind fun m28 => (((if t24.2.2 = true then (if ([63]).length + t24.2.1.length ≤ maxI then (if m28.length + (([63]) ++ t24.2.1).length ≤ maxI then some (m28 ++ (([63]) ++ t24.2.1)) else none) else none) else some m28)).bind fun m32 => (if ([104, 116, 116, 112, 58, 47, 47]).length + t3.1.length ≤ maxI then (if (([104, 116, 116, 112, 58, 47, 47]) ++ t3.1).length + m32.length ≤ maxI then some ((([104, 116, 116, 112, 58, 47, 47]) ++ t3.1) ++ m32, 0) else none) else none))))))))))))
abbrev target_Normal.post (w0 : World) (r : Str × Int) (u : Value) (w : World) : Prop := u = .tuple #[S r.1, I r.2] ∧ Ows [] w0 w []
theorem target_Normal.ok (K : Nat) (p0 : Str) (p1 : Str) (r : Str × Int) (H : target_Normal.f K p0 p1 = some r) (w0 : World) (hg : Glob w0) : Calls Tryd.prog 12 ⟨[S p0, S p1]⟩ w0 fun e w => ∃ u, e = .returned u ∧ target_Normal.post w0 r u w := by
  unfold target_Normal.f at H
  refine st_start (N := 65) [S p0, S p1] (C12 []) func12 (by kernel_rfl) (by kernel_rfl) (by kernel_rfl) ?_
  intro a w hk ho
  refine st_seq (C12 [0]) (C12 [1]) (by kernel_rfl) ?_
  refine st_region 0 (opsOf (C12 [0])) [0, 1] (by kernel_rfl) (by kernel_rfl) ?_
  refine st_pure tabOK hk [0, 1] [] [0, 1] [(0, S p0), (1, S p1)] (True) (by kernel_rfl) trivial ?_
  clear hk; intro a hk
  refine st_done ?_
  refine st_seq (C12 [1, 0]) (C12 [1, 1]) (by kernel_rfl) ?_
  refine st_region 1 (opsOf (C12 [1, 0])) [0, 1, 2, 3, 4, 5, 6, 7] (by kernel_rfl) (by kernel_rfl) ?_
  refine st_pure tabOK hk [0, 1] [2, 3, 4, 5, 6, 7] [12, 13] [(12, S p0), (13, S p1)] (True) (by kernel_rfl) trivial ?_
  clear hk; intro a hk
  obtain ⟨t1, h2, H⟩ := Option.bind_eq_some_iff.1 H
  refine st_call hk 31 [S p0, S p1] (some 14) enters31 (by kernel_rfl) (target_whole.ok K  p0 p1 t1 h2 w ) ?_
  clear hk; rintro a u w ⟨rfl, ho'⟩ hk
  replace ho : Ows [] w0 w [] := ho.call ho'; clear ho'
  refine st_pure tabOK hk [3, 4, 5, 6, 7] [] [0, 1] [(0, S t1.1), (1, S t1.2)] (True) (by kernel_rfl) trivial ?_
  clear hk; intro a hk
  refine st_done ?_
  refine st_seq (C12 [1, 1, 0]) (C12 [1, 1, 1]) (by kernel_rfl) ?_
  refine st_region 2 (opsOf (C12 [1, 1, 0])) [0, 1, 2, 3, 4, 5, 6] (by kernel_rfl) (by kernel_rfl) ?_
  refine st_pure tabOK hk [0] [1, 2, 3, 4, 5, 6] [1, 18] [(1, S t1.2), (18, S t1.1)] (True) (by kernel_rfl) trivial ?_
  clear hk; intro a hk
  obtain ⟨t3, h4, H⟩ := Option.bind_eq_some_iff.1 H
  refine st_call hk 8 [S t1.1] (some 19) enters8 (by kernel_rfl) (target_Host.ok K  t1.1 t3 h4 w ) ?_
  clear hk; rintro a u w ⟨rfl, ho'⟩ hk
  replace ho : Ows [] w0 w [] := ho.call ho'; clear ho'
  refine st_pure tabOK hk [2, 3, 4, 5, 6] [] [0, 1, 6] [(0, S t3.1), (1, S t1.2), (6, I t3.2)] (True) (by kernel_rfl) trivial ?_
  clear hk; intro a hk
  refine st_done ?_
  refine st_seq (C12 [1, 1, 1, 0]) (C12 [1, 1, 1, 1]) (by kernel_rfl) ?_
  refine st_seq (C12 [1, 1, 1, 0, 0]) (C12 [1, 1, 1, 0, 1]) (by kernel_rfl) ?_
  refine st_region 3 (opsOf (C12 [1, 1, 1, 0, 0])) [0, 1] (by kernel_rfl) (by kernel_rfl) ?_
  refine st_pure tabOK hk [0, 1] [] [0, 1, 6, 23] [(0, S t3.1), (1, S t1.2), (6, I t3.2), (23, .bool (t3.2 != 0))] (True) (by kernel_rfl) trivial ?_
  clear hk; intro a hk
  refine st_done ?_
  refine st_cond hk (C12 [1, 1, 1, 0, 1, 0]) (C12 [1, 1, 1, 0, 1, 1]) (.tmp 23) (t3.2 != 0) (by kernel_rfl) (by kernel_rfl) (fun h5 => ?_) (fun h5 => ?_)
  ·
    have h6 : (t3.2 != 0) = true := h5
    rw [if_pos h6] at H
    refine st_seq (C12 [1, 1, 1, 0, 1, 0, 0]) (C12 [1, 1, 1, 0, 1, 0, 1]) (by kernel_rfl) ?_
    refine st_region 4 (opsOf (C12 [1, 1, 1, 0, 1, 0, 0])) [0, 1, 2] (by kernel_rfl) (by kernel_rfl) ?_
    refine st_pure tabOK hk [0, 1, 2] [] [4, 5] [(4, S ([])), (5, I t3.2)] (True) (by kernel_rfl) trivial ?_
    clear hk; intro a hk
    refine st_done ?_
    refine st_retG hk (by kernel_rfl) [S ([]), I t3.2] #[.tmp 4, .tmp 5] (by kernel_rfl) ⟨resT hk (by kernel_rfl), resT hk (by kernel_rfl), trivial⟩ ?_
    obtain rfl := Option.some.inj H
    exact ⟨_, rfl, rfl, ho⟩
  ·
    have h7 : ¬ ((t3.2 != 0) = true) := ne_true_of_eq_false h5
    rw [if_neg h7] at H
    refine st_skip (by kernel_rfl) ?_
    refine st_seq (C12 [1, 1, 1, 1, 0]) (C12 [1, 1, 1, 1, 1]) (by kernel_rfl) ?_
    refine st_region 5 (opsOf (C12 [1, 1, 1, 1, 0])) [0, 1, 2, 3, 4, 5, 6] (by kernel_rfl) (by kernel_rfl) ?_
    refine st_pure tabOK hk [0] [1, 2, 3, 4, 5, 6] [0, 1, 26] [(0, S t3.1), (1, S t1.2), (26, S t1.2)] (True) (by kernel_rfl) trivial ?_
    clear hk; intro a hk
    obtain ⟨t8, h9, H⟩ := Option.bind_eq_some_iff.1 H
    refine st_call hk 10 [S t1.2] (some 27) enters10 (by kernel_rfl) (target_Percent.ok K  t1.2 t8 h9 w ) ?_
    clear hk; rintro a u w ⟨rfl, ho'⟩ hk
    replace ho : Ows [] w0 w [] := ho.call ho'; clear ho'
    refine st_pure tabOK hk [2, 3, 4, 5, 6] [] [0, 1, 6, 7] [(0, S t3.1), (1, S t1.2), (6, I t8.2), (7, S t8.1)] (True) (by kernel_rfl) trivial ?_
    clear hk; intro a hk
    refine st_done ?_
    refine st_seq (C12 [1, 1, 1, 1, 1, 0]) (C12 [1, 1, 1, 1, 1, 1]) (by kernel_rfl) ?_
    refine st_seq (C12 [1, 1, 1, 1, 1, 0, 0]) (C12 [1, 1, 1, 1, 1, 0, 1]) (by kernel_rfl) ?_
    refine st_region 6 (opsOf (C12 [1, 1, 1, 1, 1, 0, 0])) [0, 1, 2, 3, 4, 5, 6, 7, 8, 9, 10, 11, 12, 13, 14, 15] (by kernel_rfl) (by kernel_rfl) ?_
    refine st_pure tabOK hk [0, 1, 2] [3, 4, 5, 6, 7, 8, 9, 10, 11, 12, 13, 14, 15] [0, 1, 7, 32] [(0, S t3.1), (1, S t1.2), (7, S t8.1), (32, .bool (t8.2 != 0))] (True) (by kernel_rfl) trivial ?_
    clear hk; intro a hk
    obtain ⟨m10, HX, H⟩ := Option.bind_eq_some_iff.1 H
    refine cut_ops (fun a w => Kn 65 a [(0, S t3.1), (7, S t8.1), (45, .bool m10)] ∧ Ows [] w0 w []) ?_ ?_
    · intro J; clear H; have H := HX; clear HX
      rcases Bool.eq_false_or_eq_true (t8.2 != 0) with h11 | h11
      ·
        rw [h11] at hk
        have h12 : (t8.2 != 0) = true := h11
        rw [if_pos h12] at H
        refine st_pure tabOK hk [3, 4, 5, 6, 7, 8, 9, 10, 11, 12, 13, 14, 15] [] [0, 7, 45] [(0, S t3.1), (7, S t8.1), (45, .bool true)] (True) (by kernel_rfl) trivial ?_
        clear hk; intro a hk
        refine st_done ?_
        obtain rfl := Option.some.inj H
        exact J a w ⟨hk.to [0, 7, 45] _ (by kernel_rfl), ho⟩
      ·
        rw [h11] at hk
        have h13 : ¬ ((t8.2 != 0) = true) := ne_true_of_eq_false h11
        rw [if_neg h13] at H
        refine st_pure tabOK hk [3, 4, 5] [6, 7, 8, 9, 10, 11, 12, 13, 14, 15] [0, 1, 7, 32, 35] [(0, S t3.1), (1, S t1.2), (7, S t8.1), (32, .bool false), (35, .bool (!(t1.2 == ([]))))] (True) (by kernel_rfl) trivial ?_
        clear hk; intro a hk
        rcases Bool.eq_false_or_eq_true (!(t1.2 == ([]))) with h14 | h14
        ·
          rw [h14] at hk
          have h15 : (!(t1.2 == ([]))) = true := h14
          rw [if_pos h15] at H
          have h16 : 0 < (t1.2.length : Int) := by
            by_cases h16 : 0 < (t1.2.length : Int)
            · exact h16
            · rw [if_neg h16] at H; cases H
          rw [if_pos h16] at H
          refine st_pure tabOK hk [6, 7, 8, 9, 10] [11, 12, 13, 14, 15] [0, 1, 7, 32, 40] [(0, S t3.1), (1, S t1.2), (7, S t8.1), (32, .bool false), (40, .bool ((bt t1.2 0) != 47))] (((0 : Int) ≤ 0 ∧ 0 < (t1.2.length : Int)) ∧ True) (by kernel_rfl) ⟨⟨(by decide), h16⟩, trivial⟩ ?_
          clear hk; intro a hk
          rcases Bool.eq_false_or_eq_true ((bt t1.2 0) != 47) with h17 | h17
          ·
            rw [h17] at hk
            have h18 : ((bt t1.2 0) != 47) = true := h17
            rw [if_pos h18] at H
            refine st_pure tabOK hk [11, 12, 13, 14, 15] [] [0, 7, 45] [(0, S t3.1), (7, S t8.1), (45, .bool ((bt t1.2 0) != 63))] (((0 : Int) ≤ 0 ∧ 0 < (t1.2.length : Int)) ∧ True) (by kernel_rfl) ⟨⟨(by decide), h16⟩, trivial⟩ ?_
            clear hk; intro a hk
            refine st_done ?_
            obtain rfl := Option.some.inj H
            exact J a w ⟨hk.to [0, 7, 45] _ (by kernel_rfl), ho⟩
          ·
            rw [h17] at hk
            have h19 : ¬ (((bt t1.2 0) != 47) = true) := ne_true_of_eq_false h17
            rw [if_neg h19] at H
            refine st_pure tabOK hk [11, 12, 13, 14, 15] [] [0, 7, 45] [(0, S t3.1), (7, S t8.1), (45, .bool false)] (True) (by kernel_rfl) trivial ?_
            clear hk; intro a hk
            refine st_done ?_
            obtain rfl := Option.some.inj H
            exact J a w ⟨hk.to [0, 7, 45] _ (by kernel_rfl), ho⟩
        ·
          rw [h14] at hk
          have h20 : ¬ ((!(t1.2 == ([]))) = true) := ne_true_of_eq_false h14
          rw [if_neg h20] at H
          refine st_pure tabOK hk [6, 7, 8, 9, 10, 11, 12, 13, 14, 15] [] [0, 7, 45] [(0, S t3.1), (7, S t8.1), (45, .bool false)] (True) (by kernel_rfl) trivial ?_
          clear hk; intro a hk
          refine st_done ?_
          obtain rfl := Option.some.inj H
          exact J a w ⟨hk.to [0, 7, 45] _ (by kernel_rfl), ho⟩
    · clear HX; rintro a w ⟨hk, ho⟩
      refine st_cond hk (C12 [1, 1, 1, 1, 1, 0, 1, 0]) (C12 [1, 1, 1, 1, 1, 0, 1, 1]) (.tmp 45) (m10) (by kernel_rfl) (by kernel_rfl) (fun h21 => ?_) (fun h21 => ?_)
      ·
        have h22 : m10 = true := h21
        rw [if_pos h22] at H
        refine st_seq (C12 [1, 1, 1, 1, 1, 0, 1, 0, 0]) (C12 [1, 1, 1, 1, 1, 0, 1, 0, 1]) (by kernel_rfl) ?_
        refine st_region 7 (opsOf (C12 [1, 1, 1, 1, 1, 0, 1, 0, 0])) [0, 1] (by kernel_rfl) (by kernel_rfl) ?_
        refine st_pure tabOK hk [0, 1] [] [4, 5] [(4, S ([])), (5, I 2)] (True) (by kernel_rfl) trivial ?_
        clear hk; intro a hk
        refine st_done ?_
        refine st_retG hk (by kernel_rfl) [S ([]), I 2] #[.tmp 4, .tmp 5] (by kernel_rfl) ⟨resT hk (by kernel_rfl), resT hk (by kernel_rfl), trivial⟩ ?_
        obtain rfl := Option.some.inj H
        exact ⟨_, rfl, rfl, ho⟩
      ·
        have h23 : ¬ (m10 = true) := ne_true_of_eq_false h21
        rw [if_neg h23] at H
        refine st_skip (by kernel_rfl) ?_
        refine st_seq (C12 [1, 1, 1, 1, 1, 1, 0]) (C12 [1, 1, 1, 1, 1, 1, 1]) (by kernel_rfl) ?_
        refine st_region 8 (opsOf (C12 [1, 1, 1, 1, 1, 1, 0])) [0, 1, 2, 3, 4, 5, 6, 7, 8] (by kernel_rfl) (by kernel_rfl) ?_
        refine st_pure tabOK hk [0] [1, 2, 3, 4, 5, 6, 7, 8] [0, 47] [(0, S t3.1), (47, S t8.1)] (True) (by kernel_rfl) trivial ?_
        clear hk; intro a hk
        obtain ⟨t24, h25, H⟩ := Option.bind_eq_some_iff.1 H
        refine st_call hk 16 [S t8.1, S ([63])] (some 48) enters16 (by kernel_rfl) (strings_Cut.ok  t8.1 ([63]) t24 h25 w ) ?_
        clear hk; rintro a u w ⟨rfl, ho'⟩ hk
        replace ho : Ows [] w0 w [] := ho.call ho'; clear ho'
        refine st_pure tabOK hk [2, 3, 4, 5, 6, 7, 8] [] [0, 8, 9, 10] [(0, S t3.1), (8, S t24.1), (9, S t24.2.1), (10, .bool t24.2.2)] (True) (by kernel_rfl) trivial ?_
        clear hk; intro a hk
        refine st_done ?_
        refine st_seq (C12 [1, 1, 1, 1, 1, 1, 1, 0]) (C12 [1, 1, 1, 1, 1, 1, 1, 1]) (by kernel_rfl) ?_
        refine st_seq (C12 [1, 1, 1, 1, 1, 1, 1, 0, 0]) (C12 [1, 1, 1, 1, 1, 1, 1, 0, 1]) (by kernel_rfl) ?_
        refine st_region 9 (opsOf (C12 [1, 1, 1, 1, 1, 1, 1, 0, 0])) [0, 1, 2] (by kernel_rfl) (by kernel_rfl) ?_
        refine st_pure tabOK hk [0] [1, 2] [0, 9, 10, 52] [(0, S t3.1), (9, S t24.2.1), (10, .bool t24.2.2), (52, S t24.1)] (True) (by kernel_rfl) trivial ?_
        clear hk; intro a hk
        obtain ⟨t26, h27, H⟩ := Option.bind_eq_some_iff.1 H
        refine st_call hk 14 [S t24.1] (some 53) enters14 (by kernel_rfl) (target_Dots.ok K  t24.1 t26 h27 w (hg.of ho)) ?_
        clear hk; rintro a u w ⟨rfl, ho'⟩ hk
        replace ho : Ows [] w0 w [] := ho.call ho'; clear ho'
        refine st_pure tabOK hk [2] [] [0, 8, 9, 10] [(0, S t3.1), (8, S t26), (9, S t24.2.1), (10, .bool t24.2.2)] (True) (by kernel_rfl) trivial ?_
        clear hk; intro a hk
        refine st_done ?_
        refine st_seq (C12 [1, 1, 1, 1, 1, 1, 1, 0, 1, 0]) (C12 [1, 1, 1, 1, 1, 1, 1, 0, 1, 1]) (by kernel_rfl) ?_
        refine st_region 10 (opsOf (C12 [1, 1, 1, 1, 1, 1, 1, 0, 1, 0])) [0, 1] (by kernel_rfl) (by kernel_rfl) ?_
        refine st_pure tabOK hk [0, 1] [] [0, 8, 9, 10, 55] [(0, S t3.1), (8, S t26), (9, S t24.2.1), (10, .bool t24.2.2), (55, .bool (t26 == ([])))] (True) (by kernel_rfl) trivial ?_
        clear hk; intro a hk
        refine st_done ?_
        obtain ⟨m28, HX, H⟩ := Option.bind_eq_some_iff.1 H
        refine cut_code (fun a w => Kn 65 a [(0, S t3.1), (8, S m28), (9, S t24.2.1), (10, .bool t24.2.2)] ∧ Ows [] w0 w []) ?_ ?_
        · intro J; clear H; have H := HX; clear HX
          refine st_cond hk (C12 [1, 1, 1, 1, 1, 1, 1, 0, 1, 1, 0]) (C12 [1, 1, 1, 1, 1, 1, 1, 0, 1, 1, 1]) (.tmp 55) (t26 == ([])) (by kernel_rfl) (by kernel_rfl) (fun h29 => ?_) (fun h29 => ?_)
          ·
            have h30 : (t26 == ([])) = true := h29
            rw [if_pos h30] at H
            refine st_region 11 (opsOf (C12 [1, 1, 1, 1, 1, 1, 1, 0, 1, 1, 0])) [0] (by kernel_rfl) (by kernel_rfl) ?_
            refine st_pure tabOK hk [0] [] [0, 8, 9, 10] [(0, S t3.1), (8, S ([47])), (9, S t24.2.1), (10, .bool t24.2.2)] (True) (by kernel_rfl) trivial ?_
            clear hk; intro a hk
            refine st_done ?_
            obtain rfl := Option.some.inj H
            exact J a w ⟨hk.to [0, 8, 9, 10] _ (by kernel_rfl), ho⟩
          ·
            have h31 : ¬ ((t26 == ([])) = true) := ne_true_of_eq_false h29
            rw [if_neg h31] at H
            refine st_skip (by kernel_rfl) ?_
            obtain rfl := Option.some.inj H
            exact J a w ⟨hk.to [0, 8, 9, 10] _ (by kernel_rfl), ho⟩
        · clear HX; rintro a w ⟨hk, ho⟩
          refine st_seq (C12 [1, 1, 1, 1, 1, 1, 1, 1, 0]) (C12 [1, 1, 1, 1, 1, 1, 1, 1, 1]) (by kernel_rfl) ?_
          refine st_seq (C12 [1, 1, 1, 1, 1, 1, 1, 1, 0, 0]) (C12 [1, 1, 1, 1, 1, 1, 1, 1, 0, 1]) (by kernel_rfl) ?_
          refine st_region 12 (opsOf (C12 [1, 1, 1, 1, 1, 1, 1, 1, 0, 0])) [0] (by kernel_rfl) (by kernel_rfl) ?_
          refine st_pure tabOK hk [0] [] [0, 8, 9, 56] [(0, S t3.1), (8, S m28), (9, S t24.2.1), (56, .bool t24.2.2)] (True) (by kernel_rfl) trivial ?_
          clear hk; intro a hk
          refine st_done ?_
          obtain ⟨m32, HX, H⟩ := Option.bind_eq_some_iff.1 H
          refine cut_code (fun a w => Kn 65 a [(0, S t3.1), (8, S m32)] ∧ Ows [] w0 w []) ?_ ?_
          · intro J; clear H; have H := HX; clear HX
            refine st_cond hk (C12 [1, 1, 1, 1, 1, 1, 1, 1, 0, 1, 0]) (C12 [1, 1, 1, 1, 1, 1, 1, 1, 0, 1, 1]) (.tmp 56) (t24.2.2) (by kernel_rfl) (by kernel_rfl) (fun h33 => ?_) (fun h33 => ?_)
            ·
              have h34 : t24.2.2 = true := h33
              rw [if_pos h34] at H
              refine st_region 13 (opsOf (C12 [1, 1, 1, 1, 1, 1, 1, 1, 0, 1, 0])) [0, 1, 2, 3, 4] (by kernel_rfl) (by kernel_rfl) ?_
              have h35 : ([63]).length + t24.2.1.length ≤ maxI := by
                by_cases h35 : ([63]).length + t24.2.1.length ≤ maxI
                · exact h35
                · rw [if_neg h35] at H; cases H
              rw [if_pos h35] at H
              have h36 : m28.length + (([63]) ++ t24.2.1).length ≤ maxI := by
                by_cases h36 : m28.length + (([63]) ++ t24.2.1).length ≤ maxI
                · exact h36
                · rw [if_neg h36] at H; cases H
              rw [if_pos h36] at H
              refine st_pure tabOK hk [0, 1, 2, 3, 4] [] [0, 8] [(0, S t3.1), (8, S (m28 ++ (([63]) ++ t24.2.1)))] (([63]).length + t24.2.1.length ≤ maxI ∧ (m28.length + (([63]) ++ t24.2.1).length ≤ maxI ∧ True)) (by kernel_rfl) ⟨h35, ⟨h36, trivial⟩⟩ ?_
              clear hk; intro a hk
              refine st_done ?_
              obtain rfl := Option.some.inj H
              exact J a w ⟨hk.to [0, 8] _ (by kernel_rfl), ho⟩
            ·
              have h37 : ¬ (t24.2.2 = true) := ne_true_of_eq_false h33
              rw [if_neg h37] at H
              refine st_skip (by kernel_rfl) ?_
              obtain rfl := Option.some.inj H
              exact J a w ⟨hk.to [0, 8] _ (by kernel_rfl), ho⟩
          · clear HX; rintro a w ⟨hk, ho⟩
            refine st_seq (C12 [1, 1, 1, 1, 1, 1, 1, 1, 1, 0]) (C12 [1, 1, 1, 1, 1, 1, 1, 1, 1, 1]) (by kernel_rfl) ?_
            refine st_region 14 (opsOf (C12 [1, 1, 1, 1, 1, 1, 1, 1, 1, 0])) [0, 1, 2, 3, 4, 5] (by kernel_rfl) (by kernel_rfl) ?_
            have h38 : ([104, 116, 116, 112, 58, 47, 47]).length + t3.1.length ≤ maxI := by
              by_cases h38 : ([104, 116, 116, 112, 58, 47, 47]).length + t3.1.length ≤ maxI
              · exact h38
              · rw [if_neg h38] at H; cases H
            rw [if_pos h38] at H
            have h39 : (([104, 116, 116, 112, 58, 47, 47]) ++ t3.1).length + m32.length ≤ maxI := by
              by_cases h39 : (([104, 116, 116, 112, 58, 47, 47]) ++ t3.1).length + m32.length ≤ maxI
              · exact h39
              · rw [if_neg h39] at H; cases H
            rw [if_pos h39] at H
            refine st_pure tabOK hk [0, 1, 2, 3, 4, 5] [] [4, 5] [(4, S ((([104, 116, 116, 112, 58, 47, 47]) ++ t3.1) ++ m32)), (5, I 0)] (([104, 116, 116, 112, 58, 47, 47]).length + t3.1.length ≤ maxI ∧ ((([104, 116, 116, 112, 58, 47, 47]) ++ t3.1).length + m32.length ≤ maxI ∧ True)) (by kernel_rfl) ⟨h38, ⟨h39, trivial⟩⟩ ?_
            clear hk; intro a hk
            refine st_done ?_
            refine st_retG hk (by kernel_rfl) [S ((([104, 116, 116, 112, 58, 47, 47]) ++ t3.1) ++ m32), I 0] #[.tmp 4, .tmp 5] (by kernel_rfl) ⟨resT hk (by kernel_rfl), resT hk (by kernel_rfl), trivial⟩ ?_
            obtain rfl := Option.some.inj H
            exact ⟨_, rfl, rfl, ho⟩


/-! scullery/scullerylaw09.awake: function 7 -/
noncomputable def C7 (p : List Nat) : Code := Sub (bodyOf f7) p
def scullerylaw09_awake.f (K : Nat)  : Option (Bool) := (((target_Host.f K ([65, 46, 98, 58, 56, 48])).bind fun t1 => ((target_Normal.f K ([65, 46, 98, 58, 56, 48]) ([47, 120, 47, 46, 46, 47, 37, 55, 101, 99, 63, 37, 50, 102])).bind fun t3 => ((target_Percent.f K ([37, 50])).bind fun t5 => (((if (t1.1 == ([97, 46, 98])) = true then (if (t1.2 == 0) = true then (if (t3.1 == ([104, 116, 116, 112, 58, 47, 47, 97, 46, 98, 47, 126, 99, 63, 37, 50, 70])) = true then (if (t3.2 == 0) = true then (if (t5.2 == 2) = true then ((target_Dots.f K ([47, 97, 47, 98, 47, 46, 46, 47, 99, 47, 46])).bind fun t18 => some (t18 == ([47, 97, 47, 99, 47]))) else some false) else some false) else some false) else some false) else some false)).bind fun m7 => some m7)))))
abbrev scullerylaw09_awake.post (w0 : World) (r : Bool) (u : Value) (w : World) : Prop := u = .bool r ∧ Ows [] w0 w []
theorem scullerylaw09_awake.ok (K : Nat)  (r : Bool) (H : scullerylaw09_awake.f K  = some r) (w0 : World) (hg : Glob w0) : Calls Tryd.prog 7 ⟨[]⟩ w0 fun e w => ∃ u, e = .returned u ∧ scullerylaw09_awake.post w0 r u w := by
  unfold scullerylaw09_awake.f at H
  refine st_start (N := 41) [] (C7 []) func7 (by kernel_rfl) (by kernel_rfl) (by kernel_rfl) ?_
  intro a w hk ho
  refine st_seq (C7 [0]) (C7 [1]) (by kernel_rfl) ?_
  refine st_region 0 (opsOf (C7 [0])) [0] (by kernel_rfl) (by kernel_rfl) ?_
  refine st_pure tabOK hk [0] [] [] [] (True) (by kernel_rfl) trivial ?_
  clear hk; intro a hk
  refine st_done ?_
  refine st_seq (C7 [1, 0]) (C7 [1, 1]) (by kernel_rfl) ?_
  refine st_region 1 (opsOf (C7 [1, 0])) [0, 1, 2, 3, 4, 5] (by kernel_rfl) (by kernel_rfl) ?_
  obtain ⟨t1, h2, H⟩ := Option.bind_eq_some_iff.1 H
  refine st_call hk 8 [S ([65, 46, 98, 58, 56, 48])] (some 8) enters8 (by kernel_rfl) (target_Host.ok K  ([65, 46, 98, 58, 56, 48]) t1 h2 w ) ?_
  clear hk; rintro a u w ⟨rfl, ho'⟩ hk
  replace ho : Ows [] w0 w [] := ho.call ho'; clear ho'
  refine st_pure tabOK hk [1, 2, 3, 4, 5] [] [1, 2] [(1, S t1.1), (2, I t1.2)] (True) (by kernel_rfl) trivial ?_
  clear hk; intro a hk
  refine st_done ?_
  refine st_seq (C7 [1, 1, 0]) (C7 [1, 1, 1]) (by kernel_rfl) ?_
  refine st_region 2 (opsOf (C7 [1, 1, 0])) [0, 1, 2, 3, 4, 5] (by kernel_rfl) (by kernel_rfl) ?_
  obtain ⟨t3, h4, H⟩ := Option.bind_eq_some_iff.1 H
  refine st_call hk 12 [S ([65, 46, 98, 58, 56, 48]), S ([47, 120, 47, 46, 46, 47, 37, 55, 101, 99, 63, 37, 50, 102])] (some 12) enters12 (by kernel_rfl) (target_Normal.ok K  ([65, 46, 98, 58, 56, 48]) ([47, 120, 47, 46, 46, 47, 37, 55, 101, 99, 63, 37, 50, 102]) t3 h4 w (hg.of ho)) ?_
  clear hk; rintro a u w ⟨rfl, ho'⟩ hk
  replace ho : Ows [] w0 w [] := ho.call ho'; clear ho'
  refine st_pure tabOK hk [1, 2, 3, 4, 5] [] [1, 2, 3, 4] [(1, S t1.1), (2, I t1.2), (3, S t3.1), (4, I t3.2)] (True) (by kernel_rfl) trivial ?_
  clear hk; intro a hk
  refine st_done ?_
  refine st_seq (C7 [1, 1, 1, 0]) (C7 [1, 1, 1, 1]) (by kernel_rfl) ?_
  refine st_region 3 (opsOf (C7 [1, 1, 1, 0])) [0, 1, 2, 3, 4, 5] (by kernel_rfl) (by kernel_rfl) ?_
  obtain ⟨t5, h6, H⟩ := Option.bind_eq_some_iff.1 H
  refine st_call hk 10 [S ([37, 50])] (some 16) enters10 (by kernel_rfl) (target_Percent.ok K  ([37, 50]) t5 h6 w ) ?_
  clear hk; rintro a u w ⟨rfl, ho'⟩ hk
  replace ho : Ows [] w0 w [] := ho.call ho'; clear ho'
  refine st_pure tabOK hk [1, 2, 3, 4, 5] [] [1, 2, 3, 4, 6] [(1, S t1.1), (2, I t1.2), (3, S t3.1), (4, I t3.2), (6, I t5.2)] (True) (by kernel_rfl) trivial ?_
  clear hk; intro a hk
  refine st_done ?_
  refine st_seq (C7 [1, 1, 1, 1, 0]) (C7 [1, 1, 1, 1, 1]) (by kernel_rfl) ?_
  refine st_region 4 (opsOf (C7 [1, 1, 1, 1, 0])) [0, 1, 2, 3, 4, 5, 6, 7, 8, 9, 10, 11, 12, 13, 14, 15, 16, 17, 18, 19, 20, 21, 22] (by kernel_rfl) (by kernel_rfl) ?_
  refine st_pure tabOK hk [0, 1, 2] [3, 4, 5, 6, 7, 8, 9, 10, 11, 12, 13, 14, 15, 16, 17, 18, 19, 20, 21, 22] [2, 3, 4, 6, 21] [(2, I t1.2), (3, S t3.1), (4, I t3.2), (6, I t5.2), (21, .bool (t1.1 == ([97, 46, 98])))] (True) (by kernel_rfl) trivial ?_
  clear hk; intro a hk
  obtain ⟨m7, HX, H⟩ := Option.bind_eq_some_iff.1 H
  refine cut_ops (fun a w => Kn 41 a [(0, .bool m7)] ∧ Ows [] w0 w []) ?_ ?_
  · intro J; clear H; have H := HX; clear HX
    rcases Bool.eq_false_or_eq_true (t1.1 == ([97, 46, 98])) with h8 | h8
    ·
      rw [h8] at hk
      have h9 : (t1.1 == ([97, 46, 98])) = true := h8
      rw [if_pos h9] at H
      refine st_pure tabOK hk [3, 4, 5, 6] [7, 8, 9, 10, 11, 12, 13, 14, 15, 16, 17, 18, 19, 20, 21, 22] [3, 4, 6, 25] [(3, S t3.1), (4, I t3.2), (6, I t5.2), (25, .bool (t1.2 == 0))] (True) (by kernel_rfl) trivial ?_
      clear hk; intro a hk
      rcases Bool.eq_false_or_eq_true (t1.2 == 0) with h10 | h10
      ·
        rw [h10] at hk
        have h11 : (t1.2 == 0) = true := h10
        rw [if_pos h11] at H
        refine st_pure tabOK hk [7, 8, 9, 10] [11, 12, 13, 14, 15, 16, 17, 18, 19, 20, 21, 22] [4, 6, 29] [(4, I t3.2), (6, I t5.2), (29, .bool (t3.1 == ([104, 116, 116, 112, 58, 47, 47, 97, 46, 98, 47, 126, 99, 63, 37, 50, 70])))] (True) (by kernel_rfl) trivial ?_
        clear hk; intro a hk
        rcases Bool.eq_false_or_eq_true (t3.1 == ([104, 116, 116, 112, 58, 47, 47, 97, 46, 98, 47, 126, 99, 63, 37, 50, 70])) with h12 | h12
        ·
          rw [h12] at hk
          have h13 : (t3.1 == ([104, 116, 116, 112, 58, 47, 47, 97, 46, 98, 47, 126, 99, 63, 37, 50, 70])) = true := h12
          rw [if_pos h13] at H
          refine st_pure tabOK hk [11, 12, 13, 14] [15, 16, 17, 18, 19, 20, 21, 22] [6, 33] [(6, I t5.2), (33, .bool (t3.2 == 0))] (True) (by kernel_rfl) trivial ?_
          clear hk; intro a hk
          rcases Bool.eq_false_or_eq_true (t3.2 == 0) with h14 | h14
          ·
            rw [h14] at hk
            have h15 : (t3.2 == 0) = true := h14
            rw [if_pos h15] at H
            refine st_pure tabOK hk [15, 16, 17, 18] [19, 20, 21, 22] [37] [(37, .bool (t5.2 == 2))] (True) (by kernel_rfl) trivial ?_
            clear hk; intro a hk
            rcases Bool.eq_false_or_eq_true (t5.2 == 2) with h16 | h16
            ·
              rw [h16] at hk
              have h17 : (t5.2 == 2) = true := h16
              rw [if_pos h17] at H
              obtain ⟨t18, h19, H⟩ := Option.bind_eq_some_iff.1 H
              refine st_call hk 14 [S ([47, 97, 47, 98, 47, 46, 46, 47, 99, 47, 46])] (some 38) enters14 (by kernel_rfl) (target_Dots.ok K  ([47, 97, 47, 98, 47, 46, 46, 47, 99, 47, 46]) t18 h19 w (hg.of ho)) ?_
              clear hk; rintro a u w ⟨rfl, ho'⟩ hk
              replace ho : Ows [] w0 w [] := ho.call ho'; clear ho'
              refine st_pure tabOK hk [20, 21, 22] [] [0] [(0, .bool (t18 == ([47, 97, 47, 99, 47])))] (True) (by kernel_rfl) trivial ?_
              clear hk; intro a hk
              refine st_done ?_
              obtain rfl := Option.some.inj H
              exact J a w ⟨hk.to [0] _ (by kernel_rfl), ho⟩
            ·
              rw [h16] at hk
              have h20 : ¬ ((t5.2 == 2) = true) := ne_true_of_eq_false h16
              rw [if_neg h20] at H
              refine st_pure tabOK hk [19, 20, 21, 22] [] [0] [(0, .bool false)] (True) (by kernel_rfl) trivial ?_
              clear hk; intro a hk
              refine st_done ?_
              obtain rfl := Option.some.inj H
              exact J a w ⟨hk.to [0] _ (by kernel_rfl), ho⟩
          ·
            rw [h14] at hk
            have h21 : ¬ ((t3.2 == 0) = true) := ne_true_of_eq_false h14
            rw [if_neg h21] at H
            refine st_pure tabOK hk [15, 16, 17, 18, 19, 20, 21, 22] [] [0] [(0, .bool false)] (True) (by kernel_rfl) trivial ?_
            clear hk; intro a hk
            refine st_done ?_
            obtain rfl := Option.some.inj H
            exact J a w ⟨hk.to [0] _ (by kernel_rfl), ho⟩
        ·
          rw [h12] at hk
          have h22 : ¬ ((t3.1 == ([104, 116, 116, 112, 58, 47, 47, 97, 46, 98, 47, 126, 99, 63, 37, 50, 70])) = true) := ne_true_of_eq_false h12
          rw [if_neg h22] at H
          refine st_pure tabOK hk [11, 12, 13, 14, 15, 16, 17, 18, 19, 20, 21, 22] [] [0] [(0, .bool false)] (True) (by kernel_rfl) trivial ?_
          clear hk; intro a hk
          refine st_done ?_
          obtain rfl := Option.some.inj H
          exact J a w ⟨hk.to [0] _ (by kernel_rfl), ho⟩
      ·
        rw [h10] at hk
        have h23 : ¬ ((t1.2 == 0) = true) := ne_true_of_eq_false h10
        rw [if_neg h23] at H
        refine st_pure tabOK hk [7, 8, 9, 10, 11, 12, 13, 14, 15, 16, 17, 18, 19, 20, 21, 22] [] [0] [(0, .bool false)] (True) (by kernel_rfl) trivial ?_
        clear hk; intro a hk
        refine st_done ?_
        obtain rfl := Option.some.inj H
        exact J a w ⟨hk.to [0] _ (by kernel_rfl), ho⟩
    ·
      rw [h8] at hk
      have h24 : ¬ ((t1.1 == ([97, 46, 98])) = true) := ne_true_of_eq_false h8
      rw [if_neg h24] at H
      refine st_pure tabOK hk [3, 4, 5, 6, 7, 8, 9, 10, 11, 12, 13, 14, 15, 16, 17, 18, 19, 20, 21, 22] [] [0] [(0, .bool false)] (True) (by kernel_rfl) trivial ?_
      clear hk; intro a hk
      refine st_done ?_
      obtain rfl := Option.some.inj H
      exact J a w ⟨hk.to [0] _ (by kernel_rfl), ho⟩
  · clear HX; rintro a w ⟨hk, ho⟩
    refine st_retG hk (by kernel_rfl) [.bool m7] #[.tmp 0] (by kernel_rfl) ⟨resT hk (by kernel_rfl), trivial⟩ ?_
    obtain rfl := Option.some.inj H
    exact ⟨_, rfl, rfl, ho⟩


/-! scullery/scullerylaw09.TargetDots: function 5 -/
noncomputable def C5 (p : List Nat) : Code := Sub (bodyOf f5) p
def scullerylaw09_TargetDots.l0 : Nat → Str → Str → Bool → Str → Int → Option ((Unit) ⊕ (Bool))
  | 0, _, _, _, _, _ => none
  | k + 1, p0, p1, t1, t17, v33 => (if w64 (v33 + 2) < ((t17 ++ ([47])).length : Int) then (if (0 : Int) ≤ v33 then (if v33 < ((t17 ++ ([47])).length : Int) then (((if ((bt (t17 ++ ([47])) v33) == 47) = true then (if (0 : Int) ≤ w64 (v33 + 1) then (if w64 (v33 + 1) < ((t17 ++ ([47])).length : Int) then (if ((bt (t17 ++ ([47])) (w64 (v33 + 1))) == 46) = true then (if (0 : Int) ≤ w64 (v33 + 2) then (if ((bt (t17 ++ ([47])) (w64 (v33 + 2))) == 47) = true then some true else (if ((bt (t17 ++ ([47])) (w64 (v33 + 2))) == 46) = true then (if w64 (v33 + 3) < ((t17 ++ ([47])).length : Int) then (if (0 : Int) ≤ w64 (v33 + 3) then some ((bt (t17 ++ ([47])) (w64 (v33 + 3))) == 47) else none) else some false) else some false)) else none) else some false) else none) else none) else some false)).bind fun m38 => (if m38 = true then some (.inr false) else scullerylaw09_TargetDots.l0 k p0 p1 t1 t17 (w64 (v33 + 1)))) else none) else none) else some (.inl ()))
def scullerylaw09_TargetDots.l1 : Nat → Str → Str → Bool → Str → Int → Option ((Unit) ⊕ (Bool))
  | 0, _, _, _, _, _ => none
  | k + 1, p0, p1, t1, t17, v65 => (if v65 < (p1.length : Int) then (if (0 : Int) ≤ v65 then (if ((bt p1 v65) == 47) = true then some (.inr t1) else scullerylaw09_TargetDots.l1 k p0 p1 t1 t17 (w64 (v65 + 1))) else none) else some (.inl ()))
def scullerylaw09_TargetDots.f (K : Nat) (p0 : Str) (p1 : Str) : Option (Bool) := (((scullerylaw09_awake.f K ).bind fun t1 => (((if (p0.length : Int) > 300 then some true else (if (p1.length : Int) > 100 then some true else (if ((p0.length : Int) == 0) = true then some true else (if 0 < (p0.length : Int) then some ((bt p0 0) != 47) else none))))).bind fun m3 => (if m3 = true then some t1 else ((target_Dots.f K p0).bind fun t17 => ((target_Dots.f K t17).bind fun t19 => (((if (!(t19 == t17)) = true then some true else (if (t17 == ([])) = true then some true else (if 0 < (t17.length : Int) then some ((bt t17 0) != 47) else none)))).bind fun m21 => (if m21 = true then some false else (if t17.length + ([47]).length ≤ maxI then ((scullerylaw09_TargetDots.l0 K p0 p1 t1 t17 0).bind fun m62 => match m62 with | .inl s64 => (((scullerylaw09_TargetDots.l1 K p0 p1 t1 t17 0).bind fun m73 => match m73 with | .inl s75 => (if ((p1 == ([46])) || (p1 == ([46, 46]))) = true then some t1 else (((if t1 = true then (if ([47]).length + p1.length ≤ maxI then (if (([47]) ++ p1).length + ([47, 46, 46]).length ≤ maxI then (if ((([47]) ++ p1) ++ ([47, 46, 46])).length + p0.length ≤ maxI then ((target_Dots.f K (((([47]) ++ p1) ++ ([47, 46, 46])) ++ p0)).bind fun t88 => (if (t88 == t17) = true then (if ([47, 46]).length + p0.length ≤ maxI then ((target_Dots.f K (([47, 46]) ++ p0)).bind fun t93 => some (t93 == t17)) else none) else some false)) else none) else none) else none) else some false)).bind fun m82 => some m82)) | .inr r97 => some r97)) | .inr r98 => some r98) else none)))))))))
abbrev scullerylaw09_TargetDots.post (w0 : World) (r : Bool) (u : Value) (w : World) : Prop := u = .bool r ∧ Ows [] w0 w []
theorem scullerylaw09_TargetDots.l0_ok : ∀ (k : Nat) (p0 : Str) (p1 : Str) (t1 : Bool) (t17 : Str) (v33 : Int) (out : (Unit) ⊕ (Bool)), scullerylaw09_TargetDots.l0 k p0 p1 t1 t17 v33 = some out → ∀ (w0 : World) (Q : Exit → Act → World → Prop) (rest : List It) (a : Act) (w : World), Kn 129 a [(0, S p0), (1, S p1), (5, .bool t1), (6, S t17), (7, S (t17 ++ ([47]))), (8, I v33)] → Ows [] w0 w [] → (∀ (s : Unit) (a : Act) (w : World), out = .inl s → Kn 129 a [(0, S p0), (1, S p1), (5, .bool t1), (6, S t17)] → Ows [] w0 w [] → G Tryd.prog Q rest a w) → (∀ (r : Bool) (a : Act) (w : World), out = .inr r → Kn 129 a [(4, .bool r)] → Ows [] w0 w [] → Q .ret a w) → G Tryd.prog Q (.code (C5 [1, 1, 1, 1, 1, 1, 0, 1, 0, 0]) :: .inl (C5 [1, 1, 1, 1, 1, 1, 0, 1, 0, 0]) :: .endb 0 :: rest) a w := by
  intro k
  induction k with
  | zero => intro p0 p1 t1 t17 v33 out H; simp [scullerylaw09_TargetDots.l0] at H
  | succ k ih =>
    intro p0 p1 t1 t17 v33 out H  w0 Q rest a w  hk ho J R
    simp only [scullerylaw09_TargetDots.l0] at H
    refine st_seq (C5 [1, 1, 1, 1, 1, 1, 0, 1, 0, 0, 0]) (C5 [1, 1, 1, 1, 1, 1, 0, 1, 0, 0, 1]) (by kernel_rfl) ?_
    refine st_seq (C5 [1, 1, 1, 1, 1, 1, 0, 1, 0, 0, 0, 0]) (C5 [1, 1, 1, 1, 1, 1, 0, 1, 0, 0, 0, 1]) (by kernel_rfl) ?_
    refine st_region 9 (opsOf (C5 [1, 1, 1, 1, 1, 1, 0, 1, 0, 0, 0, 0])) [0, 1, 2, 3, 4] (by kernel_rfl) (by kernel_rfl) ?_
    refine st_pure tabOK hk [0, 1, 2, 3, 4] [] [0, 1, 5, 6, 7, 8, 51] [(0, S p0), (1, S p1), (5, .bool t1), (6, S t17), (7, S (t17 ++ ([47]))), (8, I v33), (51, .bool (decide (w64 (v33 + 2) < ((t17 ++ ([47])).length : Int))))] (True) (by kernel_rfl) trivial ?_
    clear hk; intro a hk
    refine st_done ?_
    refine st_cond hk (C5 [1, 1, 1, 1, 1, 1, 0, 1, 0, 0, 0, 1, 0]) (C5 [1, 1, 1, 1, 1, 1, 0, 1, 0, 0, 0, 1, 1]) (.tmp 51) (decide (w64 (v33 + 2) < ((t17 ++ ([47])).length : Int))) (by kernel_rfl) (by kernel_rfl) (fun h34 => ?_) (fun h34 => ?_)
    ·
      have h35 : w64 (v33 + 2) < ((t17 ++ ([47])).length : Int) := of_decide_eq_true h34
      rw [if_pos h35] at H
      refine st_skip (by kernel_rfl) ?_
      refine st_seq (C5 [1, 1, 1, 1, 1, 1, 0, 1, 0, 0, 1, 0]) (C5 [1, 1, 1, 1, 1, 1, 0, 1, 0, 0, 1, 1]) (by kernel_rfl) ?_
      refine st_block 1 (C5 [1, 1, 1, 1, 1, 1, 0, 1, 0, 0, 1, 0, 0]) (by kernel_rfl) ?_
      refine st_seq (C5 [1, 1, 1, 1, 1, 1, 0, 1, 0, 0, 1, 0, 0, 0]) (C5 [1, 1, 1, 1, 1, 1, 0, 1, 0, 0, 1, 0, 0, 1]) (by kernel_rfl) ?_
      refine st_region 11 (opsOf (C5 [1, 1, 1, 1, 1, 1, 0, 1, 0, 0, 1, 0, 0, 0])) [0, 1, 2, 3, 4, 5, 6, 7, 8, 9, 10, 11, 12, 13, 14, 15, 16, 17, 18, 19, 20, 21, 22, 23, 24, 25, 26, 27, 28, 29, 30, 31, 32, 33, 34, 35, 36, 37, 38] (by kernel_rfl) (by kernel_rfl) ?_
      have h36 : (0 : Int) ≤ v33 := by
        by_cases h36 : (0 : Int) ≤ v33
        · exact h36
        · rw [if_neg h36] at H; cases H
      rw [if_pos h36] at H
      have h37 : v33 < ((t17 ++ ([47])).length : Int) := by
        by_cases h37 : v33 < ((t17 ++ ([47])).length : Int)
        · exact h37
        · rw [if_neg h37] at H; cases H
      rw [if_pos h37] at H
      refine st_pure tabOK hk [0, 1, 2, 3, 4] [5, 6, 7, 8, 9, 10, 11, 12, 13, 14, 15, 16, 17, 18, 19, 20, 21, 22, 23, 24, 25, 26, 27, 28, 29, 30, 31, 32, 33, 34, 35, 36, 37, 38] [0, 1, 5, 6, 7, 8, 58] [(0, S p0), (1, S p1), (5, .bool t1), (6, S t17), (7, S (t17 ++ ([47]))), (8, I v33), (58, .bool ((bt (t17 ++ ([47])) v33) == 47))] (((0 : Int) ≤ v33 ∧ v33 < ((t17 ++ ([47])).length : Int)) ∧ True) (by kernel_rfl) ⟨⟨h36, h37⟩, trivial⟩ ?_
      clear hk; intro a hk
      obtain ⟨m38, HX, H⟩ := Option.bind_eq_some_iff.1 H
      refine cut_ops (fun a w => Kn 129 a [(0, S p0), (1, S p1), (5, .bool t1), (6, S t17), (7, S (t17 ++ ([47]))), (8, I v33), (92, .bool m38)] ∧ Ows [] w0 w []) ?_ ?_
      · intro J; clear H; have H := HX; clear HX
        rcases Bool.eq_false_or_eq_true ((bt (t17 ++ ([47])) v33) == 47) with h39 | h39
        ·
          rw [h39] at hk
          have h40 : ((bt (t17 ++ ([47])) v33) == 47) = true := h39
          rw [if_pos h40] at H
          have h41 : (0 : Int) ≤ w64 (v33 + 1) := by
            by_cases h41 : (0 : Int) ≤ w64 (v33 + 1)
            · exact h41
            · rw [if_neg h41] at H; cases H
          rw [if_pos h41] at H
          have h42 : w64 (v33 + 1) < ((t17 ++ ([47])).length : Int) := by
            by_cases h42 : w64 (v33 + 1) < ((t17 ++ ([47])).length : Int)
            · exact h42
            · rw [if_neg h42] at H; cases H
          rw [if_pos h42] at H
          refine st_pure tabOK hk [5, 6, 7, 8, 9, 10, 11] [12, 13, 14, 15, 16, 17, 18, 19, 20, 21, 22, 23, 24, 25, 26, 27, 28, 29, 30, 31, 32, 33, 34, 35, 36, 37, 38] [0, 1, 5, 6, 7, 8, 65] [(0, S p0), (1, S p1), (5, .bool t1), (6, S t17), (7, S (t17 ++ ([47]))), (8, I v33), (65, .bool ((bt (t17 ++ ([47])) (w64 (v33 + 1))) == 46))] (((0 : Int) ≤ w64 (v33 + 1) ∧ w64 (v33 + 1) < ((t17 ++ ([47])).length : Int)) ∧ True) (by kernel_rfl) ⟨⟨h41, h42⟩, trivial⟩ ?_
          clear hk; intro a hk
          rcases Bool.eq_false_or_eq_true ((bt (t17 ++ ([47])) (w64 (v33 + 1))) == 46) with h43 | h43
          ·
            rw [h43] at hk
            have h44 : ((bt (t17 ++ ([47])) (w64 (v33 + 1))) == 46) = true := h43
            rw [if_pos h44] at H
            have h45 : (0 : Int) ≤ w64 (v33 + 2) := by
              by_cases h45 : (0 : Int) ≤ w64 (v33 + 2)
              · exact h45
              · rw [if_neg h45] at H; cases H
            rw [if_pos h45] at H
            refine st_pure tabOK hk [12, 13, 14, 15, 16, 17] [18, 19, 20, 21, 22, 23, 24, 25, 26, 27, 28, 29, 30, 31, 32, 33, 34, 35, 36, 37, 38] [0, 1, 5, 6, 7, 8, 65, 71] [(0, S p0), (1, S p1), (5, .bool t1), (6, S t17), (7, S (t17 ++ ([47]))), (8, I v33), (65, .bool true), (71, .bool ((bt (t17 ++ ([47])) (w64 (v33 + 2))) == 47))] (((0 : Int) ≤ w64 (v33 + 2) ∧ w64 (v33 + 2) < ((t17 ++ ([47])).length : Int)) ∧ True) (by kernel_rfl) ⟨⟨h45, h35⟩, trivial⟩ ?_
            clear hk; intro a hk
            rcases Bool.eq_false_or_eq_true ((bt (t17 ++ ([47])) (w64 (v33 + 2))) == 47) with h46 | h46
            ·
              rw [h46] at hk
              have h47 : ((bt (t17 ++ ([47])) (w64 (v33 + 2))) == 47) = true := h46
              rw [if_pos h47] at H
              refine st_pure tabOK hk [18, 19, 20, 21, 22, 23, 24, 25, 26, 27, 28, 29, 30, 31, 32, 33, 34, 35, 36, 37, 38] [] [0, 1, 5, 6, 7, 8, 92] [(0, S p0), (1, S p1), (5, .bool t1), (6, S t17), (7, S (t17 ++ ([47]))), (8, I v33), (92, .bool true)] (True) (by kernel_rfl) trivial ?_
              clear hk; intro a hk
              refine st_done ?_
              obtain rfl := Option.some.inj H
              exact J a w ⟨hk.to [0, 1, 5, 6, 7, 8, 92] _ (by kernel_rfl), ho⟩
            ·
              rw [h46] at hk
              have h48 : ¬ (((bt (t17 ++ ([47])) (w64 (v33 + 2))) == 47) = true) := ne_true_of_eq_false h46
              rw [if_neg h48] at H
              refine st_pure tabOK hk [18, 19, 20, 21, 22, 23] [24, 25, 26, 27, 28, 29, 30, 31, 32, 33, 34, 35, 36, 37, 38] [0, 1, 5, 6, 7, 8, 65, 71, 77] [(0, S p0), (1, S p1), (5, .bool t1), (6, S t17), (7, S (t17 ++ ([47]))), (8, I v33), (65, .bool true), (71, .bool false), (77, .bool ((bt (t17 ++ ([47])) (w64 (v33 + 2))) == 46))] (((0 : Int) ≤ w64 (v33 + 2) ∧ w64 (v33 + 2) < ((t17 ++ ([47])).length : Int)) ∧ True) (by kernel_rfl) ⟨⟨h45, h35⟩, trivial⟩ ?_
              clear hk; intro a hk
              rcases Bool.eq_false_or_eq_true ((bt (t17 ++ ([47])) (w64 (v33 + 2))) == 46) with h49 | h49
              ·
                rw [h49] at hk
                have h50 : ((bt (t17 ++ ([47])) (w64 (v33 + 2))) == 46) = true := h49
                rw [if_pos h50] at H
                refine st_pure tabOK hk [24, 25, 26, 27, 28, 29, 30] [31, 32, 33, 34, 35, 36, 37, 38] [0, 1, 5, 6, 7, 8, 65, 71, 84] [(0, S p0), (1, S p1), (5, .bool t1), (6, S t17), (7, S (t17 ++ ([47]))), (8, I v33), (65, .bool true), (71, .bool false), (84, .bool (decide (w64 (v33 + 3) < ((t17 ++ ([47])).length : Int))))] (True) (by kernel_rfl) trivial ?_
                clear hk; intro a hk
                rcases Bool.eq_false_or_eq_true (decide (w64 (v33 + 3) < ((t17 ++ ([47])).length : Int))) with h51 | h51
                ·
                  rw [h51] at hk
                  have h52 : w64 (v33 + 3) < ((t17 ++ ([47])).length : Int) := of_decide_eq_true h51
                  rw [if_pos h52] at H
                  have h53 : (0 : Int) ≤ w64 (v33 + 3) := by
                    by_cases h53 : (0 : Int) ≤ w64 (v33 + 3)
                    · exact h53
                    · rw [if_neg h53] at H; cases H
                  rw [if_pos h53] at H
                  refine st_pure tabOK hk [31, 32, 33, 34, 35, 36, 37, 38] [] [0, 1, 5, 6, 7, 8, 92] [(0, S p0), (1, S p1), (5, .bool t1), (6, S t17), (7, S (t17 ++ ([47]))), (8, I v33), (92, .bool ((bt (t17 ++ ([47])) (w64 (v33 + 3))) == 47))] (((0 : Int) ≤ w64 (v33 + 3) ∧ w64 (v33 + 3) < ((t17 ++ ([47])).length : Int)) ∧ True) (by kernel_rfl) ⟨⟨h53, h52⟩, trivial⟩ ?_
                  clear hk; intro a hk
                  refine st_done ?_
                  obtain rfl := Option.some.inj H
                  exact J a w ⟨hk.to [0, 1, 5, 6, 7, 8, 92] _ (by kernel_rfl), ho⟩
                ·
                  rw [h51] at hk
                  have h54 : ¬ (w64 (v33 + 3) < ((t17 ++ ([47])).length : Int)) := of_decide_eq_false h51
                  rw [if_neg h54] at H
                  refine st_pure tabOK hk [31, 32, 33, 34, 35, 36, 37, 38] [] [0, 1, 5, 6, 7, 8, 92] [(0, S p0), (1, S p1), (5, .bool t1), (6, S t17), (7, S (t17 ++ ([47]))), (8, I v33), (92, .bool false)] (True) (by kernel_rfl) trivial ?_
                  clear hk; intro a hk
                  refine st_done ?_
                  obtain rfl := Option.some.inj H
                  exact J a w ⟨hk.to [0, 1, 5, 6, 7, 8, 92] _ (by kernel_rfl), ho⟩
              ·
                rw [h49] at hk
                have h55 : ¬ (((bt (t17 ++ ([47])) (w64 (v33 + 2))) == 46) = true) := ne_true_of_eq_false h49
                rw [if_neg h55] at H
                refine st_pure tabOK hk [24, 25, 26, 27, 28, 29, 30, 31, 32, 33, 34, 35, 36, 37, 38] [] [0, 1, 5, 6, 7, 8, 92] [(0, S p0), (1, S p1), (5, .bool t1), (6, S t17), (7, S (t17 ++ ([47]))), (8, I v33), (92, .bool false)] (True) (by kernel_rfl) trivial ?_
                clear hk; intro a hk
                refine st_done ?_
                obtain rfl := Option.some.inj H
                exact J a w ⟨hk.to [0, 1, 5, 6, 7, 8, 92] _ (by kernel_rfl), ho⟩
          ·
            rw [h43] at hk
            have h56 : ¬ (((bt (t17 ++ ([47])) (w64 (v33 + 1))) == 46) = true) := ne_true_of_eq_false h43
            rw [if_neg h56] at H
            refine st_pure tabOK hk [12, 13, 14, 15, 16, 17, 18, 19, 20, 21, 22, 23, 24, 25, 26, 27, 28, 29, 30, 31, 32, 33, 34, 35, 36, 37, 38] [] [0, 1, 5, 6, 7, 8, 92] [(0, S p0), (1, S p1), (5, .bool t1), (6, S t17), (7, S (t17 ++ ([47]))), (8, I v33), (92, .bool false)] (True) (by kernel_rfl) trivial ?_
            clear hk; intro a hk
            refine st_done ?_
            obtain rfl := Option.some.inj H
            exact J a w ⟨hk.to [0, 1, 5, 6, 7, 8, 92] _ (by kernel_rfl), ho⟩
        ·
          rw [h39] at hk
          have h57 : ¬ (((bt (t17 ++ ([47])) v33) == 47) = true) := ne_true_of_eq_false h39
          rw [if_neg h57] at H
          refine st_pure tabOK hk [5, 6, 7, 8, 9, 10, 11, 12, 13, 14, 15, 16, 17, 18, 19, 20, 21, 22, 23, 24, 25, 26, 27, 28, 29, 30, 31, 32, 33, 34, 35, 36, 37, 38] [] [0, 1, 5, 6, 7, 8, 92] [(0, S p0), (1, S p1), (5, .bool t1), (6, S t17), (7, S (t17 ++ ([47]))), (8, I v33), (92, .bool false)] (True) (by kernel_rfl) trivial ?_
          clear hk; intro a hk
          refine st_done ?_
          obtain rfl := Option.some.inj H
          exact J a w ⟨hk.to [0, 1, 5, 6, 7, 8, 92] _ (by kernel_rfl), ho⟩
      · clear HX; rintro a w ⟨hk, ho⟩
        refine st_cond hk (C5 [1, 1, 1, 1, 1, 1, 0, 1, 0, 0, 1, 0, 0, 1, 0]) (C5 [1, 1, 1, 1, 1, 1, 0, 1, 0, 0, 1, 0, 0, 1, 1]) (.tmp 92) (m38) (by kernel_rfl) (by kernel_rfl) (fun h58 => ?_) (fun h58 => ?_)
        ·
          have h59 : m38 = true := h58
          rw [if_pos h59] at H
          refine st_seq (C5 [1, 1, 1, 1, 1, 1, 0, 1, 0, 0, 1, 0, 0, 1, 0, 0]) (C5 [1, 1, 1, 1, 1, 1, 0, 1, 0, 0, 1, 0, 0, 1, 0, 1]) (by kernel_rfl) ?_
          refine st_region 12 (opsOf (C5 [1, 1, 1, 1, 1, 1, 0, 1, 0, 0, 1, 0, 0, 1, 0, 0])) [0] (by kernel_rfl) (by kernel_rfl) ?_
          refine st_pure tabOK hk [0] [] [4] [(4, .bool false)] (True) (by kernel_rfl) trivial ?_
          clear hk; intro a hk
          refine st_done ?_
          refine st_ret (by kernel_rfl) ?_
          obtain rfl := Option.some.inj H
          exact R false  a w rfl (hk.to [4] _ (by kernel_rfl)) ho
        ·
          have h60 : ¬ (m38 = true) := ne_true_of_eq_false h58
          rw [if_neg h60] at H
          refine st_skip (by kernel_rfl) ?_
          refine st_endb 1 ?_
          refine st_region 10 (opsOf (C5 [1, 1, 1, 1, 1, 1, 0, 1, 0, 0, 1, 1])) [0, 1, 2] (by kernel_rfl) (by kernel_rfl) ?_
          refine st_pure tabOK hk [0, 1, 2] [] [0, 1, 5, 6, 7, 8] [(0, S p0), (1, S p1), (5, .bool t1), (6, S t17), (7, S (t17 ++ ([47]))), (8, I (w64 (v33 + 1)))] (True) (by kernel_rfl) trivial ?_
          clear hk; intro a hk
          refine st_done ?_
          refine st_inl ?_
          exact ih p0 p1 t1 t17 (w64 (v33 + 1)) out H  w0 Q rest a w  (hk.to [0, 1, 5, 6, 7, 8] _ (by kernel_rfl)) ho J R
    ·
      have h61 : ¬ (w64 (v33 + 2) < ((t17 ++ ([47])).length : Int)) := of_decide_eq_false h34
      rw [if_neg h61] at H
      refine st_exit 0 _ (by kernel_rfl) rfl ?_
      obtain rfl := Option.some.inj H
      exact J ()  a w rfl (hk.to [0, 1, 5, 6] _ (by kernel_rfl)) ho

theorem scullerylaw09_TargetDots.l1_ok : ∀ (k : Nat) (p0 : Str) (p1 : Str) (t1 : Bool) (t17 : Str) (v65 : Int) (out : (Unit) ⊕ (Bool)), scullerylaw09_TargetDots.l1 k p0 p1 t1 t17 v65 = some out → ∀ (w0 : World) (Q : Exit → Act → World → Prop) (rest : List It) (a : Act) (w : World), Kn 129 a [(0, S p0), (1, S p1), (5, .bool t1), (6, S t17), (9, I v65)] → Ows [] w0 w [] → (∀ (s : Unit) (a : Act) (w : World), out = .inl s → Kn 129 a [(0, S p0), (1, S p1), (5, .bool t1), (6, S t17)] → Ows [] w0 w [] → G Tryd.prog Q rest a w) → (∀ (r : Bool) (a : Act) (w : World), out = .inr r → Kn 129 a [(4, .bool r)] → Ows [] w0 w [] → Q .ret a w) → G Tryd.prog Q (.code (C5 [1, 1, 1, 1, 1, 1, 1, 0, 1, 0, 0]) :: .inl (C5 [1, 1, 1, 1, 1, 1, 1, 0, 1, 0, 0]) :: .endb 2 :: rest) a w := by
  intro k
  induction k with
  | zero => intro p0 p1 t1 t17 v65 out H; simp [scullerylaw09_TargetDots.l1] at H
  | succ k ih =>
    intro p0 p1 t1 t17 v65 out H  w0 Q rest a w  hk ho J R
    simp only [scullerylaw09_TargetDots.l1] at H
    refine st_seq (C5 [1, 1, 1, 1, 1, 1, 1, 0, 1, 0, 0, 0]) (C5 [1, 1, 1, 1, 1, 1, 1, 0, 1, 0, 0, 1]) (by kernel_rfl) ?_
    refine st_seq (C5 [1, 1, 1, 1, 1, 1, 1, 0, 1, 0, 0, 0, 0]) (C5 [1, 1, 1, 1, 1, 1, 1, 0, 1, 0, 0, 0, 1]) (by kernel_rfl) ?_
    refine st_region 14 (opsOf (C5 [1, 1, 1, 1, 1, 1, 1, 0, 1, 0, 0, 0, 0])) [0, 1, 2, 3] (by kernel_rfl) (by kernel_rfl) ?_
    refine st_pure tabOK hk [0, 1, 2, 3] [] [0, 1, 5, 6, 9, 96] [(0, S p0), (1, S p1), (5, .bool t1), (6, S t17), (9, I v65), (96, .bool (decide (v65 < (p1.length : Int))))] (True) (by kernel_rfl) trivial ?_
    clear hk; intro a hk
    refine st_done ?_
    refine st_cond hk (C5 [1, 1, 1, 1, 1, 1, 1, 0, 1, 0, 0, 0, 1, 0]) (C5 [1, 1, 1, 1, 1, 1, 1, 0, 1, 0, 0, 0, 1, 1]) (.tmp 96) (decide (v65 < (p1.length : Int))) (by kernel_rfl) (by kernel_rfl) (fun h66 => ?_) (fun h66 => ?_)
    ·
      have h67 : v65 < (p1.length : Int) := of_decide_eq_true h66
      rw [if_pos h67] at H
      refine st_skip (by kernel_rfl) ?_
      refine st_seq (C5 [1, 1, 1, 1, 1, 1, 1, 0, 1, 0, 0, 1, 0]) (C5 [1, 1, 1, 1, 1, 1, 1, 0, 1, 0, 0, 1, 1]) (by kernel_rfl) ?_
      refine st_block 3 (C5 [1, 1, 1, 1, 1, 1, 1, 0, 1, 0, 0, 1, 0, 0]) (by kernel_rfl) ?_
      refine st_seq (C5 [1, 1, 1, 1, 1, 1, 1, 0, 1, 0, 0, 1, 0, 0, 0]) (C5 [1, 1, 1, 1, 1, 1, 1, 0, 1, 0, 0, 1, 0, 0, 1]) (by kernel_rfl) ?_
      refine st_region 16 (opsOf (C5 [1, 1, 1, 1, 1, 1, 1, 0, 1, 0, 0, 1, 0, 0, 0])) [0, 1, 2, 3] (by kernel_rfl) (by kernel_rfl) ?_
      have h68 : (0 : Int) ≤ v65 := by
        by_cases h68 : (0 : Int) ≤ v65
        · exact h68
        · rw [if_neg h68] at H; cases H
      rw [if_pos h68] at H
      refine st_pure tabOK hk [0, 1, 2, 3] [] [0, 1, 5, 6, 9, 102] [(0, S p0), (1, S p1), (5, .bool t1), (6, S t17), (9, I v65), (102, .bool ((bt p1 v65) == 47))] (((0 : Int) ≤ v65 ∧ v65 < (p1.length : Int)) ∧ True) (by kernel_rfl) ⟨⟨h68, h67⟩, trivial⟩ ?_
      clear hk; intro a hk
      refine st_done ?_
      refine st_cond hk (C5 [1, 1, 1, 1, 1, 1, 1, 0, 1, 0, 0, 1, 0, 0, 1, 0]) (C5 [1, 1, 1, 1, 1, 1, 1, 0, 1, 0, 0, 1, 0, 0, 1, 1]) (.tmp 102) ((bt p1 v65) == 47) (by kernel_rfl) (by kernel_rfl) (fun h69 => ?_) (fun h69 => ?_)
      ·
        have h70 : ((bt p1 v65) == 47) = true := h69
        rw [if_pos h70] at H
        refine st_seq (C5 [1, 1, 1, 1, 1, 1, 1, 0, 1, 0, 0, 1, 0, 0, 1, 0, 0]) (C5 [1, 1, 1, 1, 1, 1, 1, 0, 1, 0, 0, 1, 0, 0, 1, 0, 1]) (by kernel_rfl) ?_
        refine st_region 17 (opsOf (C5 [1, 1, 1, 1, 1, 1, 1, 0, 1, 0, 0, 1, 0, 0, 1, 0, 0])) [0, 1] (by kernel_rfl) (by kernel_rfl) ?_
        refine st_pure tabOK hk [0, 1] [] [4] [(4, .bool t1)] (True) (by kernel_rfl) trivial ?_
        clear hk; intro a hk
        refine st_done ?_
        refine st_ret (by kernel_rfl) ?_
        obtain rfl := Option.some.inj H
        exact R t1  a w rfl (hk.to [4] _ (by kernel_rfl)) ho
      ·
        have h71 : ¬ (((bt p1 v65) == 47) = true) := ne_true_of_eq_false h69
        rw [if_neg h71] at H
        refine st_skip (by kernel_rfl) ?_
        refine st_endb 3 ?_
        refine st_region 15 (opsOf (C5 [1, 1, 1, 1, 1, 1, 1, 0, 1, 0, 0, 1, 1])) [0, 1, 2] (by kernel_rfl) (by kernel_rfl) ?_
        refine st_pure tabOK hk [0, 1, 2] [] [0, 1, 5, 6, 9] [(0, S p0), (1, S p1), (5, .bool t1), (6, S t17), (9, I (w64 (v65 + 1)))] (True) (by kernel_rfl) trivial ?_
        clear hk; intro a hk
        refine st_done ?_
        refine st_inl ?_
        exact ih p0 p1 t1 t17 (w64 (v65 + 1)) out H  w0 Q rest a w  (hk.to [0, 1, 5, 6, 9] _ (by kernel_rfl)) ho J R
    ·
      have h72 : ¬ (v65 < (p1.length : Int)) := of_decide_eq_false h66
      rw [if_neg h72] at H
      refine st_exit 2 _ (by kernel_rfl) rfl ?_
      obtain rfl := Option.some.inj H
      exact J ()  a w rfl (hk.to [0, 1, 5, 6] _ (by kernel_rfl)) ho

theorem scullerylaw09_TargetDots.ok (K : Nat) (p0 : Str) (p1 : Str) (r : Bool) (H : scullerylaw09_TargetDots.f K p0 p1 = some r) (w0 : World) (hg : Glob w0) : Calls Tryd.prog 5 ⟨[S p0, S p1]⟩ w0 fun e w => ∃ u, e = .returned u ∧ scullerylaw09_TargetDots.post w0 r u w := by
  unfold scullerylaw09_TargetDots.f at H
  refine st_start (N := 129) [S p0, S p1] (C5 []) func5 (by kernel_rfl) (by kernel_rfl) (by kernel_rfl) ?_
  intro a w hk ho
  refine st_seq (C5 [0]) (C5 [1]) (by kernel_rfl) ?_
  refine st_region 0 (opsOf (C5 [0])) [0] (by kernel_rfl) (by kernel_rfl) ?_
  refine st_pure tabOK hk [0] [] [0, 1] [(0, S p0), (1, S p1)] (True) (by kernel_rfl) trivial ?_
  clear hk; intro a hk
  refine st_done ?_
  refine st_seq (C5 [1, 0]) (C5 [1, 1]) (by kernel_rfl) ?_
  refine st_region 1 (opsOf (C5 [1, 0])) [0, 1] (by kernel_rfl) (by kernel_rfl) ?_
  obtain ⟨t1, h2, H⟩ := Option.bind_eq_some_iff.1 H
  refine st_call hk 7 [] (some 10) enters7 (by kernel_rfl) (scullerylaw09_awake.ok K   t1 h2 w (hg.of ho)) ?_
  clear hk; rintro a u w ⟨rfl, ho'⟩ hk
  replace ho : Ows [] w0 w [] := ho.call ho'; clear ho'
  refine st_pure tabOK hk [1] [] [0, 1, 5] [(0, S p0), (1, S p1), (5, .bool t1)] (True) (by kernel_rfl) trivial ?_
  clear hk; intro a hk
  refine st_done ?_
  refine st_seq (C5 [1, 1, 0]) (C5 [1, 1, 1]) (by kernel_rfl) ?_
  refine st_seq (C5 [1, 1, 0, 0]) (C5 [1, 1, 0, 1]) (by kernel_rfl) ?_
  refine st_region 2 (opsOf (C5 [1, 1, 0, 0])) [0, 1, 2, 3, 4, 5, 6, 7, 8, 9, 10, 11, 12, 13, 14, 15, 16, 17] (by kernel_rfl) (by kernel_rfl) ?_
  refine st_pure tabOK hk [0, 1, 2, 3] [4, 5, 6, 7, 8, 9, 10, 11, 12, 13, 14, 15, 16, 17] [0, 1, 5, 14] [(0, S p0), (1, S p1), (5, .bool t1), (14, .bool (decide ((p0.length : Int) > 300)))] (True) (by kernel_rfl) trivial ?_
  clear hk; intro a hk
  obtain ⟨m3, HX, H⟩ := Option.bind_eq_some_iff.1 H
  refine cut_ops (fun a w => Kn 129 a [(0, S p0), (1, S p1), (5, .bool t1), (28, .bool m3)] ∧ Ows [] w0 w []) ?_ ?_
  · intro J; clear H; have H := HX; clear HX
    rcases Bool.eq_false_or_eq_true (decide ((p0.length : Int) > 300)) with h4 | h4
    ·
      rw [h4] at hk
      have h5 : (p0.length : Int) > 300 := of_decide_eq_true h4
      rw [if_pos h5] at H
      refine st_pure tabOK hk [4, 5, 6, 7, 8, 9, 10, 11, 12, 13, 14, 15, 16, 17] [] [0, 1, 5, 28] [(0, S p0), (1, S p1), (5, .bool t1), (28, .bool true)] (True) (by kernel_rfl) trivial ?_
      clear hk; intro a hk
      refine st_done ?_
      obtain rfl := Option.some.inj H
      exact J a w ⟨hk.to [0, 1, 5, 28] _ (by kernel_rfl), ho⟩
    ·
      rw [h4] at hk
      have h6 : ¬ ((p0.length : Int) > 300) := of_decide_eq_false h4
      rw [if_neg h6] at H
      refine st_pure tabOK hk [4, 5, 6, 7, 8] [9, 10, 11, 12, 13, 14, 15, 16, 17] [0, 1, 5, 19] [(0, S p0), (1, S p1), (5, .bool t1), (19, .bool (decide ((p1.length : Int) > 100)))] (True) (by kernel_rfl) trivial ?_
      clear hk; intro a hk
      rcases Bool.eq_false_or_eq_true (decide ((p1.length : Int) > 100)) with h7 | h7
      ·
        rw [h7] at hk
        have h8 : (p1.length : Int) > 100 := of_decide_eq_true h7
        rw [if_pos h8] at H
        refine st_pure tabOK hk [9, 10, 11, 12, 13, 14, 15, 16, 17] [] [0, 1, 5, 28] [(0, S p0), (1, S p1), (5, .bool t1), (28, .bool true)] (True) (by kernel_rfl) trivial ?_
        clear hk; intro a hk
        refine st_done ?_
        obtain rfl := Option.some.inj H
        exact J a w ⟨hk.to [0, 1, 5, 28] _ (by kernel_rfl), ho⟩
      ·
        rw [h7] at hk
        have h9 : ¬ ((p1.length : Int) > 100) := of_decide_eq_false h7
        rw [if_neg h9] at H
        refine st_pure tabOK hk [9, 10, 11, 12, 13] [14, 15, 16, 17] [0, 1, 5, 24] [(0, S p0), (1, S p1), (5, .bool t1), (24, .bool ((p0.length : Int) == 0))] (True) (by kernel_rfl) trivial ?_
        clear hk; intro a hk
        rcases Bool.eq_false_or_eq_true ((p0.length : Int) == 0) with h10 | h10
        ·
          rw [h10] at hk
          have h11 : ((p0.length : Int) == 0) = true := h10
          rw [if_pos h11] at H
          refine st_pure tabOK hk [14, 15, 16, 17] [] [0, 1, 5, 28] [(0, S p0), (1, S p1), (5, .bool t1), (28, .bool true)] (True) (by kernel_rfl) trivial ?_
          clear hk; intro a hk
          refine st_done ?_
          obtain rfl := Option.some.inj H
          exact J a w ⟨hk.to [0, 1, 5, 28] _ (by kernel_rfl), ho⟩
        ·
          rw [h10] at hk
          have h12 : ¬ (((p0.length : Int) == 0) = true) := ne_true_of_eq_false h10
          rw [if_neg h12] at H
          have h13 : 0 < (p0.length : Int) := by
            by_cases h13 : 0 < (p0.length : Int)
            · exact h13
            · rw [if_neg h13] at H; cases H
          rw [if_pos h13] at H
          refine st_pure tabOK hk [14, 15, 16, 17] [] [0, 1, 5, 28] [(0, S p0), (1, S p1), (5, .bool t1), (28, .bool ((bt p0 0) != 47))] (((0 : Int) ≤ 0 ∧ 0 < (p0.length : Int)) ∧ True) (by kernel_rfl) ⟨⟨(by decide), h13⟩, trivial⟩ ?_
          clear hk; intro a hk
          refine st_done ?_
          obtain rfl := Option.some.inj H
          exact J a w ⟨hk.to [0, 1, 5, 28] _ (by kernel_rfl), ho⟩
  · clear HX; rintro a w ⟨hk, ho⟩
    refine st_cond hk (C5 [1, 1, 0, 1, 0]) (C5 [1, 1, 0, 1, 1]) (.tmp 28) (m3) (by kernel_rfl) (by kernel_rfl) (fun h14 => ?_) (fun h14 => ?_)
    ·
      have h15 : m3 = true := h14
      rw [if_pos h15] at H
      refine st_seq (C5 [1, 1, 0, 1, 0, 0]) (C5 [1, 1, 0, 1, 0, 1]) (by kernel_rfl) ?_
      refine st_region 3 (opsOf (C5 [1, 1, 0, 1, 0, 0])) [0, 1] (by kernel_rfl) (by kernel_rfl) ?_
      refine st_pure tabOK hk [0, 1] [] [4] [(4, .bool t1)] (True) (by kernel_rfl) trivial ?_
      clear hk; intro a hk
      refine st_done ?_
      refine st_retG hk (by kernel_rfl) [.bool t1] #[.tmp 4] (by kernel_rfl) ⟨resT hk (by kernel_rfl), trivial⟩ ?_
      obtain rfl := Option.some.inj H
      exact ⟨_, rfl, rfl, ho⟩
    ·
      have h16 : ¬ (m3 = true) := ne_true_of_eq_false h14
      rw [if_neg h16] at H
      refine st_skip (by kernel_rfl) ?_
      refine st_seq (C5 [1, 1, 1, 0]) (C5 [1, 1, 1, 1]) (by kernel_rfl) ?_
      refine st_region 4 (opsOf (C5 [1, 1, 1, 0])) [0, 1, 2] (by kernel_rfl) (by kernel_rfl) ?_
      refine st_pure tabOK hk [0] [1, 2] [0, 1, 5, 30] [(0, S p0), (1, S p1), (5, .bool t1), (30, S p0)] (True) (by kernel_rfl) trivial ?_
      clear hk; intro a hk
      obtain ⟨t17, h18, H⟩ := Option.bind_eq_some_iff.1 H
      refine st_call hk 14 [S p0] (some 31) enters14 (by kernel_rfl) (target_Dots.ok K  p0 t17 h18 w (hg.of ho)) ?_
      clear hk; rintro a u w ⟨rfl, ho'⟩ hk
      replace ho : Ows [] w0 w [] := ho.call ho'; clear ho'
      refine st_pure tabOK hk [2] [] [0, 1, 5, 6] [(0, S p0), (1, S p1), (5, .bool t1), (6, S t17)] (True) (by kernel_rfl) trivial ?_
      clear hk; intro a hk
      refine st_done ?_
      refine st_seq (C5 [1, 1, 1, 1, 0]) (C5 [1, 1, 1, 1, 1]) (by kernel_rfl) ?_
      refine st_seq (C5 [1, 1, 1, 1, 0, 0]) (C5 [1, 1, 1, 1, 0, 1]) (by kernel_rfl) ?_
      refine st_region 5 (opsOf (C5 [1, 1, 1, 1, 0, 0])) [0, 1, 2, 3, 4, 5, 6, 7, 8, 9, 10, 11, 12] (by kernel_rfl) (by kernel_rfl) ?_
      refine st_pure tabOK hk [0] [1, 2, 3, 4, 5, 6, 7, 8, 9, 10, 11, 12] [0, 1, 5, 6, 32] [(0, S p0), (1, S p1), (5, .bool t1), (6, S t17), (32, S t17)] (True) (by kernel_rfl) trivial ?_
      clear hk; intro a hk
      obtain ⟨t19, h20, H⟩ := Option.bind_eq_some_iff.1 H
      refine st_call hk 14 [S t17] (some 33) enters14 (by kernel_rfl) (target_Dots.ok K  t17 t19 h20 w (hg.of ho)) ?_
      clear hk; rintro a u w ⟨rfl, ho'⟩ hk
      replace ho : Ows [] w0 w [] := ho.call ho'; clear ho'
      refine st_pure tabOK hk [2, 3, 4] [5, 6, 7, 8, 9, 10, 11, 12] [0, 1, 5, 6, 36] [(0, S p0), (1, S p1), (5, .bool t1), (6, S t17), (36, .bool (!(t19 == t17)))] (True) (by kernel_rfl) trivial ?_
      clear hk; intro a hk
      obtain ⟨m21, HX, H⟩ := Option.bind_eq_some_iff.1 H
      refine cut_ops (fun a w => Kn 129 a [(0, S p0), (1, S p1), (5, .bool t1), (6, S t17), (44, .bool m21)] ∧ Ows [] w0 w []) ?_ ?_
      · intro J; clear H; have H := HX; clear HX
        rcases Bool.eq_false_or_eq_true (!(t19 == t17)) with h22 | h22
        ·
          rw [h22] at hk
          have h23 : (!(t19 == t17)) = true := h22
          rw [if_pos h23] at H
          refine st_pure tabOK hk [5, 6, 7, 8, 9, 10, 11, 12] [] [0, 1, 5, 6, 44] [(0, S p0), (1, S p1), (5, .bool t1), (6, S t17), (44, .bool true)] (True) (by kernel_rfl) trivial ?_
          clear hk; intro a hk
          refine st_done ?_
          obtain rfl := Option.some.inj H
          exact J a w ⟨hk.to [0, 1, 5, 6, 44] _ (by kernel_rfl), ho⟩
        ·
          rw [h22] at hk
          have h24 : ¬ ((!(t19 == t17)) = true) := ne_true_of_eq_false h22
          rw [if_neg h24] at H
          refine st_pure tabOK hk [5, 6, 7, 8] [9, 10, 11, 12] [0, 1, 5, 6, 40] [(0, S p0), (1, S p1), (5, .bool t1), (6, S t17), (40, .bool (t17 == ([])))] (True) (by kernel_rfl) trivial ?_
          clear hk; intro a hk
          rcases Bool.eq_false_or_eq_true (t17 == ([])) with h25 | h25
          ·
            rw [h25] at hk
            have h26 : (t17 == ([])) = true := h25
            rw [if_pos h26] at H
            refine st_pure tabOK hk [9, 10, 11, 12] [] [0, 1, 5, 6, 44] [(0, S p0), (1, S p1), (5, .bool t1), (6, S t17), (44, .bool true)] (True) (by kernel_rfl) trivial ?_
            clear hk; intro a hk
            refine st_done ?_
            obtain rfl := Option.some.inj H
            exact J a w ⟨hk.to [0, 1, 5, 6, 44] _ (by kernel_rfl), ho⟩
          ·
            rw [h25] at hk
            have h27 : ¬ ((t17 == ([])) = true) := ne_true_of_eq_false h25
            rw [if_neg h27] at H
            have h28 : 0 < (t17.length : Int) := by
              by_cases h28 : 0 < (t17.length : Int)
              · exact h28
              · rw [if_neg h28] at H; cases H
            rw [if_pos h28] at H
            refine st_pure tabOK hk [9, 10, 11, 12] [] [0, 1, 5, 6, 44] [(0, S p0), (1, S p1), (5, .bool t1), (6, S t17), (44, .bool ((bt t17 0) != 47))] (((0 : Int) ≤ 0 ∧ 0 < (t17.length : Int)) ∧ True) (by kernel_rfl) ⟨⟨(by decide), h28⟩, trivial⟩ ?_
            clear hk; intro a hk
            refine st_done ?_
            obtain rfl := Option.some.inj H
            exact J a w ⟨hk.to [0, 1, 5, 6, 44] _ (by kernel_rfl), ho⟩
      · clear HX; rintro a w ⟨hk, ho⟩
        refine st_cond hk (C5 [1, 1, 1, 1, 0, 1, 0]) (C5 [1, 1, 1, 1, 0, 1, 1]) (.tmp 44) (m21) (by kernel_rfl) (by kernel_rfl) (fun h29 => ?_) (fun h29 => ?_)
        ·
          have h30 : m21 = true := h29
          rw [if_pos h30] at H
          refine st_seq (C5 [1, 1, 1, 1, 0, 1, 0, 0]) (C5 [1, 1, 1, 1, 0, 1, 0, 1]) (by kernel_rfl) ?_
          refine st_region 6 (opsOf (C5 [1, 1, 1, 1, 0, 1, 0, 0])) [0] (by kernel_rfl) (by kernel_rfl) ?_
          refine st_pure tabOK hk [0] [] [4] [(4, .bool false)] (True) (by kernel_rfl) trivial ?_
          clear hk; intro a hk
          refine st_done ?_
          refine st_retG hk (by kernel_rfl) [.bool false] #[.tmp 4] (by kernel_rfl) ⟨resT hk (by kernel_rfl), trivial⟩ ?_
          obtain rfl := Option.some.inj H
          exact ⟨_, rfl, rfl, ho⟩
        ·
          have h31 : ¬ (m21 = true) := ne_true_of_eq_false h29
          rw [if_neg h31] at H
          refine st_skip (by kernel_rfl) ?_
          refine st_seq (C5 [1, 1, 1, 1, 1, 0]) (C5 [1, 1, 1, 1, 1, 1]) (by kernel_rfl) ?_
          refine st_region 7 (opsOf (C5 [1, 1, 1, 1, 1, 0])) [0, 1, 2] (by kernel_rfl) (by kernel_rfl) ?_
          have h32 : t17.length + ([47]).length ≤ maxI := by
            by_cases h32 : t17.length + ([47]).length ≤ maxI
            · exact h32
            · rw [if_neg h32] at H; cases H
          rw [if_pos h32] at H
          refine st_pure tabOK hk [0, 1, 2] [] [0, 1, 5, 6, 7] [(0, S p0), (1, S p1), (5, .bool t1), (6, S t17), (7, S (t17 ++ ([47])))] (t17.length + ([47]).length ≤ maxI ∧ True) (by kernel_rfl) ⟨h32, trivial⟩ ?_
          clear hk; intro a hk
          refine st_done ?_
          refine st_seq (C5 [1, 1, 1, 1, 1, 1, 0]) (C5 [1, 1, 1, 1, 1, 1, 1]) (by kernel_rfl) ?_
          refine st_seq (C5 [1, 1, 1, 1, 1, 1, 0, 0]) (C5 [1, 1, 1, 1, 1, 1, 0, 1]) (by kernel_rfl) ?_
          refine st_region 8 (opsOf (C5 [1, 1, 1, 1, 1, 1, 0, 0])) [0] (by kernel_rfl) (by kernel_rfl) ?_
          refine st_pure tabOK hk [0] [] [0, 1, 5, 6, 7, 8] [(0, S p0), (1, S p1), (5, .bool t1), (6, S t17), (7, S (t17 ++ ([47]))), (8, I 0)] (True) (by kernel_rfl) trivial ?_
          clear hk; intro a hk
          refine st_done ?_
          refine st_block 0 (C5 [1, 1, 1, 1, 1, 1, 0, 1, 0]) (by kernel_rfl) ?_
          obtain ⟨m62, h63, H⟩ := Option.bind_eq_some_iff.1 H
          refine st_loop (C5 [1, 1, 1, 1, 1, 1, 0, 1, 0, 0]) (by kernel_rfl) ?_
          refine scullerylaw09_TargetDots.l0_ok K p0 p1 t1 t17 0 m62 h63  w0 _ _ a w  (hk.to [0, 1, 5, 6, 7, 8] _ (by kernel_rfl)) ho ?_ ?_
          · intro s64  a w e hk ho; subst e
            simp only [] at H
            refine st_seq (C5 [1, 1, 1, 1, 1, 1, 1, 0]) (C5 [1, 1, 1, 1, 1, 1, 1, 1]) (by kernel_rfl) ?_
            refine st_seq (C5 [1, 1, 1, 1, 1, 1, 1, 0, 0]) (C5 [1, 1, 1, 1, 1, 1, 1, 0, 1]) (by kernel_rfl) ?_
            refine st_region 13 (opsOf (C5 [1, 1, 1, 1, 1, 1, 1, 0, 0])) [0] (by kernel_rfl) (by kernel_rfl) ?_
            refine st_pure tabOK hk [0] [] [0, 1, 5, 6, 9] [(0, S p0), (1, S p1), (5, .bool t1), (6, S t17), (9, I 0)] (True) (by kernel_rfl) trivial ?_
            clear hk; intro a hk
            refine st_done ?_
            refine st_block 2 (C5 [1, 1, 1, 1, 1, 1, 1, 0, 1, 0]) (by kernel_rfl) ?_
            obtain ⟨m73, h74, H⟩ := Option.bind_eq_some_iff.1 H
            refine st_loop (C5 [1, 1, 1, 1, 1, 1, 1, 0, 1, 0, 0]) (by kernel_rfl) ?_
            refine scullerylaw09_TargetDots.l1_ok K p0 p1 t1 t17 0 m73 h74  w0 _ _ a w  (hk.to [0, 1, 5, 6, 9] _ (by kernel_rfl)) ho ?_ ?_
            · intro s75  a w e hk ho; subst e
              simp only [] at H
              refine st_seq (C5 [1, 1, 1, 1, 1, 1, 1, 1, 0]) (C5 [1, 1, 1, 1, 1, 1, 1, 1, 1]) (by kernel_rfl) ?_
              refine st_seq (C5 [1, 1, 1, 1, 1, 1, 1, 1, 0, 0]) (C5 [1, 1, 1, 1, 1, 1, 1, 1, 0, 1]) (by kernel_rfl) ?_
              refine st_region 18 (opsOf (C5 [1, 1, 1, 1, 1, 1, 1, 1, 0, 0])) [0, 1, 2, 3, 4, 5] (by kernel_rfl) (by kernel_rfl) ?_
              refine st_pure tabOK hk [0, 1, 2] [3, 4, 5] [0, 1, 5, 6, 106] [(0, S p0), (1, S p1), (5, .bool t1), (6, S t17), (106, .bool (p1 == ([46])))] (True) (by kernel_rfl) trivial ?_
              clear hk; intro a hk
              refine cut_ops (fun a w => Kn 129 a [(0, S p0), (1, S p1), (5, .bool t1), (6, S t17), (109, .bool ((p1 == ([46])) || (p1 == ([46, 46]))))] ∧ Ows [] w0 w []) ?_ ?_
              · intro J
                rcases Bool.eq_false_or_eq_true (p1 == ([46])) with h76 | h76
                ·
                  rw [h76] at hk
                  have h77 : (p1 == ([46])) = true := h76
                  refine st_pure tabOK hk [3, 4, 5] [] [0, 1, 5, 6, 109] [(0, S p0), (1, S p1), (5, .bool t1), (6, S t17), (109, .bool true)] (True) (by kernel_rfl) trivial ?_
                  clear hk; intro a hk
                  refine st_done ?_
                  have e : ((p1 == ([46])) || (p1 == ([46, 46]))) = true := by first | (simp only [h76]; done) | (simp only [h76]; rfl) | rfl | simp [h76]
                  exact J a w ⟨by rw [e]; exact hk.to [0, 1, 5, 6, 109] _ (by kernel_rfl), ho⟩
                ·
                  rw [h76] at hk
                  have h78 : ¬ ((p1 == ([46])) = true) := ne_true_of_eq_false h76
                  refine st_pure tabOK hk [3, 4, 5] [] [0, 1, 5, 6, 109] [(0, S p0), (1, S p1), (5, .bool t1), (6, S t17), (109, .bool (p1 == ([46, 46])))] (True) (by kernel_rfl) trivial ?_
                  clear hk; intro a hk
                  refine st_done ?_
                  have e : ((p1 == ([46])) || (p1 == ([46, 46]))) = (p1 == ([46, 46])) := by first | (simp only [h76]; done) | (simp only [h76]; rfl) | rfl | simp [h76]
                  exact J a w ⟨by rw [e]; exact hk.to [0, 1, 5, 6, 109] _ (by kernel_rfl), ho⟩
              · rintro a w ⟨hk, ho⟩
                refine st_cond hk (C5 [1, 1, 1, 1, 1, 1, 1, 1, 0, 1, 0]) (C5 [1, 1, 1, 1, 1, 1, 1, 1, 0, 1, 1]) (.tmp 109) (((p1 == ([46])) || (p1 == ([46, 46])))) (by kernel_rfl) (by kernel_rfl) (fun h79 => ?_) (fun h79 => ?_)
                ·
                  have h80 : ((p1 == ([46])) || (p1 == ([46, 46]))) = true := h79
                  rw [if_pos h80] at H
                  refine st_seq (C5 [1, 1, 1, 1, 1, 1, 1, 1, 0, 1, 0, 0]) (C5 [1, 1, 1, 1, 1, 1, 1, 1, 0, 1, 0, 1]) (by kernel_rfl) ?_
                  refine st_region 19 (opsOf (C5 [1, 1, 1, 1, 1, 1, 1, 1, 0, 1, 0, 0])) [0, 1] (by kernel_rfl) (by kernel_rfl) ?_
                  refine st_pure tabOK hk [0, 1] [] [4] [(4, .bool t1)] (True) (by kernel_rfl) trivial ?_
                  clear hk; intro a hk
                  refine st_done ?_
                  refine st_retG hk (by kernel_rfl) [.bool t1] #[.tmp 4] (by kernel_rfl) ⟨resT hk (by kernel_rfl), trivial⟩ ?_
                  obtain rfl := Option.some.inj H
                  exact ⟨_, rfl, rfl, ho⟩
                ·
                  have h81 : ¬ (((p1 == ([46])) || (p1 == ([46, 46]))) = true) := ne_true_of_eq_false h79
                  rw [if_neg h81] at H
                  refine st_skip (by kernel_rfl) ?_
                  refine st_seq (C5 [1, 1, 1, 1, 1, 1, 1, 1, 1, 0]) (C5 [1, 1, 1, 1, 1, 1, 1, 1, 1, 1]) (by kernel_rfl) ?_
                  refine st_region 20 (opsOf (C5 [1, 1, 1, 1, 1, 1, 1, 1, 1, 0])) [0, 1, 2, 3, 4, 5, 6, 7, 8, 9, 10, 11, 12, 13, 14, 15, 16, 17, 18] (by kernel_rfl) (by kernel_rfl) ?_
                  refine st_pure tabOK hk [0, 1] [2, 3, 4, 5, 6, 7, 8, 9, 10, 11, 12, 13, 14, 15, 16, 17, 18] [0, 1, 6, 112] [(0, S p0), (1, S p1), (6, S t17), (112, .bool t1)] (True) (by kernel_rfl) trivial ?_
                  clear hk; intro a hk
                  obtain ⟨m82, HX, H⟩ := Option.bind_eq_some_iff.1 H
                  refine cut_ops (fun a w => Kn 129 a [(4, .bool m82)] ∧ Ows [] w0 w []) ?_ ?_
                  · intro J; clear H; have H := HX; clear HX
                    rcases Bool.eq_false_or_eq_true (t1) with h83 | h83
                    ·
                      rw [h83] at hk
                      have h84 : t1 = true := h83
                      rw [if_pos h84] at H
                      have h85 : ([47]).length + p1.length ≤ maxI := by
                        by_cases h85 : ([47]).length + p1.length ≤ maxI
                        · exact h85
                        · rw [if_neg h85] at H; cases H
                      rw [if_pos h85] at H
                      have h86 : (([47]) ++ p1).length + ([47, 46, 46]).length ≤ maxI := by
                        by_cases h86 : (([47]) ++ p1).length + ([47, 46, 46]).length ≤ maxI
                        · exact h86
                        · rw [if_neg h86] at H; cases H
                      rw [if_pos h86] at H
                      have h87 : ((([47]) ++ p1) ++ ([47, 46, 46])).length + p0.length ≤ maxI := by
                        by_cases h87 : ((([47]) ++ p1) ++ ([47, 46, 46])).length + p0.length ≤ maxI
                        · exact h87
                        · rw [if_neg h87] at H; cases H
                      rw [if_pos h87] at H
                      refine st_pure tabOK hk [2, 3, 4, 5, 6] [7, 8, 9, 10, 11, 12, 13, 14, 15, 16, 17, 18] [0, 6, 112, 117] [(0, S p0), (6, S t17), (112, .bool true), (117, S (((([47]) ++ p1) ++ ([47, 46, 46])) ++ p0))] (([47]).length + p1.length ≤ maxI ∧ ((([47]) ++ p1).length + ([47, 46, 46]).length ≤ maxI ∧ (((([47]) ++ p1) ++ ([47, 46, 46])).length + p0.length ≤ maxI ∧ True))) (by kernel_rfl) ⟨h85, ⟨h86, ⟨h87, trivial⟩⟩⟩ ?_
                      clear hk; intro a hk
                      obtain ⟨t88, h89, H⟩ := Option.bind_eq_some_iff.1 H
                      refine st_call hk 14 [S (((([47]) ++ p1) ++ ([47, 46, 46])) ++ p0)] (some 118) enters14 (by kernel_rfl) (target_Dots.ok K  (((([47]) ++ p1) ++ ([47, 46, 46])) ++ p0) t88 h89 w (hg.of ho)) ?_
                      clear hk; rintro a u w ⟨rfl, ho'⟩ hk
                      replace ho : Ows [] w0 w [] := ho.call ho'; clear ho'
                      refine st_pure tabOK hk [8, 9, 10, 11] [12, 13, 14, 15, 16, 17, 18] [0, 6, 122] [(0, S p0), (6, S t17), (122, .bool (t88 == t17))] (True) (by kernel_rfl) trivial ?_
                      clear hk; intro a hk
                      rcases Bool.eq_false_or_eq_true (t88 == t17) with h90 | h90
                      ·
                        rw [h90] at hk
                        have h91 : (t88 == t17) = true := h90
                        rw [if_pos h91] at H
                        have h92 : ([47, 46]).length + p0.length ≤ maxI := by
                          by_cases h92 : ([47, 46]).length + p0.length ≤ maxI
                          · exact h92
                          · rw [if_neg h92] at H; cases H
                        rw [if_pos h92] at H
                        refine st_pure tabOK hk [12, 13] [14, 15, 16, 17, 18] [6, 122, 124] [(6, S t17), (122, .bool true), (124, S (([47, 46]) ++ p0))] (([47, 46]).length + p0.length ≤ maxI ∧ True) (by kernel_rfl) ⟨h92, trivial⟩ ?_
                        clear hk; intro a hk
                        obtain ⟨t93, h94, H⟩ := Option.bind_eq_some_iff.1 H
                        refine st_call hk 14 [S (([47, 46]) ++ p0)] (some 125) enters14 (by kernel_rfl) (target_Dots.ok K  (([47, 46]) ++ p0) t93 h94 w (hg.of ho)) ?_
                        clear hk; rintro a u w ⟨rfl, ho'⟩ hk
                        replace ho : Ows [] w0 w [] := ho.call ho'; clear ho'
                        refine st_pure tabOK hk [15, 16, 17, 18] [] [4] [(4, .bool (t93 == t17))] (True) (by kernel_rfl) trivial ?_
                        clear hk; intro a hk
                        refine st_done ?_
                        obtain rfl := Option.some.inj H
                        exact J a w ⟨hk.to [4] _ (by kernel_rfl), ho⟩
                      ·
                        rw [h90] at hk
                        have h95 : ¬ ((t88 == t17) = true) := ne_true_of_eq_false h90
                        rw [if_neg h95] at H
                        refine st_pure tabOK hk [12, 13, 14, 15, 16, 17, 18] [] [4] [(4, .bool false)] (True) (by kernel_rfl) trivial ?_
                        clear hk; intro a hk
                        refine st_done ?_
                        obtain rfl := Option.some.inj H
                        exact J a w ⟨hk.to [4] _ (by kernel_rfl), ho⟩
                    ·
                      rw [h83] at hk
                      have h96 : ¬ (t1 = true) := ne_true_of_eq_false h83
                      rw [if_neg h96] at H
                      refine st_pure tabOK hk [2, 3, 4, 5, 6, 7, 8, 9, 10, 11, 12, 13, 14, 15, 16, 17, 18] [] [4] [(4, .bool false)] (True) (by kernel_rfl) trivial ?_
                      clear hk; intro a hk
                      refine st_done ?_
                      obtain rfl := Option.some.inj H
                      exact J a w ⟨hk.to [4] _ (by kernel_rfl), ho⟩
                  · clear HX; rintro a w ⟨hk, ho⟩
                    refine st_retG hk (by kernel_rfl) [.bool m82] #[.tmp 4] (by kernel_rfl) ⟨resT hk (by kernel_rfl), trivial⟩ ?_
                    obtain rfl := Option.some.inj H
                    exact ⟨_, rfl, rfl, ho⟩
            · intro r97  a w e hk ho; subst e
              simp only [] at H
              refine retG hk [.bool r97] #[.tmp 4] (by kernel_rfl) ⟨resT hk (by kernel_rfl), trivial⟩ ?_
              obtain rfl := Option.some.inj H
              exact ⟨_, rfl, rfl, ho⟩
          · intro r98  a w e hk ho; subst e
            simp only [] at H
            refine retG hk [.bool r98] #[.tmp 4] (by kernel_rfl) ⟨resT hk (by kernel_rfl), trivial⟩ ?_
            obtain rfl := Option.some.inj H
            exact ⟨_, rfl, rfl, ho⟩

end Go.Proofs.YtimggfeejbfdnaaDoor
