/- Go functions as plain functions, and that the machine's calls do what these say. -/
import Derived.Test.YtkkmbkelkbhecaaGreatDoorT
import Derived.Test.YtkkmbkelkbhecaaGreatDoorLay
import Derived.Test.YtkkmbkelkbhecaaGreatDoorHT
import Derived.Test.YtkkmbkelkbhecaaGreatDoorF1
set_option maxRecDepth 100000
set_option linter.unusedVariables false
namespace Go.Proofs.YtkkmbkelkbhecaaGreatDoor
open Go.Ev Go.Proofs.Tryz


/-! internal/strconv.ParseUint: function 68 -/
noncomputable def C68 (p : List Nat) : Code := Sub (bodyOf f68) p
def strconv_ParseUint_16_64.l0 : Nat → Str → Bool → Int → Int → Option (Bool × Int)
  | 0, _, _, _, _ => none
  | k + 1, p0, v9, v10, v11 => (if v11 < (p0.length : Int) then (if (0 : Int) ≤ v11 then (((if ((bt p0 v11) == 95) = true then some () else some ())).bind fun m15 => (if ((decide (48 ≤ bt p0 v11)) && (decide (bt p0 v11 ≤ 57))) = true then (if w8 ((bt p0 v11) - 48) ≥ 16 then none else (if v10 ≥ 1152921504606846976 then none else (if ((decide (IntKind.u64.wrap ((IntKind.u64.wrap (v10 * 16)) + (IntKind.u64.wrap (w8 ((bt p0 v11) - 48)))) < IntKind.u64.wrap (v10 * 16))) || (decide (IntKind.u64.wrap ((IntKind.u64.wrap (v10 * 16)) + (IntKind.u64.wrap (w8 ((bt p0 v11) - 48)))) > 18446744073709551615))) = true then none else strconv_ParseUint_16_64.l0 k p0 v9 (IntKind.u64.wrap ((IntKind.u64.wrap (v10 * 16)) + (IntKind.u64.wrap (w8 ((bt p0 v11) - 48))))) (w64 (v11 + 1))))) else ((strconv_lower.f (bt p0 v11)).bind fun t37 => (((if 97 ≤ t37 then ((strconv_lower.f (bt p0 v11)).bind fun t42 => some (decide (t42 ≤ 122))) else some false)).bind fun m39 => (if m39 = true then ((strconv_lower.f (bt p0 v11)).bind fun t47 => (if w8 ((w8 (t47 - 97)) + 10) ≥ 16 then none else (if v10 ≥ 1152921504606846976 then none else (if ((decide (IntKind.u64.wrap ((IntKind.u64.wrap (v10 * 16)) + (IntKind.u64.wrap (w8 ((w8 (t47 - 97)) + 10)))) < IntKind.u64.wrap (v10 * 16))) || (decide (IntKind.u64.wrap ((IntKind.u64.wrap (v10 * 16)) + (IntKind.u64.wrap (w8 ((w8 (t47 - 97)) + 10)))) > 18446744073709551615))) = true then none else strconv_ParseUint_16_64.l0 k p0 v9 (IntKind.u64.wrap ((IntKind.u64.wrap (v10 * 16)) + (IntKind.u64.wrap (w8 ((w8 (t47 - 97)) + 10))))) (w64 (v11 + 1)))))) else none))))) else none) else some (v9, v10))
def strconv_ParseUint_16_64.f (K : Nat) (p0 : Str) : Option (Int) := (if (p0 == ([])) = true then none else (if p0.length ≤ 4294967296 then ((strconv_ParseUint_16_64.l0 K p0 false 0 0).bind fun s65 => (((if s65.1 = true then ((strconv_underscoreOK.f K p0).bind fun t69 => some (!t69)) else some false)).bind fun m66 => (if m66 = true then none else some s65.2))) else none))
abbrev strconv_ParseUint_16_64.post (w0 : World) (r : Int) (u : Value) (w : World) : Prop := u = .tuple #[.int .u64 r, .nilIface] ∧ Ows [] w0 w []
theorem strconv_ParseUint_16_64.l0_ok : ∀ (k : Nat) (p0 : Str) (v9 : Bool) (v10 : Int) (v11 : Int) (out : Bool × Int), strconv_ParseUint_16_64.l0 k p0 v9 v10 v11 = some out → ∀ (o5 : Option Addr) (c6 : Nat) (w0 : World) (Q : Exit → Act → World → Prop) (rest : List It) (a : Act) (w : World), Kn 172 a [(1, I 16), (8, .bool false), (9, S p0), (10, .int .u64 1152921504606846976), (11, .int .u64 18446744073709551615), (12, .bool v9), (13, .int .u64 v10), (99, .slice o5 p0.length c6), (100, I (p0.length : Int)), (101, I v11)] → Ows [] w0 w [.row 0 5 1 (.slice o5 p0.length c6) p0.length (p0.map bV)] → (∀ (s : Bool × Int) (a : Act) (w : World), out = s → Kn 172 a [(9, S p0), (12, .bool s.1), (13, .int .u64 s.2)] → Ows [] w0 w [] → G Tryz.prog Q rest a w) → G Tryz.prog Q (.code (C68 [1, 1, 1, 1, 1, 1, 1, 1, 1, 1, 1, 0, 1, 0, 0]) :: .inl (C68 [1, 1, 1, 1, 1, 1, 1, 1, 1, 1, 1, 0, 1, 0, 0]) :: .endb 3 :: rest) a w := by
  intro k
  induction k with
  | zero => intro p0 v9 v10 v11 out H; simp [strconv_ParseUint_16_64.l0] at H
  | succ k ih =>
    intro p0 v9 v10 v11 out H o5 c6 w0 Q rest a w  hk ho J
    simp only [strconv_ParseUint_16_64.l0] at H
    refine st_seq (C68 [1, 1, 1, 1, 1, 1, 1, 1, 1, 1, 1, 0, 1, 0, 0, 0]) (C68 [1, 1, 1, 1, 1, 1, 1, 1, 1, 1, 1, 0, 1, 0, 0, 1]) (by kernel_rfl) ?_
    refine st_region 36 (opsOf (C68 [1, 1, 1, 1, 1, 1, 1, 1, 1, 1, 1, 0, 1, 0, 0, 0])) [0] (by kernel_rfl) (by kernel_rfl) ?_
    refine st_pure tabOK hk [0] [] [1, 8, 9, 10, 11, 12, 13, 99, 100, 101, 102] [(1, I 16), (8, .bool false), (9, S p0), (10, .int .u64 1152921504606846976), (11, .int .u64 18446744073709551615), (12, .bool v9), (13, .int .u64 v10), (99, .slice o5 p0.length c6), (100, I (p0.length : Int)), (101, I v11), (102, .bool (decide (v11 < (p0.length : Int))))] (True) (by kernel_rfl) trivial ?_
    clear hk; intro a hk
    refine st_done ?_
    refine st_seq (C68 [1, 1, 1, 1, 1, 1, 1, 1, 1, 1, 1, 0, 1, 0, 0, 1, 0]) (C68 [1, 1, 1, 1, 1, 1, 1, 1, 1, 1, 1, 0, 1, 0, 0, 1, 1]) (by kernel_rfl) ?_
    refine st_cond hk (C68 [1, 1, 1, 1, 1, 1, 1, 1, 1, 1, 1, 0, 1, 0, 0, 1, 0, 0]) (C68 [1, 1, 1, 1, 1, 1, 1, 1, 1, 1, 1, 0, 1, 0, 0, 1, 0, 1]) (.tmp 102) (decide (v11 < (p0.length : Int))) (by kernel_rfl) (by kernel_rfl) (fun h12 => ?_) (fun h12 => ?_)
    ·
      have h13 : v11 < (p0.length : Int) := of_decide_eq_true h12
      rw [if_pos h13] at H
      refine st_skip (by kernel_rfl) ?_
      refine st_seq (C68 [1, 1, 1, 1, 1, 1, 1, 1, 1, 1, 1, 0, 1, 0, 0, 1, 1, 0]) (C68 [1, 1, 1, 1, 1, 1, 1, 1, 1, 1, 1, 0, 1, 0, 0, 1, 1, 1]) (by kernel_rfl) ?_
      refine st_block 4 (C68 [1, 1, 1, 1, 1, 1, 1, 1, 1, 1, 1, 0, 1, 0, 0, 1, 1, 0, 0]) (by kernel_rfl) ?_
      refine st_seq (C68 [1, 1, 1, 1, 1, 1, 1, 1, 1, 1, 1, 0, 1, 0, 0, 1, 1, 0, 0, 0]) (C68 [1, 1, 1, 1, 1, 1, 1, 1, 1, 1, 1, 0, 1, 0, 0, 1, 1, 0, 0, 1]) (by kernel_rfl) ?_
      refine st_region 37 (opsOf (C68 [1, 1, 1, 1, 1, 1, 1, 1, 1, 1, 1, 0, 1, 0, 0, 1, 1, 0, 0, 0])) [0, 1, 2] (by kernel_rfl) (by kernel_rfl) ?_
      have h14 : (0 : Int) ≤ v11 := by
        by_cases h14 : (0 : Int) ≤ v11
        · exact h14
        · rw [if_neg h14] at H; cases H
      rw [if_pos h14] at H
      refine st_pure tabOK hk [0] [1, 2] [1, 8, 9, 10, 11, 12, 13, 99, 100, 101, 103] [(1, I 16), (8, .bool false), (9, S p0), (10, .int .u64 1152921504606846976), (11, .int .u64 18446744073709551615), (12, .bool v9), (13, .int .u64 v10), (99, .slice o5 p0.length c6), (100, I (p0.length : Int)), (101, I v11), (103, .pointer (o5.map (·.add (v11.toNat * 1))))] ((o5.isSome = true ∧ (0 : Int) ≤ v11 ∧ v11 < (p0.length : Int)) ∧ True) (by kernel_rfl) ⟨⟨(Rd.some1 (ho.rd 0 rfl) h14 h13), h14, h13⟩, trivial⟩ ?_
      clear hk; intro a hk
      refine st_load1 tabOK hk 5 (o5.map (·.add (v11.toNat * 1))) 104 (by kernel_rfl) (by kernel_rfl) (.int .u8 (bt p0 v11)) ((ho.rd 0 rfl).elemB h14 h13) ?_
      clear hk; intro a hk
      refine st_pure tabOK hk [2] [] [1, 8, 9, 10, 11, 12, 13, 15, 99, 100, 101] [(1, I 16), (8, .bool false), (9, S p0), (10, .int .u64 1152921504606846976), (11, .int .u64 18446744073709551615), (12, .bool v9), (13, .int .u64 v10), (15, .int .u8 (bt p0 v11)), (99, .slice o5 p0.length c6), (100, I (p0.length : Int)), (101, I v11)] (True) (by kernel_rfl) trivial ?_
      clear hk; intro a hk
      refine st_done ?_
      refine st_seq (C68 [1, 1, 1, 1, 1, 1, 1, 1, 1, 1, 1, 0, 1, 0, 0, 1, 1, 0, 0, 1, 0]) (C68 [1, 1, 1, 1, 1, 1, 1, 1, 1, 1, 1, 0, 1, 0, 0, 1, 1, 0, 0, 1, 1]) (by kernel_rfl) ?_
      refine st_region 38 (opsOf (C68 [1, 1, 1, 1, 1, 1, 1, 1, 1, 1, 1, 0, 1, 0, 0, 1, 1, 0, 0, 1, 0])) [0] (by kernel_rfl) (by kernel_rfl) ?_
      refine st_pure tabOK hk [0] [] [1, 8, 9, 10, 11, 12, 13, 15, 99, 100, 101] [(1, I 16), (8, .bool false), (9, S p0), (10, .int .u64 1152921504606846976), (11, .int .u64 18446744073709551615), (12, .bool v9), (13, .int .u64 v10), (15, .int .u8 (bt p0 v11)), (99, .slice o5 p0.length c6), (100, I (p0.length : Int)), (101, I v11)] (True) (by kernel_rfl) trivial ?_
      clear hk; intro a hk
      refine st_done ?_
      refine st_seq (C68 [1, 1, 1, 1, 1, 1, 1, 1, 1, 1, 1, 0, 1, 0, 0, 1, 1, 0, 0, 1, 1, 0]) (C68 [1, 1, 1, 1, 1, 1, 1, 1, 1, 1, 1, 0, 1, 0, 0, 1, 1, 0, 0, 1, 1, 1]) (by kernel_rfl) ?_
      refine st_block 5 (C68 [1, 1, 1, 1, 1, 1, 1, 1, 1, 1, 1, 0, 1, 0, 0, 1, 1, 0, 0, 1, 1, 0, 0]) (by kernel_rfl) ?_
      refine st_seq (C68 [1, 1, 1, 1, 1, 1, 1, 1, 1, 1, 1, 0, 1, 0, 0, 1, 1, 0, 0, 1, 1, 0, 0, 0]) (C68 [1, 1, 1, 1, 1, 1, 1, 1, 1, 1, 1, 0, 1, 0, 0, 1, 1, 0, 0, 1, 1, 0, 0, 1]) (by kernel_rfl) ?_
      refine st_region 40 (opsOf (C68 [1, 1, 1, 1, 1, 1, 1, 1, 1, 1, 1, 0, 1, 0, 0, 1, 1, 0, 0, 1, 1, 0, 0, 0])) [0, 1, 2, 3, 4, 5] (by kernel_rfl) (by kernel_rfl) ?_
      refine st_pure tabOK hk [0, 1, 2] [3, 4, 5] [1, 8, 9, 10, 11, 12, 13, 15, 99, 100, 101, 109] [(1, I 16), (8, .bool false), (9, S p0), (10, .int .u64 1152921504606846976), (11, .int .u64 18446744073709551615), (12, .bool v9), (13, .int .u64 v10), (15, .int .u8 (bt p0 v11)), (99, .slice o5 p0.length c6), (100, I (p0.length : Int)), (101, I v11), (109, .bool ((bt p0 v11) == 95))] (True) (by kernel_rfl) trivial ?_
      clear hk; intro a hk
      obtain ⟨m15, HX, H⟩ := Option.bind_eq_some_iff.1 H
      refine cut_ops (fun a w => Kn 172 a [(1, I 16), (8, .bool false), (9, S p0), (10, .int .u64 1152921504606846976), (11, .int .u64 18446744073709551615), (12, .bool v9), (13, .int .u64 v10), (15, .int .u8 (bt p0 v11)), (99, .slice o5 p0.length c6), (100, I (p0.length : Int)), (101, I v11), (106, .bool false)] ∧ Ows [] w0 w [.row 0 5 1 (.slice o5 p0.length c6) p0.length (p0.map bV)]) ?_ ?_
      · intro J; clear H; have H := HX; clear HX
        rcases Bool.eq_false_or_eq_true ((bt p0 v11) == 95) with h16 | h16
        ·
          rw [h16] at hk
          have h17 : ((bt p0 v11) == 95) = true := h16
          rw [if_pos h17] at H
          refine st_pure tabOK hk [3, 4, 5] [] [1, 8, 9, 10, 11, 12, 13, 15, 99, 100, 101, 106] [(1, I 16), (8, .bool false), (9, S p0), (10, .int .u64 1152921504606846976), (11, .int .u64 18446744073709551615), (12, .bool v9), (13, .int .u64 v10), (15, .int .u8 (bt p0 v11)), (99, .slice o5 p0.length c6), (100, I (p0.length : Int)), (101, I v11), (106, .bool false)] (True) (by kernel_rfl) trivial ?_
          clear hk; intro a hk
          refine st_done ?_
          obtain rfl := Option.some.inj H
          exact J a w ⟨hk.to [1, 8, 9, 10, 11, 12, 13, 15, 99, 100, 101, 106] _ (by kernel_rfl), ho⟩
        ·
          rw [h16] at hk
          have h18 : ¬ (((bt p0 v11) == 95) = true) := ne_true_of_eq_false h16
          rw [if_neg h18] at H
          refine st_pure tabOK hk [3, 4, 5] [] [1, 8, 9, 10, 11, 12, 13, 15, 99, 100, 101, 106] [(1, I 16), (8, .bool false), (9, S p0), (10, .int .u64 1152921504606846976), (11, .int .u64 18446744073709551615), (12, .bool v9), (13, .int .u64 v10), (15, .int .u8 (bt p0 v11)), (99, .slice o5 p0.length c6), (100, I (p0.length : Int)), (101, I v11), (106, .bool false)] (True) (by kernel_rfl) trivial ?_
          clear hk; intro a hk
          refine st_done ?_
          obtain rfl := Option.some.inj H
          exact J a w ⟨hk.to [1, 8, 9, 10, 11, 12, 13, 15, 99, 100, 101, 106] _ (by kernel_rfl), ho⟩
      · clear HX; rintro a w ⟨hk, ho⟩
        refine st_cond_false hk (C68 [1, 1, 1, 1, 1, 1, 1, 1, 1, 1, 1, 0, 1, 0, 0, 1, 1, 0, 0, 1, 1, 0, 0, 1, 0]) (C68 [1, 1, 1, 1, 1, 1, 1, 1, 1, 1, 1, 0, 1, 0, 0, 1, 1, 0, 0, 1, 1, 0, 0, 1, 1]) (.tmp 106) (by kernel_rfl) (by kernel_rfl) ?_
        refine st_seq (C68 [1, 1, 1, 1, 1, 1, 1, 1, 1, 1, 1, 0, 1, 0, 0, 1, 1, 0, 0, 1, 1, 0, 0, 1, 1, 0]) (C68 [1, 1, 1, 1, 1, 1, 1, 1, 1, 1, 1, 0, 1, 0, 0, 1, 1, 0, 0, 1, 1, 0, 0, 1, 1, 1]) (by kernel_rfl) ?_
        refine st_region 42 (opsOf (C68 [1, 1, 1, 1, 1, 1, 1, 1, 1, 1, 1, 0, 1, 0, 0, 1, 1, 0, 0, 1, 1, 0, 0, 1, 1, 0])) [0, 1, 2, 3, 4, 5, 6] (by kernel_rfl) (by kernel_rfl) ?_
        refine st_pure tabOK hk [0, 1, 2] [3, 4, 5, 6] [1, 8, 9, 10, 11, 12, 13, 15, 99, 100, 101, 115] [(1, I 16), (8, .bool false), (9, S p0), (10, .int .u64 1152921504606846976), (11, .int .u64 18446744073709551615), (12, .bool v9), (13, .int .u64 v10), (15, .int .u8 (bt p0 v11)), (99, .slice o5 p0.length c6), (100, I (p0.length : Int)), (101, I v11), (115, .bool (decide (48 ≤ bt p0 v11)))] (True) (by kernel_rfl) trivial ?_
        clear hk; intro a hk
        refine cut_ops (fun a w => Kn 172 a [(1, I 16), (8, .bool false), (9, S p0), (10, .int .u64 1152921504606846976), (11, .int .u64 18446744073709551615), (12, .bool v9), (13, .int .u64 v10), (15, .int .u8 (bt p0 v11)), (99, .slice o5 p0.length c6), (100, I (p0.length : Int)), (101, I v11), (112, .bool ((decide (48 ≤ bt p0 v11)) && (decide (bt p0 v11 ≤ 57))))] ∧ Ows [] w0 w [.row 0 5 1 (.slice o5 p0.length c6) p0.length (p0.map bV)]) ?_ ?_
        · intro J
          rcases Bool.eq_false_or_eq_true (decide (48 ≤ bt p0 v11)) with h19 | h19
          ·
            rw [h19] at hk
            have h20 : 48 ≤ bt p0 v11 := of_decide_eq_true h19
            refine st_pure tabOK hk [3, 4, 5, 6] [] [1, 8, 9, 10, 11, 12, 13, 15, 99, 100, 101, 112] [(1, I 16), (8, .bool false), (9, S p0), (10, .int .u64 1152921504606846976), (11, .int .u64 18446744073709551615), (12, .bool v9), (13, .int .u64 v10), (15, .int .u8 (bt p0 v11)), (99, .slice o5 p0.length c6), (100, I (p0.length : Int)), (101, I v11), (112, .bool (decide (bt p0 v11 ≤ 57)))] (True) (by kernel_rfl) trivial ?_
            clear hk; intro a hk
            refine st_done ?_
            have e : ((decide (48 ≤ bt p0 v11)) && (decide (bt p0 v11 ≤ 57))) = (decide (bt p0 v11 ≤ 57)) := by first | (simp only [h19]; done) | (simp only [h19]; rfl) | rfl | simp [h19]
            exact J a w ⟨by rw [e]; exact hk.to [1, 8, 9, 10, 11, 12, 13, 15, 99, 100, 101, 112] _ (by kernel_rfl), ho⟩
          ·
            rw [h19] at hk
            have h21 : ¬ (48 ≤ bt p0 v11) := of_decide_eq_false h19
            refine st_pure tabOK hk [3, 4, 5, 6] [] [1, 8, 9, 10, 11, 12, 13, 15, 99, 100, 101, 112] [(1, I 16), (8, .bool false), (9, S p0), (10, .int .u64 1152921504606846976), (11, .int .u64 18446744073709551615), (12, .bool v9), (13, .int .u64 v10), (15, .int .u8 (bt p0 v11)), (99, .slice o5 p0.length c6), (100, I (p0.length : Int)), (101, I v11), (112, .bool false)] (True) (by kernel_rfl) trivial ?_
            clear hk; intro a hk
            refine st_done ?_
            have e : ((decide (48 ≤ bt p0 v11)) && (decide (bt p0 v11 ≤ 57))) = false := by first | (simp only [h19]; done) | (simp only [h19]; rfl) | rfl | simp [h19]
            exact J a w ⟨by rw [e]; exact hk.to [1, 8, 9, 10, 11, 12, 13, 15, 99, 100, 101, 112] _ (by kernel_rfl), ho⟩
        · rintro a w ⟨hk, ho⟩
          refine st_cond hk (C68 [1, 1, 1, 1, 1, 1, 1, 1, 1, 1, 1, 0, 1, 0, 0, 1, 1, 0, 0, 1, 1, 0, 0, 1, 1, 1, 0]) (C68 [1, 1, 1, 1, 1, 1, 1, 1, 1, 1, 1, 0, 1, 0, 0, 1, 1, 0, 0, 1, 1, 0, 0, 1, 1, 1, 1]) (.tmp 112) (((decide (48 ≤ bt p0 v11)) && (decide (bt p0 v11 ≤ 57)))) (by kernel_rfl) (by kernel_rfl) (fun h22 => ?_) (fun h22 => ?_)
          ·
            have h23 : ((decide (48 ≤ bt p0 v11)) && (decide (bt p0 v11 ≤ 57))) = true := h22
            rw [if_pos h23] at H
            refine st_region 43 (opsOf (C68 [1, 1, 1, 1, 1, 1, 1, 1, 1, 1, 1, 0, 1, 0, 0, 1, 1, 0, 0, 1, 1, 0, 0, 1, 1, 1, 0])) [0, 1, 2] (by kernel_rfl) (by kernel_rfl) ?_
            refine st_pure tabOK hk [0, 1, 2] [] [1, 8, 9, 10, 11, 12, 13, 16, 99, 100, 101] [(1, I 16), (8, .bool false), (9, S p0), (10, .int .u64 1152921504606846976), (11, .int .u64 18446744073709551615), (12, .bool v9), (13, .int .u64 v10), (16, .int .u8 (w8 ((bt p0 v11) - 48))), (99, .slice o5 p0.length c6), (100, I (p0.length : Int)), (101, I v11)] (True) (by kernel_rfl) trivial ?_
            clear hk; intro a hk
            refine st_done ?_
            refine st_endb 5 ?_
            refine st_seq (C68 [1, 1, 1, 1, 1, 1, 1, 1, 1, 1, 1, 0, 1, 0, 0, 1, 1, 0, 0, 1, 1, 1, 0]) (C68 [1, 1, 1, 1, 1, 1, 1, 1, 1, 1, 1, 0, 1, 0, 0, 1, 1, 0, 0, 1, 1, 1, 1]) (by kernel_rfl) ?_
            refine st_seq (C68 [1, 1, 1, 1, 1, 1, 1, 1, 1, 1, 1, 0, 1, 0, 0, 1, 1, 0, 0, 1, 1, 1, 0, 0]) (C68 [1, 1, 1, 1, 1, 1, 1, 1, 1, 1, 1, 0, 1, 0, 0, 1, 1, 0, 0, 1, 1, 1, 0, 1]) (by kernel_rfl) ?_
            refine st_region 46 (opsOf (C68 [1, 1, 1, 1, 1, 1, 1, 1, 1, 1, 1, 0, 1, 0, 0, 1, 1, 0, 0, 1, 1, 1, 0, 0])) [0, 1, 2, 3] (by kernel_rfl) (by kernel_rfl) ?_
            refine st_pure tabOK hk [0, 1, 2, 3] [] [1, 8, 9, 10, 11, 12, 13, 16, 99, 100, 101, 137] [(1, I 16), (8, .bool false), (9, S p0), (10, .int .u64 1152921504606846976), (11, .int .u64 18446744073709551615), (12, .bool v9), (13, .int .u64 v10), (16, .int .u8 (w8 ((bt p0 v11) - 48))), (99, .slice o5 p0.length c6), (100, I (p0.length : Int)), (101, I v11), (137, .bool (decide (w8 ((bt p0 v11) - 48) ≥ 16)))] (True) (by kernel_rfl) trivial ?_
            clear hk; intro a hk
            refine st_done ?_
            refine st_cond hk (C68 [1, 1, 1, 1, 1, 1, 1, 1, 1, 1, 1, 0, 1, 0, 0, 1, 1, 0, 0, 1, 1, 1, 0, 1, 0]) (C68 [1, 1, 1, 1, 1, 1, 1, 1, 1, 1, 1, 0, 1, 0, 0, 1, 1, 0, 0, 1, 1, 1, 0, 1, 1]) (.tmp 137) (decide (w8 ((bt p0 v11) - 48) ≥ 16)) (by kernel_rfl) (by kernel_rfl) (fun h24 => ?_) (fun h24 => ?_)
            ·
              have h25 : w8 ((bt p0 v11) - 48) ≥ 16 := of_decide_eq_true h24
              rw [if_pos h25] at H
              exact nomatch H
            ·
              have h26 : ¬ (w8 ((bt p0 v11) - 48) ≥ 16) := of_decide_eq_false h24
              rw [if_neg h26] at H
              refine st_skip (by kernel_rfl) ?_
              refine st_seq (C68 [1, 1, 1, 1, 1, 1, 1, 1, 1, 1, 1, 0, 1, 0, 0, 1, 1, 0, 0, 1, 1, 1, 1, 0]) (C68 [1, 1, 1, 1, 1, 1, 1, 1, 1, 1, 1, 0, 1, 0, 0, 1, 1, 0, 0, 1, 1, 1, 1, 1]) (by kernel_rfl) ?_
              refine st_seq (C68 [1, 1, 1, 1, 1, 1, 1, 1, 1, 1, 1, 0, 1, 0, 0, 1, 1, 0, 0, 1, 1, 1, 1, 0, 0]) (C68 [1, 1, 1, 1, 1, 1, 1, 1, 1, 1, 1, 0, 1, 0, 0, 1, 1, 0, 0, 1, 1, 1, 1, 0, 1]) (by kernel_rfl) ?_
              refine st_region 48 (opsOf (C68 [1, 1, 1, 1, 1, 1, 1, 1, 1, 1, 1, 0, 1, 0, 0, 1, 1, 0, 0, 1, 1, 1, 1, 0, 0])) [0, 1, 2] (by kernel_rfl) (by kernel_rfl) ?_
              refine st_pure tabOK hk [0, 1, 2] [] [1, 8, 9, 10, 11, 12, 13, 16, 99, 100, 101, 141] [(1, I 16), (8, .bool false), (9, S p0), (10, .int .u64 1152921504606846976), (11, .int .u64 18446744073709551615), (12, .bool v9), (13, .int .u64 v10), (16, .int .u8 (w8 ((bt p0 v11) - 48))), (99, .slice o5 p0.length c6), (100, I (p0.length : Int)), (101, I v11), (141, .bool (decide (v10 ≥ 1152921504606846976)))] (True) (by kernel_rfl) trivial ?_
              clear hk; intro a hk
              refine st_done ?_
              refine st_cond hk (C68 [1, 1, 1, 1, 1, 1, 1, 1, 1, 1, 1, 0, 1, 0, 0, 1, 1, 0, 0, 1, 1, 1, 1, 0, 1, 0]) (C68 [1, 1, 1, 1, 1, 1, 1, 1, 1, 1, 1, 0, 1, 0, 0, 1, 1, 0, 0, 1, 1, 1, 1, 0, 1, 1]) (.tmp 141) (decide (v10 ≥ 1152921504606846976)) (by kernel_rfl) (by kernel_rfl) (fun h27 => ?_) (fun h27 => ?_)
              ·
                have h28 : v10 ≥ 1152921504606846976 := of_decide_eq_true h27
                rw [if_pos h28] at H
                exact nomatch H
              ·
                have h29 : ¬ (v10 ≥ 1152921504606846976) := of_decide_eq_false h27
                rw [if_neg h29] at H
                refine st_skip (by kernel_rfl) ?_
                refine st_seq (C68 [1, 1, 1, 1, 1, 1, 1, 1, 1, 1, 1, 0, 1, 0, 0, 1, 1, 0, 0, 1, 1, 1, 1, 1, 0]) (C68 [1, 1, 1, 1, 1, 1, 1, 1, 1, 1, 1, 0, 1, 0, 0, 1, 1, 0, 0, 1, 1, 1, 1, 1, 1]) (by kernel_rfl) ?_
                refine st_region 50 (opsOf (C68 [1, 1, 1, 1, 1, 1, 1, 1, 1, 1, 1, 0, 1, 0, 0, 1, 1, 0, 0, 1, 1, 1, 1, 1, 0])) [0, 1, 2, 3, 4] (by kernel_rfl) (by kernel_rfl) ?_
                refine st_pure tabOK hk [0, 1, 2, 3, 4] [] [1, 8, 9, 10, 11, 12, 13, 16, 99, 100, 101] [(1, I 16), (8, .bool false), (9, S p0), (10, .int .u64 1152921504606846976), (11, .int .u64 18446744073709551615), (12, .bool v9), (13, .int .u64 (IntKind.u64.wrap (v10 * 16))), (16, .int .u8 (w8 ((bt p0 v11) - 48))), (99, .slice o5 p0.length c6), (100, I (p0.length : Int)), (101, I v11)] (True) (by kernel_rfl) trivial ?_
                clear hk; intro a hk
                refine st_done ?_
                refine st_seq (C68 [1, 1, 1, 1, 1, 1, 1, 1, 1, 1, 1, 0, 1, 0, 0, 1, 1, 0, 0, 1, 1, 1, 1, 1, 1, 0]) (C68 [1, 1, 1, 1, 1, 1, 1, 1, 1, 1, 1, 0, 1, 0, 0, 1, 1, 0, 0, 1, 1, 1, 1, 1, 1, 1]) (by kernel_rfl) ?_
                refine st_region 51 (opsOf (C68 [1, 1, 1, 1, 1, 1, 1, 1, 1, 1, 1, 0, 1, 0, 0, 1, 1, 0, 0, 1, 1, 1, 1, 1, 1, 0])) [0, 1, 2, 3, 4] (by kernel_rfl) (by kernel_rfl) ?_
                refine st_pure tabOK hk [0, 1, 2, 3, 4] [] [1, 8, 9, 10, 11, 12, 13, 17, 99, 100, 101] [(1, I 16), (8, .bool false), (9, S p0), (10, .int .u64 1152921504606846976), (11, .int .u64 18446744073709551615), (12, .bool v9), (13, .int .u64 (IntKind.u64.wrap (v10 * 16))), (17, .int .u64 (IntKind.u64.wrap ((IntKind.u64.wrap (v10 * 16)) + (IntKind.u64.wrap (w8 ((bt p0 v11) - 48)))))), (99, .slice o5 p0.length c6), (100, I (p0.length : Int)), (101, I v11)] (True) (by kernel_rfl) trivial ?_
                clear hk; intro a hk
                refine st_done ?_
                refine st_seq (C68 [1, 1, 1, 1, 1, 1, 1, 1, 1, 1, 1, 0, 1, 0, 0, 1, 1, 0, 0, 1, 1, 1, 1, 1, 1, 1, 0]) (C68 [1, 1, 1, 1, 1, 1, 1, 1, 1, 1, 1, 0, 1, 0, 0, 1, 1, 0, 0, 1, 1, 1, 1, 1, 1, 1, 1]) (by kernel_rfl) ?_
                refine st_seq (C68 [1, 1, 1, 1, 1, 1, 1, 1, 1, 1, 1, 0, 1, 0, 0, 1, 1, 0, 0, 1, 1, 1, 1, 1, 1, 1, 0, 0]) (C68 [1, 1, 1, 1, 1, 1, 1, 1, 1, 1, 1, 0, 1, 0, 0, 1, 1, 0, 0, 1, 1, 1, 1, 1, 1, 1, 0, 1]) (by kernel_rfl) ?_
                refine st_region 52 (opsOf (C68 [1, 1, 1, 1, 1, 1, 1, 1, 1, 1, 1, 0, 1, 0, 0, 1, 1, 0, 0, 1, 1, 1, 1, 1, 1, 1, 0, 0])) [0, 1, 2, 3, 4, 5, 6, 7] (by kernel_rfl) (by kernel_rfl) ?_
                refine st_pure tabOK hk [0, 1, 2, 3] [4, 5, 6, 7] [1, 8, 9, 10, 11, 12, 17, 99, 100, 101, 155] [(1, I 16), (8, .bool false), (9, S p0), (10, .int .u64 1152921504606846976), (11, .int .u64 18446744073709551615), (12, .bool v9), (17, .int .u64 (IntKind.u64.wrap ((IntKind.u64.wrap (v10 * 16)) + (IntKind.u64.wrap (w8 ((bt p0 v11) - 48)))))), (99, .slice o5 p0.length c6), (100, I (p0.length : Int)), (101, I v11), (155, .bool (decide (IntKind.u64.wrap ((IntKind.u64.wrap (v10 * 16)) + (IntKind.u64.wrap (w8 ((bt p0 v11) - 48)))) < IntKind.u64.wrap (v10 * 16))))] (True) (by kernel_rfl) trivial ?_
                clear hk; intro a hk
                refine cut_ops (fun a w => Kn 172 a [(1, I 16), (8, .bool false), (9, S p0), (10, .int .u64 1152921504606846976), (11, .int .u64 18446744073709551615), (12, .bool v9), (17, .int .u64 (IntKind.u64.wrap ((IntKind.u64.wrap (v10 * 16)) + (IntKind.u64.wrap (w8 ((bt p0 v11) - 48)))))), (99, .slice o5 p0.length c6), (100, I (p0.length : Int)), (101, I v11), (159, .bool ((decide (IntKind.u64.wrap ((IntKind.u64.wrap (v10 * 16)) + (IntKind.u64.wrap (w8 ((bt p0 v11) - 48)))) < IntKind.u64.wrap (v10 * 16))) || (decide (IntKind.u64.wrap ((IntKind.u64.wrap (v10 * 16)) + (IntKind.u64.wrap (w8 ((bt p0 v11) - 48)))) > 18446744073709551615))))] ∧ Ows [] w0 w [.row 0 5 1 (.slice o5 p0.length c6) p0.length (p0.map bV)]) ?_ ?_
                · intro J
                  rcases Bool.eq_false_or_eq_true (decide (IntKind.u64.wrap ((IntKind.u64.wrap (v10 * 16)) + (IntKind.u64.wrap (w8 ((bt p0 v11) - 48)))) < IntKind.u64.wrap (v10 * 16))) with h30 | h30
                  ·
                    rw [h30] at hk
                    have h31 : IntKind.u64.wrap ((IntKind.u64.wrap (v10 * 16)) + (IntKind.u64.wrap (w8 ((bt p0 v11) - 48)))) < IntKind.u64.wrap (v10 * 16) := of_decide_eq_true h30
                    refine st_pure tabOK hk [4, 5, 6, 7] [] [1, 8, 9, 10, 11, 12, 17, 99, 100, 101, 159] [(1, I 16), (8, .bool false), (9, S p0), (10, .int .u64 1152921504606846976), (11, .int .u64 18446744073709551615), (12, .bool v9), (17, .int .u64 (IntKind.u64.wrap ((IntKind.u64.wrap (v10 * 16)) + (IntKind.u64.wrap (w8 ((bt p0 v11) - 48)))))), (99, .slice o5 p0.length c6), (100, I (p0.length : Int)), (101, I v11), (159, .bool true)] (True) (by kernel_rfl) trivial ?_
                    clear hk; intro a hk
                    refine st_done ?_
                    have e : ((decide (IntKind.u64.wrap ((IntKind.u64.wrap (v10 * 16)) + (IntKind.u64.wrap (w8 ((bt p0 v11) - 48)))) < IntKind.u64.wrap (v10 * 16))) || (decide (IntKind.u64.wrap ((IntKind.u64.wrap (v10 * 16)) + (IntKind.u64.wrap (w8 ((bt p0 v11) - 48)))) > 18446744073709551615))) = true := by first | (simp only [h30]; done) | (simp only [h30]; rfl) | rfl | simp [h30]
                    exact J a w ⟨by rw [e]; exact hk.to [1, 8, 9, 10, 11, 12, 17, 99, 100, 101, 159] _ (by kernel_rfl), ho⟩
                  ·
                    rw [h30] at hk
                    have h32 : ¬ (IntKind.u64.wrap ((IntKind.u64.wrap (v10 * 16)) + (IntKind.u64.wrap (w8 ((bt p0 v11) - 48)))) < IntKind.u64.wrap (v10 * 16)) := of_decide_eq_false h30
                    refine st_pure tabOK hk [4, 5, 6, 7] [] [1, 8, 9, 10, 11, 12, 17, 99, 100, 101, 159] [(1, I 16), (8, .bool false), (9, S p0), (10, .int .u64 1152921504606846976), (11, .int .u64 18446744073709551615), (12, .bool v9), (17, .int .u64 (IntKind.u64.wrap ((IntKind.u64.wrap (v10 * 16)) + (IntKind.u64.wrap (w8 ((bt p0 v11) - 48)))))), (99, .slice o5 p0.length c6), (100, I (p0.length : Int)), (101, I v11), (159, .bool (decide (IntKind.u64.wrap ((IntKind.u64.wrap (v10 * 16)) + (IntKind.u64.wrap (w8 ((bt p0 v11) - 48)))) > 18446744073709551615)))] (True) (by kernel_rfl) trivial ?_
                    clear hk; intro a hk
                    refine st_done ?_
                    have e : ((decide (IntKind.u64.wrap ((IntKind.u64.wrap (v10 * 16)) + (IntKind.u64.wrap (w8 ((bt p0 v11) - 48)))) < IntKind.u64.wrap (v10 * 16))) || (decide (IntKind.u64.wrap ((IntKind.u64.wrap (v10 * 16)) + (IntKind.u64.wrap (w8 ((bt p0 v11) - 48)))) > 18446744073709551615))) = (decide (IntKind.u64.wrap ((IntKind.u64.wrap (v10 * 16)) + (IntKind.u64.wrap (w8 ((bt p0 v11) - 48)))) > 18446744073709551615)) := by first | (simp only [h30]; done) | (simp only [h30]; rfl) | rfl | simp [h30]
                    exact J a w ⟨by rw [e]; exact hk.to [1, 8, 9, 10, 11, 12, 17, 99, 100, 101, 159] _ (by kernel_rfl), ho⟩
                · rintro a w ⟨hk, ho⟩
                  refine st_cond hk (C68 [1, 1, 1, 1, 1, 1, 1, 1, 1, 1, 1, 0, 1, 0, 0, 1, 1, 0, 0, 1, 1, 1, 1, 1, 1, 1, 0, 1, 0]) (C68 [1, 1, 1, 1, 1, 1, 1, 1, 1, 1, 1, 0, 1, 0, 0, 1, 1, 0, 0, 1, 1, 1, 1, 1, 1, 1, 0, 1, 1]) (.tmp 159) (((decide (IntKind.u64.wrap ((IntKind.u64.wrap (v10 * 16)) + (IntKind.u64.wrap (w8 ((bt p0 v11) - 48)))) < IntKind.u64.wrap (v10 * 16))) || (decide (IntKind.u64.wrap ((IntKind.u64.wrap (v10 * 16)) + (IntKind.u64.wrap (w8 ((bt p0 v11) - 48)))) > 18446744073709551615)))) (by kernel_rfl) (by kernel_rfl) (fun h33 => ?_) (fun h33 => ?_)
                  ·
                    have h34 : ((decide (IntKind.u64.wrap ((IntKind.u64.wrap (v10 * 16)) + (IntKind.u64.wrap (w8 ((bt p0 v11) - 48)))) < IntKind.u64.wrap (v10 * 16))) || (decide (IntKind.u64.wrap ((IntKind.u64.wrap (v10 * 16)) + (IntKind.u64.wrap (w8 ((bt p0 v11) - 48)))) > 18446744073709551615))) = true := h33
                    rw [if_pos h34] at H
                    exact nomatch H
                  ·
                    have h35 : ¬ (((decide (IntKind.u64.wrap ((IntKind.u64.wrap (v10 * 16)) + (IntKind.u64.wrap (w8 ((bt p0 v11) - 48)))) < IntKind.u64.wrap (v10 * 16))) || (decide (IntKind.u64.wrap ((IntKind.u64.wrap (v10 * 16)) + (IntKind.u64.wrap (w8 ((bt p0 v11) - 48)))) > 18446744073709551615))) = true) := ne_true_of_eq_false h33
                    rw [if_neg h35] at H
                    refine st_skip (by kernel_rfl) ?_
                    refine st_region 54 (opsOf (C68 [1, 1, 1, 1, 1, 1, 1, 1, 1, 1, 1, 0, 1, 0, 0, 1, 1, 0, 0, 1, 1, 1, 1, 1, 1, 1, 1])) [0, 1] (by kernel_rfl) (by kernel_rfl) ?_
                    refine st_pure tabOK hk [0, 1] [] [1, 8, 9, 10, 11, 12, 13, 99, 100, 101] [(1, I 16), (8, .bool false), (9, S p0), (10, .int .u64 1152921504606846976), (11, .int .u64 18446744073709551615), (12, .bool v9), (13, .int .u64 (IntKind.u64.wrap ((IntKind.u64.wrap (v10 * 16)) + (IntKind.u64.wrap (w8 ((bt p0 v11) - 48)))))), (99, .slice o5 p0.length c6), (100, I (p0.length : Int)), (101, I v11)] (True) (by kernel_rfl) trivial ?_
                    clear hk; intro a hk
                    refine st_done ?_
                    refine st_endb 4 ?_
                    refine st_region 55 (opsOf (C68 [1, 1, 1, 1, 1, 1, 1, 1, 1, 1, 1, 0, 1, 0, 0, 1, 1, 1])) [0, 1] (by kernel_rfl) (by kernel_rfl) ?_
                    refine st_pure tabOK hk [0, 1] [] [1, 8, 9, 10, 11, 12, 13, 99, 100, 101] [(1, I 16), (8, .bool false), (9, S p0), (10, .int .u64 1152921504606846976), (11, .int .u64 18446744073709551615), (12, .bool v9), (13, .int .u64 (IntKind.u64.wrap ((IntKind.u64.wrap (v10 * 16)) + (IntKind.u64.wrap (w8 ((bt p0 v11) - 48)))))), (99, .slice o5 p0.length c6), (100, I (p0.length : Int)), (101, I (w64 (v11 + 1)))] (True) (by kernel_rfl) trivial ?_
                    clear hk; intro a hk
                    refine st_done ?_
                    refine st_inl ?_
                    exact ih p0 v9 (IntKind.u64.wrap ((IntKind.u64.wrap (v10 * 16)) + (IntKind.u64.wrap (w8 ((bt p0 v11) - 48))))) (w64 (v11 + 1)) out H o5 c6 w0 Q rest a w  (hk.to [1, 8, 9, 10, 11, 12, 13, 99, 100, 101] _ (by kernel_rfl)) ho J
          ·
            have h36 : ¬ (((decide (48 ≤ bt p0 v11)) && (decide (bt p0 v11 ≤ 57))) = true) := ne_true_of_eq_false h22
            rw [if_neg h36] at H
            refine st_seq (C68 [1, 1, 1, 1, 1, 1, 1, 1, 1, 1, 1, 0, 1, 0, 0, 1, 1, 0, 0, 1, 1, 0, 0, 1, 1, 1, 1, 0]) (C68 [1, 1, 1, 1, 1, 1, 1, 1, 1, 1, 1, 0, 1, 0, 0, 1, 1, 0, 0, 1, 1, 0, 0, 1, 1, 1, 1, 1]) (by kernel_rfl) ?_
            refine st_region 44 (opsOf (C68 [1, 1, 1, 1, 1, 1, 1, 1, 1, 1, 1, 0, 1, 0, 0, 1, 1, 0, 0, 1, 1, 0, 0, 1, 1, 1, 1, 0])) [0, 1, 2, 3, 4, 5, 6, 7, 8] (by kernel_rfl) (by kernel_rfl) ?_
            refine st_pure tabOK hk [0] [1, 2, 3, 4, 5, 6, 7, 8] [1, 8, 9, 10, 11, 12, 13, 15, 99, 100, 101, 122] [(1, I 16), (8, .bool false), (9, S p0), (10, .int .u64 1152921504606846976), (11, .int .u64 18446744073709551615), (12, .bool v9), (13, .int .u64 v10), (15, .int .u8 (bt p0 v11)), (99, .slice o5 p0.length c6), (100, I (p0.length : Int)), (101, I v11), (122, .int .u8 (bt p0 v11))] (True) (by kernel_rfl) trivial ?_
            clear hk; intro a hk
            obtain ⟨t37, h38, H⟩ := Option.bind_eq_some_iff.1 H
            refine st_call hk 90 [.int .u8 (bt p0 v11)] (some 123) enters90 (by kernel_rfl) (strconv_lower.ok  (bt p0 v11) t37 h38 w ) ?_
            clear hk; rintro a u w ⟨rfl, ho'⟩ hk
            replace ho : Ows [] w0 w [.row 0 5 1 (.slice o5 p0.length c6) p0.length (p0.map bV)] := ho.call ho'; clear ho'
            refine st_pure tabOK hk [2, 3] [4, 5, 6, 7, 8] [1, 8, 9, 10, 11, 12, 13, 15, 99, 100, 101, 125] [(1, I 16), (8, .bool false), (9, S p0), (10, .int .u64 1152921504606846976), (11, .int .u64 18446744073709551615), (12, .bool v9), (13, .int .u64 v10), (15, .int .u8 (bt p0 v11)), (99, .slice o5 p0.length c6), (100, I (p0.length : Int)), (101, I v11), (125, .bool (decide (97 ≤ t37)))] (True) (by kernel_rfl) trivial ?_
            clear hk; intro a hk
            obtain ⟨m39, HX, H⟩ := Option.bind_eq_some_iff.1 H
            refine cut_ops (fun a w => Kn 172 a [(1, I 16), (8, .bool false), (9, S p0), (10, .int .u64 1152921504606846976), (11, .int .u64 18446744073709551615), (12, .bool v9), (13, .int .u64 v10), (15, .int .u8 (bt p0 v11)), (99, .slice o5 p0.length c6), (100, I (p0.length : Int)), (101, I v11), (121, .bool m39)] ∧ Ows [] w0 w [.row 0 5 1 (.slice o5 p0.length c6) p0.length (p0.map bV)]) ?_ ?_
            · intro J; clear H; have H := HX; clear HX
              rcases Bool.eq_false_or_eq_true (decide (97 ≤ t37)) with h40 | h40
              ·
                rw [h40] at hk
                have h41 : 97 ≤ t37 := of_decide_eq_true h40
                rw [if_pos h41] at H
                refine st_pure tabOK hk [4] [5, 6, 7, 8] [1, 8, 9, 10, 11, 12, 13, 15, 99, 100, 101, 125, 126] [(1, I 16), (8, .bool false), (9, S p0), (10, .int .u64 1152921504606846976), (11, .int .u64 18446744073709551615), (12, .bool v9), (13, .int .u64 v10), (15, .int .u8 (bt p0 v11)), (99, .slice o5 p0.length c6), (100, I (p0.length : Int)), (101, I v11), (125, .bool true), (126, .int .u8 (bt p0 v11))] (True) (by kernel_rfl) trivial ?_
                clear hk; intro a hk
                obtain ⟨t42, h43, H⟩ := Option.bind_eq_some_iff.1 H
                refine st_call hk 90 [.int .u8 (bt p0 v11)] (some 127) enters90 (by kernel_rfl) (strconv_lower.ok  (bt p0 v11) t42 h43 w ) ?_
                clear hk; rintro a u w ⟨rfl, ho'⟩ hk
                replace ho : Ows [] w0 w [.row 0 5 1 (.slice o5 p0.length c6) p0.length (p0.map bV)] := ho.call ho'; clear ho'
                refine st_pure tabOK hk [6, 7, 8] [] [1, 8, 9, 10, 11, 12, 13, 15, 99, 100, 101, 121] [(1, I 16), (8, .bool false), (9, S p0), (10, .int .u64 1152921504606846976), (11, .int .u64 18446744073709551615), (12, .bool v9), (13, .int .u64 v10), (15, .int .u8 (bt p0 v11)), (99, .slice o5 p0.length c6), (100, I (p0.length : Int)), (101, I v11), (121, .bool (decide (t42 ≤ 122)))] (True) (by kernel_rfl) trivial ?_
                clear hk; intro a hk
                refine st_done ?_
                obtain rfl := Option.some.inj H
                exact J a w ⟨hk.to [1, 8, 9, 10, 11, 12, 13, 15, 99, 100, 101, 121] _ (by kernel_rfl), ho⟩
              ·
                rw [h40] at hk
                have h44 : ¬ (97 ≤ t37) := of_decide_eq_false h40
                rw [if_neg h44] at H
                refine st_pure tabOK hk [4, 5, 6, 7, 8] [] [1, 8, 9, 10, 11, 12, 13, 15, 99, 100, 101, 121] [(1, I 16), (8, .bool false), (9, S p0), (10, .int .u64 1152921504606846976), (11, .int .u64 18446744073709551615), (12, .bool v9), (13, .int .u64 v10), (15, .int .u8 (bt p0 v11)), (99, .slice o5 p0.length c6), (100, I (p0.length : Int)), (101, I v11), (121, .bool false)] (True) (by kernel_rfl) trivial ?_
                clear hk; intro a hk
                refine st_done ?_
                obtain rfl := Option.some.inj H
                exact J a w ⟨hk.to [1, 8, 9, 10, 11, 12, 13, 15, 99, 100, 101, 121] _ (by kernel_rfl), ho⟩
            · clear HX; rintro a w ⟨hk, ho⟩
              refine st_cond hk (C68 [1, 1, 1, 1, 1, 1, 1, 1, 1, 1, 1, 0, 1, 0, 0, 1, 1, 0, 0, 1, 1, 0, 0, 1, 1, 1, 1, 1, 0]) (C68 [1, 1, 1, 1, 1, 1, 1, 1, 1, 1, 1, 0, 1, 0, 0, 1, 1, 0, 0, 1, 1, 0, 0, 1, 1, 1, 1, 1, 1]) (.tmp 121) (m39) (by kernel_rfl) (by kernel_rfl) (fun h45 => ?_) (fun h45 => ?_)
              ·
                have h46 : m39 = true := h45
                rw [if_pos h46] at H
                refine st_region 45 (opsOf (C68 [1, 1, 1, 1, 1, 1, 1, 1, 1, 1, 1, 0, 1, 0, 0, 1, 1, 0, 0, 1, 1, 0, 0, 1, 1, 1, 1, 1, 0])) [0, 1, 2, 3, 4] (by kernel_rfl) (by kernel_rfl) ?_
                refine st_pure tabOK hk [0] [1, 2, 3, 4] [1, 8, 9, 10, 11, 12, 13, 99, 100, 101, 130] [(1, I 16), (8, .bool false), (9, S p0), (10, .int .u64 1152921504606846976), (11, .int .u64 18446744073709551615), (12, .bool v9), (13, .int .u64 v10), (99, .slice o5 p0.length c6), (100, I (p0.length : Int)), (101, I v11), (130, .int .u8 (bt p0 v11))] (True) (by kernel_rfl) trivial ?_
                clear hk; intro a hk
                obtain ⟨t47, h48, H⟩ := Option.bind_eq_some_iff.1 H
                refine st_call hk 90 [.int .u8 (bt p0 v11)] (some 131) enters90 (by kernel_rfl) (strconv_lower.ok  (bt p0 v11) t47 h48 w ) ?_
                clear hk; rintro a u w ⟨rfl, ho'⟩ hk
                replace ho : Ows [] w0 w [.row 0 5 1 (.slice o5 p0.length c6) p0.length (p0.map bV)] := ho.call ho'; clear ho'
                refine st_pure tabOK hk [2, 3, 4] [] [1, 8, 9, 10, 11, 12, 13, 16, 99, 100, 101] [(1, I 16), (8, .bool false), (9, S p0), (10, .int .u64 1152921504606846976), (11, .int .u64 18446744073709551615), (12, .bool v9), (13, .int .u64 v10), (16, .int .u8 (w8 ((w8 (t47 - 97)) + 10))), (99, .slice o5 p0.length c6), (100, I (p0.length : Int)), (101, I v11)] (True) (by kernel_rfl) trivial ?_
                clear hk; intro a hk
                refine st_done ?_
                refine st_endb 5 ?_
                refine st_seq (C68 [1, 1, 1, 1, 1, 1, 1, 1, 1, 1, 1, 0, 1, 0, 0, 1, 1, 0, 0, 1, 1, 1, 0]) (C68 [1, 1, 1, 1, 1, 1, 1, 1, 1, 1, 1, 0, 1, 0, 0, 1, 1, 0, 0, 1, 1, 1, 1]) (by kernel_rfl) ?_
                refine st_seq (C68 [1, 1, 1, 1, 1, 1, 1, 1, 1, 1, 1, 0, 1, 0, 0, 1, 1, 0, 0, 1, 1, 1, 0, 0]) (C68 [1, 1, 1, 1, 1, 1, 1, 1, 1, 1, 1, 0, 1, 0, 0, 1, 1, 0, 0, 1, 1, 1, 0, 1]) (by kernel_rfl) ?_
                refine st_region 46 (opsOf (C68 [1, 1, 1, 1, 1, 1, 1, 1, 1, 1, 1, 0, 1, 0, 0, 1, 1, 0, 0, 1, 1, 1, 0, 0])) [0, 1, 2, 3] (by kernel_rfl) (by kernel_rfl) ?_
                refine st_pure tabOK hk [0, 1, 2, 3] [] [1, 8, 9, 10, 11, 12, 13, 16, 99, 100, 101, 137] [(1, I 16), (8, .bool false), (9, S p0), (10, .int .u64 1152921504606846976), (11, .int .u64 18446744073709551615), (12, .bool v9), (13, .int .u64 v10), (16, .int .u8 (w8 ((w8 (t47 - 97)) + 10))), (99, .slice o5 p0.length c6), (100, I (p0.length : Int)), (101, I v11), (137, .bool (decide (w8 ((w8 (t47 - 97)) + 10) ≥ 16)))] (True) (by kernel_rfl) trivial ?_
                clear hk; intro a hk
                refine st_done ?_
                refine st_cond hk (C68 [1, 1, 1, 1, 1, 1, 1, 1, 1, 1, 1, 0, 1, 0, 0, 1, 1, 0, 0, 1, 1, 1, 0, 1, 0]) (C68 [1, 1, 1, 1, 1, 1, 1, 1, 1, 1, 1, 0, 1, 0, 0, 1, 1, 0, 0, 1, 1, 1, 0, 1, 1]) (.tmp 137) (decide (w8 ((w8 (t47 - 97)) + 10) ≥ 16)) (by kernel_rfl) (by kernel_rfl) (fun h49 => ?_) (fun h49 => ?_)
                ·
                  have h50 : w8 ((w8 (t47 - 97)) + 10) ≥ 16 := of_decide_eq_true h49
                  rw [if_pos h50] at H
                  exact nomatch H
                ·
                  have h51 : ¬ (w8 ((w8 (t47 - 97)) + 10) ≥ 16) := of_decide_eq_false h49
                  rw [if_neg h51] at H
                  refine st_skip (by kernel_rfl) ?_
                  refine st_seq (C68 [1, 1, 1, 1, 1, 1, 1, 1, 1, 1, 1, 0, 1, 0, 0, 1, 1, 0, 0, 1, 1, 1, 1, 0]) (C68 [1, 1, 1, 1, 1, 1, 1, 1, 1, 1, 1, 0, 1, 0, 0, 1, 1, 0, 0, 1, 1, 1, 1, 1]) (by kernel_rfl) ?_
                  refine st_seq (C68 [1, 1, 1, 1, 1, 1, 1, 1, 1, 1, 1, 0, 1, 0, 0, 1, 1, 0, 0, 1, 1, 1, 1, 0, 0]) (C68 [1, 1, 1, 1, 1, 1, 1, 1, 1, 1, 1, 0, 1, 0, 0, 1, 1, 0, 0, 1, 1, 1, 1, 0, 1]) (by kernel_rfl) ?_
                  refine st_region 48 (opsOf (C68 [1, 1, 1, 1, 1, 1, 1, 1, 1, 1, 1, 0, 1, 0, 0, 1, 1, 0, 0, 1, 1, 1, 1, 0, 0])) [0, 1, 2] (by kernel_rfl) (by kernel_rfl) ?_
                  refine st_pure tabOK hk [0, 1, 2] [] [1, 8, 9, 10, 11, 12, 13, 16, 99, 100, 101, 141] [(1, I 16), (8, .bool false), (9, S p0), (10, .int .u64 1152921504606846976), (11, .int .u64 18446744073709551615), (12, .bool v9), (13, .int .u64 v10), (16, .int .u8 (w8 ((w8 (t47 - 97)) + 10))), (99, .slice o5 p0.length c6), (100, I (p0.length : Int)), (101, I v11), (141, .bool (decide (v10 ≥ 1152921504606846976)))] (True) (by kernel_rfl) trivial ?_
                  clear hk; intro a hk
                  refine st_done ?_
                  refine st_cond hk (C68 [1, 1, 1, 1, 1, 1, 1, 1, 1, 1, 1, 0, 1, 0, 0, 1, 1, 0, 0, 1, 1, 1, 1, 0, 1, 0]) (C68 [1, 1, 1, 1, 1, 1, 1, 1, 1, 1, 1, 0, 1, 0, 0, 1, 1, 0, 0, 1, 1, 1, 1, 0, 1, 1]) (.tmp 141) (decide (v10 ≥ 1152921504606846976)) (by kernel_rfl) (by kernel_rfl) (fun h52 => ?_) (fun h52 => ?_)
                  ·
                    have h53 : v10 ≥ 1152921504606846976 := of_decide_eq_true h52
                    rw [if_pos h53] at H
                    exact nomatch H
                  ·
                    have h54 : ¬ (v10 ≥ 1152921504606846976) := of_decide_eq_false h52
                    rw [if_neg h54] at H
                    refine st_skip (by kernel_rfl) ?_
                    refine st_seq (C68 [1, 1, 1, 1, 1, 1, 1, 1, 1, 1, 1, 0, 1, 0, 0, 1, 1, 0, 0, 1, 1, 1, 1, 1, 0]) (C68 [1, 1, 1, 1, 1, 1, 1, 1, 1, 1, 1, 0, 1, 0, 0, 1, 1, 0, 0, 1, 1, 1, 1, 1, 1]) (by kernel_rfl) ?_
                    refine st_region 50 (opsOf (C68 [1, 1, 1, 1, 1, 1, 1, 1, 1, 1, 1, 0, 1, 0, 0, 1, 1, 0, 0, 1, 1, 1, 1, 1, 0])) [0, 1, 2, 3, 4] (by kernel_rfl) (by kernel_rfl) ?_
                    refine st_pure tabOK hk [0, 1, 2, 3, 4] [] [1, 8, 9, 10, 11, 12, 13, 16, 99, 100, 101] [(1, I 16), (8, .bool false), (9, S p0), (10, .int .u64 1152921504606846976), (11, .int .u64 18446744073709551615), (12, .bool v9), (13, .int .u64 (IntKind.u64.wrap (v10 * 16))), (16, .int .u8 (w8 ((w8 (t47 - 97)) + 10))), (99, .slice o5 p0.length c6), (100, I (p0.length : Int)), (101, I v11)] (True) (by kernel_rfl) trivial ?_
                    clear hk; intro a hk
                    refine st_done ?_
                    refine st_seq (C68 [1, 1, 1, 1, 1, 1, 1, 1, 1, 1, 1, 0, 1, 0, 0, 1, 1, 0, 0, 1, 1, 1, 1, 1, 1, 0]) (C68 [1, 1, 1, 1, 1, 1, 1, 1, 1, 1, 1, 0, 1, 0, 0, 1, 1, 0, 0, 1, 1, 1, 1, 1, 1, 1]) (by kernel_rfl) ?_
                    refine st_region 51 (opsOf (C68 [1, 1, 1, 1, 1, 1, 1, 1, 1, 1, 1, 0, 1, 0, 0, 1, 1, 0, 0, 1, 1, 1, 1, 1, 1, 0])) [0, 1, 2, 3, 4] (by kernel_rfl) (by kernel_rfl) ?_
                    refine st_pure tabOK hk [0, 1, 2, 3, 4] [] [1, 8, 9, 10, 11, 12, 13, 17, 99, 100, 101] [(1, I 16), (8, .bool false), (9, S p0), (10, .int .u64 1152921504606846976), (11, .int .u64 18446744073709551615), (12, .bool v9), (13, .int .u64 (IntKind.u64.wrap (v10 * 16))), (17, .int .u64 (IntKind.u64.wrap ((IntKind.u64.wrap (v10 * 16)) + (IntKind.u64.wrap (w8 ((w8 (t47 - 97)) + 10)))))), (99, .slice o5 p0.length c6), (100, I (p0.length : Int)), (101, I v11)] (True) (by kernel_rfl) trivial ?_
                    clear hk; intro a hk
                    refine st_done ?_
                    refine st_seq (C68 [1, 1, 1, 1, 1, 1, 1, 1, 1, 1, 1, 0, 1, 0, 0, 1, 1, 0, 0, 1, 1, 1, 1, 1, 1, 1, 0]) (C68 [1, 1, 1, 1, 1, 1, 1, 1, 1, 1, 1, 0, 1, 0, 0, 1, 1, 0, 0, 1, 1, 1, 1, 1, 1, 1, 1]) (by kernel_rfl) ?_
                    refine st_seq (C68 [1, 1, 1, 1, 1, 1, 1, 1, 1, 1, 1, 0, 1, 0, 0, 1, 1, 0, 0, 1, 1, 1, 1, 1, 1, 1, 0, 0]) (C68 [1, 1, 1, 1, 1, 1, 1, 1, 1, 1, 1, 0, 1, 0, 0, 1, 1, 0, 0, 1, 1, 1, 1, 1, 1, 1, 0, 1]) (by kernel_rfl) ?_
                    refine st_region 52 (opsOf (C68 [1, 1, 1, 1, 1, 1, 1, 1, 1, 1, 1, 0, 1, 0, 0, 1, 1, 0, 0, 1, 1, 1, 1, 1, 1, 1, 0, 0])) [0, 1, 2, 3, 4, 5, 6, 7] (by kernel_rfl) (by kernel_rfl) ?_
                    refine st_pure tabOK hk [0, 1, 2, 3] [4, 5, 6, 7] [1, 8, 9, 10, 11, 12, 17, 99, 100, 101, 155] [(1, I 16), (8, .bool false), (9, S p0), (10, .int .u64 1152921504606846976), (11, .int .u64 18446744073709551615), (12, .bool v9), (17, .int .u64 (IntKind.u64.wrap ((IntKind.u64.wrap (v10 * 16)) + (IntKind.u64.wrap (w8 ((w8 (t47 - 97)) + 10)))))), (99, .slice o5 p0.length c6), (100, I (p0.length : Int)), (101, I v11), (155, .bool (decide (IntKind.u64.wrap ((IntKind.u64.wrap (v10 * 16)) + (IntKind.u64.wrap (w8 ((w8 (t47 - 97)) + 10)))) < IntKind.u64.wrap (v10 * 16))))] (True) (by kernel_rfl) trivial ?_
                    clear hk; intro a hk
                    refine cut_ops (fun a w => Kn 172 a [(1, I 16), (8, .bool false), (9, S p0), (10, .int .u64 1152921504606846976), (11, .int .u64 18446744073709551615), (12, .bool v9), (17, .int .u64 (IntKind.u64.wrap ((IntKind.u64.wrap (v10 * 16)) + (IntKind.u64.wrap (w8 ((w8 (t47 - 97)) + 10)))))), (99, .slice o5 p0.length c6), (100, I (p0.length : Int)), (101, I v11), (159, .bool ((decide (IntKind.u64.wrap ((IntKind.u64.wrap (v10 * 16)) + (IntKind.u64.wrap (w8 ((w8 (t47 - 97)) + 10)))) < IntKind.u64.wrap (v10 * 16))) || (decide (IntKind.u64.wrap ((IntKind.u64.wrap (v10 * 16)) + (IntKind.u64.wrap (w8 ((w8 (t47 - 97)) + 10)))) > 18446744073709551615))))] ∧ Ows [] w0 w [.row 0 5 1 (.slice o5 p0.length c6) p0.length (p0.map bV)]) ?_ ?_
                    · intro J
                      rcases Bool.eq_false_or_eq_true (decide (IntKind.u64.wrap ((IntKind.u64.wrap (v10 * 16)) + (IntKind.u64.wrap (w8 ((w8 (t47 - 97)) + 10)))) < IntKind.u64.wrap (v10 * 16))) with h55 | h55
                      ·
                        rw [h55] at hk
                        have h56 : IntKind.u64.wrap ((IntKind.u64.wrap (v10 * 16)) + (IntKind.u64.wrap (w8 ((w8 (t47 - 97)) + 10)))) < IntKind.u64.wrap (v10 * 16) := of_decide_eq_true h55
                        refine st_pure tabOK hk [4, 5, 6, 7] [] [1, 8, 9, 10, 11, 12, 17, 99, 100, 101, 159] [(1, I 16), (8, .bool false), (9, S p0), (10, .int .u64 1152921504606846976), (11, .int .u64 18446744073709551615), (12, .bool v9), (17, .int .u64 (IntKind.u64.wrap ((IntKind.u64.wrap (v10 * 16)) + (IntKind.u64.wrap (w8 ((w8 (t47 - 97)) + 10)))))), (99, .slice o5 p0.length c6), (100, I (p0.length : Int)), (101, I v11), (159, .bool true)] (True) (by kernel_rfl) trivial ?_
                        clear hk; intro a hk
                        refine st_done ?_
                        have e : ((decide (IntKind.u64.wrap ((IntKind.u64.wrap (v10 * 16)) + (IntKind.u64.wrap (w8 ((w8 (t47 - 97)) + 10)))) < IntKind.u64.wrap (v10 * 16))) || (decide (IntKind.u64.wrap ((IntKind.u64.wrap (v10 * 16)) + (IntKind.u64.wrap (w8 ((w8 (t47 - 97)) + 10)))) > 18446744073709551615))) = true := by first | (simp only [h55]; done) | (simp only [h55]; rfl) | rfl | simp [h55]
                        exact J a w ⟨by rw [e]; exact hk.to [1, 8, 9, 10, 11, 12, 17, 99, 100, 101, 159] _ (by kernel_rfl), ho⟩
                      ·
                        rw [h55] at hk
                        have h57 : ¬ (IntKind.u64.wrap ((IntKind.u64.wrap (v10 * 16)) + (IntKind.u64.wrap (w8 ((w8 (t47 - 97)) + 10)))) < IntKind.u64.wrap (v10 * 16)) := of_decide_eq_false h55
                        refine st_pure tabOK hk [4, 5, 6, 7] [] [1, 8, 9, 10, 11, 12, 17, 99, 100, 101, 159] [(1, I 16), (8, .bool false), (9, S p0), (10, .int .u64 1152921504606846976), (11, .int .u64 18446744073709551615), (12, .bool v9), (17, .int .u64 (IntKind.u64.wrap ((IntKind.u64.wrap (v10 * 16)) + (IntKind.u64.wrap (w8 ((w8 (t47 - 97)) + 10)))))), (99, .slice o5 p0.length c6), (100, I (p0.length : Int)), (101, I v11), (159, .bool (decide (IntKind.u64.wrap ((IntKind.u64.wrap (v10 * 16)) + (IntKind.u64.wrap (w8 ((w8 (t47 - 97)) + 10)))) > 18446744073709551615)))] (True) (by kernel_rfl) trivial ?_
                        clear hk; intro a hk
                        refine st_done ?_
                        have e : ((decide (IntKind.u64.wrap ((IntKind.u64.wrap (v10 * 16)) + (IntKind.u64.wrap (w8 ((w8 (t47 - 97)) + 10)))) < IntKind.u64.wrap (v10 * 16))) || (decide (IntKind.u64.wrap ((IntKind.u64.wrap (v10 * 16)) + (IntKind.u64.wrap (w8 ((w8 (t47 - 97)) + 10)))) > 18446744073709551615))) = (decide (IntKind.u64.wrap ((IntKind.u64.wrap (v10 * 16)) + (IntKind.u64.wrap (w8 ((w8 (t47 - 97)) + 10)))) > 18446744073709551615)) := by first | (simp only [h55]; done) | (simp only [h55]; rfl) | rfl | simp [h55]
                        exact J a w ⟨by rw [e]; exact hk.to [1, 8, 9, 10, 11, 12, 17, 99, 100, 101, 159] _ (by kernel_rfl), ho⟩
                    · rintro a w ⟨hk, ho⟩
                      refine st_cond hk (C68 [1, 1, 1, 1, 1, 1, 1, 1, 1, 1, 1, 0, 1, 0, 0, 1, 1, 0, 0, 1, 1, 1, 1, 1, 1, 1, 0, 1, 0]) (C68 [1, 1, 1, 1, 1, 1, 1, 1, 1, 1, 1, 0, 1, 0, 0, 1, 1, 0, 0, 1, 1, 1, 1, 1, 1, 1, 0, 1, 1]) (.tmp 159) (((decide (IntKind.u64.wrap ((IntKind.u64.wrap (v10 * 16)) + (IntKind.u64.wrap (w8 ((w8 (t47 - 97)) + 10)))) < IntKind.u64.wrap (v10 * 16))) || (decide (IntKind.u64.wrap ((IntKind.u64.wrap (v10 * 16)) + (IntKind.u64.wrap (w8 ((w8 (t47 - 97)) + 10)))) > 18446744073709551615)))) (by kernel_rfl) (by kernel_rfl) (fun h58 => ?_) (fun h58 => ?_)
                      ·
                        have h59 : ((decide (IntKind.u64.wrap ((IntKind.u64.wrap (v10 * 16)) + (IntKind.u64.wrap (w8 ((w8 (t47 - 97)) + 10)))) < IntKind.u64.wrap (v10 * 16))) || (decide (IntKind.u64.wrap ((IntKind.u64.wrap (v10 * 16)) + (IntKind.u64.wrap (w8 ((w8 (t47 - 97)) + 10)))) > 18446744073709551615))) = true := h58
                        rw [if_pos h59] at H
                        exact nomatch H
                      ·
                        have h60 : ¬ (((decide (IntKind.u64.wrap ((IntKind.u64.wrap (v10 * 16)) + (IntKind.u64.wrap (w8 ((w8 (t47 - 97)) + 10)))) < IntKind.u64.wrap (v10 * 16))) || (decide (IntKind.u64.wrap ((IntKind.u64.wrap (v10 * 16)) + (IntKind.u64.wrap (w8 ((w8 (t47 - 97)) + 10)))) > 18446744073709551615))) = true) := ne_true_of_eq_false h58
                        rw [if_neg h60] at H
                        refine st_skip (by kernel_rfl) ?_
                        refine st_region 54 (opsOf (C68 [1, 1, 1, 1, 1, 1, 1, 1, 1, 1, 1, 0, 1, 0, 0, 1, 1, 0, 0, 1, 1, 1, 1, 1, 1, 1, 1])) [0, 1] (by kernel_rfl) (by kernel_rfl) ?_
                        refine st_pure tabOK hk [0, 1] [] [1, 8, 9, 10, 11, 12, 13, 99, 100, 101] [(1, I 16), (8, .bool false), (9, S p0), (10, .int .u64 1152921504606846976), (11, .int .u64 18446744073709551615), (12, .bool v9), (13, .int .u64 (IntKind.u64.wrap ((IntKind.u64.wrap (v10 * 16)) + (IntKind.u64.wrap (w8 ((w8 (t47 - 97)) + 10)))))), (99, .slice o5 p0.length c6), (100, I (p0.length : Int)), (101, I v11)] (True) (by kernel_rfl) trivial ?_
                        clear hk; intro a hk
                        refine st_done ?_
                        refine st_endb 4 ?_
                        refine st_region 55 (opsOf (C68 [1, 1, 1, 1, 1, 1, 1, 1, 1, 1, 1, 0, 1, 0, 0, 1, 1, 1])) [0, 1] (by kernel_rfl) (by kernel_rfl) ?_
                        refine st_pure tabOK hk [0, 1] [] [1, 8, 9, 10, 11, 12, 13, 99, 100, 101] [(1, I 16), (8, .bool false), (9, S p0), (10, .int .u64 1152921504606846976), (11, .int .u64 18446744073709551615), (12, .bool v9), (13, .int .u64 (IntKind.u64.wrap ((IntKind.u64.wrap (v10 * 16)) + (IntKind.u64.wrap (w8 ((w8 (t47 - 97)) + 10)))))), (99, .slice o5 p0.length c6), (100, I (p0.length : Int)), (101, I (w64 (v11 + 1)))] (True) (by kernel_rfl) trivial ?_
                        clear hk; intro a hk
                        refine st_done ?_
                        refine st_inl ?_
                        exact ih p0 v9 (IntKind.u64.wrap ((IntKind.u64.wrap (v10 * 16)) + (IntKind.u64.wrap (w8 ((w8 (t47 - 97)) + 10))))) (w64 (v11 + 1)) out H o5 c6 w0 Q rest a w  (hk.to [1, 8, 9, 10, 11, 12, 13, 99, 100, 101] _ (by kernel_rfl)) ho J
              ·
                have h61 : ¬ (m39 = true) := ne_true_of_eq_false h45
                rw [if_neg h61] at H
                exact nomatch H
    ·
      have h62 : ¬ (v11 < (p0.length : Int)) := of_decide_eq_false h12
      rw [if_neg h62] at H
      refine st_exit 3 _ (by kernel_rfl) rfl ?_
      replace ho : Ows [] w0 w [] := ho.erase 0
      obtain rfl := Option.some.inj H
      exact J (v9, v10)  a w rfl (hk.to [9, 12, 13] _ (by kernel_rfl)) ho

theorem strconv_ParseUint_16_64.ok (K : Nat) (p0 : Str) (r : Int) (H : strconv_ParseUint_16_64.f K p0 = some r) (w0 : World)  : Calls Tryz.prog 68 ⟨[S p0, I 16, I 64]⟩ w0 fun e w => ∃ u, e = .returned u ∧ strconv_ParseUint_16_64.post w0 r u w := by
  unfold strconv_ParseUint_16_64.f at H
  refine st_start (N := 172) [S p0, I 16, I 64] (C68 []) func68 (by kernel_rfl) (by kernel_rfl) (by kernel_rfl) ?_
  intro a w hk ho
  refine st_seq (C68 [0]) (C68 [1]) (by kernel_rfl) ?_
  refine st_region 0 (opsOf (C68 [0])) [0, 1] (by kernel_rfl) (by kernel_rfl) ?_
  refine st_pure tabOK hk [0, 1] [] [0, 1, 2] [(0, S p0), (1, I 16), (2, I 64)] (True) (by kernel_rfl) trivial ?_
  clear hk; intro a hk
  refine st_done ?_
  refine st_seq (C68 [1, 0]) (C68 [1, 1]) (by kernel_rfl) ?_
  refine st_seq (C68 [1, 0, 0]) (C68 [1, 0, 1]) (by kernel_rfl) ?_
  refine st_region 1 (opsOf (C68 [1, 0, 0])) [0, 1] (by kernel_rfl) (by kernel_rfl) ?_
  refine st_pure tabOK hk [0, 1] [] [0, 1, 2, 19] [(0, S p0), (1, I 16), (2, I 64), (19, .bool (p0 == ([])))] (True) (by kernel_rfl) trivial ?_
  clear hk; intro a hk
  refine st_done ?_
  refine st_cond hk (C68 [1, 0, 1, 0]) (C68 [1, 0, 1, 1]) (.tmp 19) (p0 == ([])) (by kernel_rfl) (by kernel_rfl) (fun h1 => ?_) (fun h1 => ?_)
  ·
    have h2 : (p0 == ([])) = true := h1
    rw [if_pos h2] at H
    exact nomatch H
  ·
    have h3 : ¬ ((p0 == ([])) = true) := ne_true_of_eq_false h1
    rw [if_neg h3] at H
    refine st_skip (by kernel_rfl) ?_
    refine st_seq (C68 [1, 1, 0]) (C68 [1, 1, 1]) (by kernel_rfl) ?_
    refine st_region 3 (opsOf (C68 [1, 1, 0])) [0, 1, 2] (by kernel_rfl) (by kernel_rfl) ?_
    refine st_pure tabOK hk [0, 1, 2] [] [0, 1, 2, 8] [(0, S p0), (1, I 16), (2, I 64), (8, .bool false)] (True) (by kernel_rfl) trivial ?_
    clear hk; intro a hk
    refine st_done ?_
    refine st_seq (C68 [1, 1, 1, 0]) (C68 [1, 1, 1, 1]) (by kernel_rfl) ?_
    refine st_region 4 (opsOf (C68 [1, 1, 1, 0])) [0, 1] (by kernel_rfl) (by kernel_rfl) ?_
    refine st_pure tabOK hk [0, 1] [] [0, 1, 2, 8, 9] [(0, S p0), (1, I 16), (2, I 64), (8, .bool false), (9, S p0)] (True) (by kernel_rfl) trivial ?_
    clear hk; intro a hk
    refine st_done ?_
    refine st_seq (C68 [1, 1, 1, 1, 0]) (C68 [1, 1, 1, 1, 1]) (by kernel_rfl) ?_
    refine st_block 0 (C68 [1, 1, 1, 1, 0, 0]) (by kernel_rfl) ?_
    refine st_seq (C68 [1, 1, 1, 1, 0, 0, 0]) (C68 [1, 1, 1, 1, 0, 0, 1]) (by kernel_rfl) ?_
    refine st_region 6 (opsOf (C68 [1, 1, 1, 1, 0, 0, 0])) [0, 1, 2, 3, 4, 5, 6] (by kernel_rfl) (by kernel_rfl) ?_
    refine st_pure tabOK hk [0, 1, 2, 3, 4, 5, 6] [] [0, 1, 2, 8, 9, 25] [(0, S p0), (1, I 16), (2, I 64), (8, .bool false), (9, S p0), (25, .bool true)] (True) (by kernel_rfl) trivial ?_
    clear hk; intro a hk
    refine st_done ?_
    refine st_cond_true hk (C68 [1, 1, 1, 1, 0, 0, 1, 0]) (C68 [1, 1, 1, 1, 0, 0, 1, 1]) (.tmp 25) (by kernel_rfl) (by kernel_rfl) ?_
    refine st_skip (by kernel_rfl) ?_
    refine st_endb 0 ?_
    refine st_seq (C68 [1, 1, 1, 1, 1, 0]) (C68 [1, 1, 1, 1, 1, 1]) (by kernel_rfl) ?_
    refine st_seq (C68 [1, 1, 1, 1, 1, 0, 0]) (C68 [1, 1, 1, 1, 1, 0, 1]) (by kernel_rfl) ?_
    refine st_region 21 (opsOf (C68 [1, 1, 1, 1, 1, 0, 0])) [0, 1] (by kernel_rfl) (by kernel_rfl) ?_
    refine st_pure tabOK hk [0, 1] [] [0, 1, 2, 8, 9, 77] [(0, S p0), (1, I 16), (2, I 64), (8, .bool false), (9, S p0), (77, .bool false)] (True) (by kernel_rfl) trivial ?_
    clear hk; intro a hk
    refine st_done ?_
    refine st_cond_false hk (C68 [1, 1, 1, 1, 1, 0, 1, 0]) (C68 [1, 1, 1, 1, 1, 0, 1, 1]) (.tmp 77) (by kernel_rfl) (by kernel_rfl) ?_
    refine st_seq (C68 [1, 1, 1, 1, 1, 0, 1, 1, 0]) (C68 [1, 1, 1, 1, 1, 0, 1, 1, 1]) (by kernel_rfl) ?_
    refine st_region 23 (opsOf (C68 [1, 1, 1, 1, 1, 0, 1, 1, 0])) [0, 1, 2, 3, 4, 5] (by kernel_rfl) (by kernel_rfl) ?_
    refine st_pure tabOK hk [0, 1, 2, 3, 4, 5] [] [0, 1, 2, 8, 9, 83] [(0, S p0), (1, I 16), (2, I 64), (8, .bool false), (9, S p0), (83, .bool false)] (True) (by kernel_rfl) trivial ?_
    clear hk; intro a hk
    refine st_done ?_
    refine st_cond_false hk (C68 [1, 1, 1, 1, 1, 0, 1, 1, 1, 0]) (C68 [1, 1, 1, 1, 1, 0, 1, 1, 1, 1]) (.tmp 83) (by kernel_rfl) (by kernel_rfl) ?_
    refine st_skip (by kernel_rfl) ?_
    refine st_seq (C68 [1, 1, 1, 1, 1, 1, 0]) (C68 [1, 1, 1, 1, 1, 1, 1]) (by kernel_rfl) ?_
    refine st_region 25 (opsOf (C68 [1, 1, 1, 1, 1, 1, 0])) [0] (by kernel_rfl) (by kernel_rfl) ?_
    refine st_pure tabOK hk [0] [] [0, 1, 2, 8, 9] [(0, S p0), (1, I 16), (2, I 64), (8, .bool false), (9, S p0)] (True) (by kernel_rfl) trivial ?_
    clear hk; intro a hk
    refine st_done ?_
    refine st_seq (C68 [1, 1, 1, 1, 1, 1, 1, 0]) (C68 [1, 1, 1, 1, 1, 1, 1, 1]) (by kernel_rfl) ?_
    refine st_seq (C68 [1, 1, 1, 1, 1, 1, 1, 0, 0]) (C68 [1, 1, 1, 1, 1, 1, 1, 0, 1]) (by kernel_rfl) ?_
    refine st_region 26 (opsOf (C68 [1, 1, 1, 1, 1, 1, 1, 0, 0])) [0] (by kernel_rfl) (by kernel_rfl) ?_
    refine st_pure tabOK hk [0] [] [0, 1, 2, 8, 9, 85] [(0, S p0), (1, I 16), (2, I 64), (8, .bool false), (9, S p0), (85, I 16)] (True) (by kernel_rfl) trivial ?_
    clear hk; intro a hk
    refine st_done ?_
    refine st_block 2 (C68 [1, 1, 1, 1, 1, 1, 1, 0, 1, 0]) (by kernel_rfl) ?_
    refine st_seq (C68 [1, 1, 1, 1, 1, 1, 1, 0, 1, 0, 0]) (C68 [1, 1, 1, 1, 1, 1, 1, 0, 1, 0, 1]) (by kernel_rfl) ?_
    refine st_region 28 (opsOf (C68 [1, 1, 1, 1, 1, 1, 1, 0, 1, 0, 0])) [0, 1] (by kernel_rfl) (by kernel_rfl) ?_
    refine st_pure tabOK hk [0, 1] [] [0, 1, 2, 8, 9, 85, 90] [(0, S p0), (1, I 16), (2, I 64), (8, .bool false), (9, S p0), (85, I 16), (90, .bool false)] (True) (by kernel_rfl) trivial ?_
    clear hk; intro a hk
    refine st_done ?_
    refine st_cond_false hk (C68 [1, 1, 1, 1, 1, 1, 1, 0, 1, 0, 1, 0]) (C68 [1, 1, 1, 1, 1, 1, 1, 0, 1, 0, 1, 1]) (.tmp 90) (by kernel_rfl) (by kernel_rfl) ?_
    refine st_seq (C68 [1, 1, 1, 1, 1, 1, 1, 0, 1, 0, 1, 1, 0]) (C68 [1, 1, 1, 1, 1, 1, 1, 0, 1, 0, 1, 1, 1]) (by kernel_rfl) ?_
    refine st_region 30 (opsOf (C68 [1, 1, 1, 1, 1, 1, 1, 0, 1, 0, 1, 1, 0])) [0, 1] (by kernel_rfl) (by kernel_rfl) ?_
    refine st_pure tabOK hk [0, 1] [] [0, 1, 2, 8, 9, 92] [(0, S p0), (1, I 16), (2, I 64), (8, .bool false), (9, S p0), (92, .bool true)] (True) (by kernel_rfl) trivial ?_
    clear hk; intro a hk
    refine st_done ?_
    refine st_cond_true hk (C68 [1, 1, 1, 1, 1, 1, 1, 0, 1, 0, 1, 1, 1, 0]) (C68 [1, 1, 1, 1, 1, 1, 1, 0, 1, 0, 1, 1, 1, 1]) (.tmp 92) (by kernel_rfl) (by kernel_rfl) ?_
    refine st_region 31 (opsOf (C68 [1, 1, 1, 1, 1, 1, 1, 0, 1, 0, 1, 1, 1, 0])) [0] (by kernel_rfl) (by kernel_rfl) ?_
    refine st_pure tabOK hk [0] [] [0, 1, 2, 8, 9, 10] [(0, S p0), (1, I 16), (2, I 64), (8, .bool false), (9, S p0), (10, .int .u64 1152921504606846976)] (True) (by kernel_rfl) trivial ?_
    clear hk; intro a hk
    refine st_done ?_
    refine st_endb 2 ?_
    refine st_seq (C68 [1, 1, 1, 1, 1, 1, 1, 1, 0]) (C68 [1, 1, 1, 1, 1, 1, 1, 1, 1]) (by kernel_rfl) ?_
    refine st_region 32 (opsOf (C68 [1, 1, 1, 1, 1, 1, 1, 1, 0])) [0, 1, 2, 3, 4] (by kernel_rfl) (by kernel_rfl) ?_
    refine st_pure tabOK hk [0, 1, 2, 3, 4] [] [0, 1, 8, 9, 10, 11] [(0, S p0), (1, I 16), (8, .bool false), (9, S p0), (10, .int .u64 1152921504606846976), (11, .int .u64 18446744073709551615)] ((0 : Int) ≤ 64 ∧ True) (by kernel_rfl) ⟨(by decide), trivial⟩ ?_
    clear hk; intro a hk
    refine st_done ?_
    refine st_seq (C68 [1, 1, 1, 1, 1, 1, 1, 1, 1, 0]) (C68 [1, 1, 1, 1, 1, 1, 1, 1, 1, 1]) (by kernel_rfl) ?_
    refine st_region 33 (opsOf (C68 [1, 1, 1, 1, 1, 1, 1, 1, 1, 0])) [0] (by kernel_rfl) (by kernel_rfl) ?_
    refine st_pure tabOK hk [0] [] [0, 1, 8, 9, 10, 11, 12] [(0, S p0), (1, I 16), (8, .bool false), (9, S p0), (10, .int .u64 1152921504606846976), (11, .int .u64 18446744073709551615), (12, .bool false)] (True) (by kernel_rfl) trivial ?_
    clear hk; intro a hk
    refine st_done ?_
    refine st_seq (C68 [1, 1, 1, 1, 1, 1, 1, 1, 1, 1, 0]) (C68 [1, 1, 1, 1, 1, 1, 1, 1, 1, 1, 1]) (by kernel_rfl) ?_
    refine st_region 34 (opsOf (C68 [1, 1, 1, 1, 1, 1, 1, 1, 1, 1, 0])) [0] (by kernel_rfl) (by kernel_rfl) ?_
    refine st_pure tabOK hk [0] [] [0, 1, 8, 9, 10, 11, 12, 13] [(0, S p0), (1, I 16), (8, .bool false), (9, S p0), (10, .int .u64 1152921504606846976), (11, .int .u64 18446744073709551615), (12, .bool false), (13, .int .u64 0)] (True) (by kernel_rfl) trivial ?_
    clear hk; intro a hk
    refine st_done ?_
    refine st_seq (C68 [1, 1, 1, 1, 1, 1, 1, 1, 1, 1, 1, 0]) (C68 [1, 1, 1, 1, 1, 1, 1, 1, 1, 1, 1, 1]) (by kernel_rfl) ?_
    refine st_seq (C68 [1, 1, 1, 1, 1, 1, 1, 1, 1, 1, 1, 0, 0]) (C68 [1, 1, 1, 1, 1, 1, 1, 1, 1, 1, 1, 0, 1]) (by kernel_rfl) ?_
    refine st_region 35 (opsOf (C68 [1, 1, 1, 1, 1, 1, 1, 1, 1, 1, 1, 0, 0])) [0, 1, 2, 3] (by kernel_rfl) (by kernel_rfl) ?_
    refine st_pure tabOK hk [0] [1, 2, 3] [1, 8, 9, 10, 11, 12, 13, 98] [(1, I 16), (8, .bool false), (9, S p0), (10, .int .u64 1152921504606846976), (11, .int .u64 18446744073709551615), (12, .bool false), (13, .int .u64 0), (98, S p0)] (True) (by kernel_rfl) trivial ?_
    clear hk; intro a hk
    have h4 : p0.length ≤ 4294967296 := by
      by_cases h4 : p0.length ≤ 4294967296
      · exact h4
      · rw [if_neg h4] at H; cases H
    rw [if_pos h4] at H
    refine st_bytes tabOK hk ho 9 30 5 99 p0 (by kernel_rfl) (by kernel_rfl) (by kernel_rfl) (by kernel_rfl) h4 ?_
    clear hk ho; intro a o5 c6 w h7 hk ho
    refine st_pure tabOK hk [2, 3] [] [1, 8, 9, 10, 11, 12, 13, 99, 100, 101] [(1, I 16), (8, .bool false), (9, S p0), (10, .int .u64 1152921504606846976), (11, .int .u64 18446744073709551615), (12, .bool false), (13, .int .u64 0), (99, .slice o5 p0.length c6), (100, I (p0.length : Int)), (101, I 0)] (True) (by kernel_rfl) trivial ?_
    clear hk; intro a hk
    refine st_done ?_
    refine st_block 3 (C68 [1, 1, 1, 1, 1, 1, 1, 1, 1, 1, 1, 0, 1, 0]) (by kernel_rfl) ?_
    obtain ⟨m63, h64, H⟩ := Option.bind_eq_some_iff.1 H
    refine st_loop (C68 [1, 1, 1, 1, 1, 1, 1, 1, 1, 1, 1, 0, 1, 0, 0]) (by kernel_rfl) ?_
    refine strconv_ParseUint_16_64.l0_ok K p0 false 0 0 m63 h64 o5 c6 w0 _ _ a w  (hk.to [1, 8, 9, 10, 11, 12, 13, 99, 100, 101] _ (by kernel_rfl)) ho ?_
    · intro s65  a w e hk ho; have e := e.symm; subst e
      refine st_seq (C68 [1, 1, 1, 1, 1, 1, 1, 1, 1, 1, 1, 1, 0]) (C68 [1, 1, 1, 1, 1, 1, 1, 1, 1, 1, 1, 1, 1]) (by kernel_rfl) ?_
      refine st_seq (C68 [1, 1, 1, 1, 1, 1, 1, 1, 1, 1, 1, 1, 0, 0]) (C68 [1, 1, 1, 1, 1, 1, 1, 1, 1, 1, 1, 1, 0, 1]) (by kernel_rfl) ?_
      refine st_region 56 (opsOf (C68 [1, 1, 1, 1, 1, 1, 1, 1, 1, 1, 1, 1, 0, 0])) [0, 1, 2, 3, 4, 5] (by kernel_rfl) (by kernel_rfl) ?_
      refine st_pure tabOK hk [0, 1] [2, 3, 4, 5] [9, 13, 165] [(9, S p0), (13, .int .u64 s65.2), (165, .bool s65.1)] (True) (by kernel_rfl) trivial ?_
      clear hk; intro a hk
      obtain ⟨m66, HX, H⟩ := Option.bind_eq_some_iff.1 H
      refine cut_ops (fun a w => Kn 172 a [(13, .int .u64 s65.2), (169, .bool m66)] ∧ Ows [] w0 w []) ?_ ?_
      · intro J; clear H; have H := HX; clear HX
        rcases Bool.eq_false_or_eq_true (s65.1) with h67 | h67
        ·
          rw [h67] at hk
          have h68 : s65.1 = true := h67
          rw [if_pos h68] at H
          refine st_pure tabOK hk [2] [3, 4, 5] [13, 165, 166] [(13, .int .u64 s65.2), (165, .bool true), (166, S p0)] (True) (by kernel_rfl) trivial ?_
          clear hk; intro a hk
          obtain ⟨t69, h70, H⟩ := Option.bind_eq_some_iff.1 H
          refine st_call hk 91 [S p0] (some 167) enters91 (by kernel_rfl) (strconv_underscoreOK.ok K  p0 t69 h70 w ) ?_
          clear hk; rintro a u w ⟨rfl, ho'⟩ hk
          replace ho : Ows [] w0 w [] := ho.call ho'; clear ho'
          refine st_pure tabOK hk [4, 5] [] [13, 169] [(13, .int .u64 s65.2), (169, .bool (!t69))] (True) (by kernel_rfl) trivial ?_
          clear hk; intro a hk
          refine st_done ?_
          obtain rfl := Option.some.inj H
          exact J a w ⟨hk.to [13, 169] _ (by kernel_rfl), ho⟩
        ·
          rw [h67] at hk
          have h71 : ¬ (s65.1 = true) := ne_true_of_eq_false h67
          rw [if_neg h71] at H
          refine st_pure tabOK hk [2, 3, 4, 5] [] [13, 169] [(13, .int .u64 s65.2), (169, .bool false)] (True) (by kernel_rfl) trivial ?_
          clear hk; intro a hk
          refine st_done ?_
          obtain rfl := Option.some.inj H
          exact J a w ⟨hk.to [13, 169] _ (by kernel_rfl), ho⟩
      · clear HX; rintro a w ⟨hk, ho⟩
        refine st_cond hk (C68 [1, 1, 1, 1, 1, 1, 1, 1, 1, 1, 1, 1, 0, 1, 0]) (C68 [1, 1, 1, 1, 1, 1, 1, 1, 1, 1, 1, 1, 0, 1, 1]) (.tmp 169) (m66) (by kernel_rfl) (by kernel_rfl) (fun h72 => ?_) (fun h72 => ?_)
        ·
          have h73 : m66 = true := h72
          rw [if_pos h73] at H
          exact nomatch H
        ·
          have h74 : ¬ (m66 = true) := ne_true_of_eq_false h72
          rw [if_neg h74] at H
          refine st_skip (by kernel_rfl) ?_
          refine st_seq (C68 [1, 1, 1, 1, 1, 1, 1, 1, 1, 1, 1, 1, 1, 0]) (C68 [1, 1, 1, 1, 1, 1, 1, 1, 1, 1, 1, 1, 1, 1]) (by kernel_rfl) ?_
          refine st_region 58 (opsOf (C68 [1, 1, 1, 1, 1, 1, 1, 1, 1, 1, 1, 1, 1, 0])) [0, 1, 2] (by kernel_rfl) (by kernel_rfl) ?_
          refine st_pure tabOK hk [0, 1, 2] [] [6, 7] [(6, .int .u64 s65.2), (7, .nilIface)] (True) (by kernel_rfl) trivial ?_
          clear hk; intro a hk
          refine st_done ?_
          refine st_retG hk (by kernel_rfl) [.int .u64 s65.2, .nilIface] #[.tmp 6, .tmp 7] (by kernel_rfl) ⟨resT hk (by kernel_rfl), resT hk (by kernel_rfl), trivial⟩ ?_
          obtain rfl := Option.some.inj H
          exact ⟨_, rfl, rfl, ho⟩


/-! internal/strconv.ParseInt: function 47 -/
noncomputable def C47 (p : List Nat) : Code := Sub (bodyOf f47) p
def strconv_ParseInt_n47_16_64.f (K : Nat) (p0 : Str) : Option (Int) := (if (p0 == ([])) = true then none else (if 0 < (p0.length : Int) then (((if ((bt p0 0) == 43) = true then (if 1 ≤ (p0.length : Int) then some (p0.drop 1, false) else none) else (if ((bt p0 0) == 45) = true then (if 1 ≤ (p0.length : Int) then some (p0.drop 1, true) else none) else some (p0, false)))).bind fun m5 => ((strconv_ParseUint_16_64.f K m5.1).bind fun t14 => (if ((!m5.2) && (decide (t14 ≥ 9223372036854775808))) = true then none else (((if m5.2 = true then some (true, decide (t14 > 9223372036854775808)) else some (false, false))).bind fun m22 => (if m22.2 = true then none else (((if m22.1 = true then some (w64 (0 - w64 (t14))) else some (w64 (t14)))).bind fun m29 => some m29)))))) else none))
abbrev strconv_ParseInt_n47_16_64.post (w0 : World) (r : Int) (u : Value) (w : World) : Prop := u = .tuple #[I r, .nilIface] ∧ Ows [] w0 w []
theorem strconv_ParseInt_n47_16_64.ok (K : Nat) (p0 : Str) (r : Int) (H : strconv_ParseInt_n47_16_64.f K p0 = some r) (w0 : World)  : Calls Tryz.prog 47 ⟨[S p0, I 16, I 64]⟩ w0 fun e w => ∃ u, e = .returned u ∧ strconv_ParseInt_n47_16_64.post w0 r u w := by
  unfold strconv_ParseInt_n47_16_64.f at H
  refine st_start (N := 73) [S p0, I 16, I 64] (C47 []) func47 (by kernel_rfl) (by kernel_rfl) (by kernel_rfl) ?_
  intro a w hk ho
  refine st_seq (C47 [0]) (C47 [1]) (by kernel_rfl) ?_
  refine st_region 0 (opsOf (C47 [0])) [0, 1] (by kernel_rfl) (by kernel_rfl) ?_
  refine st_pure tabOK hk [0, 1] [] [0, 1, 2] [(0, S p0), (1, I 16), (2, I 64)] (True) (by kernel_rfl) trivial ?_
  clear hk; intro a hk
  refine st_done ?_
  refine st_seq (C47 [1, 0]) (C47 [1, 1]) (by kernel_rfl) ?_
  refine st_seq (C47 [1, 0, 0]) (C47 [1, 0, 1]) (by kernel_rfl) ?_
  refine st_region 1 (opsOf (C47 [1, 0, 0])) [0, 1] (by kernel_rfl) (by kernel_rfl) ?_
  refine st_pure tabOK hk [0, 1] [] [0, 1, 2, 13] [(0, S p0), (1, I 16), (2, I 64), (13, .bool (p0 == ([])))] (True) (by kernel_rfl) trivial ?_
  clear hk; intro a hk
  refine st_done ?_
  refine st_cond hk (C47 [1, 0, 1, 0]) (C47 [1, 0, 1, 1]) (.tmp 13) (p0 == ([])) (by kernel_rfl) (by kernel_rfl) (fun h1 => ?_) (fun h1 => ?_)
  ·
    have h2 : (p0 == ([])) = true := h1
    rw [if_pos h2] at H
    exact nomatch H
  ·
    have h3 : ¬ ((p0 == ([])) = true) := ne_true_of_eq_false h1
    rw [if_neg h3] at H
    refine st_skip (by kernel_rfl) ?_
    refine st_seq (C47 [1, 1, 0]) (C47 [1, 1, 1]) (by kernel_rfl) ?_
    refine st_region 3 (opsOf (C47 [1, 1, 0])) [0] (by kernel_rfl) (by kernel_rfl) ?_
    refine st_pure tabOK hk [0] [] [0, 1, 2, 8] [(0, S p0), (1, I 16), (2, I 64), (8, .bool false)] (True) (by kernel_rfl) trivial ?_
    clear hk; intro a hk
    refine st_done ?_
    refine st_seq (C47 [1, 1, 1, 0]) (C47 [1, 1, 1, 1]) (by kernel_rfl) ?_
    refine st_seq (C47 [1, 1, 1, 0, 0]) (C47 [1, 1, 1, 0, 1]) (by kernel_rfl) ?_
    refine st_region 4 (opsOf (C47 [1, 1, 1, 0, 0])) [0, 1] (by kernel_rfl) (by kernel_rfl) ?_
    have h4 : 0 < (p0.length : Int) := by
      by_cases h4 : 0 < (p0.length : Int)
      · exact h4
      · rw [if_neg h4] at H; cases H
    rw [if_pos h4] at H
    refine st_pure tabOK hk [0, 1] [] [0, 1, 2, 8, 16] [(0, S p0), (1, I 16), (2, I 64), (8, .bool false), (16, .int .u8 (bt p0 0))] (((0 : Int) ≤ 0 ∧ 0 < (p0.length : Int)) ∧ True) (by kernel_rfl) ⟨⟨(by decide), h4⟩, trivial⟩ ?_
    clear hk; intro a hk
    refine st_done ?_
    refine st_block 0 (C47 [1, 1, 1, 0, 1, 0]) (by kernel_rfl) ?_
    refine st_seq (C47 [1, 1, 1, 0, 1, 0, 0]) (C47 [1, 1, 1, 0, 1, 0, 1]) (by kernel_rfl) ?_
    refine st_region 5 (opsOf (C47 [1, 1, 1, 0, 1, 0, 0])) [0, 1] (by kernel_rfl) (by kernel_rfl) ?_
    refine st_pure tabOK hk [0, 1] [] [0, 1, 2, 8, 16, 17] [(0, S p0), (1, I 16), (2, I 64), (8, .bool false), (16, .int .u8 (bt p0 0)), (17, .bool ((bt p0 0) == 43))] (True) (by kernel_rfl) trivial ?_
    clear hk; intro a hk
    refine st_done ?_
    obtain ⟨m5, HX, H⟩ := Option.bind_eq_some_iff.1 H
    refine cut_code (fun a w => Kn 73 a [(0, S m5.1), (1, I 16), (2, I 64), (8, .bool m5.2)] ∧ Ows [] w0 w []) ?_ ?_
    · intro J; clear H; have H := HX; clear HX
      refine st_cond hk (C47 [1, 1, 1, 0, 1, 0, 1, 0]) (C47 [1, 1, 1, 0, 1, 0, 1, 1]) (.tmp 17) ((bt p0 0) == 43) (by kernel_rfl) (by kernel_rfl) (fun h6 => ?_) (fun h6 => ?_)
      ·
        have h7 : ((bt p0 0) == 43) = true := h6
        rw [if_pos h7] at H
        refine st_region 6 (opsOf (C47 [1, 1, 1, 0, 1, 0, 1, 0])) [0, 1, 2] (by kernel_rfl) (by kernel_rfl) ?_
        have h8 : 1 ≤ (p0.length : Int) := by
          by_cases h8 : 1 ≤ (p0.length : Int)
          · exact h8
          · rw [if_neg h8] at H; cases H
        rw [if_pos h8] at H
        refine st_pure tabOK hk [0, 1, 2] [] [0, 1, 2, 8] [(0, S (p0.drop 1)), (1, I 16), (2, I 64), (8, .bool false)] (((0 : Int) ≤ 1 ∧ 1 ≤ (p0.length : Int)) ∧ True) (by kernel_rfl) ⟨⟨(by decide), h8⟩, trivial⟩ ?_
        clear hk; intro a hk
        refine st_done ?_
        obtain rfl := Option.some.inj H
        exact J a w ⟨hk.to [0, 1, 2, 8] _ (by kernel_rfl), ho⟩
      ·
        have h9 : ¬ (((bt p0 0) == 43) = true) := ne_true_of_eq_false h6
        rw [if_neg h9] at H
        refine st_seq (C47 [1, 1, 1, 0, 1, 0, 1, 1, 0]) (C47 [1, 1, 1, 0, 1, 0, 1, 1, 1]) (by kernel_rfl) ?_
        refine st_region 7 (opsOf (C47 [1, 1, 1, 0, 1, 0, 1, 1, 0])) [0, 1] (by kernel_rfl) (by kernel_rfl) ?_
        refine st_pure tabOK hk [0, 1] [] [0, 1, 2, 8, 21] [(0, S p0), (1, I 16), (2, I 64), (8, .bool false), (21, .bool ((bt p0 0) == 45))] (True) (by kernel_rfl) trivial ?_
        clear hk; intro a hk
        refine st_done ?_
        refine st_cond hk (C47 [1, 1, 1, 0, 1, 0, 1, 1, 1, 0]) (C47 [1, 1, 1, 0, 1, 0, 1, 1, 1, 1]) (.tmp 21) ((bt p0 0) == 45) (by kernel_rfl) (by kernel_rfl) (fun h10 => ?_) (fun h10 => ?_)
        ·
          have h11 : ((bt p0 0) == 45) = true := h10
          rw [if_pos h11] at H
          refine st_seq (C47 [1, 1, 1, 0, 1, 0, 1, 1, 1, 0, 0]) (C47 [1, 1, 1, 0, 1, 0, 1, 1, 1, 0, 1]) (by kernel_rfl) ?_
          refine st_region 8 (opsOf (C47 [1, 1, 1, 0, 1, 0, 1, 1, 1, 0, 0])) [0, 1, 2] (by kernel_rfl) (by kernel_rfl) ?_
          have h12 : 1 ≤ (p0.length : Int) := by
            by_cases h12 : 1 ≤ (p0.length : Int)
            · exact h12
            · rw [if_neg h12] at H; cases H
          rw [if_pos h12] at H
          refine st_pure tabOK hk [0, 1, 2] [] [0, 1, 2] [(0, S (p0.drop 1)), (1, I 16), (2, I 64)] (((0 : Int) ≤ 1 ∧ 1 ≤ (p0.length : Int)) ∧ True) (by kernel_rfl) ⟨⟨(by decide), h12⟩, trivial⟩ ?_
          clear hk; intro a hk
          refine st_done ?_
          refine st_region 9 (opsOf (C47 [1, 1, 1, 0, 1, 0, 1, 1, 1, 0, 1])) [0] (by kernel_rfl) (by kernel_rfl) ?_
          refine st_pure tabOK hk [0] [] [0, 1, 2, 8] [(0, S (p0.drop 1)), (1, I 16), (2, I 64), (8, .bool true)] (True) (by kernel_rfl) trivial ?_
          clear hk; intro a hk
          refine st_done ?_
          obtain rfl := Option.some.inj H
          exact J a w ⟨hk.to [0, 1, 2, 8] _ (by kernel_rfl), ho⟩
        ·
          have h13 : ¬ (((bt p0 0) == 45) = true) := ne_true_of_eq_false h10
          rw [if_neg h13] at H
          refine st_skip (by kernel_rfl) ?_
          obtain rfl := Option.some.inj H
          exact J a w ⟨hk.to [0, 1, 2, 8] _ (by kernel_rfl), ho⟩
    · clear HX; rintro a w ⟨hk, ho⟩
      refine st_endb 0 ?_
      refine st_seq (C47 [1, 1, 1, 1, 0]) (C47 [1, 1, 1, 1, 1]) (by kernel_rfl) ?_
      refine st_region 10 (opsOf (C47 [1, 1, 1, 1, 0])) [0] (by kernel_rfl) (by kernel_rfl) ?_
      refine st_pure tabOK hk [0] [] [0, 1, 2, 8] [(0, S m5.1), (1, I 16), (2, I 64), (8, .bool m5.2)] (True) (by kernel_rfl) trivial ?_
      clear hk; intro a hk
      refine st_done ?_
      refine st_seq (C47 [1, 1, 1, 1, 1, 0]) (C47 [1, 1, 1, 1, 1, 1]) (by kernel_rfl) ?_
      refine st_region 11 (opsOf (C47 [1, 1, 1, 1, 1, 0])) [0, 1, 2, 3, 4, 5, 6, 7, 8] (by kernel_rfl) (by kernel_rfl) ?_
      refine st_pure tabOK hk [0, 1, 2] [3, 4, 5, 6, 7, 8] [2, 8, 26, 27, 28] [(2, I 64), (8, .bool m5.2), (26, S m5.1), (27, I 16), (28, I 64)] (True) (by kernel_rfl) trivial ?_
      clear hk; intro a hk
      obtain ⟨t14, h15, H⟩ := Option.bind_eq_some_iff.1 H
      refine st_call hk 68 [S m5.1, I 16, I 64] (some 29) enters68 (by kernel_rfl) (strconv_ParseUint_16_64.ok K  m5.1 t14 h15 w ) ?_
      clear hk; rintro a u w ⟨rfl, ho'⟩ hk
      replace ho : Ows [] w0 w [] := ho.call ho'; clear ho'
      refine st_pure tabOK hk [4, 5, 6, 7, 8] [] [2, 7, 8, 9] [(2, I 64), (7, .nilIface), (8, .bool m5.2), (9, .int .u64 t14)] (True) (by kernel_rfl) trivial ?_
      clear hk; intro a hk
      refine st_done ?_
      refine st_seq (C47 [1, 1, 1, 1, 1, 1, 0]) (C47 [1, 1, 1, 1, 1, 1, 1]) (by kernel_rfl) ?_
      refine st_seq (C47 [1, 1, 1, 1, 1, 1, 0, 0]) (C47 [1, 1, 1, 1, 1, 1, 0, 1]) (by kernel_rfl) ?_
      refine st_region 12 (opsOf (C47 [1, 1, 1, 1, 1, 1, 0, 0])) [0, 1, 2, 3, 4, 5, 6] (by kernel_rfl) (by kernel_rfl) ?_
      refine st_pure tabOK hk [0, 1, 2, 3, 4, 5, 6] [] [2, 7, 8, 9, 38] [(2, I 64), (7, .nilIface), (8, .bool m5.2), (9, .int .u64 t14), (38, .bool false)] (True) (by kernel_rfl) trivial ?_
      clear hk; intro a hk
      refine st_done ?_
      refine st_cond_false hk (C47 [1, 1, 1, 1, 1, 1, 0, 1, 0]) (C47 [1, 1, 1, 1, 1, 1, 0, 1, 1]) (.tmp 38) (by kernel_rfl) (by kernel_rfl) ?_
      refine st_skip (by kernel_rfl) ?_
      refine st_seq (C47 [1, 1, 1, 1, 1, 1, 1, 0]) (C47 [1, 1, 1, 1, 1, 1, 1, 1]) (by kernel_rfl) ?_
      refine st_seq (C47 [1, 1, 1, 1, 1, 1, 1, 0, 0]) (C47 [1, 1, 1, 1, 1, 1, 1, 0, 1]) (by kernel_rfl) ?_
      refine st_region 14 (opsOf (C47 [1, 1, 1, 1, 1, 1, 1, 0, 0])) [0, 1] (by kernel_rfl) (by kernel_rfl) ?_
      refine st_pure tabOK hk [0, 1] [] [2, 8, 9, 41] [(2, I 64), (8, .bool m5.2), (9, .int .u64 t14), (41, .bool false)] (True) (by kernel_rfl) trivial ?_
      clear hk; intro a hk
      refine st_done ?_
      refine st_cond_false hk (C47 [1, 1, 1, 1, 1, 1, 1, 0, 1, 0]) (C47 [1, 1, 1, 1, 1, 1, 1, 0, 1, 1]) (.tmp 41) (by kernel_rfl) (by kernel_rfl) ?_
      refine st_skip (by kernel_rfl) ?_
      refine st_seq (C47 [1, 1, 1, 1, 1, 1, 1, 1, 0]) (C47 [1, 1, 1, 1, 1, 1, 1, 1, 1]) (by kernel_rfl) ?_
      refine st_region 16 (opsOf (C47 [1, 1, 1, 1, 1, 1, 1, 1, 0])) [0, 1, 2, 3, 4] (by kernel_rfl) (by kernel_rfl) ?_
      refine st_pure tabOK hk [0, 1, 2, 3, 4] [] [8, 9, 10] [(8, .bool m5.2), (9, .int .u64 t14), (10, .int .u64 9223372036854775808)] ((0 : Int) ≤ 63 ∧ True) (by kernel_rfl) ⟨(by decide), trivial⟩ ?_
      clear hk; intro a hk
      refine st_done ?_
      refine st_seq (C47 [1, 1, 1, 1, 1, 1, 1, 1, 1, 0]) (C47 [1, 1, 1, 1, 1, 1, 1, 1, 1, 1]) (by kernel_rfl) ?_
      refine st_seq (C47 [1, 1, 1, 1, 1, 1, 1, 1, 1, 0, 0]) (C47 [1, 1, 1, 1, 1, 1, 1, 1, 1, 0, 1]) (by kernel_rfl) ?_
      refine st_region 17 (opsOf (C47 [1, 1, 1, 1, 1, 1, 1, 1, 1, 0, 0])) [0, 1, 2, 3, 4, 5, 6] (by kernel_rfl) (by kernel_rfl) ?_
      refine st_pure tabOK hk [0, 1, 2] [3, 4, 5, 6] [8, 9, 10, 48] [(8, .bool m5.2), (9, .int .u64 t14), (10, .int .u64 9223372036854775808), (48, .bool (!m5.2))] (True) (by kernel_rfl) trivial ?_
      clear hk; intro a hk
      refine cut_ops (fun a w => Kn 73 a [(8, .bool m5.2), (9, .int .u64 t14), (10, .int .u64 9223372036854775808), (52, .bool ((!m5.2) && (decide (t14 ≥ 9223372036854775808))))] ∧ Ows [] w0 w []) ?_ ?_
      · intro J
        rcases Bool.eq_false_or_eq_true (!m5.2) with h16 | h16
        ·
          rw [h16] at hk
          have h17 : (!m5.2) = true := h16
          refine st_pure tabOK hk [3, 4, 5, 6] [] [8, 9, 10, 52] [(8, .bool m5.2), (9, .int .u64 t14), (10, .int .u64 9223372036854775808), (52, .bool (decide (t14 ≥ 9223372036854775808)))] (True) (by kernel_rfl) trivial ?_
          clear hk; intro a hk
          refine st_done ?_
          have e : ((!m5.2) && (decide (t14 ≥ 9223372036854775808))) = (decide (t14 ≥ 9223372036854775808)) := by first | (simp only [h16]; done) | (simp only [h16]; rfl) | rfl | simp [h16]
          exact J a w ⟨by rw [e]; exact hk.to [8, 9, 10, 52] _ (by kernel_rfl), ho⟩
        ·
          rw [h16] at hk
          have h18 : ¬ ((!m5.2) = true) := ne_true_of_eq_false h16
          refine st_pure tabOK hk [3, 4, 5, 6] [] [8, 9, 10, 52] [(8, .bool m5.2), (9, .int .u64 t14), (10, .int .u64 9223372036854775808), (52, .bool false)] (True) (by kernel_rfl) trivial ?_
          clear hk; intro a hk
          refine st_done ?_
          have e : ((!m5.2) && (decide (t14 ≥ 9223372036854775808))) = false := by first | (simp only [h16]; done) | (simp only [h16]; rfl) | rfl | simp [h16]
          exact J a w ⟨by rw [e]; exact hk.to [8, 9, 10, 52] _ (by kernel_rfl), ho⟩
      · rintro a w ⟨hk, ho⟩
        refine st_cond hk (C47 [1, 1, 1, 1, 1, 1, 1, 1, 1, 0, 1, 0]) (C47 [1, 1, 1, 1, 1, 1, 1, 1, 1, 0, 1, 1]) (.tmp 52) (((!m5.2) && (decide (t14 ≥ 9223372036854775808)))) (by kernel_rfl) (by kernel_rfl) (fun h19 => ?_) (fun h19 => ?_)
        ·
          have h20 : ((!m5.2) && (decide (t14 ≥ 9223372036854775808))) = true := h19
          rw [if_pos h20] at H
          exact nomatch H
        ·
          have h21 : ¬ (((!m5.2) && (decide (t14 ≥ 9223372036854775808))) = true) := ne_true_of_eq_false h19
          rw [if_neg h21] at H
          refine st_skip (by kernel_rfl) ?_
          refine st_seq (C47 [1, 1, 1, 1, 1, 1, 1, 1, 1, 1, 0]) (C47 [1, 1, 1, 1, 1, 1, 1, 1, 1, 1, 1]) (by kernel_rfl) ?_
          refine st_seq (C47 [1, 1, 1, 1, 1, 1, 1, 1, 1, 1, 0, 0]) (C47 [1, 1, 1, 1, 1, 1, 1, 1, 1, 1, 0, 1]) (by kernel_rfl) ?_
          refine st_region 19 (opsOf (C47 [1, 1, 1, 1, 1, 1, 1, 1, 1, 1, 0, 0])) [0, 1, 2, 3, 4, 5] (by kernel_rfl) (by kernel_rfl) ?_
          refine st_pure tabOK hk [0, 1] [2, 3, 4, 5] [8, 9, 10, 58] [(8, .bool m5.2), (9, .int .u64 t14), (10, .int .u64 9223372036854775808), (58, .bool m5.2)] (True) (by kernel_rfl) trivial ?_
          clear hk; intro a hk
          obtain ⟨m22, HX, H⟩ := Option.bind_eq_some_iff.1 H
          refine cut_ops (fun a w => Kn 73 a [(8, .bool m22.1), (9, .int .u64 t14), (10, .int .u64 9223372036854775808), (62, .bool m22.2)] ∧ Ows [] w0 w []) ?_ ?_
          · intro J; clear H; have H := HX; clear HX
            rcases Bool.eq_false_or_eq_true (m5.2) with h23 | h23
            ·
              rw [h23] at hk
              have h24 : m5.2 = true := h23
              rw [if_pos h24] at H
              refine st_pure tabOK hk [2, 3, 4, 5] [] [8, 9, 10, 62] [(8, .bool true), (9, .int .u64 t14), (10, .int .u64 9223372036854775808), (62, .bool (decide (t14 > 9223372036854775808)))] (True) (by kernel_rfl) trivial ?_
              clear hk; intro a hk
              refine st_done ?_
              obtain rfl := Option.some.inj H
              exact J a w ⟨hk.to [8, 9, 10, 62] _ (by kernel_rfl), ho⟩
            ·
              rw [h23] at hk
              have h25 : ¬ (m5.2 = true) := ne_true_of_eq_false h23
              rw [if_neg h25] at H
              refine st_pure tabOK hk [2, 3, 4, 5] [] [8, 9, 10, 62] [(8, .bool false), (9, .int .u64 t14), (10, .int .u64 9223372036854775808), (62, .bool false)] (True) (by kernel_rfl) trivial ?_
              clear hk; intro a hk
              refine st_done ?_
              obtain rfl := Option.some.inj H
              exact J a w ⟨hk.to [8, 9, 10, 62] _ (by kernel_rfl), ho⟩
          · clear HX; rintro a w ⟨hk, ho⟩
            refine st_cond hk (C47 [1, 1, 1, 1, 1, 1, 1, 1, 1, 1, 0, 1, 0]) (C47 [1, 1, 1, 1, 1, 1, 1, 1, 1, 1, 0, 1, 1]) (.tmp 62) (m22.2) (by kernel_rfl) (by kernel_rfl) (fun h26 => ?_) (fun h26 => ?_)
            ·
              have h27 : m22.2 = true := h26
              rw [if_pos h27] at H
              exact nomatch H
            ·
              have h28 : ¬ (m22.2 = true) := ne_true_of_eq_false h26
              rw [if_neg h28] at H
              refine st_skip (by kernel_rfl) ?_
              refine st_seq (C47 [1, 1, 1, 1, 1, 1, 1, 1, 1, 1, 1, 0]) (C47 [1, 1, 1, 1, 1, 1, 1, 1, 1, 1, 1, 1]) (by kernel_rfl) ?_
              refine st_region 21 (opsOf (C47 [1, 1, 1, 1, 1, 1, 1, 1, 1, 1, 1, 0])) [0, 1, 2] (by kernel_rfl) (by kernel_rfl) ?_
              refine st_pure tabOK hk [0, 1, 2] [] [8, 11] [(8, .bool m22.1), (11, I (w64 (t14)))] (True) (by kernel_rfl) trivial ?_
              clear hk; intro a hk
              refine st_done ?_
              refine st_seq (C47 [1, 1, 1, 1, 1, 1, 1, 1, 1, 1, 1, 1, 0]) (C47 [1, 1, 1, 1, 1, 1, 1, 1, 1, 1, 1, 1, 1]) (by kernel_rfl) ?_
              refine st_seq (C47 [1, 1, 1, 1, 1, 1, 1, 1, 1, 1, 1, 1, 0, 0]) (C47 [1, 1, 1, 1, 1, 1, 1, 1, 1, 1, 1, 1, 0, 1]) (by kernel_rfl) ?_
              refine st_region 22 (opsOf (C47 [1, 1, 1, 1, 1, 1, 1, 1, 1, 1, 1, 1, 0, 0])) [0] (by kernel_rfl) (by kernel_rfl) ?_
              refine st_pure tabOK hk [0] [] [11, 69] [(11, I (w64 (t14))), (69, .bool m22.1)] (True) (by kernel_rfl) trivial ?_
              clear hk; intro a hk
              refine st_done ?_
              obtain ⟨m29, HX, H⟩ := Option.bind_eq_some_iff.1 H
              refine cut_code (fun a w => Kn 73 a [(11, I m29)] ∧ Ows [] w0 w []) ?_ ?_
              · intro J; clear H; have H := HX; clear HX
                refine st_cond hk (C47 [1, 1, 1, 1, 1, 1, 1, 1, 1, 1, 1, 1, 0, 1, 0]) (C47 [1, 1, 1, 1, 1, 1, 1, 1, 1, 1, 1, 1, 0, 1, 1]) (.tmp 69) (m22.1) (by kernel_rfl) (by kernel_rfl) (fun h30 => ?_) (fun h30 => ?_)
                ·
                  have h31 : m22.1 = true := h30
                  rw [if_pos h31] at H
                  refine st_region 23 (opsOf (C47 [1, 1, 1, 1, 1, 1, 1, 1, 1, 1, 1, 1, 0, 1, 0])) [0, 1, 2] (by kernel_rfl) (by kernel_rfl) ?_
                  refine st_pure tabOK hk [0, 1, 2] [] [11] [(11, I (w64 (0 - w64 (t14))))] (True) (by kernel_rfl) trivial ?_
                  clear hk; intro a hk
                  refine st_done ?_
                  obtain rfl := Option.some.inj H
                  exact J a w ⟨hk.to [11] _ (by kernel_rfl), ho⟩
                ·
                  have h32 : ¬ (m22.1 = true) := ne_true_of_eq_false h30
                  rw [if_neg h32] at H
                  refine st_skip (by kernel_rfl) ?_
                  obtain rfl := Option.some.inj H
                  exact J a w ⟨hk.to [11] _ (by kernel_rfl), ho⟩
              · clear HX; rintro a w ⟨hk, ho⟩
                refine st_seq (C47 [1, 1, 1, 1, 1, 1, 1, 1, 1, 1, 1, 1, 1, 0]) (C47 [1, 1, 1, 1, 1, 1, 1, 1, 1, 1, 1, 1, 1, 1]) (by kernel_rfl) ?_
                refine st_region 24 (opsOf (C47 [1, 1, 1, 1, 1, 1, 1, 1, 1, 1, 1, 1, 1, 0])) [0, 1, 2] (by kernel_rfl) (by kernel_rfl) ?_
                refine st_pure tabOK hk [0, 1, 2] [] [6, 7] [(6, I m29), (7, .nilIface)] (True) (by kernel_rfl) trivial ?_
                clear hk; intro a hk
                refine st_done ?_
                refine st_retG hk (by kernel_rfl) [I m29, .nilIface] #[.tmp 6, .tmp 7] (by kernel_rfl) ⟨resT hk (by kernel_rfl), resT hk (by kernel_rfl), trivial⟩ ?_
                obtain rfl := Option.some.inj H
                exact ⟨_, rfl, rfl, ho⟩


/-! strconv.ParseInt: function 25 -/
noncomputable def C25 (p : List Nat) : Code := Sub (bodyOf f25) p
def strconv_ParseInt_16_64.f (K : Nat) (p0 : Str) : Option (Int) := (((strconv_ParseInt_n47_16_64.f K p0).bind fun t1 => some t1))
abbrev strconv_ParseInt_16_64.post (w0 : World) (r : Int) (u : Value) (w : World) : Prop := u = .tuple #[I r, .nilIface] ∧ Ows [] w0 w []
theorem strconv_ParseInt_16_64.ok (K : Nat) (p0 : Str) (r : Int) (H : strconv_ParseInt_16_64.f K p0 = some r) (w0 : World)  : Calls Tryz.prog 25 ⟨[S p0, I 16, I 64]⟩ w0 fun e w => ∃ u, e = .returned u ∧ strconv_ParseInt_16_64.post w0 r u w := by
  unfold strconv_ParseInt_16_64.f at H
  refine st_start (N := 25) [S p0, I 16, I 64] (C25 []) func25 (by kernel_rfl) (by kernel_rfl) (by kernel_rfl) ?_
  intro a w hk ho
  refine st_seq (C25 [0]) (C25 [1]) (by kernel_rfl) ?_
  refine st_region 0 (opsOf (C25 [0])) [0, 1] (by kernel_rfl) (by kernel_rfl) ?_
  refine st_pure tabOK hk [0, 1] [] [0, 1, 2] [(0, S p0), (1, I 16), (2, I 64)] (True) (by kernel_rfl) trivial ?_
  clear hk; intro a hk
  refine st_done ?_
  refine st_seq (C25 [1, 0]) (C25 [1, 1]) (by kernel_rfl) ?_
  refine st_region 1 (opsOf (C25 [1, 0])) [0, 1, 2, 3, 4, 5, 6, 7, 8] (by kernel_rfl) (by kernel_rfl) ?_
  refine st_pure tabOK hk [0, 1, 2] [3, 4, 5, 6, 7, 8] [0, 1, 2, 10, 11, 12] [(0, S p0), (1, I 16), (2, I 64), (10, S p0), (11, I 16), (12, I 64)] (True) (by kernel_rfl) trivial ?_
  clear hk; intro a hk
  obtain ⟨t1, h2, H⟩ := Option.bind_eq_some_iff.1 H
  refine st_call hk 47 [S p0, I 16, I 64] (some 13) enters47 (by kernel_rfl) (strconv_ParseInt_n47_16_64.ok K  p0 t1 h2 w ) ?_
  clear hk; rintro a u w ⟨rfl, ho'⟩ hk
  replace ho : Ows [] w0 w [] := ho.call ho'; clear ho'
  refine st_pure tabOK hk [4, 5, 6, 7, 8] [] [0, 1, 2, 7, 8] [(0, S p0), (1, I 16), (2, I 64), (7, .nilIface), (8, I t1)] (True) (by kernel_rfl) trivial ?_
  clear hk; intro a hk
  refine st_done ?_
  refine st_seq (C25 [1, 1, 0]) (C25 [1, 1, 1]) (by kernel_rfl) ?_
  refine st_seq (C25 [1, 1, 0, 0]) (C25 [1, 1, 0, 1]) (by kernel_rfl) ?_
  refine st_region 2 (opsOf (C25 [1, 1, 0, 0])) [0, 1] (by kernel_rfl) (by kernel_rfl) ?_
  refine st_pure tabOK hk [0, 1] [] [0, 1, 2, 7, 8, 17] [(0, S p0), (1, I 16), (2, I 64), (7, .nilIface), (8, I t1), (17, .bool false)] (True) (by kernel_rfl) trivial ?_
  clear hk; intro a hk
  refine st_done ?_
  refine st_cond_false hk (C25 [1, 1, 0, 1, 0]) (C25 [1, 1, 0, 1, 1]) (.tmp 17) (by kernel_rfl) (by kernel_rfl) ?_
  refine st_skip (by kernel_rfl) ?_
  refine st_seq (C25 [1, 1, 1, 0]) (C25 [1, 1, 1, 1]) (by kernel_rfl) ?_
  refine st_region 4 (opsOf (C25 [1, 1, 1, 0])) [0, 1, 2] (by kernel_rfl) (by kernel_rfl) ?_
  refine st_pure tabOK hk [0, 1, 2] [] [6, 7] [(6, I t1), (7, .nilIface)] (True) (by kernel_rfl) trivial ?_
  clear hk; intro a hk
  refine st_done ?_
  refine st_retG hk (by kernel_rfl) [I t1, .nilIface] #[.tmp 6, .tmp 7] (by kernel_rfl) ⟨resT hk (by kernel_rfl), resT hk (by kernel_rfl), trivial⟩ ?_
  obtain rfl := Option.some.inj H
  exact ⟨_, rfl, rfl, ho⟩


/-! internal/stringslite.HasPrefix: function 73 -/
noncomputable def C73 (p : List Nat) : Code := Sub (bodyOf f73) p
def stringslite_HasPrefix.f (p0 : Str) (p1 : Str) : Option (Bool) := ((((if (p0.length : Int) ≥ (p1.length : Int) then (if (p1.length : Int) ≤ (p0.length : Int) then some ((p0.take (p1.length : Int).toNat) == p1) else none) else some false)).bind fun m1 => some m1))
abbrev stringslite_HasPrefix.post (w0 : World) (r : Bool) (u : Value) (w : World) : Prop := u = .bool r ∧ Ows [] w0 w []
theorem stringslite_HasPrefix.ok (p0 : Str) (p1 : Str) (r : Bool) (H : stringslite_HasPrefix.f p0 p1 = some r) (w0 : World)  : Calls Tryz.prog 73 ⟨[S p0, S p1]⟩ w0 fun e w => ∃ u, e = .returned u ∧ stringslite_HasPrefix.post w0 r u w := by
  unfold stringslite_HasPrefix.f at H
  refine st_start (N := 18) [S p0, S p1] (C73 []) func73 (by kernel_rfl) (by kernel_rfl) (by kernel_rfl) ?_
  intro a w hk ho
  refine st_seq (C73 [0]) (C73 [1]) (by kernel_rfl) ?_
  refine st_region 0 (opsOf (C73 [0])) [0] (by kernel_rfl) (by kernel_rfl) ?_
  refine st_pure tabOK hk [0] [] [0, 1] [(0, S p0), (1, S p1)] (True) (by kernel_rfl) trivial ?_
  clear hk; intro a hk
  refine st_done ?_
  refine st_seq (C73 [1, 0]) (C73 [1, 1]) (by kernel_rfl) ?_
  refine st_region 1 (opsOf (C73 [1, 0])) [0, 1, 2, 3, 4, 5, 6, 7, 8, 9, 10, 11, 12, 13] (by kernel_rfl) (by kernel_rfl) ?_
  refine st_pure tabOK hk [0, 1, 2, 3, 4, 5] [6, 7, 8, 9, 10, 11, 12, 13] [0, 1, 10] [(0, S p0), (1, S p1), (10, .bool (decide ((p0.length : Int) ≥ (p1.length : Int))))] (True) (by kernel_rfl) trivial ?_
  clear hk; intro a hk
  obtain ⟨m1, HX, H⟩ := Option.bind_eq_some_iff.1 H
  refine cut_ops (fun a w => Kn 18 a [(4, .bool m1)] ∧ Ows [] w0 w []) ?_ ?_
  · intro J; clear H; have H := HX; clear HX
    rcases Bool.eq_false_or_eq_true (decide ((p0.length : Int) ≥ (p1.length : Int))) with h2 | h2
    ·
      rw [h2] at hk
      have h3 : (p0.length : Int) ≥ (p1.length : Int) := of_decide_eq_true h2
      rw [if_pos h3] at H
      have h4 : (p1.length : Int) ≤ (p0.length : Int) := by
        by_cases h4 : (p1.length : Int) ≤ (p0.length : Int)
        · exact h4
        · rw [if_neg h4] at H; cases H
      rw [if_pos h4] at H
      refine st_pure tabOK hk [6, 7, 8, 9, 10, 11, 12, 13] [] [4] [(4, .bool ((p0.take (p1.length : Int).toNat) == p1))] (((0 : Int) ≤ (p1.length : Int) ∧ (p1.length : Int) ≤ (p0.length : Int)) ∧ True) (by kernel_rfl) ⟨⟨(Int.natCast_nonneg _), h4⟩, trivial⟩ ?_
      clear hk; intro a hk
      refine st_done ?_
      obtain rfl := Option.some.inj H
      exact J a w ⟨hk.to [4] _ (by kernel_rfl), ho⟩
    ·
      rw [h2] at hk
      have h5 : ¬ ((p0.length : Int) ≥ (p1.length : Int)) := of_decide_eq_false h2
      rw [if_neg h5] at H
      refine st_pure tabOK hk [6, 7, 8, 9, 10, 11, 12, 13] [] [4] [(4, .bool false)] (True) (by kernel_rfl) trivial ?_
      clear hk; intro a hk
      refine st_done ?_
      obtain rfl := Option.some.inj H
      exact J a w ⟨hk.to [4] _ (by kernel_rfl), ho⟩
  · clear HX; rintro a w ⟨hk, ho⟩
    refine st_retG hk (by kernel_rfl) [.bool m1] #[.tmp 4] (by kernel_rfl) ⟨resT hk (by kernel_rfl), trivial⟩ ?_
    obtain rfl := Option.some.inj H
    exact ⟨_, rfl, rfl, ho⟩


/-! internal/stringslite.CutPrefix: function 49 -/
noncomputable def C49 (p : List Nat) : Code := Sub (bodyOf f49) p
def stringslite_CutPrefix.f (p0 : Str) (p1 : Str) : Option (Str × Bool) := (((stringslite_HasPrefix.f p0 p1).bind fun t1 => (if (!t1) = true then some (p0, false) else (if (p1.length : Int) ≤ (p0.length : Int) then some (p0.drop (p1.length : Int).toNat, true) else none))))
abbrev stringslite_CutPrefix.post (w0 : World) (r : Str × Bool) (u : Value) (w : World) : Prop := u = .tuple #[S r.1, .bool r.2] ∧ Ows [] w0 w []
theorem stringslite_CutPrefix.ok (p0 : Str) (p1 : Str) (r : Str × Bool) (H : stringslite_CutPrefix.f p0 p1 = some r) (w0 : World)  : Calls Tryz.prog 49 ⟨[S p0, S p1]⟩ w0 fun e w => ∃ u, e = .returned u ∧ stringslite_CutPrefix.post w0 r u w := by
  unfold stringslite_CutPrefix.f at H
  refine st_start (N := 15) [S p0, S p1] (C49 []) func49 (by kernel_rfl) (by kernel_rfl) (by kernel_rfl) ?_
  intro a w hk ho
  refine st_seq (C49 [0]) (C49 [1]) (by kernel_rfl) ?_
  refine st_region 0 (opsOf (C49 [0])) [0, 1] (by kernel_rfl) (by kernel_rfl) ?_
  refine st_pure tabOK hk [0, 1] [] [0, 1] [(0, S p0), (1, S p1)] (True) (by kernel_rfl) trivial ?_
  clear hk; intro a hk
  refine st_done ?_
  refine st_seq (C49 [1, 0]) (C49 [1, 1]) (by kernel_rfl) ?_
  refine st_seq (C49 [1, 0, 0]) (C49 [1, 0, 1]) (by kernel_rfl) ?_
  refine st_region 1 (opsOf (C49 [1, 0, 0])) [0, 1, 2, 3] (by kernel_rfl) (by kernel_rfl) ?_
  refine st_pure tabOK hk [0, 1] [2, 3] [0, 1, 6, 7] [(0, S p0), (1, S p1), (6, S p0), (7, S p1)] (True) (by kernel_rfl) trivial ?_
  clear hk; intro a hk
  obtain ⟨t1, h2, H⟩ := Option.bind_eq_some_iff.1 H
  refine st_call hk 73 [S p0, S p1] (some 8) enters73 (by kernel_rfl) (stringslite_HasPrefix.ok  p0 p1 t1 h2 w ) ?_
  clear hk; rintro a u w ⟨rfl, ho'⟩ hk
  replace ho : Ows [] w0 w [] := ho.call ho'; clear ho'
  refine st_pure tabOK hk [3] [] [0, 1, 9] [(0, S p0), (1, S p1), (9, .bool (!t1))] (True) (by kernel_rfl) trivial ?_
  clear hk; intro a hk
  refine st_done ?_
  refine st_cond hk (C49 [1, 0, 1, 0]) (C49 [1, 0, 1, 1]) (.tmp 9) (!t1) (by kernel_rfl) (by kernel_rfl) (fun h3 => ?_) (fun h3 => ?_)
  ·
    have h4 : (!t1) = true := h3
    rw [if_pos h4] at H
    refine st_seq (C49 [1, 0, 1, 0, 0]) (C49 [1, 0, 1, 0, 1]) (by kernel_rfl) ?_
    refine st_region 2 (opsOf (C49 [1, 0, 1, 0, 0])) [0, 1, 2] (by kernel_rfl) (by kernel_rfl) ?_
    refine st_pure tabOK hk [0, 1, 2] [] [4, 5] [(4, S p0), (5, .bool false)] (True) (by kernel_rfl) trivial ?_
    clear hk; intro a hk
    refine st_done ?_
    refine st_retG hk (by kernel_rfl) [S p0, .bool false] #[.tmp 4, .tmp 5] (by kernel_rfl) ⟨resT hk (by kernel_rfl), resT hk (by kernel_rfl), trivial⟩ ?_
    obtain rfl := Option.some.inj H
    exact ⟨_, rfl, rfl, ho⟩
  ·
    have h5 : ¬ ((!t1) = true) := ne_true_of_eq_false h3
    rw [if_neg h5] at H
    refine st_skip (by kernel_rfl) ?_
    refine st_seq (C49 [1, 1, 0]) (C49 [1, 1, 1]) (by kernel_rfl) ?_
    refine st_region 3 (opsOf (C49 [1, 1, 0])) [0, 1, 2, 3, 4, 5] (by kernel_rfl) (by kernel_rfl) ?_
    have h6 : (p1.length : Int) ≤ (p0.length : Int) := by
      by_cases h6 : (p1.length : Int) ≤ (p0.length : Int)
      · exact h6
      · rw [if_neg h6] at H; cases H
    rw [if_pos h6] at H
    refine st_pure tabOK hk [0, 1, 2, 3, 4, 5] [] [4, 5] [(4, S (p0.drop (p1.length : Int).toNat)), (5, .bool true)] (((0 : Int) ≤ (p1.length : Int) ∧ (p1.length : Int) ≤ (p0.length : Int)) ∧ True) (by kernel_rfl) ⟨⟨(Int.natCast_nonneg _), h6⟩, trivial⟩ ?_
    clear hk; intro a hk
    refine st_done ?_
    refine st_retG hk (by kernel_rfl) [S (p0.drop (p1.length : Int).toNat), .bool true] #[.tmp 4, .tmp 5] (by kernel_rfl) ⟨resT hk (by kernel_rfl), resT hk (by kernel_rfl), trivial⟩ ?_
    obtain rfl := Option.some.inj H
    exact ⟨_, rfl, rfl, ho⟩


/-! strings.CutPrefix: function 26 -/
noncomputable def C26 (p : List Nat) : Code := Sub (bodyOf f26) p
def strings_CutPrefix.f (p0 : Str) (p1 : Str) : Option (Str × Bool) := (((stringslite_CutPrefix.f p0 p1).bind fun t1 => some (t1.1, t1.2)))
abbrev strings_CutPrefix.post (w0 : World) (r : Str × Bool) (u : Value) (w : World) : Prop := u = .tuple #[S r.1, .bool r.2] ∧ Ows [] w0 w []
theorem strings_CutPrefix.ok (p0 : Str) (p1 : Str) (r : Str × Bool) (H : strings_CutPrefix.f p0 p1 = some r) (w0 : World)  : Calls Tryz.prog 26 ⟨[S p0, S p1]⟩ w0 fun e w => ∃ u, e = .returned u ∧ strings_CutPrefix.post w0 r u w := by
  unfold strings_CutPrefix.f at H
  refine st_start (N := 11) [S p0, S p1] (C26 []) func26 (by kernel_rfl) (by kernel_rfl) (by kernel_rfl) ?_
  intro a w hk ho
  refine st_seq (C26 [0]) (C26 [1]) (by kernel_rfl) ?_
  refine st_region 0 (opsOf (C26 [0])) [0, 1] (by kernel_rfl) (by kernel_rfl) ?_
  refine st_pure tabOK hk [0, 1] [] [0, 1] [(0, S p0), (1, S p1)] (True) (by kernel_rfl) trivial ?_
  clear hk; intro a hk
  refine st_done ?_
  refine st_seq (C26 [1, 0]) (C26 [1, 1]) (by kernel_rfl) ?_
  refine st_region 1 (opsOf (C26 [1, 0])) [0, 1, 2, 3, 4, 5, 6] (by kernel_rfl) (by kernel_rfl) ?_
  refine st_pure tabOK hk [0, 1] [2, 3, 4, 5, 6] [6, 7] [(6, S p0), (7, S p1)] (True) (by kernel_rfl) trivial ?_
  clear hk; intro a hk
  obtain ⟨t1, h2, H⟩ := Option.bind_eq_some_iff.1 H
  refine st_call hk 49 [S p0, S p1] (some 8) enters49 (by kernel_rfl) (stringslite_CutPrefix.ok  p0 p1 t1 h2 w ) ?_
  clear hk; rintro a u w ⟨rfl, ho'⟩ hk
  replace ho : Ows [] w0 w [] := ho.call ho'; clear ho'
  refine st_pure tabOK hk [3, 4, 5, 6] [] [4, 5] [(4, S t1.1), (5, .bool t1.2)] (True) (by kernel_rfl) trivial ?_
  clear hk; intro a hk
  refine st_done ?_
  refine st_retG hk (by kernel_rfl) [S t1.1, .bool t1.2] #[.tmp 4, .tmp 5] (by kernel_rfl) ⟨resT hk (by kernel_rfl), resT hk (by kernel_rfl), trivial⟩ ?_
  obtain rfl := Option.some.inj H
  exact ⟨_, rfl, rfl, ho⟩


/-! scullery/ascii.Trim$1: function 53 -/
noncomputable def C53 (p : List Nat) : Code := Sub (bodyOf f53) p
def ascii_Trim_1.f (p0 : Int) : Option (Bool) := some ((p0 == 32) || (p0 == 9))
abbrev ascii_Trim_1.post (w0 : World) (r : Bool) (u : Value) (w : World) : Prop := u = .bool r ∧ Ows [] w0 w []
theorem ascii_Trim_1.ok (p0 : Int) (r : Bool) (H : ascii_Trim_1.f p0 = some r) (w0 : World)  : Calls Tryz.prog 53 ⟨[.int .i32 p0]⟩ w0 fun e w => ∃ u, e = .returned u ∧ ascii_Trim_1.post w0 r u w := by
  unfold ascii_Trim_1.f at H
  refine st_start (N := 9) [.int .i32 p0] (C53 []) func53 (by kernel_rfl) (by kernel_rfl) (by kernel_rfl) ?_
  intro a w hk ho
  refine st_seq (C53 [0]) (C53 [1]) (by kernel_rfl) ?_
  refine st_region 0 (opsOf (C53 [0])) [0] (by kernel_rfl) (by kernel_rfl) ?_
  refine st_pure tabOK hk [0] [] [0] [(0, .int .i32 p0)] (True) (by kernel_rfl) trivial ?_
  clear hk; intro a hk
  refine st_done ?_
  refine st_seq (C53 [1, 0]) (C53 [1, 1]) (by kernel_rfl) ?_
  refine st_region 1 (opsOf (C53 [1, 0])) [0, 1, 2, 3, 4, 5, 6] (by kernel_rfl) (by kernel_rfl) ?_
  refine st_pure tabOK hk [0, 1, 2] [3, 4, 5, 6] [0, 5] [(0, .int .i32 p0), (5, .bool (p0 == 32))] (True) (by kernel_rfl) trivial ?_
  clear hk; intro a hk
  refine cut_ops (fun a w => Kn 9 a [(2, .bool ((p0 == 32) || (p0 == 9)))] ∧ Ows [] w0 w []) ?_ ?_
  · intro J
    rcases Bool.eq_false_or_eq_true (p0 == 32) with h1 | h1
    ·
      rw [h1] at hk
      have h2 : (p0 == 32) = true := h1
      refine st_pure tabOK hk [3, 4, 5, 6] [] [2] [(2, .bool true)] (True) (by kernel_rfl) trivial ?_
      clear hk; intro a hk
      refine st_done ?_
      have e : ((p0 == 32) || (p0 == 9)) = true := by first | (simp only [h1]; done) | (simp only [h1]; rfl) | rfl | simp [h1]
      exact J a w ⟨by rw [e]; exact hk.to [2] _ (by kernel_rfl), ho⟩
    ·
      rw [h1] at hk
      have h3 : ¬ ((p0 == 32) = true) := ne_true_of_eq_false h1
      refine st_pure tabOK hk [3, 4, 5, 6] [] [2] [(2, .bool (p0 == 9))] (True) (by kernel_rfl) trivial ?_
      clear hk; intro a hk
      refine st_done ?_
      have e : ((p0 == 32) || (p0 == 9)) = (p0 == 9) := by first | (simp only [h1]; done) | (simp only [h1]; rfl) | rfl | simp [h1]
      exact J a w ⟨by rw [e]; exact hk.to [2] _ (by kernel_rfl), ho⟩
  · rintro a w ⟨hk, ho⟩
    refine st_retG hk (by kernel_rfl) [.bool ((p0 == 32) || (p0 == 9))] #[.tmp 2] (by kernel_rfl) ⟨resT hk (by kernel_rfl), trivial⟩ ?_
    obtain rfl := Option.some.inj H
    exact ⟨_, rfl, rfl, ho⟩


/-! strings.TrimFunc: function 52 -/
/-- What the predicate says of a rune. -/
def strings_TrimFunc_ascii_Trim_1.p (x : Nat) : Bool := (ascii_Trim_1.f (x : Int)).getD false
def strings_TrimFunc_ascii_Trim_1.f (p0 : Str) : Option Str := if p0.length ≤ maxI then some (Lib.trimF strings_TrimFunc_ascii_Trim_1.p ⟨⟨p0⟩⟩).data.toList else none
abbrev strings_TrimFunc_ascii_Trim_1.post (w0 : World) (r : Str) (u : Value) (w : World) : Prop := u = S r ∧ Ows [] w0 w []
theorem strings_TrimFunc_ascii_Trim_1.tot (x : Nat) : ascii_Trim_1.f (x : Int) = some (strings_TrimFunc_ascii_Trim_1.p x) := by
  unfold strings_TrimFunc_ascii_Trim_1.p ascii_Trim_1.f
  first | rfl | (repeat' split) <;> rfl | simp
theorem strings_TrimFunc_ascii_Trim_1.ok (p0 : Str) (r : Str) (H : strings_TrimFunc_ascii_Trim_1.f p0 = some r) (w0 : World) (hg : Glob w0) : Calls Tryz.prog 52 ⟨[S p0, .func (.func 53) #[] #[]]⟩ w0 fun e w => ∃ u, e = .returned u ∧ strings_TrimFunc_ascii_Trim_1.post w0 r u w := by
  unfold strings_TrimFunc_ascii_Trim_1.f at H
  split at H
  · rename_i h
    obtain rfl := Option.some.inj H
    refine (Any.strings_TrimFunc_grows Tryz.lays237 53 #[] enters53 strings_TrimFunc_ascii_Trim_1.p ⟨⟨p0⟩⟩ w0 h hg.utf8 ?_).mono ?_
    · intro W x _ _
      refine (ascii_Trim_1.ok (x : Int) _ (strings_TrimFunc_ascii_Trim_1.tot x) W).mono ?_
      rintro e w ⟨u, rfl, rfl, ho⟩
      exact ⟨rfl, toBelow ho⟩
    · rintro e w ⟨rfl, hb⟩
      exact ⟨_, rfl, rfl, ofBelow hb⟩
  · cases H


/-! scullery/ascii.Trim: function 28 -/
noncomputable def C28 (p : List Nat) : Code := Sub (bodyOf f28) p
def ascii_Trim.f (p0 : Str) : Option (Str) := (((strings_TrimFunc_ascii_Trim_1.f p0).bind fun t1 => some t1))
abbrev ascii_Trim.post (w0 : World) (r : Str) (u : Value) (w : World) : Prop := u = S r ∧ Ows [] w0 w []
theorem ascii_Trim.ok (p0 : Str) (r : Str) (H : ascii_Trim.f p0 = some r) (w0 : World) (hg : Glob w0) : Calls Tryz.prog 28 ⟨[S p0]⟩ w0 fun e w => ∃ u, e = .returned u ∧ ascii_Trim.post w0 r u w := by
  unfold ascii_Trim.f at H
  refine st_start (N := 5) [S p0] (C28 []) func28 (by kernel_rfl) (by kernel_rfl) (by kernel_rfl) ?_
  intro a w hk ho
  refine st_seq (C28 [0]) (C28 [1]) (by kernel_rfl) ?_
  refine st_region 0 (opsOf (C28 [0])) [0] (by kernel_rfl) (by kernel_rfl) ?_
  refine st_pure tabOK hk [0] [] [0] [(0, S p0)] (True) (by kernel_rfl) trivial ?_
  clear hk; intro a hk
  refine st_done ?_
  refine st_seq (C28 [1, 0]) (C28 [1, 1]) (by kernel_rfl) ?_
  refine st_region 1 (opsOf (C28 [1, 0])) [0, 1, 2] (by kernel_rfl) (by kernel_rfl) ?_
  refine st_pure tabOK hk [0] [1, 2] [3] [(3, S p0)] (True) (by kernel_rfl) trivial ?_
  clear hk; intro a hk
  obtain ⟨t1, h2, H⟩ := Option.bind_eq_some_iff.1 H
  refine st_call hk 52 [S p0, .func (.func 53) #[] #[]] (some 4) enters52 (by kernel_rfl) (strings_TrimFunc_ascii_Trim_1.ok  p0 t1 h2 w (hg.of ho)) ?_
  clear hk; rintro a u w ⟨rfl, ho'⟩ hk
  replace ho : Ows [] w0 w [] := ho.call ho'; clear ho'
  refine st_pure tabOK hk [2] [] [2] [(2, S t1)] (True) (by kernel_rfl) trivial ?_
  clear hk; intro a hk
  refine st_done ?_
  refine st_retG hk (by kernel_rfl) [S t1] #[.tmp 2] (by kernel_rfl) ⟨resT hk (by kernel_rfl), trivial⟩ ?_
  obtain rfl := Option.some.inj H
  exact ⟨_, rfl, rfl, ho⟩


/-! scullery/ascii.Text$1: function 51 -/
noncomputable def C51 (p : List Nat) : Code := Sub (bodyOf f51) p
def ascii_Text_1.f (p0 : Int) : Option (Bool) := some ((p0 == 9) || ((decide (p0 ≥ 32)) && (p0 != 127)))
abbrev ascii_Text_1.post (w0 : World) (r : Bool) (u : Value) (w : World) : Prop := u = .bool r ∧ Ows [] w0 w []
theorem ascii_Text_1.ok (p0 : Int) (r : Bool) (H : ascii_Text_1.f p0 = some r) (w0 : World)  : Calls Tryz.prog 51 ⟨[.int .u8 p0]⟩ w0 fun e w => ∃ u, e = .returned u ∧ ascii_Text_1.post w0 r u w := by
  unfold ascii_Text_1.f at H
  refine st_start (N := 13) [.int .u8 p0] (C51 []) func51 (by kernel_rfl) (by kernel_rfl) (by kernel_rfl) ?_
  intro a w hk ho
  refine st_seq (C51 [0]) (C51 [1]) (by kernel_rfl) ?_
  refine st_region 0 (opsOf (C51 [0])) [0] (by kernel_rfl) (by kernel_rfl) ?_
  refine st_pure tabOK hk [0] [] [0] [(0, .int .u8 p0)] (True) (by kernel_rfl) trivial ?_
  clear hk; intro a hk
  refine st_done ?_
  refine st_seq (C51 [1, 0]) (C51 [1, 1]) (by kernel_rfl) ?_
  refine st_region 1 (opsOf (C51 [1, 0])) [0, 1, 2, 3, 4, 5, 6, 7, 8, 9, 10] (by kernel_rfl) (by kernel_rfl) ?_
  refine st_pure tabOK hk [0, 1, 2] [3, 4, 5, 6, 7, 8, 9, 10] [0, 5] [(0, .int .u8 p0), (5, .bool (p0 == 9))] (True) (by kernel_rfl) trivial ?_
  clear hk; intro a hk
  refine cut_ops (fun a w => Kn 13 a [(2, .bool ((p0 == 9) || ((decide (p0 ≥ 32)) && (p0 != 127))))] ∧ Ows [] w0 w []) ?_ ?_
  · intro J
    rcases Bool.eq_false_or_eq_true (p0 == 9) with h1 | h1
    ·
      rw [h1] at hk
      have h2 : (p0 == 9) = true := h1
      refine st_pure tabOK hk [3, 4, 5, 6, 7, 8, 9, 10] [] [2] [(2, .bool true)] (True) (by kernel_rfl) trivial ?_
      clear hk; intro a hk
      refine st_done ?_
      have e : ((p0 == 9) || ((decide (p0 ≥ 32)) && (p0 != 127))) = true := by first | (simp only [h1]; done) | (simp only [h1]; rfl) | rfl | simp [h1]
      exact J a w ⟨by rw [e]; exact hk.to [2] _ (by kernel_rfl), ho⟩
    ·
      rw [h1] at hk
      have h3 : ¬ ((p0 == 9) = true) := ne_true_of_eq_false h1
      refine st_pure tabOK hk [3, 4, 5] [6, 7, 8, 9, 10] [0, 5, 8] [(0, .int .u8 p0), (5, .bool false), (8, .bool (decide (p0 ≥ 32)))] (True) (by kernel_rfl) trivial ?_
      clear hk; intro a hk
      rcases Bool.eq_false_or_eq_true (decide (p0 ≥ 32)) with h4 | h4
      ·
        rw [h4] at hk
        have h5 : p0 ≥ 32 := of_decide_eq_true h4
        refine st_pure tabOK hk [6, 7, 8, 9, 10] [] [2] [(2, .bool (p0 != 127))] (True) (by kernel_rfl) trivial ?_
        clear hk; intro a hk
        refine st_done ?_
        have e : ((p0 == 9) || ((decide (p0 ≥ 32)) && (p0 != 127))) = (p0 != 127) := by first | (simp only [h1, h4]; done) | (simp only [h1, h4]; rfl) | rfl | simp [h1, h4]
        exact J a w ⟨by rw [e]; exact hk.to [2] _ (by kernel_rfl), ho⟩
      ·
        rw [h4] at hk
        have h6 : ¬ (p0 ≥ 32) := of_decide_eq_false h4
        refine st_pure tabOK hk [6, 7, 8, 9, 10] [] [2] [(2, .bool false)] (True) (by kernel_rfl) trivial ?_
        clear hk; intro a hk
        refine st_done ?_
        have e : ((p0 == 9) || ((decide (p0 ≥ 32)) && (p0 != 127))) = false := by first | (simp only [h1, h4]; done) | (simp only [h1, h4]; rfl) | rfl | simp [h1, h4]
        exact J a w ⟨by rw [e]; exact hk.to [2] _ (by kernel_rfl), ho⟩
  · rintro a w ⟨hk, ho⟩
    refine st_retG hk (by kernel_rfl) [.bool ((p0 == 9) || ((decide (p0 ≥ 32)) && (p0 != 127)))] #[.tmp 2] (by kernel_rfl) ⟨resT hk (by kernel_rfl), trivial⟩ ?_
    obtain rfl := Option.some.inj H
    exact ⟨_, rfl, rfl, ho⟩


/-! scullery/ascii.all: function 50 -/
noncomputable def C50 (p : List Nat) : Code := Sub (bodyOf f50) p
def ascii_all_ascii_Text_1.l0 : Nat → Str → Int → Option ((Unit) ⊕ (Bool))
  | 0, _, _ => none
  | k + 1, p0, v6 => (if v6 < (p0.length : Int) then (if (0 : Int) ≤ v6 then ((ascii_Text_1.f (bt p0 v6)).bind fun t10 => (if (!t10) = true then some (.inr false) else ascii_all_ascii_Text_1.l0 k p0 (w64 (v6 + 1)))) else none) else some (.inl ()))
def ascii_all_ascii_Text_1.f (K : Nat) (p0 : Str) : Option (Bool) := (if p0.length ≤ 4294967296 then ((ascii_all_ascii_Text_1.l0 K p0 0).bind fun m16 => match m16 with | .inl s18 => some true | .inr r19 => some r19) else none)
abbrev ascii_all_ascii_Text_1.post (w0 : World) (r : Bool) (u : Value) (w : World) : Prop := u = .bool r ∧ Ows [] w0 w []
theorem ascii_all_ascii_Text_1.l0_ok : ∀ (k : Nat) (p0 : Str) (v6 : Int) (out : (Unit) ⊕ (Bool)), ascii_all_ascii_Text_1.l0 k p0 v6 = some out → ∀ (o2 : Option Addr) (c3 : Nat) (w0 : World) (Q : Exit → Act → World → Prop) (rest : List It) (a : Act) (w : World), Kn 19 a [(1, .func (.func 51) #[] #[]), (8, .slice o2 p0.length c3), (9, I (p0.length : Int)), (10, I v6)] → Ows [] w0 w [.row 0 5 1 (.slice o2 p0.length c3) p0.length (p0.map bV)] → (∀ (s : Unit) (a : Act) (w : World), out = .inl s → Kn 19 a [] → Ows [] w0 w [] → G Tryz.prog Q rest a w) → (∀ (r : Bool) (a : Act) (w : World), out = .inr r → Kn 19 a [(4, .bool r)] → Ows [] w0 w [] → Q .ret a w) → G Tryz.prog Q (.code (C50 [1, 0, 1, 0, 0]) :: .inl (C50 [1, 0, 1, 0, 0]) :: .endb 0 :: rest) a w := by
  intro k
  induction k with
  | zero => intro p0 v6 out H; simp [ascii_all_ascii_Text_1.l0] at H
  | succ k ih =>
    intro p0 v6 out H o2 c3 w0 Q rest a w  hk ho J R
    simp only [ascii_all_ascii_Text_1.l0] at H
    refine st_seq (C50 [1, 0, 1, 0, 0, 0]) (C50 [1, 0, 1, 0, 0, 1]) (by kernel_rfl) ?_
    refine st_region 2 (opsOf (C50 [1, 0, 1, 0, 0, 0])) [0] (by kernel_rfl) (by kernel_rfl) ?_
    refine st_pure tabOK hk [0] [] [1, 8, 9, 10, 11] [(1, .func (.func 51) #[] #[]), (8, .slice o2 p0.length c3), (9, I (p0.length : Int)), (10, I v6), (11, .bool (decide (v6 < (p0.length : Int))))] (True) (by kernel_rfl) trivial ?_
    clear hk; intro a hk
    refine st_done ?_
    refine st_seq (C50 [1, 0, 1, 0, 0, 1, 0]) (C50 [1, 0, 1, 0, 0, 1, 1]) (by kernel_rfl) ?_
    refine st_cond hk (C50 [1, 0, 1, 0, 0, 1, 0, 0]) (C50 [1, 0, 1, 0, 0, 1, 0, 1]) (.tmp 11) (decide (v6 < (p0.length : Int))) (by kernel_rfl) (by kernel_rfl) (fun h7 => ?_) (fun h7 => ?_)
    ·
      have h8 : v6 < (p0.length : Int) := of_decide_eq_true h7
      rw [if_pos h8] at H
      refine st_skip (by kernel_rfl) ?_
      refine st_seq (C50 [1, 0, 1, 0, 0, 1, 1, 0]) (C50 [1, 0, 1, 0, 0, 1, 1, 1]) (by kernel_rfl) ?_
      refine st_block 1 (C50 [1, 0, 1, 0, 0, 1, 1, 0, 0]) (by kernel_rfl) ?_
      refine st_seq (C50 [1, 0, 1, 0, 0, 1, 1, 0, 0, 0]) (C50 [1, 0, 1, 0, 0, 1, 1, 0, 0, 1]) (by kernel_rfl) ?_
      refine st_region 3 (opsOf (C50 [1, 0, 1, 0, 0, 1, 1, 0, 0, 0])) [0, 1, 2] (by kernel_rfl) (by kernel_rfl) ?_
      have h9 : (0 : Int) ≤ v6 := by
        by_cases h9 : (0 : Int) ≤ v6
        · exact h9
        · rw [if_neg h9] at H; cases H
      rw [if_pos h9] at H
      refine st_pure tabOK hk [0] [1, 2] [1, 8, 9, 10, 12] [(1, .func (.func 51) #[] #[]), (8, .slice o2 p0.length c3), (9, I (p0.length : Int)), (10, I v6), (12, .pointer (o2.map (·.add (v6.toNat * 1))))] ((o2.isSome = true ∧ (0 : Int) ≤ v6 ∧ v6 < (p0.length : Int)) ∧ True) (by kernel_rfl) ⟨⟨(Rd.some1 (ho.rd 0 rfl) h9 h8), h9, h8⟩, trivial⟩ ?_
      clear hk; intro a hk
      refine st_load1 tabOK hk 5 (o2.map (·.add (v6.toNat * 1))) 13 (by kernel_rfl) (by kernel_rfl) (.int .u8 (bt p0 v6)) ((ho.rd 0 rfl).elemB h9 h8) ?_
      clear hk; intro a hk
      refine st_pure tabOK hk [2] [] [1, 6, 8, 9, 10] [(1, .func (.func 51) #[] #[]), (6, .int .u8 (bt p0 v6)), (8, .slice o2 p0.length c3), (9, I (p0.length : Int)), (10, I v6)] (True) (by kernel_rfl) trivial ?_
      clear hk; intro a hk
      refine st_done ?_
      refine st_seq (C50 [1, 0, 1, 0, 0, 1, 1, 0, 0, 1, 0]) (C50 [1, 0, 1, 0, 0, 1, 1, 0, 0, 1, 1]) (by kernel_rfl) ?_
      refine st_region 4 (opsOf (C50 [1, 0, 1, 0, 0, 1, 1, 0, 0, 1, 0])) [0, 1, 2, 3] (by kernel_rfl) (by kernel_rfl) ?_
      refine st_pure tabOK hk [0, 1] [2, 3] [1, 8, 9, 10, 14, 15] [(1, .func (.func 51) #[] #[]), (8, .slice o2 p0.length c3), (9, I (p0.length : Int)), (10, I v6), (14, .func (.func 51) #[] #[]), (15, .int .u8 (bt p0 v6))] (True) (by kernel_rfl) trivial ?_
      clear hk; intro a hk
      obtain ⟨t10, h11, H⟩ := Option.bind_eq_some_iff.1 H
      refine st_call hk 51 [.int .u8 (bt p0 v6)] (some 16) enters51 (by kernel_rfl) (ascii_Text_1.ok  (bt p0 v6) t10 h11 w ) ?_
      clear hk; rintro a u w ⟨rfl, ho'⟩ hk
      replace ho : Ows [] w0 w [.row 0 5 1 (.slice o2 p0.length c3) p0.length (p0.map bV)] := ho.call ho'; clear ho'
      refine st_pure tabOK hk [3] [] [1, 8, 9, 10, 17] [(1, .func (.func 51) #[] #[]), (8, .slice o2 p0.length c3), (9, I (p0.length : Int)), (10, I v6), (17, .bool (!t10))] (True) (by kernel_rfl) trivial ?_
      clear hk; intro a hk
      refine st_done ?_
      refine st_cond hk (C50 [1, 0, 1, 0, 0, 1, 1, 0, 0, 1, 1, 0]) (C50 [1, 0, 1, 0, 0, 1, 1, 0, 0, 1, 1, 1]) (.tmp 17) (!t10) (by kernel_rfl) (by kernel_rfl) (fun h12 => ?_) (fun h12 => ?_)
      ·
        have h13 : (!t10) = true := h12
        rw [if_pos h13] at H
        refine st_seq (C50 [1, 0, 1, 0, 0, 1, 1, 0, 0, 1, 1, 0, 0]) (C50 [1, 0, 1, 0, 0, 1, 1, 0, 0, 1, 1, 0, 1]) (by kernel_rfl) ?_
        refine st_region 5 (opsOf (C50 [1, 0, 1, 0, 0, 1, 1, 0, 0, 1, 1, 0, 0])) [0] (by kernel_rfl) (by kernel_rfl) ?_
        refine st_pure tabOK hk [0] [] [4] [(4, .bool false)] (True) (by kernel_rfl) trivial ?_
        clear hk; intro a hk
        refine st_done ?_
        refine st_ret (by kernel_rfl) ?_
        replace ho : Ows [] w0 w [] := ho.erase 0
        obtain rfl := Option.some.inj H
        exact R false  a w rfl (hk.to [4] _ (by kernel_rfl)) ho
      ·
        have h14 : ¬ ((!t10) = true) := ne_true_of_eq_false h12
        rw [if_neg h14] at H
        refine st_skip (by kernel_rfl) ?_
        refine st_endb 1 ?_
        refine st_region 6 (opsOf (C50 [1, 0, 1, 0, 0, 1, 1, 1])) [0, 1] (by kernel_rfl) (by kernel_rfl) ?_
        refine st_pure tabOK hk [0, 1] [] [1, 8, 9, 10] [(1, .func (.func 51) #[] #[]), (8, .slice o2 p0.length c3), (9, I (p0.length : Int)), (10, I (w64 (v6 + 1)))] (True) (by kernel_rfl) trivial ?_
        clear hk; intro a hk
        refine st_done ?_
        refine st_inl ?_
        exact ih p0 (w64 (v6 + 1)) out H o2 c3 w0 Q rest a w  (hk.to [1, 8, 9, 10] _ (by kernel_rfl)) ho J R
    ·
      have h15 : ¬ (v6 < (p0.length : Int)) := of_decide_eq_false h7
      rw [if_neg h15] at H
      refine st_exit 0 _ (by kernel_rfl) rfl ?_
      replace ho : Ows [] w0 w [] := ho.erase 0
      obtain rfl := Option.some.inj H
      exact J ()  a w rfl (hk.to [] _ (by kernel_rfl)) ho

theorem ascii_all_ascii_Text_1.ok (K : Nat) (p0 : Str) (r : Bool) (H : ascii_all_ascii_Text_1.f K p0 = some r) (w0 : World)  : Calls Tryz.prog 50 ⟨[S p0, .func (.func 51) #[] #[]]⟩ w0 fun e w => ∃ u, e = .returned u ∧ ascii_all_ascii_Text_1.post w0 r u w := by
  unfold ascii_all_ascii_Text_1.f at H
  refine st_start (N := 19) [S p0, .func (.func 51) #[] #[]] (C50 []) func50 (by kernel_rfl) (by kernel_rfl) (by kernel_rfl) ?_
  intro a w hk ho
  refine st_seq (C50 [0]) (C50 [1]) (by kernel_rfl) ?_
  refine st_region 0 (opsOf (C50 [0])) [0] (by kernel_rfl) (by kernel_rfl) ?_
  refine st_pure tabOK hk [0] [] [0, 1] [(0, S p0), (1, .func (.func 51) #[] #[])] (True) (by kernel_rfl) trivial ?_
  clear hk; intro a hk
  refine st_done ?_
  refine st_seq (C50 [1, 0]) (C50 [1, 1]) (by kernel_rfl) ?_
  refine st_seq (C50 [1, 0, 0]) (C50 [1, 0, 1]) (by kernel_rfl) ?_
  refine st_region 1 (opsOf (C50 [1, 0, 0])) [0, 1, 2, 3] (by kernel_rfl) (by kernel_rfl) ?_
  refine st_pure tabOK hk [0] [1, 2, 3] [1, 7] [(1, .func (.func 51) #[] #[]), (7, S p0)] (True) (by kernel_rfl) trivial ?_
  clear hk; intro a hk
  have h1 : p0.length ≤ 4294967296 := by
    by_cases h1 : p0.length ≤ 4294967296
    · exact h1
    · rw [if_neg h1] at H; cases H
  rw [if_pos h1] at H
  refine st_bytes tabOK hk ho 9 30 5 8 p0 (by kernel_rfl) (by kernel_rfl) (by kernel_rfl) (by kernel_rfl) h1 ?_
  clear hk ho; intro a o2 c3 w h4 hk ho
  refine st_pure tabOK hk [2, 3] [] [1, 8, 9, 10] [(1, .func (.func 51) #[] #[]), (8, .slice o2 p0.length c3), (9, I (p0.length : Int)), (10, I 0)] (True) (by kernel_rfl) trivial ?_
  clear hk; intro a hk
  refine st_done ?_
  refine st_block 0 (C50 [1, 0, 1, 0]) (by kernel_rfl) ?_
  obtain ⟨m16, h17, H⟩ := Option.bind_eq_some_iff.1 H
  refine st_loop (C50 [1, 0, 1, 0, 0]) (by kernel_rfl) ?_
  refine ascii_all_ascii_Text_1.l0_ok K p0 0 m16 h17 o2 c3 w0 _ _ a w  (hk.to [1, 8, 9, 10] _ (by kernel_rfl)) ho ?_ ?_
  · intro s18  a w e hk ho; subst e
    simp only [] at H
    refine st_seq (C50 [1, 1, 0]) (C50 [1, 1, 1]) (by kernel_rfl) ?_
    refine st_region 7 (opsOf (C50 [1, 1, 0])) [0] (by kernel_rfl) (by kernel_rfl) ?_
    refine st_pure tabOK hk [0] [] [4] [(4, .bool true)] (True) (by kernel_rfl) trivial ?_
    clear hk; intro a hk
    refine st_done ?_
    refine st_retG hk (by kernel_rfl) [.bool true] #[.tmp 4] (by kernel_rfl) ⟨resT hk (by kernel_rfl), trivial⟩ ?_
    obtain rfl := Option.some.inj H
    exact ⟨_, rfl, rfl, ho⟩
  · intro r19  a w e hk ho; subst e
    simp only [] at H
    refine retG hk [.bool r19] #[.tmp 4] (by kernel_rfl) ⟨resT hk (by kernel_rfl), trivial⟩ ?_
    obtain rfl := Option.some.inj H
    exact ⟨_, rfl, rfl, ho⟩


/-! scullery/ascii.Text: function 27 -/
noncomputable def C27 (p : List Nat) : Code := Sub (bodyOf f27) p
def ascii_Text.f (K : Nat) (p0 : Str) : Option (Bool) := (((ascii_all_ascii_Text_1.f K p0).bind fun t1 => (((if t1 = true then ((ascii_Trim.f p0).bind fun t6 => some (t6 == p0)) else some false)).bind fun m3 => some m3)))
abbrev ascii_Text.post (w0 : World) (r : Bool) (u : Value) (w : World) : Prop := u = .bool r ∧ Ows [] w0 w []
theorem ascii_Text.ok (K : Nat) (p0 : Str) (r : Bool) (H : ascii_Text.f K p0 = some r) (w0 : World) (hg : Glob w0) : Calls Tryz.prog 27 ⟨[S p0]⟩ w0 fun e w => ∃ u, e = .returned u ∧ ascii_Text.post w0 r u w := by
  unfold ascii_Text.f at H
  refine st_start (N := 11) [S p0] (C27 []) func27 (by kernel_rfl) (by kernel_rfl) (by kernel_rfl) ?_
  intro a w hk ho
  refine st_seq (C27 [0]) (C27 [1]) (by kernel_rfl) ?_
  refine st_region 0 (opsOf (C27 [0])) [0] (by kernel_rfl) (by kernel_rfl) ?_
  refine st_pure tabOK hk [0] [] [0] [(0, S p0)] (True) (by kernel_rfl) trivial ?_
  clear hk; intro a hk
  refine st_done ?_
  refine st_seq (C27 [1, 0]) (C27 [1, 1]) (by kernel_rfl) ?_
  refine st_region 1 (opsOf (C27 [1, 0])) [0, 1, 2, 3, 4, 5, 6, 7, 8] (by kernel_rfl) (by kernel_rfl) ?_
  refine st_pure tabOK hk [0] [1, 2, 3, 4, 5, 6, 7, 8] [0, 3] [(0, S p0), (3, S p0)] (True) (by kernel_rfl) trivial ?_
  clear hk; intro a hk
  obtain ⟨t1, h2, H⟩ := Option.bind_eq_some_iff.1 H
  refine st_call hk 50 [S p0, .func (.func 51) #[] #[]] (some 4) enters50 (by kernel_rfl) (ascii_all_ascii_Text_1.ok K  p0 t1 h2 w ) ?_
  clear hk; rintro a u w ⟨rfl, ho'⟩ hk
  replace ho : Ows [] w0 w [] := ho.call ho'; clear ho'
  refine st_pure tabOK hk [2] [3, 4, 5, 6, 7, 8] [0, 5] [(0, S p0), (5, .bool t1)] (True) (by kernel_rfl) trivial ?_
  clear hk; intro a hk
  obtain ⟨m3, HX, H⟩ := Option.bind_eq_some_iff.1 H
  refine cut_ops (fun a w => Kn 11 a [(2, .bool m3)] ∧ Ows [] w0 w []) ?_ ?_
  · intro J; clear H; have H := HX; clear HX
    rcases Bool.eq_false_or_eq_true (t1) with h4 | h4
    ·
      rw [h4] at hk
      have h5 : t1 = true := h4
      rw [if_pos h5] at H
      refine st_pure tabOK hk [3] [4, 5, 6, 7, 8] [0, 5, 6] [(0, S p0), (5, .bool true), (6, S p0)] (True) (by kernel_rfl) trivial ?_
      clear hk; intro a hk
      obtain ⟨t6, h7, H⟩ := Option.bind_eq_some_iff.1 H
      refine st_call hk 28 [S p0] (some 7) enters28 (by kernel_rfl) (ascii_Trim.ok  p0 t6 h7 w (hg.of ho)) ?_
      clear hk; rintro a u w ⟨rfl, ho'⟩ hk
      replace ho : Ows [] w0 w [] := ho.call ho'; clear ho'
      refine st_pure tabOK hk [5, 6, 7, 8] [] [2] [(2, .bool (t6 == p0))] (True) (by kernel_rfl) trivial ?_
      clear hk; intro a hk
      refine st_done ?_
      obtain rfl := Option.some.inj H
      exact J a w ⟨hk.to [2] _ (by kernel_rfl), ho⟩
    ·
      rw [h4] at hk
      have h8 : ¬ (t1 = true) := ne_true_of_eq_false h4
      rw [if_neg h8] at H
      refine st_pure tabOK hk [3, 4, 5, 6, 7, 8] [] [2] [(2, .bool false)] (True) (by kernel_rfl) trivial ?_
      clear hk; intro a hk
      refine st_done ?_
      obtain rfl := Option.some.inj H
      exact J a w ⟨hk.to [2] _ (by kernel_rfl), ho⟩
  · clear HX; rintro a w ⟨hk, ho⟩
    refine st_retG hk (by kernel_rfl) [.bool m3] #[.tmp 2] (by kernel_rfl) ⟨resT hk (by kernel_rfl), trivial⟩ ?_
    obtain rfl := Option.some.inj H
    exact ⟨_, rfl, rfl, ho⟩


/-! scullery/chunk.size: function 14 -/
noncomputable def C14 (p : List Nat) : Code := Sub (bodyOf f14) p
def chunk_size.f (K : Nat) (p0 : Str) : Option (Int × Bool) := (((strings_TrimLeft.f p0 ([48, 49, 50, 51, 52, 53, 54, 55, 56, 57, 97, 98, 99, 100, 101, 102, 65, 66, 67, 68, 69, 70])).bind fun t1 => (if ((decide (w64 ((p0.length : Int) - (t1.length : Int)) < 1)) || (decide (w64 ((p0.length : Int) - (t1.length : Int)) > 8))) = true then some (0, false) else (if (0 : Int) ≤ w64 ((p0.length : Int) - (t1.length : Int)) then (if w64 ((p0.length : Int) - (t1.length : Int)) ≤ (p0.length : Int) then ((strconv_ParseInt_16_64.f K (p0.take (w64 ((p0.length : Int) - (t1.length : Int))).toNat)).bind fun t11 => (if (t1 == ([])) = true then some (t11, true) else ((strings_TrimLeft.f t1 ([32, 9])).bind fun t16 => ((strings_CutPrefix.f t16 ([59])).bind fun t18 => (((if t18.2 = true then ((ascii_Trim.f t18.1).bind fun t23 => ((ascii_Text.f K t23).bind fun t25 => some t25)) else some false)).bind fun m20 => some (t11, m20)))))) else none) else none))))
abbrev chunk_size.post (w0 : World) (r : Int × Bool) (u : Value) (w : World) : Prop := u = .tuple #[I r.1, .bool r.2] ∧ Ows [] w0 w []
theorem chunk_size.ok (K : Nat) (p0 : Str) (r : Int × Bool) (H : chunk_size.f K p0 = some r) (w0 : World) (hg : Glob w0) : Calls Tryz.prog 14 ⟨[S p0]⟩ w0 fun e w => ∃ u, e = .returned u ∧ chunk_size.post w0 r u w := by
  unfold chunk_size.f at H
  refine st_start (N := 46) [S p0] (C14 []) func14 (by kernel_rfl) (by kernel_rfl) (by kernel_rfl) ?_
  intro a w hk ho
  refine st_seq (C14 [0]) (C14 [1]) (by kernel_rfl) ?_
  refine st_region 0 (opsOf (C14 [0])) [0, 1] (by kernel_rfl) (by kernel_rfl) ?_
  refine st_pure tabOK hk [0, 1] [] [0] [(0, S p0)] (True) (by kernel_rfl) trivial ?_
  clear hk; intro a hk
  refine st_done ?_
  refine st_seq (C14 [1, 0]) (C14 [1, 1]) (by kernel_rfl) ?_
  refine st_region 1 (opsOf (C14 [1, 0])) [0, 1, 2] (by kernel_rfl) (by kernel_rfl) ?_
  refine st_pure tabOK hk [0] [1, 2] [0, 10] [(0, S p0), (10, S p0)] (True) (by kernel_rfl) trivial ?_
  clear hk; intro a hk
  obtain ⟨t1, h2, H⟩ := Option.bind_eq_some_iff.1 H
  refine st_call hk 24 [S p0, S ([48, 49, 50, 51, 52, 53, 54, 55, 56, 57, 97, 98, 99, 100, 101, 102, 65, 66, 67, 68, 69, 70])] (some 11) enters24 (by kernel_rfl) (strings_TrimLeft.ok  p0 ([48, 49, 50, 51, 52, 53, 54, 55, 56, 57, 97, 98, 99, 100, 101, 102, 65, 66, 67, 68, 69, 70]) t1 h2 w ) ?_
  clear hk; rintro a u w ⟨rfl, ho'⟩ hk
  replace ho : Ows [] w0 w [] := ho.call ho'; clear ho'
  refine st_pure tabOK hk [2] [] [0, 4] [(0, S p0), (4, S t1)] (True) (by kernel_rfl) trivial ?_
  clear hk; intro a hk
  refine st_done ?_
  refine st_seq (C14 [1, 1, 0]) (C14 [1, 1, 1]) (by kernel_rfl) ?_
  refine st_region 2 (opsOf (C14 [1, 1, 0])) [0, 1, 2, 3, 4, 5] (by kernel_rfl) (by kernel_rfl) ?_
  refine st_pure tabOK hk [0, 1, 2, 3, 4, 5] [] [0, 4, 5] [(0, S p0), (4, S t1), (5, I (w64 ((p0.length : Int) - (t1.length : Int))))] (True) (by kernel_rfl) trivial ?_
  clear hk; intro a hk
  refine st_done ?_
  refine st_seq (C14 [1, 1, 1, 0]) (C14 [1, 1, 1, 1]) (by kernel_rfl) ?_
  refine st_seq (C14 [1, 1, 1, 0, 0]) (C14 [1, 1, 1, 0, 1]) (by kernel_rfl) ?_
  refine st_region 3 (opsOf (C14 [1, 1, 1, 0, 0])) [0, 1, 2, 3, 4, 5] (by kernel_rfl) (by kernel_rfl) ?_
  refine st_pure tabOK hk [0, 1, 2] [3, 4, 5] [0, 4, 5, 19] [(0, S p0), (4, S t1), (5, I (w64 ((p0.length : Int) - (t1.length : Int)))), (19, .bool (decide (w64 ((p0.length : Int) - (t1.length : Int)) < 1)))] (True) (by kernel_rfl) trivial ?_
  clear hk; intro a hk
  refine cut_ops (fun a w => Kn 46 a [(0, S p0), (4, S t1), (5, I (w64 ((p0.length : Int) - (t1.length : Int)))), (22, .bool ((decide (w64 ((p0.length : Int) - (t1.length : Int)) < 1)) || (decide (w64 ((p0.length : Int) - (t1.length : Int)) > 8))))] ∧ Ows [] w0 w []) ?_ ?_
  · intro J
    rcases Bool.eq_false_or_eq_true (decide (w64 ((p0.length : Int) - (t1.length : Int)) < 1)) with h3 | h3
    ·
      rw [h3] at hk
      have h4 : w64 ((p0.length : Int) - (t1.length : Int)) < 1 := of_decide_eq_true h3
      refine st_pure tabOK hk [3, 4, 5] [] [0, 4, 5, 22] [(0, S p0), (4, S t1), (5, I (w64 ((p0.length : Int) - (t1.length : Int)))), (22, .bool true)] (True) (by kernel_rfl) trivial ?_
      clear hk; intro a hk
      refine st_done ?_
      have e : ((decide (w64 ((p0.length : Int) - (t1.length : Int)) < 1)) || (decide (w64 ((p0.length : Int) - (t1.length : Int)) > 8))) = true := by first | (simp only [h3]; done) | (simp only [h3]; rfl) | rfl | simp [h3]
      exact J a w ⟨by rw [e]; exact hk.to [0, 4, 5, 22] _ (by kernel_rfl), ho⟩
    ·
      rw [h3] at hk
      have h5 : ¬ (w64 ((p0.length : Int) - (t1.length : Int)) < 1) := of_decide_eq_false h3
      refine st_pure tabOK hk [3, 4, 5] [] [0, 4, 5, 22] [(0, S p0), (4, S t1), (5, I (w64 ((p0.length : Int) - (t1.length : Int)))), (22, .bool (decide (w64 ((p0.length : Int) - (t1.length : Int)) > 8)))] (True) (by kernel_rfl) trivial ?_
      clear hk; intro a hk
      refine st_done ?_
      have e : ((decide (w64 ((p0.length : Int) - (t1.length : Int)) < 1)) || (decide (w64 ((p0.length : Int) - (t1.length : Int)) > 8))) = (decide (w64 ((p0.length : Int) - (t1.length : Int)) > 8)) := by first | (simp only [h3]; done) | (simp only [h3]; rfl) | rfl | simp [h3]
      exact J a w ⟨by rw [e]; exact hk.to [0, 4, 5, 22] _ (by kernel_rfl), ho⟩
  · rintro a w ⟨hk, ho⟩
    refine st_cond hk (C14 [1, 1, 1, 0, 1, 0]) (C14 [1, 1, 1, 0, 1, 1]) (.tmp 22) (((decide (w64 ((p0.length : Int) - (t1.length : Int)) < 1)) || (decide (w64 ((p0.length : Int) - (t1.length : Int)) > 8)))) (by kernel_rfl) (by kernel_rfl) (fun h6 => ?_) (fun h6 => ?_)
    ·
      have h7 : ((decide (w64 ((p0.length : Int) - (t1.length : Int)) < 1)) || (decide (w64 ((p0.length : Int) - (t1.length : Int)) > 8))) = true := h6
      rw [if_pos h7] at H
      refine st_seq (C14 [1, 1, 1, 0, 1, 0, 0]) (C14 [1, 1, 1, 0, 1, 0, 1]) (by kernel_rfl) ?_
      refine st_region 4 (opsOf (C14 [1, 1, 1, 0, 1, 0, 0])) [0, 1] (by kernel_rfl) (by kernel_rfl) ?_
      refine st_pure tabOK hk [0, 1] [] [2, 3] [(2, I 0), (3, .bool false)] (True) (by kernel_rfl) trivial ?_
      clear hk; intro a hk
      refine st_done ?_
      refine st_retG hk (by kernel_rfl) [I 0, .bool false] #[.tmp 2, .tmp 3] (by kernel_rfl) ⟨resT hk (by kernel_rfl), resT hk (by kernel_rfl), trivial⟩ ?_
      obtain rfl := Option.some.inj H
      exact ⟨_, rfl, rfl, ho⟩
    ·
      have h8 : ¬ (((decide (w64 ((p0.length : Int) - (t1.length : Int)) < 1)) || (decide (w64 ((p0.length : Int) - (t1.length : Int)) > 8))) = true) := ne_true_of_eq_false h6
      rw [if_neg h8] at H
      refine st_skip (by kernel_rfl) ?_
      refine st_seq (C14 [1, 1, 1, 1, 0]) (C14 [1, 1, 1, 1, 1]) (by kernel_rfl) ?_
      refine st_region 5 (opsOf (C14 [1, 1, 1, 1, 0])) [0, 1, 2, 3, 4, 5, 6, 7, 8] (by kernel_rfl) (by kernel_rfl) ?_
      have h9 : (0 : Int) ≤ w64 ((p0.length : Int) - (t1.length : Int)) := by
        by_cases h9 : (0 : Int) ≤ w64 ((p0.length : Int) - (t1.length : Int))
        · exact h9
        · rw [if_neg h9] at H; cases H
      rw [if_pos h9] at H
      have h10 : w64 ((p0.length : Int) - (t1.length : Int)) ≤ (p0.length : Int) := by
        by_cases h10 : w64 ((p0.length : Int) - (t1.length : Int)) ≤ (p0.length : Int)
        · exact h10
        · rw [if_neg h10] at H; cases H
      rw [if_pos h10] at H
      refine st_pure tabOK hk [0, 1, 2] [3, 4, 5, 6, 7, 8] [4, 26] [(4, S t1), (26, S (p0.take (w64 ((p0.length : Int) - (t1.length : Int))).toNat))] (((0 : Int) ≤ w64 ((p0.length : Int) - (t1.length : Int)) ∧ w64 ((p0.length : Int) - (t1.length : Int)) ≤ (p0.length : Int)) ∧ True) (by kernel_rfl) ⟨⟨h9, h10⟩, trivial⟩ ?_
      clear hk; intro a hk
      obtain ⟨t11, h12, H⟩ := Option.bind_eq_some_iff.1 H
      refine st_call hk 25 [S (p0.take (w64 ((p0.length : Int) - (t1.length : Int))).toNat), I 16, I 64] (some 27) enters25 (by kernel_rfl) (strconv_ParseInt_16_64.ok K  (p0.take (w64 ((p0.length : Int) - (t1.length : Int))).toNat) t11 h12 w ) ?_
      clear hk; rintro a u w ⟨rfl, ho'⟩ hk
      replace ho : Ows [] w0 w [] := ho.call ho'; clear ho'
      refine st_pure tabOK hk [4, 5, 6, 7, 8] [] [4, 6] [(4, S t1), (6, I t11)] (True) (by kernel_rfl) trivial ?_
      clear hk; intro a hk
      refine st_done ?_
      refine st_seq (C14 [1, 1, 1, 1, 1, 0]) (C14 [1, 1, 1, 1, 1, 1]) (by kernel_rfl) ?_
      refine st_seq (C14 [1, 1, 1, 1, 1, 0, 0]) (C14 [1, 1, 1, 1, 1, 0, 1]) (by kernel_rfl) ?_
      refine st_region 6 (opsOf (C14 [1, 1, 1, 1, 1, 0, 0])) [0, 1] (by kernel_rfl) (by kernel_rfl) ?_
      refine st_pure tabOK hk [0, 1] [] [4, 6, 31] [(4, S t1), (6, I t11), (31, .bool (t1 == ([])))] (True) (by kernel_rfl) trivial ?_
      clear hk; intro a hk
      refine st_done ?_
      refine st_cond hk (C14 [1, 1, 1, 1, 1, 0, 1, 0]) (C14 [1, 1, 1, 1, 1, 0, 1, 1]) (.tmp 31) (t1 == ([])) (by kernel_rfl) (by kernel_rfl) (fun h13 => ?_) (fun h13 => ?_)
      ·
        have h14 : (t1 == ([])) = true := h13
        rw [if_pos h14] at H
        refine st_seq (C14 [1, 1, 1, 1, 1, 0, 1, 0, 0]) (C14 [1, 1, 1, 1, 1, 0, 1, 0, 1]) (by kernel_rfl) ?_
        refine st_region 7 (opsOf (C14 [1, 1, 1, 1, 1, 0, 1, 0, 0])) [0, 1, 2] (by kernel_rfl) (by kernel_rfl) ?_
        refine st_pure tabOK hk [0, 1, 2] [] [2, 3] [(2, I t11), (3, .bool true)] (True) (by kernel_rfl) trivial ?_
        clear hk; intro a hk
        refine st_done ?_
        refine st_retG hk (by kernel_rfl) [I t11, .bool true] #[.tmp 2, .tmp 3] (by kernel_rfl) ⟨resT hk (by kernel_rfl), resT hk (by kernel_rfl), trivial⟩ ?_
        obtain rfl := Option.some.inj H
        exact ⟨_, rfl, rfl, ho⟩
      ·
        have h15 : ¬ ((t1 == ([])) = true) := ne_true_of_eq_false h13
        rw [if_neg h15] at H
        refine st_skip (by kernel_rfl) ?_
        refine st_seq (C14 [1, 1, 1, 1, 1, 1, 0]) (C14 [1, 1, 1, 1, 1, 1, 1]) (by kernel_rfl) ?_
        refine st_region 8 (opsOf (C14 [1, 1, 1, 1, 1, 1, 0])) [0, 1, 2, 3, 4, 5, 6, 7] (by kernel_rfl) (by kernel_rfl) ?_
        refine st_pure tabOK hk [0] [1, 2, 3, 4, 5, 6, 7] [6, 34] [(6, I t11), (34, S t1)] (True) (by kernel_rfl) trivial ?_
        clear hk; intro a hk
        obtain ⟨t16, h17, H⟩ := Option.bind_eq_some_iff.1 H
        refine st_call hk 24 [S t1, S ([32, 9])] (some 35) enters24 (by kernel_rfl) (strings_TrimLeft.ok  t1 ([32, 9]) t16 h17 w ) ?_
        clear hk; rintro a u w ⟨rfl, ho'⟩ hk
        replace ho : Ows [] w0 w [] := ho.call ho'; clear ho'
        obtain ⟨t18, h19, H⟩ := Option.bind_eq_some_iff.1 H
        refine st_call hk 26 [S t16, S ([59])] (some 36) enters26 (by kernel_rfl) (strings_CutPrefix.ok  t16 ([59]) t18 h19 w ) ?_
        clear hk; rintro a u w ⟨rfl, ho'⟩ hk
        replace ho : Ows [] w0 w [] := ho.call ho'; clear ho'
        refine st_pure tabOK hk [3, 4, 5, 6, 7] [] [6, 8, 9] [(6, I t11), (8, S t18.1), (9, .bool t18.2)] (True) (by kernel_rfl) trivial ?_
        clear hk; intro a hk
        refine st_done ?_
        refine st_seq (C14 [1, 1, 1, 1, 1, 1, 1, 0]) (C14 [1, 1, 1, 1, 1, 1, 1, 1]) (by kernel_rfl) ?_
        refine st_region 9 (opsOf (C14 [1, 1, 1, 1, 1, 1, 1, 0])) [0, 1, 2, 3, 4, 5, 6, 7, 8] (by kernel_rfl) (by kernel_rfl) ?_
        refine st_pure tabOK hk [0, 1, 2] [3, 4, 5, 6, 7, 8] [8, 39, 41] [(8, S t18.1), (39, I t11), (41, .bool t18.2)] (True) (by kernel_rfl) trivial ?_
        clear hk; intro a hk
        obtain ⟨m20, HX, H⟩ := Option.bind_eq_some_iff.1 H
        refine cut_ops (fun a w => Kn 46 a [(2, I t11), (3, .bool m20)] ∧ Ows [] w0 w []) ?_ ?_
        · intro J; clear H; have H := HX; clear HX
          rcases Bool.eq_false_or_eq_true (t18.2) with h21 | h21
          ·
            rw [h21] at hk
            have h22 : t18.2 = true := h21
            rw [if_pos h22] at H
            refine st_pure tabOK hk [3] [4, 5, 6, 7, 8] [39, 41, 42] [(39, I t11), (41, .bool true), (42, S t18.1)] (True) (by kernel_rfl) trivial ?_
            clear hk; intro a hk
            obtain ⟨t23, h24, H⟩ := Option.bind_eq_some_iff.1 H
            refine st_call hk 28 [S t18.1] (some 43) enters28 (by kernel_rfl) (ascii_Trim.ok  t18.1 t23 h24 w (hg.of ho)) ?_
            clear hk; rintro a u w ⟨rfl, ho'⟩ hk
            replace ho : Ows [] w0 w [] := ho.call ho'; clear ho'
            obtain ⟨t25, h26, H⟩ := Option.bind_eq_some_iff.1 H
            refine st_call hk 27 [S t23] (some 44) enters27 (by kernel_rfl) (ascii_Text.ok K  t23 t25 h26 w (hg.of ho)) ?_
            clear hk; rintro a u w ⟨rfl, ho'⟩ hk
            replace ho : Ows [] w0 w [] := ho.call ho'; clear ho'
            refine st_pure tabOK hk [6, 7, 8] [] [2, 3] [(2, I t11), (3, .bool t25)] (True) (by kernel_rfl) trivial ?_
            clear hk; intro a hk
            refine st_done ?_
            obtain rfl := Option.some.inj H
            exact J a w ⟨hk.to [2, 3] _ (by kernel_rfl), ho⟩
          ·
            rw [h21] at hk
            have h27 : ¬ (t18.2 = true) := ne_true_of_eq_false h21
            rw [if_neg h27] at H
            refine st_pure tabOK hk [3, 4, 5, 6, 7, 8] [] [2, 3] [(2, I t11), (3, .bool false)] (True) (by kernel_rfl) trivial ?_
            clear hk; intro a hk
            refine st_done ?_
            obtain rfl := Option.some.inj H
            exact J a w ⟨hk.to [2, 3] _ (by kernel_rfl), ho⟩
        · clear HX; rintro a w ⟨hk, ho⟩
          refine st_retG hk (by kernel_rfl) [I t11, .bool m20] #[.tmp 2, .tmp 3] (by kernel_rfl) ⟨resT hk (by kernel_rfl), resT hk (by kernel_rfl), trivial⟩ ?_
          obtain rfl := Option.some.inj H
          exact ⟨_, rfl, rfl, ho⟩


/-! (*strings.Builder).Len: function 15 -/
noncomputable def C15 (p : List Nat) : Code := Sub (bodyOf f15) p
def strings_Builder_Len_pnsn.f  : Option (Int) := some 0
abbrev strings_Builder_Len_pnsn.post (b1 : Nat) (w0 : World) (r : Int) (u : Value) (w : World) : Prop := u = I r ∧ Ows [b1] w0 w [.blk b1 (.cells #[.pointer none, .slice none 0 0] 32 (0, 0))]
theorem strings_Builder_Len_pnsn.ok  (r : Int) (H : strings_Builder_Len_pnsn.f  = some r) (w0 : World) (b1 : Nat) (hh : Has w0 [.blk b1 (.cells #[.pointer none, .slice none 0 0] 32 (0, 0))]) : Calls Tryz.prog 15 ⟨[.pointer (some ⟨b1, 0, none⟩)]⟩ w0 fun e w => ∃ u, e = .returned u ∧ strings_Builder_Len_pnsn.post b1 w0 r u w := by
  unfold strings_Builder_Len_pnsn.f at H
  refine st_startL (N := 8) [.pointer (some ⟨b1, 0, none⟩)] (C15 []) func15 (by kernel_rfl) (by kernel_rfl) (by kernel_rfl) ([.blk b1 (.cells #[.pointer none, .slice none 0 0] 32 (0, 0))]) hh ?_
  intro a w hk ho
  replace ho : Ows [b1] w0 w [.blk b1 (.cells #[.pointer none, .slice none 0 0] 32 (0, 0))] := ho
  refine st_seq (C15 [0]) (C15 [1]) (by kernel_rfl) ?_
  refine st_region 0 (opsOf (C15 [0])) [0] (by kernel_rfl) (by kernel_rfl) ?_
  refine st_pure tabOK hk [0] [] [0] [(0, .pointer (some ⟨b1, 0, none⟩))] (True) (by kernel_rfl) trivial ?_
  clear hk; intro a hk
  refine st_done ?_
  refine st_seq (C15 [1, 0]) (C15 [1, 1]) (by kernel_rfl) ?_
  refine st_region 1 (opsOf (C15 [1, 0])) [0, 1, 2, 3, 4, 5] (by kernel_rfl) (by kernel_rfl) ?_
  refine st_pure tabOK hk [0, 1, 2] [3, 4, 5] [5] [(5, .pointer (some ⟨b1, 1, none⟩))] (((some ⟨b1, 0, none⟩ : Option Addr).isSome = true) ∧ (((some ⟨b1, 0, none⟩ : Option Addr).isSome = true) ∧ True)) (by kernel_rfl) ⟨rfl, ⟨rfl, trivial⟩⟩ ?_
  clear hk; intro a hk
  refine st_load1 tabOK hk 30 (some ⟨b1, 1, none⟩) 6 (by kernel_rfl) (by kernel_rfl) (.slice none 0 0) (ho.cell 0 rfl rfl) ?_
  clear hk; intro a hk
  refine st_pure tabOK hk [4, 5] [] [2] [(2, I 0)] (True) (by kernel_rfl) trivial ?_
  clear hk; intro a hk
  refine st_done ?_
  refine st_retG hk (by kernel_rfl) [I 0] #[.tmp 2] (by kernel_rfl) ⟨resT hk (by kernel_rfl), trivial⟩ ?_
  obtain rfl := Option.some.inj H
  exact ⟨_, rfl, rfl, ho⟩


/-! internal/stringslite.CutSuffix: function 76 -/
noncomputable def C76 (p : List Nat) : Code := Sub (bodyOf f76) p
def stringslite_CutSuffix.f (p0 : Str) (p1 : Str) : Option (Str × Bool) := (((stringslite_HasSuffix.f p0 p1).bind fun t1 => (if (!t1) = true then some (p0, false) else (if (0 : Int) ≤ w64 ((p0.length : Int) - (p1.length : Int)) then (if w64 ((p0.length : Int) - (p1.length : Int)) ≤ (p0.length : Int) then some (p0.take (w64 ((p0.length : Int) - (p1.length : Int))).toNat, true) else none) else none))))
abbrev stringslite_CutSuffix.post (w0 : World) (r : Str × Bool) (u : Value) (w : World) : Prop := u = .tuple #[S r.1, .bool r.2] ∧ Ows [] w0 w []
theorem stringslite_CutSuffix.ok (p0 : Str) (p1 : Str) (r : Str × Bool) (H : stringslite_CutSuffix.f p0 p1 = some r) (w0 : World)  : Calls Tryz.prog 76 ⟨[S p0, S p1]⟩ w0 fun e w => ∃ u, e = .returned u ∧ stringslite_CutSuffix.post w0 r u w := by
  unfold stringslite_CutSuffix.f at H
  refine st_start (N := 18) [S p0, S p1] (C76 []) func76 (by kernel_rfl) (by kernel_rfl) (by kernel_rfl) ?_
  intro a w hk ho
  refine st_seq (C76 [0]) (C76 [1]) (by kernel_rfl) ?_
  refine st_region 0 (opsOf (C76 [0])) [0, 1] (by kernel_rfl) (by kernel_rfl) ?_
  refine st_pure tabOK hk [0, 1] [] [0, 1] [(0, S p0), (1, S p1)] (True) (by kernel_rfl) trivial ?_
  clear hk; intro a hk
  refine st_done ?_
  refine st_seq (C76 [1, 0]) (C76 [1, 1]) (by kernel_rfl) ?_
  refine st_seq (C76 [1, 0, 0]) (C76 [1, 0, 1]) (by kernel_rfl) ?_
  refine st_region 1 (opsOf (C76 [1, 0, 0])) [0, 1, 2, 3] (by kernel_rfl) (by kernel_rfl) ?_
  refine st_pure tabOK hk [0, 1] [2, 3] [0, 1, 6, 7] [(0, S p0), (1, S p1), (6, S p0), (7, S p1)] (True) (by kernel_rfl) trivial ?_
  clear hk; intro a hk
  obtain ⟨t1, h2, H⟩ := Option.bind_eq_some_iff.1 H
  refine st_call hk 42 [S p0, S p1] (some 8) enters42 (by kernel_rfl) (stringslite_HasSuffix.ok  p0 p1 t1 h2 w ) ?_
  clear hk; rintro a u w ⟨rfl, ho'⟩ hk
  replace ho : Ows [] w0 w [] := ho.call ho'; clear ho'
  refine st_pure tabOK hk [3] [] [0, 1, 9] [(0, S p0), (1, S p1), (9, .bool (!t1))] (True) (by kernel_rfl) trivial ?_
  clear hk; intro a hk
  refine st_done ?_
  refine st_cond hk (C76 [1, 0, 1, 0]) (C76 [1, 0, 1, 1]) (.tmp 9) (!t1) (by kernel_rfl) (by kernel_rfl) (fun h3 => ?_) (fun h3 => ?_)
  ·
    have h4 : (!t1) = true := h3
    rw [if_pos h4] at H
    refine st_seq (C76 [1, 0, 1, 0, 0]) (C76 [1, 0, 1, 0, 1]) (by kernel_rfl) ?_
    refine st_region 2 (opsOf (C76 [1, 0, 1, 0, 0])) [0, 1, 2] (by kernel_rfl) (by kernel_rfl) ?_
    refine st_pure tabOK hk [0, 1, 2] [] [4, 5] [(4, S p0), (5, .bool false)] (True) (by kernel_rfl) trivial ?_
    clear hk; intro a hk
    refine st_done ?_
    refine st_retG hk (by kernel_rfl) [S p0, .bool false] #[.tmp 4, .tmp 5] (by kernel_rfl) ⟨resT hk (by kernel_rfl), resT hk (by kernel_rfl), trivial⟩ ?_
    obtain rfl := Option.some.inj H
    exact ⟨_, rfl, rfl, ho⟩
  ·
    have h5 : ¬ ((!t1) = true) := ne_true_of_eq_false h3
    rw [if_neg h5] at H
    refine st_skip (by kernel_rfl) ?_
    refine st_seq (C76 [1, 1, 0]) (C76 [1, 1, 1]) (by kernel_rfl) ?_
    refine st_region 3 (opsOf (C76 [1, 1, 0])) [0, 1, 2, 3, 4, 5, 6, 7, 8] (by kernel_rfl) (by kernel_rfl) ?_
    have h6 : (0 : Int) ≤ w64 ((p0.length : Int) - (p1.length : Int)) := by
      by_cases h6 : (0 : Int) ≤ w64 ((p0.length : Int) - (p1.length : Int))
      · exact h6
      · rw [if_neg h6] at H; cases H
    rw [if_pos h6] at H
    have h7 : w64 ((p0.length : Int) - (p1.length : Int)) ≤ (p0.length : Int) := by
      by_cases h7 : w64 ((p0.length : Int) - (p1.length : Int)) ≤ (p0.length : Int)
      · exact h7
      · rw [if_neg h7] at H; cases H
    rw [if_pos h7] at H
    refine st_pure tabOK hk [0, 1, 2, 3, 4, 5, 6, 7, 8] [] [4, 5] [(4, S (p0.take (w64 ((p0.length : Int) - (p1.length : Int))).toNat)), (5, .bool true)] (((0 : Int) ≤ w64 ((p0.length : Int) - (p1.length : Int)) ∧ w64 ((p0.length : Int) - (p1.length : Int)) ≤ (p0.length : Int)) ∧ True) (by kernel_rfl) ⟨⟨h6, h7⟩, trivial⟩ ?_
    clear hk; intro a hk
    refine st_done ?_
    refine st_retG hk (by kernel_rfl) [S (p0.take (w64 ((p0.length : Int) - (p1.length : Int))).toNat), .bool true] #[.tmp 4, .tmp 5] (by kernel_rfl) ⟨resT hk (by kernel_rfl), resT hk (by kernel_rfl), trivial⟩ ?_
    obtain rfl := Option.some.inj H
    exact ⟨_, rfl, rfl, ho⟩


/-! strings.CutSuffix: function 54 -/
noncomputable def C54 (p : List Nat) : Code := Sub (bodyOf f54) p
def strings_CutSuffix.f (p0 : Str) (p1 : Str) : Option (Str × Bool) := (((stringslite_CutSuffix.f p0 p1).bind fun t1 => some (t1.1, t1.2)))
abbrev strings_CutSuffix.post (w0 : World) (r : Str × Bool) (u : Value) (w : World) : Prop := u = .tuple #[S r.1, .bool r.2] ∧ Ows [] w0 w []
theorem strings_CutSuffix.ok (p0 : Str) (p1 : Str) (r : Str × Bool) (H : strings_CutSuffix.f p0 p1 = some r) (w0 : World)  : Calls Tryz.prog 54 ⟨[S p0, S p1]⟩ w0 fun e w => ∃ u, e = .returned u ∧ strings_CutSuffix.post w0 r u w := by
  unfold strings_CutSuffix.f at H
  refine st_start (N := 11) [S p0, S p1] (C54 []) func54 (by kernel_rfl) (by kernel_rfl) (by kernel_rfl) ?_
  intro a w hk ho
  refine st_seq (C54 [0]) (C54 [1]) (by kernel_rfl) ?_
  refine st_region 0 (opsOf (C54 [0])) [0, 1] (by kernel_rfl) (by kernel_rfl) ?_
  refine st_pure tabOK hk [0, 1] [] [0, 1] [(0, S p0), (1, S p1)] (True) (by kernel_rfl) trivial ?_
  clear hk; intro a hk
  refine st_done ?_
  refine st_seq (C54 [1, 0]) (C54 [1, 1]) (by kernel_rfl) ?_
  refine st_region 1 (opsOf (C54 [1, 0])) [0, 1, 2, 3, 4, 5, 6] (by kernel_rfl) (by kernel_rfl) ?_
  refine st_pure tabOK hk [0, 1] [2, 3, 4, 5, 6] [6, 7] [(6, S p0), (7, S p1)] (True) (by kernel_rfl) trivial ?_
  clear hk; intro a hk
  obtain ⟨t1, h2, H⟩ := Option.bind_eq_some_iff.1 H
  refine st_call hk 76 [S p0, S p1] (some 8) enters76 (by kernel_rfl) (stringslite_CutSuffix.ok  p0 p1 t1 h2 w ) ?_
  clear hk; rintro a u w ⟨rfl, ho'⟩ hk
  replace ho : Ows [] w0 w [] := ho.call ho'; clear ho'
  refine st_pure tabOK hk [3, 4, 5, 6] [] [4, 5] [(4, S t1.1), (5, .bool t1.2)] (True) (by kernel_rfl) trivial ?_
  clear hk; intro a hk
  refine st_done ?_
  refine st_retG hk (by kernel_rfl) [S t1.1, .bool t1.2] #[.tmp 4, .tmp 5] (by kernel_rfl) ⟨resT hk (by kernel_rfl), resT hk (by kernel_rfl), trivial⟩ ?_
  obtain rfl := Option.some.inj H
  exact ⟨_, rfl, rfl, ho⟩


/-! scullery/head.line: function 29 -/
noncomputable def C29 (p : List Nat) : Code := Sub (bodyOf f29) p
def head_line.f (p0 : Str) : Option (Str × Str × Int) := (((strings_Cut.f p0 ([10])).bind fun t1 => (if ((!t1.2.2) && (decide ((p0.length : Int) > 2002))) = true then some ([], [], 4) else (if (!t1.2.2) = true then some ([], [], 3) else ((strings_CutSuffix.f t1.1 ([13])).bind fun t12 => (if (!t12.2) = true then some ([], [], 2) else (if (t12.1.length : Int) > 2000 then some ([], [], 4) else some (t12.1, t1.2.1, 0))))))))
abbrev head_line.post (w0 : World) (r : Str × Str × Int) (u : Value) (w : World) : Prop := u = .tuple #[S r.1, S r.2.1, I r.2.2] ∧ Ows [] w0 w []
theorem head_line.ok (p0 : Str) (r : Str × Str × Int) (H : head_line.f p0 = some r) (w0 : World)  : Calls Tryz.prog 29 ⟨[S p0]⟩ w0 fun e w => ∃ u, e = .returned u ∧ head_line.post w0 r u w := by
  unfold head_line.f at H
  refine st_start (N := 39) [S p0] (C29 []) func29 (by kernel_rfl) (by kernel_rfl) (by kernel_rfl) ?_
  intro a w hk ho
  refine st_seq (C29 [0]) (C29 [1]) (by kernel_rfl) ?_
  refine st_region 0 (opsOf (C29 [0])) [0, 1, 2] (by kernel_rfl) (by kernel_rfl) ?_
  refine st_pure tabOK hk [0, 1, 2] [] [0] [(0, S p0)] (True) (by kernel_rfl) trivial ?_
  clear hk; intro a hk
  refine st_done ?_
  refine st_seq (C29 [1, 0]) (C29 [1, 1]) (by kernel_rfl) ?_
  refine st_region 1 (opsOf (C29 [1, 0])) [0, 1, 2, 3, 4, 5, 6, 7, 8] (by kernel_rfl) (by kernel_rfl) ?_
  refine st_pure tabOK hk [0] [1, 2, 3, 4, 5, 6, 7, 8] [0, 9] [(0, S p0), (9, S p0)] (True) (by kernel_rfl) trivial ?_
  clear hk; intro a hk
  obtain ⟨t1, h2, H⟩ := Option.bind_eq_some_iff.1 H
  refine st_call hk 22 [S p0, S ([10])] (some 10) enters22 (by kernel_rfl) (strings_Cut.ok  p0 ([10]) t1 h2 w ) ?_
  clear hk; rintro a u w ⟨rfl, ho'⟩ hk
  replace ho : Ows [] w0 w [] := ho.call ho'; clear ho'
  refine st_pure tabOK hk [2, 3, 4, 5, 6, 7, 8] [] [0, 5, 6, 7] [(0, S p0), (5, S t1.1), (6, S t1.2.1), (7, .bool t1.2.2)] (True) (by kernel_rfl) trivial ?_
  clear hk; intro a hk
  refine st_done ?_
  refine st_seq (C29 [1, 1, 0]) (C29 [1, 1, 1]) (by kernel_rfl) ?_
  refine st_block 0 (C29 [1, 1, 0, 0]) (by kernel_rfl) ?_
  refine st_seq (C29 [1, 1, 0, 0, 0]) (C29 [1, 1, 0, 0, 1]) (by kernel_rfl) ?_
  refine st_region 2 (opsOf (C29 [1, 1, 0, 0, 0])) [0, 1, 2, 3, 4, 5, 6, 7] (by kernel_rfl) (by kernel_rfl) ?_
  refine st_pure tabOK hk [0, 1, 2] [3, 4, 5, 6, 7] [0, 5, 6, 7, 17] [(0, S p0), (5, S t1.1), (6, S t1.2.1), (7, .bool t1.2.2), (17, .bool (!t1.2.2))] (True) (by kernel_rfl) trivial ?_
  clear hk; intro a hk
  refine cut_ops (fun a w => Kn 39 a [(5, S t1.1), (6, S t1.2.1), (7, .bool t1.2.2), (14, .bool ((!t1.2.2) && (decide ((p0.length : Int) > 2002))))] ∧ Ows [] w0 w []) ?_ ?_
  · intro J
    rcases Bool.eq_false_or_eq_true (!t1.2.2) with h3 | h3
    ·
      rw [h3] at hk
      have h4 : (!t1.2.2) = true := h3
      refine st_pure tabOK hk [3, 4, 5, 6, 7] [] [5, 6, 7, 14] [(5, S t1.1), (6, S t1.2.1), (7, .bool t1.2.2), (14, .bool (decide ((p0.length : Int) > 2002)))] (True) (by kernel_rfl) trivial ?_
      clear hk; intro a hk
      refine st_done ?_
      have e : ((!t1.2.2) && (decide ((p0.length : Int) > 2002))) = (decide ((p0.length : Int) > 2002)) := by first | (simp only [h3]; done) | (simp only [h3]; rfl) | rfl | simp [h3]
      exact J a w ⟨by rw [e]; exact hk.to [5, 6, 7, 14] _ (by kernel_rfl), ho⟩
    ·
      rw [h3] at hk
      have h5 : ¬ ((!t1.2.2) = true) := ne_true_of_eq_false h3
      refine st_pure tabOK hk [3, 4, 5, 6, 7] [] [5, 6, 7, 14] [(5, S t1.1), (6, S t1.2.1), (7, .bool t1.2.2), (14, .bool false)] (True) (by kernel_rfl) trivial ?_
      clear hk; intro a hk
      refine st_done ?_
      have e : ((!t1.2.2) && (decide ((p0.length : Int) > 2002))) = false := by first | (simp only [h3]; done) | (simp only [h3]; rfl) | rfl | simp [h3]
      exact J a w ⟨by rw [e]; exact hk.to [5, 6, 7, 14] _ (by kernel_rfl), ho⟩
  · rintro a w ⟨hk, ho⟩
    refine st_cond hk (C29 [1, 1, 0, 0, 1, 0]) (C29 [1, 1, 0, 0, 1, 1]) (.tmp 14) (((!t1.2.2) && (decide ((p0.length : Int) > 2002)))) (by kernel_rfl) (by kernel_rfl) (fun h6 => ?_) (fun h6 => ?_)
    ·
      have h7 : ((!t1.2.2) && (decide ((p0.length : Int) > 2002))) = true := h6
      rw [if_pos h7] at H
      refine st_seq (C29 [1, 1, 0, 0, 1, 0, 0]) (C29 [1, 1, 0, 0, 1, 0, 1]) (by kernel_rfl) ?_
      refine st_region 3 (opsOf (C29 [1, 1, 0, 0, 1, 0, 0])) [0, 1, 2] (by kernel_rfl) (by kernel_rfl) ?_
      refine st_pure tabOK hk [0, 1, 2] [] [2, 3, 4] [(2, S ([])), (3, S ([])), (4, I 4)] (True) (by kernel_rfl) trivial ?_
      clear hk; intro a hk
      refine st_done ?_
      refine st_retG hk (by kernel_rfl) [S ([]), S ([]), I 4] #[.tmp 2, .tmp 3, .tmp 4] (by kernel_rfl) ⟨resT hk (by kernel_rfl), resT hk (by kernel_rfl), resT hk (by kernel_rfl), trivial⟩ ?_
      obtain rfl := Option.some.inj H
      exact ⟨_, rfl, rfl, ho⟩
    ·
      have h8 : ¬ (((!t1.2.2) && (decide ((p0.length : Int) > 2002))) = true) := ne_true_of_eq_false h6
      rw [if_neg h8] at H
      refine st_seq (C29 [1, 1, 0, 0, 1, 1, 0]) (C29 [1, 1, 0, 0, 1, 1, 1]) (by kernel_rfl) ?_
      refine st_region 4 (opsOf (C29 [1, 1, 0, 0, 1, 1, 0])) [0, 1, 2] (by kernel_rfl) (by kernel_rfl) ?_
      refine st_pure tabOK hk [0, 1, 2] [] [5, 6, 22] [(5, S t1.1), (6, S t1.2.1), (22, .bool (!t1.2.2))] (True) (by kernel_rfl) trivial ?_
      clear hk; intro a hk
      refine st_done ?_
      refine st_cond hk (C29 [1, 1, 0, 0, 1, 1, 1, 0]) (C29 [1, 1, 0, 0, 1, 1, 1, 1]) (.tmp 22) (!t1.2.2) (by kernel_rfl) (by kernel_rfl) (fun h9 => ?_) (fun h9 => ?_)
      ·
        have h10 : (!t1.2.2) = true := h9
        rw [if_pos h10] at H
        refine st_seq (C29 [1, 1, 0, 0, 1, 1, 1, 0, 0]) (C29 [1, 1, 0, 0, 1, 1, 1, 0, 1]) (by kernel_rfl) ?_
        refine st_region 5 (opsOf (C29 [1, 1, 0, 0, 1, 1, 1, 0, 0])) [0, 1, 2] (by kernel_rfl) (by kernel_rfl) ?_
        refine st_pure tabOK hk [0, 1, 2] [] [2, 3, 4] [(2, S ([])), (3, S ([])), (4, I 3)] (True) (by kernel_rfl) trivial ?_
        clear hk; intro a hk
        refine st_done ?_
        refine st_retG hk (by kernel_rfl) [S ([]), S ([]), I 3] #[.tmp 2, .tmp 3, .tmp 4] (by kernel_rfl) ⟨resT hk (by kernel_rfl), resT hk (by kernel_rfl), resT hk (by kernel_rfl), trivial⟩ ?_
        obtain rfl := Option.some.inj H
        exact ⟨_, rfl, rfl, ho⟩
      ·
        have h11 : ¬ ((!t1.2.2) = true) := ne_true_of_eq_false h9
        rw [if_neg h11] at H
        refine st_skip (by kernel_rfl) ?_
        refine st_endb 0 ?_
        refine st_seq (C29 [1, 1, 1, 0]) (C29 [1, 1, 1, 1]) (by kernel_rfl) ?_
        refine st_region 6 (opsOf (C29 [1, 1, 1, 0])) [0, 1, 2, 3, 4, 5, 6] (by kernel_rfl) (by kernel_rfl) ?_
        refine st_pure tabOK hk [0] [1, 2, 3, 4, 5, 6] [6, 26] [(6, S t1.2.1), (26, S t1.1)] (True) (by kernel_rfl) trivial ?_
        clear hk; intro a hk
        obtain ⟨t12, h13, H⟩ := Option.bind_eq_some_iff.1 H
        refine st_call hk 54 [S t1.1, S ([13])] (some 27) enters54 (by kernel_rfl) (strings_CutSuffix.ok  t1.1 ([13]) t12 h13 w ) ?_
        clear hk; rintro a u w ⟨rfl, ho'⟩ hk
        replace ho : Ows [] w0 w [] := ho.call ho'; clear ho'
        refine st_pure tabOK hk [2, 3, 4, 5, 6] [] [5, 6, 7] [(5, S t12.1), (6, S t1.2.1), (7, .bool t12.2)] (True) (by kernel_rfl) trivial ?_
        clear hk; intro a hk
        refine st_done ?_
        refine st_seq (C29 [1, 1, 1, 1, 0]) (C29 [1, 1, 1, 1, 1]) (by kernel_rfl) ?_
        refine st_block 1 (C29 [1, 1, 1, 1, 0, 0]) (by kernel_rfl) ?_
        refine st_seq (C29 [1, 1, 1, 1, 0, 0, 0]) (C29 [1, 1, 1, 1, 0, 0, 1]) (by kernel_rfl) ?_
        refine st_region 7 (opsOf (C29 [1, 1, 1, 1, 0, 0, 0])) [0, 1, 2] (by kernel_rfl) (by kernel_rfl) ?_
        refine st_pure tabOK hk [0, 1, 2] [] [5, 6, 30] [(5, S t12.1), (6, S t1.2.1), (30, .bool (!t12.2))] (True) (by kernel_rfl) trivial ?_
        clear hk; intro a hk
        refine st_done ?_
        refine st_cond hk (C29 [1, 1, 1, 1, 0, 0, 1, 0]) (C29 [1, 1, 1, 1, 0, 0, 1, 1]) (.tmp 30) (!t12.2) (by kernel_rfl) (by kernel_rfl) (fun h14 => ?_) (fun h14 => ?_)
        ·
          have h15 : (!t12.2) = true := h14
          rw [if_pos h15] at H
          refine st_seq (C29 [1, 1, 1, 1, 0, 0, 1, 0, 0]) (C29 [1, 1, 1, 1, 0, 0, 1, 0, 1]) (by kernel_rfl) ?_
          refine st_region 8 (opsOf (C29 [1, 1, 1, 1, 0, 0, 1, 0, 0])) [0, 1, 2] (by kernel_rfl) (by kernel_rfl) ?_
          refine st_pure tabOK hk [0, 1, 2] [] [2, 3, 4] [(2, S ([])), (3, S ([])), (4, I 2)] (True) (by kernel_rfl) trivial ?_
          clear hk; intro a hk
          refine st_done ?_
          refine st_retG hk (by kernel_rfl) [S ([]), S ([]), I 2] #[.tmp 2, .tmp 3, .tmp 4] (by kernel_rfl) ⟨resT hk (by kernel_rfl), resT hk (by kernel_rfl), resT hk (by kernel_rfl), trivial⟩ ?_
          obtain rfl := Option.some.inj H
          exact ⟨_, rfl, rfl, ho⟩
        ·
          have h16 : ¬ ((!t12.2) = true) := ne_true_of_eq_false h14
          rw [if_neg h16] at H
          refine st_seq (C29 [1, 1, 1, 1, 0, 0, 1, 1, 0]) (C29 [1, 1, 1, 1, 0, 0, 1, 1, 1]) (by kernel_rfl) ?_
          refine st_region 9 (opsOf (C29 [1, 1, 1, 1, 0, 0, 1, 1, 0])) [0, 1, 2, 3] (by kernel_rfl) (by kernel_rfl) ?_
          refine st_pure tabOK hk [0, 1, 2, 3] [] [5, 6, 33] [(5, S t12.1), (6, S t1.2.1), (33, .bool (decide ((t12.1.length : Int) > 2000)))] (True) (by kernel_rfl) trivial ?_
          clear hk; intro a hk
          refine st_done ?_
          refine st_cond hk (C29 [1, 1, 1, 1, 0, 0, 1, 1, 1, 0]) (C29 [1, 1, 1, 1, 0, 0, 1, 1, 1, 1]) (.tmp 33) (decide ((t12.1.length : Int) > 2000)) (by kernel_rfl) (by kernel_rfl) (fun h17 => ?_) (fun h17 => ?_)
          ·
            have h18 : (t12.1.length : Int) > 2000 := of_decide_eq_true h17
            rw [if_pos h18] at H
            refine st_seq (C29 [1, 1, 1, 1, 0, 0, 1, 1, 1, 0, 0]) (C29 [1, 1, 1, 1, 0, 0, 1, 1, 1, 0, 1]) (by kernel_rfl) ?_
            refine st_region 10 (opsOf (C29 [1, 1, 1, 1, 0, 0, 1, 1, 1, 0, 0])) [0, 1, 2] (by kernel_rfl) (by kernel_rfl) ?_
            refine st_pure tabOK hk [0, 1, 2] [] [2, 3, 4] [(2, S ([])), (3, S ([])), (4, I 4)] (True) (by kernel_rfl) trivial ?_
            clear hk; intro a hk
            refine st_done ?_
            refine st_retG hk (by kernel_rfl) [S ([]), S ([]), I 4] #[.tmp 2, .tmp 3, .tmp 4] (by kernel_rfl) ⟨resT hk (by kernel_rfl), resT hk (by kernel_rfl), resT hk (by kernel_rfl), trivial⟩ ?_
            obtain rfl := Option.some.inj H
            exact ⟨_, rfl, rfl, ho⟩
          ·
            have h19 : ¬ ((t12.1.length : Int) > 2000) := of_decide_eq_false h17
            rw [if_neg h19] at H
            refine st_skip (by kernel_rfl) ?_
            refine st_endb 1 ?_
            refine st_seq (C29 [1, 1, 1, 1, 1, 0]) (C29 [1, 1, 1, 1, 1, 1]) (by kernel_rfl) ?_
            refine st_region 11 (opsOf (C29 [1, 1, 1, 1, 1, 0])) [0, 1, 2, 3, 4] (by kernel_rfl) (by kernel_rfl) ?_
            refine st_pure tabOK hk [0, 1, 2, 3, 4] [] [2, 3, 4] [(2, S t12.1), (3, S t1.2.1), (4, I 0)] (True) (by kernel_rfl) trivial ?_
            clear hk; intro a hk
            refine st_done ?_
            refine st_retG hk (by kernel_rfl) [S t12.1, S t1.2.1, I 0] #[.tmp 2, .tmp 3, .tmp 4] (by kernel_rfl) ⟨resT hk (by kernel_rfl), resT hk (by kernel_rfl), resT hk (by kernel_rfl), trivial⟩ ?_
            obtain rfl := Option.some.inj H
            exact ⟨_, rfl, rfl, ho⟩


/-! scullery/ascii.digit: function 78 -/
noncomputable def C78 (p : List Nat) : Code := Sub (bodyOf f78) p
def ascii_digit.f (p0 : Int) : Option (Bool) := some ((decide (p0 ≥ 48)) && (decide (p0 ≤ 57)))
abbrev ascii_digit.post (w0 : World) (r : Bool) (u : Value) (w : World) : Prop := u = .bool r ∧ Ows [] w0 w []
theorem ascii_digit.ok (p0 : Int) (r : Bool) (H : ascii_digit.f p0 = some r) (w0 : World)  : Calls Tryz.prog 78 ⟨[.int .u8 p0]⟩ w0 fun e w => ∃ u, e = .returned u ∧ ascii_digit.post w0 r u w := by
  unfold ascii_digit.f at H
  refine st_start (N := 9) [.int .u8 p0] (C78 []) func78 (by kernel_rfl) (by kernel_rfl) (by kernel_rfl) ?_
  intro a w hk ho
  refine st_seq (C78 [0]) (C78 [1]) (by kernel_rfl) ?_
  refine st_region 0 (opsOf (C78 [0])) [0] (by kernel_rfl) (by kernel_rfl) ?_
  refine st_pure tabOK hk [0] [] [0] [(0, .int .u8 p0)] (True) (by kernel_rfl) trivial ?_
  clear hk; intro a hk
  refine st_done ?_
  refine st_seq (C78 [1, 0]) (C78 [1, 1]) (by kernel_rfl) ?_
  refine st_region 1 (opsOf (C78 [1, 0])) [0, 1, 2, 3, 4, 5, 6] (by kernel_rfl) (by kernel_rfl) ?_
  refine st_pure tabOK hk [0, 1, 2] [3, 4, 5, 6] [0, 5] [(0, .int .u8 p0), (5, .bool (decide (p0 ≥ 48)))] (True) (by kernel_rfl) trivial ?_
  clear hk; intro a hk
  refine cut_ops (fun a w => Kn 9 a [(2, .bool ((decide (p0 ≥ 48)) && (decide (p0 ≤ 57))))] ∧ Ows [] w0 w []) ?_ ?_
  · intro J
    rcases Bool.eq_false_or_eq_true (decide (p0 ≥ 48)) with h1 | h1
    ·
      rw [h1] at hk
      have h2 : p0 ≥ 48 := of_decide_eq_true h1
      refine st_pure tabOK hk [3, 4, 5, 6] [] [2] [(2, .bool (decide (p0 ≤ 57)))] (True) (by kernel_rfl) trivial ?_
      clear hk; intro a hk
      refine st_done ?_
      have e : ((decide (p0 ≥ 48)) && (decide (p0 ≤ 57))) = (decide (p0 ≤ 57)) := by first | (simp only [h1]; done) | (simp only [h1]; rfl) | rfl | simp [h1]
      exact J a w ⟨by rw [e]; exact hk.to [2] _ (by kernel_rfl), ho⟩
    ·
      rw [h1] at hk
      have h3 : ¬ (p0 ≥ 48) := of_decide_eq_false h1
      refine st_pure tabOK hk [3, 4, 5, 6] [] [2] [(2, .bool false)] (True) (by kernel_rfl) trivial ?_
      clear hk; intro a hk
      refine st_done ?_
      have e : ((decide (p0 ≥ 48)) && (decide (p0 ≤ 57))) = false := by first | (simp only [h1]; done) | (simp only [h1]; rfl) | rfl | simp [h1]
      exact J a w ⟨by rw [e]; exact hk.to [2] _ (by kernel_rfl), ho⟩
  · rintro a w ⟨hk, ho⟩
    refine st_retG hk (by kernel_rfl) [.bool ((decide (p0 ≥ 48)) && (decide (p0 ≤ 57)))] #[.tmp 2] (by kernel_rfl) ⟨resT hk (by kernel_rfl), trivial⟩ ?_
    obtain rfl := Option.some.inj H
    exact ⟨_, rfl, rfl, ho⟩


/-! scullery/ascii.letter: function 79 -/
noncomputable def C79 (p : List Nat) : Code := Sub (bodyOf f79) p
def ascii_letter.f (p0 : Int) : Option (Bool) := some ((decide (bitI .or .u8 p0 32 ≥ 97)) && (decide (bitI .or .u8 p0 32 ≤ 122)))
abbrev ascii_letter.post (w0 : World) (r : Bool) (u : Value) (w : World) : Prop := u = .bool r ∧ Ows [] w0 w []
theorem ascii_letter.ok (p0 : Int) (r : Bool) (H : ascii_letter.f p0 = some r) (w0 : World)  : Calls Tryz.prog 79 ⟨[.int .u8 p0]⟩ w0 fun e w => ∃ u, e = .returned u ∧ ascii_letter.post w0 r u w := by
  unfold ascii_letter.f at H
  refine st_start (N := 11) [.int .u8 p0] (C79 []) func79 (by kernel_rfl) (by kernel_rfl) (by kernel_rfl) ?_
  intro a w hk ho
  refine st_seq (C79 [0]) (C79 [1]) (by kernel_rfl) ?_
  refine st_region 0 (opsOf (C79 [0])) [0] (by kernel_rfl) (by kernel_rfl) ?_
  refine st_pure tabOK hk [0] [] [0] [(0, .int .u8 p0)] (True) (by kernel_rfl) trivial ?_
  clear hk; intro a hk
  refine st_done ?_
  refine st_seq (C79 [1, 0]) (C79 [1, 1]) (by kernel_rfl) ?_
  refine st_region 1 (opsOf (C79 [1, 0])) [0, 1, 2, 3, 4, 5, 6, 7, 8] (by kernel_rfl) (by kernel_rfl) ?_
  refine st_pure tabOK hk [0, 1, 2, 3] [4, 5, 6, 7, 8] [0, 6] [(0, .int .u8 p0), (6, .bool (decide (bitI .or .u8 p0 32 ≥ 97)))] (True) (by kernel_rfl) trivial ?_
  clear hk; intro a hk
  refine cut_ops (fun a w => Kn 11 a [(2, .bool ((decide (bitI .or .u8 p0 32 ≥ 97)) && (decide (bitI .or .u8 p0 32 ≤ 122))))] ∧ Ows [] w0 w []) ?_ ?_
  · intro J
    rcases Bool.eq_false_or_eq_true (decide (bitI .or .u8 p0 32 ≥ 97)) with h1 | h1
    ·
      rw [h1] at hk
      have h2 : bitI .or .u8 p0 32 ≥ 97 := of_decide_eq_true h1
      refine st_pure tabOK hk [4, 5, 6, 7, 8] [] [2] [(2, .bool (decide (bitI .or .u8 p0 32 ≤ 122)))] (True) (by kernel_rfl) trivial ?_
      clear hk; intro a hk
      refine st_done ?_
      have e : ((decide (bitI .or .u8 p0 32 ≥ 97)) && (decide (bitI .or .u8 p0 32 ≤ 122))) = (decide (bitI .or .u8 p0 32 ≤ 122)) := by first | (simp only [h1]; done) | (simp only [h1]; rfl) | rfl | simp [h1]
      exact J a w ⟨by rw [e]; exact hk.to [2] _ (by kernel_rfl), ho⟩
    ·
      rw [h1] at hk
      have h3 : ¬ (bitI .or .u8 p0 32 ≥ 97) := of_decide_eq_false h1
      refine st_pure tabOK hk [4, 5, 6, 7, 8] [] [2] [(2, .bool false)] (True) (by kernel_rfl) trivial ?_
      clear hk; intro a hk
      refine st_done ?_
      have e : ((decide (bitI .or .u8 p0 32 ≥ 97)) && (decide (bitI .or .u8 p0 32 ≤ 122))) = false := by first | (simp only [h1]; done) | (simp only [h1]; rfl) | rfl | simp [h1]
      exact J a w ⟨by rw [e]; exact hk.to [2] _ (by kernel_rfl), ho⟩
  · rintro a w ⟨hk, ho⟩
    refine st_retG hk (by kernel_rfl) [.bool ((decide (bitI .or .u8 p0 32 ≥ 97)) && (decide (bitI .or .u8 p0 32 ≤ 122)))] #[.tmp 2] (by kernel_rfl) ⟨resT hk (by kernel_rfl), trivial⟩ ?_
    obtain rfl := Option.some.inj H
    exact ⟨_, rfl, rfl, ho⟩


/-! strings.IndexByte: function 80 -/
noncomputable def C80 (p : List Nat) : Code := Sub (bodyOf f80) p
def strings_IndexByte.f (p0 : Str) (p1 : Int) : Option (Int) := (((stringslite_IndexByte.f p0 p1).bind fun t1 => some t1))
abbrev strings_IndexByte.post (w0 : World) (r : Int) (u : Value) (w : World) : Prop := u = I r ∧ Ows [] w0 w []
theorem strings_IndexByte.ok (p0 : Str) (p1 : Int) (r : Int) (H : strings_IndexByte.f p0 p1 = some r) (w0 : World)  : Calls Tryz.prog 80 ⟨[S p0, .int .u8 p1]⟩ w0 fun e w => ∃ u, e = .returned u ∧ strings_IndexByte.post w0 r u w := by
  unfold strings_IndexByte.f at H
  refine st_start (N := 8) [S p0, .int .u8 p1] (C80 []) func80 (by kernel_rfl) (by kernel_rfl) (by kernel_rfl) ?_
  intro a w hk ho
  refine st_seq (C80 [0]) (C80 [1]) (by kernel_rfl) ?_
  refine st_region 0 (opsOf (C80 [0])) [0] (by kernel_rfl) (by kernel_rfl) ?_
  refine st_pure tabOK hk [0] [] [0, 1] [(0, S p0), (1, .int .u8 p1)] (True) (by kernel_rfl) trivial ?_
  clear hk; intro a hk
  refine st_done ?_
  refine st_seq (C80 [1, 0]) (C80 [1, 1]) (by kernel_rfl) ?_
  refine st_region 1 (opsOf (C80 [1, 0])) [0, 1, 2, 3] (by kernel_rfl) (by kernel_rfl) ?_
  refine st_pure tabOK hk [0, 1] [2, 3] [5, 6] [(5, S p0), (6, .int .u8 p1)] (True) (by kernel_rfl) trivial ?_
  clear hk; intro a hk
  obtain ⟨t1, h2, H⟩ := Option.bind_eq_some_iff.1 H
  refine st_call hk 84 [S p0, .int .u8 p1] (some 7) enters84 (by kernel_rfl) (stringslite_IndexByte.ok  p0 p1 t1 h2 w ) ?_
  clear hk; rintro a u w ⟨rfl, ho'⟩ hk
  replace ho : Ows [] w0 w [] := ho.call ho'; clear ho'
  refine st_pure tabOK hk [3] [] [4] [(4, I t1)] (True) (by kernel_rfl) trivial ?_
  clear hk; intro a hk
  refine st_done ?_
  refine st_retG hk (by kernel_rfl) [I t1] #[.tmp 4] (by kernel_rfl) ⟨resT hk (by kernel_rfl), trivial⟩ ?_
  obtain rfl := Option.some.inj H
  exact ⟨_, rfl, rfl, ho⟩


/-! scullery/ascii.Token$1: function 77 -/
noncomputable def C77 (p : List Nat) : Code := Sub (bodyOf f77) p
def ascii_Token_1.f (p0 : Int) : Option (Bool) := (((ascii_digit.f p0).bind fun t1 => (((if t1 = true then some true else ((ascii_letter.f p0).bind fun t7 => (if t7 = true then some true else ((strings_IndexByte.f ([33, 35, 36, 37, 38, 39, 42, 43, 45, 46, 94, 95, 96, 124, 126]) p0).bind fun t12 => some (decide (t12 ≥ 0))))))).bind fun m3 => some m3)))
abbrev ascii_Token_1.post (w0 : World) (r : Bool) (u : Value) (w : World) : Prop := u = .bool r ∧ Ows [] w0 w []
theorem ascii_Token_1.ok (p0 : Int) (r : Bool) (H : ascii_Token_1.f p0 = some r) (w0 : World)  : Calls Tryz.prog 77 ⟨[.int .u8 p0]⟩ w0 fun e w => ∃ u, e = .returned u ∧ ascii_Token_1.post w0 r u w := by
  unfold ascii_Token_1.f at H
  refine st_start (N := 14) [.int .u8 p0] (C77 []) func77 (by kernel_rfl) (by kernel_rfl) (by kernel_rfl) ?_
  intro a w hk ho
  refine st_seq (C77 [0]) (C77 [1]) (by kernel_rfl) ?_
  refine st_region 0 (opsOf (C77 [0])) [0] (by kernel_rfl) (by kernel_rfl) ?_
  refine st_pure tabOK hk [0] [] [0] [(0, .int .u8 p0)] (True) (by kernel_rfl) trivial ?_
  clear hk; intro a hk
  refine st_done ?_
  refine st_seq (C77 [1, 0]) (C77 [1, 1]) (by kernel_rfl) ?_
  refine st_region 1 (opsOf (C77 [1, 0])) [0, 1, 2, 3, 4, 5, 6, 7, 8, 9, 10, 11] (by kernel_rfl) (by kernel_rfl) ?_
  refine st_pure tabOK hk [0] [1, 2, 3, 4, 5, 6, 7, 8, 9, 10, 11] [0, 3] [(0, .int .u8 p0), (3, .int .u8 p0)] (True) (by kernel_rfl) trivial ?_
  clear hk; intro a hk
  obtain ⟨t1, h2, H⟩ := Option.bind_eq_some_iff.1 H
  refine st_call hk 78 [.int .u8 p0] (some 4) enters78 (by kernel_rfl) (ascii_digit.ok  p0 t1 h2 w ) ?_
  clear hk; rintro a u w ⟨rfl, ho'⟩ hk
  replace ho : Ows [] w0 w [] := ho.call ho'; clear ho'
  refine st_pure tabOK hk [2] [3, 4, 5, 6, 7, 8, 9, 10, 11] [0, 5] [(0, .int .u8 p0), (5, .bool t1)] (True) (by kernel_rfl) trivial ?_
  clear hk; intro a hk
  obtain ⟨m3, HX, H⟩ := Option.bind_eq_some_iff.1 H
  refine cut_ops (fun a w => Kn 14 a [(2, .bool m3)] ∧ Ows [] w0 w []) ?_ ?_
  · intro J; clear H; have H := HX; clear HX
    rcases Bool.eq_false_or_eq_true (t1) with h4 | h4
    ·
      rw [h4] at hk
      have h5 : t1 = true := h4
      rw [if_pos h5] at H
      refine st_pure tabOK hk [3, 4, 5, 6, 7, 8, 9, 10, 11] [] [2] [(2, .bool true)] (True) (by kernel_rfl) trivial ?_
      clear hk; intro a hk
      refine st_done ?_
      obtain rfl := Option.some.inj H
      exact J a w ⟨hk.to [2] _ (by kernel_rfl), ho⟩
    ·
      rw [h4] at hk
      have h6 : ¬ (t1 = true) := ne_true_of_eq_false h4
      rw [if_neg h6] at H
      refine st_pure tabOK hk [3] [4, 5, 6, 7, 8, 9, 10, 11] [0, 5, 6] [(0, .int .u8 p0), (5, .bool false), (6, .int .u8 p0)] (True) (by kernel_rfl) trivial ?_
      clear hk; intro a hk
      obtain ⟨t7, h8, H⟩ := Option.bind_eq_some_iff.1 H
      refine st_call hk 79 [.int .u8 p0] (some 7) enters79 (by kernel_rfl) (ascii_letter.ok  p0 t7 h8 w ) ?_
      clear hk; rintro a u w ⟨rfl, ho'⟩ hk
      replace ho : Ows [] w0 w [] := ho.call ho'; clear ho'
      refine st_pure tabOK hk [5, 6] [7, 8, 9, 10, 11] [0, 9] [(0, .int .u8 p0), (9, .bool t7)] (True) (by kernel_rfl) trivial ?_
      clear hk; intro a hk
      rcases Bool.eq_false_or_eq_true (t7) with h9 | h9
      ·
        rw [h9] at hk
        have h10 : t7 = true := h9
        rw [if_pos h10] at H
        refine st_pure tabOK hk [7, 8, 9, 10, 11] [] [2] [(2, .bool true)] (True) (by kernel_rfl) trivial ?_
        clear hk; intro a hk
        refine st_done ?_
        obtain rfl := Option.some.inj H
        exact J a w ⟨hk.to [2] _ (by kernel_rfl), ho⟩
      ·
        rw [h9] at hk
        have h11 : ¬ (t7 = true) := ne_true_of_eq_false h9
        rw [if_neg h11] at H
        refine st_pure tabOK hk [7] [8, 9, 10, 11] [9, 10] [(9, .bool false), (10, .int .u8 p0)] (True) (by kernel_rfl) trivial ?_
        clear hk; intro a hk
        obtain ⟨t12, h13, H⟩ := Option.bind_eq_some_iff.1 H
        refine st_call hk 80 [S ([33, 35, 36, 37, 38, 39, 42, 43, 45, 46, 94, 95, 96, 124, 126]), .int .u8 p0] (some 11) enters80 (by kernel_rfl) (strings_IndexByte.ok  ([33, 35, 36, 37, 38, 39, 42, 43, 45, 46, 94, 95, 96, 124, 126]) p0 t12 h13 w ) ?_
        clear hk; rintro a u w ⟨rfl, ho'⟩ hk
        replace ho : Ows [] w0 w [] := ho.call ho'; clear ho'
        refine st_pure tabOK hk [9, 10, 11] [] [2] [(2, .bool (decide (t12 ≥ 0)))] (True) (by kernel_rfl) trivial ?_
        clear hk; intro a hk
        refine st_done ?_
        obtain rfl := Option.some.inj H
        exact J a w ⟨hk.to [2] _ (by kernel_rfl), ho⟩
  · clear HX; rintro a w ⟨hk, ho⟩
    refine st_retG hk (by kernel_rfl) [.bool m3] #[.tmp 2] (by kernel_rfl) ⟨resT hk (by kernel_rfl), trivial⟩ ?_
    obtain rfl := Option.some.inj H
    exact ⟨_, rfl, rfl, ho⟩


/-! scullery/ascii.all: function 50 -/
def ascii_all_ascii_Token_1.l0 : Nat → Str → Int → Option ((Unit) ⊕ (Bool))
  | 0, _, _ => none
  | k + 1, p0, v6 => (if v6 < (p0.length : Int) then (if (0 : Int) ≤ v6 then ((ascii_Token_1.f (bt p0 v6)).bind fun t10 => (if (!t10) = true then some (.inr false) else ascii_all_ascii_Token_1.l0 k p0 (w64 (v6 + 1)))) else none) else some (.inl ()))
def ascii_all_ascii_Token_1.f (K : Nat) (p0 : Str) : Option (Bool) := (if p0.length ≤ 4294967296 then ((ascii_all_ascii_Token_1.l0 K p0 0).bind fun m16 => match m16 with | .inl s18 => some true | .inr r19 => some r19) else none)
abbrev ascii_all_ascii_Token_1.post (w0 : World) (r : Bool) (u : Value) (w : World) : Prop := u = .bool r ∧ Ows [] w0 w []
theorem ascii_all_ascii_Token_1.l0_ok : ∀ (k : Nat) (p0 : Str) (v6 : Int) (out : (Unit) ⊕ (Bool)), ascii_all_ascii_Token_1.l0 k p0 v6 = some out → ∀ (o2 : Option Addr) (c3 : Nat) (w0 : World) (Q : Exit → Act → World → Prop) (rest : List It) (a : Act) (w : World), Kn 19 a [(1, .func (.func 77) #[] #[]), (8, .slice o2 p0.length c3), (9, I (p0.length : Int)), (10, I v6)] → Ows [] w0 w [.row 0 5 1 (.slice o2 p0.length c3) p0.length (p0.map bV)] → (∀ (s : Unit) (a : Act) (w : World), out = .inl s → Kn 19 a [] → Ows [] w0 w [] → G Tryz.prog Q rest a w) → (∀ (r : Bool) (a : Act) (w : World), out = .inr r → Kn 19 a [(4, .bool r)] → Ows [] w0 w [] → Q .ret a w) → G Tryz.prog Q (.code (C50 [1, 0, 1, 0, 0]) :: .inl (C50 [1, 0, 1, 0, 0]) :: .endb 0 :: rest) a w := by
  intro k
  induction k with
  | zero => intro p0 v6 out H; simp [ascii_all_ascii_Token_1.l0] at H
  | succ k ih =>
    intro p0 v6 out H o2 c3 w0 Q rest a w  hk ho J R
    simp only [ascii_all_ascii_Token_1.l0] at H
    refine st_seq (C50 [1, 0, 1, 0, 0, 0]) (C50 [1, 0, 1, 0, 0, 1]) (by kernel_rfl) ?_
    refine st_region 2 (opsOf (C50 [1, 0, 1, 0, 0, 0])) [0] (by kernel_rfl) (by kernel_rfl) ?_
    refine st_pure tabOK hk [0] [] [1, 8, 9, 10, 11] [(1, .func (.func 77) #[] #[]), (8, .slice o2 p0.length c3), (9, I (p0.length : Int)), (10, I v6), (11, .bool (decide (v6 < (p0.length : Int))))] (True) (by kernel_rfl) trivial ?_
    clear hk; intro a hk
    refine st_done ?_
    refine st_seq (C50 [1, 0, 1, 0, 0, 1, 0]) (C50 [1, 0, 1, 0, 0, 1, 1]) (by kernel_rfl) ?_
    refine st_cond hk (C50 [1, 0, 1, 0, 0, 1, 0, 0]) (C50 [1, 0, 1, 0, 0, 1, 0, 1]) (.tmp 11) (decide (v6 < (p0.length : Int))) (by kernel_rfl) (by kernel_rfl) (fun h7 => ?_) (fun h7 => ?_)
    ·
      have h8 : v6 < (p0.length : Int) := of_decide_eq_true h7
      rw [if_pos h8] at H
      refine st_skip (by kernel_rfl) ?_
      refine st_seq (C50 [1, 0, 1, 0, 0, 1, 1, 0]) (C50 [1, 0, 1, 0, 0, 1, 1, 1]) (by kernel_rfl) ?_
      refine st_block 1 (C50 [1, 0, 1, 0, 0, 1, 1, 0, 0]) (by kernel_rfl) ?_
      refine st_seq (C50 [1, 0, 1, 0, 0, 1, 1, 0, 0, 0]) (C50 [1, 0, 1, 0, 0, 1, 1, 0, 0, 1]) (by kernel_rfl) ?_
      refine st_region 3 (opsOf (C50 [1, 0, 1, 0, 0, 1, 1, 0, 0, 0])) [0, 1, 2] (by kernel_rfl) (by kernel_rfl) ?_
      have h9 : (0 : Int) ≤ v6 := by
        by_cases h9 : (0 : Int) ≤ v6
        · exact h9
        · rw [if_neg h9] at H; cases H
      rw [if_pos h9] at H
      refine st_pure tabOK hk [0] [1, 2] [1, 8, 9, 10, 12] [(1, .func (.func 77) #[] #[]), (8, .slice o2 p0.length c3), (9, I (p0.length : Int)), (10, I v6), (12, .pointer (o2.map (·.add (v6.toNat * 1))))] ((o2.isSome = true ∧ (0 : Int) ≤ v6 ∧ v6 < (p0.length : Int)) ∧ True) (by kernel_rfl) ⟨⟨(Rd.some1 (ho.rd 0 rfl) h9 h8), h9, h8⟩, trivial⟩ ?_
      clear hk; intro a hk
      refine st_load1 tabOK hk 5 (o2.map (·.add (v6.toNat * 1))) 13 (by kernel_rfl) (by kernel_rfl) (.int .u8 (bt p0 v6)) ((ho.rd 0 rfl).elemB h9 h8) ?_
      clear hk; intro a hk
      refine st_pure tabOK hk [2] [] [1, 6, 8, 9, 10] [(1, .func (.func 77) #[] #[]), (6, .int .u8 (bt p0 v6)), (8, .slice o2 p0.length c3), (9, I (p0.length : Int)), (10, I v6)] (True) (by kernel_rfl) trivial ?_
      clear hk; intro a hk
      refine st_done ?_
      refine st_seq (C50 [1, 0, 1, 0, 0, 1, 1, 0, 0, 1, 0]) (C50 [1, 0, 1, 0, 0, 1, 1, 0, 0, 1, 1]) (by kernel_rfl) ?_
      refine st_region 4 (opsOf (C50 [1, 0, 1, 0, 0, 1, 1, 0, 0, 1, 0])) [0, 1, 2, 3] (by kernel_rfl) (by kernel_rfl) ?_
      refine st_pure tabOK hk [0, 1] [2, 3] [1, 8, 9, 10, 14, 15] [(1, .func (.func 77) #[] #[]), (8, .slice o2 p0.length c3), (9, I (p0.length : Int)), (10, I v6), (14, .func (.func 77) #[] #[]), (15, .int .u8 (bt p0 v6))] (True) (by kernel_rfl) trivial ?_
      clear hk; intro a hk
      obtain ⟨t10, h11, H⟩ := Option.bind_eq_some_iff.1 H
      refine st_call hk 77 [.int .u8 (bt p0 v6)] (some 16) enters77 (by kernel_rfl) (ascii_Token_1.ok  (bt p0 v6) t10 h11 w ) ?_
      clear hk; rintro a u w ⟨rfl, ho'⟩ hk
      replace ho : Ows [] w0 w [.row 0 5 1 (.slice o2 p0.length c3) p0.length (p0.map bV)] := ho.call ho'; clear ho'
      refine st_pure tabOK hk [3] [] [1, 8, 9, 10, 17] [(1, .func (.func 77) #[] #[]), (8, .slice o2 p0.length c3), (9, I (p0.length : Int)), (10, I v6), (17, .bool (!t10))] (True) (by kernel_rfl) trivial ?_
      clear hk; intro a hk
      refine st_done ?_
      refine st_cond hk (C50 [1, 0, 1, 0, 0, 1, 1, 0, 0, 1, 1, 0]) (C50 [1, 0, 1, 0, 0, 1, 1, 0, 0, 1, 1, 1]) (.tmp 17) (!t10) (by kernel_rfl) (by kernel_rfl) (fun h12 => ?_) (fun h12 => ?_)
      ·
        have h13 : (!t10) = true := h12
        rw [if_pos h13] at H
        refine st_seq (C50 [1, 0, 1, 0, 0, 1, 1, 0, 0, 1, 1, 0, 0]) (C50 [1, 0, 1, 0, 0, 1, 1, 0, 0, 1, 1, 0, 1]) (by kernel_rfl) ?_
        refine st_region 5 (opsOf (C50 [1, 0, 1, 0, 0, 1, 1, 0, 0, 1, 1, 0, 0])) [0] (by kernel_rfl) (by kernel_rfl) ?_
        refine st_pure tabOK hk [0] [] [4] [(4, .bool false)] (True) (by kernel_rfl) trivial ?_
        clear hk; intro a hk
        refine st_done ?_
        refine st_ret (by kernel_rfl) ?_
        replace ho : Ows [] w0 w [] := ho.erase 0
        obtain rfl := Option.some.inj H
        exact R false  a w rfl (hk.to [4] _ (by kernel_rfl)) ho
      ·
        have h14 : ¬ ((!t10) = true) := ne_true_of_eq_false h12
        rw [if_neg h14] at H
        refine st_skip (by kernel_rfl) ?_
        refine st_endb 1 ?_
        refine st_region 6 (opsOf (C50 [1, 0, 1, 0, 0, 1, 1, 1])) [0, 1] (by kernel_rfl) (by kernel_rfl) ?_
        refine st_pure tabOK hk [0, 1] [] [1, 8, 9, 10] [(1, .func (.func 77) #[] #[]), (8, .slice o2 p0.length c3), (9, I (p0.length : Int)), (10, I (w64 (v6 + 1)))] (True) (by kernel_rfl) trivial ?_
        clear hk; intro a hk
        refine st_done ?_
        refine st_inl ?_
        exact ih p0 (w64 (v6 + 1)) out H o2 c3 w0 Q rest a w  (hk.to [1, 8, 9, 10] _ (by kernel_rfl)) ho J R
    ·
      have h15 : ¬ (v6 < (p0.length : Int)) := of_decide_eq_false h7
      rw [if_neg h15] at H
      refine st_exit 0 _ (by kernel_rfl) rfl ?_
      replace ho : Ows [] w0 w [] := ho.erase 0
      obtain rfl := Option.some.inj H
      exact J ()  a w rfl (hk.to [] _ (by kernel_rfl)) ho

theorem ascii_all_ascii_Token_1.ok (K : Nat) (p0 : Str) (r : Bool) (H : ascii_all_ascii_Token_1.f K p0 = some r) (w0 : World)  : Calls Tryz.prog 50 ⟨[S p0, .func (.func 77) #[] #[]]⟩ w0 fun e w => ∃ u, e = .returned u ∧ ascii_all_ascii_Token_1.post w0 r u w := by
  unfold ascii_all_ascii_Token_1.f at H
  refine st_start (N := 19) [S p0, .func (.func 77) #[] #[]] (C50 []) func50 (by kernel_rfl) (by kernel_rfl) (by kernel_rfl) ?_
  intro a w hk ho
  refine st_seq (C50 [0]) (C50 [1]) (by kernel_rfl) ?_
  refine st_region 0 (opsOf (C50 [0])) [0] (by kernel_rfl) (by kernel_rfl) ?_
  refine st_pure tabOK hk [0] [] [0, 1] [(0, S p0), (1, .func (.func 77) #[] #[])] (True) (by kernel_rfl) trivial ?_
  clear hk; intro a hk
  refine st_done ?_
  refine st_seq (C50 [1, 0]) (C50 [1, 1]) (by kernel_rfl) ?_
  refine st_seq (C50 [1, 0, 0]) (C50 [1, 0, 1]) (by kernel_rfl) ?_
  refine st_region 1 (opsOf (C50 [1, 0, 0])) [0, 1, 2, 3] (by kernel_rfl) (by kernel_rfl) ?_
  refine st_pure tabOK hk [0] [1, 2, 3] [1, 7] [(1, .func (.func 77) #[] #[]), (7, S p0)] (True) (by kernel_rfl) trivial ?_
  clear hk; intro a hk
  have h1 : p0.length ≤ 4294967296 := by
    by_cases h1 : p0.length ≤ 4294967296
    · exact h1
    · rw [if_neg h1] at H; cases H
  rw [if_pos h1] at H
  refine st_bytes tabOK hk ho 9 30 5 8 p0 (by kernel_rfl) (by kernel_rfl) (by kernel_rfl) (by kernel_rfl) h1 ?_
  clear hk ho; intro a o2 c3 w h4 hk ho
  refine st_pure tabOK hk [2, 3] [] [1, 8, 9, 10] [(1, .func (.func 77) #[] #[]), (8, .slice o2 p0.length c3), (9, I (p0.length : Int)), (10, I 0)] (True) (by kernel_rfl) trivial ?_
  clear hk; intro a hk
  refine st_done ?_
  refine st_block 0 (C50 [1, 0, 1, 0]) (by kernel_rfl) ?_
  obtain ⟨m16, h17, H⟩ := Option.bind_eq_some_iff.1 H
  refine st_loop (C50 [1, 0, 1, 0, 0]) (by kernel_rfl) ?_
  refine ascii_all_ascii_Token_1.l0_ok K p0 0 m16 h17 o2 c3 w0 _ _ a w  (hk.to [1, 8, 9, 10] _ (by kernel_rfl)) ho ?_ ?_
  · intro s18  a w e hk ho; subst e
    simp only [] at H
    refine st_seq (C50 [1, 1, 0]) (C50 [1, 1, 1]) (by kernel_rfl) ?_
    refine st_region 7 (opsOf (C50 [1, 1, 0])) [0] (by kernel_rfl) (by kernel_rfl) ?_
    refine st_pure tabOK hk [0] [] [4] [(4, .bool true)] (True) (by kernel_rfl) trivial ?_
    clear hk; intro a hk
    refine st_done ?_
    refine st_retG hk (by kernel_rfl) [.bool true] #[.tmp 4] (by kernel_rfl) ⟨resT hk (by kernel_rfl), trivial⟩ ?_
    obtain rfl := Option.some.inj H
    exact ⟨_, rfl, rfl, ho⟩
  · intro r19  a w e hk ho; subst e
    simp only [] at H
    refine retG hk [.bool r19] #[.tmp 4] (by kernel_rfl) ⟨resT hk (by kernel_rfl), trivial⟩ ?_
    obtain rfl := Option.some.inj H
    exact ⟨_, rfl, rfl, ho⟩


/-! scullery/ascii.Token: function 55 -/
noncomputable def C55 (p : List Nat) : Code := Sub (bodyOf f55) p
def ascii_Token.f (K : Nat) (p0 : Str) : Option (Bool) := ((((if (!(p0 == ([]))) = true then ((ascii_all_ascii_Token_1.f K p0).bind fun t4 => some t4) else some false)).bind fun m1 => some m1))
abbrev ascii_Token.post (w0 : World) (r : Bool) (u : Value) (w : World) : Prop := u = .bool r ∧ Ows [] w0 w []
theorem ascii_Token.ok (K : Nat) (p0 : Str) (r : Bool) (H : ascii_Token.f K p0 = some r) (w0 : World)  : Calls Tryz.prog 55 ⟨[S p0]⟩ w0 fun e w => ∃ u, e = .returned u ∧ ascii_Token.post w0 r u w := by
  unfold ascii_Token.f at H
  refine st_start (N := 9) [S p0] (C55 []) func55 (by kernel_rfl) (by kernel_rfl) (by kernel_rfl) ?_
  intro a w hk ho
  refine st_seq (C55 [0]) (C55 [1]) (by kernel_rfl) ?_
  refine st_region 0 (opsOf (C55 [0])) [0] (by kernel_rfl) (by kernel_rfl) ?_
  refine st_pure tabOK hk [0] [] [0] [(0, S p0)] (True) (by kernel_rfl) trivial ?_
  clear hk; intro a hk
  refine st_done ?_
  refine st_seq (C55 [1, 0]) (C55 [1, 1]) (by kernel_rfl) ?_
  refine st_region 1 (opsOf (C55 [1, 0])) [0, 1, 2, 3, 4, 5, 6] (by kernel_rfl) (by kernel_rfl) ?_
  refine st_pure tabOK hk [0, 1, 2] [3, 4, 5, 6] [0, 5] [(0, S p0), (5, .bool (!(p0 == ([]))))] (True) (by kernel_rfl) trivial ?_
  clear hk; intro a hk
  obtain ⟨m1, HX, H⟩ := Option.bind_eq_some_iff.1 H
  refine cut_ops (fun a w => Kn 9 a [(2, .bool m1)] ∧ Ows [] w0 w []) ?_ ?_
  · intro J; clear H; have H := HX; clear HX
    rcases Bool.eq_false_or_eq_true (!(p0 == ([]))) with h2 | h2
    ·
      rw [h2] at hk
      have h3 : (!(p0 == ([]))) = true := h2
      rw [if_pos h3] at H
      refine st_pure tabOK hk [3] [4, 5, 6] [5, 6] [(5, .bool true), (6, S p0)] (True) (by kernel_rfl) trivial ?_
      clear hk; intro a hk
      obtain ⟨t4, h5, H⟩ := Option.bind_eq_some_iff.1 H
      refine st_call hk 50 [S p0, .func (.func 77) #[] #[]] (some 7) enters50 (by kernel_rfl) (ascii_all_ascii_Token_1.ok K  p0 t4 h5 w ) ?_
      clear hk; rintro a u w ⟨rfl, ho'⟩ hk
      replace ho : Ows [] w0 w [] := ho.call ho'; clear ho'
      refine st_pure tabOK hk [5, 6] [] [2] [(2, .bool t4)] (True) (by kernel_rfl) trivial ?_
      clear hk; intro a hk
      refine st_done ?_
      obtain rfl := Option.some.inj H
      exact J a w ⟨hk.to [2] _ (by kernel_rfl), ho⟩
    ·
      rw [h2] at hk
      have h6 : ¬ ((!(p0 == ([]))) = true) := ne_true_of_eq_false h2
      rw [if_neg h6] at H
      refine st_pure tabOK hk [3, 4, 5, 6] [] [2] [(2, .bool false)] (True) (by kernel_rfl) trivial ?_
      clear hk; intro a hk
      refine st_done ?_
      obtain rfl := Option.some.inj H
      exact J a w ⟨hk.to [2] _ (by kernel_rfl), ho⟩
  · clear HX; rintro a w ⟨hk, ho⟩
    refine st_retG hk (by kernel_rfl) [.bool m1] #[.tmp 2] (by kernel_rfl) ⟨resT hk (by kernel_rfl), trivial⟩ ?_
    obtain rfl := Option.some.inj H
    exact ⟨_, rfl, rfl, ho⟩


/-! scullery/ascii.Lower: function 56 -/
noncomputable def C56 (p : List Nat) : Code := Sub (bodyOf f56) p
def ascii_Lower.l0 : Nat → Str → List UInt8 → Int → Option (List UInt8)
  | 0, _, _, _ => none
  | k + 1, p0, v6, v9 => (if v9 < (p0.length : Int) then (if (0 : Int) ≤ v9 then (if v9 < (v6.length : Int) then (((if ((decide (bt v6 v9 ≥ 65)) && (decide (bt v6 v9 ≤ 90))) = true then some (v6.set v9.toNat (u8 (w8 ((w8 ((bt v6 v9) + 97)) - 65)))) else some v6)).bind fun m19 => ascii_Lower.l0 k p0 m19 (w64 (v9 + 1))) else none) else none) else some v6)
def ascii_Lower.f (K : Nat) (p0 : Str) : Option (Str) := (if p0.length ≤ 4294967296 then ((ascii_Lower.l0 K p0 p0 0).bind fun s29 => some s29) else none)
abbrev ascii_Lower.post (w0 : World) (r : Str) (u : Value) (w : World) : Prop := u = S r ∧ Ows [] w0 w []
theorem ascii_Lower.l0_ok : ∀ (k : Nat) (p0 : Str) (v6 : List UInt8) (v9 : Int) (out : List UInt8), ascii_Lower.l0 k p0 v6 v9 = some out → ∀ (o7 : Option Addr) (c8 : Nat) (w0 : World) (Q : Exit → Act → World → Prop) (rest : List It) (a : Act) (w : World), Kn 30 a [(3, .slice o7 v6.length c8), (8, .slice o7 v6.length c8), (9, I (p0.length : Int)), (10, I v9)] → Ows [] w0 w [.row 0 5 1 (.slice o7 v6.length c8) v6.length (v6.map bV)] → (∀ (s : List UInt8) (o10 : Option Addr) (c11 : Nat) (a : Act) (w : World), out = s → Kn 30 a [(3, .slice o10 s.length c11)] → Ows [] w0 w [.row 0 5 1 (.slice o10 s.length c11) s.length (s.map bV)] → G Tryz.prog Q rest a w) → G Tryz.prog Q (.code (C56 [1, 1, 0, 1, 0, 0]) :: .inl (C56 [1, 1, 0, 1, 0, 0]) :: .endb 0 :: rest) a w := by
  intro k
  induction k with
  | zero => intro p0 v6 v9 out H; simp [ascii_Lower.l0] at H
  | succ k ih =>
    intro p0 v6 v9 out H o7 c8 w0 Q rest a w  hk ho J
    simp only [ascii_Lower.l0] at H
    refine st_seq (C56 [1, 1, 0, 1, 0, 0, 0]) (C56 [1, 1, 0, 1, 0, 0, 1]) (by kernel_rfl) ?_
    refine st_region 3 (opsOf (C56 [1, 1, 0, 1, 0, 0, 0])) [0] (by kernel_rfl) (by kernel_rfl) ?_
    refine st_pure tabOK hk [0] [] [3, 8, 9, 10, 11] [(3, .slice o7 v6.length c8), (8, .slice o7 v6.length c8), (9, I (p0.length : Int)), (10, I v9), (11, .bool (decide (v9 < (p0.length : Int))))] (True) (by kernel_rfl) trivial ?_
    clear hk; intro a hk
    refine st_done ?_
    refine st_seq (C56 [1, 1, 0, 1, 0, 0, 1, 0]) (C56 [1, 1, 0, 1, 0, 0, 1, 1]) (by kernel_rfl) ?_
    refine st_cond hk (C56 [1, 1, 0, 1, 0, 0, 1, 0, 0]) (C56 [1, 1, 0, 1, 0, 0, 1, 0, 1]) (.tmp 11) (decide (v9 < (p0.length : Int))) (by kernel_rfl) (by kernel_rfl) (fun h12 => ?_) (fun h12 => ?_)
    ·
      have h13 : v9 < (p0.length : Int) := of_decide_eq_true h12
      rw [if_pos h13] at H
      refine st_skip (by kernel_rfl) ?_
      refine st_seq (C56 [1, 1, 0, 1, 0, 0, 1, 1, 0]) (C56 [1, 1, 0, 1, 0, 0, 1, 1, 1]) (by kernel_rfl) ?_
      refine st_block 1 (C56 [1, 1, 0, 1, 0, 0, 1, 1, 0, 0]) (by kernel_rfl) ?_
      refine st_seq (C56 [1, 1, 0, 1, 0, 0, 1, 1, 0, 0, 0]) (C56 [1, 1, 0, 1, 0, 0, 1, 1, 0, 0, 1]) (by kernel_rfl) ?_
      refine st_region 4 (opsOf (C56 [1, 1, 0, 1, 0, 0, 1, 1, 0, 0, 0])) [0, 1, 2, 3, 4] (by kernel_rfl) (by kernel_rfl) ?_
      have h14 : (0 : Int) ≤ v9 := by
        by_cases h14 : (0 : Int) ≤ v9
        · exact h14
        · rw [if_neg h14] at H; cases H
      rw [if_pos h14] at H
      have h15 : v9 < (v6.length : Int) := by
        by_cases h15 : v9 < (v6.length : Int)
        · exact h15
        · rw [if_neg h15] at H; cases H
      rw [if_pos h15] at H
      refine st_pure tabOK hk [0, 1] [2, 3, 4] [3, 8, 9, 10, 12, 13] [(3, .slice o7 v6.length c8), (8, .slice o7 v6.length c8), (9, I (p0.length : Int)), (10, I v9), (12, I v9), (13, .pointer (o7.map (·.add (v9.toNat * 1))))] ((o7.isSome = true ∧ (0 : Int) ≤ v9 ∧ v9 < (v6.length : Int)) ∧ True) (by kernel_rfl) ⟨⟨(Rd.some1 (ho.rd 0 rfl) h14 h15), h14, h15⟩, trivial⟩ ?_
      clear hk; intro a hk
      refine st_load1 tabOK hk 5 (o7.map (·.add (v9.toNat * 1))) 14 (by kernel_rfl) (by kernel_rfl) (.int .u8 (bt v6 v9)) ((ho.rd 0 rfl).elemB h14 h15) ?_
      clear hk; intro a hk
      refine st_pure tabOK hk [3, 4] [] [3, 4, 5, 8, 9, 10] [(3, .slice o7 v6.length c8), (4, I v9), (5, .int .u8 (bt v6 v9)), (8, .slice o7 v6.length c8), (9, I (p0.length : Int)), (10, I v9)] (True) (by kernel_rfl) trivial ?_
      clear hk; intro a hk
      refine st_done ?_
      refine st_seq (C56 [1, 1, 0, 1, 0, 0, 1, 1, 0, 0, 1, 0]) (C56 [1, 1, 0, 1, 0, 0, 1, 1, 0, 0, 1, 1]) (by kernel_rfl) ?_
      refine st_region 5 (opsOf (C56 [1, 1, 0, 1, 0, 0, 1, 1, 0, 0, 1, 0])) [0, 1, 2, 3, 4, 5] (by kernel_rfl) (by kernel_rfl) ?_
      refine st_pure tabOK hk [0, 1, 2] [3, 4, 5] [3, 4, 5, 8, 9, 10, 17] [(3, .slice o7 v6.length c8), (4, I v9), (5, .int .u8 (bt v6 v9)), (8, .slice o7 v6.length c8), (9, I (p0.length : Int)), (10, I v9), (17, .bool (decide (bt v6 v9 ≥ 65)))] (True) (by kernel_rfl) trivial ?_
      clear hk; intro a hk
      refine cut_ops (fun a w => Kn 30 a [(3, .slice o7 v6.length c8), (4, I v9), (5, .int .u8 (bt v6 v9)), (8, .slice o7 v6.length c8), (9, I (p0.length : Int)), (10, I v9), (20, .bool ((decide (bt v6 v9 ≥ 65)) && (decide (bt v6 v9 ≤ 90))))] ∧ Ows [] w0 w [.row 0 5 1 (.slice o7 v6.length c8) v6.length (v6.map bV)]) ?_ ?_
      · intro J
        rcases Bool.eq_false_or_eq_true (decide (bt v6 v9 ≥ 65)) with h16 | h16
        ·
          rw [h16] at hk
          have h17 : bt v6 v9 ≥ 65 := of_decide_eq_true h16
          refine st_pure tabOK hk [3, 4, 5] [] [3, 4, 5, 8, 9, 10, 20] [(3, .slice o7 v6.length c8), (4, I v9), (5, .int .u8 (bt v6 v9)), (8, .slice o7 v6.length c8), (9, I (p0.length : Int)), (10, I v9), (20, .bool (decide (bt v6 v9 ≤ 90)))] (True) (by kernel_rfl) trivial ?_
          clear hk; intro a hk
          refine st_done ?_
          have e : ((decide (bt v6 v9 ≥ 65)) && (decide (bt v6 v9 ≤ 90))) = (decide (bt v6 v9 ≤ 90)) := by first | (simp only [h16]; done) | (simp only [h16]; rfl) | rfl | simp [h16]
          exact J a w ⟨by rw [e]; exact hk.to [3, 4, 5, 8, 9, 10, 20] _ (by kernel_rfl), ho⟩
        ·
          rw [h16] at hk
          have h18 : ¬ (bt v6 v9 ≥ 65) := of_decide_eq_false h16
          refine st_pure tabOK hk [3, 4, 5] [] [3, 4, 5, 8, 9, 10, 20] [(3, .slice o7 v6.length c8), (4, I v9), (5, .int .u8 (bt v6 v9)), (8, .slice o7 v6.length c8), (9, I (p0.length : Int)), (10, I v9), (20, .bool false)] (True) (by kernel_rfl) trivial ?_
          clear hk; intro a hk
          refine st_done ?_
          have e : ((decide (bt v6 v9 ≥ 65)) && (decide (bt v6 v9 ≤ 90))) = false := by first | (simp only [h16]; done) | (simp only [h16]; rfl) | rfl | simp [h16]
          exact J a w ⟨by rw [e]; exact hk.to [3, 4, 5, 8, 9, 10, 20] _ (by kernel_rfl), ho⟩
      · rintro a w ⟨hk, ho⟩
        obtain ⟨m19, HX, H⟩ := Option.bind_eq_some_iff.1 H
        refine cut_code (fun a w => ∃ (o20 : Option Addr), ∃ (c21 : Nat), Kn 30 a [(3, .slice o20 m19.length c21), (8, .slice o20 m19.length c21), (9, I (p0.length : Int)), (10, I v9)] ∧ Ows [] w0 w [.row 0 5 1 (.slice o20 m19.length c21) m19.length (m19.map bV)]) ?_ ?_
        · intro J; clear H; have H := HX; clear HX
          refine st_cond hk (C56 [1, 1, 0, 1, 0, 0, 1, 1, 0, 0, 1, 1, 0]) (C56 [1, 1, 0, 1, 0, 0, 1, 1, 0, 0, 1, 1, 1]) (.tmp 20) (((decide (bt v6 v9 ≥ 65)) && (decide (bt v6 v9 ≤ 90)))) (by kernel_rfl) (by kernel_rfl) (fun h22 => ?_) (fun h22 => ?_)
          ·
            have h23 : ((decide (bt v6 v9 ≥ 65)) && (decide (bt v6 v9 ≤ 90))) = true := h22
            rw [if_pos h23] at H
            refine st_region 6 (opsOf (C56 [1, 1, 0, 1, 0, 0, 1, 1, 0, 0, 1, 1, 0])) [0, 1, 2, 3, 4, 5, 6] (by kernel_rfl) (by kernel_rfl) ?_
            refine st_pure tabOK hk [0, 1, 2, 3, 4, 5] [6] [3, 8, 9, 10, 25, 26] [(3, .slice o7 v6.length c8), (8, .slice o7 v6.length c8), (9, I (p0.length : Int)), (10, I v9), (25, .int .u8 (w8 ((w8 ((bt v6 v9) + 97)) - 65))), (26, .pointer (o7.map (·.add (v9.toNat * 1))))] ((o7.isSome = true ∧ (0 : Int) ≤ v9 ∧ v9 < (v6.length : Int)) ∧ True) (by kernel_rfl) ⟨⟨(Rd.some1 (ho.rd 0 rfl) h14 h15), h14, h15⟩, trivial⟩ ?_
            clear hk; intro a hk
            try rw [u8_bV (w8 ((w8 ((bt v6 v9) + 97)) - 65)) (w8_range _).1 (w8_range _).2] at hk
            refine st_putB hk ho 0 5 v9 (u8 (w8 ((w8 ((bt v6 v9) + 97)) - 65))) 5 o7 c8 v6 [.row 0 5 1 (.slice o7 ((v6.set v9.toNat (u8 (w8 ((w8 ((bt v6 v9) + 97)) - 65)))).length) c8) ((v6.set v9.toNat (u8 (w8 ((w8 ((bt v6 v9) + 97)) - 65)))).length) ((v6.set v9.toNat (u8 (w8 ((w8 ((bt v6 v9) + 97)) - 65)))).map bV)] (by kernel_rfl) (by kernel_rfl) (by kernel_rfl) rfl h14 h15 rfl ?_
            clear ho; intro w ho
            have h24 : v6.length = (v6.set v9.toNat (u8 (w8 ((w8 ((bt v6 v9) + 97)) - 65)))).length := by simp
            replace hk : Kn 30 a [(3, .slice o7 ((v6.set v9.toNat (u8 (w8 ((w8 ((bt v6 v9) + 97)) - 65)))).length) c8), (8, .slice o7 ((v6.set v9.toNat (u8 (w8 ((w8 ((bt v6 v9) + 97)) - 65)))).length) c8), (9, I (p0.length : Int)), (10, I v9)] := by rw [← h24]; exact hk.to [3, 8, 9, 10] _ (by kernel_rfl)
            refine st_done ?_
            obtain rfl := Option.some.inj H
            exact J a w ⟨o7, c8, hk.to [3, 8, 9, 10] _ (by kernel_rfl), ho⟩
          ·
            have h25 : ¬ (((decide (bt v6 v9 ≥ 65)) && (decide (bt v6 v9 ≤ 90))) = true) := ne_true_of_eq_false h22
            rw [if_neg h25] at H
            refine st_skip (by kernel_rfl) ?_
            obtain rfl := Option.some.inj H
            exact J a w ⟨o7, c8, hk.to [3, 8, 9, 10] _ (by kernel_rfl), ho⟩
        · clear HX; rintro a w ⟨o20, c21, hk, ho⟩
          refine st_endb 1 ?_
          refine st_region 7 (opsOf (C56 [1, 1, 0, 1, 0, 0, 1, 1, 1])) [0, 1] (by kernel_rfl) (by kernel_rfl) ?_
          refine st_pure tabOK hk [0, 1] [] [3, 8, 9, 10] [(3, .slice o20 m19.length c21), (8, .slice o20 m19.length c21), (9, I (p0.length : Int)), (10, I (w64 (v9 + 1)))] (True) (by kernel_rfl) trivial ?_
          clear hk; intro a hk
          refine st_done ?_
          refine st_inl ?_
          exact ih p0 m19 (w64 (v9 + 1)) out H o20 c21 w0 Q rest a w  (hk.to [3, 8, 9, 10] _ (by kernel_rfl)) ho J
    ·
      have h26 : ¬ (v9 < (p0.length : Int)) := of_decide_eq_false h12
      rw [if_neg h26] at H
      refine st_exit 0 _ (by kernel_rfl) rfl ?_
      obtain rfl := Option.some.inj H
      exact J v6 o7 c8 a w rfl (hk.to [3] _ (by kernel_rfl)) ho

theorem ascii_Lower.ok (K : Nat) (p0 : Str) (r : Str) (H : ascii_Lower.f K p0 = some r) (w0 : World)  : Calls Tryz.prog 56 ⟨[S p0]⟩ w0 fun e w => ∃ u, e = .returned u ∧ ascii_Lower.post w0 r u w := by
  unfold ascii_Lower.f at H
  refine st_start (N := 30) [S p0] (C56 []) func56 (by kernel_rfl) (by kernel_rfl) (by kernel_rfl) ?_
  intro a w hk ho
  refine st_seq (C56 [0]) (C56 [1]) (by kernel_rfl) ?_
  refine st_region 0 (opsOf (C56 [0])) [0] (by kernel_rfl) (by kernel_rfl) ?_
  refine st_pure tabOK hk [0] [] [0] [(0, S p0)] (True) (by kernel_rfl) trivial ?_
  clear hk; intro a hk
  refine st_done ?_
  refine st_seq (C56 [1, 0]) (C56 [1, 1]) (by kernel_rfl) ?_
  refine st_region 1 (opsOf (C56 [1, 0])) [0, 1, 2] (by kernel_rfl) (by kernel_rfl) ?_
  refine st_pure tabOK hk [0] [1, 2] [6] [(6, S p0)] (True) (by kernel_rfl) trivial ?_
  clear hk; intro a hk
  have h1 : p0.length ≤ 4294967296 := by
    by_cases h1 : p0.length ≤ 4294967296
    · exact h1
    · rw [if_neg h1] at H; cases H
  rw [if_pos h1] at H
  refine st_bytes tabOK hk ho 9 30 5 7 p0 (by kernel_rfl) (by kernel_rfl) (by kernel_rfl) (by kernel_rfl) h1 ?_
  clear hk ho; intro a o2 c3 w h4 hk ho
  refine st_pure tabOK hk [2] [] [3] [(3, .slice o2 p0.length c3)] (True) (by kernel_rfl) trivial ?_
  clear hk; intro a hk
  refine st_done ?_
  refine st_seq (C56 [1, 1, 0]) (C56 [1, 1, 1]) (by kernel_rfl) ?_
  refine st_seq (C56 [1, 1, 0, 0]) (C56 [1, 1, 0, 1]) (by kernel_rfl) ?_
  refine st_region 2 (opsOf (C56 [1, 1, 0, 0])) [0, 1, 2] (by kernel_rfl) (by kernel_rfl) ?_
  refine st_pure tabOK hk [0, 1, 2] [] [3, 8, 9, 10] [(3, .slice o2 p0.length c3), (8, .slice o2 p0.length c3), (9, I (p0.length : Int)), (10, I 0)] (True) (by kernel_rfl) trivial ?_
  clear hk; intro a hk
  refine st_done ?_
  refine st_block 0 (C56 [1, 1, 0, 1, 0]) (by kernel_rfl) ?_
  obtain ⟨m27, h28, H⟩ := Option.bind_eq_some_iff.1 H
  refine st_loop (C56 [1, 1, 0, 1, 0, 0]) (by kernel_rfl) ?_
  refine ascii_Lower.l0_ok K p0 p0 0 m27 h28 o2 c3 w0 _ _ a w  (hk.to [3, 8, 9, 10] _ (by kernel_rfl)) ho ?_
  · intro s29 o30 c31 a w e hk ho; have e := e.symm; subst e
    refine st_seq (C56 [1, 1, 1, 0]) (C56 [1, 1, 1, 1]) (by kernel_rfl) ?_
    refine st_region 8 (opsOf (C56 [1, 1, 1, 0])) [0, 1, 2] (by kernel_rfl) (by kernel_rfl) ?_
    refine st_pure tabOK hk [0] [1, 2] [28] [(28, .slice o30 s29.length c31)] (True) (by kernel_rfl) trivial ?_
    clear hk; intro a hk
    refine st_string tabOK hk 30 9 5 29 o30 s29.length c31 s29 (by kernel_rfl) (by kernel_rfl) (by kernel_rfl) (by kernel_rfl) rfl (ho.rd 0 rfl) ?_
    clear hk; intro a hk
    refine st_pure tabOK hk [2] [] [2] [(2, S s29)] (True) (by kernel_rfl) trivial ?_
    clear hk; intro a hk
    refine st_done ?_
    replace ho : Ows [] w0 w [] := ho.erase 0
    refine st_retG hk (by kernel_rfl) [S s29] #[.tmp 2] (by kernel_rfl) ⟨resT hk (by kernel_rfl), trivial⟩ ?_
    obtain rfl := Option.some.inj H
    exact ⟨_, rfl, rfl, ho⟩


/-! scullery/head.field: function 30 -/
noncomputable def C30 (p : List Nat) : Code := Sub (bodyOf f30) p
def head_field.f (K : Nat) (p0 : Str) : Option (Str × Str × Int) := (((strings_Cut.f p0 ([58])).bind fun t2 => ((ascii_Trim.f t2.2.1).bind fun t4 => (((if (!t2.2.2) = true then some true else ((ascii_Token.f K t2.1).bind fun t10 => (if (!t10) = true then some true else ((ascii_Text.f K t4).bind fun t15 => some (!t15)))))).bind fun m6 => (if m6 = true then some ([], [], 2) else ((ascii_Lower.f K t2.1).bind fun t20 => some (t20, t4, 0)))))))
abbrev head_field.post (w0 : World) (r : Str × Str × Int) (u : Value) (w : World) : Prop := u = .tuple #[.agg #[S r.1, S r.2.1], I r.2.2] ∧ Ows [] w0 w []
theorem head_field.ok (K : Nat) (p0 : Str) (r : Str × Str × Int) (H : head_field.f K p0 = some r) (w0 : World) (hg : Glob w0) : Calls Tryz.prog 30 ⟨[S p0]⟩ w0 fun e w => ∃ u, e = .returned u ∧ head_field.post w0 r u w := by
  unfold head_field.f at H
  refine st_start (N := 32) [S p0] (C30 []) func30 (by kernel_rfl) (by kernel_rfl) (by kernel_rfl) ?_
  intro a w hk ho
  refine st_seq (C30 [0]) (C30 [1]) (by kernel_rfl) ?_
  refine st_region 0 (opsOf (C30 [0])) [0, 1] (by kernel_rfl) (by kernel_rfl) ?_
  refine st_new tabOK hk ho #[S ([]), S ([])] 60 2 (by kernel_rfl) ?_
  clear hk ho; intro a b1 w hk ho
  refine st_pure tabOK hk [1] [] [0, 2] [(0, S p0), (2, .pointer (some ⟨b1, 0, none⟩))] (True) (by kernel_rfl) trivial ?_
  clear hk; intro a hk
  refine st_done ?_
  refine st_seq (C30 [1, 0]) (C30 [1, 1]) (by kernel_rfl) ?_
  refine st_region 1 (opsOf (C30 [1, 0])) [0, 1, 2, 3, 4, 5, 6, 7, 8] (by kernel_rfl) (by kernel_rfl) ?_
  refine st_pure tabOK hk [0] [1, 2, 3, 4, 5, 6, 7, 8] [2, 8] [(2, .pointer (some ⟨b1, 0, none⟩)), (8, S p0)] (True) (by kernel_rfl) trivial ?_
  clear hk; intro a hk
  obtain ⟨t2, h3, H⟩ := Option.bind_eq_some_iff.1 H
  refine st_call hk 22 [S p0, S ([58])] (some 9) enters22 (by kernel_rfl) (strings_Cut.ok  p0 ([58]) t2 h3 w ) ?_
  clear hk; rintro a u w ⟨rfl, ho'⟩ hk
  replace ho : Ows [] w0 w [.blk b1 (.cells #[S ([]), S ([])] 60 (0, 0))] := ho.call ho'; clear ho'
  refine st_pure tabOK hk [2, 3, 4, 5, 6, 7, 8] [] [2, 4, 5, 6] [(2, .pointer (some ⟨b1, 0, none⟩)), (4, S t2.1), (5, S t2.2.1), (6, .bool t2.2.2)] (True) (by kernel_rfl) trivial ?_
  clear hk; intro a hk
  refine st_done ?_
  refine st_seq (C30 [1, 1, 0]) (C30 [1, 1, 1]) (by kernel_rfl) ?_
  refine st_region 2 (opsOf (C30 [1, 1, 0])) [0, 1, 2] (by kernel_rfl) (by kernel_rfl) ?_
  refine st_pure tabOK hk [0] [1, 2] [2, 4, 6, 13] [(2, .pointer (some ⟨b1, 0, none⟩)), (4, S t2.1), (6, .bool t2.2.2), (13, S t2.2.1)] (True) (by kernel_rfl) trivial ?_
  clear hk; intro a hk
  obtain ⟨t4, h5, H⟩ := Option.bind_eq_some_iff.1 H
  refine st_call hk 28 [S t2.2.1] (some 14) enters28 (by kernel_rfl) (ascii_Trim.ok  t2.2.1 t4 h5 w (hg.of ho)) ?_
  clear hk; rintro a u w ⟨rfl, ho'⟩ hk
  replace ho : Ows [] w0 w [.blk b1 (.cells #[S ([]), S ([])] 60 (0, 0))] := ho.call ho'; clear ho'
  refine st_pure tabOK hk [2] [] [2, 4, 5, 6] [(2, .pointer (some ⟨b1, 0, none⟩)), (4, S t2.1), (5, S t4), (6, .bool t2.2.2)] (True) (by kernel_rfl) trivial ?_
  clear hk; intro a hk
  refine st_done ?_
  refine st_seq (C30 [1, 1, 1, 0]) (C30 [1, 1, 1, 1]) (by kernel_rfl) ?_
  refine st_seq (C30 [1, 1, 1, 0, 0]) (C30 [1, 1, 1, 0, 1]) (by kernel_rfl) ?_
  refine st_region 3 (opsOf (C30 [1, 1, 1, 0, 0])) [0, 1, 2, 3, 4, 5, 6, 7, 8, 9, 10, 11] (by kernel_rfl) (by kernel_rfl) ?_
  refine st_pure tabOK hk [0, 1, 2] [3, 4, 5, 6, 7, 8, 9, 10, 11] [2, 4, 5, 17] [(2, .pointer (some ⟨b1, 0, none⟩)), (4, S t2.1), (5, S t4), (17, .bool (!t2.2.2))] (True) (by kernel_rfl) trivial ?_
  clear hk; intro a hk
  obtain ⟨m6, HX, H⟩ := Option.bind_eq_some_iff.1 H
  refine cut_ops (fun a w => Kn 32 a [(2, .pointer (some ⟨b1, 0, none⟩)), (4, S t2.1), (5, S t4), (26, .bool m6)] ∧ Ows [] w0 w [.blk b1 (.cells #[S ([]), S ([])] 60 (0, 0))]) ?_ ?_
  · intro J; clear H; have H := HX; clear HX
    rcases Bool.eq_false_or_eq_true (!t2.2.2) with h7 | h7
    ·
      rw [h7] at hk
      have h8 : (!t2.2.2) = true := h7
      rw [if_pos h8] at H
      refine st_pure tabOK hk [3, 4, 5, 6, 7, 8, 9, 10, 11] [] [2, 4, 5, 26] [(2, .pointer (some ⟨b1, 0, none⟩)), (4, S t2.1), (5, S t4), (26, .bool true)] (True) (by kernel_rfl) trivial ?_
      clear hk; intro a hk
      refine st_done ?_
      obtain rfl := Option.some.inj H
      exact J a w ⟨hk.to [2, 4, 5, 26] _ (by kernel_rfl), ho⟩
    ·
      rw [h7] at hk
      have h9 : ¬ ((!t2.2.2) = true) := ne_true_of_eq_false h7
      rw [if_neg h9] at H
      refine st_pure tabOK hk [3] [4, 5, 6, 7, 8, 9, 10, 11] [2, 4, 5, 17, 18] [(2, .pointer (some ⟨b1, 0, none⟩)), (4, S t2.1), (5, S t4), (17, .bool false), (18, S t2.1)] (True) (by kernel_rfl) trivial ?_
      clear hk; intro a hk
      obtain ⟨t10, h11, H⟩ := Option.bind_eq_some_iff.1 H
      refine st_call hk 55 [S t2.1] (some 19) enters55 (by kernel_rfl) (ascii_Token.ok K  t2.1 t10 h11 w ) ?_
      clear hk; rintro a u w ⟨rfl, ho'⟩ hk
      replace ho : Ows [] w0 w [.blk b1 (.cells #[S ([]), S ([])] 60 (0, 0))] := ho.call ho'; clear ho'
      refine st_pure tabOK hk [5, 6, 7] [8, 9, 10, 11] [2, 4, 5, 22] [(2, .pointer (some ⟨b1, 0, none⟩)), (4, S t2.1), (5, S t4), (22, .bool (!t10))] (True) (by kernel_rfl) trivial ?_
      clear hk; intro a hk
      rcases Bool.eq_false_or_eq_true (!t10) with h12 | h12
      ·
        rw [h12] at hk
        have h13 : (!t10) = true := h12
        rw [if_pos h13] at H
        refine st_pure tabOK hk [8, 9, 10, 11] [] [2, 4, 5, 26] [(2, .pointer (some ⟨b1, 0, none⟩)), (4, S t2.1), (5, S t4), (26, .bool true)] (True) (by kernel_rfl) trivial ?_
        clear hk; intro a hk
        refine st_done ?_
        obtain rfl := Option.some.inj H
        exact J a w ⟨hk.to [2, 4, 5, 26] _ (by kernel_rfl), ho⟩
      ·
        rw [h12] at hk
        have h14 : ¬ ((!t10) = true) := ne_true_of_eq_false h12
        rw [if_neg h14] at H
        refine st_pure tabOK hk [8] [9, 10, 11] [2, 4, 5, 22, 23] [(2, .pointer (some ⟨b1, 0, none⟩)), (4, S t2.1), (5, S t4), (22, .bool false), (23, S t4)] (True) (by kernel_rfl) trivial ?_
        clear hk; intro a hk
        obtain ⟨t15, h16, H⟩ := Option.bind_eq_some_iff.1 H
        refine st_call hk 27 [S t4] (some 24) enters27 (by kernel_rfl) (ascii_Text.ok K  t4 t15 h16 w (hg.of ho)) ?_
        clear hk; rintro a u w ⟨rfl, ho'⟩ hk
        replace ho : Ows [] w0 w [.blk b1 (.cells #[S ([]), S ([])] 60 (0, 0))] := ho.call ho'; clear ho'
        refine st_pure tabOK hk [10, 11] [] [2, 4, 5, 26] [(2, .pointer (some ⟨b1, 0, none⟩)), (4, S t2.1), (5, S t4), (26, .bool (!t15))] (True) (by kernel_rfl) trivial ?_
        clear hk; intro a hk
        refine st_done ?_
        obtain rfl := Option.some.inj H
        exact J a w ⟨hk.to [2, 4, 5, 26] _ (by kernel_rfl), ho⟩
  · clear HX; rintro a w ⟨hk, ho⟩
    refine st_cond hk (C30 [1, 1, 1, 0, 1, 0]) (C30 [1, 1, 1, 0, 1, 1]) (.tmp 26) (m6) (by kernel_rfl) (by kernel_rfl) (fun h17 => ?_) (fun h17 => ?_)
    ·
      have h18 : m6 = true := h17
      rw [if_pos h18] at H
      refine st_seq (C30 [1, 1, 1, 0, 1, 0, 0]) (C30 [1, 1, 1, 0, 1, 0, 1]) (by kernel_rfl) ?_
      refine st_region 4 (opsOf (C30 [1, 1, 1, 0, 1, 0, 0])) [0, 1, 2] (by kernel_rfl) (by kernel_rfl) ?_
      refine st_pure tabOK hk [0] [1, 2] [2, 27] [(2, .pointer (some ⟨b1, 0, none⟩)), (27, .agg #[S ([]), S ([])])] (True) (by kernel_rfl) trivial ?_
      clear hk; intro a hk
      refine st_putA hk ho 0 60 b1 0 [S ([]), S ([])] #[S ([]), S ([])] 60 [.blk b1 (.cells #[S ([]), S ([])] 60 (0, 0))] (by kernel_rfl) (by kernel_rfl) (by kernel_rfl) rfl (by kernel_rfl) (by kernel_rfl) rfl ?_
      clear ho; intro w ho
      refine st_pure tabOK hk [2] [] [2, 3] [(2, .pointer (some ⟨b1, 0, none⟩)), (3, I 2)] (True) (by kernel_rfl) trivial ?_
      clear hk; intro a hk
      refine st_done ?_
      refine st_retG hk (by kernel_rfl) [.agg #[S ([]), S ([])], I 2] #[.cell 2 60, .tmp 3] (by kernel_rfl) ⟨resC tabOK hk (by kernel_rfl) (ho.blkAt 0 rfl) rfl (by kernel_rfl) (z := .agg #[S ([]), S ([])]) (by kernel_rfl) (by kernel_rfl), resT hk (by kernel_rfl), trivial⟩ ?_
      obtain rfl := Option.some.inj H
      replace ho : Ows [] w0 w [] := ho.erase 0
      exact ⟨_, rfl, rfl, ho⟩
    ·
      have h19 : ¬ (m6 = true) := ne_true_of_eq_false h17
      rw [if_neg h19] at H
      refine st_skip (by kernel_rfl) ?_
      refine st_seq (C30 [1, 1, 1, 1, 0]) (C30 [1, 1, 1, 1, 1]) (by kernel_rfl) ?_
      refine st_region 5 (opsOf (C30 [1, 1, 1, 1, 0])) [0, 1, 2, 3, 4, 5] (by kernel_rfl) (by kernel_rfl) ?_
      refine st_pure tabOK hk [0] [1, 2, 3, 4, 5] [2, 5, 28] [(2, .pointer (some ⟨b1, 0, none⟩)), (5, S t4), (28, S t2.1)] (True) (by kernel_rfl) trivial ?_
      clear hk; intro a hk
      obtain ⟨t20, h21, H⟩ := Option.bind_eq_some_iff.1 H
      refine st_call hk 56 [S t2.1] (some 29) enters56 (by kernel_rfl) (ascii_Lower.ok K  t2.1 t20 h21 w ) ?_
      clear hk; rintro a u w ⟨rfl, ho'⟩ hk
      replace ho : Ows [] w0 w [.blk b1 (.cells #[S ([]), S ([])] 60 (0, 0))] := ho.call ho'; clear ho'
      refine st_pure tabOK hk [2, 3] [4, 5] [2, 31] [(2, .pointer (some ⟨b1, 0, none⟩)), (31, .agg #[S t20, S t4])] (True) (by kernel_rfl) trivial ?_
      clear hk; intro a hk
      refine st_putA hk ho 0 60 b1 0 [S t20, S t4] #[S ([]), S ([])] 60 [.blk b1 (.cells #[S t20, S t4] 60 (0, 0))] (by kernel_rfl) (by kernel_rfl) (by kernel_rfl) rfl (by kernel_rfl) (by kernel_rfl) rfl ?_
      clear ho; intro w ho
      refine st_pure tabOK hk [5] [] [2, 3] [(2, .pointer (some ⟨b1, 0, none⟩)), (3, I 0)] (True) (by kernel_rfl) trivial ?_
      clear hk; intro a hk
      refine st_done ?_
      refine st_retG hk (by kernel_rfl) [.agg #[S t20, S t4], I 0] #[.cell 2 60, .tmp 3] (by kernel_rfl) ⟨resC tabOK hk (by kernel_rfl) (ho.blkAt 0 rfl) rfl (by kernel_rfl) (z := .agg #[S ([]), S ([])]) (by kernel_rfl) (by kernel_rfl), resT hk (by kernel_rfl), trivial⟩ ?_
      obtain rfl := Option.some.inj H
      replace ho : Ows [] w0 w [] := ho.erase 0
      exact ⟨_, rfl, rfl, ho⟩


/-! scullery/head.Parse: function 16 -/
noncomputable def C16 (p : List Nat) : Code := Sub (bodyOf f16) p
def head_Parse.l0 (K : Nat) : Nat → Str → (List (Str × Str)) → Str → Option ((List (Str × Str)) × Int × Int)
  | 0, _, _, _ => none
  | k + 1, p0, v2, v5 => (((head_line.f v5).bind fun t6 => (if (t6.2.2 != 0) = true then some (([] : List (Str × Str)), 0, t6.2.2) else (if (t6.1 == ([])) = true then some (v2, w64 ((p0.length : Int) - (t6.2.1.length : Int)), 0) else (if ((v2.length : Int) == 64) = true then some (([] : List (Str × Str)), 0, 4) else ((head_field.f K t6.1).bind fun t19 => (if (t19.2.2 != 0) = true then some (([] : List (Str × Str)), 0, t19.2.2) else (if v2.length + ([(t19.1, t19.2.1)] : List (Str × Str)).length ≤ 4294967296 then head_Parse.l0 K k p0 (v2 ++ ([(t19.1, t19.2.1)] : List (Str × Str))) t6.2.1 else none))))))))
def head_Parse.f (K : Nat) (p0 : Str) : Option ((List (Str × Str)) × Int × Int) := (((head_Parse.l0 K K p0 ([] : List (Str × Str)) p0).bind fun r39 => some r39))
abbrev head_Parse.post (w0 : World) (r : (List (Str × Str)) × Int × Int) (u : Value) (w : World) : Prop := ∃ (o43 : Option Addr), ∃ (c44 : Nat), u = .tuple #[.slice o43 r.1.length c44, I r.2.1, I r.2.2] ∧ Ows [] w0 w [.row 0 60 2 (.slice o43 r.1.length c44) r.1.length (r.1.flatMap encT60)]
theorem head_Parse.l0_ok (K : Nat) : ∀ (k : Nat) (p0 : Str) (v2 : List (Str × Str)) (v5 : Str) (out : (List (Str × Str)) × Int × Int), head_Parse.l0 K k p0 v2 v5 = some out → ∀ (o3 : Option Addr) (c4 : Nat) (w0 : World) (hg : Glob w0) (Q : Exit → Act → World → Prop) (rest : List It) (a : Act) (w : World), Kn 48 a [(0, S p0), (5, .slice o3 v2.length c4), (6, S v5)] → Ows [] w0 w [.row 2 60 2 (.slice o3 v2.length c4) v2.length (v2.flatMap encT60)] → (∀ (r : (List (Str × Str)) × Int × Int) (o33 : Option Addr) (c34 : Nat) (a : Act) (w : World), out = r → Kn 48 a [(2, .slice o33 r.1.length c34), (3, I r.2.1), (4, I r.2.2)] → Ows [] w0 w [.row 0 60 2 (.slice o33 r.1.length c34) r.1.length (r.1.flatMap encT60)] → Q .ret a w) → G Tryz.prog Q (.code (C16 [1, 1, 1, 0, 0]) :: .inl (C16 [1, 1, 1, 0, 0]) :: rest) a w := by
  intro k
  induction k with
  | zero => intro p0 v2 v5 out H; simp [head_Parse.l0] at H
  | succ k ih =>
    intro p0 v2 v5 out H o3 c4 w0 hg Q rest a w  hk ho R
    simp only [head_Parse.l0] at H
    refine st_block 1 (C16 [1, 1, 1, 0, 0, 0]) (by kernel_rfl) ?_
    refine st_seq (C16 [1, 1, 1, 0, 0, 0, 0]) (C16 [1, 1, 1, 0, 0, 0, 1]) (by kernel_rfl) ?_
    refine st_region 3 (opsOf (C16 [1, 1, 1, 0, 0, 0, 0])) [0, 1, 2, 3, 4, 5, 6, 7, 8] (by kernel_rfl) (by kernel_rfl) ?_
    refine st_pure tabOK hk [0] [1, 2, 3, 4, 5, 6, 7, 8] [0, 5, 13] [(0, S p0), (5, .slice o3 v2.length c4), (13, S v5)] (True) (by kernel_rfl) trivial ?_
    clear hk; intro a hk
    obtain ⟨t6, h7, H⟩ := Option.bind_eq_some_iff.1 H
    refine st_call hk 29 [S v5] (some 14) enters29 (by kernel_rfl) (head_line.ok  v5 t6 h7 w ) ?_
    clear hk; rintro a u w ⟨rfl, ho'⟩ hk
    replace ho : Ows [] w0 w [.row 2 60 2 (.slice o3 v2.length c4) v2.length (v2.flatMap encT60)] := ho.call ho'; clear ho'
    refine st_pure tabOK hk [2, 3, 4, 5, 6, 7, 8] [] [0, 5, 7, 8, 9] [(0, S p0), (5, .slice o3 v2.length c4), (7, S t6.1), (8, S t6.2.1), (9, I t6.2.2)] (True) (by kernel_rfl) trivial ?_
    clear hk; intro a hk
    refine st_done ?_
    refine st_seq (C16 [1, 1, 1, 0, 0, 0, 1, 0]) (C16 [1, 1, 1, 0, 0, 0, 1, 1]) (by kernel_rfl) ?_
    refine st_block 2 (C16 [1, 1, 1, 0, 0, 0, 1, 0, 0]) (by kernel_rfl) ?_
    refine st_seq (C16 [1, 1, 1, 0, 0, 0, 1, 0, 0, 0]) (C16 [1, 1, 1, 0, 0, 0, 1, 0, 0, 1]) (by kernel_rfl) ?_
    refine st_region 4 (opsOf (C16 [1, 1, 1, 0, 0, 0, 1, 0, 0, 0])) [0, 1, 2] (by kernel_rfl) (by kernel_rfl) ?_
    refine st_pure tabOK hk [0, 1, 2] [] [0, 5, 7, 8, 9, 18] [(0, S p0), (5, .slice o3 v2.length c4), (7, S t6.1), (8, S t6.2.1), (9, I t6.2.2), (18, .bool (t6.2.2 != 0))] (True) (by kernel_rfl) trivial ?_
    clear hk; intro a hk
    refine st_done ?_
    refine st_cond hk (C16 [1, 1, 1, 0, 0, 0, 1, 0, 0, 1, 0]) (C16 [1, 1, 1, 0, 0, 0, 1, 0, 0, 1, 1]) (.tmp 18) (t6.2.2 != 0) (by kernel_rfl) (by kernel_rfl) (fun h8 => ?_) (fun h8 => ?_)
    ·
      have h9 : (t6.2.2 != 0) = true := h8
      rw [if_pos h9] at H
      refine st_seq (C16 [1, 1, 1, 0, 0, 0, 1, 0, 0, 1, 0, 0]) (C16 [1, 1, 1, 0, 0, 0, 1, 0, 0, 1, 0, 1]) (by kernel_rfl) ?_
      refine st_region 5 (opsOf (C16 [1, 1, 1, 0, 0, 0, 1, 0, 0, 1, 0, 0])) [0, 1, 2, 3] (by kernel_rfl) (by kernel_rfl) ?_
      refine st_pure tabOK hk [0, 1, 2, 3] [] [2, 3, 4] [(2, .slice none 0 0), (3, I 0), (4, I t6.2.2)] (True) (by kernel_rfl) trivial ?_
      clear hk; intro a hk
      refine st_done ?_
      refine st_ret (by kernel_rfl) ?_
      replace ho := ho.nilRow 0 60 2
      replace ho : Ows [] w0 w [.row 0 60 2 (.slice none 0 0) 0 (([] : List (Str × Str)).flatMap encT60)] := ho.erase 1
      obtain rfl := Option.some.inj H
      exact R (([] : List (Str × Str)), 0, t6.2.2) none 0 a w rfl (hk.to [2, 3, 4] _ (by kernel_rfl)) ho
    ·
      have h11 : ¬ ((t6.2.2 != 0) = true) := ne_true_of_eq_false h8
      rw [if_neg h11] at H
      refine st_seq (C16 [1, 1, 1, 0, 0, 0, 1, 0, 0, 1, 1, 0]) (C16 [1, 1, 1, 0, 0, 0, 1, 0, 0, 1, 1, 1]) (by kernel_rfl) ?_
      refine st_region 6 (opsOf (C16 [1, 1, 1, 0, 0, 0, 1, 0, 0, 1, 1, 0])) [0, 1, 2] (by kernel_rfl) (by kernel_rfl) ?_
      refine st_pure tabOK hk [0, 1, 2] [] [0, 5, 7, 8, 22] [(0, S p0), (5, .slice o3 v2.length c4), (7, S t6.1), (8, S t6.2.1), (22, .bool (t6.1 == ([])))] (True) (by kernel_rfl) trivial ?_
      clear hk; intro a hk
      refine st_done ?_
      refine st_cond hk (C16 [1, 1, 1, 0, 0, 0, 1, 0, 0, 1, 1, 1, 0]) (C16 [1, 1, 1, 0, 0, 0, 1, 0, 0, 1, 1, 1, 1]) (.tmp 22) (t6.1 == ([])) (by kernel_rfl) (by kernel_rfl) (fun h12 => ?_) (fun h12 => ?_)
      ·
        have h13 : (t6.1 == ([])) = true := h12
        rw [if_pos h13] at H
        refine st_seq (C16 [1, 1, 1, 0, 0, 0, 1, 0, 0, 1, 1, 1, 0, 0]) (C16 [1, 1, 1, 0, 0, 0, 1, 0, 0, 1, 1, 1, 0, 1]) (by kernel_rfl) ?_
        refine st_region 7 (opsOf (C16 [1, 1, 1, 0, 0, 0, 1, 0, 0, 1, 1, 1, 0, 0])) [0, 1, 2, 3, 4, 5, 6, 7, 8] (by kernel_rfl) (by kernel_rfl) ?_
        refine st_pure tabOK hk [0, 1, 2, 3, 4, 5, 6, 7, 8] [] [2, 3, 4] [(2, .slice o3 v2.length c4), (3, I (w64 ((p0.length : Int) - (t6.2.1.length : Int)))), (4, I 0)] (True) (by kernel_rfl) trivial ?_
        clear hk; intro a hk
        refine st_done ?_
        refine st_ret (by kernel_rfl) ?_
        replace ho : Ows [] w0 w [.row 0 60 2 (.slice o3 v2.length c4) v2.length (v2.flatMap encT60)] := ho.weak 0 rfl _ rfl
        obtain rfl := Option.some.inj H
        exact R (v2, w64 ((p0.length : Int) - (t6.2.1.length : Int)), 0) o3 c4 a w rfl (hk.to [2, 3, 4] _ (by kernel_rfl)) ho
      ·
        have h14 : ¬ ((t6.1 == ([])) = true) := ne_true_of_eq_false h12
        rw [if_neg h14] at H
        refine st_seq (C16 [1, 1, 1, 0, 0, 0, 1, 0, 0, 1, 1, 1, 1, 0]) (C16 [1, 1, 1, 0, 0, 0, 1, 0, 0, 1, 1, 1, 1, 1]) (by kernel_rfl) ?_
        refine st_region 8 (opsOf (C16 [1, 1, 1, 0, 0, 0, 1, 0, 0, 1, 1, 1, 1, 0])) [0, 1, 2, 3] (by kernel_rfl) (by kernel_rfl) ?_
        refine st_pure tabOK hk [0, 1, 2, 3] [] [0, 5, 7, 8, 31] [(0, S p0), (5, .slice o3 v2.length c4), (7, S t6.1), (8, S t6.2.1), (31, .bool ((v2.length : Int) == 64))] (True) (by kernel_rfl) trivial ?_
        clear hk; intro a hk
        refine st_done ?_
        refine st_cond hk (C16 [1, 1, 1, 0, 0, 0, 1, 0, 0, 1, 1, 1, 1, 1, 0]) (C16 [1, 1, 1, 0, 0, 0, 1, 0, 0, 1, 1, 1, 1, 1, 1]) (.tmp 31) ((v2.length : Int) == 64) (by kernel_rfl) (by kernel_rfl) (fun h15 => ?_) (fun h15 => ?_)
        ·
          have h16 : ((v2.length : Int) == 64) = true := h15
          rw [if_pos h16] at H
          refine st_seq (C16 [1, 1, 1, 0, 0, 0, 1, 0, 0, 1, 1, 1, 1, 1, 0, 0]) (C16 [1, 1, 1, 0, 0, 0, 1, 0, 0, 1, 1, 1, 1, 1, 0, 1]) (by kernel_rfl) ?_
          refine st_region 9 (opsOf (C16 [1, 1, 1, 0, 0, 0, 1, 0, 0, 1, 1, 1, 1, 1, 0, 0])) [0, 1, 2] (by kernel_rfl) (by kernel_rfl) ?_
          refine st_pure tabOK hk [0, 1, 2] [] [2, 3, 4] [(2, .slice none 0 0), (3, I 0), (4, I 4)] (True) (by kernel_rfl) trivial ?_
          clear hk; intro a hk
          refine st_done ?_
          refine st_ret (by kernel_rfl) ?_
          replace ho := ho.nilRow 0 60 2
          replace ho : Ows [] w0 w [.row 0 60 2 (.slice none 0 0) 0 (([] : List (Str × Str)).flatMap encT60)] := ho.erase 1
          obtain rfl := Option.some.inj H
          exact R (([] : List (Str × Str)), 0, 4) none 0 a w rfl (hk.to [2, 3, 4] _ (by kernel_rfl)) ho
        ·
          have h18 : ¬ (((v2.length : Int) == 64) = true) := ne_true_of_eq_false h15
          rw [if_neg h18] at H
          refine st_skip (by kernel_rfl) ?_
          refine st_endb 2 ?_
          refine st_seq (C16 [1, 1, 1, 0, 0, 0, 1, 1, 0]) (C16 [1, 1, 1, 0, 0, 0, 1, 1, 1]) (by kernel_rfl) ?_
          refine st_region 10 (opsOf (C16 [1, 1, 1, 0, 0, 0, 1, 1, 0])) [0, 1, 2, 3, 4, 5, 6, 7] (by kernel_rfl) (by kernel_rfl) ?_
          refine st_pure tabOK hk [0] [1, 2, 3, 4, 5, 6, 7] [0, 5, 8, 36] [(0, S p0), (5, .slice o3 v2.length c4), (8, S t6.2.1), (36, S t6.1)] (True) (by kernel_rfl) trivial ?_
          clear hk; intro a hk
          obtain ⟨t19, h20, H⟩ := Option.bind_eq_some_iff.1 H
          refine st_call hk 30 [S t6.1] (some 37) enters30 (by kernel_rfl) (head_field.ok K  t6.1 t19 h20 w (hg.of ho)) ?_
          clear hk; rintro a u w ⟨rfl, ho'⟩ hk
          replace ho : Ows [] w0 w [.row 2 60 2 (.slice o3 v2.length c4) v2.length (v2.flatMap encT60)] := ho.call ho'; clear ho'
          refine st_pure tabOK hk [2, 3, 4] [5, 6, 7] [0, 5, 8, 38, 39] [(0, S p0), (5, .slice o3 v2.length c4), (8, S t6.2.1), (38, .agg #[S t19.1, S t19.2.1]), (39, I t19.2.2)] (True) (by kernel_rfl) trivial ?_
          clear hk; intro a hk
          refine st_new tabOK hk ho #[S ([]), S ([])] 60 10 (by kernel_rfl) ?_
          clear hk ho; intro a b21 w hk ho
          refine st_putA hk ho 0 60 b21 0 [S t19.1, S t19.2.1] #[S ([]), S ([])] 60 [.blk b21 (.cells #[S t19.1, S t19.2.1] 60 (0, 0)), .row 2 60 2 (.slice o3 v2.length c4) v2.length (v2.flatMap encT60)] (by kernel_rfl) (by kernel_rfl) (by kernel_rfl) rfl (by kernel_rfl) (by kernel_rfl) rfl ?_
          clear ho; intro w ho
          refine st_pure tabOK hk [7] [] [0, 5, 8, 9, 10] [(0, S p0), (5, .slice o3 v2.length c4), (8, S t6.2.1), (9, I t19.2.2), (10, .pointer (some ⟨b21, 0, none⟩))] (True) (by kernel_rfl) trivial ?_
          clear hk; intro a hk
          refine st_done ?_
          refine st_seq (C16 [1, 1, 1, 0, 0, 0, 1, 1, 1, 0]) (C16 [1, 1, 1, 0, 0, 0, 1, 1, 1, 1]) (by kernel_rfl) ?_
          refine st_seq (C16 [1, 1, 1, 0, 0, 0, 1, 1, 1, 0, 0]) (C16 [1, 1, 1, 0, 0, 0, 1, 1, 1, 0, 1]) (by kernel_rfl) ?_
          refine st_region 11 (opsOf (C16 [1, 1, 1, 0, 0, 0, 1, 1, 1, 0, 0])) [0, 1] (by kernel_rfl) (by kernel_rfl) ?_
          refine st_pure tabOK hk [0, 1] [] [0, 5, 8, 9, 10, 41] [(0, S p0), (5, .slice o3 v2.length c4), (8, S t6.2.1), (9, I t19.2.2), (10, .pointer (some ⟨b21, 0, none⟩)), (41, .bool (t19.2.2 != 0))] (True) (by kernel_rfl) trivial ?_
          clear hk; intro a hk
          refine st_done ?_
          refine st_cond hk (C16 [1, 1, 1, 0, 0, 0, 1, 1, 1, 0, 1, 0]) (C16 [1, 1, 1, 0, 0, 0, 1, 1, 1, 0, 1, 1]) (.tmp 41) (t19.2.2 != 0) (by kernel_rfl) (by kernel_rfl) (fun h22 => ?_) (fun h22 => ?_)
          ·
            have h23 : (t19.2.2 != 0) = true := h22
            rw [if_pos h23] at H
            refine st_seq (C16 [1, 1, 1, 0, 0, 0, 1, 1, 1, 0, 1, 0, 0]) (C16 [1, 1, 1, 0, 0, 0, 1, 1, 1, 0, 1, 0, 1]) (by kernel_rfl) ?_
            refine st_region 12 (opsOf (C16 [1, 1, 1, 0, 0, 0, 1, 1, 1, 0, 1, 0, 0])) [0, 1, 2, 3] (by kernel_rfl) (by kernel_rfl) ?_
            refine st_pure tabOK hk [0, 1, 2, 3] [] [2, 3, 4] [(2, .slice none 0 0), (3, I 0), (4, I t19.2.2)] (True) (by kernel_rfl) trivial ?_
            clear hk; intro a hk
            refine st_done ?_
            refine st_ret (by kernel_rfl) ?_
            replace ho := ho.nilRow 0 60 2
            replace ho : Ows [] w0 w [.row 0 60 2 (.slice none 0 0) 0 (([] : List (Str × Str)).flatMap encT60), .row 2 60 2 (.slice o3 v2.length c4) v2.length (v2.flatMap encT60)] := ho.erase 1
            replace ho : Ows [] w0 w [.row 0 60 2 (.slice none 0 0) 0 (([] : List (Str × Str)).flatMap encT60)] := ho.erase 1
            obtain rfl := Option.some.inj H
            exact R (([] : List (Str × Str)), 0, t19.2.2) none 0 a w rfl (hk.to [2, 3, 4] _ (by kernel_rfl)) ho
          ·
            have h25 : ¬ ((t19.2.2 != 0) = true) := ne_true_of_eq_false h22
            rw [if_neg h25] at H
            refine st_skip (by kernel_rfl) ?_
            refine st_region 13 (opsOf (C16 [1, 1, 1, 0, 0, 0, 1, 1, 1, 1])) [0, 1, 2, 3, 4, 5, 6] (by kernel_rfl) (by kernel_rfl) ?_
            refine st_pure tabOK hk [0] [1, 2, 3, 4, 5, 6] [0, 8, 10, 43] [(0, S p0), (8, S t6.2.1), (10, .pointer (some ⟨b21, 0, none⟩)), (43, .slice o3 v2.length c4)] (True) (by kernel_rfl) trivial ?_
            clear hk; intro a hk
            refine st_loadA tabOK hk 60 (some ⟨b21, 0, none⟩) 44 (by kernel_rfl) (by kernel_rfl) (.agg #[S ([]), S ([])]) (by kernel_rfl) [S t19.1, S t19.2.1] rfl (ho.cellsA 0 rfl rfl) ?_
            clear hk; intro a hk
            refine st_lit tabOK hk ho #[S t19.1, S t19.2.1] 60 2 1 45 (by kernel_rfl) ?_
            clear hk ho; intro a o26 w h27 hk ho
            replace ho : Ows [] w0 w [.row 0 60 2 (.slice o26 (([(t19.1, t19.2.1)] : List (Str × Str)).length) 1) (([(t19.1, t19.2.1)] : List (Str × Str)).length) (([(t19.1, t19.2.1)] : List (Str × Str)).flatMap encT60), .blk b21 (.cells #[S t19.1, S t19.2.1] 60 (0, 0)), .row 2 60 2 (.slice o3 v2.length c4) v2.length (v2.flatMap encT60)] := ho
            replace hk : Kn 48 a [(0, S p0), (8, S t6.2.1), (43, .slice o3 v2.length c4), (45, .slice o26 (([(t19.1, t19.2.1)] : List (Str × Str)).length) 1)] := hk.to [0, 8, 43, 45] _ (by kernel_rfl)
            have h29 : v2.length + ([(t19.1, t19.2.1)] : List (Str × Str)).length ≤ 4294967296 := by
              by_cases h29 : v2.length + ([(t19.1, t19.2.1)] : List (Str × Str)).length ≤ 4294967296
              · exact h29
              · rw [if_neg h29] at H; cases H
            rw [if_pos h29] at H
            refine st_append tabOK hk ho 2 45 60 2 46 (.agg #[S ([]), S ([])]) o3 v2.length c4 (v2.flatMap encT60) o26 (([(t19.1, t19.2.1)] : List (Str × Str)).length) 1 (([(t19.1, t19.2.1)] : List (Str × Str)).flatMap encT60) (by kernel_rfl) (by kernel_rfl) (by kernel_rfl) (by decide) rfl (flat_len encT60_len _) (ho.rd 0 rfl) (one_flat encT60_one _) h29 ((v2 ++ ([(t19.1, t19.2.1)] : List (Str × Str))).length) ((v2 ++ ([(t19.1, t19.2.1)] : List (Str × Str))).flatMap encT60) (by simp) (by first | rfl | exact (List.flatMap_append ..).symm) ?_
            clear hk ho; intro a o30 c31 w h32 hk ho
            replace ho : Ows [] w0 w [.row 0 60 2 (.slice o26 (([(t19.1, t19.2.1)] : List (Str × Str)).length) 1) (([(t19.1, t19.2.1)] : List (Str × Str)).length) (([(t19.1, t19.2.1)] : List (Str × Str)).flatMap encT60), .blk b21 (.cells #[S t19.1, S t19.2.1] 60 (0, 0)), .row 2 60 2 (.slice o30 ((v2 ++ ([(t19.1, t19.2.1)] : List (Str × Str))).length) c31) ((v2 ++ ([(t19.1, t19.2.1)] : List (Str × Str))).length) ((v2 ++ ([(t19.1, t19.2.1)] : List (Str × Str))).flatMap encT60)] := ho
            refine st_pure tabOK hk [4, 5, 6] [] [0, 5, 6] [(0, S p0), (5, .slice o30 ((v2 ++ ([(t19.1, t19.2.1)] : List (Str × Str))).length) c31), (6, S t6.2.1)] (True) (by kernel_rfl) trivial ?_
            clear hk; intro a hk
            refine st_done ?_
            refine st_endb 1 ?_
            refine st_inl ?_
            replace ho : Ows [] w0 w [.blk b21 (.cells #[S t19.1, S t19.2.1] 60 (0, 0)), .row 2 60 2 (.slice o30 ((v2 ++ ([(t19.1, t19.2.1)] : List (Str × Str))).length) c31) ((v2 ++ ([(t19.1, t19.2.1)] : List (Str × Str))).length) ((v2 ++ ([(t19.1, t19.2.1)] : List (Str × Str))).flatMap encT60)] := ho.erase 0
            replace ho : Ows [] w0 w [.row 2 60 2 (.slice o30 ((v2 ++ ([(t19.1, t19.2.1)] : List (Str × Str))).length) c31) ((v2 ++ ([(t19.1, t19.2.1)] : List (Str × Str))).length) ((v2 ++ ([(t19.1, t19.2.1)] : List (Str × Str))).flatMap encT60)] := ho.erase 0
            exact ih p0 (v2 ++ ([(t19.1, t19.2.1)] : List (Str × Str))) t6.2.1 out H o30 c31 w0 hg Q rest a w  (hk.to [0, 5, 6] _ (by kernel_rfl)) ho R

theorem head_Parse.ok (K : Nat) (p0 : Str) (r : (List (Str × Str)) × Int × Int) (H : head_Parse.f K p0 = some r) (w0 : World) (hg : Glob w0) : Calls Tryz.prog 16 ⟨[S p0]⟩ w0 fun e w => ∃ u, e = .returned u ∧ head_Parse.post w0 r u w := by
  unfold head_Parse.f at H
  refine st_start (N := 48) [S p0] (C16 []) func16 (by kernel_rfl) (by kernel_rfl) (by kernel_rfl) ?_
  intro a w hk ho
  refine st_seq (C16 [0]) (C16 [1]) (by kernel_rfl) ?_
  refine st_region 0 (opsOf (C16 [0])) [0, 1, 2] (by kernel_rfl) (by kernel_rfl) ?_
  refine st_pure tabOK hk [0, 1, 2] [] [0] [(0, S p0)] (True) (by kernel_rfl) trivial ?_
  clear hk; intro a hk
  refine st_done ?_
  refine st_seq (C16 [1, 0]) (C16 [1, 1]) (by kernel_rfl) ?_
  refine st_region 1 (opsOf (C16 [1, 0])) [0] (by kernel_rfl) (by kernel_rfl) ?_
  refine st_pure tabOK hk [0] [] [0, 5] [(0, S p0), (5, .slice none 0 0)] (True) (by kernel_rfl) trivial ?_
  clear hk; intro a hk
  refine st_done ?_
  refine st_seq (C16 [1, 1, 0]) (C16 [1, 1, 1]) (by kernel_rfl) ?_
  refine st_region 2 (opsOf (C16 [1, 1, 0])) [0, 1] (by kernel_rfl) (by kernel_rfl) ?_
  refine st_pure tabOK hk [0, 1] [] [0, 5, 6] [(0, S p0), (5, .slice none 0 0), (6, S p0)] (True) (by kernel_rfl) trivial ?_
  clear hk; intro a hk
  refine st_done ?_
  refine st_block 0 (C16 [1, 1, 1, 0]) (by kernel_rfl) ?_
  replace ho := ho.nilRow 2 60 2
  obtain ⟨m36, h37, H⟩ := Option.bind_eq_some_iff.1 H
  refine st_loop (C16 [1, 1, 1, 0, 0]) (by kernel_rfl) ?_
  refine head_Parse.l0_ok K K p0 ([] : List (Str × Str)) p0 m36 h37 none 0 w0 hg _ _ a w  (hk.to [0, 5, 6] _ (by kernel_rfl)) ho ?_
  · intro r39 o40 c41 a w e hk ho; have e := e.symm; subst e
    refine retG hk [.slice o40 r39.1.length c41, I r39.2.1, I r39.2.2] #[.tmp 2, .tmp 3, .tmp 4] (by kernel_rfl) ⟨resT hk (by kernel_rfl), resT hk (by kernel_rfl), resT hk (by kernel_rfl), trivial⟩ ?_
    obtain rfl := Option.some.inj H
    exact ⟨_, rfl, o40, c41, rfl, ho⟩


/-! (*strings.Builder).Len: function 15 -/
def strings_Builder_Len_ps0t.f (p0_1 : List UInt8) : Option (Int × List UInt8) := some ((p0_1.length : Int), p0_1)
abbrev strings_Builder_Len_ps0t.post (b1 : Nat) (o2 : Option Addr) (p0_1 : List UInt8) (c3 : Nat) (w0 : World) (r : Int × List UInt8) (u : Value) (w : World) : Prop := ∃ (o5 : Option Addr), ∃ (c6 : Nat), u = I r.1 ∧ Ows (feet [.blk b1 (.cells #[.pointer (some ⟨b1, 0, none⟩), .slice o2 p0_1.length c3] 32 (0, 0)), .row 1 5 1 (.slice o2 p0_1.length c3) p0_1.length (p0_1.map bV)]) w0 w [.blk b1 (.cells #[.pointer (some ⟨b1, 0, none⟩), .slice o5 r.2.length c6] 32 (0, 0)), .row 1 5 1 (.slice o5 r.2.length c6) r.2.length (r.2.map bV)]
theorem strings_Builder_Len_ps0t.ok (p0_1 : List UInt8) (r : Int × List UInt8) (H : strings_Builder_Len_ps0t.f p0_1 = some r) (w0 : World) (b1 : Nat) (o2 : Option Addr) (c3 : Nat) (hh : Has w0 [.blk b1 (.cells #[.pointer (some ⟨b1, 0, none⟩), .slice o2 p0_1.length c3] 32 (0, 0)), .row 1 5 1 (.slice o2 p0_1.length c3) p0_1.length (p0_1.map bV)]) : Calls Tryz.prog 15 ⟨[.pointer (some ⟨b1, 0, none⟩)]⟩ w0 fun e w => ∃ u, e = .returned u ∧ strings_Builder_Len_ps0t.post b1 o2 p0_1 c3 w0 r u w := by
  unfold strings_Builder_Len_ps0t.f at H
  refine st_startL (N := 8) [.pointer (some ⟨b1, 0, none⟩)] (C15 []) func15 (by kernel_rfl) (by kernel_rfl) (by kernel_rfl) ([.blk b1 (.cells #[.pointer (some ⟨b1, 0, none⟩), .slice o2 p0_1.length c3] 32 (0, 0)), .row 1 5 1 (.slice o2 p0_1.length c3) p0_1.length (p0_1.map bV)]) hh ?_
  intro a w hk ho
  replace ho : Ows (feet [.blk b1 (.cells #[.pointer (some ⟨b1, 0, none⟩), .slice o2 p0_1.length c3] 32 (0, 0)), .row 1 5 1 (.slice o2 p0_1.length c3) p0_1.length (p0_1.map bV)]) w0 w [.blk b1 (.cells #[.pointer (some ⟨b1, 0, none⟩), .slice o2 p0_1.length c3] 32 (0, 0)), .row 1 5 1 (.slice o2 p0_1.length c3) p0_1.length (p0_1.map bV)] := ho
  refine st_seq (C15 [0]) (C15 [1]) (by kernel_rfl) ?_
  refine st_region 0 (opsOf (C15 [0])) [0] (by kernel_rfl) (by kernel_rfl) ?_
  refine st_pure tabOK hk [0] [] [0] [(0, .pointer (some ⟨b1, 0, none⟩))] (True) (by kernel_rfl) trivial ?_
  clear hk; intro a hk
  refine st_done ?_
  refine st_seq (C15 [1, 0]) (C15 [1, 1]) (by kernel_rfl) ?_
  refine st_region 1 (opsOf (C15 [1, 0])) [0, 1, 2, 3, 4, 5] (by kernel_rfl) (by kernel_rfl) ?_
  refine st_pure tabOK hk [0, 1, 2] [3, 4, 5] [5] [(5, .pointer (some ⟨b1, 1, none⟩))] (((some ⟨b1, 0, none⟩ : Option Addr).isSome = true) ∧ (((some ⟨b1, 0, none⟩ : Option Addr).isSome = true) ∧ True)) (by kernel_rfl) ⟨rfl, ⟨rfl, trivial⟩⟩ ?_
  clear hk; intro a hk
  refine st_load1 tabOK hk 30 (some ⟨b1, 1, none⟩) 6 (by kernel_rfl) (by kernel_rfl) (.slice o2 p0_1.length c3) (ho.cell 0 rfl rfl) ?_
  clear hk; intro a hk
  refine st_pure tabOK hk [4, 5] [] [2] [(2, I (p0_1.length : Int))] (True) (by kernel_rfl) trivial ?_
  clear hk; intro a hk
  refine st_done ?_
  refine st_retG hk (by kernel_rfl) [I (p0_1.length : Int)] #[.tmp 2] (by kernel_rfl) ⟨resT hk (by kernel_rfl), trivial⟩ ?_
  obtain rfl := Option.some.inj H
  exact ⟨_, rfl, o2, c3, rfl, ho⟩

end Go.Proofs.YtkkmbkelkbhecaaGreatDoor
