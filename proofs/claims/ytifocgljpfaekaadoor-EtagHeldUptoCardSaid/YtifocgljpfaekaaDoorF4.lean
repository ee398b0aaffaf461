/- Go functions as plain functions, and that the machine's calls do what these say. -/
import Derived.Test.YtifocgljpfaekaaDoorT
import Derived.Test.YtifocgljpfaekaaDoorHA
import Derived.Test.YtifocgljpfaekaaDoorHT
import Derived.Test.YtifocgljpfaekaaDoorF3
set_option maxRecDepth 100000
set_option linter.unusedVariables false
namespace Go.Proofs.YtifocgljpfaekaaDoor
open Go.Ev Go.Proofs.Tryd


/-! scullery/date.Print: function 6 -/
noncomputable def C6 (p : List Nat) : Code := Sub (bodyOf f6) p
def date_Print.f (K : Nat) (p0 : Int) : Option (Str × Int) := (if ((decide (p0 < 0)) || (decide (p0 ≥ 253402300800))) = true then some ([], 6) else ((date_of.f K (w64 (p0.tdiv 86400))).bind fun t7 => ((date_digits.f K (w64 ((p0.tmod 86400).tdiv 3600)) 2).bind fun t9 => (if t9.length + ([58]).length ≤ maxI then ((date_digits.f K ((w64 ((p0.tmod 86400).tdiv 60)).tmod 60) 2).bind fun t12 => (if (t9 ++ ([58])).length + t12.length ≤ maxI then (if ((t9 ++ ([58])) ++ t12).length + ([58]).length ≤ maxI then ((date_digits.f K ((p0.tmod 86400).tmod 60) 2).bind fun t16 => (if (((t9 ++ ([58])) ++ t12) ++ ([58])).length + t16.length ≤ maxI then ((date_weekdays.f ).bind fun t19 => ((date_Weekday.f (w64 (p0.tdiv 86400))).bind fun t21 => (if (0 : Int) ≤ t21 then (if t21 < 7 then (if 3 ≤ ((get ([t19.1, t19.2.1, t19.2.2.1, t19.2.2.2.1, t19.2.2.2.2.1, t19.2.2.2.2.2.1, t19.2.2.2.2.2.2] : List (Str)) t21).length : Int) then (if ((get ([t19.1, t19.2.1, t19.2.2.1, t19.2.2.2.1, t19.2.2.2.2.1, t19.2.2.2.2.2.1, t19.2.2.2.2.2.2] : List (Str)) t21).take 3).length + ([44, 32]).length ≤ maxI then ((date_digits.f K t7.2.2 2).bind fun t27 => (if (((get ([t19.1, t19.2.1, t19.2.2.1, t19.2.2.2.1, t19.2.2.2.2.1, t19.2.2.2.2.2.1, t19.2.2.2.2.2.2] : List (Str)) t21).take 3) ++ ([44, 32])).length + t27.length ≤ maxI then (if ((((get ([t19.1, t19.2.1, t19.2.2.1, t19.2.2.2.1, t19.2.2.2.2.1, t19.2.2.2.2.2.1, t19.2.2.2.2.2.2] : List (Str)) t21).take 3) ++ ([44, 32])) ++ t27).length + ([32]).length ≤ maxI then ((date_names.f ).bind fun t31 => (if (0 : Int) ≤ w64 (t7.2.1 - 1) then (if w64 (t7.2.1 - 1) < 12 then (if (((((get ([t19.1, t19.2.1, t19.2.2.1, t19.2.2.2.1, t19.2.2.2.2.1, t19.2.2.2.2.2.1, t19.2.2.2.2.2.2] : List (Str)) t21).take 3) ++ ([44, 32])) ++ t27) ++ ([32])).length + (get ([t31.1, t31.2.1, t31.2.2.1, t31.2.2.2.1, t31.2.2.2.2.1, t31.2.2.2.2.2.1, t31.2.2.2.2.2.2.1, t31.2.2.2.2.2.2.2.1, t31.2.2.2.2.2.2.2.2.1, t31.2.2.2.2.2.2.2.2.2.1, t31.2.2.2.2.2.2.2.2.2.2.1, t31.2.2.2.2.2.2.2.2.2.2.2] : List (Str)) (w64 (t7.2.1 - 1))).length ≤ maxI then (if ((((((get ([t19.1, t19.2.1, t19.2.2.1, t19.2.2.2.1, t19.2.2.2.2.1, t19.2.2.2.2.2.1, t19.2.2.2.2.2.2] : List (Str)) t21).take 3) ++ ([44, 32])) ++ t27) ++ ([32])) ++ (get ([t31.1, t31.2.1, t31.2.2.1, t31.2.2.2.1, t31.2.2.2.2.1, t31.2.2.2.2.2.1, t31.2.2.2.2.2.2.1, t31.2.2.2.2.2.2.2.1, t31.2.2.2.2.2.2.2.2.1, t31.2.2.2.2.2.2.2.2.2.1, t31.2.2.2.2.2.2.2.2.2.2.1, t31.2.2.2.2.2.2.2.2.2.2.2] : List (Str)) (w64 (t7.2.1 - 1)))).length + ([32]).length ≤ maxI then ((date_digits.f K t7.1 4).bind fun t37 => (if (((((((get ([t19.1, t19.2.1, t19.2.2.1, t19.2.2.2.1, t19.2.2.2.2.1, t19.2.2.2.2.2.1, t19.2.2.2.2.2.2] : List (Str)) t21).take 3) ++ ([44, 32])) ++ t27) ++ ([32])) ++ (get ([t31.1, t31.2.1, t31.2.2.1, t31.2.2.2.1, t31.2.2.2.2.1, t31.2.2.2.2.2.1, t31.2.2.2.2.2.2.1, t31.2.2.2.2.2.2.2.1, t31.2.2.2.2.2.2.2.2.1, t31.2.2.2.2.2.2.2.2.2.1, t31.2.2.2.2.2.2.2.2.2.2.1, t31.2.2.2.2.2.2.2.2.2.2.2] : List (Str)) (w64 (t7.2.1 - 1)))) ++ ([32])).length + t37.length ≤ maxI then (if ((((((((get ([t19.1, t19.2.1, t19.2.2.1, t19.2.2.2.1, t19.2.2.2.2.1, t19.2.2.2.2.2.1, t19.2.2.2.2.2.2] : List (Str)) t21).take 3) ++ ([44, 32])) ++ t27) ++ ([32])) ++ (get ([t31.1, t31.2.1, t31.2.2.1, t31.2.2.2.1, t31.2.2.2.2.1, t31.2.2.2.2.2.1, t31.2.2.2.2.2.2.1, t31.2.2.2.2.2.2.2.1, t31.2.2.2.2.2.2.2.2.1, t31.2.2.2.2.2.2.2.2.2.1, t31.2.2.2.2.2.2.2.2.2.2.1, t31.2.2.2.2.2.2.2.2.2.2.2] : List (Str)) (w64 (t7.2.1 - 1)))) ++ ([32])) ++ t37).length + ([32]).length ≤ maxI then (if (((((((((get ([t19.1, t19.2.1, t19.2.2.1, t19.2.2.2.1, t19.2.2.2.2.1, t19.2.2.2.2.2.1, t19.2.2.2.2.2.2] : List (Str)) t21).take 3) ++ ([44, 32])) ++ t27) ++ ([32])) ++ (get ([t31.1, t31.2.1, t31.2.2.1, t31.2.2.2.1, t31.2.2.2.2.1, t31.2.2.2.2.2.1, t31.2.2.2.2.2.2.1, t31.2.2.2.2.2.2.2.1, t31.2.2.2.2.2.2.2.2.1, t31.2.2.2.2.2.2.2.2.2.1, t31.2.2.2.2.2.2.2.2.2.2.1, t31.2.2.2.2.2.2.2.2.2.2.2] : List (Str)) (w64 (t7.2.1 - 1)))) ++ ([32])) ++ t37) ++ ([32])).length + ((((t9 ++ ([58])) ++ t12) ++ ([58])) ++ t16).length ≤ maxI then (if ((((((((((get ([t19.1, t19.2.1, t19.2.2.1, t19.2.2.2.1, t19.2.2.2.2.1, t19.2.2.2.2.2.1, t19.2.2.2.2.2.2] : List (Str)) t21).take 3) ++ ([44, 32])) ++ t27) ++ ([32])) ++ (get ([t31.1, t31.2.1, t31.2.2.1, t31.2.2.2.1, t31.2.2.2.2.1, t31.2.2.2.2.2.1, t31.2.2.2.2.2.2.1, t31.2.2.2.2.2.2.2.1, t31.2.2.2.2.2.2.2.2.1, t31.2.2.2.2.2.2.2.2.2.1, t31.2.2.2.2.2.2.2.2.2.2.1, t31.2.2.2.2.2.2.2.2.2.2.2] : List (Str)) (w64 (t7.2.1 - 1)))) ++ ([32])) ++ t37) ++ ([32])) ++ ((((t9 ++ ([58])) ++ t12) ++ ([58])) ++ t16)).length + ([32, 71, 77, 84]).length ≤ maxI then some (((((((((((get ([t19.1, t19.2.1, t19.2.2.1, t19.2.2.2.1, t19.2.2.2.2.1, t19.2.2.2.2.2.1, t19.2.2.2.2.2.2] : List (Str)) t21).take 3) ++ ([44, 32])) ++ t27) ++ ([32])) ++ (get ([t31.1, t31.2.1, t31.2.2.1, t31.2.2.2.1, t31.2.2.2.2.1, t31.2.2.2.2.2.1, t31.2.2.2.2.2.2.1, t31.2.2.2.2.2.2.2.1, t31.2.2.2.2.2.2.2.2.1, t31.2.2.2.2.2.2.2.2.2.1, t31.2.2.2.2.2.2.2.2.2.2.1, t31.2.2.2.2.2.2.2.2.2.2.2] : List (Str)) (w64 (t7.2.1 - 1)))) ++ ([32])) ++ t37) ++ ([32])) ++ ((((t9 ++ ([58])) ++ t12) ++ ([58])) ++ t16)) ++ ([32, 71, 77, 84]), 0) else none) else none) else none) else none)) else none) else none) else none) else none)) else none) else none)) else none) else none) else none) else none))) else none)) else none) else none)) else none))))
abbrev date_Print.post (w0 : World) (r : Str × Int) (u : Value) (w : World) : Prop := u = .tuple #[S r.1, I r.2] ∧ Ows [] w0 w []
theorem date_Print.ok (K : Nat) (p0 : Int) (r : Str × Int) (H : date_Print.f K p0 = some r) (w0 : World)  : Calls Tryd.prog 6 ⟨[I p0]⟩ w0 fun e w => ∃ u, e = .returned u ∧ date_Print.post w0 r u w := by
  unfold date_Print.f at H
  refine st_start (N := 63) [I p0] (C6 []) func6 (by kernel_rfl) (by kernel_rfl) (by kernel_rfl) ?_
  intro a w hk ho
  refine st_seq (C6 [0]) (C6 [1]) (by kernel_rfl) ?_
  refine st_region 0 (opsOf (C6 [0])) [0, 1] (by kernel_rfl) (by kernel_rfl) ?_
  refine st_pure tabOK hk [0, 1] [] [0] [(0, I p0)] (True) (by kernel_rfl) trivial ?_
  clear hk; intro a hk
  refine st_done ?_
  refine st_seq (C6 [1, 0]) (C6 [1, 1]) (by kernel_rfl) ?_
  refine st_seq (C6 [1, 0, 0]) (C6 [1, 0, 1]) (by kernel_rfl) ?_
  refine st_region 1 (opsOf (C6 [1, 0, 0])) [0, 1, 2, 3, 4, 5] (by kernel_rfl) (by kernel_rfl) ?_
  refine st_pure tabOK hk [0, 1, 2] [3, 4, 5] [0, 12] [(0, I p0), (12, .bool (decide (p0 < 0)))] (True) (by kernel_rfl) trivial ?_
  clear hk; intro a hk
  refine cut_ops (fun a w => Kn 63 a [(0, I p0), (15, .bool ((decide (p0 < 0)) || (decide (p0 ≥ 253402300800))))] ∧ Ows [] w0 w []) ?_ ?_
  · intro J
    rcases Bool.eq_false_or_eq_true (decide (p0 < 0)) with h1 | h1
    ·
      rw [h1] at hk
      have h2 : p0 < 0 := of_decide_eq_true h1
      refine st_pure tabOK hk [3, 4, 5] [] [0, 15] [(0, I p0), (15, .bool true)] (True) (by kernel_rfl) trivial ?_
      clear hk; intro a hk
      refine st_done ?_
      have e : ((decide (p0 < 0)) || (decide (p0 ≥ 253402300800))) = true := by first | (simp only [h1]; done) | (simp only [h1]; rfl) | rfl | simp [h1]
      exact J a w ⟨by rw [e]; exact hk.to [0, 15] _ (by kernel_rfl), ho⟩
    ·
      rw [h1] at hk
      have h3 : ¬ (p0 < 0) := of_decide_eq_false h1
      refine st_pure tabOK hk [3, 4, 5] [] [0, 15] [(0, I p0), (15, .bool (decide (p0 ≥ 253402300800)))] (True) (by kernel_rfl) trivial ?_
      clear hk; intro a hk
      refine st_done ?_
      have e : ((decide (p0 < 0)) || (decide (p0 ≥ 253402300800))) = (decide (p0 ≥ 253402300800)) := by first | (simp only [h1]; done) | (simp only [h1]; rfl) | rfl | simp [h1]
      exact J a w ⟨by rw [e]; exact hk.to [0, 15] _ (by kernel_rfl), ho⟩
  · rintro a w ⟨hk, ho⟩
    refine st_cond hk (C6 [1, 0, 1, 0]) (C6 [1, 0, 1, 1]) (.tmp 15) (((decide (p0 < 0)) || (decide (p0 ≥ 253402300800)))) (by kernel_rfl) (by kernel_rfl) (fun h4 => ?_) (fun h4 => ?_)
    ·
      have h5 : ((decide (p0 < 0)) || (decide (p0 ≥ 253402300800))) = true := h4
      rw [if_pos h5] at H
      refine st_seq (C6 [1, 0, 1, 0, 0]) (C6 [1, 0, 1, 0, 1]) (by kernel_rfl) ?_
      refine st_region 2 (opsOf (C6 [1, 0, 1, 0, 0])) [0, 1] (by kernel_rfl) (by kernel_rfl) ?_
      refine st_pure tabOK hk [0, 1] [] [2, 3] [(2, S ([])), (3, I 6)] (True) (by kernel_rfl) trivial ?_
      clear hk; intro a hk
      refine st_done ?_
      refine st_retG hk (by kernel_rfl) [S ([]), I 6] #[.tmp 2, .tmp 3] (by kernel_rfl) ⟨resT hk (by kernel_rfl), resT hk (by kernel_rfl), trivial⟩ ?_
      obtain rfl := Option.some.inj H
      exact ⟨_, rfl, rfl, ho⟩
    ·
      have h6 : ¬ (((decide (p0 < 0)) || (decide (p0 ≥ 253402300800))) = true) := ne_true_of_eq_false h4
      rw [if_neg h6] at H
      refine st_skip (by kernel_rfl) ?_
      refine st_seq (C6 [1, 1, 0]) (C6 [1, 1, 1]) (by kernel_rfl) ?_
      refine st_region 3 (opsOf (C6 [1, 1, 0])) [0, 1, 2, 3, 4, 5] (by kernel_rfl) (by kernel_rfl) ?_
      refine st_pure tabOK hk [0, 1, 2, 3, 4, 5] [] [4, 5] [(4, I (w64 (p0.tdiv 86400))), (5, I (p0.tmod 86400))] ((86400 : Int) ≠ 0 ∧ ((86400 : Int) ≠ 0 ∧ True)) (by kernel_rfl) ⟨(by decide), ⟨(by decide), trivial⟩⟩ ?_
      clear hk; intro a hk
      refine st_done ?_
      refine st_seq (C6 [1, 1, 1, 0]) (C6 [1, 1, 1, 1]) (by kernel_rfl) ?_
      refine st_region 4 (opsOf (C6 [1, 1, 1, 0])) [0, 1, 2, 3, 4, 5, 6, 7, 8] (by kernel_rfl) (by kernel_rfl) ?_
      refine st_pure tabOK hk [0] [1, 2, 3, 4, 5, 6, 7, 8] [4, 5, 21] [(4, I (w64 (p0.tdiv 86400))), (5, I (p0.tmod 86400)), (21, I (w64 (p0.tdiv 86400)))] (True) (by kernel_rfl) trivial ?_
      clear hk; intro a hk
      obtain ⟨t7, h8, H⟩ := Option.bind_eq_some_iff.1 H
      refine st_call hk 13 [I (w64 (p0.tdiv 86400))] (some 22) enters13 (by kernel_rfl) (date_of.ok K  (w64 (p0.tdiv 86400)) t7 h8 w ) ?_
      clear hk; rintro a u w ⟨rfl, ho'⟩ hk
      replace ho : Ows [] w0 w [] := ho.call ho'; clear ho'
      refine st_pure tabOK hk [2, 3, 4, 5, 6, 7, 8] [] [4, 5, 6, 7, 8] [(4, I (w64 (p0.tdiv 86400))), (5, I (p0.tmod 86400)), (6, I t7.1), (7, I t7.2.1), (8, I t7.2.2)] (True) (by kernel_rfl) trivial ?_
      clear hk; intro a hk
      refine st_done ?_
      refine st_seq (C6 [1, 1, 1, 1, 0]) (C6 [1, 1, 1, 1, 1]) (by kernel_rfl) ?_
      refine st_region 5 (opsOf (C6 [1, 1, 1, 1, 0])) [0, 1, 2, 3, 4, 5, 6, 7, 8, 9, 10, 11, 12, 13, 14] (by kernel_rfl) (by kernel_rfl) ?_
      refine st_pure tabOK hk [0, 1] [2, 3, 4, 5, 6, 7, 8, 9, 10, 11, 12, 13, 14] [4, 5, 6, 7, 8, 27] [(4, I (w64 (p0.tdiv 86400))), (5, I (p0.tmod 86400)), (6, I t7.1), (7, I t7.2.1), (8, I t7.2.2), (27, I (w64 ((p0.tmod 86400).tdiv 3600)))] ((3600 : Int) ≠ 0 ∧ True) (by kernel_rfl) ⟨(by decide), trivial⟩ ?_
      clear hk; intro a hk
      obtain ⟨t9, h10, H⟩ := Option.bind_eq_some_iff.1 H
      refine st_call hk 14 [I (w64 ((p0.tmod 86400).tdiv 3600)), I 2] (some 28) enters14 (by kernel_rfl) (date_digits.ok K  (w64 ((p0.tmod 86400).tdiv 3600)) 2 t9 h10 w ) ?_
      clear hk; rintro a u w ⟨rfl, ho'⟩ hk
      replace ho : Ows [] w0 w [] := ho.call ho'; clear ho'
      have h11 : t9.length + ([58]).length ≤ maxI := by
        by_cases h11 : t9.length + ([58]).length ≤ maxI
        · exact h11
        · rw [if_neg h11] at H; cases H
      rw [if_pos h11] at H
      refine st_pure tabOK hk [3, 4, 5, 6] [7, 8, 9, 10, 11, 12, 13, 14] [4, 5, 6, 7, 8, 29, 32] [(4, I (w64 (p0.tdiv 86400))), (5, I (p0.tmod 86400)), (6, I t7.1), (7, I t7.2.1), (8, I t7.2.2), (29, S (t9 ++ ([58]))), (32, I ((w64 ((p0.tmod 86400).tdiv 60)).tmod 60))] (t9.length + ([58]).length ≤ maxI ∧ ((60 : Int) ≠ 0 ∧ ((60 : Int) ≠ 0 ∧ True))) (by kernel_rfl) ⟨h11, ⟨(by decide), ⟨(by decide), trivial⟩⟩⟩ ?_
      clear hk; intro a hk
      obtain ⟨t12, h13, H⟩ := Option.bind_eq_some_iff.1 H
      refine st_call hk 14 [I ((w64 ((p0.tmod 86400).tdiv 60)).tmod 60), I 2] (some 33) enters14 (by kernel_rfl) (date_digits.ok K  ((w64 ((p0.tmod 86400).tdiv 60)).tmod 60) 2 t12 h13 w ) ?_
      clear hk; rintro a u w ⟨rfl, ho'⟩ hk
      replace ho : Ows [] w0 w [] := ho.call ho'; clear ho'
      have h14 : (t9 ++ ([58])).length + t12.length ≤ maxI := by
        by_cases h14 : (t9 ++ ([58])).length + t12.length ≤ maxI
        · exact h14
        · rw [if_neg h14] at H; cases H
      rw [if_pos h14] at H
      have h15 : ((t9 ++ ([58])) ++ t12).length + ([58]).length ≤ maxI := by
        by_cases h15 : ((t9 ++ ([58])) ++ t12).length + ([58]).length ≤ maxI
        · exact h15
        · rw [if_neg h15] at H; cases H
      rw [if_pos h15] at H
      refine st_pure tabOK hk [8, 9, 10, 11] [12, 13, 14] [4, 6, 7, 8, 35, 37] [(4, I (w64 (p0.tdiv 86400))), (6, I t7.1), (7, I t7.2.1), (8, I t7.2.2), (35, S (((t9 ++ ([58])) ++ t12) ++ ([58]))), (37, I ((p0.tmod 86400).tmod 60))] ((t9 ++ ([58])).length + t12.length ≤ maxI ∧ (((t9 ++ ([58])) ++ t12).length + ([58]).length ≤ maxI ∧ ((60 : Int) ≠ 0 ∧ True))) (by kernel_rfl) ⟨h14, ⟨h15, ⟨(by decide), trivial⟩⟩⟩ ?_
      clear hk; intro a hk
      obtain ⟨t16, h17, H⟩ := Option.bind_eq_some_iff.1 H
      refine st_call hk 14 [I ((p0.tmod 86400).tmod 60), I 2] (some 38) enters14 (by kernel_rfl) (date_digits.ok K  ((p0.tmod 86400).tmod 60) 2 t16 h17 w ) ?_
      clear hk; rintro a u w ⟨rfl, ho'⟩ hk
      replace ho : Ows [] w0 w [] := ho.call ho'; clear ho'
      have h18 : (((t9 ++ ([58])) ++ t12) ++ ([58])).length + t16.length ≤ maxI := by
        by_cases h18 : (((t9 ++ ([58])) ++ t12) ++ ([58])).length + t16.length ≤ maxI
        · exact h18
        · rw [if_neg h18] at H; cases H
      rw [if_pos h18] at H
      refine st_pure tabOK hk [13, 14] [] [4, 6, 7, 8, 9] [(4, I (w64 (p0.tdiv 86400))), (6, I t7.1), (7, I t7.2.1), (8, I t7.2.2), (9, S ((((t9 ++ ([58])) ++ t12) ++ ([58])) ++ t16))] ((((t9 ++ ([58])) ++ t12) ++ ([58])).length + t16.length ≤ maxI ∧ True) (by kernel_rfl) ⟨h18, trivial⟩ ?_
      clear hk; intro a hk
      refine st_done ?_
      refine st_seq (C6 [1, 1, 1, 1, 1, 0]) (C6 [1, 1, 1, 1, 1, 1]) (by kernel_rfl) ?_
      refine st_draw ho 6 (opsOf (C6 [1, 1, 1, 1, 1, 0])) [0, 1, 2, 3, 4, 5, 6, 7, 8, 9, 10, 11, 12, 13, 14, 15, 16, 17, 18, 19, 20, 21, 22, 23, 24] (by kernel_rfl) (by kernel_rfl) (by kernel_rfl) ?_
      clear ho; intro w ho
      refine any_pure tabOK hk [1, 6, 11, 12, 16, 20] [0, 1, 2, 3, 4, 5, 6, 7, 8, 9, 10, 11, 12, 13, 14, 15, 16, 17, 18, 19, 20, 21, 22, 23, 24] [0, 2, 3, 4, 5, 7, 8, 9, 10, 13, 14, 15, 17, 18, 19, 21, 22, 23, 24] [41, 46, 52, 56, 60] [(41, I (w64 (p0.tdiv 86400))), (46, I t7.2.2), (52, I (w64 (t7.2.1 - 1))), (56, I t7.1), (60, S ((((t9 ++ ([58])) ++ t12) ++ ([58])) ++ t16))] (True) (by kernel_rfl) (by kernel_rfl) (by kernel_rfl) trivial ?_
      clear hk; intro a hk
      refine any_all [0] (by kernel_rfl) (by decide) ⟨?_, trivial⟩
      change wpOps _ _ _ [0] _ _
      obtain ⟨t19, h20, H⟩ := Option.bind_eq_some_iff.1 H
      refine st_call hk 15 [] (some 40) enters15 (by kernel_rfl) (date_weekdays.ok   t19 h20 w ) ?_
      clear hk; rintro a u w ⟨rfl, ho'⟩ hk
      replace ho : Ows [] w0 w [] := ho.call ho'; clear ho'
      refine any_go [2, 3, 4, 5, 7, 8, 9, 10, 13, 14, 15, 17, 18, 19, 21, 22, 23, 24] (by kernel_rfl) ?_
      refine any_all [2] (by kernel_rfl) (by decide) ⟨?_, trivial⟩
      change wpOps _ _ _ [2] _ _
      obtain ⟨t21, h22, H⟩ := Option.bind_eq_some_iff.1 H
      refine st_call hk 16 [I (w64 (p0.tdiv 86400))] (some 42) enters16 (by kernel_rfl) (date_Weekday.ok  (w64 (p0.tdiv 86400)) t21 h22 w ) ?_
      clear hk; rintro a u w ⟨rfl, ho'⟩ hk
      replace ho : Ows [] w0 w [] := ho.call ho'; clear ho'
      refine any_go [3, 4, 5, 7, 8, 9, 10, 13, 14, 15, 17, 18, 19, 21, 22, 23, 24] (by kernel_rfl) ?_
      have h23 : (0 : Int) ≤ t21 := by
        by_cases h23 : (0 : Int) ≤ t21
        · exact h23
        · rw [if_neg h23] at H; cases H
      rw [if_pos h23] at H
      have h24 : t21 < 7 := by
        by_cases h24 : t21 < 7
        · exact h24
        · rw [if_neg h24] at H; cases H
      rw [if_pos h24] at H
      refine any_yield hk 3 [3, 4, 5, 7, 8, 9, 10, 13, 14, 15, 17, 18, 19, 21, 22, 23, 24] [4, 5, 7, 8, 9, 10, 13, 14, 15, 17, 18, 19, 21, 22, 23, 24] 43 (S (get ([t19.1, t19.2.1, t19.2.2.1, t19.2.2.2.1, t19.2.2.2.2.1, t19.2.2.2.2.2.1, t19.2.2.2.2.2.2] : List (Str)) t21)) (by kernel_rfl) (ix1 tabOK 46 9 43 .i64 S ([t19.1, t19.2.1, t19.2.2.1, t19.2.2.2.1, t19.2.2.2.2.1, t19.2.2.2.2.2.1, t19.2.2.2.2.2.2] : List (Str)) t21 7 (by kernel_rfl) (by kernel_rfl) rfl h23 h24) (by kernel_rfl) ?_
      clear hk; intro a hk
      have h25 : 3 ≤ ((get ([t19.1, t19.2.1, t19.2.2.1, t19.2.2.2.1, t19.2.2.2.2.1, t19.2.2.2.2.2.1, t19.2.2.2.2.2.2] : List (Str)) t21).length : Int) := by
        by_cases h25 : 3 ≤ ((get ([t19.1, t19.2.1, t19.2.2.1, t19.2.2.2.1, t19.2.2.2.2.1, t19.2.2.2.2.2.1, t19.2.2.2.2.2.2] : List (Str)) t21).length : Int)
        · exact h25
        · rw [if_neg h25] at H; cases H
      rw [if_pos h25] at H
      have h26 : ((get ([t19.1, t19.2.1, t19.2.2.1, t19.2.2.2.1, t19.2.2.2.2.1, t19.2.2.2.2.2.1, t19.2.2.2.2.2.2] : List (Str)) t21).take 3).length + ([44, 32]).length ≤ maxI := by
        by_cases h26 : ((get ([t19.1, t19.2.1, t19.2.2.1, t19.2.2.2.1, t19.2.2.2.2.1, t19.2.2.2.2.2.1, t19.2.2.2.2.2.2] : List (Str)) t21).take 3).length + ([44, 32]).length ≤ maxI
        · exact h26
        · rw [if_neg h26] at H; cases H
      rw [if_pos h26] at H
      refine any_pure tabOK hk [4, 5] [4, 5, 7, 8, 9, 10, 13, 14, 15, 17, 18, 19, 21, 22, 23, 24] [7, 8, 9, 10, 13, 14, 15, 17, 18, 19, 21, 22, 23, 24] [45, 46, 52, 56, 60] [(45, S (((get ([t19.1, t19.2.1, t19.2.2.1, t19.2.2.2.1, t19.2.2.2.2.1, t19.2.2.2.2.2.1, t19.2.2.2.2.2.2] : List (Str)) t21).take 3) ++ ([44, 32]))), (46, I t7.2.2), (52, I (w64 (t7.2.1 - 1))), (56, I t7.1), (60, S ((((t9 ++ ([58])) ++ t12) ++ ([58])) ++ t16))] (((0 : Int) ≤ 3 ∧ 3 ≤ ((get ([t19.1, t19.2.1, t19.2.2.1, t19.2.2.2.1, t19.2.2.2.2.1, t19.2.2.2.2.2.1, t19.2.2.2.2.2.2] : List (Str)) t21).length : Int)) ∧ (((get ([t19.1, t19.2.1, t19.2.2.1, t19.2.2.2.1, t19.2.2.2.2.1, t19.2.2.2.2.2.1, t19.2.2.2.2.2.2] : List (Str)) t21).take 3).length + ([44, 32]).length ≤ maxI ∧ True)) (by kernel_rfl) (by kernel_rfl) (by kernel_rfl) ⟨⟨(by decide), h25⟩, ⟨h26, trivial⟩⟩ ?_
      clear hk; intro a hk
      refine any_all [7] (by kernel_rfl) (by decide) ⟨?_, trivial⟩
      change wpOps _ _ _ [7] _ _
      obtain ⟨t27, h28, H⟩ := Option.bind_eq_some_iff.1 H
      refine st_call hk 14 [I t7.2.2, I 2] (some 47) enters14 (by kernel_rfl) (date_digits.ok K  t7.2.2 2 t27 h28 w ) ?_
      clear hk; rintro a u w ⟨rfl, ho'⟩ hk
      replace ho : Ows [] w0 w [] := ho.call ho'; clear ho'
      refine any_go [8, 9, 10, 13, 14, 15, 17, 18, 19, 21, 22, 23, 24] (by kernel_rfl) ?_
      have h29 : (((get ([t19.1, t19.2.1, t19.2.2.1, t19.2.2.2.1, t19.2.2.2.2.1, t19.2.2.2.2.2.1, t19.2.2.2.2.2.2] : List (Str)) t21).take 3) ++ ([44, 32])).length + t27.length ≤ maxI := by
        by_cases h29 : (((get ([t19.1, t19.2.1, t19.2.2.1, t19.2.2.2.1, t19.2.2.2.2.1, t19.2.2.2.2.2.1, t19.2.2.2.2.2.2] : List (Str)) t21).take 3) ++ ([44, 32])).length + t27.length ≤ maxI
        · exact h29
        · rw [if_neg h29] at H; cases H
      rw [if_pos h29] at H
      have h30 : ((((get ([t19.1, t19.2.1, t19.2.2.1, t19.2.2.2.1, t19.2.2.2.2.1, t19.2.2.2.2.2.1, t19.2.2.2.2.2.2] : List (Str)) t21).take 3) ++ ([44, 32])) ++ t27).length + ([32]).length ≤ maxI := by
        by_cases h30 : ((((get ([t19.1, t19.2.1, t19.2.2.1, t19.2.2.2.1, t19.2.2.2.2.1, t19.2.2.2.2.2.1, t19.2.2.2.2.2.2] : List (Str)) t21).take 3) ++ ([44, 32])) ++ t27).length + ([32]).length ≤ maxI
        · exact h30
        · rw [if_neg h30] at H; cases H
      rw [if_pos h30] at H
      refine any_pure tabOK hk [8, 9] [8, 9, 10, 13, 14, 15, 17, 18, 19, 21, 22, 23, 24] [10, 13, 14, 15, 17, 18, 19, 21, 22, 23, 24] [49, 52, 56, 60] [(49, S (((((get ([t19.1, t19.2.1, t19.2.2.1, t19.2.2.2.1, t19.2.2.2.2.1, t19.2.2.2.2.2.1, t19.2.2.2.2.2.2] : List (Str)) t21).take 3) ++ ([44, 32])) ++ t27) ++ ([32]))), (52, I (w64 (t7.2.1 - 1))), (56, I t7.1), (60, S ((((t9 ++ ([58])) ++ t12) ++ ([58])) ++ t16))] ((((get ([t19.1, t19.2.1, t19.2.2.1, t19.2.2.2.1, t19.2.2.2.2.1, t19.2.2.2.2.2.1, t19.2.2.2.2.2.2] : List (Str)) t21).take 3) ++ ([44, 32])).length + t27.length ≤ maxI ∧ (((((get ([t19.1, t19.2.1, t19.2.2.1, t19.2.2.2.1, t19.2.2.2.2.1, t19.2.2.2.2.2.1, t19.2.2.2.2.2.2] : List (Str)) t21).take 3) ++ ([44, 32])) ++ t27).length + ([32]).length ≤ maxI ∧ True)) (by kernel_rfl) (by kernel_rfl) (by kernel_rfl) ⟨h29, ⟨h30, trivial⟩⟩ ?_
      clear hk; intro a hk
      refine any_all [10] (by kernel_rfl) (by decide) ⟨?_, trivial⟩
      change wpOps _ _ _ [10] _ _
      obtain ⟨t31, h32, H⟩ := Option.bind_eq_some_iff.1 H
      refine st_call hk 17 [] (some 50) enters17 (by kernel_rfl) (date_names.ok   t31 h32 w ) ?_
      clear hk; rintro a u w ⟨rfl, ho'⟩ hk
      replace ho : Ows [] w0 w [] := ho.call ho'; clear ho'
      refine any_go [13, 14, 15, 17, 18, 19, 21, 22, 23, 24] (by kernel_rfl) ?_
      have h33 : (0 : Int) ≤ w64 (t7.2.1 - 1) := by
        by_cases h33 : (0 : Int) ≤ w64 (t7.2.1 - 1)
        · exact h33
        · rw [if_neg h33] at H; cases H
      rw [if_pos h33] at H
      have h34 : w64 (t7.2.1 - 1) < 12 := by
        by_cases h34 : w64 (t7.2.1 - 1) < 12
        · exact h34
        · rw [if_neg h34] at H; cases H
      rw [if_pos h34] at H
      refine any_yield hk 13 [13, 14, 15, 17, 18, 19, 21, 22, 23, 24] [14, 15, 17, 18, 19, 21, 22, 23, 24] 53 (S (get ([t31.1, t31.2.1, t31.2.2.1, t31.2.2.2.1, t31.2.2.2.2.1, t31.2.2.2.2.2.1, t31.2.2.2.2.2.2.1, t31.2.2.2.2.2.2.2.1, t31.2.2.2.2.2.2.2.2.1, t31.2.2.2.2.2.2.2.2.2.1, t31.2.2.2.2.2.2.2.2.2.2.1, t31.2.2.2.2.2.2.2.2.2.2.2] : List (Str)) (w64 (t7.2.1 - 1)))) (by kernel_rfl) (ix1 tabOK 49 9 53 .i64 S ([t31.1, t31.2.1, t31.2.2.1, t31.2.2.2.1, t31.2.2.2.2.1, t31.2.2.2.2.2.1, t31.2.2.2.2.2.2.1, t31.2.2.2.2.2.2.2.1, t31.2.2.2.2.2.2.2.2.1, t31.2.2.2.2.2.2.2.2.2.1, t31.2.2.2.2.2.2.2.2.2.2.1, t31.2.2.2.2.2.2.2.2.2.2.2] : List (Str)) (w64 (t7.2.1 - 1)) 12 (by kernel_rfl) (by kernel_rfl) rfl h33 h34) (by kernel_rfl) ?_
      clear hk; intro a hk
      have h35 : (((((get ([t19.1, t19.2.1, t19.2.2.1, t19.2.2.2.1, t19.2.2.2.2.1, t19.2.2.2.2.2.1, t19.2.2.2.2.2.2] : List (Str)) t21).take 3) ++ ([44, 32])) ++ t27) ++ ([32])).length + (get ([t31.1, t31.2.1, t31.2.2.1, t31.2.2.2.1, t31.2.2.2.2.1, t31.2.2.2.2.2.1, t31.2.2.2.2.2.2.1, t31.2.2.2.2.2.2.2.1, t31.2.2.2.2.2.2.2.2.1, t31.2.2.2.2.2.2.2.2.2.1, t31.2.2.2.2.2.2.2.2.2.2.1, t31.2.2.2.2.2.2.2.2.2.2.2] : List (Str)) (w64 (t7.2.1 - 1))).length ≤ maxI := by
        by_cases h35 : (((((get ([t19.1, t19.2.1, t19.2.2.1, t19.2.2.2.1, t19.2.2.2.2.1, t19.2.2.2.2.2.1, t19.2.2.2.2.2.2] : List (Str)) t21).take 3) ++ ([44, 32])) ++ t27) ++ ([32])).length + (get ([t31.1, t31.2.1, t31.2.2.1, t31.2.2.2.1, t31.2.2.2.2.1, t31.2.2.2.2.2.1, t31.2.2.2.2.2.2.1, t31.2.2.2.2.2.2.2.1, t31.2.2.2.2.2.2.2.2.1, t31.2.2.2.2.2.2.2.2.2.1, t31.2.2.2.2.2.2.2.2.2.2.1, t31.2.2.2.2.2.2.2.2.2.2.2] : List (Str)) (w64 (t7.2.1 - 1))).length ≤ maxI
        · exact h35
        · rw [if_neg h35] at H; cases H
      rw [if_pos h35] at H
      have h36 : ((((((get ([t19.1, t19.2.1, t19.2.2.1, t19.2.2.2.1, t19.2.2.2.2.1, t19.2.2.2.2.2.1, t19.2.2.2.2.2.2] : List (Str)) t21).take 3) ++ ([44, 32])) ++ t27) ++ ([32])) ++ (get ([t31.1, t31.2.1, t31.2.2.1, t31.2.2.2.1, t31.2.2.2.2.1, t31.2.2.2.2.2.1, t31.2.2.2.2.2.2.1, t31.2.2.2.2.2.2.2.1, t31.2.2.2.2.2.2.2.2.1, t31.2.2.2.2.2.2.2.2.2.1, t31.2.2.2.2.2.2.2.2.2.2.1, t31.2.2.2.2.2.2.2.2.2.2.2] : List (Str)) (w64 (t7.2.1 - 1)))).length + ([32]).length ≤ maxI := by
        by_cases h36 : ((((((get ([t19.1, t19.2.1, t19.2.2.1, t19.2.2.2.1, t19.2.2.2.2.1, t19.2.2.2.2.2.1, t19.2.2.2.2.2.2] : List (Str)) t21).take 3) ++ ([44, 32])) ++ t27) ++ ([32])) ++ (get ([t31.1, t31.2.1, t31.2.2.1, t31.2.2.2.1, t31.2.2.2.2.1, t31.2.2.2.2.2.1, t31.2.2.2.2.2.2.1, t31.2.2.2.2.2.2.2.1, t31.2.2.2.2.2.2.2.2.1, t31.2.2.2.2.2.2.2.2.2.1, t31.2.2.2.2.2.2.2.2.2.2.1, t31.2.2.2.2.2.2.2.2.2.2.2] : List (Str)) (w64 (t7.2.1 - 1)))).length + ([32]).length ≤ maxI
        · exact h36
        · rw [if_neg h36] at H; cases H
      rw [if_pos h36] at H
      refine any_pure tabOK hk [14, 15] [14, 15, 17, 18, 19, 21, 22, 23, 24] [17, 18, 19, 21, 22, 23, 24] [55, 56, 60] [(55, S (((((((get ([t19.1, t19.2.1, t19.2.2.1, t19.2.2.2.1, t19.2.2.2.2.1, t19.2.2.2.2.2.1, t19.2.2.2.2.2.2] : List (Str)) t21).take 3) ++ ([44, 32])) ++ t27) ++ ([32])) ++ (get ([t31.1, t31.2.1, t31.2.2.1, t31.2.2.2.1, t31.2.2.2.2.1, t31.2.2.2.2.2.1, t31.2.2.2.2.2.2.1, t31.2.2.2.2.2.2.2.1, t31.2.2.2.2.2.2.2.2.1, t31.2.2.2.2.2.2.2.2.2.1, t31.2.2.2.2.2.2.2.2.2.2.1, t31.2.2.2.2.2.2.2.2.2.2.2] : List (Str)) (w64 (t7.2.1 - 1)))) ++ ([32]))), (56, I t7.1), (60, S ((((t9 ++ ([58])) ++ t12) ++ ([58])) ++ t16))] ((((((get ([t19.1, t19.2.1, t19.2.2.1, t19.2.2.2.1, t19.2.2.2.2.1, t19.2.2.2.2.2.1, t19.2.2.2.2.2.2] : List (Str)) t21).take 3) ++ ([44, 32])) ++ t27) ++ ([32])).length + (get ([t31.1, t31.2.1, t31.2.2.1, t31.2.2.2.1, t31.2.2.2.2.1, t31.2.2.2.2.2.1, t31.2.2.2.2.2.2.1, t31.2.2.2.2.2.2.2.1, t31.2.2.2.2.2.2.2.2.1, t31.2.2.2.2.2.2.2.2.2.1, t31.2.2.2.2.2.2.2.2.2.2.1, t31.2.2.2.2.2.2.2.2.2.2.2] : List (Str)) (w64 (t7.2.1 - 1))).length ≤ maxI ∧ (((((((get ([t19.1, t19.2.1, t19.2.2.1, t19.2.2.2.1, t19.2.2.2.2.1, t19.2.2.2.2.2.1, t19.2.2.2.2.2.2] : List (Str)) t21).take 3) ++ ([44, 32])) ++ t27) ++ ([32])) ++ (get ([t31.1, t31.2.1, t31.2.2.1, t31.2.2.2.1, t31.2.2.2.2.1, t31.2.2.2.2.2.1, t31.2.2.2.2.2.2.1, t31.2.2.2.2.2.2.2.1, t31.2.2.2.2.2.2.2.2.1, t31.2.2.2.2.2.2.2.2.2.1, t31.2.2.2.2.2.2.2.2.2.2.1, t31.2.2.2.2.2.2.2.2.2.2.2] : List (Str)) (w64 (t7.2.1 - 1)))).length + ([32]).length ≤ maxI ∧ True)) (by kernel_rfl) (by kernel_rfl) (by kernel_rfl) ⟨h35, ⟨h36, trivial⟩⟩ ?_
      clear hk; intro a hk
      refine any_all [17] (by kernel_rfl) (by decide) ⟨?_, trivial⟩
      change wpOps _ _ _ [17] _ _
      obtain ⟨t37, h38, H⟩ := Option.bind_eq_some_iff.1 H
      refine st_call hk 14 [I t7.1, I 4] (some 57) enters14 (by kernel_rfl) (date_digits.ok K  t7.1 4 t37 h38 w ) ?_
      clear hk; rintro a u w ⟨rfl, ho'⟩ hk
      replace ho : Ows [] w0 w [] := ho.call ho'; clear ho'
      refine any_go [18, 19, 21, 22, 23, 24] (by kernel_rfl) ?_
      have h39 : (((((((get ([t19.1, t19.2.1, t19.2.2.1, t19.2.2.2.1, t19.2.2.2.2.1, t19.2.2.2.2.2.1, t19.2.2.2.2.2.2] : List (Str)) t21).take 3) ++ ([44, 32])) ++ t27) ++ ([32])) ++ (get ([t31.1, t31.2.1, t31.2.2.1, t31.2.2.2.1, t31.2.2.2.2.1, t31.2.2.2.2.2.1, t31.2.2.2.2.2.2.1, t31.2.2.2.2.2.2.2.1, t31.2.2.2.2.2.2.2.2.1, t31.2.2.2.2.2.2.2.2.2.1, t31.2.2.2.2.2.2.2.2.2.2.1, t31.2.2.2.2.2.2.2.2.2.2.2] : List (Str)) (w64 (t7.2.1 - 1)))) ++ ([32])).length + t37.length ≤ maxI := by
        by_cases h39 : (((((((get ([t19.1, t19.2.1, t19.2.2.1, t19.2.2.2.1, t19.2.2.2.2.1, t19.2.2.2.2.2.1, t19.2.2.2.2.2.2] : List (Str)) t21).take 3) ++ ([44, 32])) ++ t27) ++ ([32])) ++ (get ([t31.1, t31.2.1, t31.2.2.1, t31.2.2.2.1, t31.2.2.2.2.1, t31.2.2.2.2.2.1, t31.2.2.2.2.2.2.1, t31.2.2.2.2.2.2.2.1, t31.2.2.2.2.2.2.2.2.1, t31.2.2.2.2.2.2.2.2.2.1, t31.2.2.2.2.2.2.2.2.2.2.1, t31.2.2.2.2.2.2.2.2.2.2.2] : List (Str)) (w64 (t7.2.1 - 1)))) ++ ([32])).length + t37.length ≤ maxI
        · exact h39
        · rw [if_neg h39] at H; cases H
      rw [if_pos h39] at H
      have h40 : ((((((((get ([t19.1, t19.2.1, t19.2.2.1, t19.2.2.2.1, t19.2.2.2.2.1, t19.2.2.2.2.2.1, t19.2.2.2.2.2.2] : List (Str)) t21).take 3) ++ ([44, 32])) ++ t27) ++ ([32])) ++ (get ([t31.1, t31.2.1, t31.2.2.1, t31.2.2.2.1, t31.2.2.2.2.1, t31.2.2.2.2.2.1, t31.2.2.2.2.2.2.1, t31.2.2.2.2.2.2.2.1, t31.2.2.2.2.2.2.2.2.1, t31.2.2.2.2.2.2.2.2.2.1, t31.2.2.2.2.2.2.2.2.2.2.1, t31.2.2.2.2.2.2.2.2.2.2.2] : List (Str)) (w64 (t7.2.1 - 1)))) ++ ([32])) ++ t37).length + ([32]).length ≤ maxI := by
        by_cases h40 : ((((((((get ([t19.1, t19.2.1, t19.2.2.1, t19.2.2.2.1, t19.2.2.2.2.1, t19.2.2.2.2.2.1, t19.2.2.2.2.2.2] : List (Str)) t21).take 3) ++ ([44, 32])) ++ t27) ++ ([32])) ++ (get ([t31.1, t31.2.1, t31.2.2.1, t31.2.2.2.1, t31.2.2.2.2.1, t31.2.2.2.2.2.1, t31.2.2.2.2.2.2.1, t31.2.2.2.2.2.2.2.1, t31.2.2.2.2.2.2.2.2.1, t31.2.2.2.2.2.2.2.2.2.1, t31.2.2.2.2.2.2.2.2.2.2.1, t31.2.2.2.2.2.2.2.2.2.2.2] : List (Str)) (w64 (t7.2.1 - 1)))) ++ ([32])) ++ t37).length + ([32]).length ≤ maxI
        · exact h40
        · rw [if_neg h40] at H; cases H
      rw [if_pos h40] at H
      have h41 : (((((((((get ([t19.1, t19.2.1, t19.2.2.1, t19.2.2.2.1, t19.2.2.2.2.1, t19.2.2.2.2.2.1, t19.2.2.2.2.2.2] : List (Str)) t21).take 3) ++ ([44, 32])) ++ t27) ++ ([32])) ++ (get ([t31.1, t31.2.1, t31.2.2.1, t31.2.2.2.1, t31.2.2.2.2.1, t31.2.2.2.2.2.1, t31.2.2.2.2.2.2.1, t31.2.2.2.2.2.2.2.1, t31.2.2.2.2.2.2.2.2.1, t31.2.2.2.2.2.2.2.2.2.1, t31.2.2.2.2.2.2.2.2.2.2.1, t31.2.2.2.2.2.2.2.2.2.2.2] : List (Str)) (w64 (t7.2.1 - 1)))) ++ ([32])) ++ t37) ++ ([32])).length + ((((t9 ++ ([58])) ++ t12) ++ ([58])) ++ t16).length ≤ maxI := by
        by_cases h41 : (((((((((get ([t19.1, t19.2.1, t19.2.2.1, t19.2.2.2.1, t19.2.2.2.2.1, t19.2.2.2.2.2.1, t19.2.2.2.2.2.2] : List (Str)) t21).take 3) ++ ([44, 32])) ++ t27) ++ ([32])) ++ (get ([t31.1, t31.2.1, t31.2.2.1, t31.2.2.2.1, t31.2.2.2.2.1, t31.2.2.2.2.2.1, t31.2.2.2.2.2.2.1, t31.2.2.2.2.2.2.2.1, t31.2.2.2.2.2.2.2.2.1, t31.2.2.2.2.2.2.2.2.2.1, t31.2.2.2.2.2.2.2.2.2.2.1, t31.2.2.2.2.2.2.2.2.2.2.2] : List (Str)) (w64 (t7.2.1 - 1)))) ++ ([32])) ++ t37) ++ ([32])).length + ((((t9 ++ ([58])) ++ t12) ++ ([58])) ++ t16).length ≤ maxI
        · exact h41
        · rw [if_neg h41] at H; cases H
      rw [if_pos h41] at H
      have h42 : ((((((((((get ([t19.1, t19.2.1, t19.2.2.1, t19.2.2.2.1, t19.2.2.2.2.1, t19.2.2.2.2.2.1, t19.2.2.2.2.2.2] : List (Str)) t21).take 3) ++ ([44, 32])) ++ t27) ++ ([32])) ++ (get ([t31.1, t31.2.1, t31.2.2.1, t31.2.2.2.1, t31.2.2.2.2.1, t31.2.2.2.2.2.1, t31.2.2.2.2.2.2.1, t31.2.2.2.2.2.2.2.1, t31.2.2.2.2.2.2.2.2.1, t31.2.2.2.2.2.2.2.2.2.1, t31.2.2.2.2.2.2.2.2.2.2.1, t31.2.2.2.2.2.2.2.2.2.2.2] : List (Str)) (w64 (t7.2.1 - 1)))) ++ ([32])) ++ t37) ++ ([32])) ++ ((((t9 ++ ([58])) ++ t12) ++ ([58])) ++ t16)).length + ([32, 71, 77, 84]).length ≤ maxI := by
        by_cases h42 : ((((((((((get ([t19.1, t19.2.1, t19.2.2.1, t19.2.2.2.1, t19.2.2.2.2.1, t19.2.2.2.2.2.1, t19.2.2.2.2.2.2] : List (Str)) t21).take 3) ++ ([44, 32])) ++ t27) ++ ([32])) ++ (get ([t31.1, t31.2.1, t31.2.2.1, t31.2.2.2.1, t31.2.2.2.2.1, t31.2.2.2.2.2.1, t31.2.2.2.2.2.2.1, t31.2.2.2.2.2.2.2.1, t31.2.2.2.2.2.2.2.2.1, t31.2.2.2.2.2.2.2.2.2.1, t31.2.2.2.2.2.2.2.2.2.2.1, t31.2.2.2.2.2.2.2.2.2.2.2] : List (Str)) (w64 (t7.2.1 - 1)))) ++ ([32])) ++ t37) ++ ([32])) ++ ((((t9 ++ ([58])) ++ t12) ++ ([58])) ++ t16)).length + ([32, 71, 77, 84]).length ≤ maxI
        · exact h42
        · rw [if_neg h42] at H; cases H
      rw [if_pos h42] at H
      refine any_pure tabOK hk [18, 19, 21, 22, 23, 24] [18, 19, 21, 22, 23, 24] [] [2, 3] [(2, S (((((((((((get ([t19.1, t19.2.1, t19.2.2.1, t19.2.2.2.1, t19.2.2.2.2.1, t19.2.2.2.2.2.1, t19.2.2.2.2.2.2] : List (Str)) t21).take 3) ++ ([44, 32])) ++ t27) ++ ([32])) ++ (get ([t31.1, t31.2.1, t31.2.2.1, t31.2.2.2.1, t31.2.2.2.2.1, t31.2.2.2.2.2.1, t31.2.2.2.2.2.2.1, t31.2.2.2.2.2.2.2.1, t31.2.2.2.2.2.2.2.2.1, t31.2.2.2.2.2.2.2.2.2.1, t31.2.2.2.2.2.2.2.2.2.2.1, t31.2.2.2.2.2.2.2.2.2.2.2] : List (Str)) (w64 (t7.2.1 - 1)))) ++ ([32])) ++ t37) ++ ([32])) ++ ((((t9 ++ ([58])) ++ t12) ++ ([58])) ++ t16)) ++ ([32, 71, 77, 84]))), (3, I 0)] ((((((((get ([t19.1, t19.2.1, t19.2.2.1, t19.2.2.2.1, t19.2.2.2.2.1, t19.2.2.2.2.2.1, t19.2.2.2.2.2.2] : List (Str)) t21).take 3) ++ ([44, 32])) ++ t27) ++ ([32])) ++ (get ([t31.1, t31.2.1, t31.2.2.1, t31.2.2.2.1, t31.2.2.2.2.1, t31.2.2.2.2.2.1, t31.2.2.2.2.2.2.1, t31.2.2.2.2.2.2.2.1, t31.2.2.2.2.2.2.2.2.1, t31.2.2.2.2.2.2.2.2.2.1, t31.2.2.2.2.2.2.2.2.2.2.1, t31.2.2.2.2.2.2.2.2.2.2.2] : List (Str)) (w64 (t7.2.1 - 1)))) ++ ([32])).length + t37.length ≤ maxI ∧ (((((((((get ([t19.1, t19.2.1, t19.2.2.1, t19.2.2.2.1, t19.2.2.2.2.1, t19.2.2.2.2.2.1, t19.2.2.2.2.2.2] : List (Str)) t21).take 3) ++ ([44, 32])) ++ t27) ++ ([32])) ++ (get ([t31.1, t31.2.1, t31.2.2.1, t31.2.2.2.1, t31.2.2.2.2.1, t31.2.2.2.2.2.1, t31.2.2.2.2.2.2.1, t31.2.2.2.2.2.2.2.1, t31.2.2.2.2.2.2.2.2.1, t31.2.2.2.2.2.2.2.2.2.1, t31.2.2.2.2.2.2.2.2.2.2.1, t31.2.2.2.2.2.2.2.2.2.2.2] : List (Str)) (w64 (t7.2.1 - 1)))) ++ ([32])) ++ t37).length + ([32]).length ≤ maxI ∧ ((((((((((get ([t19.1, t19.2.1, t19.2.2.1, t19.2.2.2.1, t19.2.2.2.2.1, t19.2.2.2.2.2.1, t19.2.2.2.2.2.2] : List (Str)) t21).take 3) ++ ([44, 32])) ++ t27) ++ ([32])) ++ (get ([t31.1, t31.2.1, t31.2.2.1, t31.2.2.2.1, t31.2.2.2.2.1, t31.2.2.2.2.2.1, t31.2.2.2.2.2.2.1, t31.2.2.2.2.2.2.2.1, t31.2.2.2.2.2.2.2.2.1, t31.2.2.2.2.2.2.2.2.2.1, t31.2.2.2.2.2.2.2.2.2.2.1, t31.2.2.2.2.2.2.2.2.2.2.2] : List (Str)) (w64 (t7.2.1 - 1)))) ++ ([32])) ++ t37) ++ ([32])).length + ((((t9 ++ ([58])) ++ t12) ++ ([58])) ++ t16).length ≤ maxI ∧ (((((((((((get ([t19.1, t19.2.1, t19.2.2.1, t19.2.2.2.1, t19.2.2.2.2.1, t19.2.2.2.2.2.1, t19.2.2.2.2.2.2] : List (Str)) t21).take 3) ++ ([44, 32])) ++ t27) ++ ([32])) ++ (get ([t31.1, t31.2.1, t31.2.2.1, t31.2.2.2.1, t31.2.2.2.2.1, t31.2.2.2.2.2.1, t31.2.2.2.2.2.2.1, t31.2.2.2.2.2.2.2.1, t31.2.2.2.2.2.2.2.2.1, t31.2.2.2.2.2.2.2.2.2.1, t31.2.2.2.2.2.2.2.2.2.2.1, t31.2.2.2.2.2.2.2.2.2.2.2] : List (Str)) (w64 (t7.2.1 - 1)))) ++ ([32])) ++ t37) ++ ([32])) ++ ((((t9 ++ ([58])) ++ t12) ++ ([58])) ++ t16)).length + ([32, 71, 77, 84]).length ≤ maxI ∧ True)))) (by kernel_rfl) (by kernel_rfl) (by kernel_rfl) ⟨h39, ⟨h40, ⟨h41, ⟨h42, trivial⟩⟩⟩⟩ ?_
      clear hk; intro a hk
      refine any_end ?_
      refine st_retG hk (by kernel_rfl) [S (((((((((((get ([t19.1, t19.2.1, t19.2.2.1, t19.2.2.2.1, t19.2.2.2.2.1, t19.2.2.2.2.2.1, t19.2.2.2.2.2.2] : List (Str)) t21).take 3) ++ ([44, 32])) ++ t27) ++ ([32])) ++ (get ([t31.1, t31.2.1, t31.2.2.1, t31.2.2.2.1, t31.2.2.2.2.1, t31.2.2.2.2.2.1, t31.2.2.2.2.2.2.1, t31.2.2.2.2.2.2.2.1, t31.2.2.2.2.2.2.2.2.1, t31.2.2.2.2.2.2.2.2.2.1, t31.2.2.2.2.2.2.2.2.2.2.1, t31.2.2.2.2.2.2.2.2.2.2.2] : List (Str)) (w64 (t7.2.1 - 1)))) ++ ([32])) ++ t37) ++ ([32])) ++ ((((t9 ++ ([58])) ++ t12) ++ ([58])) ++ t16)) ++ ([32, 71, 77, 84])), I 0] #[.tmp 2, .tmp 3] (by kernel_rfl) ⟨resT hk (by kernel_rfl), resT hk (by kernel_rfl), trivial⟩ ?_
      obtain rfl := Option.some.inj H
      exact ⟨_, rfl, rfl, ho⟩


/-! scullery/head.With: function 8 -/
noncomputable def C8 (p : List Nat) : Code := Sub (bodyOf f8) p
def head_With.f (p0 : List (Str × Str)) (p1 : Str) (p2 : Str) : Option ((List (Str × Str))) := (if p0.length + ([(p1, p2)] : List (Str × Str)).length ≤ 4294967296 then some (p0 ++ ([(p1, p2)] : List (Str × Str))) else none)
abbrev head_With.post (w0 : World) (r : (List (Str × Str))) (u : Value) (w : World) : Prop := ∃ (o12 : Option Addr), ∃ (c13 : Nat), u = .slice o12 r.length c13 ∧ Ows [] w0 w [.row 0 31 2 (.slice o12 r.length c13) r.length (r.flatMap encT31)]
theorem head_With.ok (p0 : List (Str × Str)) (p1 : Str) (p2 : Str) (r : (List (Str × Str))) (H : head_With.f p0 p1 p2 = some r) (w0 : World) (o1 : Option Addr) (c2 : Nat) (hr0 : Rd w0 o1 (p0.flatMap encT31)) (hl0 : p0.length ≤ c2) : Calls Tryd.prog 8 ⟨[.slice o1 p0.length c2, S p1, S p2]⟩ w0 fun e w => ∃ u, e = .returned u ∧ head_With.post w0 r u w := by
  unfold head_With.f at H
  refine st_start (N := 14) [.slice o1 p0.length c2, S p1, S p2] (C8 []) func8 (by kernel_rfl) (by kernel_rfl) (by kernel_rfl) ?_
  intro a w hk ho
  refine st_seq (C8 [0]) (C8 [1]) (by kernel_rfl) ?_
  refine st_region 0 (opsOf (C8 [0])) [0] (by kernel_rfl) (by kernel_rfl) ?_
  refine st_pure tabOK hk [0] [] [0, 1, 2] [(0, .slice o1 p0.length c2), (1, S p1), (2, S p2)] (True) (by kernel_rfl) trivial ?_
  clear hk; intro a hk
  refine st_done ?_
  refine st_seq (C8 [1, 0]) (C8 [1, 1]) (by kernel_rfl) ?_
  refine st_region 1 (opsOf (C8 [1, 0])) [0, 1, 2, 3, 4, 5, 6, 7] (by kernel_rfl) (by kernel_rfl) ?_
  refine st_pure tabOK hk [0] [1, 2, 3, 4, 5, 6, 7] [1, 2, 7] [(1, S p1), (2, S p2), (7, .slice o1 p0.length c2)] (True) (by kernel_rfl) trivial ?_
  clear hk; intro a hk
  refine st_call hk 21 [.slice o1 p0.length c2] (some 8) enters21 (by kernel_rfl) (clip21 o1 p0.length c2 hl0 w) ?_
  clear hk; rintro a u w ⟨rfl, ho'⟩ hk
  replace ho : Ows [] w0 w [] := ho.call ho'; clear ho'
  refine st_pure tabOK hk [2, 3, 4] [5, 6, 7] [8, 11] [(8, .slice o1 p0.length p0.length), (11, .agg #[S p1, S p2])] (True) (by kernel_rfl) trivial ?_
  clear hk; intro a hk
  refine st_lit tabOK hk ho #[S p1, S p2] 31 2 1 12 (by kernel_rfl) ?_
  clear hk ho; intro a o4 w h5 hk ho
  replace ho : Ows [] w0 w [.row 0 31 2 (.slice o4 (([(p1, p2)] : List (Str × Str)).length) 1) (([(p1, p2)] : List (Str × Str)).length) (([(p1, p2)] : List (Str × Str)).flatMap encT31)] := ho
  replace hk : Kn 14 a [(8, .slice o1 p0.length p0.length), (12, .slice o4 (([(p1, p2)] : List (Str × Str)).length) 1)] := hk.to [8, 12] _ (by kernel_rfl)
  have h7 : p0.length + ([(p1, p2)] : List (Str × Str)).length ≤ 4294967296 := by
    by_cases h7 : p0.length + ([(p1, p2)] : List (Str × Str)).length ≤ 4294967296
    · exact h7
    · rw [if_neg h7] at H; cases H
  rw [if_pos h7] at H
  refine st_appendF tabOK hk ho 32 31 2 13 (.agg #[S ([]), S ([])]) o1 p0.length p0.length (p0.flatMap encT31) o4 (([(p1, p2)] : List (Str × Str)).length) 1 (([(p1, p2)] : List (Str × Str)).flatMap encT31) (by kernel_rfl) (by kernel_rfl) (by kernel_rfl) (by decide) (flat_len encT31_len _) (hr0.old ho (fun _ _ => by simp)) rfl (by first | exact .inl (by decide) | exact .inl (by simp) | exact .inr rfl | exact .inr (by simp)) (flat_len encT31_len _) (ho.rd 0 rfl) (one_flat encT31_one _) h7 ((p0 ++ ([(p1, p2)] : List (Str × Str))).length) ((p0 ++ ([(p1, p2)] : List (Str × Str))).flatMap encT31) (by simp) (by first | rfl | exact (List.flatMap_append ..).symm) ?_
  clear hk ho; intro a o8 c9 w h10 hk ho
  replace ho : Ows [] w0 w [.row 0 31 2 (.slice o8 ((p0 ++ ([(p1, p2)] : List (Str × Str))).length) c9) ((p0 ++ ([(p1, p2)] : List (Str × Str))).length) ((p0 ++ ([(p1, p2)] : List (Str × Str))).flatMap encT31), .row 0 31 2 (.slice o4 (([(p1, p2)] : List (Str × Str)).length) 1) (([(p1, p2)] : List (Str × Str)).length) (([(p1, p2)] : List (Str × Str)).flatMap encT31)] := ho
  refine st_pure tabOK hk [7] [] [6] [(6, .slice o8 ((p0 ++ ([(p1, p2)] : List (Str × Str))).length) c9)] (True) (by kernel_rfl) trivial ?_
  clear hk; intro a hk
  refine st_done ?_
  replace ho : Ows [] w0 w [.row 0 31 2 (.slice o8 ((p0 ++ ([(p1, p2)] : List (Str × Str))).length) c9) ((p0 ++ ([(p1, p2)] : List (Str × Str))).length) ((p0 ++ ([(p1, p2)] : List (Str × Str))).flatMap encT31)] := ho.erase 1
  refine st_retG hk (by kernel_rfl) [.slice o8 ((p0 ++ ([(p1, p2)] : List (Str × Str))).length) c9] #[.tmp 6] (by kernel_rfl) ⟨resT hk (by kernel_rfl), trivial⟩ ?_
  obtain rfl := Option.some.inj H
  exact ⟨_, rfl, o8, c9, rfl, ho⟩


/-! scullery/scullerylaw12.EtagHeld: function 3 -/
noncomputable def C3 (p : List Nat) : Code := Sub (bodyOf f3) p
def scullerylaw12_EtagHeld.f (K : Nat) (p0_0 : Bool) (p0_1 : Str) (p1_0 : Int) (p1_1 : Int) : Option (Bool) := (((scullerylaw12_awake.f K ).bind fun t3 => ((etag_Print.f K p0_0 p0_1).bind fun t5 => ((date_Print.f K p1_0).bind fun t7 => ((date_Print.f K p1_1).bind fun t9 => (if ((t5.2 != 0) || ((t7.2 != 0) || ((t9.2 != 0) || (decide ((t5.1.length : Int) > 200))))) = true then some t3 else ((etag_Held.f K ([([105, 102, 45, 110, 111, 110, 101, 45, 109, 97, 116, 99, 104], t5.1)] : List (Str × Str)) ([([101, 116, 97, 103], t5.1), ([108, 97, 115, 116, 45, 109, 111, 100, 105, 102, 105, 101, 100], t7.1)] : List (Str × Str))).bind fun t29 => ((etag_Held.f K ([([105, 102, 45, 109, 111, 100, 105, 102, 105, 101, 100, 45, 115, 105, 110, 99, 101], t9.1)] : List (Str × Str)) ([([101, 116, 97, 103], t5.1), ([108, 97, 115, 116, 45, 109, 111, 100, 105, 102, 105, 101, 100], t7.1)] : List (Str × Str))).bind fun t34 => (if ([34]).length + p0_1.length ≤ maxI then (if (([34]) ++ p0_1).length + ([120, 34]).length ≤ maxI then ((head_With.f ([]) ([105, 102, 45, 110, 111, 110, 101, 45, 109, 97, 116, 99, 104]) ((([34]) ++ p0_1) ++ ([120, 34]))).bind fun t38 => ((head_With.f t38 ([105, 102, 45, 109, 111, 100, 105, 102, 105, 101, 100, 45, 115, 105, 110, 99, 101]) t7.1).bind fun t43 => ((etag_Held.f K t43 ([([101, 116, 97, 103], t5.1), ([108, 97, 115, 116, 45, 109, 111, 100, 105, 102, 105, 101, 100], t7.1)] : List (Str × Str))).bind fun t48 => (((if t3 = true then (if t29 = true then (if (t34 == (decide (p1_0 ≤ p1_1))) = true then (if (!t48) = true then ((etag_Held.f K ([]) ([([101, 116, 97, 103], t5.1), ([108, 97, 115, 116, 45, 109, 111, 100, 105, 102, 105, 101, 100], t7.1)] : List (Str × Str))).bind fun t59 => some (!t59)) else some false) else some false) else some false) else some false)).bind fun m50 => some m50)))) else none) else none)))))))))
abbrev scullerylaw12_EtagHeld.post (w0 : World) (r : Bool) (u : Value) (w : World) : Prop := u = .bool r ∧ Ows [] w0 w []
theorem scullerylaw12_EtagHeld.ok (K : Nat) (p0_0 : Bool) (p0_1 : Str) (p1_0 : Int) (p1_1 : Int) (r : Bool) (H : scullerylaw12_EtagHeld.f K p0_0 p0_1 p1_0 p1_1 = some r) (w0 : World)  : Calls Tryd.prog 3 ⟨[.agg #[.bool p0_0, S p0_1], .agg #[I p1_0, I p1_1]]⟩ w0 fun e w => ∃ u, e = .returned u ∧ scullerylaw12_EtagHeld.post w0 r u w := by
  unfold scullerylaw12_EtagHeld.f at H
  refine st_start (N := 98) [.agg #[.bool p0_0, S p0_1], .agg #[I p1_0, I p1_1]] (C3 []) func3 (by kernel_rfl) (by kernel_rfl) (by kernel_rfl) ?_
  intro a w hk ho
  refine st_seq (C3 [0]) (C3 [1]) (by kernel_rfl) ?_
  refine st_region 0 (opsOf (C3 [0])) [0, 1, 2] (by kernel_rfl) (by kernel_rfl) ?_
  refine st_new tabOK hk ho #[.bool p0_0, S p0_1] 23 2 (by kernel_rfl) ?_
  clear hk ho; intro a b1 w hk ho
  refine st_new tabOK hk ho #[I p1_0, I p1_1] 24 3 (by kernel_rfl) ?_
  clear hk ho; intro a b2 w hk ho
  refine st_pure tabOK hk [2] [] [2, 3] [(2, .pointer (some ⟨b1, 0, none⟩)), (3, .pointer (some ⟨b2, 0, none⟩))] (True) (by kernel_rfl) trivial ?_
  clear hk; intro a hk
  refine st_done ?_
  refine st_seq (C3 [1, 0]) (C3 [1, 1]) (by kernel_rfl) ?_
  refine st_region 1 (opsOf (C3 [1, 0])) [0, 1] (by kernel_rfl) (by kernel_rfl) ?_
  obtain ⟨t3, h4, H⟩ := Option.bind_eq_some_iff.1 H
  refine st_call hk 4 [] (some 17) enters4 (by kernel_rfl) (scullerylaw12_awake.ok K   t3 h4 w ) ?_
  clear hk; rintro a u w ⟨rfl, ho'⟩ hk
  replace ho : Ows [] w0 w [.blk b2 (.cells #[I p1_0, I p1_1] 24 (0, 0)), .blk b1 (.cells #[.bool p0_0, S p0_1] 23 (0, 0))] := ho.call ho'; clear ho'
  refine st_pure tabOK hk [1] [] [2, 3, 5] [(2, .pointer (some ⟨b1, 0, none⟩)), (3, .pointer (some ⟨b2, 0, none⟩)), (5, .bool t3)] (True) (by kernel_rfl) trivial ?_
  clear hk; intro a hk
  refine st_done ?_
  refine st_seq (C3 [1, 1, 0]) (C3 [1, 1, 1]) (by kernel_rfl) ?_
  refine st_region 2 (opsOf (C3 [1, 1, 0])) [0, 1, 2, 3, 4, 5, 6] (by kernel_rfl) (by kernel_rfl) ?_
  refine st_loadA tabOK hk 23 (some ⟨b1, 0, none⟩) 19 (by kernel_rfl) (by kernel_rfl) (.agg #[.bool false, S ([])]) (by kernel_rfl) [.bool p0_0, S p0_1] rfl (ho.cellsA 1 rfl rfl) ?_
  clear hk; intro a hk
  obtain ⟨t5, h6, H⟩ := Option.bind_eq_some_iff.1 H
  refine st_call hk 5 [.agg #[.bool p0_0, S p0_1]] (some 20) enters5 (by kernel_rfl) (etag_Print.ok K  p0_0 p0_1 t5 h6 w ) ?_
  clear hk; rintro a u w ⟨rfl, ho'⟩ hk
  replace ho : Ows [] w0 w [.blk b2 (.cells #[I p1_0, I p1_1] 24 (0, 0)), .blk b1 (.cells #[.bool p0_0, S p0_1] 23 (0, 0))] := ho.call ho'; clear ho'
  refine st_pure tabOK hk [2, 3, 4, 5, 6] [] [2, 3, 5, 6, 7] [(2, .pointer (some ⟨b1, 0, none⟩)), (3, .pointer (some ⟨b2, 0, none⟩)), (5, .bool t3), (6, S t5.1), (7, I t5.2)] (True) (by kernel_rfl) trivial ?_
  clear hk; intro a hk
  refine st_done ?_
  refine st_seq (C3 [1, 1, 1, 0]) (C3 [1, 1, 1, 1]) (by kernel_rfl) ?_
  refine st_region 3 (opsOf (C3 [1, 1, 1, 0])) [0, 1, 2, 3, 4, 5, 6, 7] (by kernel_rfl) (by kernel_rfl) ?_
  refine st_pure tabOK hk [0] [1, 2, 3, 4, 5, 6, 7] [2, 3, 5, 6, 7, 24] [(2, .pointer (some ⟨b1, 0, none⟩)), (3, .pointer (some ⟨b2, 0, none⟩)), (5, .bool t3), (6, S t5.1), (7, I t5.2), (24, .pointer (some ⟨b2, 0, none⟩))] (((0 : Int) ≤ 0 ∧ (0 : Int) < 2) ∧ True) (by kernel_rfl) ⟨(by decide), trivial⟩ ?_
  clear hk; intro a hk
  refine st_load1 tabOK hk 2 (some ⟨b2, 0, none⟩) 25 (by kernel_rfl) (by kernel_rfl) (I p1_0) (ho.cell 0 rfl rfl) ?_
  clear hk; intro a hk
  obtain ⟨t7, h8, H⟩ := Option.bind_eq_some_iff.1 H
  refine st_call hk 6 [I p1_0] (some 26) enters6 (by kernel_rfl) (date_Print.ok K  p1_0 t7 h8 w ) ?_
  clear hk; rintro a u w ⟨rfl, ho'⟩ hk
  replace ho : Ows [] w0 w [.blk b2 (.cells #[I p1_0, I p1_1] 24 (0, 0)), .blk b1 (.cells #[.bool p0_0, S p0_1] 23 (0, 0))] := ho.call ho'; clear ho'
  refine st_pure tabOK hk [3, 4, 5, 6, 7] [] [2, 3, 5, 6, 7, 8, 9] [(2, .pointer (some ⟨b1, 0, none⟩)), (3, .pointer (some ⟨b2, 0, none⟩)), (5, .bool t3), (6, S t5.1), (7, I t5.2), (8, S t7.1), (9, I t7.2)] (True) (by kernel_rfl) trivial ?_
  clear hk; intro a hk
  refine st_done ?_
  refine st_seq (C3 [1, 1, 1, 1, 0]) (C3 [1, 1, 1, 1, 1]) (by kernel_rfl) ?_
  refine st_region 4 (opsOf (C3 [1, 1, 1, 1, 0])) [0, 1, 2, 3, 4, 5, 6, 7] (by kernel_rfl) (by kernel_rfl) ?_
  refine st_pure tabOK hk [0] [1, 2, 3, 4, 5, 6, 7] [2, 3, 5, 6, 7, 8, 9, 30] [(2, .pointer (some ⟨b1, 0, none⟩)), (3, .pointer (some ⟨b2, 0, none⟩)), (5, .bool t3), (6, S t5.1), (7, I t5.2), (8, S t7.1), (9, I t7.2), (30, .pointer (some ⟨b2, 1, none⟩))] (((0 : Int) ≤ 1 ∧ (1 : Int) < 2) ∧ True) (by kernel_rfl) ⟨(by decide), trivial⟩ ?_
  clear hk; intro a hk
  refine st_load1 tabOK hk 2 (some ⟨b2, 1, none⟩) 31 (by kernel_rfl) (by kernel_rfl) (I p1_1) (ho.cell 0 rfl rfl) ?_
  clear hk; intro a hk
  obtain ⟨t9, h10, H⟩ := Option.bind_eq_some_iff.1 H
  refine st_call hk 6 [I p1_1] (some 32) enters6 (by kernel_rfl) (date_Print.ok K  p1_1 t9 h10 w ) ?_
  clear hk; rintro a u w ⟨rfl, ho'⟩ hk
  replace ho : Ows [] w0 w [.blk b2 (.cells #[I p1_0, I p1_1] 24 (0, 0)), .blk b1 (.cells #[.bool p0_0, S p0_1] 23 (0, 0))] := ho.call ho'; clear ho'
  refine st_pure tabOK hk [3, 4, 5, 6, 7] [] [2, 3, 5, 6, 7, 8, 9, 10, 11] [(2, .pointer (some ⟨b1, 0, none⟩)), (3, .pointer (some ⟨b2, 0, none⟩)), (5, .bool t3), (6, S t5.1), (7, I t5.2), (8, S t7.1), (9, I t7.2), (10, S t9.1), (11, I t9.2)] (True) (by kernel_rfl) trivial ?_
  clear hk; intro a hk
  refine st_done ?_
  refine st_seq (C3 [1, 1, 1, 1, 1, 0]) (C3 [1, 1, 1, 1, 1, 1]) (by kernel_rfl) ?_
  refine st_seq (C3 [1, 1, 1, 1, 1, 0, 0]) (C3 [1, 1, 1, 1, 1, 0, 1]) (by kernel_rfl) ?_
  refine st_region 5 (opsOf (C3 [1, 1, 1, 1, 1, 0, 0])) [0, 1, 2, 3, 4, 5, 6, 7, 8, 9, 10, 11, 12, 13, 14] (by kernel_rfl) (by kernel_rfl) ?_
  refine st_pure tabOK hk [0, 1, 2] [3, 4, 5, 6, 7, 8, 9, 10, 11, 12, 13, 14] [2, 3, 5, 6, 8, 9, 10, 11, 37] [(2, .pointer (some ⟨b1, 0, none⟩)), (3, .pointer (some ⟨b2, 0, none⟩)), (5, .bool t3), (6, S t5.1), (8, S t7.1), (9, I t7.2), (10, S t9.1), (11, I t9.2), (37, .bool (t5.2 != 0))] (True) (by kernel_rfl) trivial ?_
  clear hk; intro a hk
  refine cut_ops (fun a w => Kn 98 a [(2, .pointer (some ⟨b1, 0, none⟩)), (3, .pointer (some ⟨b2, 0, none⟩)), (5, .bool t3), (6, S t5.1), (8, S t7.1), (10, S t9.1), (49, .bool ((t5.2 != 0) || ((t7.2 != 0) || ((t9.2 != 0) || (decide ((t5.1.length : Int) > 200))))))] ∧ Ows [] w0 w [.blk b2 (.cells #[I p1_0, I p1_1] 24 (0, 0)), .blk b1 (.cells #[.bool p0_0, S p0_1] 23 (0, 0))]) ?_ ?_
  · intro J
    rcases Bool.eq_false_or_eq_true (t5.2 != 0) with h11 | h11
    ·
      rw [h11] at hk
      have h12 : (t5.2 != 0) = true := h11
      refine st_pure tabOK hk [3, 4, 5, 6, 7, 8, 9, 10, 11, 12, 13, 14] [] [2, 3, 5, 6, 8, 10, 49] [(2, .pointer (some ⟨b1, 0, none⟩)), (3, .pointer (some ⟨b2, 0, none⟩)), (5, .bool t3), (6, S t5.1), (8, S t7.1), (10, S t9.1), (49, .bool true)] (True) (by kernel_rfl) trivial ?_
      clear hk; intro a hk
      refine st_done ?_
      have e : ((t5.2 != 0) || ((t7.2 != 0) || ((t9.2 != 0) || (decide ((t5.1.length : Int) > 200))))) = true := by first | (simp only [h11]; done) | (simp only [h11]; rfl) | rfl | simp [h11]
      exact J a w ⟨by rw [e]; exact hk.to [2, 3, 5, 6, 8, 10, 49] _ (by kernel_rfl), ho⟩
    ·
      rw [h11] at hk
      have h13 : ¬ ((t5.2 != 0) = true) := ne_true_of_eq_false h11
      refine st_pure tabOK hk [3, 4, 5, 6] [7, 8, 9, 10, 11, 12, 13, 14] [2, 3, 5, 6, 8, 10, 11, 41] [(2, .pointer (some ⟨b1, 0, none⟩)), (3, .pointer (some ⟨b2, 0, none⟩)), (5, .bool t3), (6, S t5.1), (8, S t7.1), (10, S t9.1), (11, I t9.2), (41, .bool (t7.2 != 0))] (True) (by kernel_rfl) trivial ?_
      clear hk; intro a hk
      rcases Bool.eq_false_or_eq_true (t7.2 != 0) with h14 | h14
      ·
        rw [h14] at hk
        have h15 : (t7.2 != 0) = true := h14
        refine st_pure tabOK hk [7, 8, 9, 10, 11, 12, 13, 14] [] [2, 3, 5, 6, 8, 10, 49] [(2, .pointer (some ⟨b1, 0, none⟩)), (3, .pointer (some ⟨b2, 0, none⟩)), (5, .bool t3), (6, S t5.1), (8, S t7.1), (10, S t9.1), (49, .bool true)] (True) (by kernel_rfl) trivial ?_
        clear hk; intro a hk
        refine st_done ?_
        have e : ((t5.2 != 0) || ((t7.2 != 0) || ((t9.2 != 0) || (decide ((t5.1.length : Int) > 200))))) = true := by first | (simp only [h11, h14]; done) | (simp only [h11, h14]; rfl) | rfl | simp [h11, h14]
        exact J a w ⟨by rw [e]; exact hk.to [2, 3, 5, 6, 8, 10, 49] _ (by kernel_rfl), ho⟩
      ·
        rw [h14] at hk
        have h16 : ¬ ((t7.2 != 0) = true) := ne_true_of_eq_false h14
        refine st_pure tabOK hk [7, 8, 9, 10] [11, 12, 13, 14] [2, 3, 5, 6, 8, 10, 45] [(2, .pointer (some ⟨b1, 0, none⟩)), (3, .pointer (some ⟨b2, 0, none⟩)), (5, .bool t3), (6, S t5.1), (8, S t7.1), (10, S t9.1), (45, .bool (t9.2 != 0))] (True) (by kernel_rfl) trivial ?_
        clear hk; intro a hk
        rcases Bool.eq_false_or_eq_true (t9.2 != 0) with h17 | h17
        ·
          rw [h17] at hk
          have h18 : (t9.2 != 0) = true := h17
          refine st_pure tabOK hk [11, 12, 13, 14] [] [2, 3, 5, 6, 8, 10, 49] [(2, .pointer (some ⟨b1, 0, none⟩)), (3, .pointer (some ⟨b2, 0, none⟩)), (5, .bool t3), (6, S t5.1), (8, S t7.1), (10, S t9.1), (49, .bool true)] (True) (by kernel_rfl) trivial ?_
          clear hk; intro a hk
          refine st_done ?_
          have e : ((t5.2 != 0) || ((t7.2 != 0) || ((t9.2 != 0) || (decide ((t5.1.length : Int) > 200))))) = true := by first | (simp only [h11, h14, h17]; done) | (simp only [h11, h14, h17]; rfl) | rfl | simp [h11, h14, h17]
          exact J a w ⟨by rw [e]; exact hk.to [2, 3, 5, 6, 8, 10, 49] _ (by kernel_rfl), ho⟩
        ·
          rw [h17] at hk
          have h19 : ¬ ((t9.2 != 0) = true) := ne_true_of_eq_false h17
          refine st_pure tabOK hk [11, 12, 13, 14] [] [2, 3, 5, 6, 8, 10, 49] [(2, .pointer (some ⟨b1, 0, none⟩)), (3, .pointer (some ⟨b2, 0, none⟩)), (5, .bool t3), (6, S t5.1), (8, S t7.1), (10, S t9.1), (49, .bool (decide ((t5.1.length : Int) > 200)))] (True) (by kernel_rfl) trivial ?_
          clear hk; intro a hk
          refine st_done ?_
          have e : ((t5.2 != 0) || ((t7.2 != 0) || ((t9.2 != 0) || (decide ((t5.1.length : Int) > 200))))) = (decide ((t5.1.length : Int) > 200)) := by first | (simp only [h11, h14, h17]; done) | (simp only [h11, h14, h17]; rfl) | rfl | simp [h11, h14, h17]
          exact J a w ⟨by rw [e]; exact hk.to [2, 3, 5, 6, 8, 10, 49] _ (by kernel_rfl), ho⟩
  · rintro a w ⟨hk, ho⟩
    refine st_cond hk (C3 [1, 1, 1, 1, 1, 0, 1, 0]) (C3 [1, 1, 1, 1, 1, 0, 1, 1]) (.tmp 49) (((t5.2 != 0) || ((t7.2 != 0) || ((t9.2 != 0) || (decide ((t5.1.length : Int) > 200)))))) (by kernel_rfl) (by kernel_rfl) (fun h20 => ?_) (fun h20 => ?_)
    ·
      have h21 : ((t5.2 != 0) || ((t7.2 != 0) || ((t9.2 != 0) || (decide ((t5.1.length : Int) > 200))))) = true := h20
      rw [if_pos h21] at H
      refine st_seq (C3 [1, 1, 1, 1, 1, 0, 1, 0, 0]) (C3 [1, 1, 1, 1, 1, 0, 1, 0, 1]) (by kernel_rfl) ?_
      refine st_region 6 (opsOf (C3 [1, 1, 1, 1, 1, 0, 1, 0, 0])) [0, 1] (by kernel_rfl) (by kernel_rfl) ?_
      refine st_pure tabOK hk [0, 1] [] [4] [(4, .bool t3)] (True) (by kernel_rfl) trivial ?_
      clear hk; intro a hk
      refine st_done ?_
      replace ho : Ows [] w0 w [.blk b1 (.cells #[.bool p0_0, S p0_1] 23 (0, 0))] := ho.erase 0
      replace ho : Ows [] w0 w [] := ho.erase 0
      refine st_retG hk (by kernel_rfl) [.bool t3] #[.tmp 4] (by kernel_rfl) ⟨resT hk (by kernel_rfl), trivial⟩ ?_
      obtain rfl := Option.some.inj H
      exact ⟨_, rfl, rfl, ho⟩
    ·
      have h22 : ¬ (((t5.2 != 0) || ((t7.2 != 0) || ((t9.2 != 0) || (decide ((t5.1.length : Int) > 200))))) = true) := ne_true_of_eq_false h20
      rw [if_neg h22] at H
      refine st_skip (by kernel_rfl) ?_
      refine st_seq (C3 [1, 1, 1, 1, 1, 1, 0]) (C3 [1, 1, 1, 1, 1, 1, 1]) (by kernel_rfl) ?_
      refine st_region 7 (opsOf (C3 [1, 1, 1, 1, 1, 1, 0])) [0, 1, 2, 3, 4, 5] (by kernel_rfl) (by kernel_rfl) ?_
      refine st_pure tabOK hk [0, 1, 2, 3] [4, 5] [2, 3, 5, 6, 8, 10, 52, 54] [(2, .pointer (some ⟨b1, 0, none⟩)), (3, .pointer (some ⟨b2, 0, none⟩)), (5, .bool t3), (6, S t5.1), (8, S t7.1), (10, S t9.1), (52, .agg #[S ([101, 116, 97, 103]), S t5.1]), (54, .agg #[S ([108, 97, 115, 116, 45, 109, 111, 100, 105, 102, 105, 101, 100]), S t7.1])] (True) (by kernel_rfl) trivial ?_
      clear hk; intro a hk
      refine st_lit tabOK hk ho #[S ([101, 116, 97, 103]), S t5.1, S ([108, 97, 115, 116, 45, 109, 111, 100, 105, 102, 105, 101, 100]), S t7.1] 31 2 2 55 (by kernel_rfl) ?_
      clear hk ho; intro a o23 w h24 hk ho
      replace ho : Ows [] w0 w [.row 0 31 2 (.slice o23 (([([101, 116, 97, 103], t5.1), ([108, 97, 115, 116, 45, 109, 111, 100, 105, 102, 105, 101, 100], t7.1)] : List (Str × Str)).length) 2) (([([101, 116, 97, 103], t5.1), ([108, 97, 115, 116, 45, 109, 111, 100, 105, 102, 105, 101, 100], t7.1)] : List (Str × Str)).length) (([([101, 116, 97, 103], t5.1), ([108, 97, 115, 116, 45, 109, 111, 100, 105, 102, 105, 101, 100], t7.1)] : List (Str × Str)).flatMap encT31), .blk b2 (.cells #[I p1_0, I p1_1] 24 (0, 0)), .blk b1 (.cells #[.bool p0_0, S p0_1] 23 (0, 0))] := ho
      replace hk : Kn 98 a [(2, .pointer (some ⟨b1, 0, none⟩)), (3, .pointer (some ⟨b2, 0, none⟩)), (5, .bool t3), (6, S t5.1), (8, S t7.1), (10, S t9.1), (55, .slice o23 (([([101, 116, 97, 103], t5.1), ([108, 97, 115, 116, 45, 109, 111, 100, 105, 102, 105, 101, 100], t7.1)] : List (Str × Str)).length) 2)] := hk.to [2, 3, 5, 6, 8, 10, 55] _ (by kernel_rfl)
      refine st_pure tabOK hk [5] [] [2, 3, 5, 6, 8, 10, 12] [(2, .pointer (some ⟨b1, 0, none⟩)), (3, .pointer (some ⟨b2, 0, none⟩)), (5, .bool t3), (6, S t5.1), (8, S t7.1), (10, S t9.1), (12, .slice o23 (([([101, 116, 97, 103], t5.1), ([108, 97, 115, 116, 45, 109, 111, 100, 105, 102, 105, 101, 100], t7.1)] : List (Str × Str)).length) 2)] (True) (by kernel_rfl) trivial ?_
      clear hk; intro a hk
      refine st_done ?_
      refine st_seq (C3 [1, 1, 1, 1, 1, 1, 1, 0]) (C3 [1, 1, 1, 1, 1, 1, 1, 1]) (by kernel_rfl) ?_
      refine st_region 8 (opsOf (C3 [1, 1, 1, 1, 1, 1, 1, 0])) [0, 1, 2, 3, 4, 5] (by kernel_rfl) (by kernel_rfl) ?_
      refine st_pure tabOK hk [0, 1] [2, 3, 4, 5] [2, 3, 5, 8, 10, 12, 57] [(2, .pointer (some ⟨b1, 0, none⟩)), (3, .pointer (some ⟨b2, 0, none⟩)), (5, .bool t3), (8, S t7.1), (10, S t9.1), (12, .slice o23 (([([101, 116, 97, 103], t5.1), ([108, 97, 115, 116, 45, 109, 111, 100, 105, 102, 105, 101, 100], t7.1)] : List (Str × Str)).length) 2), (57, .agg #[S ([105, 102, 45, 110, 111, 110, 101, 45, 109, 97, 116, 99, 104]), S t5.1])] (True) (by kernel_rfl) trivial ?_
      clear hk; intro a hk
      refine st_lit tabOK hk ho #[S ([105, 102, 45, 110, 111, 110, 101, 45, 109, 97, 116, 99, 104]), S t5.1] 31 2 1 58 (by kernel_rfl) ?_
      clear hk ho; intro a o26 w h27 hk ho
      replace ho : Ows [] w0 w [.row 0 31 2 (.slice o26 (([([105, 102, 45, 110, 111, 110, 101, 45, 109, 97, 116, 99, 104], t5.1)] : List (Str × Str)).length) 1) (([([105, 102, 45, 110, 111, 110, 101, 45, 109, 97, 116, 99, 104], t5.1)] : List (Str × Str)).length) (([([105, 102, 45, 110, 111, 110, 101, 45, 109, 97, 116, 99, 104], t5.1)] : List (Str × Str)).flatMap encT31), .row 0 31 2 (.slice o23 (([([101, 116, 97, 103], t5.1), ([108, 97, 115, 116, 45, 109, 111, 100, 105, 102, 105, 101, 100], t7.1)] : List (Str × Str)).length) 2) (([([101, 116, 97, 103], t5.1), ([108, 97, 115, 116, 45, 109, 111, 100, 105, 102, 105, 101, 100], t7.1)] : List (Str × Str)).length) (([([101, 116, 97, 103], t5.1), ([108, 97, 115, 116, 45, 109, 111, 100, 105, 102, 105, 101, 100], t7.1)] : List (Str × Str)).flatMap encT31), .blk b2 (.cells #[I p1_0, I p1_1] 24 (0, 0)), .blk b1 (.cells #[.bool p0_0, S p0_1] 23 (0, 0))] := ho
      replace hk : Kn 98 a [(2, .pointer (some ⟨b1, 0, none⟩)), (3, .pointer (some ⟨b2, 0, none⟩)), (5, .bool t3), (8, S t7.1), (10, S t9.1), (12, .slice o23 (([([101, 116, 97, 103], t5.1), ([108, 97, 115, 116, 45, 109, 111, 100, 105, 102, 105, 101, 100], t7.1)] : List (Str × Str)).length) 2), (58, .slice o26 (([([105, 102, 45, 110, 111, 110, 101, 45, 109, 97, 116, 99, 104], t5.1)] : List (Str × Str)).length) 1)] := hk.to [2, 3, 5, 8, 10, 12, 58] _ (by kernel_rfl)
      refine st_pure tabOK hk [3] [4, 5] [2, 3, 5, 8, 10, 12, 58, 59] [(2, .pointer (some ⟨b1, 0, none⟩)), (3, .pointer (some ⟨b2, 0, none⟩)), (5, .bool t3), (8, S t7.1), (10, S t9.1), (12, .slice o23 (([([101, 116, 97, 103], t5.1), ([108, 97, 115, 116, 45, 109, 111, 100, 105, 102, 105, 101, 100], t7.1)] : List (Str × Str)).length) 2), (58, .slice o26 (([([105, 102, 45, 110, 111, 110, 101, 45, 109, 97, 116, 99, 104], t5.1)] : List (Str × Str)).length) 1), (59, .slice o23 (([([101, 116, 97, 103], t5.1), ([108, 97, 115, 116, 45, 109, 111, 100, 105, 102, 105, 101, 100], t7.1)] : List (Str × Str)).length) 2)] (True) (by kernel_rfl) trivial ?_
      clear hk; intro a hk
      obtain ⟨t29, h30, H⟩ := Option.bind_eq_some_iff.1 H
      refine st_call hk 7 [.slice o26 (([([105, 102, 45, 110, 111, 110, 101, 45, 109, 97, 116, 99, 104], t5.1)] : List (Str × Str)).length) 1, .slice o23 (([([101, 116, 97, 103], t5.1), ([108, 97, 115, 116, 45, 109, 111, 100, 105, 102, 105, 101, 100], t7.1)] : List (Str × Str)).length) 2] (some 60) enters7 (by kernel_rfl) (etag_Held.ok K  ([([105, 102, 45, 110, 111, 110, 101, 45, 109, 97, 116, 99, 104], t5.1)] : List (Str × Str)) ([([101, 116, 97, 103], t5.1), ([108, 97, 115, 116, 45, 109, 111, 100, 105, 102, 105, 101, 100], t7.1)] : List (Str × Str)) t29 h30 w o26 1 (ho.rd 0 rfl) (ho.le 0 rfl) o23 2 (ho.rd 1 rfl) (ho.le 1 rfl)) ?_
      clear hk; rintro a u w ⟨rfl, ho'⟩ hk
      replace ho : Ows [] w0 w [.row 0 31 2 (.slice o26 (([([105, 102, 45, 110, 111, 110, 101, 45, 109, 97, 116, 99, 104], t5.1)] : List (Str × Str)).length) 1) (([([105, 102, 45, 110, 111, 110, 101, 45, 109, 97, 116, 99, 104], t5.1)] : List (Str × Str)).length) (([([105, 102, 45, 110, 111, 110, 101, 45, 109, 97, 116, 99, 104], t5.1)] : List (Str × Str)).flatMap encT31), .row 0 31 2 (.slice o23 (([([101, 116, 97, 103], t5.1), ([108, 97, 115, 116, 45, 109, 111, 100, 105, 102, 105, 101, 100], t7.1)] : List (Str × Str)).length) 2) (([([101, 116, 97, 103], t5.1), ([108, 97, 115, 116, 45, 109, 111, 100, 105, 102, 105, 101, 100], t7.1)] : List (Str × Str)).length) (([([101, 116, 97, 103], t5.1), ([108, 97, 115, 116, 45, 109, 111, 100, 105, 102, 105, 101, 100], t7.1)] : List (Str × Str)).flatMap encT31), .blk b2 (.cells #[I p1_0, I p1_1] 24 (0, 0)), .blk b1 (.cells #[.bool p0_0, S p0_1] 23 (0, 0))] := ho.call ho'; clear ho'
      refine st_pure tabOK hk [5] [] [2, 3, 5, 8, 10, 12, 13] [(2, .pointer (some ⟨b1, 0, none⟩)), (3, .pointer (some ⟨b2, 0, none⟩)), (5, .bool t3), (8, S t7.1), (10, S t9.1), (12, .slice o23 (([([101, 116, 97, 103], t5.1), ([108, 97, 115, 116, 45, 109, 111, 100, 105, 102, 105, 101, 100], t7.1)] : List (Str × Str)).length) 2), (13, .bool t29)] (True) (by kernel_rfl) trivial ?_
      clear hk; intro a hk
      refine st_done ?_
      refine st_seq (C3 [1, 1, 1, 1, 1, 1, 1, 1, 0]) (C3 [1, 1, 1, 1, 1, 1, 1, 1, 1]) (by kernel_rfl) ?_
      refine st_region 9 (opsOf (C3 [1, 1, 1, 1, 1, 1, 1, 1, 0])) [0, 1, 2, 3, 4, 5] (by kernel_rfl) (by kernel_rfl) ?_
      refine st_pure tabOK hk [0, 1] [2, 3, 4, 5] [2, 3, 5, 8, 12, 13, 62] [(2, .pointer (some ⟨b1, 0, none⟩)), (3, .pointer (some ⟨b2, 0, none⟩)), (5, .bool t3), (8, S t7.1), (12, .slice o23 (([([101, 116, 97, 103], t5.1), ([108, 97, 115, 116, 45, 109, 111, 100, 105, 102, 105, 101, 100], t7.1)] : List (Str × Str)).length) 2), (13, .bool t29), (62, .agg #[S ([105, 102, 45, 109, 111, 100, 105, 102, 105, 101, 100, 45, 115, 105, 110, 99, 101]), S t9.1])] (True) (by kernel_rfl) trivial ?_
      clear hk; intro a hk
      refine st_lit tabOK hk ho #[S ([105, 102, 45, 109, 111, 100, 105, 102, 105, 101, 100, 45, 115, 105, 110, 99, 101]), S t9.1] 31 2 1 63 (by kernel_rfl) ?_
      clear hk ho; intro a o31 w h32 hk ho
      replace ho : Ows [] w0 w [.row 0 31 2 (.slice o31 (([([105, 102, 45, 109, 111, 100, 105, 102, 105, 101, 100, 45, 115, 105, 110, 99, 101], t9.1)] : List (Str × Str)).length) 1) (([([105, 102, 45, 109, 111, 100, 105, 102, 105, 101, 100, 45, 115, 105, 110, 99, 101], t9.1)] : List (Str × Str)).length) (([([105, 102, 45, 109, 111, 100, 105, 102, 105, 101, 100, 45, 115, 105, 110, 99, 101], t9.1)] : List (Str × Str)).flatMap encT31), .row 0 31 2 (.slice o26 (([([105, 102, 45, 110, 111, 110, 101, 45, 109, 97, 116, 99, 104], t5.1)] : List (Str × Str)).length) 1) (([([105, 102, 45, 110, 111, 110, 101, 45, 109, 97, 116, 99, 104], t5.1)] : List (Str × Str)).length) (([([105, 102, 45, 110, 111, 110, 101, 45, 109, 97, 116, 99, 104], t5.1)] : List (Str × Str)).flatMap encT31), .row 0 31 2 (.slice o23 (([([101, 116, 97, 103], t5.1), ([108, 97, 115, 116, 45, 109, 111, 100, 105, 102, 105, 101, 100], t7.1)] : List (Str × Str)).length) 2) (([([101, 116, 97, 103], t5.1), ([108, 97, 115, 116, 45, 109, 111, 100, 105, 102, 105, 101, 100], t7.1)] : List (Str × Str)).length) (([([101, 116, 97, 103], t5.1), ([108, 97, 115, 116, 45, 109, 111, 100, 105, 102, 105, 101, 100], t7.1)] : List (Str × Str)).flatMap encT31), .blk b2 (.cells #[I p1_0, I p1_1] 24 (0, 0)), .blk b1 (.cells #[.bool p0_0, S p0_1] 23 (0, 0))] := ho
      replace hk : Kn 98 a [(2, .pointer (some ⟨b1, 0, none⟩)), (3, .pointer (some ⟨b2, 0, none⟩)), (5, .bool t3), (8, S t7.1), (12, .slice o23 (([([101, 116, 97, 103], t5.1), ([108, 97, 115, 116, 45, 109, 111, 100, 105, 102, 105, 101, 100], t7.1)] : List (Str × Str)).length) 2), (13, .bool t29), (63, .slice o31 (([([105, 102, 45, 109, 111, 100, 105, 102, 105, 101, 100, 45, 115, 105, 110, 99, 101], t9.1)] : List (Str × Str)).length) 1)] := hk.to [2, 3, 5, 8, 12, 13, 63] _ (by kernel_rfl)
      refine st_pure tabOK hk [3] [4, 5] [2, 3, 5, 8, 12, 13, 63, 64] [(2, .pointer (some ⟨b1, 0, none⟩)), (3, .pointer (some ⟨b2, 0, none⟩)), (5, .bool t3), (8, S t7.1), (12, .slice o23 (([([101, 116, 97, 103], t5.1), ([108, 97, 115, 116, 45, 109, 111, 100, 105, 102, 105, 101, 100], t7.1)] : List (Str × Str)).length) 2), (13, .bool t29), (63, .slice o31 (([([105, 102, 45, 109, 111, 100, 105, 102, 105, 101, 100, 45, 115, 105, 110, 99, 101], t9.1)] : List (Str × Str)).length) 1), (64, .slice o23 (([([101, 116, 97, 103], t5.1), ([108, 97, 115, 116, 45, 109, 111, 100, 105, 102, 105, 101, 100], t7.1)] : List (Str × Str)).length) 2)] (True) (by kernel_rfl) trivial ?_
      clear hk; intro a hk
      obtain ⟨t34, h35, H⟩ := Option.bind_eq_some_iff.1 H
      refine st_call hk 7 [.slice o31 (([([105, 102, 45, 109, 111, 100, 105, 102, 105, 101, 100, 45, 115, 105, 110, 99, 101], t9.1)] : List (Str × Str)).length) 1, .slice o23 (([([101, 116, 97, 103], t5.1), ([108, 97, 115, 116, 45, 109, 111, 100, 105, 102, 105, 101, 100], t7.1)] : List (Str × Str)).length) 2] (some 65) enters7 (by kernel_rfl) (etag_Held.ok K  ([([105, 102, 45, 109, 111, 100, 105, 102, 105, 101, 100, 45, 115, 105, 110, 99, 101], t9.1)] : List (Str × Str)) ([([101, 116, 97, 103], t5.1), ([108, 97, 115, 116, 45, 109, 111, 100, 105, 102, 105, 101, 100], t7.1)] : List (Str × Str)) t34 h35 w o31 1 (ho.rd 0 rfl) (ho.le 0 rfl) o23 2 (ho.rd 2 rfl) (ho.le 2 rfl)) ?_
      clear hk; rintro a u w ⟨rfl, ho'⟩ hk
      replace ho : Ows [] w0 w [.row 0 31 2 (.slice o31 (([([105, 102, 45, 109, 111, 100, 105, 102, 105, 101, 100, 45, 115, 105, 110, 99, 101], t9.1)] : List (Str × Str)).length) 1) (([([105, 102, 45, 109, 111, 100, 105, 102, 105, 101, 100, 45, 115, 105, 110, 99, 101], t9.1)] : List (Str × Str)).length) (([([105, 102, 45, 109, 111, 100, 105, 102, 105, 101, 100, 45, 115, 105, 110, 99, 101], t9.1)] : List (Str × Str)).flatMap encT31), .row 0 31 2 (.slice o26 (([([105, 102, 45, 110, 111, 110, 101, 45, 109, 97, 116, 99, 104], t5.1)] : List (Str × Str)).length) 1) (([([105, 102, 45, 110, 111, 110, 101, 45, 109, 97, 116, 99, 104], t5.1)] : List (Str × Str)).length) (([([105, 102, 45, 110, 111, 110, 101, 45, 109, 97, 116, 99, 104], t5.1)] : List (Str × Str)).flatMap encT31), .row 0 31 2 (.slice o23 (([([101, 116, 97, 103], t5.1), ([108, 97, 115, 116, 45, 109, 111, 100, 105, 102, 105, 101, 100], t7.1)] : List (Str × Str)).length) 2) (([([101, 116, 97, 103], t5.1), ([108, 97, 115, 116, 45, 109, 111, 100, 105, 102, 105, 101, 100], t7.1)] : List (Str × Str)).length) (([([101, 116, 97, 103], t5.1), ([108, 97, 115, 116, 45, 109, 111, 100, 105, 102, 105, 101, 100], t7.1)] : List (Str × Str)).flatMap encT31), .blk b2 (.cells #[I p1_0, I p1_1] 24 (0, 0)), .blk b1 (.cells #[.bool p0_0, S p0_1] 23 (0, 0))] := ho.call ho'; clear ho'
      refine st_pure tabOK hk [5] [] [2, 3, 5, 8, 12, 13, 14] [(2, .pointer (some ⟨b1, 0, none⟩)), (3, .pointer (some ⟨b2, 0, none⟩)), (5, .bool t3), (8, S t7.1), (12, .slice o23 (([([101, 116, 97, 103], t5.1), ([108, 97, 115, 116, 45, 109, 111, 100, 105, 102, 105, 101, 100], t7.1)] : List (Str × Str)).length) 2), (13, .bool t29), (14, .bool t34)] (True) (by kernel_rfl) trivial ?_
      clear hk; intro a hk
      refine st_done ?_
      refine st_seq (C3 [1, 1, 1, 1, 1, 1, 1, 1, 1, 0]) (C3 [1, 1, 1, 1, 1, 1, 1, 1, 1, 1]) (by kernel_rfl) ?_
      refine st_region 10 (opsOf (C3 [1, 1, 1, 1, 1, 1, 1, 1, 1, 0])) [0, 1, 2, 3, 4, 5] (by kernel_rfl) (by kernel_rfl) ?_
      refine st_pure tabOK hk [0] [1, 2, 3, 4, 5] [3, 5, 8, 12, 13, 14, 66] [(3, .pointer (some ⟨b2, 0, none⟩)), (5, .bool t3), (8, S t7.1), (12, .slice o23 (([([101, 116, 97, 103], t5.1), ([108, 97, 115, 116, 45, 109, 111, 100, 105, 102, 105, 101, 100], t7.1)] : List (Str × Str)).length) 2), (13, .bool t29), (14, .bool t34), (66, .pointer (some ⟨b1, 1, none⟩))] (((some ⟨b1, 0, none⟩ : Option Addr).isSome = true) ∧ True) (by kernel_rfl) ⟨rfl, trivial⟩ ?_
      clear hk; intro a hk
      refine st_load1 tabOK hk 9 (some ⟨b1, 1, none⟩) 67 (by kernel_rfl) (by kernel_rfl) (S p0_1) (ho.cell 4 rfl rfl) ?_
      clear hk; intro a hk
      have h36 : ([34]).length + p0_1.length ≤ maxI := by
        by_cases h36 : ([34]).length + p0_1.length ≤ maxI
        · exact h36
        · rw [if_neg h36] at H; cases H
      rw [if_pos h36] at H
      have h37 : (([34]) ++ p0_1).length + ([120, 34]).length ≤ maxI := by
        by_cases h37 : (([34]) ++ p0_1).length + ([120, 34]).length ≤ maxI
        · exact h37
        · rw [if_neg h37] at H; cases H
      rw [if_pos h37] at H
      refine st_pure tabOK hk [2, 3] [4, 5] [3, 5, 8, 12, 13, 14, 69] [(3, .pointer (some ⟨b2, 0, none⟩)), (5, .bool t3), (8, S t7.1), (12, .slice o23 (([([101, 116, 97, 103], t5.1), ([108, 97, 115, 116, 45, 109, 111, 100, 105, 102, 105, 101, 100], t7.1)] : List (Str × Str)).length) 2), (13, .bool t29), (14, .bool t34), (69, S ((([34]) ++ p0_1) ++ ([120, 34])))] (([34]).length + p0_1.length ≤ maxI ∧ ((([34]) ++ p0_1).length + ([120, 34]).length ≤ maxI ∧ True)) (by kernel_rfl) ⟨h36, ⟨h37, trivial⟩⟩ ?_
      clear hk; intro a hk
      obtain ⟨t38, h39, H⟩ := Option.bind_eq_some_iff.1 H
      refine st_call hk 8 [.slice none 0 0, S ([105, 102, 45, 110, 111, 110, 101, 45, 109, 97, 116, 99, 104]), S ((([34]) ++ p0_1) ++ ([120, 34]))] (some 70) enters8 (by kernel_rfl) (head_With.ok  ([]) ([105, 102, 45, 110, 111, 110, 101, 45, 109, 97, 116, 99, 104]) ((([34]) ++ p0_1) ++ ([120, 34])) t38 h39 w none 0 (Rd.nil _) (Nat.le_refl 0)) ?_
      clear hk; rintro a u w ⟨o40, c41, rfl, ho'⟩ hk
      replace ho : Ows [] w0 w [.row 0 31 2 (.slice o40 t38.length c41) t38.length (t38.flatMap encT31), .row 0 31 2 (.slice o31 (([([105, 102, 45, 109, 111, 100, 105, 102, 105, 101, 100, 45, 115, 105, 110, 99, 101], t9.1)] : List (Str × Str)).length) 1) (([([105, 102, 45, 109, 111, 100, 105, 102, 105, 101, 100, 45, 115, 105, 110, 99, 101], t9.1)] : List (Str × Str)).length) (([([105, 102, 45, 109, 111, 100, 105, 102, 105, 101, 100, 45, 115, 105, 110, 99, 101], t9.1)] : List (Str × Str)).flatMap encT31), .row 0 31 2 (.slice o26 (([([105, 102, 45, 110, 111, 110, 101, 45, 109, 97, 116, 99, 104], t5.1)] : List (Str × Str)).length) 1) (([([105, 102, 45, 110, 111, 110, 101, 45, 109, 97, 116, 99, 104], t5.1)] : List (Str × Str)).length) (([([105, 102, 45, 110, 111, 110, 101, 45, 109, 97, 116, 99, 104], t5.1)] : List (Str × Str)).flatMap encT31), .row 0 31 2 (.slice o23 (([([101, 116, 97, 103], t5.1), ([108, 97, 115, 116, 45, 109, 111, 100, 105, 102, 105, 101, 100], t7.1)] : List (Str × Str)).length) 2) (([([101, 116, 97, 103], t5.1), ([108, 97, 115, 116, 45, 109, 111, 100, 105, 102, 105, 101, 100], t7.1)] : List (Str × Str)).length) (([([101, 116, 97, 103], t5.1), ([108, 97, 115, 116, 45, 109, 111, 100, 105, 102, 105, 101, 100], t7.1)] : List (Str × Str)).flatMap encT31), .blk b2 (.cells #[I p1_0, I p1_1] 24 (0, 0)), .blk b1 (.cells #[.bool p0_0, S p0_1] 23 (0, 0))] := ho.call ho'; clear ho'
      refine st_pure tabOK hk [5] [] [3, 5, 8, 12, 13, 14, 15] [(3, .pointer (some ⟨b2, 0, none⟩)), (5, .bool t3), (8, S t7.1), (12, .slice o23 (([([101, 116, 97, 103], t5.1), ([108, 97, 115, 116, 45, 109, 111, 100, 105, 102, 105, 101, 100], t7.1)] : List (Str × Str)).length) 2), (13, .bool t29), (14, .bool t34), (15, .slice o40 t38.length c41)] (True) (by kernel_rfl) trivial ?_
      clear hk; intro a hk
      refine st_done ?_
      refine st_seq (C3 [1, 1, 1, 1, 1, 1, 1, 1, 1, 1, 0]) (C3 [1, 1, 1, 1, 1, 1, 1, 1, 1, 1, 1]) (by kernel_rfl) ?_
      refine st_region 11 (opsOf (C3 [1, 1, 1, 1, 1, 1, 1, 1, 1, 1, 0])) [0, 1, 2, 3, 4, 5] (by kernel_rfl) (by kernel_rfl) ?_
      refine st_pure tabOK hk [0, 1] [2, 3, 4, 5] [3, 5, 12, 13, 14, 71, 72] [(3, .pointer (some ⟨b2, 0, none⟩)), (5, .bool t3), (12, .slice o23 (([([101, 116, 97, 103], t5.1), ([108, 97, 115, 116, 45, 109, 111, 100, 105, 102, 105, 101, 100], t7.1)] : List (Str × Str)).length) 2), (13, .bool t29), (14, .bool t34), (71, .slice o40 t38.length c41), (72, S t7.1)] (True) (by kernel_rfl) trivial ?_
      clear hk; intro a hk
      obtain ⟨t43, h44, H⟩ := Option.bind_eq_some_iff.1 H
      refine st_call hk 8 [.slice o40 t38.length c41, S ([105, 102, 45, 109, 111, 100, 105, 102, 105, 101, 100, 45, 115, 105, 110, 99, 101]), S t7.1] (some 73) enters8 (by kernel_rfl) (head_With.ok  t38 ([105, 102, 45, 109, 111, 100, 105, 102, 105, 101, 100, 45, 115, 105, 110, 99, 101]) t7.1 t43 h44 w o40 c41 (ho.rd 0 rfl) (ho.le 0 rfl)) ?_
      clear hk; rintro a u w ⟨o45, c46, rfl, ho'⟩ hk
      replace ho : Ows [] w0 w [.row 0 31 2 (.slice o45 t43.length c46) t43.length (t43.flatMap encT31), .row 0 31 2 (.slice o40 t38.length c41) t38.length (t38.flatMap encT31), .row 0 31 2 (.slice o31 (([([105, 102, 45, 109, 111, 100, 105, 102, 105, 101, 100, 45, 115, 105, 110, 99, 101], t9.1)] : List (Str × Str)).length) 1) (([([105, 102, 45, 109, 111, 100, 105, 102, 105, 101, 100, 45, 115, 105, 110, 99, 101], t9.1)] : List (Str × Str)).length) (([([105, 102, 45, 109, 111, 100, 105, 102, 105, 101, 100, 45, 115, 105, 110, 99, 101], t9.1)] : List (Str × Str)).flatMap encT31), .row 0 31 2 (.slice o26 (([([105, 102, 45, 110, 111, 110, 101, 45, 109, 97, 116, 99, 104], t5.1)] : List (Str × Str)).length) 1) (([([105, 102, 45, 110, 111, 110, 101, 45, 109, 97, 116, 99, 104], t5.1)] : List (Str × Str)).length) (([([105, 102, 45, 110, 111, 110, 101, 45, 109, 97, 116, 99, 104], t5.1)] : List (Str × Str)).flatMap encT31), .row 0 31 2 (.slice o23 (([([101, 116, 97, 103], t5.1), ([108, 97, 115, 116, 45, 109, 111, 100, 105, 102, 105, 101, 100], t7.1)] : List (Str × Str)).length) 2) (([([101, 116, 97, 103], t5.1), ([108, 97, 115, 116, 45, 109, 111, 100, 105, 102, 105, 101, 100], t7.1)] : List (Str × Str)).length) (([([101, 116, 97, 103], t5.1), ([108, 97, 115, 116, 45, 109, 111, 100, 105, 102, 105, 101, 100], t7.1)] : List (Str × Str)).flatMap encT31), .blk b2 (.cells #[I p1_0, I p1_1] 24 (0, 0)), .blk b1 (.cells #[.bool p0_0, S p0_1] 23 (0, 0))] := ho.call ho'; clear ho'
      refine st_pure tabOK hk [3] [4, 5] [3, 5, 12, 13, 14, 73, 74] [(3, .pointer (some ⟨b2, 0, none⟩)), (5, .bool t3), (12, .slice o23 (([([101, 116, 97, 103], t5.1), ([108, 97, 115, 116, 45, 109, 111, 100, 105, 102, 105, 101, 100], t7.1)] : List (Str × Str)).length) 2), (13, .bool t29), (14, .bool t34), (73, .slice o45 t43.length c46), (74, .slice o23 (([([101, 116, 97, 103], t5.1), ([108, 97, 115, 116, 45, 109, 111, 100, 105, 102, 105, 101, 100], t7.1)] : List (Str × Str)).length) 2)] (True) (by kernel_rfl) trivial ?_
      clear hk; intro a hk
      obtain ⟨t48, h49, H⟩ := Option.bind_eq_some_iff.1 H
      refine st_call hk 7 [.slice o45 t43.length c46, .slice o23 (([([101, 116, 97, 103], t5.1), ([108, 97, 115, 116, 45, 109, 111, 100, 105, 102, 105, 101, 100], t7.1)] : List (Str × Str)).length) 2] (some 75) enters7 (by kernel_rfl) (etag_Held.ok K  t43 ([([101, 116, 97, 103], t5.1), ([108, 97, 115, 116, 45, 109, 111, 100, 105, 102, 105, 101, 100], t7.1)] : List (Str × Str)) t48 h49 w o45 c46 (ho.rd 0 rfl) (ho.le 0 rfl) o23 2 (ho.rd 4 rfl) (ho.le 4 rfl)) ?_
      clear hk; rintro a u w ⟨rfl, ho'⟩ hk
      replace ho : Ows [] w0 w [.row 0 31 2 (.slice o45 t43.length c46) t43.length (t43.flatMap encT31), .row 0 31 2 (.slice o40 t38.length c41) t38.length (t38.flatMap encT31), .row 0 31 2 (.slice o31 (([([105, 102, 45, 109, 111, 100, 105, 102, 105, 101, 100, 45, 115, 105, 110, 99, 101], t9.1)] : List (Str × Str)).length) 1) (([([105, 102, 45, 109, 111, 100, 105, 102, 105, 101, 100, 45, 115, 105, 110, 99, 101], t9.1)] : List (Str × Str)).length) (([([105, 102, 45, 109, 111, 100, 105, 102, 105, 101, 100, 45, 115, 105, 110, 99, 101], t9.1)] : List (Str × Str)).flatMap encT31), .row 0 31 2 (.slice o26 (([([105, 102, 45, 110, 111, 110, 101, 45, 109, 97, 116, 99, 104], t5.1)] : List (Str × Str)).length) 1) (([([105, 102, 45, 110, 111, 110, 101, 45, 109, 97, 116, 99, 104], t5.1)] : List (Str × Str)).length) (([([105, 102, 45, 110, 111, 110, 101, 45, 109, 97, 116, 99, 104], t5.1)] : List (Str × Str)).flatMap encT31), .row 0 31 2 (.slice o23 (([([101, 116, 97, 103], t5.1), ([108, 97, 115, 116, 45, 109, 111, 100, 105, 102, 105, 101, 100], t7.1)] : List (Str × Str)).length) 2) (([([101, 116, 97, 103], t5.1), ([108, 97, 115, 116, 45, 109, 111, 100, 105, 102, 105, 101, 100], t7.1)] : List (Str × Str)).length) (([([101, 116, 97, 103], t5.1), ([108, 97, 115, 116, 45, 109, 111, 100, 105, 102, 105, 101, 100], t7.1)] : List (Str × Str)).flatMap encT31), .blk b2 (.cells #[I p1_0, I p1_1] 24 (0, 0)), .blk b1 (.cells #[.bool p0_0, S p0_1] 23 (0, 0))] := ho.call ho'; clear ho'
      refine st_pure tabOK hk [5] [] [3, 5, 12, 13, 14, 16] [(3, .pointer (some ⟨b2, 0, none⟩)), (5, .bool t3), (12, .slice o23 (([([101, 116, 97, 103], t5.1), ([108, 97, 115, 116, 45, 109, 111, 100, 105, 102, 105, 101, 100], t7.1)] : List (Str × Str)).length) 2), (13, .bool t29), (14, .bool t34), (16, .bool t48)] (True) (by kernel_rfl) trivial ?_
      clear hk; intro a hk
      refine st_done ?_
      refine st_seq (C3 [1, 1, 1, 1, 1, 1, 1, 1, 1, 1, 1, 0]) (C3 [1, 1, 1, 1, 1, 1, 1, 1, 1, 1, 1, 1]) (by kernel_rfl) ?_
      refine st_region 12 (opsOf (C3 [1, 1, 1, 1, 1, 1, 1, 1, 1, 1, 1, 0])) [0, 1, 2, 3, 4, 5, 6, 7, 8, 9, 10, 11, 12, 13, 14, 15, 16, 17, 18, 19, 20, 21, 22] (by kernel_rfl) (by kernel_rfl) ?_
      refine st_pure tabOK hk [0, 1] [2, 3, 4, 5, 6, 7, 8, 9, 10, 11, 12, 13, 14, 15, 16, 17, 18, 19, 20, 21, 22] [3, 12, 13, 14, 16, 77] [(3, .pointer (some ⟨b2, 0, none⟩)), (12, .slice o23 (([([101, 116, 97, 103], t5.1), ([108, 97, 115, 116, 45, 109, 111, 100, 105, 102, 105, 101, 100], t7.1)] : List (Str × Str)).length) 2), (13, .bool t29), (14, .bool t34), (16, .bool t48), (77, .bool t3)] (True) (by kernel_rfl) trivial ?_
      clear hk; intro a hk
      obtain ⟨m50, HX, H⟩ := Option.bind_eq_some_iff.1 H
      refine cut_ops (fun a w => Kn 98 a [(4, .bool m50)] ∧ Ows [] w0 w []) ?_ ?_
      · intro J; clear H; have H := HX; clear HX
        rcases Bool.eq_false_or_eq_true (t3) with h51 | h51
        ·
          rw [h51] at hk
          have h52 : t3 = true := h51
          rw [if_pos h52] at H
          refine st_pure tabOK hk [2, 3, 4] [5, 6, 7, 8, 9, 10, 11, 12, 13, 14, 15, 16, 17, 18, 19, 20, 21, 22] [3, 12, 14, 16, 80] [(3, .pointer (some ⟨b2, 0, none⟩)), (12, .slice o23 (([([101, 116, 97, 103], t5.1), ([108, 97, 115, 116, 45, 109, 111, 100, 105, 102, 105, 101, 100], t7.1)] : List (Str × Str)).length) 2), (14, .bool t34), (16, .bool t48), (80, .bool t29)] (True) (by kernel_rfl) trivial ?_
          clear hk; intro a hk
          rcases Bool.eq_false_or_eq_true (t29) with h53 | h53
          ·
            rw [h53] at hk
            have h54 : t29 = true := h53
            rw [if_pos h54] at H
            refine st_pure tabOK hk [5, 6] [7, 8, 9, 10, 11, 12, 13, 14, 15, 16, 17, 18, 19, 20, 21, 22] [3, 12, 16, 80, 81, 82] [(3, .pointer (some ⟨b2, 0, none⟩)), (12, .slice o23 (([([101, 116, 97, 103], t5.1), ([108, 97, 115, 116, 45, 109, 111, 100, 105, 102, 105, 101, 100], t7.1)] : List (Str × Str)).length) 2), (16, .bool t48), (80, .bool true), (81, .bool t34), (82, .pointer (some ⟨b2, 0, none⟩))] (((0 : Int) ≤ 0 ∧ (0 : Int) < 2) ∧ True) (by kernel_rfl) ⟨(by decide), trivial⟩ ?_
            clear hk; intro a hk
            refine st_load1 tabOK hk 2 (some ⟨b2, 0, none⟩) 83 (by kernel_rfl) (by kernel_rfl) (I p1_0) (ho.cell 5 rfl rfl) ?_
            clear hk; intro a hk
            refine st_pure tabOK hk [8] [9, 10, 11, 12, 13, 14, 15, 16, 17, 18, 19, 20, 21, 22] [12, 16, 80, 81, 83, 84] [(12, .slice o23 (([([101, 116, 97, 103], t5.1), ([108, 97, 115, 116, 45, 109, 111, 100, 105, 102, 105, 101, 100], t7.1)] : List (Str × Str)).length) 2), (16, .bool t48), (80, .bool true), (81, .bool t34), (83, I p1_0), (84, .pointer (some ⟨b2, 1, none⟩))] (((0 : Int) ≤ 1 ∧ (1 : Int) < 2) ∧ True) (by kernel_rfl) ⟨(by decide), trivial⟩ ?_
            clear hk; intro a hk
            refine st_load1 tabOK hk 2 (some ⟨b2, 1, none⟩) 85 (by kernel_rfl) (by kernel_rfl) (I p1_1) (ho.cell 5 rfl rfl) ?_
            clear hk; intro a hk
            refine st_pure tabOK hk [10, 11, 12, 13] [14, 15, 16, 17, 18, 19, 20, 21, 22] [12, 16, 89] [(12, .slice o23 (([([101, 116, 97, 103], t5.1), ([108, 97, 115, 116, 45, 109, 111, 100, 105, 102, 105, 101, 100], t7.1)] : List (Str × Str)).length) 2), (16, .bool t48), (89, .bool (t34 == (decide (p1_0 ≤ p1_1))))] (True) (by kernel_rfl) trivial ?_
            clear hk; intro a hk
            rcases Bool.eq_false_or_eq_true (t34 == (decide (p1_0 ≤ p1_1))) with h55 | h55
            ·
              rw [h55] at hk
              have h56 : (t34 == (decide (p1_0 ≤ p1_1))) = true := h55
              rw [if_pos h56] at H
              refine st_pure tabOK hk [14, 15, 16, 17] [18, 19, 20, 21, 22] [12, 93] [(12, .slice o23 (([([101, 116, 97, 103], t5.1), ([108, 97, 115, 116, 45, 109, 111, 100, 105, 102, 105, 101, 100], t7.1)] : List (Str × Str)).length) 2), (93, .bool (!t48))] (True) (by kernel_rfl) trivial ?_
              clear hk; intro a hk
              rcases Bool.eq_false_or_eq_true (!t48) with h57 | h57
              ·
                rw [h57] at hk
                have h58 : (!t48) = true := h57
                rw [if_pos h58] at H
                refine st_pure tabOK hk [18] [19, 20, 21, 22] [93, 94] [(93, .bool true), (94, .slice o23 (([([101, 116, 97, 103], t5.1), ([108, 97, 115, 116, 45, 109, 111, 100, 105, 102, 105, 101, 100], t7.1)] : List (Str × Str)).length) 2)] (True) (by kernel_rfl) trivial ?_
                clear hk; intro a hk
                obtain ⟨t59, h60, H⟩ := Option.bind_eq_some_iff.1 H
                refine st_call hk 7 [.slice none 0 0, .slice o23 (([([101, 116, 97, 103], t5.1), ([108, 97, 115, 116, 45, 109, 111, 100, 105, 102, 105, 101, 100], t7.1)] : List (Str × Str)).length) 2] (some 95) enters7 (by kernel_rfl) (etag_Held.ok K  ([]) ([([101, 116, 97, 103], t5.1), ([108, 97, 115, 116, 45, 109, 111, 100, 105, 102, 105, 101, 100], t7.1)] : List (Str × Str)) t59 h60 w none 0 (Rd.nil _) (Nat.le_refl 0) o23 2 (ho.rd 4 rfl) (ho.le 4 rfl)) ?_
                clear hk; rintro a u w ⟨rfl, ho'⟩ hk
                replace ho : Ows [] w0 w [.row 0 31 2 (.slice o45 t43.length c46) t43.length (t43.flatMap encT31), .row 0 31 2 (.slice o40 t38.length c41) t38.length (t38.flatMap encT31), .row 0 31 2 (.slice o31 (([([105, 102, 45, 109, 111, 100, 105, 102, 105, 101, 100, 45, 115, 105, 110, 99, 101], t9.1)] : List (Str × Str)).length) 1) (([([105, 102, 45, 109, 111, 100, 105, 102, 105, 101, 100, 45, 115, 105, 110, 99, 101], t9.1)] : List (Str × Str)).length) (([([105, 102, 45, 109, 111, 100, 105, 102, 105, 101, 100, 45, 115, 105, 110, 99, 101], t9.1)] : List (Str × Str)).flatMap encT31), .row 0 31 2 (.slice o26 (([([105, 102, 45, 110, 111, 110, 101, 45, 109, 97, 116, 99, 104], t5.1)] : List (Str × Str)).length) 1) (([([105, 102, 45, 110, 111, 110, 101, 45, 109, 97, 116, 99, 104], t5.1)] : List (Str × Str)).length) (([([105, 102, 45, 110, 111, 110, 101, 45, 109, 97, 116, 99, 104], t5.1)] : List (Str × Str)).flatMap encT31), .row 0 31 2 (.slice o23 (([([101, 116, 97, 103], t5.1), ([108, 97, 115, 116, 45, 109, 111, 100, 105, 102, 105, 101, 100], t7.1)] : List (Str × Str)).length) 2) (([([101, 116, 97, 103], t5.1), ([108, 97, 115, 116, 45, 109, 111, 100, 105, 102, 105, 101, 100], t7.1)] : List (Str × Str)).length) (([([101, 116, 97, 103], t5.1), ([108, 97, 115, 116, 45, 109, 111, 100, 105, 102, 105, 101, 100], t7.1)] : List (Str × Str)).flatMap encT31), .blk b2 (.cells #[I p1_0, I p1_1] 24 (0, 0)), .blk b1 (.cells #[.bool p0_0, S p0_1] 23 (0, 0))] := ho.call ho'; clear ho'
                refine st_pure tabOK hk [20, 21, 22] [] [4] [(4, .bool (!t59))] (True) (by kernel_rfl) trivial ?_
                clear hk; intro a hk
                refine st_done ?_
                replace ho : Ows [] w0 w [.row 0 31 2 (.slice o40 t38.length c41) t38.length (t38.flatMap encT31), .row 0 31 2 (.slice o31 (([([105, 102, 45, 109, 111, 100, 105, 102, 105, 101, 100, 45, 115, 105, 110, 99, 101], t9.1)] : List (Str × Str)).length) 1) (([([105, 102, 45, 109, 111, 100, 105, 102, 105, 101, 100, 45, 115, 105, 110, 99, 101], t9.1)] : List (Str × Str)).length) (([([105, 102, 45, 109, 111, 100, 105, 102, 105, 101, 100, 45, 115, 105, 110, 99, 101], t9.1)] : List (Str × Str)).flatMap encT31), .row 0 31 2 (.slice o26 (([([105, 102, 45, 110, 111, 110, 101, 45, 109, 97, 116, 99, 104], t5.1)] : List (Str × Str)).length) 1) (([([105, 102, 45, 110, 111, 110, 101, 45, 109, 97, 116, 99, 104], t5.1)] : List (Str × Str)).length) (([([105, 102, 45, 110, 111, 110, 101, 45, 109, 97, 116, 99, 104], t5.1)] : List (Str × Str)).flatMap encT31), .row 0 31 2 (.slice o23 (([([101, 116, 97, 103], t5.1), ([108, 97, 115, 116, 45, 109, 111, 100, 105, 102, 105, 101, 100], t7.1)] : List (Str × Str)).length) 2) (([([101, 116, 97, 103], t5.1), ([108, 97, 115, 116, 45, 109, 111, 100, 105, 102, 105, 101, 100], t7.1)] : List (Str × Str)).length) (([([101, 116, 97, 103], t5.1), ([108, 97, 115, 116, 45, 109, 111, 100, 105, 102, 105, 101, 100], t7.1)] : List (Str × Str)).flatMap encT31), .blk b2 (.cells #[I p1_0, I p1_1] 24 (0, 0)), .blk b1 (.cells #[.bool p0_0, S p0_1] 23 (0, 0))] := ho.erase 0
                replace ho : Ows [] w0 w [.row 0 31 2 (.slice o31 (([([105, 102, 45, 109, 111, 100, 105, 102, 105, 101, 100, 45, 115, 105, 110, 99, 101], t9.1)] : List (Str × Str)).length) 1) (([([105, 102, 45, 109, 111, 100, 105, 102, 105, 101, 100, 45, 115, 105, 110, 99, 101], t9.1)] : List (Str × Str)).length) (([([105, 102, 45, 109, 111, 100, 105, 102, 105, 101, 100, 45, 115, 105, 110, 99, 101], t9.1)] : List (Str × Str)).flatMap encT31), .row 0 31 2 (.slice o26 (([([105, 102, 45, 110, 111, 110, 101, 45, 109, 97, 116, 99, 104], t5.1)] : List (Str × Str)).length) 1) (([([105, 102, 45, 110, 111, 110, 101, 45, 109, 97, 116, 99, 104], t5.1)] : List (Str × Str)).length) (([([105, 102, 45, 110, 111, 110, 101, 45, 109, 97, 116, 99, 104], t5.1)] : List (Str × Str)).flatMap encT31), .row 0 31 2 (.slice o23 (([([101, 116, 97, 103], t5.1), ([108, 97, 115, 116, 45, 109, 111, 100, 105, 102, 105, 101, 100], t7.1)] : List (Str × Str)).length) 2) (([([101, 116, 97, 103], t5.1), ([108, 97, 115, 116, 45, 109, 111, 100, 105, 102, 105, 101, 100], t7.1)] : List (Str × Str)).length) (([([101, 116, 97, 103], t5.1), ([108, 97, 115, 116, 45, 109, 111, 100, 105, 102, 105, 101, 100], t7.1)] : List (Str × Str)).flatMap encT31), .blk b2 (.cells #[I p1_0, I p1_1] 24 (0, 0)), .blk b1 (.cells #[.bool p0_0, S p0_1] 23 (0, 0))] := ho.erase 0
                replace ho : Ows [] w0 w [.row 0 31 2 (.slice o26 (([([105, 102, 45, 110, 111, 110, 101, 45, 109, 97, 116, 99, 104], t5.1)] : List (Str × Str)).length) 1) (([([105, 102, 45, 110, 111, 110, 101, 45, 109, 97, 116, 99, 104], t5.1)] : List (Str × Str)).length) (([([105, 102, 45, 110, 111, 110, 101, 45, 109, 97, 116, 99, 104], t5.1)] : List (Str × Str)).flatMap encT31), .row 0 31 2 (.slice o23 (([([101, 116, 97, 103], t5.1), ([108, 97, 115, 116, 45, 109, 111, 100, 105, 102, 105, 101, 100], t7.1)] : List (Str × Str)).length) 2) (([([101, 116, 97, 103], t5.1), ([108, 97, 115, 116, 45, 109, 111, 100, 105, 102, 105, 101, 100], t7.1)] : List (Str × Str)).length) (([([101, 116, 97, 103], t5.1), ([108, 97, 115, 116, 45, 109, 111, 100, 105, 102, 105, 101, 100], t7.1)] : List (Str × Str)).flatMap encT31), .blk b2 (.cells #[I p1_0, I p1_1] 24 (0, 0)), .blk b1 (.cells #[.bool p0_0, S p0_1] 23 (0, 0))] := ho.erase 0
                replace ho : Ows [] w0 w [.row 0 31 2 (.slice o23 (([([101, 116, 97, 103], t5.1), ([108, 97, 115, 116, 45, 109, 111, 100, 105, 102, 105, 101, 100], t7.1)] : List (Str × Str)).length) 2) (([([101, 116, 97, 103], t5.1), ([108, 97, 115, 116, 45, 109, 111, 100, 105, 102, 105, 101, 100], t7.1)] : List (Str × Str)).length) (([([101, 116, 97, 103], t5.1), ([108, 97, 115, 116, 45, 109, 111, 100, 105, 102, 105, 101, 100], t7.1)] : List (Str × Str)).flatMap encT31), .blk b2 (.cells #[I p1_0, I p1_1] 24 (0, 0)), .blk b1 (.cells #[.bool p0_0, S p0_1] 23 (0, 0))] := ho.erase 0
                replace ho : Ows [] w0 w [.blk b2 (.cells #[I p1_0, I p1_1] 24 (0, 0)), .blk b1 (.cells #[.bool p0_0, S p0_1] 23 (0, 0))] := ho.erase 0
                replace ho : Ows [] w0 w [.blk b1 (.cells #[.bool p0_0, S p0_1] 23 (0, 0))] := ho.erase 0
                replace ho : Ows [] w0 w [] := ho.erase 0
                obtain rfl := Option.some.inj H
                exact J a w ⟨hk.to [4] _ (by kernel_rfl), ho⟩
              ·
                rw [h57] at hk
                have h61 : ¬ ((!t48) = true) := ne_true_of_eq_false h57
                rw [if_neg h61] at H
                refine st_pure tabOK hk [18, 19, 20, 21, 22] [] [4] [(4, .bool false)] (True) (by kernel_rfl) trivial ?_
                clear hk; intro a hk
                refine st_done ?_
                replace ho : Ows [] w0 w [.row 0 31 2 (.slice o40 t38.length c41) t38.length (t38.flatMap encT31), .row 0 31 2 (.slice o31 (([([105, 102, 45, 109, 111, 100, 105, 102, 105, 101, 100, 45, 115, 105, 110, 99, 101], t9.1)] : List (Str × Str)).length) 1) (([([105, 102, 45, 109, 111, 100, 105, 102, 105, 101, 100, 45, 115, 105, 110, 99, 101], t9.1)] : List (Str × Str)).length) (([([105, 102, 45, 109, 111, 100, 105, 102, 105, 101, 100, 45, 115, 105, 110, 99, 101], t9.1)] : List (Str × Str)).flatMap encT31), .row 0 31 2 (.slice o26 (([([105, 102, 45, 110, 111, 110, 101, 45, 109, 97, 116, 99, 104], t5.1)] : List (Str × Str)).length) 1) (([([105, 102, 45, 110, 111, 110, 101, 45, 109, 97, 116, 99, 104], t5.1)] : List (Str × Str)).length) (([([105, 102, 45, 110, 111, 110, 101, 45, 109, 97, 116, 99, 104], t5.1)] : List (Str × Str)).flatMap encT31), .row 0 31 2 (.slice o23 (([([101, 116, 97, 103], t5.1), ([108, 97, 115, 116, 45, 109, 111, 100, 105, 102, 105, 101, 100], t7.1)] : List (Str × Str)).length) 2) (([([101, 116, 97, 103], t5.1), ([108, 97, 115, 116, 45, 109, 111, 100, 105, 102, 105, 101, 100], t7.1)] : List (Str × Str)).length) (([([101, 116, 97, 103], t5.1), ([108, 97, 115, 116, 45, 109, 111, 100, 105, 102, 105, 101, 100], t7.1)] : List (Str × Str)).flatMap encT31), .blk b2 (.cells #[I p1_0, I p1_1] 24 (0, 0)), .blk b1 (.cells #[.bool p0_0, S p0_1] 23 (0, 0))] := ho.erase 0
                replace ho : Ows [] w0 w [.row 0 31 2 (.slice o31 (([([105, 102, 45, 109, 111, 100, 105, 102, 105, 101, 100, 45, 115, 105, 110, 99, 101], t9.1)] : List (Str × Str)).length) 1) (([([105, 102, 45, 109, 111, 100, 105, 102, 105, 101, 100, 45, 115, 105, 110, 99, 101], t9.1)] : List (Str × Str)).length) (([([105, 102, 45, 109, 111, 100, 105, 102, 105, 101, 100, 45, 115, 105, 110, 99, 101], t9.1)] : List (Str × Str)).flatMap encT31), .row 0 31 2 (.slice o26 (([([105, 102, 45, 110, 111, 110, 101, 45, 109, 97, 116, 99, 104], t5.1)] : List (Str × Str)).length) 1) (([([105, 102, 45, 110, 111, 110, 101, 45, 109, 97, 116, 99, 104], t5.1)] : List (Str × Str)).length) (([([105, 102, 45, 110, 111, 110, 101, 45, 109, 97, 116, 99, 104], t5.1)] : List (Str × Str)).flatMap encT31), .row 0 31 2 (.slice o23 (([([101, 116, 97, 103], t5.1), ([108, 97, 115, 116, 45, 109, 111, 100, 105, 102, 105, 101, 100], t7.1)] : List (Str × Str)).length) 2) (([([101, 116, 97, 103], t5.1), ([108, 97, 115, 116, 45, 109, 111, 100, 105, 102, 105, 101, 100], t7.1)] : List (Str × Str)).length) (([([101, 116, 97, 103], t5.1), ([108, 97, 115, 116, 45, 109, 111, 100, 105, 102, 105, 101, 100], t7.1)] : List (Str × Str)).flatMap encT31), .blk b2 (.cells #[I p1_0, I p1_1] 24 (0, 0)), .blk b1 (.cells #[.bool p0_0, S p0_1] 23 (0, 0))] := ho.erase 0
                replace ho : Ows [] w0 w [.row 0 31 2 (.slice o26 (([([105, 102, 45, 110, 111, 110, 101, 45, 109, 97, 116, 99, 104], t5.1)] : List (Str × Str)).length) 1) (([([105, 102, 45, 110, 111, 110, 101, 45, 109, 97, 116, 99, 104], t5.1)] : List (Str × Str)).length) (([([105, 102, 45, 110, 111, 110, 101, 45, 109, 97, 116, 99, 104], t5.1)] : List (Str × Str)).flatMap encT31), .row 0 31 2 (.slice o23 (([([101, 116, 97, 103], t5.1), ([108, 97, 115, 116, 45, 109, 111, 100, 105, 102, 105, 101, 100], t7.1)] : List (Str × Str)).length) 2) (([([101, 116, 97, 103], t5.1), ([108, 97, 115, 116, 45, 109, 111, 100, 105, 102, 105, 101, 100], t7.1)] : List (Str × Str)).length) (([([101, 116, 97, 103], t5.1), ([108, 97, 115, 116, 45, 109, 111, 100, 105, 102, 105, 101, 100], t7.1)] : List (Str × Str)).flatMap encT31), .blk b2 (.cells #[I p1_0, I p1_1] 24 (0, 0)), .blk b1 (.cells #[.bool p0_0, S p0_1] 23 (0, 0))] := ho.erase 0
                replace ho : Ows [] w0 w [.row 0 31 2 (.slice o23 (([([101, 116, 97, 103], t5.1), ([108, 97, 115, 116, 45, 109, 111, 100, 105, 102, 105, 101, 100], t7.1)] : List (Str × Str)).length) 2) (([([101, 116, 97, 103], t5.1), ([108, 97, 115, 116, 45, 109, 111, 100, 105, 102, 105, 101, 100], t7.1)] : List (Str × Str)).length) (([([101, 116, 97, 103], t5.1), ([108, 97, 115, 116, 45, 109, 111, 100, 105, 102, 105, 101, 100], t7.1)] : List (Str × Str)).flatMap encT31), .blk b2 (.cells #[I p1_0, I p1_1] 24 (0, 0)), .blk b1 (.cells #[.bool p0_0, S p0_1] 23 (0, 0))] := ho.erase 0
                replace ho : Ows [] w0 w [.blk b2 (.cells #[I p1_0, I p1_1] 24 (0, 0)), .blk b1 (.cells #[.bool p0_0, S p0_1] 23 (0, 0))] := ho.erase 0
                replace ho : Ows [] w0 w [.blk b1 (.cells #[.bool p0_0, S p0_1] 23 (0, 0))] := ho.erase 0
                replace ho : Ows [] w0 w [] := ho.erase 0
                obtain rfl := Option.some.inj H
                exact J a w ⟨hk.to [4] _ (by kernel_rfl), ho⟩
            ·
              rw [h55] at hk
              have h62 : ¬ ((t34 == (decide (p1_0 ≤ p1_1))) = true) := ne_true_of_eq_false h55
              rw [if_neg h62] at H
              refine st_pure tabOK hk [14, 15, 16, 17, 18, 19, 20, 21, 22] [] [4] [(4, .bool false)] (True) (by kernel_rfl) trivial ?_
              clear hk; intro a hk
              refine st_done ?_
              replace ho : Ows [] w0 w [.row 0 31 2 (.slice o40 t38.length c41) t38.length (t38.flatMap encT31), .row 0 31 2 (.slice o31 (([([105, 102, 45, 109, 111, 100, 105, 102, 105, 101, 100, 45, 115, 105, 110, 99, 101], t9.1)] : List (Str × Str)).length) 1) (([([105, 102, 45, 109, 111, 100, 105, 102, 105, 101, 100, 45, 115, 105, 110, 99, 101], t9.1)] : List (Str × Str)).length) (([([105, 102, 45, 109, 111, 100, 105, 102, 105, 101, 100, 45, 115, 105, 110, 99, 101], t9.1)] : List (Str × Str)).flatMap encT31), .row 0 31 2 (.slice o26 (([([105, 102, 45, 110, 111, 110, 101, 45, 109, 97, 116, 99, 104], t5.1)] : List (Str × Str)).length) 1) (([([105, 102, 45, 110, 111, 110, 101, 45, 109, 97, 116, 99, 104], t5.1)] : List (Str × Str)).length) (([([105, 102, 45, 110, 111, 110, 101, 45, 109, 97, 116, 99, 104], t5.1)] : List (Str × Str)).flatMap encT31), .row 0 31 2 (.slice o23 (([([101, 116, 97, 103], t5.1), ([108, 97, 115, 116, 45, 109, 111, 100, 105, 102, 105, 101, 100], t7.1)] : List (Str × Str)).length) 2) (([([101, 116, 97, 103], t5.1), ([108, 97, 115, 116, 45, 109, 111, 100, 105, 102, 105, 101, 100], t7.1)] : List (Str × Str)).length) (([([101, 116, 97, 103], t5.1), ([108, 97, 115, 116, 45, 109, 111, 100, 105, 102, 105, 101, 100], t7.1)] : List (Str × Str)).flatMap encT31), .blk b2 (.cells #[I p1_0, I p1_1] 24 (0, 0)), .blk b1 (.cells #[.bool p0_0, S p0_1] 23 (0, 0))] := ho.erase 0
              replace ho : Ows [] w0 w [.row 0 31 2 (.slice o31 (([([105, 102, 45, 109, 111, 100, 105, 102, 105, 101, 100, 45, 115, 105, 110, 99, 101], t9.1)] : List (Str × Str)).length) 1) (([([105, 102, 45, 109, 111, 100, 105, 102, 105, 101, 100, 45, 115, 105, 110, 99, 101], t9.1)] : List (Str × Str)).length) (([([105, 102, 45, 109, 111, 100, 105, 102, 105, 101, 100, 45, 115, 105, 110, 99, 101], t9.1)] : List (Str × Str)).flatMap encT31), .row 0 31 2 (.slice o26 (([([105, 102, 45, 110, 111, 110, 101, 45, 109, 97, 116, 99, 104], t5.1)] : List (Str × Str)).length) 1) (([([105, 102, 45, 110, 111, 110, 101, 45, 109, 97, 116, 99, 104], t5.1)] : List (Str × Str)).length) (([([105, 102, 45, 110, 111, 110, 101, 45, 109, 97, 116, 99, 104], t5.1)] : List (Str × Str)).flatMap encT31), .row 0 31 2 (.slice o23 (([([101, 116, 97, 103], t5.1), ([108, 97, 115, 116, 45, 109, 111, 100, 105, 102, 105, 101, 100], t7.1)] : List (Str × Str)).length) 2) (([([101, 116, 97, 103], t5.1), ([108, 97, 115, 116, 45, 109, 111, 100, 105, 102, 105, 101, 100], t7.1)] : List (Str × Str)).length) (([([101, 116, 97, 103], t5.1), ([108, 97, 115, 116, 45, 109, 111, 100, 105, 102, 105, 101, 100], t7.1)] : List (Str × Str)).flatMap encT31), .blk b2 (.cells #[I p1_0, I p1_1] 24 (0, 0)), .blk b1 (.cells #[.bool p0_0, S p0_1] 23 (0, 0))] := ho.erase 0
              replace ho : Ows [] w0 w [.row 0 31 2 (.slice o26 (([([105, 102, 45, 110, 111, 110, 101, 45, 109, 97, 116, 99, 104], t5.1)] : List (Str × Str)).length) 1) (([([105, 102, 45, 110, 111, 110, 101, 45, 109, 97, 116, 99, 104], t5.1)] : List (Str × Str)).length) (([([105, 102, 45, 110, 111, 110, 101, 45, 109, 97, 116, 99, 104], t5.1)] : List (Str × Str)).flatMap encT31), .row 0 31 2 (.slice o23 (([([101, 116, 97, 103], t5.1), ([108, 97, 115, 116, 45, 109, 111, 100, 105, 102, 105, 101, 100], t7.1)] : List (Str × Str)).length) 2) (([([101, 116, 97, 103], t5.1), ([108, 97, 115, 116, 45, 109, 111, 100, 105, 102, 105, 101, 100], t7.1)] : List (Str × Str)).length) (([([101, 116, 97, 103], t5.1), ([108, 97, 115, 116, 45, 109, 111, 100, 105, 102, 105, 101, 100], t7.1)] : List (Str × Str)).flatMap encT31), .blk b2 (.cells #[I p1_0, I p1_1] 24 (0, 0)), .blk b1 (.cells #[.bool p0_0, S p0_1] 23 (0, 0))] := ho.erase 0
              replace ho : Ows [] w0 w [.row 0 31 2 (.slice o23 (([([101, 116, 97, 103], t5.1), ([108, 97, 115, 116, 45, 109, 111, 100, 105, 102, 105, 101, 100], t7.1)] : List (Str × Str)).length) 2) (([([101, 116, 97, 103], t5.1), ([108, 97, 115, 116, 45, 109, 111, 100, 105, 102, 105, 101, 100], t7.1)] : List (Str × Str)).length) (([([101, 116, 97, 103], t5.1), ([108, 97, 115, 116, 45, 109, 111, 100, 105, 102, 105, 101, 100], t7.1)] : List (Str × Str)).flatMap encT31), .blk b2 (.cells #[I p1_0, I p1_1] 24 (0, 0)), .blk b1 (.cells #[.bool p0_0, S p0_1] 23 (0, 0))] := ho.erase 0
              replace ho : Ows [] w0 w [.blk b2 (.cells #[I p1_0, I p1_1] 24 (0, 0)), .blk b1 (.cells #[.bool p0_0, S p0_1] 23 (0, 0))] := ho.erase 0
              replace ho : Ows [] w0 w [.blk b1 (.cells #[.bool p0_0, S p0_1] 23 (0, 0))] := ho.erase 0
              replace ho : Ows [] w0 w [] := ho.erase 0
              obtain rfl := Option.some.inj H
              exact J a w ⟨hk.to [4] _ (by kernel_rfl), ho⟩
          ·
            rw [h53] at hk
            have h63 : ¬ (t29 = true) := ne_true_of_eq_false h53
            rw [if_neg h63] at H
            refine st_pure tabOK hk [5, 6, 7, 8, 9, 10, 11, 12, 13, 14, 15, 16, 17, 18, 19, 20, 21, 22] [] [4] [(4, .bool false)] (True) (by kernel_rfl) trivial ?_
            clear hk; intro a hk
            refine st_done ?_
            replace ho : Ows [] w0 w [.row 0 31 2 (.slice o40 t38.length c41) t38.length (t38.flatMap encT31), .row 0 31 2 (.slice o31 (([([105, 102, 45, 109, 111, 100, 105, 102, 105, 101, 100, 45, 115, 105, 110, 99, 101], t9.1)] : List (Str × Str)).length) 1) (([([105, 102, 45, 109, 111, 100, 105, 102, 105, 101, 100, 45, 115, 105, 110, 99, 101], t9.1)] : List (Str × Str)).length) (([([105, 102, 45, 109, 111, 100, 105, 102, 105, 101, 100, 45, 115, 105, 110, 99, 101], t9.1)] : List (Str × Str)).flatMap encT31), .row 0 31 2 (.slice o26 (([([105, 102, 45, 110, 111, 110, 101, 45, 109, 97, 116, 99, 104], t5.1)] : List (Str × Str)).length) 1) (([([105, 102, 45, 110, 111, 110, 101, 45, 109, 97, 116, 99, 104], t5.1)] : List (Str × Str)).length) (([([105, 102, 45, 110, 111, 110, 101, 45, 109, 97, 116, 99, 104], t5.1)] : List (Str × Str)).flatMap encT31), .row 0 31 2 (.slice o23 (([([101, 116, 97, 103], t5.1), ([108, 97, 115, 116, 45, 109, 111, 100, 105, 102, 105, 101, 100], t7.1)] : List (Str × Str)).length) 2) (([([101, 116, 97, 103], t5.1), ([108, 97, 115, 116, 45, 109, 111, 100, 105, 102, 105, 101, 100], t7.1)] : List (Str × Str)).length) (([([101, 116, 97, 103], t5.1), ([108, 97, 115, 116, 45, 109, 111, 100, 105, 102, 105, 101, 100], t7.1)] : List (Str × Str)).flatMap encT31), .blk b2 (.cells #[I p1_0, I p1_1] 24 (0, 0)), .blk b1 (.cells #[.bool p0_0, S p0_1] 23 (0, 0))] := ho.erase 0
            replace ho : Ows [] w0 w [.row 0 31 2 (.slice o31 (([([105, 102, 45, 109, 111, 100, 105, 102, 105, 101, 100, 45, 115, 105, 110, 99, 101], t9.1)] : List (Str × Str)).length) 1) (([([105, 102, 45, 109, 111, 100, 105, 102, 105, 101, 100, 45, 115, 105, 110, 99, 101], t9.1)] : List (Str × Str)).length) (([([105, 102, 45, 109, 111, 100, 105, 102, 105, 101, 100, 45, 115, 105, 110, 99, 101], t9.1)] : List (Str × Str)).flatMap encT31), .row 0 31 2 (.slice o26 (([([105, 102, 45, 110, 111, 110, 101, 45, 109, 97, 116, 99, 104], t5.1)] : List (Str × Str)).length) 1) (([([105, 102, 45, 110, 111, 110, 101, 45, 109, 97, 116, 99, 104], t5.1)] : List (Str × Str)).length) (([([105, 102, 45, 110, 111, 110, 101, 45, 109, 97, 116, 99, 104], t5.1)] : List (Str × Str)).flatMap encT31), .row 0 31 2 (.slice o23 (([([101, 116, 97, 103], t5.1), ([108, 97, 115, 116, 45, 109, 111, 100, 105, 102, 105, 101, 100], t7.1)] : List (Str × Str)).length) 2) (([([101, 116, 97, 103], t5.1), ([108, 97, 115, 116, 45, 109, 111, 100, 105, 102, 105, 101, 100], t7.1)] : List (Str × Str)).length) (([([101, 116, 97, 103], t5.1), ([108, 97, 115, 116, 45, 109, 111, 100, 105, 102, 105, 101, 100], t7.1)] : List (Str × Str)).flatMap encT31), .blk b2 (.cells #[I p1_0, I p1_1] 24 (0, 0)), .blk b1 (.cells #[.bool p0_0, S p0_1] 23 (0, 0))] := ho.erase 0
            replace ho : Ows [] w0 w [.row 0 31 2 (.slice o26 (([([105, 102, 45, 110, 111, 110, 101, 45, 109, 97, 116, 99, 104], t5.1)] : List (Str × Str)).length) 1) (([([105, 102, 45, 110, 111, 110, 101, 45, 109, 97, 116, 99, 104], t5.1)] : List (Str × Str)).length) (([([105, 102, 45, 110, 111, 110, 101, 45, 109, 97, 116, 99, 104], t5.1)] : List (Str × Str)).flatMap encT31), .row 0 31 2 (.slice o23 (([([101, 116, 97, 103], t5.1), ([108, 97, 115, 116, 45, 109, 111, 100, 105, 102, 105, 101, 100], t7.1)] : List (Str × Str)).length) 2) (([([101, 116, 97, 103], t5.1), ([108, 97, 115, 116, 45, 109, 111, 100, 105, 102, 105, 101, 100], t7.1)] : List (Str × Str)).length) (([([101, 116, 97, 103], t5.1), ([108, 97, 115, 116, 45, 109, 111, 100, 105, 102, 105, 101, 100], t7.1)] : List (Str × Str)).flatMap encT31), .blk b2 (.cells #[I p1_0, I p1_1] 24 (0, 0)), .blk b1 (.cells #[.bool p0_0, S p0_1] 23 (0, 0))] := ho.erase 0
            replace ho : Ows [] w0 w [.row 0 31 2 (.slice o23 (([([101, 116, 97, 103], t5.1), ([108, 97, 115, 116, 45, 109, 111, 100, 105, 102, 105, 101, 100], t7.1)] : List (Str × Str)).length) 2) (([([101, 116, 97, 103], t5.1), ([108, 97, 115, 116, 45, 109, 111, 100, 105, 102, 105, 101, 100], t7.1)] : List (Str × Str)).length) (([([101, 116, 97, 103], t5.1), ([108, 97, 115, 116, 45, 109, 111, 100, 105, 102, 105, 101, 100], t7.1)] : List (Str × Str)).flatMap encT31), .blk b2 (.cells #[I p1_0, I p1_1] 24 (0, 0)), .blk b1 (.cells #[.bool p0_0, S p0_1] 23 (0, 0))] := ho.erase 0
            replace ho : Ows [] w0 w [.blk b2 (.cells #[I p1_0, I p1_1] 24 (0, 0)), .blk b1 (.cells #[.bool p0_0, S p0_1] 23 (0, 0))] := ho.erase 0
            replace ho : Ows [] w0 w [.blk b1 (.cells #[.bool p0_0, S p0_1] 23 (0, 0))] := ho.erase 0
            replace ho : Ows [] w0 w [] := ho.erase 0
            obtain rfl := Option.some.inj H
            exact J a w ⟨hk.to [4] _ (by kernel_rfl), ho⟩
        ·
          rw [h51] at hk
          have h64 : ¬ (t3 = true) := ne_true_of_eq_false h51
          rw [if_neg h64] at H
          refine st_pure tabOK hk [2, 3, 4, 5, 6, 7, 8, 9, 10, 11, 12, 13, 14, 15, 16, 17, 18, 19, 20, 21, 22] [] [4] [(4, .bool false)] (True) (by kernel_rfl) trivial ?_
          clear hk; intro a hk
          refine st_done ?_
          replace ho : Ows [] w0 w [.row 0 31 2 (.slice o40 t38.length c41) t38.length (t38.flatMap encT31), .row 0 31 2 (.slice o31 (([([105, 102, 45, 109, 111, 100, 105, 102, 105, 101, 100, 45, 115, 105, 110, 99, 101], t9.1)] : List (Str × Str)).length) 1) (([([105, 102, 45, 109, 111, 100, 105, 102, 105, 101, 100, 45, 115, 105, 110, 99, 101], t9.1)] : List (Str × Str)).length) (([([105, 102, 45, 109, 111, 100, 105, 102, 105, 101, 100, 45, 115, 105, 110, 99, 101], t9.1)] : List (Str × Str)).flatMap encT31), .row 0 31 2 (.slice o26 (([([105, 102, 45, 110, 111, 110, 101, 45, 109, 97, 116, 99, 104], t5.1)] : List (Str × Str)).length) 1) (([([105, 102, 45, 110, 111, 110, 101, 45, 109, 97, 116, 99, 104], t5.1)] : List (Str × Str)).length) (([([105, 102, 45, 110, 111, 110, 101, 45, 109, 97, 116, 99, 104], t5.1)] : List (Str × Str)).flatMap encT31), .row 0 31 2 (.slice o23 (([([101, 116, 97, 103], t5.1), ([108, 97, 115, 116, 45, 109, 111, 100, 105, 102, 105, 101, 100], t7.1)] : List (Str × Str)).length) 2) (([([101, 116, 97, 103], t5.1), ([108, 97, 115, 116, 45, 109, 111, 100, 105, 102, 105, 101, 100], t7.1)] : List (Str × Str)).length) (([([101, 116, 97, 103], t5.1), ([108, 97, 115, 116, 45, 109, 111, 100, 105, 102, 105, 101, 100], t7.1)] : List (Str × Str)).flatMap encT31), .blk b2 (.cells #[I p1_0, I p1_1] 24 (0, 0)), .blk b1 (.cells #[.bool p0_0, S p0_1] 23 (0, 0))] := ho.erase 0
          replace ho : Ows [] w0 w [.row 0 31 2 (.slice o31 (([([105, 102, 45, 109, 111, 100, 105, 102, 105, 101, 100, 45, 115, 105, 110, 99, 101], t9.1)] : List (Str × Str)).length) 1) (([([105, 102, 45, 109, 111, 100, 105, 102, 105, 101, 100, 45, 115, 105, 110, 99, 101], t9.1)] : List (Str × Str)).length) (([([105, 102, 45, 109, 111, 100, 105, 102, 105, 101, 100, 45, 115, 105, 110, 99, 101], t9.1)] : List (Str × Str)).flatMap encT31), .row 0 31 2 (.slice o26 (([([105, 102, 45, 110, 111, 110, 101, 45, 109, 97, 116, 99, 104], t5.1)] : List (Str × Str)).length) 1) (([([105, 102, 45, 110, 111, 110, 101, 45, 109, 97, 116, 99, 104], t5.1)] : List (Str × Str)).length) (([([105, 102, 45, 110, 111, 110, 101, 45, 109, 97, 116, 99, 104], t5.1)] : List (Str × Str)).flatMap encT31), .row 0 31 2 (.slice o23 (([([101, 116, 97, 103], t5.1), ([108, 97, 115, 116, 45, 109, 111, 100, 105, 102, 105, 101, 100], t7.1)] : List (Str × Str)).length) 2) (([([101, 116, 97, 103], t5.1), ([108, 97, 115, 116, 45, 109, 111, 100, 105, 102, 105, 101, 100], t7.1)] : List (Str × Str)).length) (([([101, 116, 97, 103], t5.1), ([108, 97, 115, 116, 45, 109, 111, 100, 105, 102, 105, 101, 100], t7.1)] : List (Str × Str)).flatMap encT31), .blk b2 (.cells #[I p1_0, I p1_1] 24 (0, 0)), .blk b1 (.cells #[.bool p0_0, S p0_1] 23 (0, 0))] := ho.erase 0
          replace ho : Ows [] w0 w [.row 0 31 2 (.slice o26 (([([105, 102, 45, 110, 111, 110, 101, 45, 109, 97, 116, 99, 104], t5.1)] : List (Str × Str)).length) 1) (([([105, 102, 45, 110, 111, 110, 101, 45, 109, 97, 116, 99, 104], t5.1)] : List (Str × Str)).length) (([([105, 102, 45, 110, 111, 110, 101, 45, 109, 97, 116, 99, 104], t5.1)] : List (Str × Str)).flatMap encT31), .row 0 31 2 (.slice o23 (([([101, 116, 97, 103], t5.1), ([108, 97, 115, 116, 45, 109, 111, 100, 105, 102, 105, 101, 100], t7.1)] : List (Str × Str)).length) 2) (([([101, 116, 97, 103], t5.1), ([108, 97, 115, 116, 45, 109, 111, 100, 105, 102, 105, 101, 100], t7.1)] : List (Str × Str)).length) (([([101, 116, 97, 103], t5.1), ([108, 97, 115, 116, 45, 109, 111, 100, 105, 102, 105, 101, 100], t7.1)] : List (Str × Str)).flatMap encT31), .blk b2 (.cells #[I p1_0, I p1_1] 24 (0, 0)), .blk b1 (.cells #[.bool p0_0, S p0_1] 23 (0, 0))] := ho.erase 0
          replace ho : Ows [] w0 w [.row 0 31 2 (.slice o23 (([([101, 116, 97, 103], t5.1), ([108, 97, 115, 116, 45, 109, 111, 100, 105, 102, 105, 101, 100], t7.1)] : List (Str × Str)).length) 2) (([([101, 116, 97, 103], t5.1), ([108, 97, 115, 116, 45, 109, 111, 100, 105, 102, 105, 101, 100], t7.1)] : List (Str × Str)).length) (([([101, 116, 97, 103], t5.1), ([108, 97, 115, 116, 45, 109, 111, 100, 105, 102, 105, 101, 100], t7.1)] : List (Str × Str)).flatMap encT31), .blk b2 (.cells #[I p1_0, I p1_1] 24 (0, 0)), .blk b1 (.cells #[.bool p0_0, S p0_1] 23 (0, 0))] := ho.erase 0
          replace ho : Ows [] w0 w [.blk b2 (.cells #[I p1_0, I p1_1] 24 (0, 0)), .blk b1 (.cells #[.bool p0_0, S p0_1] 23 (0, 0))] := ho.erase 0
          replace ho : Ows [] w0 w [.blk b1 (.cells #[.bool p0_0, S p0_1] 23 (0, 0))] := ho.erase 0
          replace ho : Ows [] w0 w [] := ho.erase 0
          obtain rfl := Option.some.inj H
          exact J a w ⟨hk.to [4] _ (by kernel_rfl), ho⟩
      · clear HX; rintro a w ⟨hk, ho⟩
        refine st_retG hk (by kernel_rfl) [.bool m50] #[.tmp 4] (by kernel_rfl) ⟨resT hk (by kernel_rfl), trivial⟩ ?_
        obtain rfl := Option.some.inj H
        exact ⟨_, rfl, rfl, ho⟩

end Go.Proofs.YtifocgljpfaekaaDoor
