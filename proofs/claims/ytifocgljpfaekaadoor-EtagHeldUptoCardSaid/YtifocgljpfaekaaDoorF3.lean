/- Go functions as plain functions, and that the machine's calls do what these say. -/
import Derived.Test.YtifocgljpfaekaaDoorT
import Derived.Test.YtifocgljpfaekaaDoorHA
import Derived.Test.YtifocgljpfaekaaDoorHT
import Derived.Test.YtifocgljpfaekaaDoorF2
set_option maxRecDepth 100000
set_option linter.unusedVariables false
namespace Go.Proofs.YtifocgljpfaekaaDoor
open Go.Ev Go.Proofs.Tryd


/-! scullery/date.Parse: function 29 -/
noncomputable def C29 (p : List Nat) : Code := Sub (bodyOf f29) p
def date_Parse.l0 (K : Nat) : Nat → Str → (Str × Str × Str × Str × Str × Str × Str) → Int → Option ((Unit) ⊕ (Int × Int))
  | 0, _, _, _ => none
  | k + 1, p0, t2, v4 => (if v4 < 7 then (if (0 : Int) ≤ v4 then (if 3 ≤ ((get ([t2.1, t2.2.1, t2.2.2.1, t2.2.2.2.1, t2.2.2.2.2.1, t2.2.2.2.2.2.1, t2.2.2.2.2.2.2] : List (Str)) v4).length : Int) then ((date_scan_word.f p0 false ((get ([t2.1, t2.2.1, t2.2.2.1, t2.2.2.2.1, t2.2.2.2.2.1, t2.2.2.2.2.2.1, t2.2.2.2.2.2.2] : List (Str)) v4).take 3)).bind fun t10 => (if t10.2 = true then date_Parse.l0 K k p0 t2 (w64 (v4 + 1)) else ((date_first.f K t10.1 t10.2).bind fun t15 => ((date_Days.f K t15.1 t15.2.1 t15.2.2.1).bind fun t18 => (((if (!t15.2.2.2.2.2) = true then (if (t15.2.2.2.2.1 == ([])) = true then (if (t18.2 == 0) = true then ((date_Weekday.f t18.1).bind fun t27 => some (t27 == v4)) else some false) else some false) else some false)).bind fun m20 => (if m20 = true then some (.inr (w64 ((w64 (t18.1 * 86400)) + t15.2.2.2.1), 0)) else date_Parse.l0 K k p0 t2 (w64 (v4 + 1)))))))) else none) else none) else some (.inl ()))
def date_Parse.l1 (K : Nat) : Nat → Str → (Str × Str × Str × Str × Str × Str × Str) → Int → Option ((Unit) ⊕ (Int × Int))
  | 0, _, _, _ => none
  | k + 1, p0, t40, v42 => (if v42 < 7 then (if (0 : Int) ≤ v42 then ((date_scan_word.f p0 false (get ([t40.1, t40.2.1, t40.2.2.1, t40.2.2.2.1, t40.2.2.2.2.1, t40.2.2.2.2.2.1, t40.2.2.2.2.2.2] : List (Str)) v42)).bind fun t47 => (if t47.2 = true then date_Parse.l1 K k p0 t40 (w64 (v42 + 1)) else ((date_second.f K t47.1 t47.2).bind fun t52 => ((date_Days.f K t52.1 t52.2.1 t52.2.2.1).bind fun t55 => (((if (!t52.2.2.2.2.2) = true then (if (t52.2.2.2.2.1 == ([])) = true then (if (t55.2 == 0) = true then ((date_Weekday.f t55.1).bind fun t64 => some (t64 == v42)) else some false) else some false) else some false)).bind fun m57 => (if m57 = true then some (.inr (w64 ((w64 (t55.1 * 86400)) + t52.2.2.2.1), 0)) else date_Parse.l1 K k p0 t40 (w64 (v42 + 1)))))))) else none) else some (.inl ()))
def date_Parse.l2 (K : Nat) : Nat → Str → (Str × Str × Str × Str × Str × Str × Str) → Int → Option ((Unit) ⊕ (Int × Int))
  | 0, _, _, _ => none
  | k + 1, p0, t77, v79 => (if v79 < 7 then (if (0 : Int) ≤ v79 then (if 3 ≤ ((get ([t77.1, t77.2.1, t77.2.2.1, t77.2.2.2.1, t77.2.2.2.2.1, t77.2.2.2.2.2.1, t77.2.2.2.2.2.2] : List (Str)) v79).length : Int) then ((date_scan_word.f p0 false ((get ([t77.1, t77.2.1, t77.2.2.1, t77.2.2.2.1, t77.2.2.2.2.1, t77.2.2.2.2.2.1, t77.2.2.2.2.2.2] : List (Str)) v79).take 3)).bind fun t85 => (if t85.2 = true then date_Parse.l2 K k p0 t77 (w64 (v79 + 1)) else ((date_third.f K t85.1 t85.2).bind fun t90 => ((date_Days.f K t90.1 t90.2.1 t90.2.2.1).bind fun t93 => (((if (!t90.2.2.2.2.2) = true then (if (t90.2.2.2.2.1 == ([])) = true then (if (t93.2 == 0) = true then ((date_Weekday.f t93.1).bind fun t102 => some (t102 == v79)) else some false) else some false) else some false)).bind fun m95 => (if m95 = true then some (.inr (w64 ((w64 (t93.1 * 86400)) + t90.2.2.2.1), 0)) else date_Parse.l2 K k p0 t77 (w64 (v79 + 1)))))))) else none) else none) else some (.inl ()))
def date_Parse.f (K : Nat) (p0 : Str) : Option (Int × Int) := (((date_weekdays.f ).bind fun t2 => ((date_Parse.l0 K K p0 t2 0).bind fun m36 => match m36 with | .inl s38 => (((date_weekdays.f ).bind fun t40 => ((date_Parse.l1 K K p0 t40 0).bind fun m73 => match m73 with | .inl s75 => (((date_weekdays.f ).bind fun t77 => ((date_Parse.l2 K K p0 t77 0).bind fun m111 => match m111 with | .inl s113 => some (0, 2) | .inr r114 => some r114))) | .inr r115 => some r115))) | .inr r116 => some r116)))
abbrev date_Parse.post (w0 : World) (r : Int × Int) (u : Value) (w : World) : Prop := u = .tuple #[I r.1, I r.2] ∧ Ows [] w0 w []
theorem date_Parse.l0_ok (K : Nat) : ∀ (k : Nat) (p0 : Str) (t2 : Str × Str × Str × Str × Str × Str × Str) (v4 : Int) (out : (Unit) ⊕ (Int × Int)), date_Parse.l0 K k p0 t2 v4 = some out → ∀ (b1 : Nat) (w0 : World) (Q : Exit → Act → World → Prop) (rest : List It) (a : Act) (w : World), Kn 82 a [(0, S p0), (5, .pointer (some ⟨b1, 0, none⟩)), (15, .agg #[.bool false, .func (.func 44) #[] #[], .bool true, .func (.func 45) #[] #[], .bool false, .func (.func 46) #[] #[]]), (16, I 0), (19, .agg #[S t2.1, S t2.2.1, S t2.2.2.1, S t2.2.2.2.1, S t2.2.2.2.2.1, S t2.2.2.2.2.2.1, S t2.2.2.2.2.2.2]), (20, I v4)] → Ows [] w0 w [.blk b1 (.cells #[.bool false, .func (.func 44) #[] #[]] 92 (0, 0))] → (∀ (s : Unit) (a : Act) (w : World), out = .inl s → Kn 82 a [(0, S p0), (15, .agg #[.bool false, .func (.func 44) #[] #[], .bool true, .func (.func 45) #[] #[], .bool false, .func (.func 46) #[] #[]]), (16, I 0)] → Ows [] w0 w [] → G Tryd.prog Q rest a w) → (∀ (r : Int × Int) (a : Act) (w : World), out = .inr r → Kn 82 a [(2, I r.1), (3, I r.2)] → Ows [] w0 w [] → Q .ret a w) → G Tryd.prog Q (.code (C29 [1, 0, 1, 0, 0, 1, 1, 0, 0, 1, 1, 0, 0]) :: .inl (C29 [1, 0, 1, 0, 0, 1, 1, 0, 0, 1, 1, 0, 0]) :: .endb 2 :: rest) a w := by
  intro k
  induction k with
  | zero => intro p0 t2 v4 out H; simp [date_Parse.l0] at H
  | succ k ih =>
    intro p0 t2 v4 out H b1 w0 Q rest a w  hk ho J R
    simp only [date_Parse.l0] at H
    refine st_seq (C29 [1, 0, 1, 0, 0, 1, 1, 0, 0, 1, 1, 0, 0, 0]) (C29 [1, 0, 1, 0, 0, 1, 1, 0, 0, 1, 1, 0, 0, 1]) (by kernel_rfl) ?_
    refine st_region 5 (opsOf (C29 [1, 0, 1, 0, 0, 1, 1, 0, 0, 1, 1, 0, 0, 0])) [0] (by kernel_rfl) (by kernel_rfl) ?_
    refine st_pure tabOK hk [0] [] [0, 5, 15, 16, 19, 20, 21] [(0, S p0), (5, .pointer (some ⟨b1, 0, none⟩)), (15, .agg #[.bool false, .func (.func 44) #[] #[], .bool true, .func (.func 45) #[] #[], .bool false, .func (.func 46) #[] #[]]), (16, I 0), (19, .agg #[S t2.1, S t2.2.1, S t2.2.2.1, S t2.2.2.2.1, S t2.2.2.2.2.1, S t2.2.2.2.2.2.1, S t2.2.2.2.2.2.2]), (20, I v4), (21, .bool (decide (v4 < 7)))] (True) (by kernel_rfl) trivial ?_
    clear hk; intro a hk
    refine st_done ?_
    refine st_seq (C29 [1, 0, 1, 0, 0, 1, 1, 0, 0, 1, 1, 0, 0, 1, 0]) (C29 [1, 0, 1, 0, 0, 1, 1, 0, 0, 1, 1, 0, 0, 1, 1]) (by kernel_rfl) ?_
    refine st_cond hk (C29 [1, 0, 1, 0, 0, 1, 1, 0, 0, 1, 1, 0, 0, 1, 0, 0]) (C29 [1, 0, 1, 0, 0, 1, 1, 0, 0, 1, 1, 0, 0, 1, 0, 1]) (.tmp 21) (decide (v4 < 7)) (by kernel_rfl) (by kernel_rfl) (fun h5 => ?_) (fun h5 => ?_)
    ·
      have h6 : v4 < 7 := of_decide_eq_true h5
      rw [if_pos h6] at H
      refine st_skip (by kernel_rfl) ?_
      refine st_seq (C29 [1, 0, 1, 0, 0, 1, 1, 0, 0, 1, 1, 0, 0, 1, 1, 0]) (C29 [1, 0, 1, 0, 0, 1, 1, 0, 0, 1, 1, 0, 0, 1, 1, 1]) (by kernel_rfl) ?_
      refine st_block 3 (C29 [1, 0, 1, 0, 0, 1, 1, 0, 0, 1, 1, 0, 0, 1, 1, 0, 0]) (by kernel_rfl) ?_
      refine st_seq (C29 [1, 0, 1, 0, 0, 1, 1, 0, 0, 1, 1, 0, 0, 1, 1, 0, 0, 0]) (C29 [1, 0, 1, 0, 0, 1, 1, 0, 0, 1, 1, 0, 0, 1, 1, 0, 0, 1]) (by kernel_rfl) ?_
      refine st_region 6 (opsOf (C29 [1, 0, 1, 0, 0, 1, 1, 0, 0, 1, 1, 0, 0, 1, 1, 0, 0, 0])) [0, 1, 2, 3] (by kernel_rfl) (by kernel_rfl) ?_
      have h7 : (0 : Int) ≤ v4 := by
        by_cases h7 : (0 : Int) ≤ v4
        · exact h7
        · rw [if_neg h7] at H; cases H
      rw [if_pos h7] at H
      refine st_pure tabOK hk [0] [1, 2, 3] [0, 5, 15, 16, 19, 20, 22] [(0, S p0), (5, .pointer (some ⟨b1, 0, none⟩)), (15, .agg #[.bool false, .func (.func 44) #[] #[], .bool true, .func (.func 45) #[] #[], .bool false, .func (.func 46) #[] #[]]), (16, I 0), (19, .agg #[S t2.1, S t2.2.1, S t2.2.2.1, S t2.2.2.2.1, S t2.2.2.2.2.1, S t2.2.2.2.2.2.1, S t2.2.2.2.2.2.2]), (20, I v4), (22, I v4)] (True) (by kernel_rfl) trivial ?_
      clear hk; intro a hk
      refine st_yield hk 23 (S (get ([t2.1, t2.2.1, t2.2.2.1, t2.2.2.2.1, t2.2.2.2.2.1, t2.2.2.2.2.2.1, t2.2.2.2.2.2.2] : List (Str)) v4)) (ix1 tabOK 46 9 23 .i64 S ([t2.1, t2.2.1, t2.2.2.1, t2.2.2.2.1, t2.2.2.2.2.1, t2.2.2.2.2.2.1, t2.2.2.2.2.2.2] : List (Str)) v4 7 (by kernel_rfl) (by kernel_rfl) rfl h7 h6) ?_
      clear hk; intro a hk
      refine st_pure tabOK hk [2, 3] [] [0, 5, 6, 7, 15, 16, 19, 20] [(0, S p0), (5, .pointer (some ⟨b1, 0, none⟩)), (6, I v4), (7, S (get ([t2.1, t2.2.1, t2.2.2.1, t2.2.2.2.1, t2.2.2.2.2.1, t2.2.2.2.2.2.1, t2.2.2.2.2.2.2] : List (Str)) v4)), (15, .agg #[.bool false, .func (.func 44) #[] #[], .bool true, .func (.func 45) #[] #[], .bool false, .func (.func 46) #[] #[]]), (16, I 0), (19, .agg #[S t2.1, S t2.2.1, S t2.2.2.1, S t2.2.2.2.1, S t2.2.2.2.2.1, S t2.2.2.2.2.2.1, S t2.2.2.2.2.2.2]), (20, I v4)] (True) (by kernel_rfl) trivial ?_
      clear hk; intro a hk
      refine st_done ?_
      refine st_seq (C29 [1, 0, 1, 0, 0, 1, 1, 0, 0, 1, 1, 0, 0, 1, 1, 0, 0, 1, 0]) (C29 [1, 0, 1, 0, 0, 1, 1, 0, 0, 1, 1, 0, 0, 1, 1, 0, 0, 1, 1]) (by kernel_rfl) ?_
      refine st_seq (C29 [1, 0, 1, 0, 0, 1, 1, 0, 0, 1, 1, 0, 0, 1, 1, 0, 0, 1, 0, 0]) (C29 [1, 0, 1, 0, 0, 1, 1, 0, 0, 1, 1, 0, 0, 1, 1, 0, 0, 1, 0, 1]) (by kernel_rfl) ?_
      refine st_region 7 (opsOf (C29 [1, 0, 1, 0, 0, 1, 1, 0, 0, 1, 1, 0, 0, 1, 1, 0, 0, 1, 0, 0])) [0, 1, 2] (by kernel_rfl) (by kernel_rfl) ?_
      refine st_pure tabOK hk [0] [1, 2] [0, 5, 6, 7, 15, 16, 19, 20, 24] [(0, S p0), (5, .pointer (some ⟨b1, 0, none⟩)), (6, I v4), (7, S (get ([t2.1, t2.2.1, t2.2.2.1, t2.2.2.2.1, t2.2.2.2.2.1, t2.2.2.2.2.2.1, t2.2.2.2.2.2.2] : List (Str)) v4)), (15, .agg #[.bool false, .func (.func 44) #[] #[], .bool true, .func (.func 45) #[] #[], .bool false, .func (.func 46) #[] #[]]), (16, I 0), (19, .agg #[S t2.1, S t2.2.1, S t2.2.2.1, S t2.2.2.2.1, S t2.2.2.2.2.1, S t2.2.2.2.2.2.1, S t2.2.2.2.2.2.2]), (20, I v4), (24, .pointer (some ⟨b1, 0, none⟩))] (((some ⟨b1, 0, none⟩ : Option Addr).isSome = true) ∧ True) (by kernel_rfl) ⟨rfl, trivial⟩ ?_
      clear hk; intro a hk
      refine st_load1 tabOK hk 4 (some ⟨b1, 0, none⟩) 25 (by kernel_rfl) (by kernel_rfl) (.bool false) (ho.cell 0 rfl rfl) ?_
      clear hk; intro a hk
      refine st_pure tabOK hk [2] [] [0, 5, 6, 7, 15, 16, 19, 20, 26] [(0, S p0), (5, .pointer (some ⟨b1, 0, none⟩)), (6, I v4), (7, S (get ([t2.1, t2.2.1, t2.2.2.1, t2.2.2.2.1, t2.2.2.2.2.1, t2.2.2.2.2.2.1, t2.2.2.2.2.2.2] : List (Str)) v4)), (15, .agg #[.bool false, .func (.func 44) #[] #[], .bool true, .func (.func 45) #[] #[], .bool false, .func (.func 46) #[] #[]]), (16, I 0), (19, .agg #[S t2.1, S t2.2.1, S t2.2.2.1, S t2.2.2.2.1, S t2.2.2.2.2.1, S t2.2.2.2.2.2.1, S t2.2.2.2.2.2.2]), (20, I v4), (26, .bool true)] (True) (by kernel_rfl) trivial ?_
      clear hk; intro a hk
      refine st_done ?_
      refine st_cond_true hk (C29 [1, 0, 1, 0, 0, 1, 1, 0, 0, 1, 1, 0, 0, 1, 1, 0, 0, 1, 0, 1, 0]) (C29 [1, 0, 1, 0, 0, 1, 1, 0, 0, 1, 1, 0, 0, 1, 1, 0, 0, 1, 0, 1, 1]) (.tmp 26) (by kernel_rfl) (by kernel_rfl) ?_
      refine st_region 8 (opsOf (C29 [1, 0, 1, 0, 0, 1, 1, 0, 0, 1, 1, 0, 0, 1, 1, 0, 0, 1, 0, 1, 0])) [0, 1, 2] (by kernel_rfl) (by kernel_rfl) ?_
      have h8 : 3 ≤ ((get ([t2.1, t2.2.1, t2.2.2.1, t2.2.2.2.1, t2.2.2.2.2.1, t2.2.2.2.2.2.1, t2.2.2.2.2.2.2] : List (Str)) v4).length : Int) := by
        by_cases h8 : 3 ≤ ((get ([t2.1, t2.2.1, t2.2.2.1, t2.2.2.2.1, t2.2.2.2.2.1, t2.2.2.2.2.2.1, t2.2.2.2.2.2.2] : List (Str)) v4).length : Int)
        · exact h8
        · rw [if_neg h8] at H; cases H
      rw [if_pos h8] at H
      refine st_pure tabOK hk [0, 1, 2] [] [0, 5, 6, 7, 15, 16, 19, 20] [(0, S p0), (5, .pointer (some ⟨b1, 0, none⟩)), (6, I v4), (7, S ((get ([t2.1, t2.2.1, t2.2.2.1, t2.2.2.2.1, t2.2.2.2.2.1, t2.2.2.2.2.2.1, t2.2.2.2.2.2.2] : List (Str)) v4).take 3)), (15, .agg #[.bool false, .func (.func 44) #[] #[], .bool true, .func (.func 45) #[] #[], .bool false, .func (.func 46) #[] #[]]), (16, I 0), (19, .agg #[S t2.1, S t2.2.1, S t2.2.2.1, S t2.2.2.2.1, S t2.2.2.2.2.1, S t2.2.2.2.2.2.1, S t2.2.2.2.2.2.2]), (20, I v4)] (((0 : Int) ≤ 3 ∧ 3 ≤ ((get ([t2.1, t2.2.1, t2.2.2.1, t2.2.2.2.1, t2.2.2.2.2.1, t2.2.2.2.2.2.1, t2.2.2.2.2.2.2] : List (Str)) v4).length : Int)) ∧ True) (by kernel_rfl) ⟨⟨(by decide), h8⟩, trivial⟩ ?_
      clear hk; intro a hk
      refine st_done ?_
      refine st_seq (C29 [1, 0, 1, 0, 0, 1, 1, 0, 0, 1, 1, 0, 0, 1, 1, 0, 0, 1, 1, 0]) (C29 [1, 0, 1, 0, 0, 1, 1, 0, 0, 1, 1, 0, 0, 1, 1, 0, 0, 1, 1, 1]) (by kernel_rfl) ?_
      refine st_region 9 (opsOf (C29 [1, 0, 1, 0, 0, 1, 1, 0, 0, 1, 1, 0, 0, 1, 1, 0, 0, 1, 1, 0])) [0, 1, 2, 3] (by kernel_rfl) (by kernel_rfl) ?_
      refine st_pure tabOK hk [0, 1] [2, 3] [0, 5, 6, 7, 15, 16, 19, 20, 30] [(0, S p0), (5, .pointer (some ⟨b1, 0, none⟩)), (6, I v4), (7, S ((get ([t2.1, t2.2.1, t2.2.2.1, t2.2.2.2.1, t2.2.2.2.2.1, t2.2.2.2.2.2.1, t2.2.2.2.2.2.2] : List (Str)) v4).take 3)), (15, .agg #[.bool false, .func (.func 44) #[] #[], .bool true, .func (.func 45) #[] #[], .bool false, .func (.func 46) #[] #[]]), (16, I 0), (19, .agg #[S t2.1, S t2.2.1, S t2.2.2.1, S t2.2.2.2.1, S t2.2.2.2.2.1, S t2.2.2.2.2.2.1, S t2.2.2.2.2.2.2]), (20, I v4), (30, .agg #[S p0, .bool false])] (True) (by kernel_rfl) trivial ?_
      clear hk; intro a hk
      refine st_new tabOK hk ho #[S p0, .bool false] 96 31 (by kernel_rfl) ?_
      clear hk ho; intro a b9 w hk ho
      refine st_pure tabOK hk [3] [] [0, 5, 6, 7, 8, 15, 16, 19, 20] [(0, S p0), (5, .pointer (some ⟨b1, 0, none⟩)), (6, I v4), (7, S ((get ([t2.1, t2.2.1, t2.2.2.1, t2.2.2.2.1, t2.2.2.2.2.1, t2.2.2.2.2.2.1, t2.2.2.2.2.2.2] : List (Str)) v4).take 3)), (8, .pointer (some ⟨b9, 0, none⟩)), (15, .agg #[.bool false, .func (.func 44) #[] #[], .bool true, .func (.func 45) #[] #[], .bool false, .func (.func 46) #[] #[]]), (16, I 0), (19, .agg #[S t2.1, S t2.2.1, S t2.2.2.1, S t2.2.2.2.1, S t2.2.2.2.2.1, S t2.2.2.2.2.2.1, S t2.2.2.2.2.2.2]), (20, I v4)] (True) (by kernel_rfl) trivial ?_
      clear hk; intro a hk
      refine st_done ?_
      refine st_seq (C29 [1, 0, 1, 0, 0, 1, 1, 0, 0, 1, 1, 0, 0, 1, 1, 0, 0, 1, 1, 1, 0]) (C29 [1, 0, 1, 0, 0, 1, 1, 0, 0, 1, 1, 0, 0, 1, 1, 0, 0, 1, 1, 1, 1]) (by kernel_rfl) ?_
      refine st_region 10 (opsOf (C29 [1, 0, 1, 0, 0, 1, 1, 0, 0, 1, 1, 0, 0, 1, 1, 0, 0, 1, 1, 1, 0])) [0, 1, 2] (by kernel_rfl) (by kernel_rfl) ?_
      refine st_pure tabOK hk [0, 1] [2] [0, 5, 6, 8, 15, 16, 19, 20, 32, 33] [(0, S p0), (5, .pointer (some ⟨b1, 0, none⟩)), (6, I v4), (8, .pointer (some ⟨b9, 0, none⟩)), (15, .agg #[.bool false, .func (.func 44) #[] #[], .bool true, .func (.func 45) #[] #[], .bool false, .func (.func 46) #[] #[]]), (16, I 0), (19, .agg #[S t2.1, S t2.2.1, S t2.2.2.1, S t2.2.2.2.1, S t2.2.2.2.2.1, S t2.2.2.2.2.2.1, S t2.2.2.2.2.2.2]), (20, I v4), (32, .pointer (some ⟨b9, 0, none⟩)), (33, S ((get ([t2.1, t2.2.1, t2.2.2.1, t2.2.2.2.1, t2.2.2.2.2.1, t2.2.2.2.2.2.1, t2.2.2.2.2.2.2] : List (Str)) v4).take 3))] (True) (by kernel_rfl) trivial ?_
      clear hk; intro a hk
      obtain ⟨t10, h11, H⟩ := Option.bind_eq_some_iff.1 H
      refine st_call hk 47 [.pointer (some ⟨b9, 0, none⟩), S ((get ([t2.1, t2.2.1, t2.2.2.1, t2.2.2.2.1, t2.2.2.2.2.1, t2.2.2.2.2.2.1, t2.2.2.2.2.2.2] : List (Str)) v4).take 3)] (some 34) enters47 (by kernel_rfl) (date_scan_word.ok  p0 false ((get ([t2.1, t2.2.1, t2.2.2.1, t2.2.2.2.1, t2.2.2.2.2.1, t2.2.2.2.2.2.1, t2.2.2.2.2.2.2] : List (Str)) v4).take 3) t10 h11 w b9 (Ows.has (K := [.blk b9 (.cells #[S p0, .bool false] 96 (0, 0))]) (L := [.blk b1 (.cells #[.bool false, .func (.func 44) #[] #[]] 92 (0, 0))]) ho)) ?_
      clear hk; rintro a u w ⟨rfl, ho'⟩ hk
      replace ho : Ows [] w0 w [.blk b9 (.cells #[S t10.1, .bool t10.2] 96 (0, 0)), .blk b1 (.cells #[.bool false, .func (.func 44) #[] #[]] 92 (0, 0))] := Ows.callP (K := [.blk b9 (.cells #[S p0, .bool false] 96 (0, 0))]) (L := [.blk b1 (.cells #[.bool false, .func (.func 44) #[] #[]] 92 (0, 0))]) ho ho' rfl; clear ho'
      refine st_done ?_
      refine st_seq (C29 [1, 0, 1, 0, 0, 1, 1, 0, 0, 1, 1, 0, 0, 1, 1, 0, 0, 1, 1, 1, 1, 0]) (C29 [1, 0, 1, 0, 0, 1, 1, 0, 0, 1, 1, 0, 0, 1, 1, 0, 0, 1, 1, 1, 1, 1]) (by kernel_rfl) ?_
      refine st_seq (C29 [1, 0, 1, 0, 0, 1, 1, 0, 0, 1, 1, 0, 0, 1, 1, 0, 0, 1, 1, 1, 1, 0, 0]) (C29 [1, 0, 1, 0, 0, 1, 1, 0, 0, 1, 1, 0, 0, 1, 1, 0, 0, 1, 1, 1, 1, 0, 1]) (by kernel_rfl) ?_
      refine st_region 11 (opsOf (C29 [1, 0, 1, 0, 0, 1, 1, 0, 0, 1, 1, 0, 0, 1, 1, 0, 0, 1, 1, 1, 1, 0, 0])) [0, 1, 2, 3] (by kernel_rfl) (by kernel_rfl) ?_
      refine st_pure tabOK hk [0, 1, 2] [3] [0, 5, 6, 8, 15, 16, 19, 20, 37] [(0, S p0), (5, .pointer (some ⟨b1, 0, none⟩)), (6, I v4), (8, .pointer (some ⟨b9, 0, none⟩)), (15, .agg #[.bool false, .func (.func 44) #[] #[], .bool true, .func (.func 45) #[] #[], .bool false, .func (.func 46) #[] #[]]), (16, I 0), (19, .agg #[S t2.1, S t2.2.1, S t2.2.2.1, S t2.2.2.2.1, S t2.2.2.2.2.1, S t2.2.2.2.2.2.1, S t2.2.2.2.2.2.2]), (20, I v4), (37, .pointer (some ⟨b9, 1, none⟩))] (((some ⟨b9, 0, none⟩ : Option Addr).isSome = true) ∧ (((some ⟨b9, 0, none⟩ : Option Addr).isSome = true) ∧ True)) (by kernel_rfl) ⟨rfl, ⟨rfl, trivial⟩⟩ ?_
      clear hk; intro a hk
      refine st_load1 tabOK hk 4 (some ⟨b9, 1, none⟩) 38 (by kernel_rfl) (by kernel_rfl) (.bool t10.2) (ho.cell 0 rfl rfl) ?_
      clear hk; intro a hk
      refine st_done ?_
      refine st_cond hk (C29 [1, 0, 1, 0, 0, 1, 1, 0, 0, 1, 1, 0, 0, 1, 1, 0, 0, 1, 1, 1, 1, 0, 1, 0]) (C29 [1, 0, 1, 0, 0, 1, 1, 0, 0, 1, 1, 0, 0, 1, 1, 0, 0, 1, 1, 1, 1, 0, 1, 1]) (.tmp 38) (t10.2) (by kernel_rfl) (by kernel_rfl) (fun h12 => ?_) (fun h12 => ?_)
      ·
        have h13 : t10.2 = true := h12
        rw [if_pos h13] at H
        refine st_exit 3 _ (by kernel_rfl) rfl ?_
        refine st_region 16 (opsOf (C29 [1, 0, 1, 0, 0, 1, 1, 0, 0, 1, 1, 0, 0, 1, 1, 1])) [0, 1] (by kernel_rfl) (by kernel_rfl) ?_
        refine st_pure tabOK hk [0, 1] [] [0, 5, 15, 16, 19, 20] [(0, S p0), (5, .pointer (some ⟨b1, 0, none⟩)), (15, .agg #[.bool false, .func (.func 44) #[] #[], .bool true, .func (.func 45) #[] #[], .bool false, .func (.func 46) #[] #[]]), (16, I 0), (19, .agg #[S t2.1, S t2.2.1, S t2.2.2.1, S t2.2.2.2.1, S t2.2.2.2.2.1, S t2.2.2.2.2.2.1, S t2.2.2.2.2.2.2]), (20, I (w64 (v4 + 1)))] (True) (by kernel_rfl) trivial ?_
        clear hk; intro a hk
        refine st_done ?_
        refine st_inl ?_
        replace ho : Ows [] w0 w [.blk b1 (.cells #[.bool false, .func (.func 44) #[] #[]] 92 (0, 0))] := ho.erase 0
        exact ih p0 t2 (w64 (v4 + 1)) out H b1 w0 Q rest a w  (hk.to [0, 5, 15, 16, 19, 20] _ (by kernel_rfl)) ho J R
      ·
        have h14 : ¬ (t10.2 = true) := ne_true_of_eq_false h12
        rw [if_neg h14] at H
        refine st_skip (by kernel_rfl) ?_
        refine st_seq (C29 [1, 0, 1, 0, 0, 1, 1, 0, 0, 1, 1, 0, 0, 1, 1, 0, 0, 1, 1, 1, 1, 1, 0]) (C29 [1, 0, 1, 0, 0, 1, 1, 0, 0, 1, 1, 0, 0, 1, 1, 0, 0, 1, 1, 1, 1, 1, 1]) (by kernel_rfl) ?_
        refine st_region 12 (opsOf (C29 [1, 0, 1, 0, 0, 1, 1, 0, 0, 1, 1, 0, 0, 1, 1, 0, 0, 1, 1, 1, 1, 1, 0])) [0, 1, 2, 3, 4, 5] (by kernel_rfl) (by kernel_rfl) ?_
        refine st_pure tabOK hk [0] [1, 2, 3, 4, 5] [0, 5, 6, 8, 15, 16, 19, 20, 39] [(0, S p0), (5, .pointer (some ⟨b1, 0, none⟩)), (6, I v4), (8, .pointer (some ⟨b9, 0, none⟩)), (15, .agg #[.bool false, .func (.func 44) #[] #[], .bool true, .func (.func 45) #[] #[], .bool false, .func (.func 46) #[] #[]]), (16, I 0), (19, .agg #[S t2.1, S t2.2.1, S t2.2.2.1, S t2.2.2.2.1, S t2.2.2.2.2.1, S t2.2.2.2.2.2.1, S t2.2.2.2.2.2.2]), (20, I v4), (39, .pointer (some ⟨b1, 1, none⟩))] (((some ⟨b1, 0, none⟩ : Option Addr).isSome = true) ∧ True) (by kernel_rfl) ⟨rfl, trivial⟩ ?_
        clear hk; intro a hk
        refine st_load1 tabOK hk 90 (some ⟨b1, 1, none⟩) 40 (by kernel_rfl) (by kernel_rfl) (.func (.func 44) #[] #[]) (ho.cell 1 rfl rfl) ?_
        clear hk; intro a hk
        refine st_pure tabOK hk [2] [3, 4, 5] [0, 5, 6, 8, 15, 16, 19, 20, 40, 41] [(0, S p0), (5, .pointer (some ⟨b1, 0, none⟩)), (6, I v4), (8, .pointer (some ⟨b9, 0, none⟩)), (15, .agg #[.bool false, .func (.func 44) #[] #[], .bool true, .func (.func 45) #[] #[], .bool false, .func (.func 46) #[] #[]]), (16, I 0), (19, .agg #[S t2.1, S t2.2.1, S t2.2.2.1, S t2.2.2.2.1, S t2.2.2.2.2.1, S t2.2.2.2.2.2.1, S t2.2.2.2.2.2.2]), (20, I v4), (40, .func (.func 44) #[] #[]), (41, .pointer (some ⟨b9, 0, none⟩))] (True) (by kernel_rfl) trivial ?_
        clear hk; intro a hk
        obtain ⟨t15, h16, H⟩ := Option.bind_eq_some_iff.1 H
        refine st_call hk 44 [.pointer (some ⟨b9, 0, none⟩)] (some 42) enters44 (by kernel_rfl) (date_first.ok K  t10.1 t10.2 t15 h16 w b9 (Ows.has (K := [.blk b9 (.cells #[S t10.1, .bool t10.2] 96 (0, 0))]) (L := [.blk b1 (.cells #[.bool false, .func (.func 44) #[] #[]] 92 (0, 0))]) ho)) ?_
        clear hk; rintro a u w ⟨rfl, ho'⟩ hk
        replace ho : Ows [] w0 w [.blk b9 (.cells #[S t15.2.2.2.2.1, .bool t15.2.2.2.2.2] 96 (0, 0)), .blk b1 (.cells #[.bool false, .func (.func 44) #[] #[]] 92 (0, 0))] := Ows.callP (K := [.blk b9 (.cells #[S t10.1, .bool t10.2] 96 (0, 0))]) (L := [.blk b1 (.cells #[.bool false, .func (.func 44) #[] #[]] 92 (0, 0))]) ho ho' rfl; clear ho'
        refine st_new tabOK hk ho #[I 0, I 0, I 0, I 0] 99 9 (by kernel_rfl) ?_
        clear hk ho; intro a b17 w hk ho
        refine st_putA hk ho 0 99 b17 0 [I t15.1, I t15.2.1, I t15.2.2.1, I t15.2.2.2.1] #[I 0, I 0, I 0, I 0] 99 [.blk b17 (.cells #[I t15.1, I t15.2.1, I t15.2.2.1, I t15.2.2.2.1] 99 (0, 0)), .blk b9 (.cells #[S t15.2.2.2.2.1, .bool t15.2.2.2.2.2] 96 (0, 0)), .blk b1 (.cells #[.bool false, .func (.func 44) #[] #[]] 92 (0, 0))] (by kernel_rfl) (by kernel_rfl) (by kernel_rfl) rfl (by kernel_rfl) (by kernel_rfl) rfl ?_
        clear ho; intro w ho
        refine st_done ?_
        refine st_seq (C29 [1, 0, 1, 0, 0, 1, 1, 0, 0, 1, 1, 0, 0, 1, 1, 0, 0, 1, 1, 1, 1, 1, 1, 0]) (C29 [1, 0, 1, 0, 0, 1, 1, 0, 0, 1, 1, 0, 0, 1, 1, 0, 0, 1, 1, 1, 1, 1, 1, 1]) (by kernel_rfl) ?_
        refine st_region 13 (opsOf (C29 [1, 0, 1, 0, 0, 1, 1, 0, 0, 1, 1, 0, 0, 1, 1, 0, 0, 1, 1, 1, 1, 1, 1, 0])) [0, 1, 2, 3, 4, 5, 6, 7, 8, 9, 10, 11] (by kernel_rfl) (by kernel_rfl) ?_
        refine st_pure tabOK hk [0] [1, 2, 3, 4, 5, 6, 7, 8, 9, 10, 11] [0, 5, 6, 8, 9, 15, 16, 19, 20, 44] [(0, S p0), (5, .pointer (some ⟨b1, 0, none⟩)), (6, I v4), (8, .pointer (some ⟨b9, 0, none⟩)), (9, .pointer (some ⟨b17, 0, none⟩)), (15, .agg #[.bool false, .func (.func 44) #[] #[], .bool true, .func (.func 45) #[] #[], .bool false, .func (.func 46) #[] #[]]), (16, I 0), (19, .agg #[S t2.1, S t2.2.1, S t2.2.2.1, S t2.2.2.2.1, S t2.2.2.2.2.1, S t2.2.2.2.2.2.1, S t2.2.2.2.2.2.2]), (20, I v4), (44, .pointer (some ⟨b17, 0, none⟩))] (((some ⟨b17, 0, none⟩ : Option Addr).isSome = true) ∧ True) (by kernel_rfl) ⟨rfl, trivial⟩ ?_
        clear hk; intro a hk
        refine st_load1 tabOK hk 3 (some ⟨b17, 0, none⟩) 45 (by kernel_rfl) (by kernel_rfl) (I t15.1) (ho.cell 0 rfl rfl) ?_
        clear hk; intro a hk
        refine st_pure tabOK hk [2] [3, 4, 5, 6, 7, 8, 9, 10, 11] [0, 5, 6, 8, 9, 15, 16, 19, 20, 45, 46] [(0, S p0), (5, .pointer (some ⟨b1, 0, none⟩)), (6, I v4), (8, .pointer (some ⟨b9, 0, none⟩)), (9, .pointer (some ⟨b17, 0, none⟩)), (15, .agg #[.bool false, .func (.func 44) #[] #[], .bool true, .func (.func 45) #[] #[], .bool false, .func (.func 46) #[] #[]]), (16, I 0), (19, .agg #[S t2.1, S t2.2.1, S t2.2.2.1, S t2.2.2.2.1, S t2.2.2.2.2.1, S t2.2.2.2.2.2.1, S t2.2.2.2.2.2.2]), (20, I v4), (45, I t15.1), (46, .pointer (some ⟨b17, 1, none⟩))] (((some ⟨b17, 0, none⟩ : Option Addr).isSome = true) ∧ True) (by kernel_rfl) ⟨rfl, trivial⟩ ?_
        clear hk; intro a hk
        refine st_load1 tabOK hk 3 (some ⟨b17, 1, none⟩) 47 (by kernel_rfl) (by kernel_rfl) (I t15.2.1) (ho.cell 0 rfl rfl) ?_
        clear hk; intro a hk
        refine st_pure tabOK hk [4] [5, 6, 7, 8, 9, 10, 11] [0, 5, 6, 8, 9, 15, 16, 19, 20, 45, 47, 48] [(0, S p0), (5, .pointer (some ⟨b1, 0, none⟩)), (6, I v4), (8, .pointer (some ⟨b9, 0, none⟩)), (9, .pointer (some ⟨b17, 0, none⟩)), (15, .agg #[.bool false, .func (.func 44) #[] #[], .bool true, .func (.func 45) #[] #[], .bool false, .func (.func 46) #[] #[]]), (16, I 0), (19, .agg #[S t2.1, S t2.2.1, S t2.2.2.1, S t2.2.2.2.1, S t2.2.2.2.2.1, S t2.2.2.2.2.2.1, S t2.2.2.2.2.2.2]), (20, I v4), (45, I t15.1), (47, I t15.2.1), (48, .pointer (some ⟨b17, 2, none⟩))] (((some ⟨b17, 0, none⟩ : Option Addr).isSome = true) ∧ True) (by kernel_rfl) ⟨rfl, trivial⟩ ?_
        clear hk; intro a hk
        refine st_load1 tabOK hk 3 (some ⟨b17, 2, none⟩) 49 (by kernel_rfl) (by kernel_rfl) (I t15.2.2.1) (ho.cell 0 rfl rfl) ?_
        clear hk; intro a hk
        obtain ⟨t18, h19, H⟩ := Option.bind_eq_some_iff.1 H
        refine st_call hk 48 [I t15.1, I t15.2.1, I t15.2.2.1] (some 50) enters48 (by kernel_rfl) (date_Days.ok K  t15.1 t15.2.1 t15.2.2.1 t18 h19 w ) ?_
        clear hk; rintro a u w ⟨rfl, ho'⟩ hk
        replace ho : Ows [] w0 w [.blk b17 (.cells #[I t15.1, I t15.2.1, I t15.2.2.1, I t15.2.2.2.1] 99 (0, 0)), .blk b9 (.cells #[S t15.2.2.2.2.1, .bool t15.2.2.2.2.2] 96 (0, 0)), .blk b1 (.cells #[.bool false, .func (.func 44) #[] #[]] 92 (0, 0))] := ho.call ho'; clear ho'
        refine st_pure tabOK hk [7, 8, 9, 10, 11] [] [0, 5, 6, 8, 9, 10, 11, 15, 16, 19, 20] [(0, S p0), (5, .pointer (some ⟨b1, 0, none⟩)), (6, I v4), (8, .pointer (some ⟨b9, 0, none⟩)), (9, .pointer (some ⟨b17, 0, none⟩)), (10, I t18.1), (11, I t18.2), (15, .agg #[.bool false, .func (.func 44) #[] #[], .bool true, .func (.func 45) #[] #[], .bool false, .func (.func 46) #[] #[]]), (16, I 0), (19, .agg #[S t2.1, S t2.2.1, S t2.2.2.1, S t2.2.2.2.1, S t2.2.2.2.2.1, S t2.2.2.2.2.2.1, S t2.2.2.2.2.2.2]), (20, I v4)] (True) (by kernel_rfl) trivial ?_
        clear hk; intro a hk
        refine st_done ?_
        refine st_seq (C29 [1, 0, 1, 0, 0, 1, 1, 0, 0, 1, 1, 0, 0, 1, 1, 0, 0, 1, 1, 1, 1, 1, 1, 1, 0]) (C29 [1, 0, 1, 0, 0, 1, 1, 0, 0, 1, 1, 0, 0, 1, 1, 0, 0, 1, 1, 1, 1, 1, 1, 1, 1]) (by kernel_rfl) ?_
        refine st_region 14 (opsOf (C29 [1, 0, 1, 0, 0, 1, 1, 0, 0, 1, 1, 0, 0, 1, 1, 0, 0, 1, 1, 1, 1, 1, 1, 1, 0])) [0, 1, 2, 3, 4, 5, 6, 7, 8, 9, 10, 11, 12, 13, 14, 15, 16, 17, 18, 19, 20, 21] (by kernel_rfl) (by kernel_rfl) ?_
        refine st_pure tabOK hk [0, 1, 2] [3, 4, 5, 6, 7, 8, 9, 10, 11, 12, 13, 14, 15, 16, 17, 18, 19, 20, 21] [0, 5, 6, 8, 9, 10, 11, 15, 16, 19, 20, 55] [(0, S p0), (5, .pointer (some ⟨b1, 0, none⟩)), (6, I v4), (8, .pointer (some ⟨b9, 0, none⟩)), (9, .pointer (some ⟨b17, 0, none⟩)), (10, I t18.1), (11, I t18.2), (15, .agg #[.bool false, .func (.func 44) #[] #[], .bool true, .func (.func 45) #[] #[], .bool false, .func (.func 46) #[] #[]]), (16, I 0), (19, .agg #[S t2.1, S t2.2.1, S t2.2.2.1, S t2.2.2.2.1, S t2.2.2.2.2.1, S t2.2.2.2.2.2.1, S t2.2.2.2.2.2.2]), (20, I v4), (55, .pointer (some ⟨b9, 1, none⟩))] (((some ⟨b9, 0, none⟩ : Option Addr).isSome = true) ∧ (((some ⟨b9, 0, none⟩ : Option Addr).isSome = true) ∧ True)) (by kernel_rfl) ⟨rfl, ⟨rfl, trivial⟩⟩ ?_
        clear hk; intro a hk
        refine st_load1 tabOK hk 4 (some ⟨b9, 1, none⟩) 56 (by kernel_rfl) (by kernel_rfl) (.bool t15.2.2.2.2.2) (ho.cell 1 rfl rfl) ?_
        clear hk; intro a hk
        refine st_pure tabOK hk [4, 5] [6, 7, 8, 9, 10, 11, 12, 13, 14, 15, 16, 17, 18, 19, 20, 21] [0, 5, 6, 8, 9, 10, 11, 15, 16, 19, 20, 58] [(0, S p0), (5, .pointer (some ⟨b1, 0, none⟩)), (6, I v4), (8, .pointer (some ⟨b9, 0, none⟩)), (9, .pointer (some ⟨b17, 0, none⟩)), (10, I t18.1), (11, I t18.2), (15, .agg #[.bool false, .func (.func 44) #[] #[], .bool true, .func (.func 45) #[] #[], .bool false, .func (.func 46) #[] #[]]), (16, I 0), (19, .agg #[S t2.1, S t2.2.1, S t2.2.2.1, S t2.2.2.2.1, S t2.2.2.2.2.1, S t2.2.2.2.2.2.1, S t2.2.2.2.2.2.2]), (20, I v4), (58, .bool (!t15.2.2.2.2.2))] (True) (by kernel_rfl) trivial ?_
        clear hk; intro a hk
        obtain ⟨m20, HX, H⟩ := Option.bind_eq_some_iff.1 H
        refine cut_ops (fun a w => Kn 82 a [(0, S p0), (5, .pointer (some ⟨b1, 0, none⟩)), (9, .pointer (some ⟨b17, 0, none⟩)), (10, I t18.1), (15, .agg #[.bool false, .func (.func 44) #[] #[], .bool true, .func (.func 45) #[] #[], .bool false, .func (.func 46) #[] #[]]), (16, I 0), (19, .agg #[S t2.1, S t2.2.1, S t2.2.2.1, S t2.2.2.2.1, S t2.2.2.2.2.1, S t2.2.2.2.2.2.1, S t2.2.2.2.2.2.2]), (20, I v4), (74, .bool m20)] ∧ Ows [] w0 w [.blk b17 (.cells #[I t15.1, I t15.2.1, I t15.2.2.1, I t15.2.2.2.1] 99 (0, 0)), .blk b1 (.cells #[.bool false, .func (.func 44) #[] #[]] 92 (0, 0))]) ?_ ?_
        · intro J; clear H; have H := HX; clear HX
          rcases Bool.eq_false_or_eq_true (!t15.2.2.2.2.2) with h21 | h21
          ·
            rw [h21] at hk
            have h22 : (!t15.2.2.2.2.2) = true := h21
            rw [if_pos h22] at H
            refine st_pure tabOK hk [6, 7, 8] [9, 10, 11, 12, 13, 14, 15, 16, 17, 18, 19, 20, 21] [0, 5, 6, 9, 10, 11, 15, 16, 19, 20, 58, 61] [(0, S p0), (5, .pointer (some ⟨b1, 0, none⟩)), (6, I v4), (9, .pointer (some ⟨b17, 0, none⟩)), (10, I t18.1), (11, I t18.2), (15, .agg #[.bool false, .func (.func 44) #[] #[], .bool true, .func (.func 45) #[] #[], .bool false, .func (.func 46) #[] #[]]), (16, I 0), (19, .agg #[S t2.1, S t2.2.1, S t2.2.2.1, S t2.2.2.2.1, S t2.2.2.2.2.1, S t2.2.2.2.2.2.1, S t2.2.2.2.2.2.2]), (20, I v4), (58, .bool true), (61, .pointer (some ⟨b9, 0, none⟩))] (((some ⟨b9, 0, none⟩ : Option Addr).isSome = true) ∧ (((some ⟨b9, 0, none⟩ : Option Addr).isSome = true) ∧ True)) (by kernel_rfl) ⟨rfl, ⟨rfl, trivial⟩⟩ ?_
            clear hk; intro a hk
            refine st_load1 tabOK hk 9 (some ⟨b9, 0, none⟩) 62 (by kernel_rfl) (by kernel_rfl) (S t15.2.2.2.2.1) (ho.cell 1 rfl rfl) ?_
            clear hk; intro a hk
            refine st_pure tabOK hk [10, 11, 12] [13, 14, 15, 16, 17, 18, 19, 20, 21] [0, 5, 6, 9, 10, 11, 15, 16, 19, 20, 65] [(0, S p0), (5, .pointer (some ⟨b1, 0, none⟩)), (6, I v4), (9, .pointer (some ⟨b17, 0, none⟩)), (10, I t18.1), (11, I t18.2), (15, .agg #[.bool false, .func (.func 44) #[] #[], .bool true, .func (.func 45) #[] #[], .bool false, .func (.func 46) #[] #[]]), (16, I 0), (19, .agg #[S t2.1, S t2.2.1, S t2.2.2.1, S t2.2.2.2.1, S t2.2.2.2.2.1, S t2.2.2.2.2.2.1, S t2.2.2.2.2.2.2]), (20, I v4), (65, .bool (t15.2.2.2.2.1 == ([])))] (True) (by kernel_rfl) trivial ?_
            clear hk; intro a hk
            rcases Bool.eq_false_or_eq_true (t15.2.2.2.2.1 == ([])) with h23 | h23
            ·
              rw [h23] at hk
              have h24 : (t15.2.2.2.2.1 == ([])) = true := h23
              rw [if_pos h24] at H
              refine st_pure tabOK hk [13, 14, 15, 16] [17, 18, 19, 20, 21] [0, 5, 6, 9, 10, 15, 16, 19, 20, 69] [(0, S p0), (5, .pointer (some ⟨b1, 0, none⟩)), (6, I v4), (9, .pointer (some ⟨b17, 0, none⟩)), (10, I t18.1), (15, .agg #[.bool false, .func (.func 44) #[] #[], .bool true, .func (.func 45) #[] #[], .bool false, .func (.func 46) #[] #[]]), (16, I 0), (19, .agg #[S t2.1, S t2.2.1, S t2.2.2.1, S t2.2.2.2.1, S t2.2.2.2.2.1, S t2.2.2.2.2.2.1, S t2.2.2.2.2.2.2]), (20, I v4), (69, .bool (t18.2 == 0))] (True) (by kernel_rfl) trivial ?_
              clear hk; intro a hk
              rcases Bool.eq_false_or_eq_true (t18.2 == 0) with h25 | h25
              ·
                rw [h25] at hk
                have h26 : (t18.2 == 0) = true := h25
                rw [if_pos h26] at H
                refine st_pure tabOK hk [17] [18, 19, 20, 21] [0, 5, 6, 9, 10, 15, 16, 19, 20, 69, 70] [(0, S p0), (5, .pointer (some ⟨b1, 0, none⟩)), (6, I v4), (9, .pointer (some ⟨b17, 0, none⟩)), (10, I t18.1), (15, .agg #[.bool false, .func (.func 44) #[] #[], .bool true, .func (.func 45) #[] #[], .bool false, .func (.func 46) #[] #[]]), (16, I 0), (19, .agg #[S t2.1, S t2.2.1, S t2.2.2.1, S t2.2.2.2.1, S t2.2.2.2.2.1, S t2.2.2.2.2.2.1, S t2.2.2.2.2.2.2]), (20, I v4), (69, .bool true), (70, I t18.1)] (True) (by kernel_rfl) trivial ?_
                clear hk; intro a hk
                obtain ⟨t27, h28, H⟩ := Option.bind_eq_some_iff.1 H
                refine st_call hk 16 [I t18.1] (some 71) enters16 (by kernel_rfl) (date_Weekday.ok  t18.1 t27 h28 w ) ?_
                clear hk; rintro a u w ⟨rfl, ho'⟩ hk
                replace ho : Ows [] w0 w [.blk b17 (.cells #[I t15.1, I t15.2.1, I t15.2.2.1, I t15.2.2.2.1] 99 (0, 0)), .blk b9 (.cells #[S t15.2.2.2.2.1, .bool t15.2.2.2.2.2] 96 (0, 0)), .blk b1 (.cells #[.bool false, .func (.func 44) #[] #[]] 92 (0, 0))] := ho.call ho'; clear ho'
                refine st_pure tabOK hk [19, 20, 21] [] [0, 5, 9, 10, 15, 16, 19, 20, 74] [(0, S p0), (5, .pointer (some ⟨b1, 0, none⟩)), (9, .pointer (some ⟨b17, 0, none⟩)), (10, I t18.1), (15, .agg #[.bool false, .func (.func 44) #[] #[], .bool true, .func (.func 45) #[] #[], .bool false, .func (.func 46) #[] #[]]), (16, I 0), (19, .agg #[S t2.1, S t2.2.1, S t2.2.2.1, S t2.2.2.2.1, S t2.2.2.2.2.1, S t2.2.2.2.2.2.1, S t2.2.2.2.2.2.2]), (20, I v4), (74, .bool (t27 == v4))] (True) (by kernel_rfl) trivial ?_
                clear hk; intro a hk
                refine st_done ?_
                replace ho : Ows [] w0 w [.blk b17 (.cells #[I t15.1, I t15.2.1, I t15.2.2.1, I t15.2.2.2.1] 99 (0, 0)), .blk b1 (.cells #[.bool false, .func (.func 44) #[] #[]] 92 (0, 0))] := ho.erase 1
                obtain rfl := Option.some.inj H
                exact J a w ⟨hk.to [0, 5, 9, 10, 15, 16, 19, 20, 74] _ (by kernel_rfl), ho⟩
              ·
                rw [h25] at hk
                have h29 : ¬ ((t18.2 == 0) = true) := ne_true_of_eq_false h25
                rw [if_neg h29] at H
                refine st_pure tabOK hk [17, 18, 19, 20, 21] [] [0, 5, 9, 10, 15, 16, 19, 20, 74] [(0, S p0), (5, .pointer (some ⟨b1, 0, none⟩)), (9, .pointer (some ⟨b17, 0, none⟩)), (10, I t18.1), (15, .agg #[.bool false, .func (.func 44) #[] #[], .bool true, .func (.func 45) #[] #[], .bool false, .func (.func 46) #[] #[]]), (16, I 0), (19, .agg #[S t2.1, S t2.2.1, S t2.2.2.1, S t2.2.2.2.1, S t2.2.2.2.2.1, S t2.2.2.2.2.2.1, S t2.2.2.2.2.2.2]), (20, I v4), (74, .bool false)] (True) (by kernel_rfl) trivial ?_
                clear hk; intro a hk
                refine st_done ?_
                replace ho : Ows [] w0 w [.blk b17 (.cells #[I t15.1, I t15.2.1, I t15.2.2.1, I t15.2.2.2.1] 99 (0, 0)), .blk b1 (.cells #[.bool false, .func (.func 44) #[] #[]] 92 (0, 0))] := ho.erase 1
                obtain rfl := Option.some.inj H
                exact J a w ⟨hk.to [0, 5, 9, 10, 15, 16, 19, 20, 74] _ (by kernel_rfl), ho⟩
            ·
              rw [h23] at hk
              have h30 : ¬ ((t15.2.2.2.2.1 == ([])) = true) := ne_true_of_eq_false h23
              rw [if_neg h30] at H
              refine st_pure tabOK hk [13, 14, 15, 16, 17, 18, 19, 20, 21] [] [0, 5, 9, 10, 15, 16, 19, 20, 74] [(0, S p0), (5, .pointer (some ⟨b1, 0, none⟩)), (9, .pointer (some ⟨b17, 0, none⟩)), (10, I t18.1), (15, .agg #[.bool false, .func (.func 44) #[] #[], .bool true, .func (.func 45) #[] #[], .bool false, .func (.func 46) #[] #[]]), (16, I 0), (19, .agg #[S t2.1, S t2.2.1, S t2.2.2.1, S t2.2.2.2.1, S t2.2.2.2.2.1, S t2.2.2.2.2.2.1, S t2.2.2.2.2.2.2]), (20, I v4), (74, .bool false)] (True) (by kernel_rfl) trivial ?_
              clear hk; intro a hk
              refine st_done ?_
              replace ho : Ows [] w0 w [.blk b17 (.cells #[I t15.1, I t15.2.1, I t15.2.2.1, I t15.2.2.2.1] 99 (0, 0)), .blk b1 (.cells #[.bool false, .func (.func 44) #[] #[]] 92 (0, 0))] := ho.erase 1
              obtain rfl := Option.some.inj H
              exact J a w ⟨hk.to [0, 5, 9, 10, 15, 16, 19, 20, 74] _ (by kernel_rfl), ho⟩
          ·
            rw [h21] at hk
            have h31 : ¬ ((!t15.2.2.2.2.2) = true) := ne_true_of_eq_false h21
            rw [if_neg h31] at H
            refine st_pure tabOK hk [6, 7, 8, 9, 10, 11, 12, 13, 14, 15, 16, 17, 18, 19, 20, 21] [] [0, 5, 9, 10, 15, 16, 19, 20, 74] [(0, S p0), (5, .pointer (some ⟨b1, 0, none⟩)), (9, .pointer (some ⟨b17, 0, none⟩)), (10, I t18.1), (15, .agg #[.bool false, .func (.func 44) #[] #[], .bool true, .func (.func 45) #[] #[], .bool false, .func (.func 46) #[] #[]]), (16, I 0), (19, .agg #[S t2.1, S t2.2.1, S t2.2.2.1, S t2.2.2.2.1, S t2.2.2.2.2.1, S t2.2.2.2.2.2.1, S t2.2.2.2.2.2.2]), (20, I v4), (74, .bool false)] (True) (by kernel_rfl) trivial ?_
            clear hk; intro a hk
            refine st_done ?_
            replace ho : Ows [] w0 w [.blk b17 (.cells #[I t15.1, I t15.2.1, I t15.2.2.1, I t15.2.2.2.1] 99 (0, 0)), .blk b1 (.cells #[.bool false, .func (.func 44) #[] #[]] 92 (0, 0))] := ho.erase 1
            obtain rfl := Option.some.inj H
            exact J a w ⟨hk.to [0, 5, 9, 10, 15, 16, 19, 20, 74] _ (by kernel_rfl), ho⟩
        · clear HX; rintro a w ⟨hk, ho⟩
          refine st_cond hk (C29 [1, 0, 1, 0, 0, 1, 1, 0, 0, 1, 1, 0, 0, 1, 1, 0, 0, 1, 1, 1, 1, 1, 1, 1, 1, 0]) (C29 [1, 0, 1, 0, 0, 1, 1, 0, 0, 1, 1, 0, 0, 1, 1, 0, 0, 1, 1, 1, 1, 1, 1, 1, 1, 1]) (.tmp 74) (m20) (by kernel_rfl) (by kernel_rfl) (fun h32 => ?_) (fun h32 => ?_)
          ·
            have h33 : m20 = true := h32
            rw [if_pos h33] at H
            refine st_seq (C29 [1, 0, 1, 0, 0, 1, 1, 0, 0, 1, 1, 0, 0, 1, 1, 0, 0, 1, 1, 1, 1, 1, 1, 1, 1, 0, 0]) (C29 [1, 0, 1, 0, 0, 1, 1, 0, 0, 1, 1, 0, 0, 1, 1, 0, 0, 1, 1, 1, 1, 1, 1, 1, 1, 0, 1]) (by kernel_rfl) ?_
            refine st_region 15 (opsOf (C29 [1, 0, 1, 0, 0, 1, 1, 0, 0, 1, 1, 0, 0, 1, 1, 0, 0, 1, 1, 1, 1, 1, 1, 1, 1, 0, 0])) [0, 1, 2, 3, 4, 5, 6] (by kernel_rfl) (by kernel_rfl) ?_
            refine st_pure tabOK hk [0, 1, 2] [3, 4, 5, 6] [76, 77] [(76, I (w64 (t18.1 * 86400))), (77, .pointer (some ⟨b17, 3, none⟩))] (((some ⟨b17, 0, none⟩ : Option Addr).isSome = true) ∧ True) (by kernel_rfl) ⟨rfl, trivial⟩ ?_
            clear hk; intro a hk
            refine st_load1 tabOK hk 3 (some ⟨b17, 3, none⟩) 78 (by kernel_rfl) (by kernel_rfl) (I t15.2.2.2.1) (ho.cell 0 rfl rfl) ?_
            clear hk; intro a hk
            refine st_pure tabOK hk [4, 5, 6] [] [2, 3] [(2, I (w64 ((w64 (t18.1 * 86400)) + t15.2.2.2.1))), (3, I 0)] (True) (by kernel_rfl) trivial ?_
            clear hk; intro a hk
            refine st_done ?_
            refine st_ret (by kernel_rfl) ?_
            replace ho : Ows [] w0 w [.blk b1 (.cells #[.bool false, .func (.func 44) #[] #[]] 92 (0, 0))] := ho.erase 0
            replace ho : Ows [] w0 w [] := ho.erase 0
            obtain rfl := Option.some.inj H
            exact R (w64 ((w64 (t18.1 * 86400)) + t15.2.2.2.1), 0)  a w rfl (hk.to [2, 3] _ (by kernel_rfl)) ho
          ·
            have h34 : ¬ (m20 = true) := ne_true_of_eq_false h32
            rw [if_neg h34] at H
            refine st_skip (by kernel_rfl) ?_
            refine st_endb 3 ?_
            refine st_region 16 (opsOf (C29 [1, 0, 1, 0, 0, 1, 1, 0, 0, 1, 1, 0, 0, 1, 1, 1])) [0, 1] (by kernel_rfl) (by kernel_rfl) ?_
            refine st_pure tabOK hk [0, 1] [] [0, 5, 15, 16, 19, 20] [(0, S p0), (5, .pointer (some ⟨b1, 0, none⟩)), (15, .agg #[.bool false, .func (.func 44) #[] #[], .bool true, .func (.func 45) #[] #[], .bool false, .func (.func 46) #[] #[]]), (16, I 0), (19, .agg #[S t2.1, S t2.2.1, S t2.2.2.1, S t2.2.2.2.1, S t2.2.2.2.2.1, S t2.2.2.2.2.2.1, S t2.2.2.2.2.2.2]), (20, I (w64 (v4 + 1)))] (True) (by kernel_rfl) trivial ?_
            clear hk; intro a hk
            refine st_done ?_
            refine st_inl ?_
            replace ho : Ows [] w0 w [.blk b1 (.cells #[.bool false, .func (.func 44) #[] #[]] 92 (0, 0))] := ho.erase 0
            exact ih p0 t2 (w64 (v4 + 1)) out H b1 w0 Q rest a w  (hk.to [0, 5, 15, 16, 19, 20] _ (by kernel_rfl)) ho J R
    ·
      have h35 : ¬ (v4 < 7) := of_decide_eq_false h5
      rw [if_neg h35] at H
      refine st_exit 2 _ (by kernel_rfl) rfl ?_
      replace ho : Ows [] w0 w [] := ho.erase 0
      obtain rfl := Option.some.inj H
      exact J ()  a w rfl (hk.to [0, 15, 16] _ (by kernel_rfl)) ho

theorem date_Parse.l1_ok (K : Nat) : ∀ (k : Nat) (p0 : Str) (t40 : Str × Str × Str × Str × Str × Str × Str) (v42 : Int) (out : (Unit) ⊕ (Int × Int)), date_Parse.l1 K k p0 t40 v42 = some out → ∀ (b39 : Nat) (w0 : World) (Q : Exit → Act → World → Prop) (rest : List It) (a : Act) (w : World), Kn 82 a [(0, S p0), (5, .pointer (some ⟨b39, 0, none⟩)), (15, .agg #[.bool false, .func (.func 44) #[] #[], .bool true, .func (.func 45) #[] #[], .bool false, .func (.func 46) #[] #[]]), (16, I 1), (19, .agg #[S t40.1, S t40.2.1, S t40.2.2.1, S t40.2.2.2.1, S t40.2.2.2.2.1, S t40.2.2.2.2.2.1, S t40.2.2.2.2.2.2]), (20, I v42)] → Ows [] w0 w [.blk b39 (.cells #[.bool true, .func (.func 45) #[] #[]] 92 (0, 0))] → (∀ (s : Unit) (a : Act) (w : World), out = .inl s → Kn 82 a [(0, S p0), (15, .agg #[.bool false, .func (.func 44) #[] #[], .bool true, .func (.func 45) #[] #[], .bool false, .func (.func 46) #[] #[]]), (16, I 1)] → Ows [] w0 w [] → G Tryd.prog Q rest a w) → (∀ (r : Int × Int) (a : Act) (w : World), out = .inr r → Kn 82 a [(2, I r.1), (3, I r.2)] → Ows [] w0 w [] → Q .ret a w) → G Tryd.prog Q (.code (C29 [1, 0, 1, 0, 0, 1, 1, 0, 0, 1, 1, 0, 0]) :: .inl (C29 [1, 0, 1, 0, 0, 1, 1, 0, 0, 1, 1, 0, 0]) :: .endb 2 :: rest) a w := by
  intro k
  induction k with
  | zero => intro p0 t40 v42 out H; simp [date_Parse.l1] at H
  | succ k ih =>
    intro p0 t40 v42 out H b39 w0 Q rest a w  hk ho J R
    simp only [date_Parse.l1] at H
    refine st_seq (C29 [1, 0, 1, 0, 0, 1, 1, 0, 0, 1, 1, 0, 0, 0]) (C29 [1, 0, 1, 0, 0, 1, 1, 0, 0, 1, 1, 0, 0, 1]) (by kernel_rfl) ?_
    refine st_region 5 (opsOf (C29 [1, 0, 1, 0, 0, 1, 1, 0, 0, 1, 1, 0, 0, 0])) [0] (by kernel_rfl) (by kernel_rfl) ?_
    refine st_pure tabOK hk [0] [] [0, 5, 15, 16, 19, 20, 21] [(0, S p0), (5, .pointer (some ⟨b39, 0, none⟩)), (15, .agg #[.bool false, .func (.func 44) #[] #[], .bool true, .func (.func 45) #[] #[], .bool false, .func (.func 46) #[] #[]]), (16, I 1), (19, .agg #[S t40.1, S t40.2.1, S t40.2.2.1, S t40.2.2.2.1, S t40.2.2.2.2.1, S t40.2.2.2.2.2.1, S t40.2.2.2.2.2.2]), (20, I v42), (21, .bool (decide (v42 < 7)))] (True) (by kernel_rfl) trivial ?_
    clear hk; intro a hk
    refine st_done ?_
    refine st_seq (C29 [1, 0, 1, 0, 0, 1, 1, 0, 0, 1, 1, 0, 0, 1, 0]) (C29 [1, 0, 1, 0, 0, 1, 1, 0, 0, 1, 1, 0, 0, 1, 1]) (by kernel_rfl) ?_
    refine st_cond hk (C29 [1, 0, 1, 0, 0, 1, 1, 0, 0, 1, 1, 0, 0, 1, 0, 0]) (C29 [1, 0, 1, 0, 0, 1, 1, 0, 0, 1, 1, 0, 0, 1, 0, 1]) (.tmp 21) (decide (v42 < 7)) (by kernel_rfl) (by kernel_rfl) (fun h43 => ?_) (fun h43 => ?_)
    ·
      have h44 : v42 < 7 := of_decide_eq_true h43
      rw [if_pos h44] at H
      refine st_skip (by kernel_rfl) ?_
      refine st_seq (C29 [1, 0, 1, 0, 0, 1, 1, 0, 0, 1, 1, 0, 0, 1, 1, 0]) (C29 [1, 0, 1, 0, 0, 1, 1, 0, 0, 1, 1, 0, 0, 1, 1, 1]) (by kernel_rfl) ?_
      refine st_block 3 (C29 [1, 0, 1, 0, 0, 1, 1, 0, 0, 1, 1, 0, 0, 1, 1, 0, 0]) (by kernel_rfl) ?_
      refine st_seq (C29 [1, 0, 1, 0, 0, 1, 1, 0, 0, 1, 1, 0, 0, 1, 1, 0, 0, 0]) (C29 [1, 0, 1, 0, 0, 1, 1, 0, 0, 1, 1, 0, 0, 1, 1, 0, 0, 1]) (by kernel_rfl) ?_
      refine st_region 6 (opsOf (C29 [1, 0, 1, 0, 0, 1, 1, 0, 0, 1, 1, 0, 0, 1, 1, 0, 0, 0])) [0, 1, 2, 3] (by kernel_rfl) (by kernel_rfl) ?_
      have h45 : (0 : Int) ≤ v42 := by
        by_cases h45 : (0 : Int) ≤ v42
        · exact h45
        · rw [if_neg h45] at H; cases H
      rw [if_pos h45] at H
      refine st_pure tabOK hk [0] [1, 2, 3] [0, 5, 15, 16, 19, 20, 22] [(0, S p0), (5, .pointer (some ⟨b39, 0, none⟩)), (15, .agg #[.bool false, .func (.func 44) #[] #[], .bool true, .func (.func 45) #[] #[], .bool false, .func (.func 46) #[] #[]]), (16, I 1), (19, .agg #[S t40.1, S t40.2.1, S t40.2.2.1, S t40.2.2.2.1, S t40.2.2.2.2.1, S t40.2.2.2.2.2.1, S t40.2.2.2.2.2.2]), (20, I v42), (22, I v42)] (True) (by kernel_rfl) trivial ?_
      clear hk; intro a hk
      refine st_yield hk 23 (S (get ([t40.1, t40.2.1, t40.2.2.1, t40.2.2.2.1, t40.2.2.2.2.1, t40.2.2.2.2.2.1, t40.2.2.2.2.2.2] : List (Str)) v42)) (ix1 tabOK 46 9 23 .i64 S ([t40.1, t40.2.1, t40.2.2.1, t40.2.2.2.1, t40.2.2.2.2.1, t40.2.2.2.2.2.1, t40.2.2.2.2.2.2] : List (Str)) v42 7 (by kernel_rfl) (by kernel_rfl) rfl h45 h44) ?_
      clear hk; intro a hk
      refine st_pure tabOK hk [2, 3] [] [0, 5, 6, 7, 15, 16, 19, 20] [(0, S p0), (5, .pointer (some ⟨b39, 0, none⟩)), (6, I v42), (7, S (get ([t40.1, t40.2.1, t40.2.2.1, t40.2.2.2.1, t40.2.2.2.2.1, t40.2.2.2.2.2.1, t40.2.2.2.2.2.2] : List (Str)) v42)), (15, .agg #[.bool false, .func (.func 44) #[] #[], .bool true, .func (.func 45) #[] #[], .bool false, .func (.func 46) #[] #[]]), (16, I 1), (19, .agg #[S t40.1, S t40.2.1, S t40.2.2.1, S t40.2.2.2.1, S t40.2.2.2.2.1, S t40.2.2.2.2.2.1, S t40.2.2.2.2.2.2]), (20, I v42)] (True) (by kernel_rfl) trivial ?_
      clear hk; intro a hk
      refine st_done ?_
      refine st_seq (C29 [1, 0, 1, 0, 0, 1, 1, 0, 0, 1, 1, 0, 0, 1, 1, 0, 0, 1, 0]) (C29 [1, 0, 1, 0, 0, 1, 1, 0, 0, 1, 1, 0, 0, 1, 1, 0, 0, 1, 1]) (by kernel_rfl) ?_
      refine st_seq (C29 [1, 0, 1, 0, 0, 1, 1, 0, 0, 1, 1, 0, 0, 1, 1, 0, 0, 1, 0, 0]) (C29 [1, 0, 1, 0, 0, 1, 1, 0, 0, 1, 1, 0, 0, 1, 1, 0, 0, 1, 0, 1]) (by kernel_rfl) ?_
      refine st_region 7 (opsOf (C29 [1, 0, 1, 0, 0, 1, 1, 0, 0, 1, 1, 0, 0, 1, 1, 0, 0, 1, 0, 0])) [0, 1, 2] (by kernel_rfl) (by kernel_rfl) ?_
      refine st_pure tabOK hk [0] [1, 2] [0, 5, 6, 7, 15, 16, 19, 20, 24] [(0, S p0), (5, .pointer (some ⟨b39, 0, none⟩)), (6, I v42), (7, S (get ([t40.1, t40.2.1, t40.2.2.1, t40.2.2.2.1, t40.2.2.2.2.1, t40.2.2.2.2.2.1, t40.2.2.2.2.2.2] : List (Str)) v42)), (15, .agg #[.bool false, .func (.func 44) #[] #[], .bool true, .func (.func 45) #[] #[], .bool false, .func (.func 46) #[] #[]]), (16, I 1), (19, .agg #[S t40.1, S t40.2.1, S t40.2.2.1, S t40.2.2.2.1, S t40.2.2.2.2.1, S t40.2.2.2.2.2.1, S t40.2.2.2.2.2.2]), (20, I v42), (24, .pointer (some ⟨b39, 0, none⟩))] (((some ⟨b39, 0, none⟩ : Option Addr).isSome = true) ∧ True) (by kernel_rfl) ⟨rfl, trivial⟩ ?_
      clear hk; intro a hk
      refine st_load1 tabOK hk 4 (some ⟨b39, 0, none⟩) 25 (by kernel_rfl) (by kernel_rfl) (.bool true) (ho.cell 0 rfl rfl) ?_
      clear hk; intro a hk
      refine st_pure tabOK hk [2] [] [0, 5, 6, 7, 15, 16, 19, 20, 26] [(0, S p0), (5, .pointer (some ⟨b39, 0, none⟩)), (6, I v42), (7, S (get ([t40.1, t40.2.1, t40.2.2.1, t40.2.2.2.1, t40.2.2.2.2.1, t40.2.2.2.2.2.1, t40.2.2.2.2.2.2] : List (Str)) v42)), (15, .agg #[.bool false, .func (.func 44) #[] #[], .bool true, .func (.func 45) #[] #[], .bool false, .func (.func 46) #[] #[]]), (16, I 1), (19, .agg #[S t40.1, S t40.2.1, S t40.2.2.1, S t40.2.2.2.1, S t40.2.2.2.2.1, S t40.2.2.2.2.2.1, S t40.2.2.2.2.2.2]), (20, I v42), (26, .bool false)] (True) (by kernel_rfl) trivial ?_
      clear hk; intro a hk
      refine st_done ?_
      refine st_cond_false hk (C29 [1, 0, 1, 0, 0, 1, 1, 0, 0, 1, 1, 0, 0, 1, 1, 0, 0, 1, 0, 1, 0]) (C29 [1, 0, 1, 0, 0, 1, 1, 0, 0, 1, 1, 0, 0, 1, 1, 0, 0, 1, 0, 1, 1]) (.tmp 26) (by kernel_rfl) (by kernel_rfl) ?_
      refine st_skip (by kernel_rfl) ?_
      refine st_seq (C29 [1, 0, 1, 0, 0, 1, 1, 0, 0, 1, 1, 0, 0, 1, 1, 0, 0, 1, 1, 0]) (C29 [1, 0, 1, 0, 0, 1, 1, 0, 0, 1, 1, 0, 0, 1, 1, 0, 0, 1, 1, 1]) (by kernel_rfl) ?_
      refine st_region 9 (opsOf (C29 [1, 0, 1, 0, 0, 1, 1, 0, 0, 1, 1, 0, 0, 1, 1, 0, 0, 1, 1, 0])) [0, 1, 2, 3] (by kernel_rfl) (by kernel_rfl) ?_
      refine st_pure tabOK hk [0, 1] [2, 3] [0, 5, 6, 7, 15, 16, 19, 20, 30] [(0, S p0), (5, .pointer (some ⟨b39, 0, none⟩)), (6, I v42), (7, S (get ([t40.1, t40.2.1, t40.2.2.1, t40.2.2.2.1, t40.2.2.2.2.1, t40.2.2.2.2.2.1, t40.2.2.2.2.2.2] : List (Str)) v42)), (15, .agg #[.bool false, .func (.func 44) #[] #[], .bool true, .func (.func 45) #[] #[], .bool false, .func (.func 46) #[] #[]]), (16, I 1), (19, .agg #[S t40.1, S t40.2.1, S t40.2.2.1, S t40.2.2.2.1, S t40.2.2.2.2.1, S t40.2.2.2.2.2.1, S t40.2.2.2.2.2.2]), (20, I v42), (30, .agg #[S p0, .bool false])] (True) (by kernel_rfl) trivial ?_
      clear hk; intro a hk
      refine st_new tabOK hk ho #[S p0, .bool false] 96 31 (by kernel_rfl) ?_
      clear hk ho; intro a b46 w hk ho
      refine st_pure tabOK hk [3] [] [0, 5, 6, 7, 8, 15, 16, 19, 20] [(0, S p0), (5, .pointer (some ⟨b39, 0, none⟩)), (6, I v42), (7, S (get ([t40.1, t40.2.1, t40.2.2.1, t40.2.2.2.1, t40.2.2.2.2.1, t40.2.2.2.2.2.1, t40.2.2.2.2.2.2] : List (Str)) v42)), (8, .pointer (some ⟨b46, 0, none⟩)), (15, .agg #[.bool false, .func (.func 44) #[] #[], .bool true, .func (.func 45) #[] #[], .bool false, .func (.func 46) #[] #[]]), (16, I 1), (19, .agg #[S t40.1, S t40.2.1, S t40.2.2.1, S t40.2.2.2.1, S t40.2.2.2.2.1, S t40.2.2.2.2.2.1, S t40.2.2.2.2.2.2]), (20, I v42)] (True) (by kernel_rfl) trivial ?_
      clear hk; intro a hk
      refine st_done ?_
      refine st_seq (C29 [1, 0, 1, 0, 0, 1, 1, 0, 0, 1, 1, 0, 0, 1, 1, 0, 0, 1, 1, 1, 0]) (C29 [1, 0, 1, 0, 0, 1, 1, 0, 0, 1, 1, 0, 0, 1, 1, 0, 0, 1, 1, 1, 1]) (by kernel_rfl) ?_
      refine st_region 10 (opsOf (C29 [1, 0, 1, 0, 0, 1, 1, 0, 0, 1, 1, 0, 0, 1, 1, 0, 0, 1, 1, 1, 0])) [0, 1, 2] (by kernel_rfl) (by kernel_rfl) ?_
      refine st_pure tabOK hk [0, 1] [2] [0, 5, 6, 8, 15, 16, 19, 20, 32, 33] [(0, S p0), (5, .pointer (some ⟨b39, 0, none⟩)), (6, I v42), (8, .pointer (some ⟨b46, 0, none⟩)), (15, .agg #[.bool false, .func (.func 44) #[] #[], .bool true, .func (.func 45) #[] #[], .bool false, .func (.func 46) #[] #[]]), (16, I 1), (19, .agg #[S t40.1, S t40.2.1, S t40.2.2.1, S t40.2.2.2.1, S t40.2.2.2.2.1, S t40.2.2.2.2.2.1, S t40.2.2.2.2.2.2]), (20, I v42), (32, .pointer (some ⟨b46, 0, none⟩)), (33, S (get ([t40.1, t40.2.1, t40.2.2.1, t40.2.2.2.1, t40.2.2.2.2.1, t40.2.2.2.2.2.1, t40.2.2.2.2.2.2] : List (Str)) v42))] (True) (by kernel_rfl) trivial ?_
      clear hk; intro a hk
      obtain ⟨t47, h48, H⟩ := Option.bind_eq_some_iff.1 H
      refine st_call hk 47 [.pointer (some ⟨b46, 0, none⟩), S (get ([t40.1, t40.2.1, t40.2.2.1, t40.2.2.2.1, t40.2.2.2.2.1, t40.2.2.2.2.2.1, t40.2.2.2.2.2.2] : List (Str)) v42)] (some 34) enters47 (by kernel_rfl) (date_scan_word.ok  p0 false (get ([t40.1, t40.2.1, t40.2.2.1, t40.2.2.2.1, t40.2.2.2.2.1, t40.2.2.2.2.2.1, t40.2.2.2.2.2.2] : List (Str)) v42) t47 h48 w b46 (Ows.has (K := [.blk b46 (.cells #[S p0, .bool false] 96 (0, 0))]) (L := [.blk b39 (.cells #[.bool true, .func (.func 45) #[] #[]] 92 (0, 0))]) ho)) ?_
      clear hk; rintro a u w ⟨rfl, ho'⟩ hk
      replace ho : Ows [] w0 w [.blk b46 (.cells #[S t47.1, .bool t47.2] 96 (0, 0)), .blk b39 (.cells #[.bool true, .func (.func 45) #[] #[]] 92 (0, 0))] := Ows.callP (K := [.blk b46 (.cells #[S p0, .bool false] 96 (0, 0))]) (L := [.blk b39 (.cells #[.bool true, .func (.func 45) #[] #[]] 92 (0, 0))]) ho ho' rfl; clear ho'
      refine st_done ?_
      refine st_seq (C29 [1, 0, 1, 0, 0, 1, 1, 0, 0, 1, 1, 0, 0, 1, 1, 0, 0, 1, 1, 1, 1, 0]) (C29 [1, 0, 1, 0, 0, 1, 1, 0, 0, 1, 1, 0, 0, 1, 1, 0, 0, 1, 1, 1, 1, 1]) (by kernel_rfl) ?_
      refine st_seq (C29 [1, 0, 1, 0, 0, 1, 1, 0, 0, 1, 1, 0, 0, 1, 1, 0, 0, 1, 1, 1, 1, 0, 0]) (C29 [1, 0, 1, 0, 0, 1, 1, 0, 0, 1, 1, 0, 0, 1, 1, 0, 0, 1, 1, 1, 1, 0, 1]) (by kernel_rfl) ?_
      refine st_region 11 (opsOf (C29 [1, 0, 1, 0, 0, 1, 1, 0, 0, 1, 1, 0, 0, 1, 1, 0, 0, 1, 1, 1, 1, 0, 0])) [0, 1, 2, 3] (by kernel_rfl) (by kernel_rfl) ?_
      refine st_pure tabOK hk [0, 1, 2] [3] [0, 5, 6, 8, 15, 16, 19, 20, 37] [(0, S p0), (5, .pointer (some ⟨b39, 0, none⟩)), (6, I v42), (8, .pointer (some ⟨b46, 0, none⟩)), (15, .agg #[.bool false, .func (.func 44) #[] #[], .bool true, .func (.func 45) #[] #[], .bool false, .func (.func 46) #[] #[]]), (16, I 1), (19, .agg #[S t40.1, S t40.2.1, S t40.2.2.1, S t40.2.2.2.1, S t40.2.2.2.2.1, S t40.2.2.2.2.2.1, S t40.2.2.2.2.2.2]), (20, I v42), (37, .pointer (some ⟨b46, 1, none⟩))] (((some ⟨b46, 0, none⟩ : Option Addr).isSome = true) ∧ (((some ⟨b46, 0, none⟩ : Option Addr).isSome = true) ∧ True)) (by kernel_rfl) ⟨rfl, ⟨rfl, trivial⟩⟩ ?_
      clear hk; intro a hk
      refine st_load1 tabOK hk 4 (some ⟨b46, 1, none⟩) 38 (by kernel_rfl) (by kernel_rfl) (.bool t47.2) (ho.cell 0 rfl rfl) ?_
      clear hk; intro a hk
      refine st_done ?_
      refine st_cond hk (C29 [1, 0, 1, 0, 0, 1, 1, 0, 0, 1, 1, 0, 0, 1, 1, 0, 0, 1, 1, 1, 1, 0, 1, 0]) (C29 [1, 0, 1, 0, 0, 1, 1, 0, 0, 1, 1, 0, 0, 1, 1, 0, 0, 1, 1, 1, 1, 0, 1, 1]) (.tmp 38) (t47.2) (by kernel_rfl) (by kernel_rfl) (fun h49 => ?_) (fun h49 => ?_)
      ·
        have h50 : t47.2 = true := h49
        rw [if_pos h50] at H
        refine st_exit 3 _ (by kernel_rfl) rfl ?_
        refine st_region 16 (opsOf (C29 [1, 0, 1, 0, 0, 1, 1, 0, 0, 1, 1, 0, 0, 1, 1, 1])) [0, 1] (by kernel_rfl) (by kernel_rfl) ?_
        refine st_pure tabOK hk [0, 1] [] [0, 5, 15, 16, 19, 20] [(0, S p0), (5, .pointer (some ⟨b39, 0, none⟩)), (15, .agg #[.bool false, .func (.func 44) #[] #[], .bool true, .func (.func 45) #[] #[], .bool false, .func (.func 46) #[] #[]]), (16, I 1), (19, .agg #[S t40.1, S t40.2.1, S t40.2.2.1, S t40.2.2.2.1, S t40.2.2.2.2.1, S t40.2.2.2.2.2.1, S t40.2.2.2.2.2.2]), (20, I (w64 (v42 + 1)))] (True) (by kernel_rfl) trivial ?_
        clear hk; intro a hk
        refine st_done ?_
        refine st_inl ?_
        replace ho : Ows [] w0 w [.blk b39 (.cells #[.bool true, .func (.func 45) #[] #[]] 92 (0, 0))] := ho.erase 0
        exact ih p0 t40 (w64 (v42 + 1)) out H b39 w0 Q rest a w  (hk.to [0, 5, 15, 16, 19, 20] _ (by kernel_rfl)) ho J R
      ·
        have h51 : ¬ (t47.2 = true) := ne_true_of_eq_false h49
        rw [if_neg h51] at H
        refine st_skip (by kernel_rfl) ?_
        refine st_seq (C29 [1, 0, 1, 0, 0, 1, 1, 0, 0, 1, 1, 0, 0, 1, 1, 0, 0, 1, 1, 1, 1, 1, 0]) (C29 [1, 0, 1, 0, 0, 1, 1, 0, 0, 1, 1, 0, 0, 1, 1, 0, 0, 1, 1, 1, 1, 1, 1]) (by kernel_rfl) ?_
        refine st_region 12 (opsOf (C29 [1, 0, 1, 0, 0, 1, 1, 0, 0, 1, 1, 0, 0, 1, 1, 0, 0, 1, 1, 1, 1, 1, 0])) [0, 1, 2, 3, 4, 5] (by kernel_rfl) (by kernel_rfl) ?_
        refine st_pure tabOK hk [0] [1, 2, 3, 4, 5] [0, 5, 6, 8, 15, 16, 19, 20, 39] [(0, S p0), (5, .pointer (some ⟨b39, 0, none⟩)), (6, I v42), (8, .pointer (some ⟨b46, 0, none⟩)), (15, .agg #[.bool false, .func (.func 44) #[] #[], .bool true, .func (.func 45) #[] #[], .bool false, .func (.func 46) #[] #[]]), (16, I 1), (19, .agg #[S t40.1, S t40.2.1, S t40.2.2.1, S t40.2.2.2.1, S t40.2.2.2.2.1, S t40.2.2.2.2.2.1, S t40.2.2.2.2.2.2]), (20, I v42), (39, .pointer (some ⟨b39, 1, none⟩))] (((some ⟨b39, 0, none⟩ : Option Addr).isSome = true) ∧ True) (by kernel_rfl) ⟨rfl, trivial⟩ ?_
        clear hk; intro a hk
        refine st_load1 tabOK hk 90 (some ⟨b39, 1, none⟩) 40 (by kernel_rfl) (by kernel_rfl) (.func (.func 45) #[] #[]) (ho.cell 1 rfl rfl) ?_
        clear hk; intro a hk
        refine st_pure tabOK hk [2] [3, 4, 5] [0, 5, 6, 8, 15, 16, 19, 20, 40, 41] [(0, S p0), (5, .pointer (some ⟨b39, 0, none⟩)), (6, I v42), (8, .pointer (some ⟨b46, 0, none⟩)), (15, .agg #[.bool false, .func (.func 44) #[] #[], .bool true, .func (.func 45) #[] #[], .bool false, .func (.func 46) #[] #[]]), (16, I 1), (19, .agg #[S t40.1, S t40.2.1, S t40.2.2.1, S t40.2.2.2.1, S t40.2.2.2.2.1, S t40.2.2.2.2.2.1, S t40.2.2.2.2.2.2]), (20, I v42), (40, .func (.func 45) #[] #[]), (41, .pointer (some ⟨b46, 0, none⟩))] (True) (by kernel_rfl) trivial ?_
        clear hk; intro a hk
        obtain ⟨t52, h53, H⟩ := Option.bind_eq_some_iff.1 H
        refine st_call hk 45 [.pointer (some ⟨b46, 0, none⟩)] (some 42) enters45 (by kernel_rfl) (date_second.ok K  t47.1 t47.2 t52 h53 w b46 (Ows.has (K := [.blk b46 (.cells #[S t47.1, .bool t47.2] 96 (0, 0))]) (L := [.blk b39 (.cells #[.bool true, .func (.func 45) #[] #[]] 92 (0, 0))]) ho)) ?_
        clear hk; rintro a u w ⟨rfl, ho'⟩ hk
        replace ho : Ows [] w0 w [.blk b46 (.cells #[S t52.2.2.2.2.1, .bool t52.2.2.2.2.2] 96 (0, 0)), .blk b39 (.cells #[.bool true, .func (.func 45) #[] #[]] 92 (0, 0))] := Ows.callP (K := [.blk b46 (.cells #[S t47.1, .bool t47.2] 96 (0, 0))]) (L := [.blk b39 (.cells #[.bool true, .func (.func 45) #[] #[]] 92 (0, 0))]) ho ho' rfl; clear ho'
        refine st_new tabOK hk ho #[I 0, I 0, I 0, I 0] 99 9 (by kernel_rfl) ?_
        clear hk ho; intro a b54 w hk ho
        refine st_putA hk ho 0 99 b54 0 [I t52.1, I t52.2.1, I t52.2.2.1, I t52.2.2.2.1] #[I 0, I 0, I 0, I 0] 99 [.blk b54 (.cells #[I t52.1, I t52.2.1, I t52.2.2.1, I t52.2.2.2.1] 99 (0, 0)), .blk b46 (.cells #[S t52.2.2.2.2.1, .bool t52.2.2.2.2.2] 96 (0, 0)), .blk b39 (.cells #[.bool true, .func (.func 45) #[] #[]] 92 (0, 0))] (by kernel_rfl) (by kernel_rfl) (by kernel_rfl) rfl (by kernel_rfl) (by kernel_rfl) rfl ?_
        clear ho; intro w ho
        refine st_done ?_
        refine st_seq (C29 [1, 0, 1, 0, 0, 1, 1, 0, 0, 1, 1, 0, 0, 1, 1, 0, 0, 1, 1, 1, 1, 1, 1, 0]) (C29 [1, 0, 1, 0, 0, 1, 1, 0, 0, 1, 1, 0, 0, 1, 1, 0, 0, 1, 1, 1, 1, 1, 1, 1]) (by kernel_rfl) ?_
        refine st_region 13 (opsOf (C29 [1, 0, 1, 0, 0, 1, 1, 0, 0, 1, 1, 0, 0, 1, 1, 0, 0, 1, 1, 1, 1, 1, 1, 0])) [0, 1, 2, 3, 4, 5, 6, 7, 8, 9, 10, 11] (by kernel_rfl) (by kernel_rfl) ?_
        refine st_pure tabOK hk [0] [1, 2, 3, 4, 5, 6, 7, 8, 9, 10, 11] [0, 5, 6, 8, 9, 15, 16, 19, 20, 44] [(0, S p0), (5, .pointer (some ⟨b39, 0, none⟩)), (6, I v42), (8, .pointer (some ⟨b46, 0, none⟩)), (9, .pointer (some ⟨b54, 0, none⟩)), (15, .agg #[.bool false, .func (.func 44) #[] #[], .bool true, .func (.func 45) #[] #[], .bool false, .func (.func 46) #[] #[]]), (16, I 1), (19, .agg #[S t40.1, S t40.2.1, S t40.2.2.1, S t40.2.2.2.1, S t40.2.2.2.2.1, S t40.2.2.2.2.2.1, S t40.2.2.2.2.2.2]), (20, I v42), (44, .pointer (some ⟨b54, 0, none⟩))] (((some ⟨b54, 0, none⟩ : Option Addr).isSome = true) ∧ True) (by kernel_rfl) ⟨rfl, trivial⟩ ?_
        clear hk; intro a hk
        refine st_load1 tabOK hk 3 (some ⟨b54, 0, none⟩) 45 (by kernel_rfl) (by kernel_rfl) (I t52.1) (ho.cell 0 rfl rfl) ?_
        clear hk; intro a hk
        refine st_pure tabOK hk [2] [3, 4, 5, 6, 7, 8, 9, 10, 11] [0, 5, 6, 8, 9, 15, 16, 19, 20, 45, 46] [(0, S p0), (5, .pointer (some ⟨b39, 0, none⟩)), (6, I v42), (8, .pointer (some ⟨b46, 0, none⟩)), (9, .pointer (some ⟨b54, 0, none⟩)), (15, .agg #[.bool false, .func (.func 44) #[] #[], .bool true, .func (.func 45) #[] #[], .bool false, .func (.func 46) #[] #[]]), (16, I 1), (19, .agg #[S t40.1, S t40.2.1, S t40.2.2.1, S t40.2.2.2.1, S t40.2.2.2.2.1, S t40.2.2.2.2.2.1, S t40.2.2.2.2.2.2]), (20, I v42), (45, I t52.1), (46, .pointer (some ⟨b54, 1, none⟩))] (((some ⟨b54, 0, none⟩ : Option Addr).isSome = true) ∧ True) (by kernel_rfl) ⟨rfl, trivial⟩ ?_
        clear hk; intro a hk
        refine st_load1 tabOK hk 3 (some ⟨b54, 1, none⟩) 47 (by kernel_rfl) (by kernel_rfl) (I t52.2.1) (ho.cell 0 rfl rfl) ?_
        clear hk; intro a hk
        refine st_pure tabOK hk [4] [5, 6, 7, 8, 9, 10, 11] [0, 5, 6, 8, 9, 15, 16, 19, 20, 45, 47, 48] [(0, S p0), (5, .pointer (some ⟨b39, 0, none⟩)), (6, I v42), (8, .pointer (some ⟨b46, 0, none⟩)), (9, .pointer (some ⟨b54, 0, none⟩)), (15, .agg #[.bool false, .func (.func 44) #[] #[], .bool true, .func (.func 45) #[] #[], .bool false, .func (.func 46) #[] #[]]), (16, I 1), (19, .agg #[S t40.1, S t40.2.1, S t40.2.2.1, S t40.2.2.2.1, S t40.2.2.2.2.1, S t40.2.2.2.2.2.1, S t40.2.2.2.2.2.2]), (20, I v42), (45, I t52.1), (47, I t52.2.1), (48, .pointer (some ⟨b54, 2, none⟩))] (((some ⟨b54, 0, none⟩ : Option Addr).isSome = true) ∧ True) (by kernel_rfl) ⟨rfl, trivial⟩ ?_
        clear hk; intro a hk
        refine st_load1 tabOK hk 3 (some ⟨b54, 2, none⟩) 49 (by kernel_rfl) (by kernel_rfl) (I t52.2.2.1) (ho.cell 0 rfl rfl) ?_
        clear hk; intro a hk
        obtain ⟨t55, h56, H⟩ := Option.bind_eq_some_iff.1 H
        refine st_call hk 48 [I t52.1, I t52.2.1, I t52.2.2.1] (some 50) enters48 (by kernel_rfl) (date_Days.ok K  t52.1 t52.2.1 t52.2.2.1 t55 h56 w ) ?_
        clear hk; rintro a u w ⟨rfl, ho'⟩ hk
        replace ho : Ows [] w0 w [.blk b54 (.cells #[I t52.1, I t52.2.1, I t52.2.2.1, I t52.2.2.2.1] 99 (0, 0)), .blk b46 (.cells #[S t52.2.2.2.2.1, .bool t52.2.2.2.2.2] 96 (0, 0)), .blk b39 (.cells #[.bool true, .func (.func 45) #[] #[]] 92 (0, 0))] := ho.call ho'; clear ho'
        refine st_pure tabOK hk [7, 8, 9, 10, 11] [] [0, 5, 6, 8, 9, 10, 11, 15, 16, 19, 20] [(0, S p0), (5, .pointer (some ⟨b39, 0, none⟩)), (6, I v42), (8, .pointer (some ⟨b46, 0, none⟩)), (9, .pointer (some ⟨b54, 0, none⟩)), (10, I t55.1), (11, I t55.2), (15, .agg #[.bool false, .func (.func 44) #[] #[], .bool true, .func (.func 45) #[] #[], .bool false, .func (.func 46) #[] #[]]), (16, I 1), (19, .agg #[S t40.1, S t40.2.1, S t40.2.2.1, S t40.2.2.2.1, S t40.2.2.2.2.1, S t40.2.2.2.2.2.1, S t40.2.2.2.2.2.2]), (20, I v42)] (True) (by kernel_rfl) trivial ?_
        clear hk; intro a hk
        refine st_done ?_
        refine st_seq (C29 [1, 0, 1, 0, 0, 1, 1, 0, 0, 1, 1, 0, 0, 1, 1, 0, 0, 1, 1, 1, 1, 1, 1, 1, 0]) (C29 [1, 0, 1, 0, 0, 1, 1, 0, 0, 1, 1, 0, 0, 1, 1, 0, 0, 1, 1, 1, 1, 1, 1, 1, 1]) (by kernel_rfl) ?_
        refine st_region 14 (opsOf (C29 [1, 0, 1, 0, 0, 1, 1, 0, 0, 1, 1, 0, 0, 1, 1, 0, 0, 1, 1, 1, 1, 1, 1, 1, 0])) [0, 1, 2, 3, 4, 5, 6, 7, 8, 9, 10, 11, 12, 13, 14, 15, 16, 17, 18, 19, 20, 21] (by kernel_rfl) (by kernel_rfl) ?_
        refine st_pure tabOK hk [0, 1, 2] [3, 4, 5, 6, 7, 8, 9, 10, 11, 12, 13, 14, 15, 16, 17, 18, 19, 20, 21] [0, 5, 6, 8, 9, 10, 11, 15, 16, 19, 20, 55] [(0, S p0), (5, .pointer (some ⟨b39, 0, none⟩)), (6, I v42), (8, .pointer (some ⟨b46, 0, none⟩)), (9, .pointer (some ⟨b54, 0, none⟩)), (10, I t55.1), (11, I t55.2), (15, .agg #[.bool false, .func (.func 44) #[] #[], .bool true, .func (.func 45) #[] #[], .bool false, .func (.func 46) #[] #[]]), (16, I 1), (19, .agg #[S t40.1, S t40.2.1, S t40.2.2.1, S t40.2.2.2.1, S t40.2.2.2.2.1, S t40.2.2.2.2.2.1, S t40.2.2.2.2.2.2]), (20, I v42), (55, .pointer (some ⟨b46, 1, none⟩))] (((some ⟨b46, 0, none⟩ : Option Addr).isSome = true) ∧ (((some ⟨b46, 0, none⟩ : Option Addr).isSome = true) ∧ True)) (by kernel_rfl) ⟨rfl, ⟨rfl, trivial⟩⟩ ?_
        clear hk; intro a hk
        refine st_load1 tabOK hk 4 (some ⟨b46, 1, none⟩) 56 (by kernel_rfl) (by kernel_rfl) (.bool t52.2.2.2.2.2) (ho.cell 1 rfl rfl) ?_
        clear hk; intro a hk
        refine st_pure tabOK hk [4, 5] [6, 7, 8, 9, 10, 11, 12, 13, 14, 15, 16, 17, 18, 19, 20, 21] [0, 5, 6, 8, 9, 10, 11, 15, 16, 19, 20, 58] [(0, S p0), (5, .pointer (some ⟨b39, 0, none⟩)), (6, I v42), (8, .pointer (some ⟨b46, 0, none⟩)), (9, .pointer (some ⟨b54, 0, none⟩)), (10, I t55.1), (11, I t55.2), (15, .agg #[.bool false, .func (.func 44) #[] #[], .bool true, .func (.func 45) #[] #[], .bool false, .func (.func 46) #[] #[]]), (16, I 1), (19, .agg #[S t40.1, S t40.2.1, S t40.2.2.1, S t40.2.2.2.1, S t40.2.2.2.2.1, S t40.2.2.2.2.2.1, S t40.2.2.2.2.2.2]), (20, I v42), (58, .bool (!t52.2.2.2.2.2))] (True) (by kernel_rfl) trivial ?_
        clear hk; intro a hk
        obtain ⟨m57, HX, H⟩ := Option.bind_eq_some_iff.1 H
        refine cut_ops (fun a w => Kn 82 a [(0, S p0), (5, .pointer (some ⟨b39, 0, none⟩)), (9, .pointer (some ⟨b54, 0, none⟩)), (10, I t55.1), (15, .agg #[.bool false, .func (.func 44) #[] #[], .bool true, .func (.func 45) #[] #[], .bool false, .func (.func 46) #[] #[]]), (16, I 1), (19, .agg #[S t40.1, S t40.2.1, S t40.2.2.1, S t40.2.2.2.1, S t40.2.2.2.2.1, S t40.2.2.2.2.2.1, S t40.2.2.2.2.2.2]), (20, I v42), (74, .bool m57)] ∧ Ows [] w0 w [.blk b54 (.cells #[I t52.1, I t52.2.1, I t52.2.2.1, I t52.2.2.2.1] 99 (0, 0)), .blk b39 (.cells #[.bool true, .func (.func 45) #[] #[]] 92 (0, 0))]) ?_ ?_
        · intro J; clear H; have H := HX; clear HX
          rcases Bool.eq_false_or_eq_true (!t52.2.2.2.2.2) with h58 | h58
          ·
            rw [h58] at hk
            have h59 : (!t52.2.2.2.2.2) = true := h58
            rw [if_pos h59] at H
            refine st_pure tabOK hk [6, 7, 8] [9, 10, 11, 12, 13, 14, 15, 16, 17, 18, 19, 20, 21] [0, 5, 6, 9, 10, 11, 15, 16, 19, 20, 58, 61] [(0, S p0), (5, .pointer (some ⟨b39, 0, none⟩)), (6, I v42), (9, .pointer (some ⟨b54, 0, none⟩)), (10, I t55.1), (11, I t55.2), (15, .agg #[.bool false, .func (.func 44) #[] #[], .bool true, .func (.func 45) #[] #[], .bool false, .func (.func 46) #[] #[]]), (16, I 1), (19, .agg #[S t40.1, S t40.2.1, S t40.2.2.1, S t40.2.2.2.1, S t40.2.2.2.2.1, S t40.2.2.2.2.2.1, S t40.2.2.2.2.2.2]), (20, I v42), (58, .bool true), (61, .pointer (some ⟨b46, 0, none⟩))] (((some ⟨b46, 0, none⟩ : Option Addr).isSome = true) ∧ (((some ⟨b46, 0, none⟩ : Option Addr).isSome = true) ∧ True)) (by kernel_rfl) ⟨rfl, ⟨rfl, trivial⟩⟩ ?_
            clear hk; intro a hk
            refine st_load1 tabOK hk 9 (some ⟨b46, 0, none⟩) 62 (by kernel_rfl) (by kernel_rfl) (S t52.2.2.2.2.1) (ho.cell 1 rfl rfl) ?_
            clear hk; intro a hk
            refine st_pure tabOK hk [10, 11, 12] [13, 14, 15, 16, 17, 18, 19, 20, 21] [0, 5, 6, 9, 10, 11, 15, 16, 19, 20, 65] [(0, S p0), (5, .pointer (some ⟨b39, 0, none⟩)), (6, I v42), (9, .pointer (some ⟨b54, 0, none⟩)), (10, I t55.1), (11, I t55.2), (15, .agg #[.bool false, .func (.func 44) #[] #[], .bool true, .func (.func 45) #[] #[], .bool false, .func (.func 46) #[] #[]]), (16, I 1), (19, .agg #[S t40.1, S t40.2.1, S t40.2.2.1, S t40.2.2.2.1, S t40.2.2.2.2.1, S t40.2.2.2.2.2.1, S t40.2.2.2.2.2.2]), (20, I v42), (65, .bool (t52.2.2.2.2.1 == ([])))] (True) (by kernel_rfl) trivial ?_
            clear hk; intro a hk
            rcases Bool.eq_false_or_eq_true (t52.2.2.2.2.1 == ([])) with h60 | h60
            ·
              rw [h60] at hk
              have h61 : (t52.2.2.2.2.1 == ([])) = true := h60
              rw [if_pos h61] at H
              refine st_pure tabOK hk [13, 14, 15, 16] [17, 18, 19, 20, 21] [0, 5, 6, 9, 10, 15, 16, 19, 20, 69] [(0, S p0), (5, .pointer (some ⟨b39, 0, none⟩)), (6, I v42), (9, .pointer (some ⟨b54, 0, none⟩)), (10, I t55.1), (15, .agg #[.bool false, .func (.func 44) #[] #[], .bool true, .func (.func 45) #[] #[], .bool false, .func (.func 46) #[] #[]]), (16, I 1), (19, .agg #[S t40.1, S t40.2.1, S t40.2.2.1, S t40.2.2.2.1, S t40.2.2.2.2.1, S t40.2.2.2.2.2.1, S t40.2.2.2.2.2.2]), (20, I v42), (69, .bool (t55.2 == 0))] (True) (by kernel_rfl) trivial ?_
              clear hk; intro a hk
              rcases Bool.eq_false_or_eq_true (t55.2 == 0) with h62 | h62
              ·
                rw [h62] at hk
                have h63 : (t55.2 == 0) = true := h62
                rw [if_pos h63] at H
                refine st_pure tabOK hk [17] [18, 19, 20, 21] [0, 5, 6, 9, 10, 15, 16, 19, 20, 69, 70] [(0, S p0), (5, .pointer (some ⟨b39, 0, none⟩)), (6, I v42), (9, .pointer (some ⟨b54, 0, none⟩)), (10, I t55.1), (15, .agg #[.bool false, .func (.func 44) #[] #[], .bool true, .func (.func 45) #[] #[], .bool false, .func (.func 46) #[] #[]]), (16, I 1), (19, .agg #[S t40.1, S t40.2.1, S t40.2.2.1, S t40.2.2.2.1, S t40.2.2.2.2.1, S t40.2.2.2.2.2.1, S t40.2.2.2.2.2.2]), (20, I v42), (69, .bool true), (70, I t55.1)] (True) (by kernel_rfl) trivial ?_
                clear hk; intro a hk
                obtain ⟨t64, h65, H⟩ := Option.bind_eq_some_iff.1 H
                refine st_call hk 16 [I t55.1] (some 71) enters16 (by kernel_rfl) (date_Weekday.ok  t55.1 t64 h65 w ) ?_
                clear hk; rintro a u w ⟨rfl, ho'⟩ hk
                replace ho : Ows [] w0 w [.blk b54 (.cells #[I t52.1, I t52.2.1, I t52.2.2.1, I t52.2.2.2.1] 99 (0, 0)), .blk b46 (.cells #[S t52.2.2.2.2.1, .bool t52.2.2.2.2.2] 96 (0, 0)), .blk b39 (.cells #[.bool true, .func (.func 45) #[] #[]] 92 (0, 0))] := ho.call ho'; clear ho'
                refine st_pure tabOK hk [19, 20, 21] [] [0, 5, 9, 10, 15, 16, 19, 20, 74] [(0, S p0), (5, .pointer (some ⟨b39, 0, none⟩)), (9, .pointer (some ⟨b54, 0, none⟩)), (10, I t55.1), (15, .agg #[.bool false, .func (.func 44) #[] #[], .bool true, .func (.func 45) #[] #[], .bool false, .func (.func 46) #[] #[]]), (16, I 1), (19, .agg #[S t40.1, S t40.2.1, S t40.2.2.1, S t40.2.2.2.1, S t40.2.2.2.2.1, S t40.2.2.2.2.2.1, S t40.2.2.2.2.2.2]), (20, I v42), (74, .bool (t64 == v42))] (True) (by kernel_rfl) trivial ?_
                clear hk; intro a hk
                refine st_done ?_
                replace ho : Ows [] w0 w [.blk b54 (.cells #[I t52.1, I t52.2.1, I t52.2.2.1, I t52.2.2.2.1] 99 (0, 0)), .blk b39 (.cells #[.bool true, .func (.func 45) #[] #[]] 92 (0, 0))] := ho.erase 1
                obtain rfl := Option.some.inj H
                exact J a w ⟨hk.to [0, 5, 9, 10, 15, 16, 19, 20, 74] _ (by kernel_rfl), ho⟩
              ·
                rw [h62] at hk
                have h66 : ¬ ((t55.2 == 0) = true) := ne_true_of_eq_false h62
                rw [if_neg h66] at H
                refine st_pure tabOK hk [17, 18, 19, 20, 21] [] [0, 5, 9, 10, 15, 16, 19, 20, 74] [(0, S p0), (5, .pointer (some ⟨b39, 0, none⟩)), (9, .pointer (some ⟨b54, 0, none⟩)), (10, I t55.1), (15, .agg #[.bool false, .func (.func 44) #[] #[], .bool true, .func (.func 45) #[] #[], .bool false, .func (.func 46) #[] #[]]), (16, I 1), (19, .agg #[S t40.1, S t40.2.1, S t40.2.2.1, S t40.2.2.2.1, S t40.2.2.2.2.1, S t40.2.2.2.2.2.1, S t40.2.2.2.2.2.2]), (20, I v42), (74, .bool false)] (True) (by kernel_rfl) trivial ?_
                clear hk; intro a hk
                refine st_done ?_
                replace ho : Ows [] w0 w [.blk b54 (.cells #[I t52.1, I t52.2.1, I t52.2.2.1, I t52.2.2.2.1] 99 (0, 0)), .blk b39 (.cells #[.bool true, .func (.func 45) #[] #[]] 92 (0, 0))] := ho.erase 1
                obtain rfl := Option.some.inj H
                exact J a w ⟨hk.to [0, 5, 9, 10, 15, 16, 19, 20, 74] _ (by kernel_rfl), ho⟩
            ·
              rw [h60] at hk
              have h67 : ¬ ((t52.2.2.2.2.1 == ([])) = true) := ne_true_of_eq_false h60
              rw [if_neg h67] at H
              refine st_pure tabOK hk [13, 14, 15, 16, 17, 18, 19, 20, 21] [] [0, 5, 9, 10, 15, 16, 19, 20, 74] [(0, S p0), (5, .pointer (some ⟨b39, 0, none⟩)), (9, .pointer (some ⟨b54, 0, none⟩)), (10, I t55.1), (15, .agg #[.bool false, .func (.func 44) #[] #[], .bool true, .func (.func 45) #[] #[], .bool false, .func (.func 46) #[] #[]]), (16, I 1), (19, .agg #[S t40.1, S t40.2.1, S t40.2.2.1, S t40.2.2.2.1, S t40.2.2.2.2.1, S t40.2.2.2.2.2.1, S t40.2.2.2.2.2.2]), (20, I v42), (74, .bool false)] (True) (by kernel_rfl) trivial ?_
              clear hk; intro a hk
              refine st_done ?_
              replace ho : Ows [] w0 w [.blk b54 (.cells #[I t52.1, I t52.2.1, I t52.2.2.1, I t52.2.2.2.1] 99 (0, 0)), .blk b39 (.cells #[.bool true, .func (.func 45) #[] #[]] 92 (0, 0))] := ho.erase 1
              obtain rfl := Option.some.inj H
              exact J a w ⟨hk.to [0, 5, 9, 10, 15, 16, 19, 20, 74] _ (by kernel_rfl), ho⟩
          ·
            rw [h58] at hk
            have h68 : ¬ ((!t52.2.2.2.2.2) = true) := ne_true_of_eq_false h58
            rw [if_neg h68] at H
            refine st_pure tabOK hk [6, 7, 8, 9, 10, 11, 12, 13, 14, 15, 16, 17, 18, 19, 20, 21] [] [0, 5, 9, 10, 15, 16, 19, 20, 74] [(0, S p0), (5, .pointer (some ⟨b39, 0, none⟩)), (9, .pointer (some ⟨b54, 0, none⟩)), (10, I t55.1), (15, .agg #[.bool false, .func (.func 44) #[] #[], .bool true, .func (.func 45) #[] #[], .bool false, .func (.func 46) #[] #[]]), (16, I 1), (19, .agg #[S t40.1, S t40.2.1, S t40.2.2.1, S t40.2.2.2.1, S t40.2.2.2.2.1, S t40.2.2.2.2.2.1, S t40.2.2.2.2.2.2]), (20, I v42), (74, .bool false)] (True) (by kernel_rfl) trivial ?_
            clear hk; intro a hk
            refine st_done ?_
            replace ho : Ows [] w0 w [.blk b54 (.cells #[I t52.1, I t52.2.1, I t52.2.2.1, I t52.2.2.2.1] 99 (0, 0)), .blk b39 (.cells #[.bool true, .func (.func 45) #[] #[]] 92 (0, 0))] := ho.erase 1
            obtain rfl := Option.some.inj H
            exact J a w ⟨hk.to [0, 5, 9, 10, 15, 16, 19, 20, 74] _ (by kernel_rfl), ho⟩
        · clear HX; rintro a w ⟨hk, ho⟩
          refine st_cond hk (C29 [1, 0, 1, 0, 0, 1, 1, 0, 0, 1, 1, 0, 0, 1, 1, 0, 0, 1, 1, 1, 1, 1, 1, 1, 1, 0]) (C29 [1, 0, 1, 0, 0, 1, 1, 0, 0, 1, 1, 0, 0, 1, 1, 0, 0, 1, 1, 1, 1, 1, 1, 1, 1, 1]) (.tmp 74) (m57) (by kernel_rfl) (by kernel_rfl) (fun h69 => ?_) (fun h69 => ?_)
          ·
            have h70 : m57 = true := h69
            rw [if_pos h70] at H
            refine st_seq (C29 [1, 0, 1, 0, 0, 1, 1, 0, 0, 1, 1, 0, 0, 1, 1, 0, 0, 1, 1, 1, 1, 1, 1, 1, 1, 0, 0]) (C29 [1, 0, 1, 0, 0, 1, 1, 0, 0, 1, 1, 0, 0, 1, 1, 0, 0, 1, 1, 1, 1, 1, 1, 1, 1, 0, 1]) (by kernel_rfl) ?_
            refine st_region 15 (opsOf (C29 [1, 0, 1, 0, 0, 1, 1, 0, 0, 1, 1, 0, 0, 1, 1, 0, 0, 1, 1, 1, 1, 1, 1, 1, 1, 0, 0])) [0, 1, 2, 3, 4, 5, 6] (by kernel_rfl) (by kernel_rfl) ?_
            refine st_pure tabOK hk [0, 1, 2] [3, 4, 5, 6] [76, 77] [(76, I (w64 (t55.1 * 86400))), (77, .pointer (some ⟨b54, 3, none⟩))] (((some ⟨b54, 0, none⟩ : Option Addr).isSome = true) ∧ True) (by kernel_rfl) ⟨rfl, trivial⟩ ?_
            clear hk; intro a hk
            refine st_load1 tabOK hk 3 (some ⟨b54, 3, none⟩) 78 (by kernel_rfl) (by kernel_rfl) (I t52.2.2.2.1) (ho.cell 0 rfl rfl) ?_
            clear hk; intro a hk
            refine st_pure tabOK hk [4, 5, 6] [] [2, 3] [(2, I (w64 ((w64 (t55.1 * 86400)) + t52.2.2.2.1))), (3, I 0)] (True) (by kernel_rfl) trivial ?_
            clear hk; intro a hk
            refine st_done ?_
            refine st_ret (by kernel_rfl) ?_
            replace ho : Ows [] w0 w [.blk b39 (.cells #[.bool true, .func (.func 45) #[] #[]] 92 (0, 0))] := ho.erase 0
            replace ho : Ows [] w0 w [] := ho.erase 0
            obtain rfl := Option.some.inj H
            exact R (w64 ((w64 (t55.1 * 86400)) + t52.2.2.2.1), 0)  a w rfl (hk.to [2, 3] _ (by kernel_rfl)) ho
          ·
            have h71 : ¬ (m57 = true) := ne_true_of_eq_false h69
            rw [if_neg h71] at H
            refine st_skip (by kernel_rfl) ?_
            refine st_endb 3 ?_
            refine st_region 16 (opsOf (C29 [1, 0, 1, 0, 0, 1, 1, 0, 0, 1, 1, 0, 0, 1, 1, 1])) [0, 1] (by kernel_rfl) (by kernel_rfl) ?_
            refine st_pure tabOK hk [0, 1] [] [0, 5, 15, 16, 19, 20] [(0, S p0), (5, .pointer (some ⟨b39, 0, none⟩)), (15, .agg #[.bool false, .func (.func 44) #[] #[], .bool true, .func (.func 45) #[] #[], .bool false, .func (.func 46) #[] #[]]), (16, I 1), (19, .agg #[S t40.1, S t40.2.1, S t40.2.2.1, S t40.2.2.2.1, S t40.2.2.2.2.1, S t40.2.2.2.2.2.1, S t40.2.2.2.2.2.2]), (20, I (w64 (v42 + 1)))] (True) (by kernel_rfl) trivial ?_
            clear hk; intro a hk
            refine st_done ?_
            refine st_inl ?_
            replace ho : Ows [] w0 w [.blk b39 (.cells #[.bool true, .func (.func 45) #[] #[]] 92 (0, 0))] := ho.erase 0
            exact ih p0 t40 (w64 (v42 + 1)) out H b39 w0 Q rest a w  (hk.to [0, 5, 15, 16, 19, 20] _ (by kernel_rfl)) ho J R
    ·
      have h72 : ¬ (v42 < 7) := of_decide_eq_false h43
      rw [if_neg h72] at H
      refine st_exit 2 _ (by kernel_rfl) rfl ?_
      replace ho : Ows [] w0 w [] := ho.erase 0
      obtain rfl := Option.some.inj H
      exact J ()  a w rfl (hk.to [0, 15, 16] _ (by kernel_rfl)) ho

theorem date_Parse.l2_ok (K : Nat) : ∀ (k : Nat) (p0 : Str) (t77 : Str × Str × Str × Str × Str × Str × Str) (v79 : Int) (out : (Unit) ⊕ (Int × Int)), date_Parse.l2 K k p0 t77 v79 = some out → ∀ (b76 : Nat) (w0 : World) (Q : Exit → Act → World → Prop) (rest : List It) (a : Act) (w : World), Kn 82 a [(0, S p0), (5, .pointer (some ⟨b76, 0, none⟩)), (15, .agg #[.bool false, .func (.func 44) #[] #[], .bool true, .func (.func 45) #[] #[], .bool false, .func (.func 46) #[] #[]]), (16, I 2), (19, .agg #[S t77.1, S t77.2.1, S t77.2.2.1, S t77.2.2.2.1, S t77.2.2.2.2.1, S t77.2.2.2.2.2.1, S t77.2.2.2.2.2.2]), (20, I v79)] → Ows [] w0 w [.blk b76 (.cells #[.bool false, .func (.func 46) #[] #[]] 92 (0, 0))] → (∀ (s : Unit) (a : Act) (w : World), out = .inl s → Kn 82 a [(0, S p0), (15, .agg #[.bool false, .func (.func 44) #[] #[], .bool true, .func (.func 45) #[] #[], .bool false, .func (.func 46) #[] #[]]), (16, I 2)] → Ows [] w0 w [] → G Tryd.prog Q rest a w) → (∀ (r : Int × Int) (a : Act) (w : World), out = .inr r → Kn 82 a [(2, I r.1), (3, I r.2)] → Ows [] w0 w [] → Q .ret a w) → G Tryd.prog Q (.code (C29 [1, 0, 1, 0, 0, 1, 1, 0, 0, 1, 1, 0, 0]) :: .inl (C29 [1, 0, 1, 0, 0, 1, 1, 0, 0, 1, 1, 0, 0]) :: .endb 2 :: rest) a w := by
  intro k
  induction k with
  | zero => intro p0 t77 v79 out H; simp [date_Parse.l2] at H
  | succ k ih =>
    intro p0 t77 v79 out H b76 w0 Q rest a w  hk ho J R
    simp only [date_Parse.l2] at H
    refine st_seq (C29 [1, 0, 1, 0, 0, 1, 1, 0, 0, 1, 1, 0, 0, 0]) (C29 [1, 0, 1, 0, 0, 1, 1, 0, 0, 1, 1, 0, 0, 1]) (by kernel_rfl) ?_
    refine st_region 5 (opsOf (C29 [1, 0, 1, 0, 0, 1, 1, 0, 0, 1, 1, 0, 0, 0])) [0] (by kernel_rfl) (by kernel_rfl) ?_
    refine st_pure tabOK hk [0] [] [0, 5, 15, 16, 19, 20, 21] [(0, S p0), (5, .pointer (some ⟨b76, 0, none⟩)), (15, .agg #[.bool false, .func (.func 44) #[] #[], .bool true, .func (.func 45) #[] #[], .bool false, .func (.func 46) #[] #[]]), (16, I 2), (19, .agg #[S t77.1, S t77.2.1, S t77.2.2.1, S t77.2.2.2.1, S t77.2.2.2.2.1, S t77.2.2.2.2.2.1, S t77.2.2.2.2.2.2]), (20, I v79), (21, .bool (decide (v79 < 7)))] (True) (by kernel_rfl) trivial ?_
    clear hk; intro a hk
    refine st_done ?_
    refine st_seq (C29 [1, 0, 1, 0, 0, 1, 1, 0, 0, 1, 1, 0, 0, 1, 0]) (C29 [1, 0, 1, 0, 0, 1, 1, 0, 0, 1, 1, 0, 0, 1, 1]) (by kernel_rfl) ?_
    refine st_cond hk (C29 [1, 0, 1, 0, 0, 1, 1, 0, 0, 1, 1, 0, 0, 1, 0, 0]) (C29 [1, 0, 1, 0, 0, 1, 1, 0, 0, 1, 1, 0, 0, 1, 0, 1]) (.tmp 21) (decide (v79 < 7)) (by kernel_rfl) (by kernel_rfl) (fun h80 => ?_) (fun h80 => ?_)
    ·
      have h81 : v79 < 7 := of_decide_eq_true h80
      rw [if_pos h81] at H
      refine st_skip (by kernel_rfl) ?_
      refine st_seq (C29 [1, 0, 1, 0, 0, 1, 1, 0, 0, 1, 1, 0, 0, 1, 1, 0]) (C29 [1, 0, 1, 0, 0, 1, 1, 0, 0, 1, 1, 0, 0, 1, 1, 1]) (by kernel_rfl) ?_
      refine st_block 3 (C29 [1, 0, 1, 0, 0, 1, 1, 0, 0, 1, 1, 0, 0, 1, 1, 0, 0]) (by kernel_rfl) ?_
      refine st_seq (C29 [1, 0, 1, 0, 0, 1, 1, 0, 0, 1, 1, 0, 0, 1, 1, 0, 0, 0]) (C29 [1, 0, 1, 0, 0, 1, 1, 0, 0, 1, 1, 0, 0, 1, 1, 0, 0, 1]) (by kernel_rfl) ?_
      refine st_region 6 (opsOf (C29 [1, 0, 1, 0, 0, 1, 1, 0, 0, 1, 1, 0, 0, 1, 1, 0, 0, 0])) [0, 1, 2, 3] (by kernel_rfl) (by kernel_rfl) ?_
      have h82 : (0 : Int) ≤ v79 := by
        by_cases h82 : (0 : Int) ≤ v79
        · exact h82
        · rw [if_neg h82] at H; cases H
      rw [if_pos h82] at H
      refine st_pure tabOK hk [0] [1, 2, 3] [0, 5, 15, 16, 19, 20, 22] [(0, S p0), (5, .pointer (some ⟨b76, 0, none⟩)), (15, .agg #[.bool false, .func (.func 44) #[] #[], .bool true, .func (.func 45) #[] #[], .bool false, .func (.func 46) #[] #[]]), (16, I 2), (19, .agg #[S t77.1, S t77.2.1, S t77.2.2.1, S t77.2.2.2.1, S t77.2.2.2.2.1, S t77.2.2.2.2.2.1, S t77.2.2.2.2.2.2]), (20, I v79), (22, I v79)] (True) (by kernel_rfl) trivial ?_
      clear hk; intro a hk
      refine st_yield hk 23 (S (get ([t77.1, t77.2.1, t77.2.2.1, t77.2.2.2.1, t77.2.2.2.2.1, t77.2.2.2.2.2.1, t77.2.2.2.2.2.2] : List (Str)) v79)) (ix1 tabOK 46 9 23 .i64 S ([t77.1, t77.2.1, t77.2.2.1, t77.2.2.2.1, t77.2.2.2.2.1, t77.2.2.2.2.2.1, t77.2.2.2.2.2.2] : List (Str)) v79 7 (by kernel_rfl) (by kernel_rfl) rfl h82 h81) ?_
      clear hk; intro a hk
      refine st_pure tabOK hk [2, 3] [] [0, 5, 6, 7, 15, 16, 19, 20] [(0, S p0), (5, .pointer (some ⟨b76, 0, none⟩)), (6, I v79), (7, S (get ([t77.1, t77.2.1, t77.2.2.1, t77.2.2.2.1, t77.2.2.2.2.1, t77.2.2.2.2.2.1, t77.2.2.2.2.2.2] : List (Str)) v79)), (15, .agg #[.bool false, .func (.func 44) #[] #[], .bool true, .func (.func 45) #[] #[], .bool false, .func (.func 46) #[] #[]]), (16, I 2), (19, .agg #[S t77.1, S t77.2.1, S t77.2.2.1, S t77.2.2.2.1, S t77.2.2.2.2.1, S t77.2.2.2.2.2.1, S t77.2.2.2.2.2.2]), (20, I v79)] (True) (by kernel_rfl) trivial ?_
      clear hk; intro a hk
      refine st_done ?_
      refine st_seq (C29 [1, 0, 1, 0, 0, 1, 1, 0, 0, 1, 1, 0, 0, 1, 1, 0, 0, 1, 0]) (C29 [1, 0, 1, 0, 0, 1, 1, 0, 0, 1, 1, 0, 0, 1, 1, 0, 0, 1, 1]) (by kernel_rfl) ?_
      refine st_seq (C29 [1, 0, 1, 0, 0, 1, 1, 0, 0, 1, 1, 0, 0, 1, 1, 0, 0, 1, 0, 0]) (C29 [1, 0, 1, 0, 0, 1, 1, 0, 0, 1, 1, 0, 0, 1, 1, 0, 0, 1, 0, 1]) (by kernel_rfl) ?_
      refine st_region 7 (opsOf (C29 [1, 0, 1, 0, 0, 1, 1, 0, 0, 1, 1, 0, 0, 1, 1, 0, 0, 1, 0, 0])) [0, 1, 2] (by kernel_rfl) (by kernel_rfl) ?_
      refine st_pure tabOK hk [0] [1, 2] [0, 5, 6, 7, 15, 16, 19, 20, 24] [(0, S p0), (5, .pointer (some ⟨b76, 0, none⟩)), (6, I v79), (7, S (get ([t77.1, t77.2.1, t77.2.2.1, t77.2.2.2.1, t77.2.2.2.2.1, t77.2.2.2.2.2.1, t77.2.2.2.2.2.2] : List (Str)) v79)), (15, .agg #[.bool false, .func (.func 44) #[] #[], .bool true, .func (.func 45) #[] #[], .bool false, .func (.func 46) #[] #[]]), (16, I 2), (19, .agg #[S t77.1, S t77.2.1, S t77.2.2.1, S t77.2.2.2.1, S t77.2.2.2.2.1, S t77.2.2.2.2.2.1, S t77.2.2.2.2.2.2]), (20, I v79), (24, .pointer (some ⟨b76, 0, none⟩))] (((some ⟨b76, 0, none⟩ : Option Addr).isSome = true) ∧ True) (by kernel_rfl) ⟨rfl, trivial⟩ ?_
      clear hk; intro a hk
      refine st_load1 tabOK hk 4 (some ⟨b76, 0, none⟩) 25 (by kernel_rfl) (by kernel_rfl) (.bool false) (ho.cell 0 rfl rfl) ?_
      clear hk; intro a hk
      refine st_pure tabOK hk [2] [] [0, 5, 6, 7, 15, 16, 19, 20, 26] [(0, S p0), (5, .pointer (some ⟨b76, 0, none⟩)), (6, I v79), (7, S (get ([t77.1, t77.2.1, t77.2.2.1, t77.2.2.2.1, t77.2.2.2.2.1, t77.2.2.2.2.2.1, t77.2.2.2.2.2.2] : List (Str)) v79)), (15, .agg #[.bool false, .func (.func 44) #[] #[], .bool true, .func (.func 45) #[] #[], .bool false, .func (.func 46) #[] #[]]), (16, I 2), (19, .agg #[S t77.1, S t77.2.1, S t77.2.2.1, S t77.2.2.2.1, S t77.2.2.2.2.1, S t77.2.2.2.2.2.1, S t77.2.2.2.2.2.2]), (20, I v79), (26, .bool true)] (True) (by kernel_rfl) trivial ?_
      clear hk; intro a hk
      refine st_done ?_
      refine st_cond_true hk (C29 [1, 0, 1, 0, 0, 1, 1, 0, 0, 1, 1, 0, 0, 1, 1, 0, 0, 1, 0, 1, 0]) (C29 [1, 0, 1, 0, 0, 1, 1, 0, 0, 1, 1, 0, 0, 1, 1, 0, 0, 1, 0, 1, 1]) (.tmp 26) (by kernel_rfl) (by kernel_rfl) ?_
      refine st_region 8 (opsOf (C29 [1, 0, 1, 0, 0, 1, 1, 0, 0, 1, 1, 0, 0, 1, 1, 0, 0, 1, 0, 1, 0])) [0, 1, 2] (by kernel_rfl) (by kernel_rfl) ?_
      have h83 : 3 ≤ ((get ([t77.1, t77.2.1, t77.2.2.1, t77.2.2.2.1, t77.2.2.2.2.1, t77.2.2.2.2.2.1, t77.2.2.2.2.2.2] : List (Str)) v79).length : Int) := by
        by_cases h83 : 3 ≤ ((get ([t77.1, t77.2.1, t77.2.2.1, t77.2.2.2.1, t77.2.2.2.2.1, t77.2.2.2.2.2.1, t77.2.2.2.2.2.2] : List (Str)) v79).length : Int)
        · exact h83
        · rw [if_neg h83] at H; cases H
      rw [if_pos h83] at H
      refine st_pure tabOK hk [0, 1, 2] [] [0, 5, 6, 7, 15, 16, 19, 20] [(0, S p0), (5, .pointer (some ⟨b76, 0, none⟩)), (6, I v79), (7, S ((get ([t77.1, t77.2.1, t77.2.2.1, t77.2.2.2.1, t77.2.2.2.2.1, t77.2.2.2.2.2.1, t77.2.2.2.2.2.2] : List (Str)) v79).take 3)), (15, .agg #[.bool false, .func (.func 44) #[] #[], .bool true, .func (.func 45) #[] #[], .bool false, .func (.func 46) #[] #[]]), (16, I 2), (19, .agg #[S t77.1, S t77.2.1, S t77.2.2.1, S t77.2.2.2.1, S t77.2.2.2.2.1, S t77.2.2.2.2.2.1, S t77.2.2.2.2.2.2]), (20, I v79)] (((0 : Int) ≤ 3 ∧ 3 ≤ ((get ([t77.1, t77.2.1, t77.2.2.1, t77.2.2.2.1, t77.2.2.2.2.1, t77.2.2.2.2.2.1, t77.2.2.2.2.2.2] : List (Str)) v79).length : Int)) ∧ True) (by kernel_rfl) ⟨⟨(by decide), h83⟩, trivial⟩ ?_
      clear hk; intro a hk
      refine st_done ?_
      refine st_seq (C29 [1, 0, 1, 0, 0, 1, 1, 0, 0, 1, 1, 0, 0, 1, 1, 0, 0, 1, 1, 0]) (C29 [1, 0, 1, 0, 0, 1, 1, 0, 0, 1, 1, 0, 0, 1, 1, 0, 0, 1, 1, 1]) (by kernel_rfl) ?_
      refine st_region 9 (opsOf (C29 [1, 0, 1, 0, 0, 1, 1, 0, 0, 1, 1, 0, 0, 1, 1, 0, 0, 1, 1, 0])) [0, 1, 2, 3] (by kernel_rfl) (by kernel_rfl) ?_
      refine st_pure tabOK hk [0, 1] [2, 3] [0, 5, 6, 7, 15, 16, 19, 20, 30] [(0, S p0), (5, .pointer (some ⟨b76, 0, none⟩)), (6, I v79), (7, S ((get ([t77.1, t77.2.1, t77.2.2.1, t77.2.2.2.1, t77.2.2.2.2.1, t77.2.2.2.2.2.1, t77.2.2.2.2.2.2] : List (Str)) v79).take 3)), (15, .agg #[.bool false, .func (.func 44) #[] #[], .bool true, .func (.func 45) #[] #[], .bool false, .func (.func 46) #[] #[]]), (16, I 2), (19, .agg #[S t77.1, S t77.2.1, S t77.2.2.1, S t77.2.2.2.1, S t77.2.2.2.2.1, S t77.2.2.2.2.2.1, S t77.2.2.2.2.2.2]), (20, I v79), (30, .agg #[S p0, .bool false])] (True) (by kernel_rfl) trivial ?_
      clear hk; intro a hk
      refine st_new tabOK hk ho #[S p0, .bool false] 96 31 (by kernel_rfl) ?_
      clear hk ho; intro a b84 w hk ho
      refine st_pure tabOK hk [3] [] [0, 5, 6, 7, 8, 15, 16, 19, 20] [(0, S p0), (5, .pointer (some ⟨b76, 0, none⟩)), (6, I v79), (7, S ((get ([t77.1, t77.2.1, t77.2.2.1, t77.2.2.2.1, t77.2.2.2.2.1, t77.2.2.2.2.2.1, t77.2.2.2.2.2.2] : List (Str)) v79).take 3)), (8, .pointer (some ⟨b84, 0, none⟩)), (15, .agg #[.bool false, .func (.func 44) #[] #[], .bool true, .func (.func 45) #[] #[], .bool false, .func (.func 46) #[] #[]]), (16, I 2), (19, .agg #[S t77.1, S t77.2.1, S t77.2.2.1, S t77.2.2.2.1, S t77.2.2.2.2.1, S t77.2.2.2.2.2.1, S t77.2.2.2.2.2.2]), (20, I v79)] (True) (by kernel_rfl) trivial ?_
      clear hk; intro a hk
      refine st_done ?_
      refine st_seq (C29 [1, 0, 1, 0, 0, 1, 1, 0, 0, 1, 1, 0, 0, 1, 1, 0, 0, 1, 1, 1, 0]) (C29 [1, 0, 1, 0, 0, 1, 1, 0, 0, 1, 1, 0, 0, 1, 1, 0, 0, 1, 1, 1, 1]) (by kernel_rfl) ?_
      refine st_region 10 (opsOf (C29 [1, 0, 1, 0, 0, 1, 1, 0, 0, 1, 1, 0, 0, 1, 1, 0, 0, 1, 1, 1, 0])) [0, 1, 2] (by kernel_rfl) (by kernel_rfl) ?_
      refine st_pure tabOK hk [0, 1] [2] [0, 5, 6, 8, 15, 16, 19, 20, 32, 33] [(0, S p0), (5, .pointer (some ⟨b76, 0, none⟩)), (6, I v79), (8, .pointer (some ⟨b84, 0, none⟩)), (15, .agg #[.bool false, .func (.func 44) #[] #[], .bool true, .func (.func 45) #[] #[], .bool false, .func (.func 46) #[] #[]]), (16, I 2), (19, .agg #[S t77.1, S t77.2.1, S t77.2.2.1, S t77.2.2.2.1, S t77.2.2.2.2.1, S t77.2.2.2.2.2.1, S t77.2.2.2.2.2.2]), (20, I v79), (32, .pointer (some ⟨b84, 0, none⟩)), (33, S ((get ([t77.1, t77.2.1, t77.2.2.1, t77.2.2.2.1, t77.2.2.2.2.1, t77.2.2.2.2.2.1, t77.2.2.2.2.2.2] : List (Str)) v79).take 3))] (True) (by kernel_rfl) trivial ?_
      clear hk; intro a hk
      obtain ⟨t85, h86, H⟩ := Option.bind_eq_some_iff.1 H
      refine st_call hk 47 [.pointer (some ⟨b84, 0, none⟩), S ((get ([t77.1, t77.2.1, t77.2.2.1, t77.2.2.2.1, t77.2.2.2.2.1, t77.2.2.2.2.2.1, t77.2.2.2.2.2.2] : List (Str)) v79).take 3)] (some 34) enters47 (by kernel_rfl) (date_scan_word.ok  p0 false ((get ([t77.1, t77.2.1, t77.2.2.1, t77.2.2.2.1, t77.2.2.2.2.1, t77.2.2.2.2.2.1, t77.2.2.2.2.2.2] : List (Str)) v79).take 3) t85 h86 w b84 (Ows.has (K := [.blk b84 (.cells #[S p0, .bool false] 96 (0, 0))]) (L := [.blk b76 (.cells #[.bool false, .func (.func 46) #[] #[]] 92 (0, 0))]) ho)) ?_
      clear hk; rintro a u w ⟨rfl, ho'⟩ hk
      replace ho : Ows [] w0 w [.blk b84 (.cells #[S t85.1, .bool t85.2] 96 (0, 0)), .blk b76 (.cells #[.bool false, .func (.func 46) #[] #[]] 92 (0, 0))] := Ows.callP (K := [.blk b84 (.cells #[S p0, .bool false] 96 (0, 0))]) (L := [.blk b76 (.cells #[.bool false, .func (.func 46) #[] #[]] 92 (0, 0))]) ho ho' rfl; clear ho'
      refine st_done ?_
      refine st_seq (C29 [1, 0, 1, 0, 0, 1, 1, 0, 0, 1, 1, 0, 0, 1, 1, 0, 0, 1, 1, 1, 1, 0]) (C29 [1, 0, 1, 0, 0, 1, 1, 0, 0, 1, 1, 0, 0, 1, 1, 0, 0, 1, 1, 1, 1, 1]) (by kernel_rfl) ?_
      refine st_seq (C29 [1, 0, 1, 0, 0, 1, 1, 0, 0, 1, 1, 0, 0, 1, 1, 0, 0, 1, 1, 1, 1, 0, 0]) (C29 [1, 0, 1, 0, 0, 1, 1, 0, 0, 1, 1, 0, 0, 1, 1, 0, 0, 1, 1, 1, 1, 0, 1]) (by kernel_rfl) ?_
      refine st_region 11 (opsOf (C29 [1, 0, 1, 0, 0, 1, 1, 0, 0, 1, 1, 0, 0, 1, 1, 0, 0, 1, 1, 1, 1, 0, 0])) [0, 1, 2, 3] (by kernel_rfl) (by kernel_rfl) ?_
      refine st_pure tabOK hk [0, 1, 2] [3] [0, 5, 6, 8, 15, 16, 19, 20, 37] [(0, S p0), (5, .pointer (some ⟨b76, 0, none⟩)), (6, I v79), (8, .pointer (some ⟨b84, 0, none⟩)), (15, .agg #[.bool false, .func (.func 44) #[] #[], .bool true, .func (.func 45) #[] #[], .bool false, .func (.func 46) #[] #[]]), (16, I 2), (19, .agg #[S t77.1, S t77.2.1, S t77.2.2.1, S t77.2.2.2.1, S t77.2.2.2.2.1, S t77.2.2.2.2.2.1, S t77.2.2.2.2.2.2]), (20, I v79), (37, .pointer (some ⟨b84, 1, none⟩))] (((some ⟨b84, 0, none⟩ : Option Addr).isSome = true) ∧ (((some ⟨b84, 0, none⟩ : Option Addr).isSome = true) ∧ True)) (by kernel_rfl) ⟨rfl, ⟨rfl, trivial⟩⟩ ?_
      clear hk; intro a hk
      refine st_load1 tabOK hk 4 (some ⟨b84, 1, none⟩) 38 (by kernel_rfl) (by kernel_rfl) (.bool t85.2) (ho.cell 0 rfl rfl) ?_
      clear hk; intro a hk
      refine st_done ?_
      refine st_cond hk (C29 [1, 0, 1, 0, 0, 1, 1, 0, 0, 1, 1, 0, 0, 1, 1, 0, 0, 1, 1, 1, 1, 0, 1, 0]) (C29 [1, 0, 1, 0, 0, 1, 1, 0, 0, 1, 1, 0, 0, 1, 1, 0, 0, 1, 1, 1, 1, 0, 1, 1]) (.tmp 38) (t85.2) (by kernel_rfl) (by kernel_rfl) (fun h87 => ?_) (fun h87 => ?_)
      ·
        have h88 : t85.2 = true := h87
        rw [if_pos h88] at H
        refine st_exit 3 _ (by kernel_rfl) rfl ?_
        refine st_region 16 (opsOf (C29 [1, 0, 1, 0, 0, 1, 1, 0, 0, 1, 1, 0, 0, 1, 1, 1])) [0, 1] (by kernel_rfl) (by kernel_rfl) ?_
        refine st_pure tabOK hk [0, 1] [] [0, 5, 15, 16, 19, 20] [(0, S p0), (5, .pointer (some ⟨b76, 0, none⟩)), (15, .agg #[.bool false, .func (.func 44) #[] #[], .bool true, .func (.func 45) #[] #[], .bool false, .func (.func 46) #[] #[]]), (16, I 2), (19, .agg #[S t77.1, S t77.2.1, S t77.2.2.1, S t77.2.2.2.1, S t77.2.2.2.2.1, S t77.2.2.2.2.2.1, S t77.2.2.2.2.2.2]), (20, I (w64 (v79 + 1)))] (True) (by kernel_rfl) trivial ?_
        clear hk; intro a hk
        refine st_done ?_
        refine st_inl ?_
        replace ho : Ows [] w0 w [.blk b76 (.cells #[.bool false, .func (.func 46) #[] #[]] 92 (0, 0))] := ho.erase 0
        exact ih p0 t77 (w64 (v79 + 1)) out H b76 w0 Q rest a w  (hk.to [0, 5, 15, 16, 19, 20] _ (by kernel_rfl)) ho J R
      ·
        have h89 : ¬ (t85.2 = true) := ne_true_of_eq_false h87
        rw [if_neg h89] at H
        refine st_skip (by kernel_rfl) ?_
        refine st_seq (C29 [1, 0, 1, 0, 0, 1, 1, 0, 0, 1, 1, 0, 0, 1, 1, 0, 0, 1, 1, 1, 1, 1, 0]) (C29 [1, 0, 1, 0, 0, 1, 1, 0, 0, 1, 1, 0, 0, 1, 1, 0, 0, 1, 1, 1, 1, 1, 1]) (by kernel_rfl) ?_
        refine st_region 12 (opsOf (C29 [1, 0, 1, 0, 0, 1, 1, 0, 0, 1, 1, 0, 0, 1, 1, 0, 0, 1, 1, 1, 1, 1, 0])) [0, 1, 2, 3, 4, 5] (by kernel_rfl) (by kernel_rfl) ?_
        refine st_pure tabOK hk [0] [1, 2, 3, 4, 5] [0, 5, 6, 8, 15, 16, 19, 20, 39] [(0, S p0), (5, .pointer (some ⟨b76, 0, none⟩)), (6, I v79), (8, .pointer (some ⟨b84, 0, none⟩)), (15, .agg #[.bool false, .func (.func 44) #[] #[], .bool true, .func (.func 45) #[] #[], .bool false, .func (.func 46) #[] #[]]), (16, I 2), (19, .agg #[S t77.1, S t77.2.1, S t77.2.2.1, S t77.2.2.2.1, S t77.2.2.2.2.1, S t77.2.2.2.2.2.1, S t77.2.2.2.2.2.2]), (20, I v79), (39, .pointer (some ⟨b76, 1, none⟩))] (((some ⟨b76, 0, none⟩ : Option Addr).isSome = true) ∧ True) (by kernel_rfl) ⟨rfl, trivial⟩ ?_
        clear hk; intro a hk
        refine st_load1 tabOK hk 90 (some ⟨b76, 1, none⟩) 40 (by kernel_rfl) (by kernel_rfl) (.func (.func 46) #[] #[]) (ho.cell 1 rfl rfl) ?_
        clear hk; intro a hk
        refine st_pure tabOK hk [2] [3, 4, 5] [0, 5, 6, 8, 15, 16, 19, 20, 40, 41] [(0, S p0), (5, .pointer (some ⟨b76, 0, none⟩)), (6, I v79), (8, .pointer (some ⟨b84, 0, none⟩)), (15, .agg #[.bool false, .func (.func 44) #[] #[], .bool true, .func (.func 45) #[] #[], .bool false, .func (.func 46) #[] #[]]), (16, I 2), (19, .agg #[S t77.1, S t77.2.1, S t77.2.2.1, S t77.2.2.2.1, S t77.2.2.2.2.1, S t77.2.2.2.2.2.1, S t77.2.2.2.2.2.2]), (20, I v79), (40, .func (.func 46) #[] #[]), (41, .pointer (some ⟨b84, 0, none⟩))] (True) (by kernel_rfl) trivial ?_
        clear hk; intro a hk
        obtain ⟨t90, h91, H⟩ := Option.bind_eq_some_iff.1 H
        refine st_call hk 46 [.pointer (some ⟨b84, 0, none⟩)] (some 42) enters46 (by kernel_rfl) (date_third.ok K  t85.1 t85.2 t90 h91 w b84 (Ows.has (K := [.blk b84 (.cells #[S t85.1, .bool t85.2] 96 (0, 0))]) (L := [.blk b76 (.cells #[.bool false, .func (.func 46) #[] #[]] 92 (0, 0))]) ho)) ?_
        clear hk; rintro a u w ⟨rfl, ho'⟩ hk
        replace ho : Ows [] w0 w [.blk b84 (.cells #[S t90.2.2.2.2.1, .bool t90.2.2.2.2.2] 96 (0, 0)), .blk b76 (.cells #[.bool false, .func (.func 46) #[] #[]] 92 (0, 0))] := Ows.callP (K := [.blk b84 (.cells #[S t85.1, .bool t85.2] 96 (0, 0))]) (L := [.blk b76 (.cells #[.bool false, .func (.func 46) #[] #[]] 92 (0, 0))]) ho ho' rfl; clear ho'
        refine st_new tabOK hk ho #[I 0, I 0, I 0, I 0] 99 9 (by kernel_rfl) ?_
        clear hk ho; intro a b92 w hk ho
        refine st_putA hk ho 0 99 b92 0 [I t90.1, I t90.2.1, I t90.2.2.1, I t90.2.2.2.1] #[I 0, I 0, I 0, I 0] 99 [.blk b92 (.cells #[I t90.1, I t90.2.1, I t90.2.2.1, I t90.2.2.2.1] 99 (0, 0)), .blk b84 (.cells #[S t90.2.2.2.2.1, .bool t90.2.2.2.2.2] 96 (0, 0)), .blk b76 (.cells #[.bool false, .func (.func 46) #[] #[]] 92 (0, 0))] (by kernel_rfl) (by kernel_rfl) (by kernel_rfl) rfl (by kernel_rfl) (by kernel_rfl) rfl ?_
        clear ho; intro w ho
        refine st_done ?_
        refine st_seq (C29 [1, 0, 1, 0, 0, 1, 1, 0, 0, 1, 1, 0, 0, 1, 1, 0, 0, 1, 1, 1, 1, 1, 1, 0]) (C29 [1, 0, 1, 0, 0, 1, 1, 0, 0, 1, 1, 0, 0, 1, 1, 0, 0, 1, 1, 1, 1, 1, 1, 1]) (by kernel_rfl) ?_
        refine st_region 13 (opsOf (C29 [1, 0, 1, 0, 0, 1, 1, 0, 0, 1, 1, 0, 0, 1, 1, 0, 0, 1, 1, 1, 1, 1, 1, 0])) [0, 1, 2, 3, 4, 5, 6, 7, 8, 9, 10, 11] (by kernel_rfl) (by kernel_rfl) ?_
        refine st_pure tabOK hk [0] [1, 2, 3, 4, 5, 6, 7, 8, 9, 10, 11] [0, 5, 6, 8, 9, 15, 16, 19, 20, 44] [(0, S p0), (5, .pointer (some ⟨b76, 0, none⟩)), (6, I v79), (8, .pointer (some ⟨b84, 0, none⟩)), (9, .pointer (some ⟨b92, 0, none⟩)), (15, .agg #[.bool false, .func (.func 44) #[] #[], .bool true, .func (.func 45) #[] #[], .bool false, .func (.func 46) #[] #[]]), (16, I 2), (19, .agg #[S t77.1, S t77.2.1, S t77.2.2.1, S t77.2.2.2.1, S t77.2.2.2.2.1, S t77.2.2.2.2.2.1, S t77.2.2.2.2.2.2]), (20, I v79), (44, .pointer (some ⟨b92, 0, none⟩))] (((some ⟨b92, 0, none⟩ : Option Addr).isSome = true) ∧ True) (by kernel_rfl) ⟨rfl, trivial⟩ ?_
        clear hk; intro a hk
        refine st_load1 tabOK hk 3 (some ⟨b92, 0, none⟩) 45 (by kernel_rfl) (by kernel_rfl) (I t90.1) (ho.cell 0 rfl rfl) ?_
        clear hk; intro a hk
        refine st_pure tabOK hk [2] [3, 4, 5, 6, 7, 8, 9, 10, 11] [0, 5, 6, 8, 9, 15, 16, 19, 20, 45, 46] [(0, S p0), (5, .pointer (some ⟨b76, 0, none⟩)), (6, I v79), (8, .pointer (some ⟨b84, 0, none⟩)), (9, .pointer (some ⟨b92, 0, none⟩)), (15, .agg #[.bool false, .func (.func 44) #[] #[], .bool true, .func (.func 45) #[] #[], .bool false, .func (.func 46) #[] #[]]), (16, I 2), (19, .agg #[S t77.1, S t77.2.1, S t77.2.2.1, S t77.2.2.2.1, S t77.2.2.2.2.1, S t77.2.2.2.2.2.1, S t77.2.2.2.2.2.2]), (20, I v79), (45, I t90.1), (46, .pointer (some ⟨b92, 1, none⟩))] (((some ⟨b92, 0, none⟩ : Option Addr).isSome = true) ∧ True) (by kernel_rfl) ⟨rfl, trivial⟩ ?_
        clear hk; intro a hk
        refine st_load1 tabOK hk 3 (some ⟨b92, 1, none⟩) 47 (by kernel_rfl) (by kernel_rfl) (I t90.2.1) (ho.cell 0 rfl rfl) ?_
        clear hk; intro a hk
        refine st_pure tabOK hk [4] [5, 6, 7, 8, 9, 10, 11] [0, 5, 6, 8, 9, 15, 16, 19, 20, 45, 47, 48] [(0, S p0), (5, .pointer (some ⟨b76, 0, none⟩)), (6, I v79), (8, .pointer (some ⟨b84, 0, none⟩)), (9, .pointer (some ⟨b92, 0, none⟩)), (15, .agg #[.bool false, .func (.func 44) #[] #[], .bool true, .func (.func 45) #[] #[], .bool false, .func (.func 46) #[] #[]]), (16, I 2), (19, .agg #[S t77.1, S t77.2.1, S t77.2.2.1, S t77.2.2.2.1, S t77.2.2.2.2.1, S t77.2.2.2.2.2.1, S t77.2.2.2.2.2.2]), (20, I v79), (45, I t90.1), (47, I t90.2.1), (48, .pointer (some ⟨b92, 2, none⟩))] (((some ⟨b92, 0, none⟩ : Option Addr).isSome = true) ∧ True) (by kernel_rfl) ⟨rfl, trivial⟩ ?_
        clear hk; intro a hk
        refine st_load1 tabOK hk 3 (some ⟨b92, 2, none⟩) 49 (by kernel_rfl) (by kernel_rfl) (I t90.2.2.1) (ho.cell 0 rfl rfl) ?_
        clear hk; intro a hk
        obtain ⟨t93, h94, H⟩ := Option.bind_eq_some_iff.1 H
        refine st_call hk 48 [I t90.1, I t90.2.1, I t90.2.2.1] (some 50) enters48 (by kernel_rfl) (date_Days.ok K  t90.1 t90.2.1 t90.2.2.1 t93 h94 w ) ?_
        clear hk; rintro a u w ⟨rfl, ho'⟩ hk
        replace ho : Ows [] w0 w [.blk b92 (.cells #[I t90.1, I t90.2.1, I t90.2.2.1, I t90.2.2.2.1] 99 (0, 0)), .blk b84 (.cells #[S t90.2.2.2.2.1, .bool t90.2.2.2.2.2] 96 (0, 0)), .blk b76 (.cells #[.bool false, .func (.func 46) #[] #[]] 92 (0, 0))] := ho.call ho'; clear ho'
        refine st_pure tabOK hk [7, 8, 9, 10, 11] [] [0, 5, 6, 8, 9, 10, 11, 15, 16, 19, 20] [(0, S p0), (5, .pointer (some ⟨b76, 0, none⟩)), (6, I v79), (8, .pointer (some ⟨b84, 0, none⟩)), (9, .pointer (some ⟨b92, 0, none⟩)), (10, I t93.1), (11, I t93.2), (15, .agg #[.bool false, .func (.func 44) #[] #[], .bool true, .func (.func 45) #[] #[], .bool false, .func (.func 46) #[] #[]]), (16, I 2), (19, .agg #[S t77.1, S t77.2.1, S t77.2.2.1, S t77.2.2.2.1, S t77.2.2.2.2.1, S t77.2.2.2.2.2.1, S t77.2.2.2.2.2.2]), (20, I v79)] (True) (by kernel_rfl) trivial ?_
        clear hk; intro a hk
        refine st_done ?_
        refine st_seq (C29 [1, 0, 1, 0, 0, 1, 1, 0, 0, 1, 1, 0, 0, 1, 1, 0, 0, 1, 1, 1, 1, 1, 1, 1, 0]) (C29 [1, 0, 1, 0, 0, 1, 1, 0, 0, 1, 1, 0, 0, 1, 1, 0, 0, 1, 1, 1, 1, 1, 1, 1, 1]) (by kernel_rfl) ?_
        refine st_region 14 (opsOf (C29 [1, 0, 1, 0, 0, 1, 1, 0, 0, 1, 1, 0, 0, 1, 1, 0, 0, 1, 1, 1, 1, 1, 1, 1, 0])) [0, 1, 2, 3, 4, 5, 6, 7, 8, 9, 10, 11, 12, 13, 14, 15, 16, 17, 18, 19, 20, 21] (by kernel_rfl) (by kernel_rfl) ?_
        refine st_pure tabOK hk [0, 1, 2] [3, 4, 5, 6, 7, 8, 9, 10, 11, 12, 13, 14, 15, 16, 17, 18, 19, 20, 21] [0, 5, 6, 8, 9, 10, 11, 15, 16, 19, 20, 55] [(0, S p0), (5, .pointer (some ⟨b76, 0, none⟩)), (6, I v79), (8, .pointer (some ⟨b84, 0, none⟩)), (9, .pointer (some ⟨b92, 0, none⟩)), (10, I t93.1), (11, I t93.2), (15, .agg #[.bool false, .func (.func 44) #[] #[], .bool true, .func (.func 45) #[] #[], .bool false, .func (.func 46) #[] #[]]), (16, I 2), (19, .agg #[S t77.1, S t77.2.1, S t77.2.2.1, S t77.2.2.2.1, S t77.2.2.2.2.1, S t77.2.2.2.2.2.1, S t77.2.2.2.2.2.2]), (20, I v79), (55, .pointer (some ⟨b84, 1, none⟩))] (((some ⟨b84, 0, none⟩ : Option Addr).isSome = true) ∧ (((some ⟨b84, 0, none⟩ : Option Addr).isSome = true) ∧ True)) (by kernel_rfl) ⟨rfl, ⟨rfl, trivial⟩⟩ ?_
        clear hk; intro a hk
        refine st_load1 tabOK hk 4 (some ⟨b84, 1, none⟩) 56 (by kernel_rfl) (by kernel_rfl) (.bool t90.2.2.2.2.2) (ho.cell 1 rfl rfl) ?_
        clear hk; intro a hk
        refine st_pure tabOK hk [4, 5] [6, 7, 8, 9, 10, 11, 12, 13, 14, 15, 16, 17, 18, 19, 20, 21] [0, 5, 6, 8, 9, 10, 11, 15, 16, 19, 20, 58] [(0, S p0), (5, .pointer (some ⟨b76, 0, none⟩)), (6, I v79), (8, .pointer (some ⟨b84, 0, none⟩)), (9, .pointer (some ⟨b92, 0, none⟩)), (10, I t93.1), (11, I t93.2), (15, .agg #[.bool false, .func (.func 44) #[] #[], .bool true, .func (.func 45) #[] #[], .bool false, .func (.func 46) #[] #[]]), (16, I 2), (19, .agg #[S t77.1, S t77.2.1, S t77.2.2.1, S t77.2.2.2.1, S t77.2.2.2.2.1, S t77.2.2.2.2.2.1, S t77.2.2.2.2.2.2]), (20, I v79), (58, .bool (!t90.2.2.2.2.2))] (True) (by kernel_rfl) trivial ?_
        clear hk; intro a hk
        obtain ⟨m95, HX, H⟩ := Option.bind_eq_some_iff.1 H
        refine cut_ops (fun a w => Kn 82 a [(0, S p0), (5, .pointer (some ⟨b76, 0, none⟩)), (9, .pointer (some ⟨b92, 0, none⟩)), (10, I t93.1), (15, .agg #[.bool false, .func (.func 44) #[] #[], .bool true, .func (.func 45) #[] #[], .bool false, .func (.func 46) #[] #[]]), (16, I 2), (19, .agg #[S t77.1, S t77.2.1, S t77.2.2.1, S t77.2.2.2.1, S t77.2.2.2.2.1, S t77.2.2.2.2.2.1, S t77.2.2.2.2.2.2]), (20, I v79), (74, .bool m95)] ∧ Ows [] w0 w [.blk b92 (.cells #[I t90.1, I t90.2.1, I t90.2.2.1, I t90.2.2.2.1] 99 (0, 0)), .blk b76 (.cells #[.bool false, .func (.func 46) #[] #[]] 92 (0, 0))]) ?_ ?_
        · intro J; clear H; have H := HX; clear HX
          rcases Bool.eq_false_or_eq_true (!t90.2.2.2.2.2) with h96 | h96
          ·
            rw [h96] at hk
            have h97 : (!t90.2.2.2.2.2) = true := h96
            rw [if_pos h97] at H
            refine st_pure tabOK hk [6, 7, 8] [9, 10, 11, 12, 13, 14, 15, 16, 17, 18, 19, 20, 21] [0, 5, 6, 9, 10, 11, 15, 16, 19, 20, 58, 61] [(0, S p0), (5, .pointer (some ⟨b76, 0, none⟩)), (6, I v79), (9, .pointer (some ⟨b92, 0, none⟩)), (10, I t93.1), (11, I t93.2), (15, .agg #[.bool false, .func (.func 44) #[] #[], .bool true, .func (.func 45) #[] #[], .bool false, .func (.func 46) #[] #[]]), (16, I 2), (19, .agg #[S t77.1, S t77.2.1, S t77.2.2.1, S t77.2.2.2.1, S t77.2.2.2.2.1, S t77.2.2.2.2.2.1, S t77.2.2.2.2.2.2]), (20, I v79), (58, .bool true), (61, .pointer (some ⟨b84, 0, none⟩))] (((some ⟨b84, 0, none⟩ : Option Addr).isSome = true) ∧ (((some ⟨b84, 0, none⟩ : Option Addr).isSome = true) ∧ True)) (by kernel_rfl) ⟨rfl, ⟨rfl, trivial⟩⟩ ?_
            clear hk; intro a hk
            refine st_load1 tabOK hk 9 (some ⟨b84, 0, none⟩) 62 (by kernel_rfl) (by kernel_rfl) (S t90.2.2.2.2.1) (ho.cell 1 rfl rfl) ?_
            clear hk; intro a hk
            refine st_pure tabOK hk [10, 11, 12] [13, 14, 15, 16, 17, 18, 19, 20, 21] [0, 5, 6, 9, 10, 11, 15, 16, 19, 20, 65] [(0, S p0), (5, .pointer (some ⟨b76, 0, none⟩)), (6, I v79), (9, .pointer (some ⟨b92, 0, none⟩)), (10, I t93.1), (11, I t93.2), (15, .agg #[.bool false, .func (.func 44) #[] #[], .bool true, .func (.func 45) #[] #[], .bool false, .func (.func 46) #[] #[]]), (16, I 2), (19, .agg #[S t77.1, S t77.2.1, S t77.2.2.1, S t77.2.2.2.1, S t77.2.2.2.2.1, S t77.2.2.2.2.2.1, S t77.2.2.2.2.2.2]), (20, I v79), (65, .bool (t90.2.2.2.2.1 == ([])))] (True) (by kernel_rfl) trivial ?_
            clear hk; intro a hk
            rcases Bool.eq_false_or_eq_true (t90.2.2.2.2.1 == ([])) with h98 | h98
            ·
              rw [h98] at hk
              have h99 : (t90.2.2.2.2.1 == ([])) = true := h98
              rw [if_pos h99] at H
              refine st_pure tabOK hk [13, 14, 15, 16] [17, 18, 19, 20, 21] [0, 5, 6, 9, 10, 15, 16, 19, 20, 69] [(0, S p0), (5, .pointer (some ⟨b76, 0, none⟩)), (6, I v79), (9, .pointer (some ⟨b92, 0, none⟩)), (10, I t93.1), (15, .agg #[.bool false, .func (.func 44) #[] #[], .bool true, .func (.func 45) #[] #[], .bool false, .func (.func 46) #[] #[]]), (16, I 2), (19, .agg #[S t77.1, S t77.2.1, S t77.2.2.1, S t77.2.2.2.1, S t77.2.2.2.2.1, S t77.2.2.2.2.2.1, S t77.2.2.2.2.2.2]), (20, I v79), (69, .bool (t93.2 == 0))] (True) (by kernel_rfl) trivial ?_
              clear hk; intro a hk
              rcases Bool.eq_false_or_eq_true (t93.2 == 0) with h100 | h100
              ·
                rw [h100] at hk
                have h101 : (t93.2 == 0) = true := h100
                rw [if_pos h101] at H
                refine st_pure tabOK hk [17] [18, 19, 20, 21] [0, 5, 6, 9, 10, 15, 16, 19, 20, 69, 70] [(0, S p0), (5, .pointer (some ⟨b76, 0, none⟩)), (6, I v79), (9, .pointer (some ⟨b92, 0, none⟩)), (10, I t93.1), (15, .agg #[.bool false, .func (.func 44) #[] #[], .bool true, .func (.func 45) #[] #[], .bool false, .func (.func 46) #[] #[]]), (16, I 2), (19, .agg #[S t77.1, S t77.2.1, S t77.2.2.1, S t77.2.2.2.1, S t77.2.2.2.2.1, S t77.2.2.2.2.2.1, S t77.2.2.2.2.2.2]), (20, I v79), (69, .bool true), (70, I t93.1)] (True) (by kernel_rfl) trivial ?_
                clear hk; intro a hk
                obtain ⟨t102, h103, H⟩ := Option.bind_eq_some_iff.1 H
                refine st_call hk 16 [I t93.1] (some 71) enters16 (by kernel_rfl) (date_Weekday.ok  t93.1 t102 h103 w ) ?_
                clear hk; rintro a u w ⟨rfl, ho'⟩ hk
                replace ho : Ows [] w0 w [.blk b92 (.cells #[I t90.1, I t90.2.1, I t90.2.2.1, I t90.2.2.2.1] 99 (0, 0)), .blk b84 (.cells #[S t90.2.2.2.2.1, .bool t90.2.2.2.2.2] 96 (0, 0)), .blk b76 (.cells #[.bool false, .func (.func 46) #[] #[]] 92 (0, 0))] := ho.call ho'; clear ho'
                refine st_pure tabOK hk [19, 20, 21] [] [0, 5, 9, 10, 15, 16, 19, 20, 74] [(0, S p0), (5, .pointer (some ⟨b76, 0, none⟩)), (9, .pointer (some ⟨b92, 0, none⟩)), (10, I t93.1), (15, .agg #[.bool false, .func (.func 44) #[] #[], .bool true, .func (.func 45) #[] #[], .bool false, .func (.func 46) #[] #[]]), (16, I 2), (19, .agg #[S t77.1, S t77.2.1, S t77.2.2.1, S t77.2.2.2.1, S t77.2.2.2.2.1, S t77.2.2.2.2.2.1, S t77.2.2.2.2.2.2]), (20, I v79), (74, .bool (t102 == v79))] (True) (by kernel_rfl) trivial ?_
                clear hk; intro a hk
                refine st_done ?_
                replace ho : Ows [] w0 w [.blk b92 (.cells #[I t90.1, I t90.2.1, I t90.2.2.1, I t90.2.2.2.1] 99 (0, 0)), .blk b76 (.cells #[.bool false, .func (.func 46) #[] #[]] 92 (0, 0))] := ho.erase 1
                obtain rfl := Option.some.inj H
                exact J a w ⟨hk.to [0, 5, 9, 10, 15, 16, 19, 20, 74] _ (by kernel_rfl), ho⟩
              ·
                rw [h100] at hk
                have h104 : ¬ ((t93.2 == 0) = true) := ne_true_of_eq_false h100
                rw [if_neg h104] at H
                refine st_pure tabOK hk [17, 18, 19, 20, 21] [] [0, 5, 9, 10, 15, 16, 19, 20, 74] [(0, S p0), (5, .pointer (some ⟨b76, 0, none⟩)), (9, .pointer (some ⟨b92, 0, none⟩)), (10, I t93.1), (15, .agg #[.bool false, .func (.func 44) #[] #[], .bool true, .func (.func 45) #[] #[], .bool false, .func (.func 46) #[] #[]]), (16, I 2), (19, .agg #[S t77.1, S t77.2.1, S t77.2.2.1, S t77.2.2.2.1, S t77.2.2.2.2.1, S t77.2.2.2.2.2.1, S t77.2.2.2.2.2.2]), (20, I v79), (74, .bool false)] (True) (by kernel_rfl) trivial ?_
                clear hk; intro a hk
                refine st_done ?_
                replace ho : Ows [] w0 w [.blk b92 (.cells #[I t90.1, I t90.2.1, I t90.2.2.1, I t90.2.2.2.1] 99 (0, 0)), .blk b76 (.cells #[.bool false, .func (.func 46) #[] #[]] 92 (0, 0))] := ho.erase 1
                obtain rfl := Option.some.inj H
                exact J a w ⟨hk.to [0, 5, 9, 10, 15, 16, 19, 20, 74] _ (by kernel_rfl), ho⟩
            ·
              rw [h98] at hk
              have h105 : ¬ ((t90.2.2.2.2.1 == ([])) = true) := ne_true_of_eq_false h98
              rw [if_neg h105] at H
              refine st_pure tabOK hk [13, 14, 15, 16, 17, 18, 19, 20, 21] [] [0, 5, 9, 10, 15, 16, 19, 20, 74] [(0, S p0), (5, .pointer (some ⟨b76, 0, none⟩)), (9, .pointer (some ⟨b92, 0, none⟩)), (10, I t93.1), (15, .agg #[.bool false, .func (.func 44) #[] #[], .bool true, .func (.func 45) #[] #[], .bool false, .func (.func 46) #[] #[]]), (16, I 2), (19, .agg #[S t77.1, S t77.2.1, S t77.2.2.1, S t77.2.2.2.1, S t77.2.2.2.2.1, S t77.2.2.2.2.2.1, S t77.2.2.2.2.2.2]), (20, I v79), (74, .bool false)] (True) (by kernel_rfl) trivial ?_
              clear hk; intro a hk
              refine st_done ?_
              replace ho : Ows [] w0 w [.blk b92 (.cells #[I t90.1, I t90.2.1, I t90.2.2.1, I t90.2.2.2.1] 99 (0, 0)), .blk b76 (.cells #[.bool false, .func (.func 46) #[] #[]] 92 (0, 0))] := ho.erase 1
              obtain rfl := Option.some.inj H
              exact J a w ⟨hk.to [0, 5, 9, 10, 15, 16, 19, 20, 74] _ (by kernel_rfl), ho⟩
          ·
            rw [h96] at hk
            have h106 : ¬ ((!t90.2.2.2.2.2) = true) := ne_true_of_eq_false h96
            rw [if_neg h106] at H
            refine st_pure tabOK hk [6, 7, 8, 9, 10, 11, 12, 13, 14, 15, 16, 17, 18, 19, 20, 21] [] [0, 5, 9, 10, 15, 16, 19, 20, 74] [(0, S p0), (5, .pointer (some ⟨b76, 0, none⟩)), (9, .pointer (some ⟨b92, 0, none⟩)), (10, I t93.1), (15, .agg #[.bool false, .func (.func 44) #[] #[], .bool true, .func (.func 45) #[] #[], .bool false, .func (.func 46) #[] #[]]), (16, I 2), (19, .agg #[S t77.1, S t77.2.1, S t77.2.2.1, S t77.2.2.2.1, S t77.2.2.2.2.1, S t77.2.2.2.2.2.1, S t77.2.2.2.2.2.2]), (20, I v79), (74, .bool false)] (True) (by kernel_rfl) trivial ?_
            clear hk; intro a hk
            refine st_done ?_
            replace ho : Ows [] w0 w [.blk b92 (.cells #[I t90.1, I t90.2.1, I t90.2.2.1, I t90.2.2.2.1] 99 (0, 0)), .blk b76 (.cells #[.bool false, .func (.func 46) #[] #[]] 92 (0, 0))] := ho.erase 1
            obtain rfl := Option.some.inj H
            exact J a w ⟨hk.to [0, 5, 9, 10, 15, 16, 19, 20, 74] _ (by kernel_rfl), ho⟩
        · clear HX; rintro a w ⟨hk, ho⟩
          refine st_cond hk (C29 [1, 0, 1, 0, 0, 1, 1, 0, 0, 1, 1, 0, 0, 1, 1, 0, 0, 1, 1, 1, 1, 1, 1, 1, 1, 0]) (C29 [1, 0, 1, 0, 0, 1, 1, 0, 0, 1, 1, 0, 0, 1, 1, 0, 0, 1, 1, 1, 1, 1, 1, 1, 1, 1]) (.tmp 74) (m95) (by kernel_rfl) (by kernel_rfl) (fun h107 => ?_) (fun h107 => ?_)
          ·
            have h108 : m95 = true := h107
            rw [if_pos h108] at H
            refine st_seq (C29 [1, 0, 1, 0, 0, 1, 1, 0, 0, 1, 1, 0, 0, 1, 1, 0, 0, 1, 1, 1, 1, 1, 1, 1, 1, 0, 0]) (C29 [1, 0, 1, 0, 0, 1, 1, 0, 0, 1, 1, 0, 0, 1, 1, 0, 0, 1, 1, 1, 1, 1, 1, 1, 1, 0, 1]) (by kernel_rfl) ?_
            refine st_region 15 (opsOf (C29 [1, 0, 1, 0, 0, 1, 1, 0, 0, 1, 1, 0, 0, 1, 1, 0, 0, 1, 1, 1, 1, 1, 1, 1, 1, 0, 0])) [0, 1, 2, 3, 4, 5, 6] (by kernel_rfl) (by kernel_rfl) ?_
            refine st_pure tabOK hk [0, 1, 2] [3, 4, 5, 6] [76, 77] [(76, I (w64 (t93.1 * 86400))), (77, .pointer (some ⟨b92, 3, none⟩))] (((some ⟨b92, 0, none⟩ : Option Addr).isSome = true) ∧ True) (by kernel_rfl) ⟨rfl, trivial⟩ ?_
            clear hk; intro a hk
            refine st_load1 tabOK hk 3 (some ⟨b92, 3, none⟩) 78 (by kernel_rfl) (by kernel_rfl) (I t90.2.2.2.1) (ho.cell 0 rfl rfl) ?_
            clear hk; intro a hk
            refine st_pure tabOK hk [4, 5, 6] [] [2, 3] [(2, I (w64 ((w64 (t93.1 * 86400)) + t90.2.2.2.1))), (3, I 0)] (True) (by kernel_rfl) trivial ?_
            clear hk; intro a hk
            refine st_done ?_
            refine st_ret (by kernel_rfl) ?_
            replace ho : Ows [] w0 w [.blk b76 (.cells #[.bool false, .func (.func 46) #[] #[]] 92 (0, 0))] := ho.erase 0
            replace ho : Ows [] w0 w [] := ho.erase 0
            obtain rfl := Option.some.inj H
            exact R (w64 ((w64 (t93.1 * 86400)) + t90.2.2.2.1), 0)  a w rfl (hk.to [2, 3] _ (by kernel_rfl)) ho
          ·
            have h109 : ¬ (m95 = true) := ne_true_of_eq_false h107
            rw [if_neg h109] at H
            refine st_skip (by kernel_rfl) ?_
            refine st_endb 3 ?_
            refine st_region 16 (opsOf (C29 [1, 0, 1, 0, 0, 1, 1, 0, 0, 1, 1, 0, 0, 1, 1, 1])) [0, 1] (by kernel_rfl) (by kernel_rfl) ?_
            refine st_pure tabOK hk [0, 1] [] [0, 5, 15, 16, 19, 20] [(0, S p0), (5, .pointer (some ⟨b76, 0, none⟩)), (15, .agg #[.bool false, .func (.func 44) #[] #[], .bool true, .func (.func 45) #[] #[], .bool false, .func (.func 46) #[] #[]]), (16, I 2), (19, .agg #[S t77.1, S t77.2.1, S t77.2.2.1, S t77.2.2.2.1, S t77.2.2.2.2.1, S t77.2.2.2.2.2.1, S t77.2.2.2.2.2.2]), (20, I (w64 (v79 + 1)))] (True) (by kernel_rfl) trivial ?_
            clear hk; intro a hk
            refine st_done ?_
            refine st_inl ?_
            replace ho : Ows [] w0 w [.blk b76 (.cells #[.bool false, .func (.func 46) #[] #[]] 92 (0, 0))] := ho.erase 0
            exact ih p0 t77 (w64 (v79 + 1)) out H b76 w0 Q rest a w  (hk.to [0, 5, 15, 16, 19, 20] _ (by kernel_rfl)) ho J R
    ·
      have h110 : ¬ (v79 < 7) := of_decide_eq_false h80
      rw [if_neg h110] at H
      refine st_exit 2 _ (by kernel_rfl) rfl ?_
      replace ho : Ows [] w0 w [] := ho.erase 0
      obtain rfl := Option.some.inj H
      exact J ()  a w rfl (hk.to [0, 15, 16] _ (by kernel_rfl)) ho

theorem date_Parse.ok (K : Nat) (p0 : Str) (r : Int × Int) (H : date_Parse.f K p0 = some r) (w0 : World)  : Calls Tryd.prog 29 ⟨[S p0]⟩ w0 fun e w => ∃ u, e = .returned u ∧ date_Parse.post w0 r u w := by
  unfold date_Parse.f at H
  refine st_start (N := 82) [S p0] (C29 []) func29 (by kernel_rfl) (by kernel_rfl) (by kernel_rfl) ?_
  intro a w hk ho
  refine st_seq (C29 [0]) (C29 [1]) (by kernel_rfl) ?_
  refine st_region 0 (opsOf (C29 [0])) [0, 1] (by kernel_rfl) (by kernel_rfl) ?_
  refine st_pure tabOK hk [0, 1] [] [0] [(0, S p0)] (True) (by kernel_rfl) trivial ?_
  clear hk; intro a hk
  refine st_done ?_
  refine st_seq (C29 [1, 0]) (C29 [1, 1]) (by kernel_rfl) ?_
  refine st_seq (C29 [1, 0, 0]) (C29 [1, 0, 1]) (by kernel_rfl) ?_
  refine st_region 1 (opsOf (C29 [1, 0, 0])) [0, 1, 2, 3, 4] (by kernel_rfl) (by kernel_rfl) ?_
  refine st_pure tabOK hk [0, 1, 2, 3, 4] [] [0, 15, 16] [(0, S p0), (15, .agg #[.bool false, .func (.func 44) #[] #[], .bool true, .func (.func 45) #[] #[], .bool false, .func (.func 46) #[] #[]]), (16, I 0)] (True) (by kernel_rfl) trivial ?_
  clear hk; intro a hk
  refine st_done ?_
  refine st_block 0 (C29 [1, 0, 1, 0]) (by kernel_rfl) ?_
  refine st_loop (C29 [1, 0, 1, 0, 0]) (by kernel_rfl) ?_
  refine st_seq (C29 [1, 0, 1, 0, 0, 0]) (C29 [1, 0, 1, 0, 0, 1]) (by kernel_rfl) ?_
  refine st_region 2 (opsOf (C29 [1, 0, 1, 0, 0, 0])) [0] (by kernel_rfl) (by kernel_rfl) ?_
  refine st_pure tabOK hk [0] [] [0, 15, 16, 17] [(0, S p0), (15, .agg #[.bool false, .func (.func 44) #[] #[], .bool true, .func (.func 45) #[] #[], .bool false, .func (.func 46) #[] #[]]), (16, I 0), (17, .bool true)] (True) (by kernel_rfl) trivial ?_
  clear hk; intro a hk
  refine st_done ?_
  refine st_seq (C29 [1, 0, 1, 0, 0, 1, 0]) (C29 [1, 0, 1, 0, 0, 1, 1]) (by kernel_rfl) ?_
  refine st_cond_true hk (C29 [1, 0, 1, 0, 0, 1, 0, 0]) (C29 [1, 0, 1, 0, 0, 1, 0, 1]) (.tmp 17) (by kernel_rfl) (by kernel_rfl) ?_
  refine st_skip (by kernel_rfl) ?_
  refine st_seq (C29 [1, 0, 1, 0, 0, 1, 1, 0]) (C29 [1, 0, 1, 0, 0, 1, 1, 1]) (by kernel_rfl) ?_
  refine st_block 1 (C29 [1, 0, 1, 0, 0, 1, 1, 0, 0]) (by kernel_rfl) ?_
  refine st_seq (C29 [1, 0, 1, 0, 0, 1, 1, 0, 0, 0]) (C29 [1, 0, 1, 0, 0, 1, 1, 0, 0, 1]) (by kernel_rfl) ?_
  refine st_region 3 (opsOf (C29 [1, 0, 1, 0, 0, 1, 1, 0, 0, 0])) [0, 1, 2] (by kernel_rfl) (by kernel_rfl) ?_
  refine st_pure tabOK hk [0] [1, 2] [0, 15, 16, 18] [(0, S p0), (15, .agg #[.bool false, .func (.func 44) #[] #[], .bool true, .func (.func 45) #[] #[], .bool false, .func (.func 46) #[] #[]]), (16, I 0), (18, .agg #[.bool false, .func (.func 44) #[] #[]])] (((0 : Int) ≤ 0 ∧ (0 : Int) < 3) ∧ True) (by kernel_rfl) ⟨⟨(by decide), (by decide)⟩, trivial⟩ ?_
  clear hk; intro a hk
  refine st_new tabOK hk ho #[.bool false, .nilFunc] 92 5 (by kernel_rfl) ?_
  clear hk ho; intro a b1 w hk ho
  refine st_putA hk ho 0 92 b1 0 [.bool false, .func (.func 44) #[] #[]] #[.bool false, .nilFunc] 92 [.blk b1 (.cells #[.bool false, .func (.func 44) #[] #[]] 92 (0, 0))] (by kernel_rfl) (by kernel_rfl) (by kernel_rfl) rfl (by kernel_rfl) (by kernel_rfl) rfl ?_
  clear ho; intro w ho
  refine st_done ?_
  refine st_seq (C29 [1, 0, 1, 0, 0, 1, 1, 0, 0, 1, 0]) (C29 [1, 0, 1, 0, 0, 1, 1, 0, 0, 1, 1]) (by kernel_rfl) ?_
  refine st_region 4 (opsOf (C29 [1, 0, 1, 0, 0, 1, 1, 0, 0, 1, 0])) [0, 1] (by kernel_rfl) (by kernel_rfl) ?_
  obtain ⟨t2, h3, H⟩ := Option.bind_eq_some_iff.1 H
  refine st_call hk 15 [] (some 19) enters15 (by kernel_rfl) (date_weekdays.ok   t2 h3 w ) ?_
  clear hk; rintro a u w ⟨rfl, ho'⟩ hk
  replace ho : Ows [] w0 w [.blk b1 (.cells #[.bool false, .func (.func 44) #[] #[]] 92 (0, 0))] := ho.call ho'; clear ho'
  refine st_pure tabOK hk [1] [] [0, 5, 15, 16, 19, 20] [(0, S p0), (5, .pointer (some ⟨b1, 0, none⟩)), (15, .agg #[.bool false, .func (.func 44) #[] #[], .bool true, .func (.func 45) #[] #[], .bool false, .func (.func 46) #[] #[]]), (16, I 0), (19, .agg #[S t2.1, S t2.2.1, S t2.2.2.1, S t2.2.2.2.1, S t2.2.2.2.2.1, S t2.2.2.2.2.2.1, S t2.2.2.2.2.2.2]), (20, I 0)] (True) (by kernel_rfl) trivial ?_
  clear hk; intro a hk
  refine st_done ?_
  refine st_block 2 (C29 [1, 0, 1, 0, 0, 1, 1, 0, 0, 1, 1, 0]) (by kernel_rfl) ?_
  obtain ⟨m36, h37, H⟩ := Option.bind_eq_some_iff.1 H
  refine st_loop (C29 [1, 0, 1, 0, 0, 1, 1, 0, 0, 1, 1, 0, 0]) (by kernel_rfl) ?_
  refine date_Parse.l0_ok K K p0 t2 0 m36 h37 b1 w0 _ _ a w  (hk.to [0, 5, 15, 16, 19, 20] _ (by kernel_rfl)) ho ?_ ?_
  · intro s38  a w e hk ho; subst e
    simp only [] at H
    refine st_endb 1 ?_
    refine st_region 17 (opsOf (C29 [1, 0, 1, 0, 0, 1, 1, 1])) [0, 1] (by kernel_rfl) (by kernel_rfl) ?_
    refine st_pure tabOK hk [0, 1] [] [0, 15, 16] [(0, S p0), (15, .agg #[.bool false, .func (.func 44) #[] #[], .bool true, .func (.func 45) #[] #[], .bool false, .func (.func 46) #[] #[]]), (16, I 1)] (True) (by kernel_rfl) trivial ?_
    clear hk; intro a hk
    refine st_done ?_
    refine st_inl ?_
    refine st_seq (C29 [1, 0, 1, 0, 0, 0]) (C29 [1, 0, 1, 0, 0, 1]) (by kernel_rfl) ?_
    refine st_region 2 (opsOf (C29 [1, 0, 1, 0, 0, 0])) [0] (by kernel_rfl) (by kernel_rfl) ?_
    refine st_pure tabOK hk [0] [] [0, 15, 16, 17] [(0, S p0), (15, .agg #[.bool false, .func (.func 44) #[] #[], .bool true, .func (.func 45) #[] #[], .bool false, .func (.func 46) #[] #[]]), (16, I 1), (17, .bool true)] (True) (by kernel_rfl) trivial ?_
    clear hk; intro a hk
    refine st_done ?_
    refine st_seq (C29 [1, 0, 1, 0, 0, 1, 0]) (C29 [1, 0, 1, 0, 0, 1, 1]) (by kernel_rfl) ?_
    refine st_cond_true hk (C29 [1, 0, 1, 0, 0, 1, 0, 0]) (C29 [1, 0, 1, 0, 0, 1, 0, 1]) (.tmp 17) (by kernel_rfl) (by kernel_rfl) ?_
    refine st_skip (by kernel_rfl) ?_
    refine st_seq (C29 [1, 0, 1, 0, 0, 1, 1, 0]) (C29 [1, 0, 1, 0, 0, 1, 1, 1]) (by kernel_rfl) ?_
    refine st_block 1 (C29 [1, 0, 1, 0, 0, 1, 1, 0, 0]) (by kernel_rfl) ?_
    refine st_seq (C29 [1, 0, 1, 0, 0, 1, 1, 0, 0, 0]) (C29 [1, 0, 1, 0, 0, 1, 1, 0, 0, 1]) (by kernel_rfl) ?_
    refine st_region 3 (opsOf (C29 [1, 0, 1, 0, 0, 1, 1, 0, 0, 0])) [0, 1, 2] (by kernel_rfl) (by kernel_rfl) ?_
    refine st_pure tabOK hk [0] [1, 2] [0, 15, 16, 18] [(0, S p0), (15, .agg #[.bool false, .func (.func 44) #[] #[], .bool true, .func (.func 45) #[] #[], .bool false, .func (.func 46) #[] #[]]), (16, I 1), (18, .agg #[.bool true, .func (.func 45) #[] #[]])] (((0 : Int) ≤ 1 ∧ (1 : Int) < 3) ∧ True) (by kernel_rfl) ⟨⟨(by decide), (by decide)⟩, trivial⟩ ?_
    clear hk; intro a hk
    refine st_new tabOK hk ho #[.bool false, .nilFunc] 92 5 (by kernel_rfl) ?_
    clear hk ho; intro a b39 w hk ho
    refine st_putA hk ho 0 92 b39 0 [.bool true, .func (.func 45) #[] #[]] #[.bool false, .nilFunc] 92 [.blk b39 (.cells #[.bool true, .func (.func 45) #[] #[]] 92 (0, 0))] (by kernel_rfl) (by kernel_rfl) (by kernel_rfl) rfl (by kernel_rfl) (by kernel_rfl) rfl ?_
    clear ho; intro w ho
    refine st_done ?_
    refine st_seq (C29 [1, 0, 1, 0, 0, 1, 1, 0, 0, 1, 0]) (C29 [1, 0, 1, 0, 0, 1, 1, 0, 0, 1, 1]) (by kernel_rfl) ?_
    refine st_region 4 (opsOf (C29 [1, 0, 1, 0, 0, 1, 1, 0, 0, 1, 0])) [0, 1] (by kernel_rfl) (by kernel_rfl) ?_
    obtain ⟨t40, h41, H⟩ := Option.bind_eq_some_iff.1 H
    refine st_call hk 15 [] (some 19) enters15 (by kernel_rfl) (date_weekdays.ok   t40 h41 w ) ?_
    clear hk; rintro a u w ⟨rfl, ho'⟩ hk
    replace ho : Ows [] w0 w [.blk b39 (.cells #[.bool true, .func (.func 45) #[] #[]] 92 (0, 0))] := ho.call ho'; clear ho'
    refine st_pure tabOK hk [1] [] [0, 5, 15, 16, 19, 20] [(0, S p0), (5, .pointer (some ⟨b39, 0, none⟩)), (15, .agg #[.bool false, .func (.func 44) #[] #[], .bool true, .func (.func 45) #[] #[], .bool false, .func (.func 46) #[] #[]]), (16, I 1), (19, .agg #[S t40.1, S t40.2.1, S t40.2.2.1, S t40.2.2.2.1, S t40.2.2.2.2.1, S t40.2.2.2.2.2.1, S t40.2.2.2.2.2.2]), (20, I 0)] (True) (by kernel_rfl) trivial ?_
    clear hk; intro a hk
    refine st_done ?_
    refine st_block 2 (C29 [1, 0, 1, 0, 0, 1, 1, 0, 0, 1, 1, 0]) (by kernel_rfl) ?_
    obtain ⟨m73, h74, H⟩ := Option.bind_eq_some_iff.1 H
    refine st_loop (C29 [1, 0, 1, 0, 0, 1, 1, 0, 0, 1, 1, 0, 0]) (by kernel_rfl) ?_
    refine date_Parse.l1_ok K K p0 t40 0 m73 h74 b39 w0 _ _ a w  (hk.to [0, 5, 15, 16, 19, 20] _ (by kernel_rfl)) ho ?_ ?_
    · intro s75  a w e hk ho; subst e
      simp only [] at H
      refine st_endb 1 ?_
      refine st_region 17 (opsOf (C29 [1, 0, 1, 0, 0, 1, 1, 1])) [0, 1] (by kernel_rfl) (by kernel_rfl) ?_
      refine st_pure tabOK hk [0, 1] [] [0, 15, 16] [(0, S p0), (15, .agg #[.bool false, .func (.func 44) #[] #[], .bool true, .func (.func 45) #[] #[], .bool false, .func (.func 46) #[] #[]]), (16, I 2)] (True) (by kernel_rfl) trivial ?_
      clear hk; intro a hk
      refine st_done ?_
      refine st_inl ?_
      refine st_seq (C29 [1, 0, 1, 0, 0, 0]) (C29 [1, 0, 1, 0, 0, 1]) (by kernel_rfl) ?_
      refine st_region 2 (opsOf (C29 [1, 0, 1, 0, 0, 0])) [0] (by kernel_rfl) (by kernel_rfl) ?_
      refine st_pure tabOK hk [0] [] [0, 15, 16, 17] [(0, S p0), (15, .agg #[.bool false, .func (.func 44) #[] #[], .bool true, .func (.func 45) #[] #[], .bool false, .func (.func 46) #[] #[]]), (16, I 2), (17, .bool true)] (True) (by kernel_rfl) trivial ?_
      clear hk; intro a hk
      refine st_done ?_
      refine st_seq (C29 [1, 0, 1, 0, 0, 1, 0]) (C29 [1, 0, 1, 0, 0, 1, 1]) (by kernel_rfl) ?_
      refine st_cond_true hk (C29 [1, 0, 1, 0, 0, 1, 0, 0]) (C29 [1, 0, 1, 0, 0, 1, 0, 1]) (.tmp 17) (by kernel_rfl) (by kernel_rfl) ?_
      refine st_skip (by kernel_rfl) ?_
      refine st_seq (C29 [1, 0, 1, 0, 0, 1, 1, 0]) (C29 [1, 0, 1, 0, 0, 1, 1, 1]) (by kernel_rfl) ?_
      refine st_block 1 (C29 [1, 0, 1, 0, 0, 1, 1, 0, 0]) (by kernel_rfl) ?_
      refine st_seq (C29 [1, 0, 1, 0, 0, 1, 1, 0, 0, 0]) (C29 [1, 0, 1, 0, 0, 1, 1, 0, 0, 1]) (by kernel_rfl) ?_
      refine st_region 3 (opsOf (C29 [1, 0, 1, 0, 0, 1, 1, 0, 0, 0])) [0, 1, 2] (by kernel_rfl) (by kernel_rfl) ?_
      refine st_pure tabOK hk [0] [1, 2] [0, 15, 16, 18] [(0, S p0), (15, .agg #[.bool false, .func (.func 44) #[] #[], .bool true, .func (.func 45) #[] #[], .bool false, .func (.func 46) #[] #[]]), (16, I 2), (18, .agg #[.bool false, .func (.func 46) #[] #[]])] (((0 : Int) ≤ 2 ∧ (2 : Int) < 3) ∧ True) (by kernel_rfl) ⟨⟨(by decide), (by decide)⟩, trivial⟩ ?_
      clear hk; intro a hk
      refine st_new tabOK hk ho #[.bool false, .nilFunc] 92 5 (by kernel_rfl) ?_
      clear hk ho; intro a b76 w hk ho
      refine st_putA hk ho 0 92 b76 0 [.bool false, .func (.func 46) #[] #[]] #[.bool false, .nilFunc] 92 [.blk b76 (.cells #[.bool false, .func (.func 46) #[] #[]] 92 (0, 0))] (by kernel_rfl) (by kernel_rfl) (by kernel_rfl) rfl (by kernel_rfl) (by kernel_rfl) rfl ?_
      clear ho; intro w ho
      refine st_done ?_
      refine st_seq (C29 [1, 0, 1, 0, 0, 1, 1, 0, 0, 1, 0]) (C29 [1, 0, 1, 0, 0, 1, 1, 0, 0, 1, 1]) (by kernel_rfl) ?_
      refine st_region 4 (opsOf (C29 [1, 0, 1, 0, 0, 1, 1, 0, 0, 1, 0])) [0, 1] (by kernel_rfl) (by kernel_rfl) ?_
      obtain ⟨t77, h78, H⟩ := Option.bind_eq_some_iff.1 H
      refine st_call hk 15 [] (some 19) enters15 (by kernel_rfl) (date_weekdays.ok   t77 h78 w ) ?_
      clear hk; rintro a u w ⟨rfl, ho'⟩ hk
      replace ho : Ows [] w0 w [.blk b76 (.cells #[.bool false, .func (.func 46) #[] #[]] 92 (0, 0))] := ho.call ho'; clear ho'
      refine st_pure tabOK hk [1] [] [0, 5, 15, 16, 19, 20] [(0, S p0), (5, .pointer (some ⟨b76, 0, none⟩)), (15, .agg #[.bool false, .func (.func 44) #[] #[], .bool true, .func (.func 45) #[] #[], .bool false, .func (.func 46) #[] #[]]), (16, I 2), (19, .agg #[S t77.1, S t77.2.1, S t77.2.2.1, S t77.2.2.2.1, S t77.2.2.2.2.1, S t77.2.2.2.2.2.1, S t77.2.2.2.2.2.2]), (20, I 0)] (True) (by kernel_rfl) trivial ?_
      clear hk; intro a hk
      refine st_done ?_
      refine st_block 2 (C29 [1, 0, 1, 0, 0, 1, 1, 0, 0, 1, 1, 0]) (by kernel_rfl) ?_
      obtain ⟨m111, h112, H⟩ := Option.bind_eq_some_iff.1 H
      refine st_loop (C29 [1, 0, 1, 0, 0, 1, 1, 0, 0, 1, 1, 0, 0]) (by kernel_rfl) ?_
      refine date_Parse.l2_ok K K p0 t77 0 m111 h112 b76 w0 _ _ a w  (hk.to [0, 5, 15, 16, 19, 20] _ (by kernel_rfl)) ho ?_ ?_
      · intro s113  a w e hk ho; subst e
        simp only [] at H
        refine st_endb 1 ?_
        refine st_region 17 (opsOf (C29 [1, 0, 1, 0, 0, 1, 1, 1])) [0, 1] (by kernel_rfl) (by kernel_rfl) ?_
        refine st_pure tabOK hk [0, 1] [] [0, 15, 16] [(0, S p0), (15, .agg #[.bool false, .func (.func 44) #[] #[], .bool true, .func (.func 45) #[] #[], .bool false, .func (.func 46) #[] #[]]), (16, I 3)] (True) (by kernel_rfl) trivial ?_
        clear hk; intro a hk
        refine st_done ?_
        refine st_inl ?_
        refine st_seq (C29 [1, 0, 1, 0, 0, 0]) (C29 [1, 0, 1, 0, 0, 1]) (by kernel_rfl) ?_
        refine st_region 2 (opsOf (C29 [1, 0, 1, 0, 0, 0])) [0] (by kernel_rfl) (by kernel_rfl) ?_
        refine st_pure tabOK hk [0] [] [0, 15, 16, 17] [(0, S p0), (15, .agg #[.bool false, .func (.func 44) #[] #[], .bool true, .func (.func 45) #[] #[], .bool false, .func (.func 46) #[] #[]]), (16, I 3), (17, .bool false)] (True) (by kernel_rfl) trivial ?_
        clear hk; intro a hk
        refine st_done ?_
        refine st_seq (C29 [1, 0, 1, 0, 0, 1, 0]) (C29 [1, 0, 1, 0, 0, 1, 1]) (by kernel_rfl) ?_
        refine st_cond_false hk (C29 [1, 0, 1, 0, 0, 1, 0, 0]) (C29 [1, 0, 1, 0, 0, 1, 0, 1]) (.tmp 17) (by kernel_rfl) (by kernel_rfl) ?_
        refine st_exit 0 _ (by kernel_rfl) rfl ?_
        refine st_seq (C29 [1, 1, 0]) (C29 [1, 1, 1]) (by kernel_rfl) ?_
        refine st_region 18 (opsOf (C29 [1, 1, 0])) [0, 1] (by kernel_rfl) (by kernel_rfl) ?_
        refine st_pure tabOK hk [0, 1] [] [2, 3] [(2, I 0), (3, I 2)] (True) (by kernel_rfl) trivial ?_
        clear hk; intro a hk
        refine st_done ?_
        refine st_retG hk (by kernel_rfl) [I 0, I 2] #[.tmp 2, .tmp 3] (by kernel_rfl) ⟨resT hk (by kernel_rfl), resT hk (by kernel_rfl), trivial⟩ ?_
        obtain rfl := Option.some.inj H
        exact ⟨_, rfl, rfl, ho⟩
      · intro r114  a w e hk ho; subst e
        simp only [] at H
        refine retG hk [I r114.1, I r114.2] #[.tmp 2, .tmp 3] (by kernel_rfl) ⟨resT hk (by kernel_rfl), resT hk (by kernel_rfl), trivial⟩ ?_
        obtain rfl := Option.some.inj H
        exact ⟨_, rfl, rfl, ho⟩
    · intro r115  a w e hk ho; subst e
      simp only [] at H
      refine retG hk [I r115.1, I r115.2] #[.tmp 2, .tmp 3] (by kernel_rfl) ⟨resT hk (by kernel_rfl), resT hk (by kernel_rfl), trivial⟩ ?_
      obtain rfl := Option.some.inj H
      exact ⟨_, rfl, rfl, ho⟩
  · intro r116  a w e hk ho; subst e
    simp only [] at H
    refine retG hk [I r116.1, I r116.2] #[.tmp 2, .tmp 3] (by kernel_rfl) ⟨resT hk (by kernel_rfl), resT hk (by kernel_rfl), trivial⟩ ?_
    obtain rfl := Option.some.inj H
    exact ⟨_, rfl, rfl, ho⟩


/-! scullery/etag.when: function 20 -/
noncomputable def C20 (p : List Nat) : Code := Sub (bodyOf f20) p
def etag_when.f (K : Nat) (p0 : List (Str × Str)) (p1 : Str) : Option (Int × Bool) := (((head_Get.f K p0 p1).bind fun t3 => ((date_Parse.f K t3.1).bind fun t5 => some (t5.1, (t3.2 && (t5.2 == 0))))))
abbrev etag_when.post (w0 : World) (r : Int × Bool) (u : Value) (w : World) : Prop := u = .tuple #[I r.1, .bool r.2] ∧ Ows [] w0 w []
theorem etag_when.ok (K : Nat) (p0 : List (Str × Str)) (p1 : Str) (r : Int × Bool) (H : etag_when.f K p0 p1 = some r) (w0 : World) (o1 : Option Addr) (c2 : Nat) (hr0 : Rd w0 o1 (p0.flatMap encT31)) (hl0 : p0.length ≤ c2) : Calls Tryd.prog 20 ⟨[.slice o1 p0.length c2, S p1]⟩ w0 fun e w => ∃ u, e = .returned u ∧ etag_when.post w0 r u w := by
  unfold etag_when.f at H
  refine st_start (N := 27) [.slice o1 p0.length c2, S p1] (C20 []) func20 (by kernel_rfl) (by kernel_rfl) (by kernel_rfl) ?_
  intro a w hk ho
  refine st_seq (C20 [0]) (C20 [1]) (by kernel_rfl) ?_
  refine st_region 0 (opsOf (C20 [0])) [0, 1] (by kernel_rfl) (by kernel_rfl) ?_
  refine st_pure tabOK hk [0, 1] [] [0, 1] [(0, .slice o1 p0.length c2), (1, S p1)] (True) (by kernel_rfl) trivial ?_
  clear hk; intro a hk
  refine st_done ?_
  refine st_seq (C20 [1, 0]) (C20 [1, 1]) (by kernel_rfl) ?_
  refine st_region 1 (opsOf (C20 [1, 0])) [0, 1, 2, 3, 4, 5, 6, 7] (by kernel_rfl) (by kernel_rfl) ?_
  refine st_pure tabOK hk [0, 1] [2, 3, 4, 5, 6, 7] [11, 12] [(11, .slice o1 p0.length c2), (12, S p1)] (True) (by kernel_rfl) trivial ?_
  clear hk; intro a hk
  obtain ⟨t3, h4, H⟩ := Option.bind_eq_some_iff.1 H
  refine st_call hk 18 [.slice o1 p0.length c2, S p1] (some 13) enters18 (by kernel_rfl) (head_Get.ok K  p0 p1 t3 h4 w o1 c2 (hr0.old ho (fun _ _ => by simp)) hl0) ?_
  clear hk; rintro a u w ⟨rfl, ho'⟩ hk
  replace ho : Ows [] w0 w [] := ho.call ho'; clear ho'
  refine st_pure tabOK hk [3, 4, 5, 6, 7] [] [6, 7] [(6, S t3.1), (7, .bool t3.2)] (True) (by kernel_rfl) trivial ?_
  clear hk; intro a hk
  refine st_done ?_
  refine st_seq (C20 [1, 1, 0]) (C20 [1, 1, 1]) (by kernel_rfl) ?_
  refine st_region 2 (opsOf (C20 [1, 1, 0])) [0, 1, 2, 3, 4, 5, 6] (by kernel_rfl) (by kernel_rfl) ?_
  refine st_pure tabOK hk [0] [1, 2, 3, 4, 5, 6] [7, 17] [(7, .bool t3.2), (17, S t3.1)] (True) (by kernel_rfl) trivial ?_
  clear hk; intro a hk
  obtain ⟨t5, h6, H⟩ := Option.bind_eq_some_iff.1 H
  refine st_call hk 29 [S t3.1] (some 18) enters29 (by kernel_rfl) (date_Parse.ok K  t3.1 t5 h6 w ) ?_
  clear hk; rintro a u w ⟨rfl, ho'⟩ hk
  replace ho : Ows [] w0 w [] := ho.call ho'; clear ho'
  refine st_pure tabOK hk [2, 3, 4, 5, 6] [] [7, 8, 9] [(7, .bool t3.2), (8, I t5.1), (9, I t5.2)] (True) (by kernel_rfl) trivial ?_
  clear hk; intro a hk
  refine st_done ?_
  refine st_seq (C20 [1, 1, 1, 0]) (C20 [1, 1, 1, 1]) (by kernel_rfl) ?_
  refine st_region 3 (opsOf (C20 [1, 1, 1, 0])) [0, 1, 2, 3, 4, 5, 6, 7] (by kernel_rfl) (by kernel_rfl) ?_
  refine st_pure tabOK hk [0, 1, 2] [3, 4, 5, 6, 7] [9, 21, 23] [(9, I t5.2), (21, I t5.1), (23, .bool t3.2)] (True) (by kernel_rfl) trivial ?_
  clear hk; intro a hk
  refine cut_ops (fun a w => Kn 27 a [(4, I t5.1), (5, .bool (t3.2 && (t5.2 == 0)))] ∧ Ows [] w0 w []) ?_ ?_
  · intro J
    rcases Bool.eq_false_or_eq_true (t3.2) with h7 | h7
    ·
      rw [h7] at hk
      have h8 : t3.2 = true := h7
      refine st_pure tabOK hk [3, 4, 5, 6, 7] [] [4, 5] [(4, I t5.1), (5, .bool (t5.2 == 0))] (True) (by kernel_rfl) trivial ?_
      clear hk; intro a hk
      refine st_done ?_
      have e : (t3.2 && (t5.2 == 0)) = (t5.2 == 0) := by first | (simp only [h7]; done) | (simp only [h7]; rfl) | rfl | simp [h7]
      exact J a w ⟨by rw [e]; exact hk.to [4, 5] _ (by kernel_rfl), ho⟩
    ·
      rw [h7] at hk
      have h9 : ¬ (t3.2 = true) := ne_true_of_eq_false h7
      refine st_pure tabOK hk [3, 4, 5, 6, 7] [] [4, 5] [(4, I t5.1), (5, .bool false)] (True) (by kernel_rfl) trivial ?_
      clear hk; intro a hk
      refine st_done ?_
      have e : (t3.2 && (t5.2 == 0)) = false := by first | (simp only [h7]; done) | (simp only [h7]; rfl) | rfl | simp [h7]
      exact J a w ⟨by rw [e]; exact hk.to [4, 5] _ (by kernel_rfl), ho⟩
  · rintro a w ⟨hk, ho⟩
    refine st_retG hk (by kernel_rfl) [I t5.1, .bool (t3.2 && (t5.2 == 0))] #[.tmp 4, .tmp 5] (by kernel_rfl) ⟨resT hk (by kernel_rfl), resT hk (by kernel_rfl), trivial⟩ ?_
    obtain rfl := Option.some.inj H
    exact ⟨_, rfl, rfl, ho⟩


/-! scullery/etag.Held: function 7 -/
noncomputable def C7 (p : List Nat) : Code := Sub (bodyOf f7) p
def etag_Held.f (K : Nat) (p0 : List (Str × Str)) (p1 : List (Str × Str)) : Option (Bool) := (((head_Get.f K p0 ([105, 102, 45, 110, 111, 110, 101, 45, 109, 97, 116, 99, 104])).bind fun t5 => (if t5.2 = true then ((etag_tagged.f K t5.1 p1).bind fun t9 => some t9) else ((etag_when.f K p0 ([105, 102, 45, 109, 111, 100, 105, 102, 105, 101, 100, 45, 115, 105, 110, 99, 101])).bind fun t12 => ((etag_when.f K p1 ([108, 97, 115, 116, 45, 109, 111, 100, 105, 102, 105, 101, 100])).bind fun t14 => some (t12.2 && (t14.2 && (decide (t14.1 ≤ t12.1)))))))))
abbrev etag_Held.post (w0 : World) (r : Bool) (u : Value) (w : World) : Prop := u = .bool r ∧ Ows [] w0 w []
theorem etag_Held.ok (K : Nat) (p0 : List (Str × Str)) (p1 : List (Str × Str)) (r : Bool) (H : etag_Held.f K p0 p1 = some r) (w0 : World) (o1 : Option Addr) (c2 : Nat) (hr0 : Rd w0 o1 (p0.flatMap encT31)) (hl0 : p0.length ≤ c2) (o3 : Option Addr) (c4 : Nat) (hr1 : Rd w0 o3 (p1.flatMap encT31)) (hl1 : p1.length ≤ c4) : Calls Tryd.prog 7 ⟨[.slice o1 p0.length c2, .slice o3 p1.length c4]⟩ w0 fun e w => ∃ u, e = .returned u ∧ etag_Held.post w0 r u w := by
  unfold etag_Held.f at H
  refine st_start (N := 39) [.slice o1 p0.length c2, .slice o3 p1.length c4] (C7 []) func7 (by kernel_rfl) (by kernel_rfl) (by kernel_rfl) ?_
  intro a w hk ho
  refine st_seq (C7 [0]) (C7 [1]) (by kernel_rfl) ?_
  refine st_region 0 (opsOf (C7 [0])) [0] (by kernel_rfl) (by kernel_rfl) ?_
  refine st_pure tabOK hk [0] [] [0, 1] [(0, .slice o1 p0.length c2), (1, .slice o3 p1.length c4)] (True) (by kernel_rfl) trivial ?_
  clear hk; intro a hk
  refine st_done ?_
  refine st_seq (C7 [1, 0]) (C7 [1, 1]) (by kernel_rfl) ?_
  refine st_seq (C7 [1, 0, 0]) (C7 [1, 0, 1]) (by kernel_rfl) ?_
  refine st_region 1 (opsOf (C7 [1, 0, 0])) [0, 1, 2, 3, 4, 5, 6] (by kernel_rfl) (by kernel_rfl) ?_
  refine st_pure tabOK hk [0] [1, 2, 3, 4, 5, 6] [0, 1, 12] [(0, .slice o1 p0.length c2), (1, .slice o3 p1.length c4), (12, .slice o1 p0.length c2)] (True) (by kernel_rfl) trivial ?_
  clear hk; intro a hk
  obtain ⟨t5, h6, H⟩ := Option.bind_eq_some_iff.1 H
  refine st_call hk 18 [.slice o1 p0.length c2, S ([105, 102, 45, 110, 111, 110, 101, 45, 109, 97, 116, 99, 104])] (some 13) enters18 (by kernel_rfl) (head_Get.ok K  p0 ([105, 102, 45, 110, 111, 110, 101, 45, 109, 97, 116, 99, 104]) t5 h6 w o1 c2 (hr0.old ho (fun _ _ => by simp)) hl0) ?_
  clear hk; rintro a u w ⟨rfl, ho'⟩ hk
  replace ho : Ows [] w0 w [] := ho.call ho'; clear ho'
  refine st_pure tabOK hk [2, 3, 4, 5, 6] [] [0, 1, 5, 6] [(0, .slice o1 p0.length c2), (1, .slice o3 p1.length c4), (5, S t5.1), (6, .bool t5.2)] (True) (by kernel_rfl) trivial ?_
  clear hk; intro a hk
  refine st_done ?_
  refine st_seq (C7 [1, 0, 1, 0]) (C7 [1, 0, 1, 1]) (by kernel_rfl) ?_
  refine st_region 2 (opsOf (C7 [1, 0, 1, 0])) [0] (by kernel_rfl) (by kernel_rfl) ?_
  refine st_pure tabOK hk [0] [] [0, 1, 5, 16] [(0, .slice o1 p0.length c2), (1, .slice o3 p1.length c4), (5, S t5.1), (16, .bool t5.2)] (True) (by kernel_rfl) trivial ?_
  clear hk; intro a hk
  refine st_done ?_
  refine st_cond hk (C7 [1, 0, 1, 1, 0]) (C7 [1, 0, 1, 1, 1]) (.tmp 16) (t5.2) (by kernel_rfl) (by kernel_rfl) (fun h7 => ?_) (fun h7 => ?_)
  ·
    have h8 : t5.2 = true := h7
    rw [if_pos h8] at H
    refine st_seq (C7 [1, 0, 1, 1, 0, 0]) (C7 [1, 0, 1, 1, 0, 1]) (by kernel_rfl) ?_
    refine st_region 3 (opsOf (C7 [1, 0, 1, 1, 0, 0])) [0, 1, 2, 3] (by kernel_rfl) (by kernel_rfl) ?_
    refine st_pure tabOK hk [0, 1] [2, 3] [17, 18] [(17, S t5.1), (18, .slice o3 p1.length c4)] (True) (by kernel_rfl) trivial ?_
    clear hk; intro a hk
    obtain ⟨t9, h10, H⟩ := Option.bind_eq_some_iff.1 H
    refine st_call hk 19 [S t5.1, .slice o3 p1.length c4] (some 19) enters19 (by kernel_rfl) (etag_tagged.ok K  t5.1 p1 t9 h10 w o3 c4 (hr1.old ho (fun _ _ => by simp)) hl1) ?_
    clear hk; rintro a u w ⟨rfl, ho'⟩ hk
    replace ho : Ows [] w0 w [] := ho.call ho'; clear ho'
    refine st_pure tabOK hk [3] [] [4] [(4, .bool t9)] (True) (by kernel_rfl) trivial ?_
    clear hk; intro a hk
    refine st_done ?_
    refine st_retG hk (by kernel_rfl) [.bool t9] #[.tmp 4] (by kernel_rfl) ⟨resT hk (by kernel_rfl), trivial⟩ ?_
    obtain rfl := Option.some.inj H
    exact ⟨_, rfl, rfl, ho⟩
  ·
    have h11 : ¬ (t5.2 = true) := ne_true_of_eq_false h7
    rw [if_neg h11] at H
    refine st_skip (by kernel_rfl) ?_
    refine st_seq (C7 [1, 1, 0]) (C7 [1, 1, 1]) (by kernel_rfl) ?_
    refine st_region 4 (opsOf (C7 [1, 1, 0])) [0, 1, 2, 3, 4, 5, 6] (by kernel_rfl) (by kernel_rfl) ?_
    refine st_pure tabOK hk [0] [1, 2, 3, 4, 5, 6] [1, 21] [(1, .slice o3 p1.length c4), (21, .slice o1 p0.length c2)] (True) (by kernel_rfl) trivial ?_
    clear hk; intro a hk
    obtain ⟨t12, h13, H⟩ := Option.bind_eq_some_iff.1 H
    refine st_call hk 20 [.slice o1 p0.length c2, S ([105, 102, 45, 109, 111, 100, 105, 102, 105, 101, 100, 45, 115, 105, 110, 99, 101])] (some 22) enters20 (by kernel_rfl) (etag_when.ok K  p0 ([105, 102, 45, 109, 111, 100, 105, 102, 105, 101, 100, 45, 115, 105, 110, 99, 101]) t12 h13 w o1 c2 (hr0.old ho (fun _ _ => by simp)) hl0) ?_
    clear hk; rintro a u w ⟨rfl, ho'⟩ hk
    replace ho : Ows [] w0 w [] := ho.call ho'; clear ho'
    refine st_pure tabOK hk [2, 3, 4, 5, 6] [] [1, 7, 8] [(1, .slice o3 p1.length c4), (7, I t12.1), (8, .bool t12.2)] (True) (by kernel_rfl) trivial ?_
    clear hk; intro a hk
    refine st_done ?_
    refine st_seq (C7 [1, 1, 1, 0]) (C7 [1, 1, 1, 1]) (by kernel_rfl) ?_
    refine st_region 5 (opsOf (C7 [1, 1, 1, 0])) [0, 1, 2, 3, 4, 5, 6] (by kernel_rfl) (by kernel_rfl) ?_
    refine st_pure tabOK hk [0] [1, 2, 3, 4, 5, 6] [7, 8, 26] [(7, I t12.1), (8, .bool t12.2), (26, .slice o3 p1.length c4)] (True) (by kernel_rfl) trivial ?_
    clear hk; intro a hk
    obtain ⟨t14, h15, H⟩ := Option.bind_eq_some_iff.1 H
    refine st_call hk 20 [.slice o3 p1.length c4, S ([108, 97, 115, 116, 45, 109, 111, 100, 105, 102, 105, 101, 100])] (some 27) enters20 (by kernel_rfl) (etag_when.ok K  p1 ([108, 97, 115, 116, 45, 109, 111, 100, 105, 102, 105, 101, 100]) t14 h15 w o3 c4 (hr1.old ho (fun _ _ => by simp)) hl1) ?_
    clear hk; rintro a u w ⟨rfl, ho'⟩ hk
    replace ho : Ows [] w0 w [] := ho.call ho'; clear ho'
    refine st_pure tabOK hk [2, 3, 4, 5, 6] [] [7, 8, 9, 10] [(7, I t12.1), (8, .bool t12.2), (9, I t14.1), (10, .bool t14.2)] (True) (by kernel_rfl) trivial ?_
    clear hk; intro a hk
    refine st_done ?_
    refine st_seq (C7 [1, 1, 1, 1, 0]) (C7 [1, 1, 1, 1, 1]) (by kernel_rfl) ?_
    refine st_region 6 (opsOf (C7 [1, 1, 1, 1, 0])) [0, 1, 2, 3, 4, 5, 6, 7, 8, 9] (by kernel_rfl) (by kernel_rfl) ?_
    refine st_pure tabOK hk [0, 1] [2, 3, 4, 5, 6, 7, 8, 9] [7, 9, 10, 31] [(7, I t12.1), (9, I t14.1), (10, .bool t14.2), (31, .bool t12.2)] (True) (by kernel_rfl) trivial ?_
    clear hk; intro a hk
    refine cut_ops (fun a w => Kn 39 a [(4, .bool (t12.2 && (t14.2 && (decide (t14.1 ≤ t12.1)))))] ∧ Ows [] w0 w []) ?_ ?_
    · intro J
      rcases Bool.eq_false_or_eq_true (t12.2) with h16 | h16
      ·
        rw [h16] at hk
        have h17 : t12.2 = true := h16
        refine st_pure tabOK hk [2, 3, 4] [5, 6, 7, 8, 9] [7, 9, 34] [(7, I t12.1), (9, I t14.1), (34, .bool t14.2)] (True) (by kernel_rfl) trivial ?_
        clear hk; intro a hk
        rcases Bool.eq_false_or_eq_true (t14.2) with h18 | h18
        ·
          rw [h18] at hk
          have h19 : t14.2 = true := h18
          refine st_pure tabOK hk [5, 6, 7, 8, 9] [] [4] [(4, .bool (decide (t14.1 ≤ t12.1)))] (True) (by kernel_rfl) trivial ?_
          clear hk; intro a hk
          refine st_done ?_
          have e : (t12.2 && (t14.2 && (decide (t14.1 ≤ t12.1)))) = (decide (t14.1 ≤ t12.1)) := by first | (simp only [h16, h18]; done) | (simp only [h16, h18]; rfl) | rfl | simp [h16, h18]
          exact J a w ⟨by rw [e]; exact hk.to [4] _ (by kernel_rfl), ho⟩
        ·
          rw [h18] at hk
          have h20 : ¬ (t14.2 = true) := ne_true_of_eq_false h18
          refine st_pure tabOK hk [5, 6, 7, 8, 9] [] [4] [(4, .bool false)] (True) (by kernel_rfl) trivial ?_
          clear hk; intro a hk
          refine st_done ?_
          have e : (t12.2 && (t14.2 && (decide (t14.1 ≤ t12.1)))) = false := by first | (simp only [h16, h18]; done) | (simp only [h16, h18]; rfl) | rfl | simp [h16, h18]
          exact J a w ⟨by rw [e]; exact hk.to [4] _ (by kernel_rfl), ho⟩
      ·
        rw [h16] at hk
        have h21 : ¬ (t12.2 = true) := ne_true_of_eq_false h16
        refine st_pure tabOK hk [2, 3, 4, 5, 6, 7, 8, 9] [] [4] [(4, .bool false)] (True) (by kernel_rfl) trivial ?_
        clear hk; intro a hk
        refine st_done ?_
        have e : (t12.2 && (t14.2 && (decide (t14.1 ≤ t12.1)))) = false := by first | (simp only [h16]; done) | (simp only [h16]; rfl) | rfl | simp [h16]
        exact J a w ⟨by rw [e]; exact hk.to [4] _ (by kernel_rfl), ho⟩
    · rintro a w ⟨hk, ho⟩
      refine st_retG hk (by kernel_rfl) [.bool (t12.2 && (t14.2 && (decide (t14.1 ≤ t12.1))))] #[.tmp 4] (by kernel_rfl) ⟨resT hk (by kernel_rfl), trivial⟩ ?_
      obtain rfl := Option.some.inj H
      exact ⟨_, rfl, rfl, ho⟩


/-! scullery/scullerylaw12.awake: function 4 -/
noncomputable def C4 (p : List Nat) : Code := Sub (bodyOf f4) p
def scullerylaw12_awake.f (K : Nat)  : Option (Bool) := (((etag_Parse.f K ([87, 47, 34, 97, 34])).bind fun t1 => ((etag_Parse.f K ([34, 97, 34])).bind fun t4 => ((etag_List.f K ([32, 34, 120, 34, 32, 44, 44, 32, 87, 47, 34, 97, 44, 98, 34])).bind fun t7 => ((etag_List.f K ([32, 42, 32])).bind fun t12 => ((etag_Print.f K t1.1 t1.2.1).bind fun t17 => ((etag_Held.f K ([([105, 102, 45, 110, 111, 110, 101, 45, 109, 97, 116, 99, 104], [34, 98, 34, 44, 32, 34, 97, 34])] : List (Str × Str)) ([([101, 116, 97, 103], [87, 47, 34, 97, 34])] : List (Str × Str))).bind fun t25 => (((if (t1.2.2 == 0) = true then (if (t4.2.2 == 0) = true then (if t1.1 = true then ((etag_Like.f t1.1 t1.2.1 t4.1 t4.2.1 false).bind fun t34 => (if t34 = true then ((etag_Like.f t1.1 t1.2.1 t4.1 t4.2.1 true).bind fun t38 => (if (!t38) = true then (if ((t7.1.length : Int) == 2) = true then (if 1 < (t7.1.length : Int) then (if (((get t7.1 1).2) == ([97, 44, 98])) = true then (if (!t7.2.1) = true then (if (t7.2.2 == 0) = true then (if t12.2.1 = true then (if (t12.2.2 == 0) = true then (if (t17.1 == ([87, 47, 34, 97, 34])) = true then (if (t17.2 == 0) = true then some t25 else some false) else some false) else some false) else some false) else some false) else some false) else some false) else none) else some false) else some false)) else some false)) else some false) else some false) else some false)).bind fun m27 => some m27))))))))
abbrev scullerylaw12_awake.post (w0 : World) (r : Bool) (u : Value) (w : World) : Prop := u = .bool r ∧ Ows [] w0 w []
theorem scullerylaw12_awake.ok (K : Nat)  (r : Bool) (H : scullerylaw12_awake.f K  = some r) (w0 : World)  : Calls Tryd.prog 4 ⟨[]⟩ w0 fun e w => ∃ u, e = .returned u ∧ scullerylaw12_awake.post w0 r u w := by
  unfold scullerylaw12_awake.f at H
  refine st_start (N := 101) [] (C4 []) func4 (by kernel_rfl) (by kernel_rfl) (by kernel_rfl) ?_
  intro a w hk ho
  refine st_seq (C4 [0]) (C4 [1]) (by kernel_rfl) ?_
  refine st_region 0 (opsOf (C4 [0])) [0] (by kernel_rfl) (by kernel_rfl) ?_
  refine st_pure tabOK hk [0] [] [] [] (True) (by kernel_rfl) trivial ?_
  clear hk; intro a hk
  refine st_done ?_
  refine st_seq (C4 [1, 0]) (C4 [1, 1]) (by kernel_rfl) ?_
  refine st_region 1 (opsOf (C4 [1, 0])) [0, 1, 2, 3, 4, 5, 6] (by kernel_rfl) (by kernel_rfl) ?_
  obtain ⟨t1, h2, H⟩ := Option.bind_eq_some_iff.1 H
  refine st_call hk 9 [S ([87, 47, 34, 97, 34])] (some 15) enters9 (by kernel_rfl) (etag_Parse.ok K  ([87, 47, 34, 97, 34]) t1 h2 w ) ?_
  clear hk; rintro a u w ⟨rfl, ho'⟩ hk
  replace ho : Ows [] w0 w [] := ho.call ho'; clear ho'
  refine st_pure tabOK hk [1, 2, 3] [4, 5, 6] [16, 17] [(16, .agg #[.bool t1.1, S t1.2.1]), (17, I t1.2.2)] (True) (by kernel_rfl) trivial ?_
  clear hk; intro a hk
  refine st_new tabOK hk ho #[.bool false, S ([])] 23 1 (by kernel_rfl) ?_
  clear hk ho; intro a b3 w hk ho
  refine st_putA hk ho 0 23 b3 0 [.bool t1.1, S t1.2.1] #[.bool false, S ([])] 23 [.blk b3 (.cells #[.bool t1.1, S t1.2.1] 23 (0, 0))] (by kernel_rfl) (by kernel_rfl) (by kernel_rfl) rfl (by kernel_rfl) (by kernel_rfl) rfl ?_
  clear ho; intro w ho
  refine st_pure tabOK hk [6] [] [1, 2] [(1, .pointer (some ⟨b3, 0, none⟩)), (2, I t1.2.2)] (True) (by kernel_rfl) trivial ?_
  clear hk; intro a hk
  refine st_done ?_
  refine st_seq (C4 [1, 1, 0]) (C4 [1, 1, 1]) (by kernel_rfl) ?_
  refine st_region 2 (opsOf (C4 [1, 1, 0])) [0, 1, 2, 3, 4, 5, 6] (by kernel_rfl) (by kernel_rfl) ?_
  obtain ⟨t4, h5, H⟩ := Option.bind_eq_some_iff.1 H
  refine st_call hk 9 [S ([34, 97, 34])] (some 19) enters9 (by kernel_rfl) (etag_Parse.ok K  ([34, 97, 34]) t4 h5 w ) ?_
  clear hk; rintro a u w ⟨rfl, ho'⟩ hk
  replace ho : Ows [] w0 w [.blk b3 (.cells #[.bool t1.1, S t1.2.1] 23 (0, 0))] := ho.call ho'; clear ho'
  refine st_pure tabOK hk [1, 2, 3] [4, 5, 6] [1, 2, 20, 21] [(1, .pointer (some ⟨b3, 0, none⟩)), (2, I t1.2.2), (20, .agg #[.bool t4.1, S t4.2.1]), (21, I t4.2.2)] (True) (by kernel_rfl) trivial ?_
  clear hk; intro a hk
  refine st_new tabOK hk ho #[.bool false, S ([])] 23 3 (by kernel_rfl) ?_
  clear hk ho; intro a b6 w hk ho
  refine st_putA hk ho 0 23 b6 0 [.bool t4.1, S t4.2.1] #[.bool false, S ([])] 23 [.blk b6 (.cells #[.bool t4.1, S t4.2.1] 23 (0, 0)), .blk b3 (.cells #[.bool t1.1, S t1.2.1] 23 (0, 0))] (by kernel_rfl) (by kernel_rfl) (by kernel_rfl) rfl (by kernel_rfl) (by kernel_rfl) rfl ?_
  clear ho; intro w ho
  refine st_pure tabOK hk [6] [] [1, 2, 3, 4] [(1, .pointer (some ⟨b3, 0, none⟩)), (2, I t1.2.2), (3, .pointer (some ⟨b6, 0, none⟩)), (4, I t4.2.2)] (True) (by kernel_rfl) trivial ?_
  clear hk; intro a hk
  refine st_done ?_
  refine st_seq (C4 [1, 1, 1, 0]) (C4 [1, 1, 1, 1]) (by kernel_rfl) ?_
  refine st_region 3 (opsOf (C4 [1, 1, 1, 0])) [0, 1, 2, 3, 4, 5, 6, 7] (by kernel_rfl) (by kernel_rfl) ?_
  obtain ⟨t7, h8, H⟩ := Option.bind_eq_some_iff.1 H
  refine st_call hk 10 [S ([32, 34, 120, 34, 32, 44, 44, 32, 87, 47, 34, 97, 44, 98, 34])] (some 23) enters10 (by kernel_rfl) (etag_List.ok K  ([32, 34, 120, 34, 32, 44, 44, 32, 87, 47, 34, 97, 44, 98, 34]) t7 h8 w ) ?_
  clear hk; rintro a u w ⟨o9, c10, rfl, ho'⟩ hk
  replace ho : Ows [] w0 w [.row 0 23 2 (.slice o9 t7.1.length c10) t7.1.length (t7.1.flatMap encT23), .blk b6 (.cells #[.bool t4.1, S t4.2.1] 23 (0, 0)), .blk b3 (.cells #[.bool t1.1, S t1.2.1] 23 (0, 0))] := ho.call ho'; clear ho'
  refine st_pure tabOK hk [1, 2, 3, 4, 5, 6, 7] [] [1, 2, 3, 4, 5, 6, 7] [(1, .pointer (some ⟨b3, 0, none⟩)), (2, I t1.2.2), (3, .pointer (some ⟨b6, 0, none⟩)), (4, I t4.2.2), (5, .slice o9 t7.1.length c10), (6, .bool t7.2.1), (7, I t7.2.2)] (True) (by kernel_rfl) trivial ?_
  clear hk; intro a hk
  refine st_done ?_
  refine st_seq (C4 [1, 1, 1, 1, 0]) (C4 [1, 1, 1, 1, 1]) (by kernel_rfl) ?_
  refine st_region 4 (opsOf (C4 [1, 1, 1, 1, 0])) [0, 1, 2, 3, 4, 5, 6, 7] (by kernel_rfl) (by kernel_rfl) ?_
  obtain ⟨t12, h13, H⟩ := Option.bind_eq_some_iff.1 H
  refine st_call hk 10 [S ([32, 42, 32])] (some 28) enters10 (by kernel_rfl) (etag_List.ok K  ([32, 42, 32]) t12 h13 w ) ?_
  clear hk; rintro a u w ⟨o14, c15, rfl, ho'⟩ hk
  replace ho : Ows [] w0 w [.row 0 23 2 (.slice o14 t12.1.length c15) t12.1.length (t12.1.flatMap encT23), .row 0 23 2 (.slice o9 t7.1.length c10) t7.1.length (t7.1.flatMap encT23), .blk b6 (.cells #[.bool t4.1, S t4.2.1] 23 (0, 0)), .blk b3 (.cells #[.bool t1.1, S t1.2.1] 23 (0, 0))] := ho.call ho'; clear ho'
  refine st_pure tabOK hk [1, 2, 3, 4, 5, 6, 7] [] [1, 2, 3, 4, 5, 6, 7, 9, 10] [(1, .pointer (some ⟨b3, 0, none⟩)), (2, I t1.2.2), (3, .pointer (some ⟨b6, 0, none⟩)), (4, I t4.2.2), (5, .slice o9 t7.1.length c10), (6, .bool t7.2.1), (7, I t7.2.2), (9, .bool t12.2.1), (10, I t12.2.2)] (True) (by kernel_rfl) trivial ?_
  clear hk; intro a hk
  refine st_done ?_
  refine st_seq (C4 [1, 1, 1, 1, 1, 0]) (C4 [1, 1, 1, 1, 1, 1]) (by kernel_rfl) ?_
  refine st_region 5 (opsOf (C4 [1, 1, 1, 1, 1, 0])) [0, 1, 2, 3, 4, 5, 6] (by kernel_rfl) (by kernel_rfl) ?_
  refine st_loadA tabOK hk 23 (some ⟨b3, 0, none⟩) 33 (by kernel_rfl) (by kernel_rfl) (.agg #[.bool false, S ([])]) (by kernel_rfl) [.bool t1.1, S t1.2.1] rfl (ho.cellsA 3 rfl rfl) ?_
  clear hk; intro a hk
  obtain ⟨t17, h18, H⟩ := Option.bind_eq_some_iff.1 H
  refine st_call hk 5 [.agg #[.bool t1.1, S t1.2.1]] (some 34) enters5 (by kernel_rfl) (etag_Print.ok K  t1.1 t1.2.1 t17 h18 w ) ?_
  clear hk; rintro a u w ⟨rfl, ho'⟩ hk
  replace ho : Ows [] w0 w [.row 0 23 2 (.slice o14 t12.1.length c15) t12.1.length (t12.1.flatMap encT23), .row 0 23 2 (.slice o9 t7.1.length c10) t7.1.length (t7.1.flatMap encT23), .blk b6 (.cells #[.bool t4.1, S t4.2.1] 23 (0, 0)), .blk b3 (.cells #[.bool t1.1, S t1.2.1] 23 (0, 0))] := ho.call ho'; clear ho'
  refine st_pure tabOK hk [2, 3, 4, 5, 6] [] [1, 2, 3, 4, 5, 6, 7, 9, 10, 11, 12] [(1, .pointer (some ⟨b3, 0, none⟩)), (2, I t1.2.2), (3, .pointer (some ⟨b6, 0, none⟩)), (4, I t4.2.2), (5, .slice o9 t7.1.length c10), (6, .bool t7.2.1), (7, I t7.2.2), (9, .bool t12.2.1), (10, I t12.2.2), (11, S t17.1), (12, I t17.2)] (True) (by kernel_rfl) trivial ?_
  clear hk; intro a hk
  refine st_done ?_
  refine st_seq (C4 [1, 1, 1, 1, 1, 1, 0]) (C4 [1, 1, 1, 1, 1, 1, 1]) (by kernel_rfl) ?_
  refine st_region 6 (opsOf (C4 [1, 1, 1, 1, 1, 1, 0])) [0, 1, 2, 3, 4, 5] (by kernel_rfl) (by kernel_rfl) ?_
  refine st_pure tabOK hk [0] [1, 2, 3, 4, 5] [1, 2, 3, 4, 5, 6, 7, 9, 10, 11, 12, 37] [(1, .pointer (some ⟨b3, 0, none⟩)), (2, I t1.2.2), (3, .pointer (some ⟨b6, 0, none⟩)), (4, I t4.2.2), (5, .slice o9 t7.1.length c10), (6, .bool t7.2.1), (7, I t7.2.2), (9, .bool t12.2.1), (10, I t12.2.2), (11, S t17.1), (12, I t17.2), (37, .agg #[S ([105, 102, 45, 110, 111, 110, 101, 45, 109, 97, 116, 99, 104]), S ([34, 98, 34, 44, 32, 34, 97, 34])])] (True) (by kernel_rfl) trivial ?_
  clear hk; intro a hk
  refine st_lit tabOK hk ho #[S ([105, 102, 45, 110, 111, 110, 101, 45, 109, 97, 116, 99, 104]), S ([34, 98, 34, 44, 32, 34, 97, 34])] 31 2 1 38 (by kernel_rfl) ?_
  clear hk ho; intro a o19 w h20 hk ho
  replace ho : Ows [] w0 w [.row 0 31 2 (.slice o19 (([([105, 102, 45, 110, 111, 110, 101, 45, 109, 97, 116, 99, 104], [34, 98, 34, 44, 32, 34, 97, 34])] : List (Str × Str)).length) 1) (([([105, 102, 45, 110, 111, 110, 101, 45, 109, 97, 116, 99, 104], [34, 98, 34, 44, 32, 34, 97, 34])] : List (Str × Str)).length) (([([105, 102, 45, 110, 111, 110, 101, 45, 109, 97, 116, 99, 104], [34, 98, 34, 44, 32, 34, 97, 34])] : List (Str × Str)).flatMap encT31), .row 0 23 2 (.slice o14 t12.1.length c15) t12.1.length (t12.1.flatMap encT23), .row 0 23 2 (.slice o9 t7.1.length c10) t7.1.length (t7.1.flatMap encT23), .blk b6 (.cells #[.bool t4.1, S t4.2.1] 23 (0, 0)), .blk b3 (.cells #[.bool t1.1, S t1.2.1] 23 (0, 0))] := ho
  replace hk : Kn 101 a [(1, .pointer (some ⟨b3, 0, none⟩)), (2, I t1.2.2), (3, .pointer (some ⟨b6, 0, none⟩)), (4, I t4.2.2), (5, .slice o9 t7.1.length c10), (6, .bool t7.2.1), (7, I t7.2.2), (9, .bool t12.2.1), (10, I t12.2.2), (11, S t17.1), (12, I t17.2), (38, .slice o19 (([([105, 102, 45, 110, 111, 110, 101, 45, 109, 97, 116, 99, 104], [34, 98, 34, 44, 32, 34, 97, 34])] : List (Str × Str)).length) 1)] := hk.to [1, 2, 3, 4, 5, 6, 7, 9, 10, 11, 12, 38] _ (by kernel_rfl)
  refine st_pure tabOK hk [2] [3, 4, 5] [1, 2, 3, 4, 5, 6, 7, 9, 10, 11, 12, 38, 39] [(1, .pointer (some ⟨b3, 0, none⟩)), (2, I t1.2.2), (3, .pointer (some ⟨b6, 0, none⟩)), (4, I t4.2.2), (5, .slice o9 t7.1.length c10), (6, .bool t7.2.1), (7, I t7.2.2), (9, .bool t12.2.1), (10, I t12.2.2), (11, S t17.1), (12, I t17.2), (38, .slice o19 (([([105, 102, 45, 110, 111, 110, 101, 45, 109, 97, 116, 99, 104], [34, 98, 34, 44, 32, 34, 97, 34])] : List (Str × Str)).length) 1), (39, .agg #[S ([101, 116, 97, 103]), S ([87, 47, 34, 97, 34])])] (True) (by kernel_rfl) trivial ?_
  clear hk; intro a hk
  refine st_lit tabOK hk ho #[S ([101, 116, 97, 103]), S ([87, 47, 34, 97, 34])] 31 2 1 40 (by kernel_rfl) ?_
  clear hk ho; intro a o22 w h23 hk ho
  replace ho : Ows [] w0 w [.row 0 31 2 (.slice o22 (([([101, 116, 97, 103], [87, 47, 34, 97, 34])] : List (Str × Str)).length) 1) (([([101, 116, 97, 103], [87, 47, 34, 97, 34])] : List (Str × Str)).length) (([([101, 116, 97, 103], [87, 47, 34, 97, 34])] : List (Str × Str)).flatMap encT31), .row 0 31 2 (.slice o19 (([([105, 102, 45, 110, 111, 110, 101, 45, 109, 97, 116, 99, 104], [34, 98, 34, 44, 32, 34, 97, 34])] : List (Str × Str)).length) 1) (([([105, 102, 45, 110, 111, 110, 101, 45, 109, 97, 116, 99, 104], [34, 98, 34, 44, 32, 34, 97, 34])] : List (Str × Str)).length) (([([105, 102, 45, 110, 111, 110, 101, 45, 109, 97, 116, 99, 104], [34, 98, 34, 44, 32, 34, 97, 34])] : List (Str × Str)).flatMap encT31), .row 0 23 2 (.slice o14 t12.1.length c15) t12.1.length (t12.1.flatMap encT23), .row 0 23 2 (.slice o9 t7.1.length c10) t7.1.length (t7.1.flatMap encT23), .blk b6 (.cells #[.bool t4.1, S t4.2.1] 23 (0, 0)), .blk b3 (.cells #[.bool t1.1, S t1.2.1] 23 (0, 0))] := ho
  replace hk : Kn 101 a [(1, .pointer (some ⟨b3, 0, none⟩)), (2, I t1.2.2), (3, .pointer (some ⟨b6, 0, none⟩)), (4, I t4.2.2), (5, .slice o9 t7.1.length c10), (6, .bool t7.2.1), (7, I t7.2.2), (9, .bool t12.2.1), (10, I t12.2.2), (11, S t17.1), (12, I t17.2), (38, .slice o19 (([([105, 102, 45, 110, 111, 110, 101, 45, 109, 97, 116, 99, 104], [34, 98, 34, 44, 32, 34, 97, 34])] : List (Str × Str)).length) 1), (40, .slice o22 (([([101, 116, 97, 103], [87, 47, 34, 97, 34])] : List (Str × Str)).length) 1)] := hk.to [1, 2, 3, 4, 5, 6, 7, 9, 10, 11, 12, 38, 40] _ (by kernel_rfl)
  obtain ⟨t25, h26, H⟩ := Option.bind_eq_some_iff.1 H
  refine st_call hk 7 [.slice o19 (([([105, 102, 45, 110, 111, 110, 101, 45, 109, 97, 116, 99, 104], [34, 98, 34, 44, 32, 34, 97, 34])] : List (Str × Str)).length) 1, .slice o22 (([([101, 116, 97, 103], [87, 47, 34, 97, 34])] : List (Str × Str)).length) 1] (some 41) enters7 (by kernel_rfl) (etag_Held.ok K  ([([105, 102, 45, 110, 111, 110, 101, 45, 109, 97, 116, 99, 104], [34, 98, 34, 44, 32, 34, 97, 34])] : List (Str × Str)) ([([101, 116, 97, 103], [87, 47, 34, 97, 34])] : List (Str × Str)) t25 h26 w o19 1 (ho.rd 1 rfl) (ho.le 1 rfl) o22 1 (ho.rd 0 rfl) (ho.le 0 rfl)) ?_
  clear hk; rintro a u w ⟨rfl, ho'⟩ hk
  replace ho : Ows [] w0 w [.row 0 31 2 (.slice o22 (([([101, 116, 97, 103], [87, 47, 34, 97, 34])] : List (Str × Str)).length) 1) (([([101, 116, 97, 103], [87, 47, 34, 97, 34])] : List (Str × Str)).length) (([([101, 116, 97, 103], [87, 47, 34, 97, 34])] : List (Str × Str)).flatMap encT31), .row 0 31 2 (.slice o19 (([([105, 102, 45, 110, 111, 110, 101, 45, 109, 97, 116, 99, 104], [34, 98, 34, 44, 32, 34, 97, 34])] : List (Str × Str)).length) 1) (([([105, 102, 45, 110, 111, 110, 101, 45, 109, 97, 116, 99, 104], [34, 98, 34, 44, 32, 34, 97, 34])] : List (Str × Str)).length) (([([105, 102, 45, 110, 111, 110, 101, 45, 109, 97, 116, 99, 104], [34, 98, 34, 44, 32, 34, 97, 34])] : List (Str × Str)).flatMap encT31), .row 0 23 2 (.slice o14 t12.1.length c15) t12.1.length (t12.1.flatMap encT23), .row 0 23 2 (.slice o9 t7.1.length c10) t7.1.length (t7.1.flatMap encT23), .blk b6 (.cells #[.bool t4.1, S t4.2.1] 23 (0, 0)), .blk b3 (.cells #[.bool t1.1, S t1.2.1] 23 (0, 0))] := ho.call ho'; clear ho'
  refine st_pure tabOK hk [5] [] [1, 2, 3, 4, 5, 6, 7, 9, 10, 11, 12, 13] [(1, .pointer (some ⟨b3, 0, none⟩)), (2, I t1.2.2), (3, .pointer (some ⟨b6, 0, none⟩)), (4, I t4.2.2), (5, .slice o9 t7.1.length c10), (6, .bool t7.2.1), (7, I t7.2.2), (9, .bool t12.2.1), (10, I t12.2.2), (11, S t17.1), (12, I t17.2), (13, .bool t25)] (True) (by kernel_rfl) trivial ?_
  clear hk; intro a hk
  refine st_done ?_
  refine st_seq (C4 [1, 1, 1, 1, 1, 1, 1, 0]) (C4 [1, 1, 1, 1, 1, 1, 1, 1]) (by kernel_rfl) ?_
  refine st_region 7 (opsOf (C4 [1, 1, 1, 1, 1, 1, 1, 0])) [0, 1, 2, 3, 4, 5, 6, 7, 8, 9, 10, 11, 12, 13, 14, 15, 16, 17, 18, 19, 20, 21, 22, 23, 24, 25, 26, 27, 28, 29, 30, 31, 32, 33, 34, 35, 36, 37, 38, 39, 40, 41, 42, 43, 44, 45, 46, 47, 48, 49, 50, 51, 52, 53, 54, 55, 56, 57, 58, 59] (by kernel_rfl) (by kernel_rfl) ?_
  refine st_pure tabOK hk [0, 1, 2] [3, 4, 5, 6, 7, 8, 9, 10, 11, 12, 13, 14, 15, 16, 17, 18, 19, 20, 21, 22, 23, 24, 25, 26, 27, 28, 29, 30, 31, 32, 33, 34, 35, 36, 37, 38, 39, 40, 41, 42, 43, 44, 45, 46, 47, 48, 49, 50, 51, 52, 53, 54, 55, 56, 57, 58, 59] [1, 3, 4, 5, 6, 7, 9, 10, 11, 12, 13, 44] [(1, .pointer (some ⟨b3, 0, none⟩)), (3, .pointer (some ⟨b6, 0, none⟩)), (4, I t4.2.2), (5, .slice o9 t7.1.length c10), (6, .bool t7.2.1), (7, I t7.2.2), (9, .bool t12.2.1), (10, I t12.2.2), (11, S t17.1), (12, I t17.2), (13, .bool t25), (44, .bool (t1.2.2 == 0))] (True) (by kernel_rfl) trivial ?_
  clear hk; intro a hk
  obtain ⟨m27, HX, H⟩ := Option.bind_eq_some_iff.1 H
  refine cut_ops (fun a w => Kn 101 a [(0, .bool m27)] ∧ Ows [] w0 w []) ?_ ?_
  · intro J; clear H; have H := HX; clear HX
    rcases Bool.eq_false_or_eq_true (t1.2.2 == 0) with h28 | h28
    ·
      rw [h28] at hk
      have h29 : (t1.2.2 == 0) = true := h28
      rw [if_pos h29] at H
      refine st_pure tabOK hk [3, 4, 5, 6] [7, 8, 9, 10, 11, 12, 13, 14, 15, 16, 17, 18, 19, 20, 21, 22, 23, 24, 25, 26, 27, 28, 29, 30, 31, 32, 33, 34, 35, 36, 37, 38, 39, 40, 41, 42, 43, 44, 45, 46, 47, 48, 49, 50, 51, 52, 53, 54, 55, 56, 57, 58, 59] [1, 3, 5, 6, 7, 9, 10, 11, 12, 13, 48] [(1, .pointer (some ⟨b3, 0, none⟩)), (3, .pointer (some ⟨b6, 0, none⟩)), (5, .slice o9 t7.1.length c10), (6, .bool t7.2.1), (7, I t7.2.2), (9, .bool t12.2.1), (10, I t12.2.2), (11, S t17.1), (12, I t17.2), (13, .bool t25), (48, .bool (t4.2.2 == 0))] (True) (by kernel_rfl) trivial ?_
      clear hk; intro a hk
      rcases Bool.eq_false_or_eq_true (t4.2.2 == 0) with h30 | h30
      ·
        rw [h30] at hk
        have h31 : (t4.2.2 == 0) = true := h30
        rw [if_pos h31] at H
        refine st_pure tabOK hk [7] [8, 9, 10, 11, 12, 13, 14, 15, 16, 17, 18, 19, 20, 21, 22, 23, 24, 25, 26, 27, 28, 29, 30, 31, 32, 33, 34, 35, 36, 37, 38, 39, 40, 41, 42, 43, 44, 45, 46, 47, 48, 49, 50, 51, 52, 53, 54, 55, 56, 57, 58, 59] [1, 3, 5, 6, 7, 9, 10, 11, 12, 13, 48, 49] [(1, .pointer (some ⟨b3, 0, none⟩)), (3, .pointer (some ⟨b6, 0, none⟩)), (5, .slice o9 t7.1.length c10), (6, .bool t7.2.1), (7, I t7.2.2), (9, .bool t12.2.1), (10, I t12.2.2), (11, S t17.1), (12, I t17.2), (13, .bool t25), (48, .bool true), (49, .pointer (some ⟨b3, 0, none⟩))] (((some ⟨b3, 0, none⟩ : Option Addr).isSome = true) ∧ True) (by kernel_rfl) ⟨rfl, trivial⟩ ?_
        clear hk; intro a hk
        refine st_load1 tabOK hk 4 (some ⟨b3, 0, none⟩) 50 (by kernel_rfl) (by kernel_rfl) (.bool t1.1) (ho.cell 5 rfl rfl) ?_
        clear hk; intro a hk
        refine st_pure tabOK hk [9, 10] [11, 12, 13, 14, 15, 16, 17, 18, 19, 20, 21, 22, 23, 24, 25, 26, 27, 28, 29, 30, 31, 32, 33, 34, 35, 36, 37, 38, 39, 40, 41, 42, 43, 44, 45, 46, 47, 48, 49, 50, 51, 52, 53, 54, 55, 56, 57, 58, 59] [1, 3, 5, 6, 7, 9, 10, 11, 12, 13, 52] [(1, .pointer (some ⟨b3, 0, none⟩)), (3, .pointer (some ⟨b6, 0, none⟩)), (5, .slice o9 t7.1.length c10), (6, .bool t7.2.1), (7, I t7.2.2), (9, .bool t12.2.1), (10, I t12.2.2), (11, S t17.1), (12, I t17.2), (13, .bool t25), (52, .bool t1.1)] (True) (by kernel_rfl) trivial ?_
        clear hk; intro a hk
        rcases Bool.eq_false_or_eq_true (t1.1) with h32 | h32
        ·
          rw [h32] at hk
          have h33 : t1.1 = true := h32
          rw [if_pos h33] at H
          refine st_loadA tabOK hk 23 (some ⟨b3, 0, none⟩) 53 (by kernel_rfl) (by kernel_rfl) (.agg #[.bool false, S ([])]) (by kernel_rfl) [.bool t1.1, S t1.2.1] rfl (ho.cellsA 5 rfl rfl) ?_
          clear hk; intro a hk
          refine st_loadA tabOK hk 23 (some ⟨b6, 0, none⟩) 54 (by kernel_rfl) (by kernel_rfl) (.agg #[.bool false, S ([])]) (by kernel_rfl) [.bool t4.1, S t4.2.1] rfl (ho.cellsA 4 rfl rfl) ?_
          clear hk; intro a hk
          obtain ⟨t34, h35, H⟩ := Option.bind_eq_some_iff.1 H
          refine st_call hk 11 [.agg #[.bool t1.1, S t1.2.1], .agg #[.bool t4.1, S t4.2.1], .bool false] (some 55) enters11 (by kernel_rfl) (etag_Like.ok  t1.1 t1.2.1 t4.1 t4.2.1 false t34 h35 w ) ?_
          clear hk; rintro a u w ⟨rfl, ho'⟩ hk
          replace ho : Ows [] w0 w [.row 0 31 2 (.slice o22 (([([101, 116, 97, 103], [87, 47, 34, 97, 34])] : List (Str × Str)).length) 1) (([([101, 116, 97, 103], [87, 47, 34, 97, 34])] : List (Str × Str)).length) (([([101, 116, 97, 103], [87, 47, 34, 97, 34])] : List (Str × Str)).flatMap encT31), .row 0 31 2 (.slice o19 (([([105, 102, 45, 110, 111, 110, 101, 45, 109, 97, 116, 99, 104], [34, 98, 34, 44, 32, 34, 97, 34])] : List (Str × Str)).length) 1) (([([105, 102, 45, 110, 111, 110, 101, 45, 109, 97, 116, 99, 104], [34, 98, 34, 44, 32, 34, 97, 34])] : List (Str × Str)).length) (([([105, 102, 45, 110, 111, 110, 101, 45, 109, 97, 116, 99, 104], [34, 98, 34, 44, 32, 34, 97, 34])] : List (Str × Str)).flatMap encT31), .row 0 23 2 (.slice o14 t12.1.length c15) t12.1.length (t12.1.flatMap encT23), .row 0 23 2 (.slice o9 t7.1.length c10) t7.1.length (t7.1.flatMap encT23), .blk b6 (.cells #[.bool t4.1, S t4.2.1] 23 (0, 0)), .blk b3 (.cells #[.bool t1.1, S t1.2.1] 23 (0, 0))] := ho.call ho'; clear ho'
          refine st_pure tabOK hk [14, 15] [16, 17, 18, 19, 20, 21, 22, 23, 24, 25, 26, 27, 28, 29, 30, 31, 32, 33, 34, 35, 36, 37, 38, 39, 40, 41, 42, 43, 44, 45, 46, 47, 48, 49, 50, 51, 52, 53, 54, 55, 56, 57, 58, 59] [1, 3, 5, 6, 7, 9, 10, 11, 12, 13, 57] [(1, .pointer (some ⟨b3, 0, none⟩)), (3, .pointer (some ⟨b6, 0, none⟩)), (5, .slice o9 t7.1.length c10), (6, .bool t7.2.1), (7, I t7.2.2), (9, .bool t12.2.1), (10, I t12.2.2), (11, S t17.1), (12, I t17.2), (13, .bool t25), (57, .bool t34)] (True) (by kernel_rfl) trivial ?_
          clear hk; intro a hk
          rcases Bool.eq_false_or_eq_true (t34) with h36 | h36
          ·
            rw [h36] at hk
            have h37 : t34 = true := h36
            rw [if_pos h37] at H
            refine st_loadA tabOK hk 23 (some ⟨b3, 0, none⟩) 58 (by kernel_rfl) (by kernel_rfl) (.agg #[.bool false, S ([])]) (by kernel_rfl) [.bool t1.1, S t1.2.1] rfl (ho.cellsA 5 rfl rfl) ?_
            clear hk; intro a hk
            refine st_loadA tabOK hk 23 (some ⟨b6, 0, none⟩) 59 (by kernel_rfl) (by kernel_rfl) (.agg #[.bool false, S ([])]) (by kernel_rfl) [.bool t4.1, S t4.2.1] rfl (ho.cellsA 4 rfl rfl) ?_
            clear hk; intro a hk
            obtain ⟨t38, h39, H⟩ := Option.bind_eq_some_iff.1 H
            refine st_call hk 11 [.agg #[.bool t1.1, S t1.2.1], .agg #[.bool t4.1, S t4.2.1], .bool true] (some 60) enters11 (by kernel_rfl) (etag_Like.ok  t1.1 t1.2.1 t4.1 t4.2.1 true t38 h39 w ) ?_
            clear hk; rintro a u w ⟨rfl, ho'⟩ hk
            replace ho : Ows [] w0 w [.row 0 31 2 (.slice o22 (([([101, 116, 97, 103], [87, 47, 34, 97, 34])] : List (Str × Str)).length) 1) (([([101, 116, 97, 103], [87, 47, 34, 97, 34])] : List (Str × Str)).length) (([([101, 116, 97, 103], [87, 47, 34, 97, 34])] : List (Str × Str)).flatMap encT31), .row 0 31 2 (.slice o19 (([([105, 102, 45, 110, 111, 110, 101, 45, 109, 97, 116, 99, 104], [34, 98, 34, 44, 32, 34, 97, 34])] : List (Str × Str)).length) 1) (([([105, 102, 45, 110, 111, 110, 101, 45, 109, 97, 116, 99, 104], [34, 98, 34, 44, 32, 34, 97, 34])] : List (Str × Str)).length) (([([105, 102, 45, 110, 111, 110, 101, 45, 109, 97, 116, 99, 104], [34, 98, 34, 44, 32, 34, 97, 34])] : List (Str × Str)).flatMap encT31), .row 0 23 2 (.slice o14 t12.1.length c15) t12.1.length (t12.1.flatMap encT23), .row 0 23 2 (.slice o9 t7.1.length c10) t7.1.length (t7.1.flatMap encT23), .blk b6 (.cells #[.bool t4.1, S t4.2.1] 23 (0, 0)), .blk b3 (.cells #[.bool t1.1, S t1.2.1] 23 (0, 0))] := ho.call ho'; clear ho'
            refine st_pure tabOK hk [19, 20, 21] [22, 23, 24, 25, 26, 27, 28, 29, 30, 31, 32, 33, 34, 35, 36, 37, 38, 39, 40, 41, 42, 43, 44, 45, 46, 47, 48, 49, 50, 51, 52, 53, 54, 55, 56, 57, 58, 59] [5, 6, 7, 9, 10, 11, 12, 13, 63] [(5, .slice o9 t7.1.length c10), (6, .bool t7.2.1), (7, I t7.2.2), (9, .bool t12.2.1), (10, I t12.2.2), (11, S t17.1), (12, I t17.2), (13, .bool t25), (63, .bool (!t38))] (True) (by kernel_rfl) trivial ?_
            clear hk; intro a hk
            rcases Bool.eq_false_or_eq_true (!t38) with h40 | h40
            ·
              rw [h40] at hk
              have h41 : (!t38) = true := h40
              rw [if_pos h41] at H
              refine st_pure tabOK hk [22, 23, 24, 25, 26] [27, 28, 29, 30, 31, 32, 33, 34, 35, 36, 37, 38, 39, 40, 41, 42, 43, 44, 45, 46, 47, 48, 49, 50, 51, 52, 53, 54, 55, 56, 57, 58, 59] [5, 6, 7, 9, 10, 11, 12, 13, 68] [(5, .slice o9 t7.1.length c10), (6, .bool t7.2.1), (7, I t7.2.2), (9, .bool t12.2.1), (10, I t12.2.2), (11, S t17.1), (12, I t17.2), (13, .bool t25), (68, .bool ((t7.1.length : Int) == 2))] (True) (by kernel_rfl) trivial ?_
              clear hk; intro a hk
              rcases Bool.eq_false_or_eq_true ((t7.1.length : Int) == 2) with h42 | h42
              ·
                rw [h42] at hk
                have h43 : ((t7.1.length : Int) == 2) = true := h42
                rw [if_pos h43] at H
                have h44 : 1 < (t7.1.length : Int) := by
                  by_cases h44 : 1 < (t7.1.length : Int)
                  · exact h44
                  · rw [if_neg h44] at H; cases H
                rw [if_pos h44] at H
                refine st_pure tabOK hk [27, 28, 29] [30, 31, 32, 33, 34, 35, 36, 37, 38, 39, 40, 41, 42, 43, 44, 45, 46, 47, 48, 49, 50, 51, 52, 53, 54, 55, 56, 57, 58, 59] [6, 7, 9, 10, 11, 12, 13, 68, 71] [(6, .bool t7.2.1), (7, I t7.2.2), (9, .bool t12.2.1), (10, I t12.2.2), (11, S t17.1), (12, I t17.2), (13, .bool t25), (68, .bool true), (71, .pointer ((o9.map (·.add ((1 : Int).toNat * 2))).map (·.add 1)))] ((o9.isSome = true ∧ (0 : Int) ≤ 1 ∧ 1 < (t7.1.length : Int)) ∧ (((o9.map (·.add ((1 : Int).toNat * 2))).isSome = true) ∧ True)) (by kernel_rfl) ⟨⟨(Rd.someK (ho.rd 3 rfl) encT23_len (by decide) h44), (by decide), h44⟩, ⟨(isSome_map (Rd.someK (ho.rd 3 rfl) encT23_len (by decide) h44)), trivial⟩⟩ ?_
                clear hk; intro a hk
                refine st_load1 tabOK hk 9 ((o9.map (·.add ((1 : Int).toNat * 2))).map (·.add 1)) 72 (by kernel_rfl) (by kernel_rfl) (S ((get t7.1 1).2)) ((ho.rd 3 rfl).elemK encT23_len (by decide) h44 rfl) ?_
                clear hk; intro a hk
                refine st_pure tabOK hk [31, 32, 33] [34, 35, 36, 37, 38, 39, 40, 41, 42, 43, 44, 45, 46, 47, 48, 49, 50, 51, 52, 53, 54, 55, 56, 57, 58, 59] [6, 7, 9, 10, 11, 12, 13, 75] [(6, .bool t7.2.1), (7, I t7.2.2), (9, .bool t12.2.1), (10, I t12.2.2), (11, S t17.1), (12, I t17.2), (13, .bool t25), (75, .bool (((get t7.1 1).2) == ([97, 44, 98])))] (True) (by kernel_rfl) trivial ?_
                clear hk; intro a hk
                rcases Bool.eq_false_or_eq_true (((get t7.1 1).2) == ([97, 44, 98])) with h45 | h45
                ·
                  rw [h45] at hk
                  have h46 : (((get t7.1 1).2) == ([97, 44, 98])) = true := h45
                  rw [if_pos h46] at H
                  refine st_pure tabOK hk [34, 35, 36, 37] [38, 39, 40, 41, 42, 43, 44, 45, 46, 47, 48, 49, 50, 51, 52, 53, 54, 55, 56, 57, 58, 59] [7, 9, 10, 11, 12, 13, 79] [(7, I t7.2.2), (9, .bool t12.2.1), (10, I t12.2.2), (11, S t17.1), (12, I t17.2), (13, .bool t25), (79, .bool (!t7.2.1))] (True) (by kernel_rfl) trivial ?_
                  clear hk; intro a hk
                  rcases Bool.eq_false_or_eq_true (!t7.2.1) with h47 | h47
                  ·
                    rw [h47] at hk
                    have h48 : (!t7.2.1) = true := h47
                    rw [if_pos h48] at H
                    refine st_pure tabOK hk [38, 39, 40, 41] [42, 43, 44, 45, 46, 47, 48, 49, 50, 51, 52, 53, 54, 55, 56, 57, 58, 59] [9, 10, 11, 12, 13, 83] [(9, .bool t12.2.1), (10, I t12.2.2), (11, S t17.1), (12, I t17.2), (13, .bool t25), (83, .bool (t7.2.2 == 0))] (True) (by kernel_rfl) trivial ?_
                    clear hk; intro a hk
                    rcases Bool.eq_false_or_eq_true (t7.2.2 == 0) with h49 | h49
                    ·
                      rw [h49] at hk
                      have h50 : (t7.2.2 == 0) = true := h49
                      rw [if_pos h50] at H
                      refine st_pure tabOK hk [42, 43, 44] [45, 46, 47, 48, 49, 50, 51, 52, 53, 54, 55, 56, 57, 58, 59] [10, 11, 12, 13, 86] [(10, I t12.2.2), (11, S t17.1), (12, I t17.2), (13, .bool t25), (86, .bool t12.2.1)] (True) (by kernel_rfl) trivial ?_
                      clear hk; intro a hk
                      rcases Bool.eq_false_or_eq_true (t12.2.1) with h51 | h51
                      ·
                        rw [h51] at hk
                        have h52 : t12.2.1 = true := h51
                        rw [if_pos h52] at H
                        refine st_pure tabOK hk [45, 46, 47, 48] [49, 50, 51, 52, 53, 54, 55, 56, 57, 58, 59] [11, 12, 13, 90] [(11, S t17.1), (12, I t17.2), (13, .bool t25), (90, .bool (t12.2.2 == 0))] (True) (by kernel_rfl) trivial ?_
                        clear hk; intro a hk
                        rcases Bool.eq_false_or_eq_true (t12.2.2 == 0) with h53 | h53
                        ·
                          rw [h53] at hk
                          have h54 : (t12.2.2 == 0) = true := h53
                          rw [if_pos h54] at H
                          refine st_pure tabOK hk [49, 50, 51, 52] [53, 54, 55, 56, 57, 58, 59] [12, 13, 94] [(12, I t17.2), (13, .bool t25), (94, .bool (t17.1 == ([87, 47, 34, 97, 34])))] (True) (by kernel_rfl) trivial ?_
                          clear hk; intro a hk
                          rcases Bool.eq_false_or_eq_true (t17.1 == ([87, 47, 34, 97, 34])) with h55 | h55
                          ·
                            rw [h55] at hk
                            have h56 : (t17.1 == ([87, 47, 34, 97, 34])) = true := h55
                            rw [if_pos h56] at H
                            refine st_pure tabOK hk [53, 54, 55, 56] [57, 58, 59] [13, 98] [(13, .bool t25), (98, .bool (t17.2 == 0))] (True) (by kernel_rfl) trivial ?_
                            clear hk; intro a hk
                            rcases Bool.eq_false_or_eq_true (t17.2 == 0) with h57 | h57
                            ·
                              rw [h57] at hk
                              have h58 : (t17.2 == 0) = true := h57
                              rw [if_pos h58] at H
                              refine st_pure tabOK hk [57, 58, 59] [] [0] [(0, .bool t25)] (True) (by kernel_rfl) trivial ?_
                              clear hk; intro a hk
                              refine st_done ?_
                              replace ho : Ows [] w0 w [.row 0 31 2 (.slice o19 (([([105, 102, 45, 110, 111, 110, 101, 45, 109, 97, 116, 99, 104], [34, 98, 34, 44, 32, 34, 97, 34])] : List (Str × Str)).length) 1) (([([105, 102, 45, 110, 111, 110, 101, 45, 109, 97, 116, 99, 104], [34, 98, 34, 44, 32, 34, 97, 34])] : List (Str × Str)).length) (([([105, 102, 45, 110, 111, 110, 101, 45, 109, 97, 116, 99, 104], [34, 98, 34, 44, 32, 34, 97, 34])] : List (Str × Str)).flatMap encT31), .row 0 23 2 (.slice o14 t12.1.length c15) t12.1.length (t12.1.flatMap encT23), .row 0 23 2 (.slice o9 t7.1.length c10) t7.1.length (t7.1.flatMap encT23), .blk b6 (.cells #[.bool t4.1, S t4.2.1] 23 (0, 0)), .blk b3 (.cells #[.bool t1.1, S t1.2.1] 23 (0, 0))] := ho.erase 0
                              replace ho : Ows [] w0 w [.row 0 23 2 (.slice o14 t12.1.length c15) t12.1.length (t12.1.flatMap encT23), .row 0 23 2 (.slice o9 t7.1.length c10) t7.1.length (t7.1.flatMap encT23), .blk b6 (.cells #[.bool t4.1, S t4.2.1] 23 (0, 0)), .blk b3 (.cells #[.bool t1.1, S t1.2.1] 23 (0, 0))] := ho.erase 0
                              replace ho : Ows [] w0 w [.row 0 23 2 (.slice o9 t7.1.length c10) t7.1.length (t7.1.flatMap encT23), .blk b6 (.cells #[.bool t4.1, S t4.2.1] 23 (0, 0)), .blk b3 (.cells #[.bool t1.1, S t1.2.1] 23 (0, 0))] := ho.erase 0
                              replace ho : Ows [] w0 w [.blk b6 (.cells #[.bool t4.1, S t4.2.1] 23 (0, 0)), .blk b3 (.cells #[.bool t1.1, S t1.2.1] 23 (0, 0))] := ho.erase 0
                              replace ho : Ows [] w0 w [.blk b3 (.cells #[.bool t1.1, S t1.2.1] 23 (0, 0))] := ho.erase 0
                              replace ho : Ows [] w0 w [] := ho.erase 0
                              obtain rfl := Option.some.inj H
                              exact J a w ⟨hk.to [0] _ (by kernel_rfl), ho⟩
                            ·
                              rw [h57] at hk
                              have h59 : ¬ ((t17.2 == 0) = true) := ne_true_of_eq_false h57
                              rw [if_neg h59] at H
                              refine st_pure tabOK hk [57, 58, 59] [] [0] [(0, .bool false)] (True) (by kernel_rfl) trivial ?_
                              clear hk; intro a hk
                              refine st_done ?_
                              replace ho : Ows [] w0 w [.row 0 31 2 (.slice o19 (([([105, 102, 45, 110, 111, 110, 101, 45, 109, 97, 116, 99, 104], [34, 98, 34, 44, 32, 34, 97, 34])] : List (Str × Str)).length) 1) (([([105, 102, 45, 110, 111, 110, 101, 45, 109, 97, 116, 99, 104], [34, 98, 34, 44, 32, 34, 97, 34])] : List (Str × Str)).length) (([([105, 102, 45, 110, 111, 110, 101, 45, 109, 97, 116, 99, 104], [34, 98, 34, 44, 32, 34, 97, 34])] : List (Str × Str)).flatMap encT31), .row 0 23 2 (.slice o14 t12.1.length c15) t12.1.length (t12.1.flatMap encT23), .row 0 23 2 (.slice o9 t7.1.length c10) t7.1.length (t7.1.flatMap encT23), .blk b6 (.cells #[.bool t4.1, S t4.2.1] 23 (0, 0)), .blk b3 (.cells #[.bool t1.1, S t1.2.1] 23 (0, 0))] := ho.erase 0
                              replace ho : Ows [] w0 w [.row 0 23 2 (.slice o14 t12.1.length c15) t12.1.length (t12.1.flatMap encT23), .row 0 23 2 (.slice o9 t7.1.length c10) t7.1.length (t7.1.flatMap encT23), .blk b6 (.cells #[.bool t4.1, S t4.2.1] 23 (0, 0)), .blk b3 (.cells #[.bool t1.1, S t1.2.1] 23 (0, 0))] := ho.erase 0
                              replace ho : Ows [] w0 w [.row 0 23 2 (.slice o9 t7.1.length c10) t7.1.length (t7.1.flatMap encT23), .blk b6 (.cells #[.bool t4.1, S t4.2.1] 23 (0, 0)), .blk b3 (.cells #[.bool t1.1, S t1.2.1] 23 (0, 0))] := ho.erase 0
                              replace ho : Ows [] w0 w [.blk b6 (.cells #[.bool t4.1, S t4.2.1] 23 (0, 0)), .blk b3 (.cells #[.bool t1.1, S t1.2.1] 23 (0, 0))] := ho.erase 0
                              replace ho : Ows [] w0 w [.blk b3 (.cells #[.bool t1.1, S t1.2.1] 23 (0, 0))] := ho.erase 0
                              replace ho : Ows [] w0 w [] := ho.erase 0
                              obtain rfl := Option.some.inj H
                              exact J a w ⟨hk.to [0] _ (by kernel_rfl), ho⟩
                          ·
                            rw [h55] at hk
                            have h60 : ¬ ((t17.1 == ([87, 47, 34, 97, 34])) = true) := ne_true_of_eq_false h55
                            rw [if_neg h60] at H
                            refine st_pure tabOK hk [53, 54, 55, 56, 57, 58, 59] [] [0] [(0, .bool false)] (True) (by kernel_rfl) trivial ?_
                            clear hk; intro a hk
                            refine st_done ?_
                            replace ho : Ows [] w0 w [.row 0 31 2 (.slice o19 (([([105, 102, 45, 110, 111, 110, 101, 45, 109, 97, 116, 99, 104], [34, 98, 34, 44, 32, 34, 97, 34])] : List (Str × Str)).length) 1) (([([105, 102, 45, 110, 111, 110, 101, 45, 109, 97, 116, 99, 104], [34, 98, 34, 44, 32, 34, 97, 34])] : List (Str × Str)).length) (([([105, 102, 45, 110, 111, 110, 101, 45, 109, 97, 116, 99, 104], [34, 98, 34, 44, 32, 34, 97, 34])] : List (Str × Str)).flatMap encT31), .row 0 23 2 (.slice o14 t12.1.length c15) t12.1.length (t12.1.flatMap encT23), .row 0 23 2 (.slice o9 t7.1.length c10) t7.1.length (t7.1.flatMap encT23), .blk b6 (.cells #[.bool t4.1, S t4.2.1] 23 (0, 0)), .blk b3 (.cells #[.bool t1.1, S t1.2.1] 23 (0, 0))] := ho.erase 0
                            replace ho : Ows [] w0 w [.row 0 23 2 (.slice o14 t12.1.length c15) t12.1.length (t12.1.flatMap encT23), .row 0 23 2 (.slice o9 t7.1.length c10) t7.1.length (t7.1.flatMap encT23), .blk b6 (.cells #[.bool t4.1, S t4.2.1] 23 (0, 0)), .blk b3 (.cells #[.bool t1.1, S t1.2.1] 23 (0, 0))] := ho.erase 0
                            replace ho : Ows [] w0 w [.row 0 23 2 (.slice o9 t7.1.length c10) t7.1.length (t7.1.flatMap encT23), .blk b6 (.cells #[.bool t4.1, S t4.2.1] 23 (0, 0)), .blk b3 (.cells #[.bool t1.1, S t1.2.1] 23 (0, 0))] := ho.erase 0
                            replace ho : Ows [] w0 w [.blk b6 (.cells #[.bool t4.1, S t4.2.1] 23 (0, 0)), .blk b3 (.cells #[.bool t1.1, S t1.2.1] 23 (0, 0))] := ho.erase 0
                            replace ho : Ows [] w0 w [.blk b3 (.cells #[.bool t1.1, S t1.2.1] 23 (0, 0))] := ho.erase 0
                            replace ho : Ows [] w0 w [] := ho.erase 0
                            obtain rfl := Option.some.inj H
                            exact J a w ⟨hk.to [0] _ (by kernel_rfl), ho⟩
                        ·
                          rw [h53] at hk
                          have h61 : ¬ ((t12.2.2 == 0) = true) := ne_true_of_eq_false h53
                          rw [if_neg h61] at H
                          refine st_pure tabOK hk [49, 50, 51, 52, 53, 54, 55, 56, 57, 58, 59] [] [0] [(0, .bool false)] (True) (by kernel_rfl) trivial ?_
                          clear hk; intro a hk
                          refine st_done ?_
                          replace ho : Ows [] w0 w [.row 0 31 2 (.slice o19 (([([105, 102, 45, 110, 111, 110, 101, 45, 109, 97, 116, 99, 104], [34, 98, 34, 44, 32, 34, 97, 34])] : List (Str × Str)).length) 1) (([([105, 102, 45, 110, 111, 110, 101, 45, 109, 97, 116, 99, 104], [34, 98, 34, 44, 32, 34, 97, 34])] : List (Str × Str)).length) (([([105, 102, 45, 110, 111, 110, 101, 45, 109, 97, 116, 99, 104], [34, 98, 34, 44, 32, 34, 97, 34])] : List (Str × Str)).flatMap encT31), .row 0 23 2 (.slice o14 t12.1.length c15) t12.1.length (t12.1.flatMap encT23), .row 0 23 2 (.slice o9 t7.1.length c10) t7.1.length (t7.1.flatMap encT23), .blk b6 (.cells #[.bool t4.1, S t4.2.1] 23 (0, 0)), .blk b3 (.cells #[.bool t1.1, S t1.2.1] 23 (0, 0))] := ho.erase 0
                          replace ho : Ows [] w0 w [.row 0 23 2 (.slice o14 t12.1.length c15) t12.1.length (t12.1.flatMap encT23), .row 0 23 2 (.slice o9 t7.1.length c10) t7.1.length (t7.1.flatMap encT23), .blk b6 (.cells #[.bool t4.1, S t4.2.1] 23 (0, 0)), .blk b3 (.cells #[.bool t1.1, S t1.2.1] 23 (0, 0))] := ho.erase 0
                          replace ho : Ows [] w0 w [.row 0 23 2 (.slice o9 t7.1.length c10) t7.1.length (t7.1.flatMap encT23), .blk b6 (.cells #[.bool t4.1, S t4.2.1] 23 (0, 0)), .blk b3 (.cells #[.bool t1.1, S t1.2.1] 23 (0, 0))] := ho.erase 0
                          replace ho : Ows [] w0 w [.blk b6 (.cells #[.bool t4.1, S t4.2.1] 23 (0, 0)), .blk b3 (.cells #[.bool t1.1, S t1.2.1] 23 (0, 0))] := ho.erase 0
                          replace ho : Ows [] w0 w [.blk b3 (.cells #[.bool t1.1, S t1.2.1] 23 (0, 0))] := ho.erase 0
                          replace ho : Ows [] w0 w [] := ho.erase 0
                          obtain rfl := Option.some.inj H
                          exact J a w ⟨hk.to [0] _ (by kernel_rfl), ho⟩
                      ·
                        rw [h51] at hk
                        have h62 : ¬ (t12.2.1 = true) := ne_true_of_eq_false h51
                        rw [if_neg h62] at H
                        refine st_pure tabOK hk [45, 46, 47, 48, 49, 50, 51, 52, 53, 54, 55, 56, 57, 58, 59] [] [0] [(0, .bool false)] (True) (by kernel_rfl) trivial ?_
                        clear hk; intro a hk
                        refine st_done ?_
                        replace ho : Ows [] w0 w [.row 0 31 2 (.slice o19 (([([105, 102, 45, 110, 111, 110, 101, 45, 109, 97, 116, 99, 104], [34, 98, 34, 44, 32, 34, 97, 34])] : List (Str × Str)).length) 1) (([([105, 102, 45, 110, 111, 110, 101, 45, 109, 97, 116, 99, 104], [34, 98, 34, 44, 32, 34, 97, 34])] : List (Str × Str)).length) (([([105, 102, 45, 110, 111, 110, 101, 45, 109, 97, 116, 99, 104], [34, 98, 34, 44, 32, 34, 97, 34])] : List (Str × Str)).flatMap encT31), .row 0 23 2 (.slice o14 t12.1.length c15) t12.1.length (t12.1.flatMap encT23), .row 0 23 2 (.slice o9 t7.1.length c10) t7.1.length (t7.1.flatMap encT23), .blk b6 (.cells #[.bool t4.1, S t4.2.1] 23 (0, 0)), .blk b3 (.cells #[.bool t1.1, S t1.2.1] 23 (0, 0))] := ho.erase 0
                        replace ho : Ows [] w0 w [.row 0 23 2 (.slice o14 t12.1.length c15) t12.1.length (t12.1.flatMap encT23), .row 0 23 2 (.slice o9 t7.1.length c10) t7.1.length (t7.1.flatMap encT23), .blk b6 (.cells #[.bool t4.1, S t4.2.1] 23 (0, 0)), .blk b3 (.cells #[.bool t1.1, S t1.2.1] 23 (0, 0))] := ho.erase 0
                        replace ho : Ows [] w0 w [.row 0 23 2 (.slice o9 t7.1.length c10) t7.1.length (t7.1.flatMap encT23), .blk b6 (.cells #[.bool t4.1, S t4.2.1] 23 (0, 0)), .blk b3 (.cells #[.bool t1.1, S t1.2.1] 23 (0, 0))] := ho.erase 0
                        replace ho : Ows [] w0 w [.blk b6 (.cells #[.bool t4.1, S t4.2.1] 23 (0, 0)), .blk b3 (.cells #[.bool t1.1, S t1.2.1] 23 (0, 0))] := ho.erase 0
                        replace ho : Ows [] w0 w [.blk b3 (.cells #[.bool t1.1, S t1.2.1] 23 (0, 0))] := ho.erase 0
                        replace ho : Ows [] w0 w [] := ho.erase 0
                        obtain rfl := Option.some.inj H
                        exact J a w ⟨hk.to [0] _ (by kernel_rfl), ho⟩
                    ·
                      rw [h49] at hk
                      have h63 : ¬ ((t7.2.2 == 0) = true) := ne_true_of_eq_false h49
                      rw [if_neg h63] at H
                      refine st_pure tabOK hk [42, 43, 44, 45, 46, 47, 48, 49, 50, 51, 52, 53, 54, 55, 56, 57, 58, 59] [] [0] [(0, .bool false)] (True) (by kernel_rfl) trivial ?_
                      clear hk; intro a hk
                      refine st_done ?_
                      replace ho : Ows [] w0 w [.row 0 31 2 (.slice o19 (([([105, 102, 45, 110, 111, 110, 101, 45, 109, 97, 116, 99, 104], [34, 98, 34, 44, 32, 34, 97, 34])] : List (Str × Str)).length) 1) (([([105, 102, 45, 110, 111, 110, 101, 45, 109, 97, 116, 99, 104], [34, 98, 34, 44, 32, 34, 97, 34])] : List (Str × Str)).length) (([([105, 102, 45, 110, 111, 110, 101, 45, 109, 97, 116, 99, 104], [34, 98, 34, 44, 32, 34, 97, 34])] : List (Str × Str)).flatMap encT31), .row 0 23 2 (.slice o14 t12.1.length c15) t12.1.length (t12.1.flatMap encT23), .row 0 23 2 (.slice o9 t7.1.length c10) t7.1.length (t7.1.flatMap encT23), .blk b6 (.cells #[.bool t4.1, S t4.2.1] 23 (0, 0)), .blk b3 (.cells #[.bool t1.1, S t1.2.1] 23 (0, 0))] := ho.erase 0
                      replace ho : Ows [] w0 w [.row 0 23 2 (.slice o14 t12.1.length c15) t12.1.length (t12.1.flatMap encT23), .row 0 23 2 (.slice o9 t7.1.length c10) t7.1.length (t7.1.flatMap encT23), .blk b6 (.cells #[.bool t4.1, S t4.2.1] 23 (0, 0)), .blk b3 (.cells #[.bool t1.1, S t1.2.1] 23 (0, 0))] := ho.erase 0
                      replace ho : Ows [] w0 w [.row 0 23 2 (.slice o9 t7.1.length c10) t7.1.length (t7.1.flatMap encT23), .blk b6 (.cells #[.bool t4.1, S t4.2.1] 23 (0, 0)), .blk b3 (.cells #[.bool t1.1, S t1.2.1] 23 (0, 0))] := ho.erase 0
                      replace ho : Ows [] w0 w [.blk b6 (.cells #[.bool t4.1, S t4.2.1] 23 (0, 0)), .blk b3 (.cells #[.bool t1.1, S t1.2.1] 23 (0, 0))] := ho.erase 0
                      replace ho : Ows [] w0 w [.blk b3 (.cells #[.bool t1.1, S t1.2.1] 23 (0, 0))] := ho.erase 0
                      replace ho : Ows [] w0 w [] := ho.erase 0
                      obtain rfl := Option.some.inj H
                      exact J a w ⟨hk.to [0] _ (by kernel_rfl), ho⟩
                  ·
                    rw [h47] at hk
                    have h64 : ¬ ((!t7.2.1) = true) := ne_true_of_eq_false h47
                    rw [if_neg h64] at H
                    refine st_pure tabOK hk [38, 39, 40, 41, 42, 43, 44, 45, 46, 47, 48, 49, 50, 51, 52, 53, 54, 55, 56, 57, 58, 59] [] [0] [(0, .bool false)] (True) (by kernel_rfl) trivial ?_
                    clear hk; intro a hk
                    refine st_done ?_
                    replace ho : Ows [] w0 w [.row 0 31 2 (.slice o19 (([([105, 102, 45, 110, 111, 110, 101, 45, 109, 97, 116, 99, 104], [34, 98, 34, 44, 32, 34, 97, 34])] : List (Str × Str)).length) 1) (([([105, 102, 45, 110, 111, 110, 101, 45, 109, 97, 116, 99, 104], [34, 98, 34, 44, 32, 34, 97, 34])] : List (Str × Str)).length) (([([105, 102, 45, 110, 111, 110, 101, 45, 109, 97, 116, 99, 104], [34, 98, 34, 44, 32, 34, 97, 34])] : List (Str × Str)).flatMap encT31), .row 0 23 2 (.slice o14 t12.1.length c15) t12.1.length (t12.1.flatMap encT23), .row 0 23 2 (.slice o9 t7.1.length c10) t7.1.length (t7.1.flatMap encT23), .blk b6 (.cells #[.bool t4.1, S t4.2.1] 23 (0, 0)), .blk b3 (.cells #[.bool t1.1, S t1.2.1] 23 (0, 0))] := ho.erase 0
                    replace ho : Ows [] w0 w [.row 0 23 2 (.slice o14 t12.1.length c15) t12.1.length (t12.1.flatMap encT23), .row 0 23 2 (.slice o9 t7.1.length c10) t7.1.length (t7.1.flatMap encT23), .blk b6 (.cells #[.bool t4.1, S t4.2.1] 23 (0, 0)), .blk b3 (.cells #[.bool t1.1, S t1.2.1] 23 (0, 0))] := ho.erase 0
                    replace ho : Ows [] w0 w [.row 0 23 2 (.slice o9 t7.1.length c10) t7.1.length (t7.1.flatMap encT23), .blk b6 (.cells #[.bool t4.1, S t4.2.1] 23 (0, 0)), .blk b3 (.cells #[.bool t1.1, S t1.2.1] 23 (0, 0))] := ho.erase 0
                    replace ho : Ows [] w0 w [.blk b6 (.cells #[.bool t4.1, S t4.2.1] 23 (0, 0)), .blk b3 (.cells #[.bool t1.1, S t1.2.1] 23 (0, 0))] := ho.erase 0
                    replace ho : Ows [] w0 w [.blk b3 (.cells #[.bool t1.1, S t1.2.1] 23 (0, 0))] := ho.erase 0
                    replace ho : Ows [] w0 w [] := ho.erase 0
                    obtain rfl := Option.some.inj H
                    exact J a w ⟨hk.to [0] _ (by kernel_rfl), ho⟩
                ·
                  rw [h45] at hk
                  have h65 : ¬ ((((get t7.1 1).2) == ([97, 44, 98])) = true) := ne_true_of_eq_false h45
                  rw [if_neg h65] at H
                  refine st_pure tabOK hk [34, 35, 36, 37, 38, 39, 40, 41, 42, 43, 44, 45, 46, 47, 48, 49, 50, 51, 52, 53, 54, 55, 56, 57, 58, 59] [] [0] [(0, .bool false)] (True) (by kernel_rfl) trivial ?_
                  clear hk; intro a hk
                  refine st_done ?_
                  replace ho : Ows [] w0 w [.row 0 31 2 (.slice o19 (([([105, 102, 45, 110, 111, 110, 101, 45, 109, 97, 116, 99, 104], [34, 98, 34, 44, 32, 34, 97, 34])] : List (Str × Str)).length) 1) (([([105, 102, 45, 110, 111, 110, 101, 45, 109, 97, 116, 99, 104], [34, 98, 34, 44, 32, 34, 97, 34])] : List (Str × Str)).length) (([([105, 102, 45, 110, 111, 110, 101, 45, 109, 97, 116, 99, 104], [34, 98, 34, 44, 32, 34, 97, 34])] : List (Str × Str)).flatMap encT31), .row 0 23 2 (.slice o14 t12.1.length c15) t12.1.length (t12.1.flatMap encT23), .row 0 23 2 (.slice o9 t7.1.length c10) t7.1.length (t7.1.flatMap encT23), .blk b6 (.cells #[.bool t4.1, S t4.2.1] 23 (0, 0)), .blk b3 (.cells #[.bool t1.1, S t1.2.1] 23 (0, 0))] := ho.erase 0
                  replace ho : Ows [] w0 w [.row 0 23 2 (.slice o14 t12.1.length c15) t12.1.length (t12.1.flatMap encT23), .row 0 23 2 (.slice o9 t7.1.length c10) t7.1.length (t7.1.flatMap encT23), .blk b6 (.cells #[.bool t4.1, S t4.2.1] 23 (0, 0)), .blk b3 (.cells #[.bool t1.1, S t1.2.1] 23 (0, 0))] := ho.erase 0
                  replace ho : Ows [] w0 w [.row 0 23 2 (.slice o9 t7.1.length c10) t7.1.length (t7.1.flatMap encT23), .blk b6 (.cells #[.bool t4.1, S t4.2.1] 23 (0, 0)), .blk b3 (.cells #[.bool t1.1, S t1.2.1] 23 (0, 0))] := ho.erase 0
                  replace ho : Ows [] w0 w [.blk b6 (.cells #[.bool t4.1, S t4.2.1] 23 (0, 0)), .blk b3 (.cells #[.bool t1.1, S t1.2.1] 23 (0, 0))] := ho.erase 0
                  replace ho : Ows [] w0 w [.blk b3 (.cells #[.bool t1.1, S t1.2.1] 23 (0, 0))] := ho.erase 0
                  replace ho : Ows [] w0 w [] := ho.erase 0
                  obtain rfl := Option.some.inj H
                  exact J a w ⟨hk.to [0] _ (by kernel_rfl), ho⟩
              ·
                rw [h42] at hk
                have h66 : ¬ (((t7.1.length : Int) == 2) = true) := ne_true_of_eq_false h42
                rw [if_neg h66] at H
                refine st_pure tabOK hk [27, 28, 29, 30, 31, 32, 33, 34, 35, 36, 37, 38, 39, 40, 41, 42, 43, 44, 45, 46, 47, 48, 49, 50, 51, 52, 53, 54, 55, 56, 57, 58, 59] [] [0] [(0, .bool false)] (True) (by kernel_rfl) trivial ?_
                clear hk; intro a hk
                refine st_done ?_
                replace ho : Ows [] w0 w [.row 0 31 2 (.slice o19 (([([105, 102, 45, 110, 111, 110, 101, 45, 109, 97, 116, 99, 104], [34, 98, 34, 44, 32, 34, 97, 34])] : List (Str × Str)).length) 1) (([([105, 102, 45, 110, 111, 110, 101, 45, 109, 97, 116, 99, 104], [34, 98, 34, 44, 32, 34, 97, 34])] : List (Str × Str)).length) (([([105, 102, 45, 110, 111, 110, 101, 45, 109, 97, 116, 99, 104], [34, 98, 34, 44, 32, 34, 97, 34])] : List (Str × Str)).flatMap encT31), .row 0 23 2 (.slice o14 t12.1.length c15) t12.1.length (t12.1.flatMap encT23), .row 0 23 2 (.slice o9 t7.1.length c10) t7.1.length (t7.1.flatMap encT23), .blk b6 (.cells #[.bool t4.1, S t4.2.1] 23 (0, 0)), .blk b3 (.cells #[.bool t1.1, S t1.2.1] 23 (0, 0))] := ho.erase 0
                replace ho : Ows [] w0 w [.row 0 23 2 (.slice o14 t12.1.length c15) t12.1.length (t12.1.flatMap encT23), .row 0 23 2 (.slice o9 t7.1.length c10) t7.1.length (t7.1.flatMap encT23), .blk b6 (.cells #[.bool t4.1, S t4.2.1] 23 (0, 0)), .blk b3 (.cells #[.bool t1.1, S t1.2.1] 23 (0, 0))] := ho.erase 0
                replace ho : Ows [] w0 w [.row 0 23 2 (.slice o9 t7.1.length c10) t7.1.length (t7.1.flatMap encT23), .blk b6 (.cells #[.bool t4.1, S t4.2.1] 23 (0, 0)), .blk b3 (.cells #[.bool t1.1, S t1.2.1] 23 (0, 0))] := ho.erase 0
                replace ho : Ows [] w0 w [.blk b6 (.cells #[.bool t4.1, S t4.2.1] 23 (0, 0)), .blk b3 (.cells #[.bool t1.1, S t1.2.1] 23 (0, 0))] := ho.erase 0
                replace ho : Ows [] w0 w [.blk b3 (.cells #[.bool t1.1, S t1.2.1] 23 (0, 0))] := ho.erase 0
                replace ho : Ows [] w0 w [] := ho.erase 0
                obtain rfl := Option.some.inj H
                exact J a w ⟨hk.to [0] _ (by kernel_rfl), ho⟩
            ·
              rw [h40] at hk
              have h67 : ¬ ((!t38) = true) := ne_true_of_eq_false h40
              rw [if_neg h67] at H
              refine st_pure tabOK hk [22, 23, 24, 25, 26, 27, 28, 29, 30, 31, 32, 33, 34, 35, 36, 37, 38, 39, 40, 41, 42, 43, 44, 45, 46, 47, 48, 49, 50, 51, 52, 53, 54, 55, 56, 57, 58, 59] [] [0] [(0, .bool false)] (True) (by kernel_rfl) trivial ?_
              clear hk; intro a hk
              refine st_done ?_
              replace ho : Ows [] w0 w [.row 0 31 2 (.slice o19 (([([105, 102, 45, 110, 111, 110, 101, 45, 109, 97, 116, 99, 104], [34, 98, 34, 44, 32, 34, 97, 34])] : List (Str × Str)).length) 1) (([([105, 102, 45, 110, 111, 110, 101, 45, 109, 97, 116, 99, 104], [34, 98, 34, 44, 32, 34, 97, 34])] : List (Str × Str)).length) (([([105, 102, 45, 110, 111, 110, 101, 45, 109, 97, 116, 99, 104], [34, 98, 34, 44, 32, 34, 97, 34])] : List (Str × Str)).flatMap encT31), .row 0 23 2 (.slice o14 t12.1.length c15) t12.1.length (t12.1.flatMap encT23), .row 0 23 2 (.slice o9 t7.1.length c10) t7.1.length (t7.1.flatMap encT23), .blk b6 (.cells #[.bool t4.1, S t4.2.1] 23 (0, 0)), .blk b3 (.cells #[.bool t1.1, S t1.2.1] 23 (0, 0))] := ho.erase 0
              replace ho : Ows [] w0 w [.row 0 23 2 (.slice o14 t12.1.length c15) t12.1.length (t12.1.flatMap encT23), .row 0 23 2 (.slice o9 t7.1.length c10) t7.1.length (t7.1.flatMap encT23), .blk b6 (.cells #[.bool t4.1, S t4.2.1] 23 (0, 0)), .blk b3 (.cells #[.bool t1.1, S t1.2.1] 23 (0, 0))] := ho.erase 0
              replace ho : Ows [] w0 w [.row 0 23 2 (.slice o9 t7.1.length c10) t7.1.length (t7.1.flatMap encT23), .blk b6 (.cells #[.bool t4.1, S t4.2.1] 23 (0, 0)), .blk b3 (.cells #[.bool t1.1, S t1.2.1] 23 (0, 0))] := ho.erase 0
              replace ho : Ows [] w0 w [.blk b6 (.cells #[.bool t4.1, S t4.2.1] 23 (0, 0)), .blk b3 (.cells #[.bool t1.1, S t1.2.1] 23 (0, 0))] := ho.erase 0
              replace ho : Ows [] w0 w [.blk b3 (.cells #[.bool t1.1, S t1.2.1] 23 (0, 0))] := ho.erase 0
              replace ho : Ows [] w0 w [] := ho.erase 0
              obtain rfl := Option.some.inj H
              exact J a w ⟨hk.to [0] _ (by kernel_rfl), ho⟩
          ·
            rw [h36] at hk
            have h68 : ¬ (t34 = true) := ne_true_of_eq_false h36
            rw [if_neg h68] at H
            refine st_pure tabOK hk [16, 17, 18, 19, 20, 21, 22, 23, 24, 25, 26, 27, 28, 29, 30, 31, 32, 33, 34, 35, 36, 37, 38, 39, 40, 41, 42, 43, 44, 45, 46, 47, 48, 49, 50, 51, 52, 53, 54, 55, 56, 57, 58, 59] [] [0] [(0, .bool false)] (True) (by kernel_rfl) trivial ?_
            clear hk; intro a hk
            refine st_done ?_
            replace ho : Ows [] w0 w [.row 0 31 2 (.slice o19 (([([105, 102, 45, 110, 111, 110, 101, 45, 109, 97, 116, 99, 104], [34, 98, 34, 44, 32, 34, 97, 34])] : List (Str × Str)).length) 1) (([([105, 102, 45, 110, 111, 110, 101, 45, 109, 97, 116, 99, 104], [34, 98, 34, 44, 32, 34, 97, 34])] : List (Str × Str)).length) (([([105, 102, 45, 110, 111, 110, 101, 45, 109, 97, 116, 99, 104], [34, 98, 34, 44, 32, 34, 97, 34])] : List (Str × Str)).flatMap encT31), .row 0 23 2 (.slice o14 t12.1.length c15) t12.1.length (t12.1.flatMap encT23), .row 0 23 2 (.slice o9 t7.1.length c10) t7.1.length (t7.1.flatMap encT23), .blk b6 (.cells #[.bool t4.1, S t4.2.1] 23 (0, 0)), .blk b3 (.cells #[.bool t1.1, S t1.2.1] 23 (0, 0))] := ho.erase 0
            replace ho : Ows [] w0 w [.row 0 23 2 (.slice o14 t12.1.length c15) t12.1.length (t12.1.flatMap encT23), .row 0 23 2 (.slice o9 t7.1.length c10) t7.1.length (t7.1.flatMap encT23), .blk b6 (.cells #[.bool t4.1, S t4.2.1] 23 (0, 0)), .blk b3 (.cells #[.bool t1.1, S t1.2.1] 23 (0, 0))] := ho.erase 0
            replace ho : Ows [] w0 w [.row 0 23 2 (.slice o9 t7.1.length c10) t7.1.length (t7.1.flatMap encT23), .blk b6 (.cells #[.bool t4.1, S t4.2.1] 23 (0, 0)), .blk b3 (.cells #[.bool t1.1, S t1.2.1] 23 (0, 0))] := ho.erase 0
            replace ho : Ows [] w0 w [.blk b6 (.cells #[.bool t4.1, S t4.2.1] 23 (0, 0)), .blk b3 (.cells #[.bool t1.1, S t1.2.1] 23 (0, 0))] := ho.erase 0
            replace ho : Ows [] w0 w [.blk b3 (.cells #[.bool t1.1, S t1.2.1] 23 (0, 0))] := ho.erase 0
            replace ho : Ows [] w0 w [] := ho.erase 0
            obtain rfl := Option.some.inj H
            exact J a w ⟨hk.to [0] _ (by kernel_rfl), ho⟩
        ·
          rw [h32] at hk
          have h69 : ¬ (t1.1 = true) := ne_true_of_eq_false h32
          rw [if_neg h69] at H
          refine st_pure tabOK hk [11, 12, 13, 14, 15, 16, 17, 18, 19, 20, 21, 22, 23, 24, 25, 26, 27, 28, 29, 30, 31, 32, 33, 34, 35, 36, 37, 38, 39, 40, 41, 42, 43, 44, 45, 46, 47, 48, 49, 50, 51, 52, 53, 54, 55, 56, 57, 58, 59] [] [0] [(0, .bool false)] (True) (by kernel_rfl) trivial ?_
          clear hk; intro a hk
          refine st_done ?_
          replace ho : Ows [] w0 w [.row 0 31 2 (.slice o19 (([([105, 102, 45, 110, 111, 110, 101, 45, 109, 97, 116, 99, 104], [34, 98, 34, 44, 32, 34, 97, 34])] : List (Str × Str)).length) 1) (([([105, 102, 45, 110, 111, 110, 101, 45, 109, 97, 116, 99, 104], [34, 98, 34, 44, 32, 34, 97, 34])] : List (Str × Str)).length) (([([105, 102, 45, 110, 111, 110, 101, 45, 109, 97, 116, 99, 104], [34, 98, 34, 44, 32, 34, 97, 34])] : List (Str × Str)).flatMap encT31), .row 0 23 2 (.slice o14 t12.1.length c15) t12.1.length (t12.1.flatMap encT23), .row 0 23 2 (.slice o9 t7.1.length c10) t7.1.length (t7.1.flatMap encT23), .blk b6 (.cells #[.bool t4.1, S t4.2.1] 23 (0, 0)), .blk b3 (.cells #[.bool t1.1, S t1.2.1] 23 (0, 0))] := ho.erase 0
          replace ho : Ows [] w0 w [.row 0 23 2 (.slice o14 t12.1.length c15) t12.1.length (t12.1.flatMap encT23), .row 0 23 2 (.slice o9 t7.1.length c10) t7.1.length (t7.1.flatMap encT23), .blk b6 (.cells #[.bool t4.1, S t4.2.1] 23 (0, 0)), .blk b3 (.cells #[.bool t1.1, S t1.2.1] 23 (0, 0))] := ho.erase 0
          replace ho : Ows [] w0 w [.row 0 23 2 (.slice o9 t7.1.length c10) t7.1.length (t7.1.flatMap encT23), .blk b6 (.cells #[.bool t4.1, S t4.2.1] 23 (0, 0)), .blk b3 (.cells #[.bool t1.1, S t1.2.1] 23 (0, 0))] := ho.erase 0
          replace ho : Ows [] w0 w [.blk b6 (.cells #[.bool t4.1, S t4.2.1] 23 (0, 0)), .blk b3 (.cells #[.bool t1.1, S t1.2.1] 23 (0, 0))] := ho.erase 0
          replace ho : Ows [] w0 w [.blk b3 (.cells #[.bool t1.1, S t1.2.1] 23 (0, 0))] := ho.erase 0
          replace ho : Ows [] w0 w [] := ho.erase 0
          obtain rfl := Option.some.inj H
          exact J a w ⟨hk.to [0] _ (by kernel_rfl), ho⟩
      ·
        rw [h30] at hk
        have h70 : ¬ ((t4.2.2 == 0) = true) := ne_true_of_eq_false h30
        rw [if_neg h70] at H
        refine st_pure tabOK hk [7, 8, 9, 10, 11, 12, 13, 14, 15, 16, 17, 18, 19, 20, 21, 22, 23, 24, 25, 26, 27, 28, 29, 30, 31, 32, 33, 34, 35, 36, 37, 38, 39, 40, 41, 42, 43, 44, 45, 46, 47, 48, 49, 50, 51, 52, 53, 54, 55, 56, 57, 58, 59] [] [0] [(0, .bool false)] (True) (by kernel_rfl) trivial ?_
        clear hk; intro a hk
        refine st_done ?_
        replace ho : Ows [] w0 w [.row 0 31 2 (.slice o19 (([([105, 102, 45, 110, 111, 110, 101, 45, 109, 97, 116, 99, 104], [34, 98, 34, 44, 32, 34, 97, 34])] : List (Str × Str)).length) 1) (([([105, 102, 45, 110, 111, 110, 101, 45, 109, 97, 116, 99, 104], [34, 98, 34, 44, 32, 34, 97, 34])] : List (Str × Str)).length) (([([105, 102, 45, 110, 111, 110, 101, 45, 109, 97, 116, 99, 104], [34, 98, 34, 44, 32, 34, 97, 34])] : List (Str × Str)).flatMap encT31), .row 0 23 2 (.slice o14 t12.1.length c15) t12.1.length (t12.1.flatMap encT23), .row 0 23 2 (.slice o9 t7.1.length c10) t7.1.length (t7.1.flatMap encT23), .blk b6 (.cells #[.bool t4.1, S t4.2.1] 23 (0, 0)), .blk b3 (.cells #[.bool t1.1, S t1.2.1] 23 (0, 0))] := ho.erase 0
        replace ho : Ows [] w0 w [.row 0 23 2 (.slice o14 t12.1.length c15) t12.1.length (t12.1.flatMap encT23), .row 0 23 2 (.slice o9 t7.1.length c10) t7.1.length (t7.1.flatMap encT23), .blk b6 (.cells #[.bool t4.1, S t4.2.1] 23 (0, 0)), .blk b3 (.cells #[.bool t1.1, S t1.2.1] 23 (0, 0))] := ho.erase 0
        replace ho : Ows [] w0 w [.row 0 23 2 (.slice o9 t7.1.length c10) t7.1.length (t7.1.flatMap encT23), .blk b6 (.cells #[.bool t4.1, S t4.2.1] 23 (0, 0)), .blk b3 (.cells #[.bool t1.1, S t1.2.1] 23 (0, 0))] := ho.erase 0
        replace ho : Ows [] w0 w [.blk b6 (.cells #[.bool t4.1, S t4.2.1] 23 (0, 0)), .blk b3 (.cells #[.bool t1.1, S t1.2.1] 23 (0, 0))] := ho.erase 0
        replace ho : Ows [] w0 w [.blk b3 (.cells #[.bool t1.1, S t1.2.1] 23 (0, 0))] := ho.erase 0
        replace ho : Ows [] w0 w [] := ho.erase 0
        obtain rfl := Option.some.inj H
        exact J a w ⟨hk.to [0] _ (by kernel_rfl), ho⟩
    ·
      rw [h28] at hk
      have h71 : ¬ ((t1.2.2 == 0) = true) := ne_true_of_eq_false h28
      rw [if_neg h71] at H
      refine st_pure tabOK hk [3, 4, 5, 6, 7, 8, 9, 10, 11, 12, 13, 14, 15, 16, 17, 18, 19, 20, 21, 22, 23, 24, 25, 26, 27, 28, 29, 30, 31, 32, 33, 34, 35, 36, 37, 38, 39, 40, 41, 42, 43, 44, 45, 46, 47, 48, 49, 50, 51, 52, 53, 54, 55, 56, 57, 58, 59] [] [0] [(0, .bool false)] (True) (by kernel_rfl) trivial ?_
      clear hk; intro a hk
      refine st_done ?_
      replace ho : Ows [] w0 w [.row 0 31 2 (.slice o19 (([([105, 102, 45, 110, 111, 110, 101, 45, 109, 97, 116, 99, 104], [34, 98, 34, 44, 32, 34, 97, 34])] : List (Str × Str)).length) 1) (([([105, 102, 45, 110, 111, 110, 101, 45, 109, 97, 116, 99, 104], [34, 98, 34, 44, 32, 34, 97, 34])] : List (Str × Str)).length) (([([105, 102, 45, 110, 111, 110, 101, 45, 109, 97, 116, 99, 104], [34, 98, 34, 44, 32, 34, 97, 34])] : List (Str × Str)).flatMap encT31), .row 0 23 2 (.slice o14 t12.1.length c15) t12.1.length (t12.1.flatMap encT23), .row 0 23 2 (.slice o9 t7.1.length c10) t7.1.length (t7.1.flatMap encT23), .blk b6 (.cells #[.bool t4.1, S t4.2.1] 23 (0, 0)), .blk b3 (.cells #[.bool t1.1, S t1.2.1] 23 (0, 0))] := ho.erase 0
      replace ho : Ows [] w0 w [.row 0 23 2 (.slice o14 t12.1.length c15) t12.1.length (t12.1.flatMap encT23), .row 0 23 2 (.slice o9 t7.1.length c10) t7.1.length (t7.1.flatMap encT23), .blk b6 (.cells #[.bool t4.1, S t4.2.1] 23 (0, 0)), .blk b3 (.cells #[.bool t1.1, S t1.2.1] 23 (0, 0))] := ho.erase 0
      replace ho : Ows [] w0 w [.row 0 23 2 (.slice o9 t7.1.length c10) t7.1.length (t7.1.flatMap encT23), .blk b6 (.cells #[.bool t4.1, S t4.2.1] 23 (0, 0)), .blk b3 (.cells #[.bool t1.1, S t1.2.1] 23 (0, 0))] := ho.erase 0
      replace ho : Ows [] w0 w [.blk b6 (.cells #[.bool t4.1, S t4.2.1] 23 (0, 0)), .blk b3 (.cells #[.bool t1.1, S t1.2.1] 23 (0, 0))] := ho.erase 0
      replace ho : Ows [] w0 w [.blk b3 (.cells #[.bool t1.1, S t1.2.1] 23 (0, 0))] := ho.erase 0
      replace ho : Ows [] w0 w [] := ho.erase 0
      obtain rfl := Option.some.inj H
      exact J a w ⟨hk.to [0] _ (by kernel_rfl), ho⟩
  · clear HX; rintro a w ⟨hk, ho⟩
    refine st_retG hk (by kernel_rfl) [.bool m27] #[.tmp 0] (by kernel_rfl) ⟨resT hk (by kernel_rfl), trivial⟩ ?_
    obtain rfl := Option.some.inj H
    exact ⟨_, rfl, rfl, ho⟩


/-! scullery/date.of: function 13 -/
noncomputable def C13 (p : List Nat) : Code := Sub (bodyOf f13) p
def date_of.l0 : Nat → Int → Int → Option (Int)
  | 0, _, _ => none
  | k + 1, p0, v1 => (((date_ahead.f (w64 (v1 + 1))).bind fun t2 => ((date_ahead.f 1970).bind fun t4 => (if w64 (t2 - t4) ≤ p0 then date_of.l0 k p0 (w64 (v1 + 1)) else some v1))))
def date_of.l1 : Nat → Int → Int → Int → Option (Int × Int)
  | 0, _, _, _ => none
  | k + 1, s11, v16, v17 => (((date_long.f s11 v17).bind fun t18 => (if v16 ≥ t18 then ((date_long.f s11 v17).bind fun t22 => date_of.l1 k s11 (w64 (v16 - t22)) (w64 (v17 + 1))) else some (v16, v17))))
def date_of.f (K : Nat) (p0 : Int) : Option (Int × Int × Int) := (((date_of.l0 K p0 (w64 ((1970 : Int) + (w64 (p0.tdiv 366))))).bind fun s11 => ((date_ahead.f s11).bind fun t12 => ((date_ahead.f 1970).bind fun t14 => ((date_of.l1 K s11 (w64 (p0 - (w64 (t12 - t14)))) 1).bind fun s27 => some (s11, s27.2, w64 (s27.1 + 1)))))))
abbrev date_of.post (w0 : World) (r : Int × Int × Int) (u : Value) (w : World) : Prop := u = .tuple #[I r.1, I r.2.1, I r.2.2] ∧ Ows [] w0 w []
theorem date_of.l0_ok : ∀ (k : Nat) (p0 : Int) (v1 : Int) (out : Int), date_of.l0 k p0 v1 = some out → ∀ (w0 : World) (Q : Exit → Act → World → Prop) (rest : List It) (a : Act) (w : World), Kn 39 a [(0, I p0), (2, I v1)] → Ows [] w0 w [] → (∀ (s : Int) (a : Act) (w : World), out = s → Kn 39 a [(0, I p0), (2, I s)] → Ows [] w0 w [] → G Tryd.prog Q rest a w) → G Tryd.prog Q (.code (C13 [1, 1, 0, 0, 0]) :: .inl (C13 [1, 1, 0, 0, 0]) :: .endb 0 :: rest) a w := by
  intro k
  induction k with
  | zero => intro p0 v1 out H; simp [date_of.l0] at H
  | succ k ih =>
    intro p0 v1 out H  w0 Q rest a w  hk ho J
    simp only [date_of.l0] at H
    refine st_seq (C13 [1, 1, 0, 0, 0, 0]) (C13 [1, 1, 0, 0, 0, 1]) (by kernel_rfl) ?_
    refine st_seq (C13 [1, 1, 0, 0, 0, 0, 0]) (C13 [1, 1, 0, 0, 0, 0, 1]) (by kernel_rfl) ?_
    refine st_region 2 (opsOf (C13 [1, 1, 0, 0, 0, 0, 0])) [0, 1, 2, 3, 4, 5, 6] (by kernel_rfl) (by kernel_rfl) ?_
    refine st_pure tabOK hk [0, 1] [2, 3, 4, 5, 6] [0, 2, 9] [(0, I p0), (2, I v1), (9, I (w64 (v1 + 1)))] (True) (by kernel_rfl) trivial ?_
    clear hk; intro a hk
    obtain ⟨t2, h3, H⟩ := Option.bind_eq_some_iff.1 H
    refine st_call hk 25 [I (w64 (v1 + 1))] (some 10) enters25 (by kernel_rfl) (date_ahead.ok  (w64 (v1 + 1)) t2 h3 w ) ?_
    clear hk; rintro a u w ⟨rfl, ho'⟩ hk
    replace ho : Ows [] w0 w [] := ho.call ho'; clear ho'
    obtain ⟨t4, h5, H⟩ := Option.bind_eq_some_iff.1 H
    refine st_call hk 25 [I 1970] (some 11) enters25 (by kernel_rfl) (date_ahead.ok  1970 t4 h5 w ) ?_
    clear hk; rintro a u w ⟨rfl, ho'⟩ hk
    replace ho : Ows [] w0 w [] := ho.call ho'; clear ho'
    refine st_pure tabOK hk [4, 5, 6] [] [0, 2, 14] [(0, I p0), (2, I v1), (14, .bool (decide (w64 (t2 - t4) ≤ p0)))] (True) (by kernel_rfl) trivial ?_
    clear hk; intro a hk
    refine st_done ?_
    refine st_cond hk (C13 [1, 1, 0, 0, 0, 0, 1, 0]) (C13 [1, 1, 0, 0, 0, 0, 1, 1]) (.tmp 14) (decide (w64 (t2 - t4) ≤ p0)) (by kernel_rfl) (by kernel_rfl) (fun h6 => ?_) (fun h6 => ?_)
    ·
      have h7 : w64 (t2 - t4) ≤ p0 := of_decide_eq_true h6
      rw [if_pos h7] at H
      refine st_skip (by kernel_rfl) ?_
      refine st_block 1 (C13 [1, 1, 0, 0, 0, 1, 0]) (by kernel_rfl) ?_
      refine st_region 3 (opsOf (C13 [1, 1, 0, 0, 0, 1, 0])) [0, 1, 2] (by kernel_rfl) (by kernel_rfl) ?_
      refine st_pure tabOK hk [0, 1, 2] [] [0, 2] [(0, I p0), (2, I (w64 (v1 + 1)))] (True) (by kernel_rfl) trivial ?_
      clear hk; intro a hk
      refine st_done ?_
      refine st_endb 1 ?_
      refine st_inl ?_
      exact ih p0 (w64 (v1 + 1)) out H  w0 Q rest a w  (hk.to [0, 2] _ (by kernel_rfl)) ho J
    ·
      have h8 : ¬ (w64 (t2 - t4) ≤ p0) := of_decide_eq_false h6
      rw [if_neg h8] at H
      refine st_exit 0 _ (by kernel_rfl) rfl ?_
      obtain rfl := Option.some.inj H
      exact J v1  a w rfl (hk.to [0, 2] _ (by kernel_rfl)) ho

theorem date_of.l1_ok : ∀ (k : Nat) (s11 : Int) (v16 : Int) (v17 : Int) (out : Int × Int), date_of.l1 k s11 v16 v17 = some out → ∀ (w0 : World) (Q : Exit → Act → World → Prop) (rest : List It) (a : Act) (w : World), Kn 39 a [(0, I v16), (2, I s11), (3, I v17)] → Ows [] w0 w [] → (∀ (s : Int × Int) (a : Act) (w : World), out = s → Kn 39 a [(0, I s.1), (2, I s11), (3, I s.2)] → Ows [] w0 w [] → G Tryd.prog Q rest a w) → G Tryd.prog Q (.code (C13 [1, 1, 1, 1, 1, 0, 0, 0]) :: .inl (C13 [1, 1, 1, 1, 1, 0, 0, 0]) :: .endb 2 :: rest) a w := by
  intro k
  induction k with
  | zero => intro s11 v16 v17 out H; simp [date_of.l1] at H
  | succ k ih =>
    intro s11 v16 v17 out H  w0 Q rest a w  hk ho J
    simp only [date_of.l1] at H
    refine st_seq (C13 [1, 1, 1, 1, 1, 0, 0, 0, 0]) (C13 [1, 1, 1, 1, 1, 0, 0, 0, 1]) (by kernel_rfl) ?_
    refine st_seq (C13 [1, 1, 1, 1, 1, 0, 0, 0, 0, 0]) (C13 [1, 1, 1, 1, 1, 0, 0, 0, 0, 1]) (by kernel_rfl) ?_
    refine st_region 6 (opsOf (C13 [1, 1, 1, 1, 1, 0, 0, 0, 0, 0])) [0, 1, 2, 3, 4] (by kernel_rfl) (by kernel_rfl) ?_
    refine st_pure tabOK hk [0, 1, 2] [3, 4] [0, 2, 3, 23, 24, 25] [(0, I v16), (2, I s11), (3, I v17), (23, I v16), (24, I s11), (25, I v17)] (True) (by kernel_rfl) trivial ?_
    clear hk; intro a hk
    obtain ⟨t18, h19, H⟩ := Option.bind_eq_some_iff.1 H
    refine st_call hk 26 [I s11, I v17] (some 26) enters26 (by kernel_rfl) (date_long.ok  s11 v17 t18 h19 w ) ?_
    clear hk; rintro a u w ⟨rfl, ho'⟩ hk
    replace ho : Ows [] w0 w [] := ho.call ho'; clear ho'
    refine st_pure tabOK hk [4] [] [0, 2, 3, 27] [(0, I v16), (2, I s11), (3, I v17), (27, .bool (decide (v16 ≥ t18)))] (True) (by kernel_rfl) trivial ?_
    clear hk; intro a hk
    refine st_done ?_
    refine st_cond hk (C13 [1, 1, 1, 1, 1, 0, 0, 0, 0, 1, 0]) (C13 [1, 1, 1, 1, 1, 0, 0, 0, 0, 1, 1]) (.tmp 27) (decide (v16 ≥ t18)) (by kernel_rfl) (by kernel_rfl) (fun h20 => ?_) (fun h20 => ?_)
    ·
      have h21 : v16 ≥ t18 := of_decide_eq_true h20
      rw [if_pos h21] at H
      refine st_skip (by kernel_rfl) ?_
      refine st_block 3 (C13 [1, 1, 1, 1, 1, 0, 0, 0, 1, 0]) (by kernel_rfl) ?_
      refine st_seq (C13 [1, 1, 1, 1, 1, 0, 0, 0, 1, 0, 0]) (C13 [1, 1, 1, 1, 1, 0, 0, 0, 1, 0, 1]) (by kernel_rfl) ?_
      refine st_region 7 (opsOf (C13 [1, 1, 1, 1, 1, 0, 0, 0, 1, 0, 0])) [0, 1, 2, 3, 4, 5] (by kernel_rfl) (by kernel_rfl) ?_
      refine st_pure tabOK hk [0, 1, 2] [3, 4, 5] [2, 3, 28, 29, 30] [(2, I s11), (3, I v17), (28, I v16), (29, I s11), (30, I v17)] (True) (by kernel_rfl) trivial ?_
      clear hk; intro a hk
      obtain ⟨t22, h23, H⟩ := Option.bind_eq_some_iff.1 H
      refine st_call hk 26 [I s11, I v17] (some 31) enters26 (by kernel_rfl) (date_long.ok  s11 v17 t22 h23 w ) ?_
      clear hk; rintro a u w ⟨rfl, ho'⟩ hk
      replace ho : Ows [] w0 w [] := ho.call ho'; clear ho'
      refine st_pure tabOK hk [4, 5] [] [0, 2, 3] [(0, I (w64 (v16 - t22))), (2, I s11), (3, I v17)] (True) (by kernel_rfl) trivial ?_
      clear hk; intro a hk
      refine st_done ?_
      refine st_region 8 (opsOf (C13 [1, 1, 1, 1, 1, 0, 0, 0, 1, 0, 1])) [0, 1, 2] (by kernel_rfl) (by kernel_rfl) ?_
      refine st_pure tabOK hk [0, 1, 2] [] [0, 2, 3] [(0, I (w64 (v16 - t22))), (2, I s11), (3, I (w64 (v17 + 1)))] (True) (by kernel_rfl) trivial ?_
      clear hk; intro a hk
      refine st_done ?_
      refine st_endb 3 ?_
      refine st_inl ?_
      exact ih s11 (w64 (v16 - t22)) (w64 (v17 + 1)) out H  w0 Q rest a w  (hk.to [0, 2, 3] _ (by kernel_rfl)) ho J
    ·
      have h24 : ¬ (v16 ≥ t18) := of_decide_eq_false h20
      rw [if_neg h24] at H
      refine st_exit 2 _ (by kernel_rfl) rfl ?_
      obtain rfl := Option.some.inj H
      exact J (v16, v17)  a w rfl (hk.to [0, 2, 3] _ (by kernel_rfl)) ho

theorem date_of.ok (K : Nat) (p0 : Int) (r : Int × Int × Int) (H : date_of.f K p0 = some r) (w0 : World)  : Calls Tryd.prog 13 ⟨[I p0]⟩ w0 fun e w => ∃ u, e = .returned u ∧ date_of.post w0 r u w := by
  unfold date_of.f at H
  refine st_start (N := 39) [I p0] (C13 []) func13 (by kernel_rfl) (by kernel_rfl) (by kernel_rfl) ?_
  intro a w hk ho
  refine st_seq (C13 [0]) (C13 [1]) (by kernel_rfl) ?_
  refine st_region 0 (opsOf (C13 [0])) [0, 1, 2] (by kernel_rfl) (by kernel_rfl) ?_
  refine st_pure tabOK hk [0, 1, 2] [] [0] [(0, I p0)] (True) (by kernel_rfl) trivial ?_
  clear hk; intro a hk
  refine st_done ?_
  refine st_seq (C13 [1, 0]) (C13 [1, 1]) (by kernel_rfl) ?_
  refine st_region 1 (opsOf (C13 [1, 0])) [0, 1, 2, 3] (by kernel_rfl) (by kernel_rfl) ?_
  refine st_pure tabOK hk [0, 1, 2, 3] [] [0, 2] [(0, I p0), (2, I (w64 ((1970 : Int) + (w64 (p0.tdiv 366)))))] ((366 : Int) ≠ 0 ∧ True) (by kernel_rfl) ⟨(by decide), trivial⟩ ?_
  clear hk; intro a hk
  refine st_done ?_
  refine st_seq (C13 [1, 1, 0]) (C13 [1, 1, 1]) (by kernel_rfl) ?_
  refine st_block 0 (C13 [1, 1, 0, 0]) (by kernel_rfl) ?_
  obtain ⟨m9, h10, H⟩ := Option.bind_eq_some_iff.1 H
  refine st_loop (C13 [1, 1, 0, 0, 0]) (by kernel_rfl) ?_
  refine date_of.l0_ok K p0 (w64 ((1970 : Int) + (w64 (p0.tdiv 366)))) m9 h10  w0 _ _ a w  (hk.to [0, 2] _ (by kernel_rfl)) ho ?_
  · intro s11  a w e hk ho; have e := e.symm; subst e
    refine st_seq (C13 [1, 1, 1, 0]) (C13 [1, 1, 1, 1]) (by kernel_rfl) ?_
    refine st_region 4 (opsOf (C13 [1, 1, 1, 0])) [0, 1, 2, 3, 4, 5, 6] (by kernel_rfl) (by kernel_rfl) ?_
    refine st_pure tabOK hk [0, 1] [2, 3, 4, 5, 6] [2, 17, 18] [(2, I s11), (17, I p0), (18, I s11)] (True) (by kernel_rfl) trivial ?_
    clear hk; intro a hk
    obtain ⟨t12, h13, H⟩ := Option.bind_eq_some_iff.1 H
    refine st_call hk 25 [I s11] (some 19) enters25 (by kernel_rfl) (date_ahead.ok  s11 t12 h13 w ) ?_
    clear hk; rintro a u w ⟨rfl, ho'⟩ hk
    replace ho : Ows [] w0 w [] := ho.call ho'; clear ho'
    obtain ⟨t14, h15, H⟩ := Option.bind_eq_some_iff.1 H
    refine st_call hk 25 [I 1970] (some 20) enters25 (by kernel_rfl) (date_ahead.ok  1970 t14 h15 w ) ?_
    clear hk; rintro a u w ⟨rfl, ho'⟩ hk
    replace ho : Ows [] w0 w [] := ho.call ho'; clear ho'
    refine st_pure tabOK hk [4, 5, 6] [] [0, 2] [(0, I (w64 (p0 - (w64 (t12 - t14))))), (2, I s11)] (True) (by kernel_rfl) trivial ?_
    clear hk; intro a hk
    refine st_done ?_
    refine st_seq (C13 [1, 1, 1, 1, 0]) (C13 [1, 1, 1, 1, 1]) (by kernel_rfl) ?_
    refine st_region 5 (opsOf (C13 [1, 1, 1, 1, 0])) [0] (by kernel_rfl) (by kernel_rfl) ?_
    refine st_pure tabOK hk [0] [] [0, 2, 3] [(0, I (w64 (p0 - (w64 (t12 - t14))))), (2, I s11), (3, I 1)] (True) (by kernel_rfl) trivial ?_
    clear hk; intro a hk
    refine st_done ?_
    refine st_seq (C13 [1, 1, 1, 1, 1, 0]) (C13 [1, 1, 1, 1, 1, 1]) (by kernel_rfl) ?_
    refine st_block 2 (C13 [1, 1, 1, 1, 1, 0, 0]) (by kernel_rfl) ?_
    obtain ⟨m25, h26, H⟩ := Option.bind_eq_some_iff.1 H
    refine st_loop (C13 [1, 1, 1, 1, 1, 0, 0, 0]) (by kernel_rfl) ?_
    refine date_of.l1_ok K s11 (w64 (p0 - (w64 (t12 - t14)))) 1 m25 h26  w0 _ _ a w  (hk.to [0, 2, 3] _ (by kernel_rfl)) ho ?_
    · intro s27  a w e hk ho; have e := e.symm; subst e
      refine st_seq (C13 [1, 1, 1, 1, 1, 1, 0]) (C13 [1, 1, 1, 1, 1, 1, 1]) (by kernel_rfl) ?_
      refine st_region 9 (opsOf (C13 [1, 1, 1, 1, 1, 1, 0])) [0, 1, 2, 3, 4, 5, 6] (by kernel_rfl) (by kernel_rfl) ?_
      refine st_pure tabOK hk [0, 1, 2, 3, 4, 5, 6] [] [2, 3, 4] [(2, I s11), (3, I s27.2), (4, I (w64 (s27.1 + 1)))] (True) (by kernel_rfl) trivial ?_
      clear hk; intro a hk
      refine st_done ?_
      refine st_retG hk (by kernel_rfl) [I s11, I s27.2, I (w64 (s27.1 + 1))] #[.tmp 2, .tmp 3, .tmp 4] (by kernel_rfl) ⟨resT hk (by kernel_rfl), resT hk (by kernel_rfl), resT hk (by kernel_rfl), trivial⟩ ?_
      obtain rfl := Option.some.inj H
      exact ⟨_, rfl, rfl, ho⟩


/-! scullery/date.digits: function 14 -/
noncomputable def C14 (p : List Nat) : Code := Sub (bodyOf f14) p
def date_digits.l0 : Nat → Int → List UInt8 → Int → Int → Option (List UInt8)
  | 0, _, _, _, _ => none
  | k + 1, p1, v7, v10, v11 => (if v11 < ((List.replicate p1.toNat (0 : UInt8)).length : Int) then (if (0 : Int) ≤ w64 ((w64 (p1 - 1)) - v11) then (if w64 ((w64 (p1 - 1)) - v11) < (v7.length : Int) then date_digits.l0 k p1 (v7.set (w64 ((w64 (p1 - 1)) - v11)).toNat (u8 (w8 (w64 ((48 : Int) + (v10.tmod 10)))))) (w64 (v10.tdiv 10)) (w64 (v11 + 1)) else none) else none) else some v7)
def date_digits.f (K : Nat) (p0 : Int) (p1 : Int) : Option (Str) := (if (0 : Int) ≤ p1 then (if p1 ≤ 4294967296 then ((date_digits.l0 K p1 (List.replicate p1.toNat (0 : UInt8)) p0 0).bind fun s22 => some s22) else none) else none)
abbrev date_digits.post (w0 : World) (r : Str) (u : Value) (w : World) : Prop := u = S r ∧ Ows [] w0 w []
theorem date_digits.l0_ok : ∀ (k : Nat) (p1 : Int) (v7 : List UInt8) (v10 : Int) (v11 : Int) (out : List UInt8), date_digits.l0 k p1 v7 v10 v11 = some out → ∀ (o8 : Option Addr) (c9 : Nat) (w0 : World) (Q : Exit → Act → World → Prop) (rest : List It) (a : Act) (w : World), Kn 29 a [(0, I v10), (1, I p1), (5, .slice o8 v7.length c9), (10, I ((List.replicate p1.toNat (0 : UInt8)).length : Int)), (11, I v11)] → Ows [] w0 w [.row 0 5 1 (.slice o8 v7.length c9) v7.length (v7.map bV)] → (∀ (s : List UInt8) (o12 : Option Addr) (c13 : Nat) (a : Act) (w : World), out = s → Kn 29 a [(5, .slice o12 s.length c13)] → Ows [] w0 w [.row 0 5 1 (.slice o12 s.length c13) s.length (s.map bV)] → G Tryd.prog Q rest a w) → G Tryd.prog Q (.code (C14 [1, 1, 0, 1, 0, 0]) :: .inl (C14 [1, 1, 0, 1, 0, 0]) :: .endb 0 :: rest) a w := by
  intro k
  induction k with
  | zero => intro p1 v7 v10 v11 out H; simp [date_digits.l0] at H
  | succ k ih =>
    intro p1 v7 v10 v11 out H o8 c9 w0 Q rest a w  hk ho J
    simp only [date_digits.l0] at H
    refine st_seq (C14 [1, 1, 0, 1, 0, 0, 0]) (C14 [1, 1, 0, 1, 0, 0, 1]) (by kernel_rfl) ?_
    refine st_region 3 (opsOf (C14 [1, 1, 0, 1, 0, 0, 0])) [0] (by kernel_rfl) (by kernel_rfl) ?_
    refine st_pure tabOK hk [0] [] [0, 1, 5, 10, 11, 12] [(0, I v10), (1, I p1), (5, .slice o8 v7.length c9), (10, I ((List.replicate p1.toNat (0 : UInt8)).length : Int)), (11, I v11), (12, .bool (decide (v11 < ((List.replicate p1.toNat (0 : UInt8)).length : Int))))] (True) (by kernel_rfl) trivial ?_
    clear hk; intro a hk
    refine st_done ?_
    refine st_seq (C14 [1, 1, 0, 1, 0, 0, 1, 0]) (C14 [1, 1, 0, 1, 0, 0, 1, 1]) (by kernel_rfl) ?_
    refine st_cond hk (C14 [1, 1, 0, 1, 0, 0, 1, 0, 0]) (C14 [1, 1, 0, 1, 0, 0, 1, 0, 1]) (.tmp 12) (decide (v11 < ((List.replicate p1.toNat (0 : UInt8)).length : Int))) (by kernel_rfl) (by kernel_rfl) (fun h14 => ?_) (fun h14 => ?_)
    ·
      have h15 : v11 < ((List.replicate p1.toNat (0 : UInt8)).length : Int) := of_decide_eq_true h14
      rw [if_pos h15] at H
      refine st_skip (by kernel_rfl) ?_
      refine st_seq (C14 [1, 1, 0, 1, 0, 0, 1, 1, 0]) (C14 [1, 1, 0, 1, 0, 0, 1, 1, 1]) (by kernel_rfl) ?_
      refine st_block 1 (C14 [1, 1, 0, 1, 0, 0, 1, 1, 0, 0]) (by kernel_rfl) ?_
      refine st_seq (C14 [1, 1, 0, 1, 0, 0, 1, 1, 0, 0, 0]) (C14 [1, 1, 0, 1, 0, 0, 1, 1, 0, 0, 1]) (by kernel_rfl) ?_
      refine st_region 4 (opsOf (C14 [1, 1, 0, 1, 0, 0, 1, 1, 0, 0, 0])) [0, 1] (by kernel_rfl) (by kernel_rfl) ?_
      refine st_pure tabOK hk [0, 1] [] [0, 1, 5, 6, 10, 11] [(0, I v10), (1, I p1), (5, .slice o8 v7.length c9), (6, I v11), (10, I ((List.replicate p1.toNat (0 : UInt8)).length : Int)), (11, I v11)] (True) (by kernel_rfl) trivial ?_
      clear hk; intro a hk
      refine st_done ?_
      refine st_seq (C14 [1, 1, 0, 1, 0, 0, 1, 1, 0, 0, 1, 0]) (C14 [1, 1, 0, 1, 0, 0, 1, 1, 0, 0, 1, 1]) (by kernel_rfl) ?_
      refine st_region 5 (opsOf (C14 [1, 1, 0, 1, 0, 0, 1, 1, 0, 0, 1, 0])) [0, 1, 2, 3, 4, 5, 6, 7, 8, 9, 10] (by kernel_rfl) (by kernel_rfl) ?_
      have h16 : (0 : Int) ≤ w64 ((w64 (p1 - 1)) - v11) := by
        by_cases h16 : (0 : Int) ≤ w64 ((w64 (p1 - 1)) - v11)
        · exact h16
        · rw [if_neg h16] at H; cases H
      rw [if_pos h16] at H
      have h17 : w64 ((w64 (p1 - 1)) - v11) < (v7.length : Int) := by
        by_cases h17 : w64 ((w64 (p1 - 1)) - v11) < (v7.length : Int)
        · exact h17
        · rw [if_neg h17] at H; cases H
      rw [if_pos h17] at H
      refine st_pure tabOK hk [0, 1, 2, 3, 4, 5, 6, 7, 8, 9] [10] [0, 1, 5, 10, 11, 22, 23] [(0, I v10), (1, I p1), (5, .slice o8 v7.length c9), (10, I ((List.replicate p1.toNat (0 : UInt8)).length : Int)), (11, I v11), (22, .int .u8 (w8 (w64 ((48 : Int) + (v10.tmod 10))))), (23, .pointer (o8.map (·.add ((w64 ((w64 (p1 - 1)) - v11)).toNat * 1))))] ((10 : Int) ≠ 0 ∧ ((o8.isSome = true ∧ (0 : Int) ≤ w64 ((w64 (p1 - 1)) - v11) ∧ w64 ((w64 (p1 - 1)) - v11) < (v7.length : Int)) ∧ True)) (by kernel_rfl) ⟨(by decide), ⟨⟨(Rd.some1 (ho.rd 0 rfl) h16 h17), h16, h17⟩, trivial⟩⟩ ?_
      clear hk; intro a hk
      rw [u8_bV (w8 (w64 ((48 : Int) + (v10.tmod 10)))) (w8_range _).1 (w8_range _).2] at hk
      refine st_putB hk ho 0 5 (w64 ((w64 (p1 - 1)) - v11)) (u8 (w8 (w64 ((48 : Int) + (v10.tmod 10))))) 5 o8 c9 v7 [.row 0 5 1 (.slice o8 ((v7.set (w64 ((w64 (p1 - 1)) - v11)).toNat (u8 (w8 (w64 ((48 : Int) + (v10.tmod 10)))))).length) c9) ((v7.set (w64 ((w64 (p1 - 1)) - v11)).toNat (u8 (w8 (w64 ((48 : Int) + (v10.tmod 10)))))).length) ((v7.set (w64 ((w64 (p1 - 1)) - v11)).toNat (u8 (w8 (w64 ((48 : Int) + (v10.tmod 10)))))).map bV)] (by kernel_rfl) (by kernel_rfl) (by kernel_rfl) rfl h16 h17 rfl ?_
      clear ho; intro w ho
      have h18 : v7.length = (v7.set (w64 ((w64 (p1 - 1)) - v11)).toNat (u8 (w8 (w64 ((48 : Int) + (v10.tmod 10)))))).length := by simp
      replace hk : Kn 29 a [(0, I v10), (1, I p1), (5, .slice o8 ((v7.set (w64 ((w64 (p1 - 1)) - v11)).toNat (u8 (w8 (w64 ((48 : Int) + (v10.tmod 10)))))).length) c9), (10, I ((List.replicate p1.toNat (0 : UInt8)).length : Int)), (11, I v11)] := by rw [← h18]; exact hk.to [0, 1, 5, 10, 11] _ (by kernel_rfl)
      refine st_done ?_
      refine st_region 6 (opsOf (C14 [1, 1, 0, 1, 0, 0, 1, 1, 0, 0, 1, 1])) [0, 1, 2] (by kernel_rfl) (by kernel_rfl) ?_
      refine st_pure tabOK hk [0, 1, 2] [] [0, 1, 5, 10, 11] [(0, I (w64 (v10.tdiv 10))), (1, I p1), (5, .slice o8 ((v7.set (w64 ((w64 (p1 - 1)) - v11)).toNat (u8 (w8 (w64 ((48 : Int) + (v10.tmod 10)))))).length) c9), (10, I ((List.replicate p1.toNat (0 : UInt8)).length : Int)), (11, I v11)] ((10 : Int) ≠ 0 ∧ True) (by kernel_rfl) ⟨(by decide), trivial⟩ ?_
      clear hk; intro a hk
      refine st_done ?_
      refine st_endb 1 ?_
      refine st_region 7 (opsOf (C14 [1, 1, 0, 1, 0, 0, 1, 1, 1])) [0, 1] (by kernel_rfl) (by kernel_rfl) ?_
      refine st_pure tabOK hk [0, 1] [] [0, 1, 5, 10, 11] [(0, I (w64 (v10.tdiv 10))), (1, I p1), (5, .slice o8 ((v7.set (w64 ((w64 (p1 - 1)) - v11)).toNat (u8 (w8 (w64 ((48 : Int) + (v10.tmod 10)))))).length) c9), (10, I ((List.replicate p1.toNat (0 : UInt8)).length : Int)), (11, I (w64 (v11 + 1)))] (True) (by kernel_rfl) trivial ?_
      clear hk; intro a hk
      refine st_done ?_
      refine st_inl ?_
      exact ih p1 (v7.set (w64 ((w64 (p1 - 1)) - v11)).toNat (u8 (w8 (w64 ((48 : Int) + (v10.tmod 10)))))) (w64 (v10.tdiv 10)) (w64 (v11 + 1)) out H o8 c9 w0 Q rest a w  (hk.to [0, 1, 5, 10, 11] _ (by kernel_rfl)) ho J
    ·
      have h19 : ¬ (v11 < ((List.replicate p1.toNat (0 : UInt8)).length : Int)) := of_decide_eq_false h14
      rw [if_neg h19] at H
      refine st_exit 0 _ (by kernel_rfl) rfl ?_
      obtain rfl := Option.some.inj H
      exact J v7 o8 c9 a w rfl (hk.to [5] _ (by kernel_rfl)) ho

theorem date_digits.ok (K : Nat) (p0 : Int) (p1 : Int) (r : Str) (H : date_digits.f K p0 p1 = some r) (w0 : World)  : Calls Tryd.prog 14 ⟨[I p0, I p1]⟩ w0 fun e w => ∃ u, e = .returned u ∧ date_digits.post w0 r u w := by
  unfold date_digits.f at H
  refine st_start (N := 29) [I p0, I p1] (C14 []) func14 (by kernel_rfl) (by kernel_rfl) (by kernel_rfl) ?_
  intro a w hk ho
  refine st_seq (C14 [0]) (C14 [1]) (by kernel_rfl) ?_
  refine st_region 0 (opsOf (C14 [0])) [0] (by kernel_rfl) (by kernel_rfl) ?_
  refine st_pure tabOK hk [0] [] [0, 1] [(0, I p0), (1, I p1)] (True) (by kernel_rfl) trivial ?_
  clear hk; intro a hk
  refine st_done ?_
  refine st_seq (C14 [1, 0]) (C14 [1, 1]) (by kernel_rfl) ?_
  refine st_region 1 (opsOf (C14 [1, 0])) [0, 1, 2] (by kernel_rfl) (by kernel_rfl) ?_
  refine st_pure tabOK hk [0] [1, 2] [0, 1, 7] [(0, I p0), (1, I p1), (7, I p1)] (True) (by kernel_rfl) trivial ?_
  clear hk; intro a hk
  have h1 : (0 : Int) ≤ p1 := by
    by_cases h1 : (0 : Int) ≤ p1
    · exact h1
    · rw [if_neg h1] at H; cases H
  rw [if_pos h1] at H
  have h2 : p1 ≤ 4294967296 := by
    by_cases h2 : p1 ≤ 4294967296
    · exact h2
    · rw [if_neg h2] at H; cases H
  rw [if_pos h2] at H
  refine st_make tabOK hk ho 60 5 8 p1 p1 (.int .u8 0) (by kernel_rfl) (by kernel_rfl) (by kernel_rfl) rfl h1 (Int.le_refl _) h2 ?_
  clear hk ho; intro a o3 w h4 hk ho
  rw [rep_bytes] at ho
  have h6 : p1.toNat = (List.replicate p1.toNat (0 : UInt8)).length := by simp
  replace ho : Ows [] w0 w [.row 0 5 1 (.slice o3 ((List.replicate p1.toNat (0 : UInt8)).length) p1.toNat) ((List.replicate p1.toNat (0 : UInt8)).length) ((List.replicate p1.toNat (0 : UInt8)).map bV)] := by rw [← h6]; exact ho
  replace hk : Kn 29 a [(0, I p0), (1, I p1), (8, .slice o3 ((List.replicate p1.toNat (0 : UInt8)).length) p1.toNat)] := by rw [← h6]; exact hk.to [0, 1, 8] _ (by kernel_rfl)
  refine st_pure tabOK hk [2] [] [0, 1, 5] [(0, I p0), (1, I p1), (5, .slice o3 ((List.replicate p1.toNat (0 : UInt8)).length) p1.toNat)] (True) (by kernel_rfl) trivial ?_
  clear hk; intro a hk
  refine st_done ?_
  refine st_seq (C14 [1, 1, 0]) (C14 [1, 1, 1]) (by kernel_rfl) ?_
  refine st_seq (C14 [1, 1, 0, 0]) (C14 [1, 1, 0, 1]) (by kernel_rfl) ?_
  refine st_region 2 (opsOf (C14 [1, 1, 0, 0])) [0, 1, 2] (by kernel_rfl) (by kernel_rfl) ?_
  refine st_pure tabOK hk [0, 1, 2] [] [0, 1, 5, 10, 11] [(0, I p0), (1, I p1), (5, .slice o3 ((List.replicate p1.toNat (0 : UInt8)).length) p1.toNat), (10, I ((List.replicate p1.toNat (0 : UInt8)).length : Int)), (11, I 0)] (True) (by kernel_rfl) trivial ?_
  clear hk; intro a hk
  refine st_done ?_
  refine st_block 0 (C14 [1, 1, 0, 1, 0]) (by kernel_rfl) ?_
  obtain ⟨m20, h21, H⟩ := Option.bind_eq_some_iff.1 H
  refine st_loop (C14 [1, 1, 0, 1, 0, 0]) (by kernel_rfl) ?_
  refine date_digits.l0_ok K p1 (List.replicate p1.toNat (0 : UInt8)) p0 0 m20 h21 o3 p1.toNat w0 _ _ a w  (hk.to [0, 1, 5, 10, 11] _ (by kernel_rfl)) ho ?_
  · intro s22 o23 c24 a w e hk ho; have e := e.symm; subst e
    refine st_seq (C14 [1, 1, 1, 0]) (C14 [1, 1, 1, 1]) (by kernel_rfl) ?_
    refine st_region 8 (opsOf (C14 [1, 1, 1, 0])) [0, 1, 2] (by kernel_rfl) (by kernel_rfl) ?_
    refine st_pure tabOK hk [0] [1, 2] [27] [(27, .slice o23 s22.length c24)] (True) (by kernel_rfl) trivial ?_
    clear hk; intro a hk
    refine st_string tabOK hk 60 9 5 28 o23 s22.length c24 s22 (by kernel_rfl) (by kernel_rfl) (by kernel_rfl) (by kernel_rfl) rfl (ho.rd 0 rfl) ?_
    clear hk; intro a hk
    refine st_pure tabOK hk [2] [] [4] [(4, S s22)] (True) (by kernel_rfl) trivial ?_
    clear hk; intro a hk
    refine st_done ?_
    replace ho : Ows [] w0 w [] := ho.erase 0
    refine st_retG hk (by kernel_rfl) [S s22] #[.tmp 4] (by kernel_rfl) ⟨resT hk (by kernel_rfl), trivial⟩ ?_
    obtain rfl := Option.some.inj H
    exact ⟨_, rfl, rfl, ho⟩

end Go.Proofs.YtifocgljpfaekaaDoor
