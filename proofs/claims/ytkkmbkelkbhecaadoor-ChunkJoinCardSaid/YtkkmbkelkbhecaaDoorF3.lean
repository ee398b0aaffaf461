/- Go functions as plain functions, and that the machine's calls do what these say. -/
import Derived.Test.YtkkmbkelkbhecaaDoorT
import Derived.Test.YtkkmbkelkbhecaaDoorLay
import Derived.Test.YtkkmbkelkbhecaaDoorHT
import Derived.Test.YtkkmbkelkbhecaaDoorF2
set_option maxRecDepth 100000
set_option linter.unusedVariables false
namespace Go.Proofs.YtkkmbkelkbhecaaDoor
open Go.Ev Go.Proofs.Tryd


/-! scullery/chunk.Decode: function 7 -/
noncomputable def C7 (p : List Nat) : Code := Sub (bodyOf f7) p
def chunk_Decode.l0 (K : Nat) : Nat → Str → List UInt8 → Str → Option ((List UInt8 × Str) ⊕ (Str × Int × Int))
  | 0, _, _, _ => none
  | k + 1, p0, v46, v49 => (((chunk_line.f v49).bind fun t52 => (if (t52.2.2 != 0) = true then some (.inr ([], 0, t52.2.2)) else ((chunk_size.f K t52.1).bind fun t57 => (if (!t57.2) = true then some (.inr ([], 0, 2)) else ((strings_Builder_Len_ps0t.f v46).bind fun t62 => (if w64 (t62.1 + t57.1) > 100000 then some (.inr ([], 0, 4)) else (if (t57.1 == 0) = true then some (.inl (t62.2, t52.2.1)) else (if (t52.2.1.length : Int) < w64 (t57.1 + 2) then some (.inr ([], 0, 3)) else (if (0 : Int) ≤ w64 (t57.1 + 2) then (if w64 (t57.1 + 2) ≤ (t52.2.1.length : Int) then (if (0 : Int) ≤ t57.1 then (if t57.1 ≤ w64 (t57.1 + 2) then (if (!(((t52.2.1.take (w64 (t57.1 + 2)).toNat).drop t57.1.toNat) == ([13, 10]))) = true then some (.inr ([], 0, 2)) else (if t57.1 ≤ (t52.2.1.length : Int) then ((strings_Builder_WriteString_ps0t.f t62.2 (t52.2.1.take t57.1.toNat)).bind fun t84 => chunk_Decode.l0 K k p0 t84.2 (t52.2.1.drop (w64 (t57.1 + 2)).toNat)) else none)) else none) else none) else none) else none))))))))))
def chunk_Decode.f (K : Nat) (p0 : Str) : Option (Str × Int × Int) := (((chunk_line.f p0).bind fun t2 => (if (t2.2.2 != 0) = true then some ([], 0, t2.2.2) else ((chunk_size.f K t2.1).bind fun t7 => (if (!t7.2) = true then some ([], 0, 2) else ((strings_Builder_Len_pnsn.f ).bind fun t12 => (if w64 (t12 + t7.1) > 100000 then some ([], 0, 4) else (if (t7.1 == 0) = true then ((head_Parse.f K t2.2.1).bind fun t19 => (if (t19.2.2 != 0) = true then some ([], 0, t19.2.2) else ((strings_Builder_String_pnsn.f ).bind fun t27 => some (t27, w64 ((w64 ((p0.length : Int) - (t2.2.1.length : Int))) + t19.2.1), 0)))) else (if (t2.2.1.length : Int) < w64 (t7.1 + 2) then some ([], 0, 3) else (if (0 : Int) ≤ w64 (t7.1 + 2) then (if w64 (t7.1 + 2) ≤ (t2.2.1.length : Int) then (if (0 : Int) ≤ t7.1 then (if t7.1 ≤ w64 (t7.1 + 2) then (if (!(((t2.2.1.take (w64 (t7.1 + 2)).toNat).drop t7.1.toNat) == ([13, 10]))) = true then some ([], 0, 2) else (if t7.1 ≤ (t2.2.1.length : Int) then ((strings_Builder_WriteString_pnsn.f (t2.2.1.take t7.1.toNat)).bind fun t41 => ((chunk_Decode.l0 K K p0 t41.2 (t2.2.1.drop (w64 (t7.1 + 2)).toNat)).bind fun m89 => match m89 with | .inl s91 => (((head_Parse.f K s91.2).bind fun t94 => (if (t94.2.2 != 0) = true then some ([], 0, t94.2.2) else ((strings_Builder_String_ps0t.f s91.1).bind fun t102 => some (t102, w64 ((w64 ((p0.length : Int) - (s91.2.length : Int))) + t94.2.1), 0))))) | .inr r104 => some r104)) else none)) else none) else none) else none) else none))))))))))
abbrev chunk_Decode.post (w0 : World) (r : Str × Int × Int) (u : Value) (w : World) : Prop := u = .tuple #[S r.1, I r.2.1, I r.2.2] ∧ Ows [] w0 w []
theorem chunk_Decode.l0_ok (K : Nat) : ∀ (k : Nat) (p0 : Str) (v46 : List UInt8) (v49 : Str) (out : (List UInt8 × Str) ⊕ (Str × Int × Int)), chunk_Decode.l0 K k p0 v46 v49 = some out → ∀ (b1 : Nat) (o47 : Option Addr) (c48 : Nat) (w0 : World) (hg : Glob w0) (Q : Exit → Act → World → Prop) (rest : List It) (a : Act) (w : World), Kn 80 a [(0, S p0), (5, .pointer (some ⟨b1, 0, none⟩)), (6, S v49)] → Ows [] w0 w [.blk b1 (.cells #[.pointer (some ⟨b1, 0, none⟩), .slice o47 v46.length c48] 33 (0, 0)), .row 1 5 1 (.slice o47 v46.length c48) v46.length (v46.map bV)] → (∀ (s : List UInt8 × Str) (o50 : Option Addr) (c51 : Nat) (a : Act) (w : World), out = .inl s → Kn 80 a [(0, S p0), (5, .pointer (some ⟨b1, 0, none⟩)), (6, S s.2)] → Ows [] w0 w [.blk b1 (.cells #[.pointer (some ⟨b1, 0, none⟩), .slice o50 s.1.length c51] 33 (0, 0)), .row 1 5 1 (.slice o50 s.1.length c51) s.1.length (s.1.map bV)] → G Tryd.prog Q rest a w) → (∀ (r : Str × Int × Int) (a : Act) (w : World), out = .inr r → Kn 80 a [(2, S r.1), (3, I r.2.1), (4, I r.2.2)] → Ows [] w0 w [] → Q .ret a w) → G Tryd.prog Q (.code (C7 [1, 0, 1, 1, 1, 0, 0, 0]) :: .inl (C7 [1, 0, 1, 1, 1, 0, 0, 0]) :: .endb 0 :: rest) a w := by
  intro k
  induction k with
  | zero => intro p0 v46 v49 out H; simp [chunk_Decode.l0] at H
  | succ k ih =>
    intro p0 v46 v49 out H b1 o47 c48 w0 hg Q rest a w  hk ho J R
    simp only [chunk_Decode.l0] at H
    refine st_block 1 (C7 [1, 0, 1, 1, 1, 0, 0, 0, 0]) (by kernel_rfl) ?_
    refine st_seq (C7 [1, 0, 1, 1, 1, 0, 0, 0, 0, 0]) (C7 [1, 0, 1, 1, 1, 0, 0, 0, 0, 1]) (by kernel_rfl) ?_
    refine st_region 3 (opsOf (C7 [1, 0, 1, 1, 1, 0, 0, 0, 0, 0])) [0, 1, 2, 3, 4, 5, 6, 7, 8] (by kernel_rfl) (by kernel_rfl) ?_
    refine st_pure tabOK hk [0] [1, 2, 3, 4, 5, 6, 7, 8] [0, 5, 17] [(0, S p0), (5, .pointer (some ⟨b1, 0, none⟩)), (17, S v49)] (True) (by kernel_rfl) trivial ?_
    clear hk; intro a hk
    obtain ⟨t52, h53, H⟩ := Option.bind_eq_some_iff.1 H
    refine st_call hk 11 [S v49] (some 18) enters11 (by kernel_rfl) (chunk_line.ok  v49 t52 h53 w ) ?_
    clear hk; rintro a u w ⟨rfl, ho'⟩ hk
    replace ho : Ows [] w0 w [.blk b1 (.cells #[.pointer (some ⟨b1, 0, none⟩), .slice o47 v46.length c48] 33 (0, 0)), .row 1 5 1 (.slice o47 v46.length c48) v46.length (v46.map bV)] := ho.call ho'; clear ho'
    refine st_pure tabOK hk [2, 3, 4, 5, 6, 7, 8] [] [0, 5, 7, 8, 9] [(0, S p0), (5, .pointer (some ⟨b1, 0, none⟩)), (7, S t52.1), (8, S t52.2.1), (9, I t52.2.2)] (True) (by kernel_rfl) trivial ?_
    clear hk; intro a hk
    refine st_done ?_
    refine st_seq (C7 [1, 0, 1, 1, 1, 0, 0, 0, 0, 1, 0]) (C7 [1, 0, 1, 1, 1, 0, 0, 0, 0, 1, 1]) (by kernel_rfl) ?_
    refine st_seq (C7 [1, 0, 1, 1, 1, 0, 0, 0, 0, 1, 0, 0]) (C7 [1, 0, 1, 1, 1, 0, 0, 0, 0, 1, 0, 1]) (by kernel_rfl) ?_
    refine st_region 4 (opsOf (C7 [1, 0, 1, 1, 1, 0, 0, 0, 0, 1, 0, 0])) [0, 1] (by kernel_rfl) (by kernel_rfl) ?_
    refine st_pure tabOK hk [0, 1] [] [0, 5, 7, 8, 9, 23] [(0, S p0), (5, .pointer (some ⟨b1, 0, none⟩)), (7, S t52.1), (8, S t52.2.1), (9, I t52.2.2), (23, .bool (t52.2.2 != 0))] (True) (by kernel_rfl) trivial ?_
    clear hk; intro a hk
    refine st_done ?_
    refine st_cond hk (C7 [1, 0, 1, 1, 1, 0, 0, 0, 0, 1, 0, 1, 0]) (C7 [1, 0, 1, 1, 1, 0, 0, 0, 0, 1, 0, 1, 1]) (.tmp 23) (t52.2.2 != 0) (by kernel_rfl) (by kernel_rfl) (fun h54 => ?_) (fun h54 => ?_)
    ·
      have h55 : (t52.2.2 != 0) = true := h54
      rw [if_pos h55] at H
      refine st_seq (C7 [1, 0, 1, 1, 1, 0, 0, 0, 0, 1, 0, 1, 0, 0]) (C7 [1, 0, 1, 1, 1, 0, 0, 0, 0, 1, 0, 1, 0, 1]) (by kernel_rfl) ?_
      refine st_region 5 (opsOf (C7 [1, 0, 1, 1, 1, 0, 0, 0, 0, 1, 0, 1, 0, 0])) [0, 1, 2, 3] (by kernel_rfl) (by kernel_rfl) ?_
      refine st_pure tabOK hk [0, 1, 2, 3] [] [2, 3, 4] [(2, S ([])), (3, I 0), (4, I t52.2.2)] (True) (by kernel_rfl) trivial ?_
      clear hk; intro a hk
      refine st_done ?_
      refine st_ret (by kernel_rfl) ?_
      replace ho : Ows [] w0 w [.row 1 5 1 (.slice o47 v46.length c48) v46.length (v46.map bV)] := ho.erase 0
      replace ho : Ows [] w0 w [] := ho.erase 0
      obtain rfl := Option.some.inj H
      exact R ([], 0, t52.2.2)  a w rfl (hk.to [2, 3, 4] _ (by kernel_rfl)) ho
    ·
      have h56 : ¬ ((t52.2.2 != 0) = true) := ne_true_of_eq_false h54
      rw [if_neg h56] at H
      refine st_skip (by kernel_rfl) ?_
      refine st_seq (C7 [1, 0, 1, 1, 1, 0, 0, 0, 0, 1, 1, 0]) (C7 [1, 0, 1, 1, 1, 0, 0, 0, 0, 1, 1, 1]) (by kernel_rfl) ?_
      refine st_region 6 (opsOf (C7 [1, 0, 1, 1, 1, 0, 0, 0, 0, 1, 1, 0])) [0, 1, 2, 3, 4, 5, 6] (by kernel_rfl) (by kernel_rfl) ?_
      refine st_pure tabOK hk [0] [1, 2, 3, 4, 5, 6] [0, 5, 8, 26] [(0, S p0), (5, .pointer (some ⟨b1, 0, none⟩)), (8, S t52.2.1), (26, S t52.1)] (True) (by kernel_rfl) trivial ?_
      clear hk; intro a hk
      obtain ⟨t57, h58, H⟩ := Option.bind_eq_some_iff.1 H
      refine st_call hk 12 [S t52.1] (some 27) enters12 (by kernel_rfl) (chunk_size.ok K  t52.1 t57 h58 w (hg.of ho)) ?_
      clear hk; rintro a u w ⟨rfl, ho'⟩ hk
      replace ho : Ows [] w0 w [.blk b1 (.cells #[.pointer (some ⟨b1, 0, none⟩), .slice o47 v46.length c48] 33 (0, 0)), .row 1 5 1 (.slice o47 v46.length c48) v46.length (v46.map bV)] := ho.call ho'; clear ho'
      refine st_pure tabOK hk [2, 3, 4, 5, 6] [] [0, 5, 8, 10, 11] [(0, S p0), (5, .pointer (some ⟨b1, 0, none⟩)), (8, S t52.2.1), (10, I t57.1), (11, .bool t57.2)] (True) (by kernel_rfl) trivial ?_
      clear hk; intro a hk
      refine st_done ?_
      refine st_seq (C7 [1, 0, 1, 1, 1, 0, 0, 0, 0, 1, 1, 1, 0]) (C7 [1, 0, 1, 1, 1, 0, 0, 0, 0, 1, 1, 1, 1]) (by kernel_rfl) ?_
      refine st_block 2 (C7 [1, 0, 1, 1, 1, 0, 0, 0, 0, 1, 1, 1, 0, 0]) (by kernel_rfl) ?_
      refine st_seq (C7 [1, 0, 1, 1, 1, 0, 0, 0, 0, 1, 1, 1, 0, 0, 0]) (C7 [1, 0, 1, 1, 1, 0, 0, 0, 0, 1, 1, 1, 0, 0, 1]) (by kernel_rfl) ?_
      refine st_region 7 (opsOf (C7 [1, 0, 1, 1, 1, 0, 0, 0, 0, 1, 1, 1, 0, 0, 0])) [0, 1, 2] (by kernel_rfl) (by kernel_rfl) ?_
      refine st_pure tabOK hk [0, 1, 2] [] [0, 5, 8, 10, 30] [(0, S p0), (5, .pointer (some ⟨b1, 0, none⟩)), (8, S t52.2.1), (10, I t57.1), (30, .bool (!t57.2))] (True) (by kernel_rfl) trivial ?_
      clear hk; intro a hk
      refine st_done ?_
      refine st_cond hk (C7 [1, 0, 1, 1, 1, 0, 0, 0, 0, 1, 1, 1, 0, 0, 1, 0]) (C7 [1, 0, 1, 1, 1, 0, 0, 0, 0, 1, 1, 1, 0, 0, 1, 1]) (.tmp 30) (!t57.2) (by kernel_rfl) (by kernel_rfl) (fun h59 => ?_) (fun h59 => ?_)
      ·
        have h60 : (!t57.2) = true := h59
        rw [if_pos h60] at H
        refine st_seq (C7 [1, 0, 1, 1, 1, 0, 0, 0, 0, 1, 1, 1, 0, 0, 1, 0, 0]) (C7 [1, 0, 1, 1, 1, 0, 0, 0, 0, 1, 1, 1, 0, 0, 1, 0, 1]) (by kernel_rfl) ?_
        refine st_region 8 (opsOf (C7 [1, 0, 1, 1, 1, 0, 0, 0, 0, 1, 1, 1, 0, 0, 1, 0, 0])) [0, 1, 2] (by kernel_rfl) (by kernel_rfl) ?_
        refine st_pure tabOK hk [0, 1, 2] [] [2, 3, 4] [(2, S ([])), (3, I 0), (4, I 2)] (True) (by kernel_rfl) trivial ?_
        clear hk; intro a hk
        refine st_done ?_
        refine st_ret (by kernel_rfl) ?_
        replace ho : Ows [] w0 w [.row 1 5 1 (.slice o47 v46.length c48) v46.length (v46.map bV)] := ho.erase 0
        replace ho : Ows [] w0 w [] := ho.erase 0
        obtain rfl := Option.some.inj H
        exact R ([], 0, 2)  a w rfl (hk.to [2, 3, 4] _ (by kernel_rfl)) ho
      ·
        have h61 : ¬ ((!t57.2) = true) := ne_true_of_eq_false h59
        rw [if_neg h61] at H
        refine st_seq (C7 [1, 0, 1, 1, 1, 0, 0, 0, 0, 1, 1, 1, 0, 0, 1, 1, 0]) (C7 [1, 0, 1, 1, 1, 0, 0, 0, 0, 1, 1, 1, 0, 0, 1, 1, 1]) (by kernel_rfl) ?_
        refine st_region 9 (opsOf (C7 [1, 0, 1, 1, 1, 0, 0, 0, 0, 1, 1, 1, 0, 0, 1, 1, 0])) [0, 1, 2, 3, 4] (by kernel_rfl) (by kernel_rfl) ?_
        obtain ⟨t62, h63, H⟩ := Option.bind_eq_some_iff.1 H
        refine st_call hk 13 [.pointer (some ⟨b1, 0, none⟩)] (some 34) enters13 (by kernel_rfl) (strings_Builder_Len_ps0t.ok  v46 t62 h63 w b1 o47 c48 (Ows.has (K := [.blk b1 (.cells #[.pointer (some ⟨b1, 0, none⟩), .slice o47 v46.length c48] 33 (0, 0)), .row 1 5 1 (.slice o47 v46.length c48) v46.length (v46.map bV)]) (L := []) ho)) ?_
        clear hk; rintro a u w ⟨o64, c65, rfl, ho'⟩ hk
        replace ho : Ows [] w0 w [.blk b1 (.cells #[.pointer (some ⟨b1, 0, none⟩), .slice o64 t62.2.length c65] 33 (0, 0)), .row 1 5 1 (.slice o64 t62.2.length c65) t62.2.length (t62.2.map bV)] := Ows.callP (K := [.blk b1 (.cells #[.pointer (some ⟨b1, 0, none⟩), .slice o47 v46.length c48] 33 (0, 0)), .row 1 5 1 (.slice o47 v46.length c48) v46.length (v46.map bV)]) (L := []) ho ho' rfl; clear ho'
        refine st_pure tabOK hk [1, 2, 3, 4] [] [0, 5, 8, 10, 33] [(0, S p0), (5, .pointer (some ⟨b1, 0, none⟩)), (8, S t52.2.1), (10, I t57.1), (33, .bool (decide (w64 (t62.1 + t57.1) > 100000)))] (True) (by kernel_rfl) trivial ?_
        clear hk; intro a hk
        refine st_done ?_
        refine st_cond hk (C7 [1, 0, 1, 1, 1, 0, 0, 0, 0, 1, 1, 1, 0, 0, 1, 1, 1, 0]) (C7 [1, 0, 1, 1, 1, 0, 0, 0, 0, 1, 1, 1, 0, 0, 1, 1, 1, 1]) (.tmp 33) (decide (w64 (t62.1 + t57.1) > 100000)) (by kernel_rfl) (by kernel_rfl) (fun h67 => ?_) (fun h67 => ?_)
        ·
          have h68 : w64 (t62.1 + t57.1) > 100000 := of_decide_eq_true h67
          rw [if_pos h68] at H
          refine st_seq (C7 [1, 0, 1, 1, 1, 0, 0, 0, 0, 1, 1, 1, 0, 0, 1, 1, 1, 0, 0]) (C7 [1, 0, 1, 1, 1, 0, 0, 0, 0, 1, 1, 1, 0, 0, 1, 1, 1, 0, 1]) (by kernel_rfl) ?_
          refine st_region 10 (opsOf (C7 [1, 0, 1, 1, 1, 0, 0, 0, 0, 1, 1, 1, 0, 0, 1, 1, 1, 0, 0])) [0, 1, 2] (by kernel_rfl) (by kernel_rfl) ?_
          refine st_pure tabOK hk [0, 1, 2] [] [2, 3, 4] [(2, S ([])), (3, I 0), (4, I 4)] (True) (by kernel_rfl) trivial ?_
          clear hk; intro a hk
          refine st_done ?_
          refine st_ret (by kernel_rfl) ?_
          replace ho : Ows [] w0 w [.row 1 5 1 (.slice o64 t62.2.length c65) t62.2.length (t62.2.map bV)] := ho.erase 0
          replace ho : Ows [] w0 w [] := ho.erase 0
          obtain rfl := Option.some.inj H
          exact R ([], 0, 4)  a w rfl (hk.to [2, 3, 4] _ (by kernel_rfl)) ho
        ·
          have h69 : ¬ (w64 (t62.1 + t57.1) > 100000) := of_decide_eq_false h67
          rw [if_neg h69] at H
          refine st_seq (C7 [1, 0, 1, 1, 1, 0, 0, 0, 0, 1, 1, 1, 0, 0, 1, 1, 1, 1, 0]) (C7 [1, 0, 1, 1, 1, 0, 0, 0, 0, 1, 1, 1, 0, 0, 1, 1, 1, 1, 1]) (by kernel_rfl) ?_
          refine st_region 11 (opsOf (C7 [1, 0, 1, 1, 1, 0, 0, 0, 0, 1, 1, 1, 0, 0, 1, 1, 1, 1, 0])) [0, 1, 2] (by kernel_rfl) (by kernel_rfl) ?_
          refine st_pure tabOK hk [0, 1, 2] [] [0, 5, 8, 10, 38] [(0, S p0), (5, .pointer (some ⟨b1, 0, none⟩)), (8, S t52.2.1), (10, I t57.1), (38, .bool (t57.1 == 0))] (True) (by kernel_rfl) trivial ?_
          clear hk; intro a hk
          refine st_done ?_
          refine st_cond hk (C7 [1, 0, 1, 1, 1, 0, 0, 0, 0, 1, 1, 1, 0, 0, 1, 1, 1, 1, 1, 0]) (C7 [1, 0, 1, 1, 1, 0, 0, 0, 0, 1, 1, 1, 0, 0, 1, 1, 1, 1, 1, 1]) (.tmp 38) (t57.1 == 0) (by kernel_rfl) (by kernel_rfl) (fun h70 => ?_) (fun h70 => ?_)
          ·
            have h71 : (t57.1 == 0) = true := h70
            rw [if_pos h71] at H
            refine st_seq (C7 [1, 0, 1, 1, 1, 0, 0, 0, 0, 1, 1, 1, 0, 0, 1, 1, 1, 1, 1, 0, 0]) (C7 [1, 0, 1, 1, 1, 0, 0, 0, 0, 1, 1, 1, 0, 0, 1, 1, 1, 1, 1, 0, 1]) (by kernel_rfl) ?_
            refine st_region 12 (opsOf (C7 [1, 0, 1, 1, 1, 0, 0, 0, 0, 1, 1, 1, 0, 0, 1, 1, 1, 1, 1, 0, 0])) [0, 1] (by kernel_rfl) (by kernel_rfl) ?_
            refine st_pure tabOK hk [0, 1] [] [0, 5, 6] [(0, S p0), (5, .pointer (some ⟨b1, 0, none⟩)), (6, S t52.2.1)] (True) (by kernel_rfl) trivial ?_
            clear hk; intro a hk
            refine st_done ?_
            refine st_exit 0 _ (by kernel_rfl) rfl ?_
            obtain rfl := Option.some.inj H
            exact J (t62.2, t52.2.1) o64 c65 a w rfl (hk.to [0, 5, 6] _ (by kernel_rfl)) ho
          ·
            have h72 : ¬ ((t57.1 == 0) = true) := ne_true_of_eq_false h70
            rw [if_neg h72] at H
            refine st_seq (C7 [1, 0, 1, 1, 1, 0, 0, 0, 0, 1, 1, 1, 0, 0, 1, 1, 1, 1, 1, 1, 0]) (C7 [1, 0, 1, 1, 1, 0, 0, 0, 0, 1, 1, 1, 0, 0, 1, 1, 1, 1, 1, 1, 1]) (by kernel_rfl) ?_
            refine st_region 13 (opsOf (C7 [1, 0, 1, 1, 1, 0, 0, 0, 0, 1, 1, 1, 0, 0, 1, 1, 1, 1, 1, 1, 0])) [0, 1, 2, 3, 4, 5] (by kernel_rfl) (by kernel_rfl) ?_
            refine st_pure tabOK hk [0, 1, 2, 3, 4, 5] [] [0, 5, 8, 10, 42] [(0, S p0), (5, .pointer (some ⟨b1, 0, none⟩)), (8, S t52.2.1), (10, I t57.1), (42, .bool (decide ((t52.2.1.length : Int) < w64 (t57.1 + 2))))] (True) (by kernel_rfl) trivial ?_
            clear hk; intro a hk
            refine st_done ?_
            refine st_cond hk (C7 [1, 0, 1, 1, 1, 0, 0, 0, 0, 1, 1, 1, 0, 0, 1, 1, 1, 1, 1, 1, 1, 0]) (C7 [1, 0, 1, 1, 1, 0, 0, 0, 0, 1, 1, 1, 0, 0, 1, 1, 1, 1, 1, 1, 1, 1]) (.tmp 42) (decide ((t52.2.1.length : Int) < w64 (t57.1 + 2))) (by kernel_rfl) (by kernel_rfl) (fun h73 => ?_) (fun h73 => ?_)
            ·
              have h74 : (t52.2.1.length : Int) < w64 (t57.1 + 2) := of_decide_eq_true h73
              rw [if_pos h74] at H
              refine st_seq (C7 [1, 0, 1, 1, 1, 0, 0, 0, 0, 1, 1, 1, 0, 0, 1, 1, 1, 1, 1, 1, 1, 0, 0]) (C7 [1, 0, 1, 1, 1, 0, 0, 0, 0, 1, 1, 1, 0, 0, 1, 1, 1, 1, 1, 1, 1, 0, 1]) (by kernel_rfl) ?_
              refine st_region 14 (opsOf (C7 [1, 0, 1, 1, 1, 0, 0, 0, 0, 1, 1, 1, 0, 0, 1, 1, 1, 1, 1, 1, 1, 0, 0])) [0, 1, 2] (by kernel_rfl) (by kernel_rfl) ?_
              refine st_pure tabOK hk [0, 1, 2] [] [2, 3, 4] [(2, S ([])), (3, I 0), (4, I 3)] (True) (by kernel_rfl) trivial ?_
              clear hk; intro a hk
              refine st_done ?_
              refine st_ret (by kernel_rfl) ?_
              replace ho : Ows [] w0 w [.row 1 5 1 (.slice o64 t62.2.length c65) t62.2.length (t62.2.map bV)] := ho.erase 0
              replace ho : Ows [] w0 w [] := ho.erase 0
              obtain rfl := Option.some.inj H
              exact R ([], 0, 3)  a w rfl (hk.to [2, 3, 4] _ (by kernel_rfl)) ho
            ·
              have h75 : ¬ ((t52.2.1.length : Int) < w64 (t57.1 + 2)) := of_decide_eq_false h73
              rw [if_neg h75] at H
              refine st_seq (C7 [1, 0, 1, 1, 1, 0, 0, 0, 0, 1, 1, 1, 0, 0, 1, 1, 1, 1, 1, 1, 1, 1, 0]) (C7 [1, 0, 1, 1, 1, 0, 0, 0, 0, 1, 1, 1, 0, 0, 1, 1, 1, 1, 1, 1, 1, 1, 1]) (by kernel_rfl) ?_
              refine st_region 15 (opsOf (C7 [1, 0, 1, 1, 1, 0, 0, 0, 0, 1, 1, 1, 0, 0, 1, 1, 1, 1, 1, 1, 1, 1, 0])) [0, 1, 2, 3, 4, 5, 6] (by kernel_rfl) (by kernel_rfl) ?_
              have h76 : (0 : Int) ≤ w64 (t57.1 + 2) := by
                by_cases h76 : (0 : Int) ≤ w64 (t57.1 + 2)
                · exact h76
                · rw [if_neg h76] at H; cases H
              rw [if_pos h76] at H
              have h77 : w64 (t57.1 + 2) ≤ (t52.2.1.length : Int) := by
                by_cases h77 : w64 (t57.1 + 2) ≤ (t52.2.1.length : Int)
                · exact h77
                · rw [if_neg h77] at H; cases H
              rw [if_pos h77] at H
              have h78 : (0 : Int) ≤ t57.1 := by
                by_cases h78 : (0 : Int) ≤ t57.1
                · exact h78
                · rw [if_neg h78] at H; cases H
              rw [if_pos h78] at H
              have h79 : t57.1 ≤ w64 (t57.1 + 2) := by
                by_cases h79 : t57.1 ≤ w64 (t57.1 + 2)
                · exact h79
                · rw [if_neg h79] at H; cases H
              rw [if_pos h79] at H
              refine st_pure tabOK hk [0, 1, 2, 3, 4, 5, 6] [] [0, 5, 8, 10, 48] [(0, S p0), (5, .pointer (some ⟨b1, 0, none⟩)), (8, S t52.2.1), (10, I t57.1), (48, .bool (!(((t52.2.1.take (w64 (t57.1 + 2)).toNat).drop t57.1.toNat) == ([13, 10]))))] ((((0 : Int) ≤ w64 (t57.1 + 2) ∧ w64 (t57.1 + 2) ≤ (t52.2.1.length : Int)) ∧ ((0 : Int) ≤ t57.1 ∧ t57.1 ≤ w64 (t57.1 + 2))) ∧ True) (by kernel_rfl) ⟨⟨⟨h76, h77⟩, ⟨h78, h79⟩⟩, trivial⟩ ?_
              clear hk; intro a hk
              refine st_done ?_
              refine st_cond hk (C7 [1, 0, 1, 1, 1, 0, 0, 0, 0, 1, 1, 1, 0, 0, 1, 1, 1, 1, 1, 1, 1, 1, 1, 0]) (C7 [1, 0, 1, 1, 1, 0, 0, 0, 0, 1, 1, 1, 0, 0, 1, 1, 1, 1, 1, 1, 1, 1, 1, 1]) (.tmp 48) (!(((t52.2.1.take (w64 (t57.1 + 2)).toNat).drop t57.1.toNat) == ([13, 10]))) (by kernel_rfl) (by kernel_rfl) (fun h80 => ?_) (fun h80 => ?_)
              ·
                have h81 : (!(((t52.2.1.take (w64 (t57.1 + 2)).toNat).drop t57.1.toNat) == ([13, 10]))) = true := h80
                rw [if_pos h81] at H
                refine st_seq (C7 [1, 0, 1, 1, 1, 0, 0, 0, 0, 1, 1, 1, 0, 0, 1, 1, 1, 1, 1, 1, 1, 1, 1, 0, 0]) (C7 [1, 0, 1, 1, 1, 0, 0, 0, 0, 1, 1, 1, 0, 0, 1, 1, 1, 1, 1, 1, 1, 1, 1, 0, 1]) (by kernel_rfl) ?_
                refine st_region 16 (opsOf (C7 [1, 0, 1, 1, 1, 0, 0, 0, 0, 1, 1, 1, 0, 0, 1, 1, 1, 1, 1, 1, 1, 1, 1, 0, 0])) [0, 1, 2] (by kernel_rfl) (by kernel_rfl) ?_
                refine st_pure tabOK hk [0, 1, 2] [] [2, 3, 4] [(2, S ([])), (3, I 0), (4, I 2)] (True) (by kernel_rfl) trivial ?_
                clear hk; intro a hk
                refine st_done ?_
                refine st_ret (by kernel_rfl) ?_
                replace ho : Ows [] w0 w [.row 1 5 1 (.slice o64 t62.2.length c65) t62.2.length (t62.2.map bV)] := ho.erase 0
                replace ho : Ows [] w0 w [] := ho.erase 0
                obtain rfl := Option.some.inj H
                exact R ([], 0, 2)  a w rfl (hk.to [2, 3, 4] _ (by kernel_rfl)) ho
              ·
                have h82 : ¬ ((!(((t52.2.1.take (w64 (t57.1 + 2)).toNat).drop t57.1.toNat) == ([13, 10]))) = true) := ne_true_of_eq_false h80
                rw [if_neg h82] at H
                refine st_skip (by kernel_rfl) ?_
                refine st_endb 2 ?_
                refine st_seq (C7 [1, 0, 1, 1, 1, 0, 0, 0, 0, 1, 1, 1, 1, 0]) (C7 [1, 0, 1, 1, 1, 0, 0, 0, 0, 1, 1, 1, 1, 1]) (by kernel_rfl) ?_
                refine st_region 17 (opsOf (C7 [1, 0, 1, 1, 1, 0, 0, 0, 0, 1, 1, 1, 1, 0])) [0, 1, 2, 3] (by kernel_rfl) (by kernel_rfl) ?_
                have h83 : t57.1 ≤ (t52.2.1.length : Int) := by
                  by_cases h83 : t57.1 ≤ (t52.2.1.length : Int)
                  · exact h83
                  · rw [if_neg h83] at H; cases H
                rw [if_pos h83] at H
                refine st_pure tabOK hk [0, 1, 2] [3] [0, 5, 8, 10, 57] [(0, S p0), (5, .pointer (some ⟨b1, 0, none⟩)), (8, S t52.2.1), (10, I t57.1), (57, S (t52.2.1.take t57.1.toNat))] (((0 : Int) ≤ t57.1 ∧ t57.1 ≤ (t52.2.1.length : Int)) ∧ True) (by kernel_rfl) ⟨⟨h78, h83⟩, trivial⟩ ?_
                clear hk; intro a hk
                obtain ⟨t84, h85, H⟩ := Option.bind_eq_some_iff.1 H
                refine st_call hk 8 [.pointer (some ⟨b1, 0, none⟩), S (t52.2.1.take t57.1.toNat)] (some 58) enters8 (by kernel_rfl) (strings_Builder_WriteString_ps0t.ok  t62.2 (t52.2.1.take t57.1.toNat) t84 h85 w b1 o64 c65 (Ows.has (K := [.blk b1 (.cells #[.pointer (some ⟨b1, 0, none⟩), .slice o64 t62.2.length c65] 33 (0, 0)), .row 1 5 1 (.slice o64 t62.2.length c65) t62.2.length (t62.2.map bV)]) (L := []) ho)) ?_
                clear hk; rintro a u w ⟨o86, c87, rfl, ho'⟩ hk
                replace ho : Ows [] w0 w [.blk b1 (.cells #[.pointer (some ⟨b1, 0, none⟩), .slice o86 t84.2.length c87] 33 (0, 0)), .row 1 5 1 (.slice o86 t84.2.length c87) t84.2.length (t84.2.map bV)] := Ows.callP (K := [.blk b1 (.cells #[.pointer (some ⟨b1, 0, none⟩), .slice o64 t62.2.length c65] 33 (0, 0)), .row 1 5 1 (.slice o64 t62.2.length c65) t62.2.length (t62.2.map bV)]) (L := []) ho ho' rfl; clear ho'
                refine st_done ?_
                refine st_region 18 (opsOf (C7 [1, 0, 1, 1, 1, 0, 0, 0, 0, 1, 1, 1, 1, 1])) [0, 1, 2, 3, 4] (by kernel_rfl) (by kernel_rfl) ?_
                refine st_pure tabOK hk [0, 1, 2, 3, 4] [] [0, 5, 6] [(0, S p0), (5, .pointer (some ⟨b1, 0, none⟩)), (6, S (t52.2.1.drop (w64 (t57.1 + 2)).toNat))] (((0 : Int) ≤ w64 (t57.1 + 2) ∧ w64 (t57.1 + 2) ≤ (t52.2.1.length : Int)) ∧ True) (by kernel_rfl) ⟨⟨h76, h77⟩, trivial⟩ ?_
                clear hk; intro a hk
                refine st_done ?_
                refine st_endb 1 ?_
                refine st_inl ?_
                exact ih p0 t84.2 (t52.2.1.drop (w64 (t57.1 + 2)).toNat) out H b1 o86 c87 w0 hg Q rest a w  (hk.to [0, 5, 6] _ (by kernel_rfl)) ho J R

theorem chunk_Decode.ok (K : Nat) (p0 : Str) (r : Str × Int × Int) (H : chunk_Decode.f K p0 = some r) (w0 : World) (hg : Glob w0) : Calls Tryd.prog 7 ⟨[S p0]⟩ w0 fun e w => ∃ u, e = .returned u ∧ chunk_Decode.post w0 r u w := by
  unfold chunk_Decode.f at H
  refine st_start (N := 80) [S p0] (C7 []) func7 (by kernel_rfl) (by kernel_rfl) (by kernel_rfl) ?_
  intro a w hk ho
  refine st_seq (C7 [0]) (C7 [1]) (by kernel_rfl) ?_
  refine st_region 0 (opsOf (C7 [0])) [0, 1, 2] (by kernel_rfl) (by kernel_rfl) ?_
  refine st_pure tabOK hk [0, 1, 2] [] [0] [(0, S p0)] (True) (by kernel_rfl) trivial ?_
  clear hk; intro a hk
  refine st_done ?_
  refine st_scope (C7 [1, 0]) (by kernel_rfl) ?_
  refine st_seq (C7 [1, 0, 0]) (C7 [1, 0, 1]) (by kernel_rfl) ?_
  refine st_region 1 (opsOf (C7 [1, 0, 0])) [0] (by kernel_rfl) (by kernel_rfl) ?_
  refine st_new tabOK hk ho #[.pointer none, .slice none 0 0] 33 5 (by kernel_rfl) ?_
  clear hk ho; intro a b1 w hk ho
  refine st_done ?_
  refine st_seq (C7 [1, 0, 1, 0]) (C7 [1, 0, 1, 1]) (by kernel_rfl) ?_
  refine st_region 2 (opsOf (C7 [1, 0, 1, 0])) [0, 1] (by kernel_rfl) (by kernel_rfl) ?_
  refine st_pure tabOK hk [0, 1] [] [0, 5, 6] [(0, S p0), (5, .pointer (some ⟨b1, 0, none⟩)), (6, S p0)] (True) (by kernel_rfl) trivial ?_
  clear hk; intro a hk
  refine st_done ?_
  refine st_seq (C7 [1, 0, 1, 1, 0]) (C7 [1, 0, 1, 1, 1]) (by kernel_rfl) ?_
  refine st_label 0 (by kernel_rfl) ?_
  refine st_seq (C7 [1, 0, 1, 1, 1, 0]) (C7 [1, 0, 1, 1, 1, 1]) (by kernel_rfl) ?_
  refine st_block 0 (C7 [1, 0, 1, 1, 1, 0, 0]) (by kernel_rfl) ?_
  refine st_loop (C7 [1, 0, 1, 1, 1, 0, 0, 0]) (by kernel_rfl) ?_
  refine st_block 1 (C7 [1, 0, 1, 1, 1, 0, 0, 0, 0]) (by kernel_rfl) ?_
  refine st_seq (C7 [1, 0, 1, 1, 1, 0, 0, 0, 0, 0]) (C7 [1, 0, 1, 1, 1, 0, 0, 0, 0, 1]) (by kernel_rfl) ?_
  refine st_region 3 (opsOf (C7 [1, 0, 1, 1, 1, 0, 0, 0, 0, 0])) [0, 1, 2, 3, 4, 5, 6, 7, 8] (by kernel_rfl) (by kernel_rfl) ?_
  refine st_pure tabOK hk [0] [1, 2, 3, 4, 5, 6, 7, 8] [0, 5, 17] [(0, S p0), (5, .pointer (some ⟨b1, 0, none⟩)), (17, S p0)] (True) (by kernel_rfl) trivial ?_
  clear hk; intro a hk
  obtain ⟨t2, h3, H⟩ := Option.bind_eq_some_iff.1 H
  refine st_call hk 11 [S p0] (some 18) enters11 (by kernel_rfl) (chunk_line.ok  p0 t2 h3 w ) ?_
  clear hk; rintro a u w ⟨rfl, ho'⟩ hk
  replace ho : Ows [] w0 w [.blk b1 (.cells #[.pointer none, .slice none 0 0] 33 (0, 0))] := ho.call ho'; clear ho'
  refine st_pure tabOK hk [2, 3, 4, 5, 6, 7, 8] [] [0, 5, 7, 8, 9] [(0, S p0), (5, .pointer (some ⟨b1, 0, none⟩)), (7, S t2.1), (8, S t2.2.1), (9, I t2.2.2)] (True) (by kernel_rfl) trivial ?_
  clear hk; intro a hk
  refine st_done ?_
  refine st_seq (C7 [1, 0, 1, 1, 1, 0, 0, 0, 0, 1, 0]) (C7 [1, 0, 1, 1, 1, 0, 0, 0, 0, 1, 1]) (by kernel_rfl) ?_
  refine st_seq (C7 [1, 0, 1, 1, 1, 0, 0, 0, 0, 1, 0, 0]) (C7 [1, 0, 1, 1, 1, 0, 0, 0, 0, 1, 0, 1]) (by kernel_rfl) ?_
  refine st_region 4 (opsOf (C7 [1, 0, 1, 1, 1, 0, 0, 0, 0, 1, 0, 0])) [0, 1] (by kernel_rfl) (by kernel_rfl) ?_
  refine st_pure tabOK hk [0, 1] [] [0, 5, 7, 8, 9, 23] [(0, S p0), (5, .pointer (some ⟨b1, 0, none⟩)), (7, S t2.1), (8, S t2.2.1), (9, I t2.2.2), (23, .bool (t2.2.2 != 0))] (True) (by kernel_rfl) trivial ?_
  clear hk; intro a hk
  refine st_done ?_
  refine st_cond hk (C7 [1, 0, 1, 1, 1, 0, 0, 0, 0, 1, 0, 1, 0]) (C7 [1, 0, 1, 1, 1, 0, 0, 0, 0, 1, 0, 1, 1]) (.tmp 23) (t2.2.2 != 0) (by kernel_rfl) (by kernel_rfl) (fun h4 => ?_) (fun h4 => ?_)
  ·
    have h5 : (t2.2.2 != 0) = true := h4
    rw [if_pos h5] at H
    refine st_seq (C7 [1, 0, 1, 1, 1, 0, 0, 0, 0, 1, 0, 1, 0, 0]) (C7 [1, 0, 1, 1, 1, 0, 0, 0, 0, 1, 0, 1, 0, 1]) (by kernel_rfl) ?_
    refine st_region 5 (opsOf (C7 [1, 0, 1, 1, 1, 0, 0, 0, 0, 1, 0, 1, 0, 0])) [0, 1, 2, 3] (by kernel_rfl) (by kernel_rfl) ?_
    refine st_pure tabOK hk [0, 1, 2, 3] [] [2, 3, 4] [(2, S ([])), (3, I 0), (4, I t2.2.2)] (True) (by kernel_rfl) trivial ?_
    clear hk; intro a hk
    refine st_done ?_
    replace ho : Ows [] w0 w [] := ho.erase 0
    refine st_retG hk (by kernel_rfl) [S ([]), I 0, I t2.2.2] #[.tmp 2, .tmp 3, .tmp 4] (by kernel_rfl) ⟨resT hk (by kernel_rfl), resT hk (by kernel_rfl), resT hk (by kernel_rfl), trivial⟩ ?_
    obtain rfl := Option.some.inj H
    exact ⟨_, rfl, rfl, ho⟩
  ·
    have h6 : ¬ ((t2.2.2 != 0) = true) := ne_true_of_eq_false h4
    rw [if_neg h6] at H
    refine st_skip (by kernel_rfl) ?_
    refine st_seq (C7 [1, 0, 1, 1, 1, 0, 0, 0, 0, 1, 1, 0]) (C7 [1, 0, 1, 1, 1, 0, 0, 0, 0, 1, 1, 1]) (by kernel_rfl) ?_
    refine st_region 6 (opsOf (C7 [1, 0, 1, 1, 1, 0, 0, 0, 0, 1, 1, 0])) [0, 1, 2, 3, 4, 5, 6] (by kernel_rfl) (by kernel_rfl) ?_
    refine st_pure tabOK hk [0] [1, 2, 3, 4, 5, 6] [0, 5, 8, 26] [(0, S p0), (5, .pointer (some ⟨b1, 0, none⟩)), (8, S t2.2.1), (26, S t2.1)] (True) (by kernel_rfl) trivial ?_
    clear hk; intro a hk
    obtain ⟨t7, h8, H⟩ := Option.bind_eq_some_iff.1 H
    refine st_call hk 12 [S t2.1] (some 27) enters12 (by kernel_rfl) (chunk_size.ok K  t2.1 t7 h8 w (hg.of ho)) ?_
    clear hk; rintro a u w ⟨rfl, ho'⟩ hk
    replace ho : Ows [] w0 w [.blk b1 (.cells #[.pointer none, .slice none 0 0] 33 (0, 0))] := ho.call ho'; clear ho'
    refine st_pure tabOK hk [2, 3, 4, 5, 6] [] [0, 5, 8, 10, 11] [(0, S p0), (5, .pointer (some ⟨b1, 0, none⟩)), (8, S t2.2.1), (10, I t7.1), (11, .bool t7.2)] (True) (by kernel_rfl) trivial ?_
    clear hk; intro a hk
    refine st_done ?_
    refine st_seq (C7 [1, 0, 1, 1, 1, 0, 0, 0, 0, 1, 1, 1, 0]) (C7 [1, 0, 1, 1, 1, 0, 0, 0, 0, 1, 1, 1, 1]) (by kernel_rfl) ?_
    refine st_block 2 (C7 [1, 0, 1, 1, 1, 0, 0, 0, 0, 1, 1, 1, 0, 0]) (by kernel_rfl) ?_
    refine st_seq (C7 [1, 0, 1, 1, 1, 0, 0, 0, 0, 1, 1, 1, 0, 0, 0]) (C7 [1, 0, 1, 1, 1, 0, 0, 0, 0, 1, 1, 1, 0, 0, 1]) (by kernel_rfl) ?_
    refine st_region 7 (opsOf (C7 [1, 0, 1, 1, 1, 0, 0, 0, 0, 1, 1, 1, 0, 0, 0])) [0, 1, 2] (by kernel_rfl) (by kernel_rfl) ?_
    refine st_pure tabOK hk [0, 1, 2] [] [0, 5, 8, 10, 30] [(0, S p0), (5, .pointer (some ⟨b1, 0, none⟩)), (8, S t2.2.1), (10, I t7.1), (30, .bool (!t7.2))] (True) (by kernel_rfl) trivial ?_
    clear hk; intro a hk
    refine st_done ?_
    refine st_cond hk (C7 [1, 0, 1, 1, 1, 0, 0, 0, 0, 1, 1, 1, 0, 0, 1, 0]) (C7 [1, 0, 1, 1, 1, 0, 0, 0, 0, 1, 1, 1, 0, 0, 1, 1]) (.tmp 30) (!t7.2) (by kernel_rfl) (by kernel_rfl) (fun h9 => ?_) (fun h9 => ?_)
    ·
      have h10 : (!t7.2) = true := h9
      rw [if_pos h10] at H
      refine st_seq (C7 [1, 0, 1, 1, 1, 0, 0, 0, 0, 1, 1, 1, 0, 0, 1, 0, 0]) (C7 [1, 0, 1, 1, 1, 0, 0, 0, 0, 1, 1, 1, 0, 0, 1, 0, 1]) (by kernel_rfl) ?_
      refine st_region 8 (opsOf (C7 [1, 0, 1, 1, 1, 0, 0, 0, 0, 1, 1, 1, 0, 0, 1, 0, 0])) [0, 1, 2] (by kernel_rfl) (by kernel_rfl) ?_
      refine st_pure tabOK hk [0, 1, 2] [] [2, 3, 4] [(2, S ([])), (3, I 0), (4, I 2)] (True) (by kernel_rfl) trivial ?_
      clear hk; intro a hk
      refine st_done ?_
      replace ho : Ows [] w0 w [] := ho.erase 0
      refine st_retG hk (by kernel_rfl) [S ([]), I 0, I 2] #[.tmp 2, .tmp 3, .tmp 4] (by kernel_rfl) ⟨resT hk (by kernel_rfl), resT hk (by kernel_rfl), resT hk (by kernel_rfl), trivial⟩ ?_
      obtain rfl := Option.some.inj H
      exact ⟨_, rfl, rfl, ho⟩
    ·
      have h11 : ¬ ((!t7.2) = true) := ne_true_of_eq_false h9
      rw [if_neg h11] at H
      refine st_seq (C7 [1, 0, 1, 1, 1, 0, 0, 0, 0, 1, 1, 1, 0, 0, 1, 1, 0]) (C7 [1, 0, 1, 1, 1, 0, 0, 0, 0, 1, 1, 1, 0, 0, 1, 1, 1]) (by kernel_rfl) ?_
      refine st_region 9 (opsOf (C7 [1, 0, 1, 1, 1, 0, 0, 0, 0, 1, 1, 1, 0, 0, 1, 1, 0])) [0, 1, 2, 3, 4] (by kernel_rfl) (by kernel_rfl) ?_
      obtain ⟨t12, h13, H⟩ := Option.bind_eq_some_iff.1 H
      refine st_call hk 13 [.pointer (some ⟨b1, 0, none⟩)] (some 34) enters13 (by kernel_rfl) (strings_Builder_Len_pnsn.ok   t12 h13 w b1 (Ows.has (K := [.blk b1 (.cells #[.pointer none, .slice none 0 0] 33 (0, 0))]) (L := []) ho)) ?_
      clear hk; rintro a u w ⟨rfl, ho'⟩ hk
      replace ho : Ows [] w0 w [.blk b1 (.cells #[.pointer none, .slice none 0 0] 33 (0, 0))] := Ows.callP (K := [.blk b1 (.cells #[.pointer none, .slice none 0 0] 33 (0, 0))]) (L := []) ho ho' rfl; clear ho'
      refine st_pure tabOK hk [1, 2, 3, 4] [] [0, 5, 8, 10, 33] [(0, S p0), (5, .pointer (some ⟨b1, 0, none⟩)), (8, S t2.2.1), (10, I t7.1), (33, .bool (decide (w64 (t12 + t7.1) > 100000)))] (True) (by kernel_rfl) trivial ?_
      clear hk; intro a hk
      refine st_done ?_
      refine st_cond hk (C7 [1, 0, 1, 1, 1, 0, 0, 0, 0, 1, 1, 1, 0, 0, 1, 1, 1, 0]) (C7 [1, 0, 1, 1, 1, 0, 0, 0, 0, 1, 1, 1, 0, 0, 1, 1, 1, 1]) (.tmp 33) (decide (w64 (t12 + t7.1) > 100000)) (by kernel_rfl) (by kernel_rfl) (fun h14 => ?_) (fun h14 => ?_)
      ·
        have h15 : w64 (t12 + t7.1) > 100000 := of_decide_eq_true h14
        rw [if_pos h15] at H
        refine st_seq (C7 [1, 0, 1, 1, 1, 0, 0, 0, 0, 1, 1, 1, 0, 0, 1, 1, 1, 0, 0]) (C7 [1, 0, 1, 1, 1, 0, 0, 0, 0, 1, 1, 1, 0, 0, 1, 1, 1, 0, 1]) (by kernel_rfl) ?_
        refine st_region 10 (opsOf (C7 [1, 0, 1, 1, 1, 0, 0, 0, 0, 1, 1, 1, 0, 0, 1, 1, 1, 0, 0])) [0, 1, 2] (by kernel_rfl) (by kernel_rfl) ?_
        refine st_pure tabOK hk [0, 1, 2] [] [2, 3, 4] [(2, S ([])), (3, I 0), (4, I 4)] (True) (by kernel_rfl) trivial ?_
        clear hk; intro a hk
        refine st_done ?_
        replace ho : Ows [] w0 w [] := ho.erase 0
        refine st_retG hk (by kernel_rfl) [S ([]), I 0, I 4] #[.tmp 2, .tmp 3, .tmp 4] (by kernel_rfl) ⟨resT hk (by kernel_rfl), resT hk (by kernel_rfl), resT hk (by kernel_rfl), trivial⟩ ?_
        obtain rfl := Option.some.inj H
        exact ⟨_, rfl, rfl, ho⟩
      ·
        have h16 : ¬ (w64 (t12 + t7.1) > 100000) := of_decide_eq_false h14
        rw [if_neg h16] at H
        refine st_seq (C7 [1, 0, 1, 1, 1, 0, 0, 0, 0, 1, 1, 1, 0, 0, 1, 1, 1, 1, 0]) (C7 [1, 0, 1, 1, 1, 0, 0, 0, 0, 1, 1, 1, 0, 0, 1, 1, 1, 1, 1]) (by kernel_rfl) ?_
        refine st_region 11 (opsOf (C7 [1, 0, 1, 1, 1, 0, 0, 0, 0, 1, 1, 1, 0, 0, 1, 1, 1, 1, 0])) [0, 1, 2] (by kernel_rfl) (by kernel_rfl) ?_
        refine st_pure tabOK hk [0, 1, 2] [] [0, 5, 8, 10, 38] [(0, S p0), (5, .pointer (some ⟨b1, 0, none⟩)), (8, S t2.2.1), (10, I t7.1), (38, .bool (t7.1 == 0))] (True) (by kernel_rfl) trivial ?_
        clear hk; intro a hk
        refine st_done ?_
        refine st_cond hk (C7 [1, 0, 1, 1, 1, 0, 0, 0, 0, 1, 1, 1, 0, 0, 1, 1, 1, 1, 1, 0]) (C7 [1, 0, 1, 1, 1, 0, 0, 0, 0, 1, 1, 1, 0, 0, 1, 1, 1, 1, 1, 1]) (.tmp 38) (t7.1 == 0) (by kernel_rfl) (by kernel_rfl) (fun h17 => ?_) (fun h17 => ?_)
        ·
          have h18 : (t7.1 == 0) = true := h17
          rw [if_pos h18] at H
          refine st_seq (C7 [1, 0, 1, 1, 1, 0, 0, 0, 0, 1, 1, 1, 0, 0, 1, 1, 1, 1, 1, 0, 0]) (C7 [1, 0, 1, 1, 1, 0, 0, 0, 0, 1, 1, 1, 0, 0, 1, 1, 1, 1, 1, 0, 1]) (by kernel_rfl) ?_
          refine st_region 12 (opsOf (C7 [1, 0, 1, 1, 1, 0, 0, 0, 0, 1, 1, 1, 0, 0, 1, 1, 1, 1, 1, 0, 0])) [0, 1] (by kernel_rfl) (by kernel_rfl) ?_
          refine st_pure tabOK hk [0, 1] [] [0, 5, 6] [(0, S p0), (5, .pointer (some ⟨b1, 0, none⟩)), (6, S t2.2.1)] (True) (by kernel_rfl) trivial ?_
          clear hk; intro a hk
          refine st_done ?_
          refine st_exit 0 _ (by kernel_rfl) rfl ?_
          refine st_seq (C7 [1, 0, 1, 1, 1, 1, 0]) (C7 [1, 0, 1, 1, 1, 1, 1]) (by kernel_rfl) ?_
          refine st_region 19 (opsOf (C7 [1, 0, 1, 1, 1, 1, 0])) [0, 1, 2, 3, 4, 5, 6, 7, 8] (by kernel_rfl) (by kernel_rfl) ?_
          refine st_pure tabOK hk [0] [1, 2, 3, 4, 5, 6, 7, 8] [0, 5, 6, 64] [(0, S p0), (5, .pointer (some ⟨b1, 0, none⟩)), (6, S t2.2.1), (64, S t2.2.1)] (True) (by kernel_rfl) trivial ?_
          clear hk; intro a hk
          obtain ⟨t19, h20, H⟩ := Option.bind_eq_some_iff.1 H
          refine st_call hk 14 [S t2.2.1] (some 65) enters14 (by kernel_rfl) (head_Parse.ok K  t2.2.1 t19 h20 w (hg.of ho)) ?_
          clear hk; rintro a u w ⟨o21, c22, rfl, ho'⟩ hk
          replace ho : Ows [] w0 w [.row 0 60 2 (.slice o21 t19.1.length c22) t19.1.length (t19.1.flatMap encT60), .blk b1 (.cells #[.pointer none, .slice none 0 0] 33 (0, 0))] := ho.call ho'; clear ho'
          refine st_pure tabOK hk [2, 3, 4, 5, 6, 7, 8] [] [0, 5, 6, 13, 14] [(0, S p0), (5, .pointer (some ⟨b1, 0, none⟩)), (6, S t2.2.1), (13, I t19.2.1), (14, I t19.2.2)] (True) (by kernel_rfl) trivial ?_
          clear hk; intro a hk
          refine st_done ?_
          refine st_seq (C7 [1, 0, 1, 1, 1, 1, 1, 0]) (C7 [1, 0, 1, 1, 1, 1, 1, 1]) (by kernel_rfl) ?_
          refine st_seq (C7 [1, 0, 1, 1, 1, 1, 1, 0, 0]) (C7 [1, 0, 1, 1, 1, 1, 1, 0, 1]) (by kernel_rfl) ?_
          refine st_region 20 (opsOf (C7 [1, 0, 1, 1, 1, 1, 1, 0, 0])) [0, 1] (by kernel_rfl) (by kernel_rfl) ?_
          refine st_pure tabOK hk [0, 1] [] [0, 5, 6, 13, 14, 70] [(0, S p0), (5, .pointer (some ⟨b1, 0, none⟩)), (6, S t2.2.1), (13, I t19.2.1), (14, I t19.2.2), (70, .bool (t19.2.2 != 0))] (True) (by kernel_rfl) trivial ?_
          clear hk; intro a hk
          refine st_done ?_
          refine st_cond hk (C7 [1, 0, 1, 1, 1, 1, 1, 0, 1, 0]) (C7 [1, 0, 1, 1, 1, 1, 1, 0, 1, 1]) (.tmp 70) (t19.2.2 != 0) (by kernel_rfl) (by kernel_rfl) (fun h24 => ?_) (fun h24 => ?_)
          ·
            have h25 : (t19.2.2 != 0) = true := h24
            rw [if_pos h25] at H
            refine st_seq (C7 [1, 0, 1, 1, 1, 1, 1, 0, 1, 0, 0]) (C7 [1, 0, 1, 1, 1, 1, 1, 0, 1, 0, 1]) (by kernel_rfl) ?_
            refine st_region 21 (opsOf (C7 [1, 0, 1, 1, 1, 1, 1, 0, 1, 0, 0])) [0, 1, 2, 3] (by kernel_rfl) (by kernel_rfl) ?_
            refine st_pure tabOK hk [0, 1, 2, 3] [] [2, 3, 4] [(2, S ([])), (3, I 0), (4, I t19.2.2)] (True) (by kernel_rfl) trivial ?_
            clear hk; intro a hk
            refine st_done ?_
            replace ho : Ows [] w0 w [.blk b1 (.cells #[.pointer none, .slice none 0 0] 33 (0, 0))] := ho.erase 0
            replace ho : Ows [] w0 w [] := ho.erase 0
            refine st_retG hk (by kernel_rfl) [S ([]), I 0, I t19.2.2] #[.tmp 2, .tmp 3, .tmp 4] (by kernel_rfl) ⟨resT hk (by kernel_rfl), resT hk (by kernel_rfl), resT hk (by kernel_rfl), trivial⟩ ?_
            obtain rfl := Option.some.inj H
            exact ⟨_, rfl, rfl, ho⟩
          ·
            have h26 : ¬ ((t19.2.2 != 0) = true) := ne_true_of_eq_false h24
            rw [if_neg h26] at H
            refine st_skip (by kernel_rfl) ?_
            refine st_seq (C7 [1, 0, 1, 1, 1, 1, 1, 1, 0]) (C7 [1, 0, 1, 1, 1, 1, 1, 1, 1]) (by kernel_rfl) ?_
            refine st_region 22 (opsOf (C7 [1, 0, 1, 1, 1, 1, 1, 1, 0])) [0, 1, 2, 3, 4, 5, 6, 7, 8, 9, 10] (by kernel_rfl) (by kernel_rfl) ?_
            replace ho : Ows [] w0 w [.blk b1 (.cells #[.pointer none, .slice none 0 0] 33 (0, 0)), .row 0 60 2 (.slice o21 t19.1.length c22) t19.1.length (t19.1.flatMap encT60)] := ho.front 1 _ _ rfl rfl
            obtain ⟨t27, h28, H⟩ := Option.bind_eq_some_iff.1 H
            refine st_call hk 10 [.pointer (some ⟨b1, 0, none⟩)] (some 72) enters10 (by kernel_rfl) (strings_Builder_String_pnsn.ok   t27 h28 w b1 (Ows.has (K := [.blk b1 (.cells #[.pointer none, .slice none 0 0] 33 (0, 0))]) (L := [.row 0 60 2 (.slice o21 t19.1.length c22) t19.1.length (t19.1.flatMap encT60)]) ho)) ?_
            clear hk; rintro a u w ⟨rfl, ho'⟩ hk
            replace ho : Ows [] w0 w [.blk b1 (.cells #[.pointer none, .slice none 0 0] 33 (0, 0)), .row 0 60 2 (.slice o21 t19.1.length c22) t19.1.length (t19.1.flatMap encT60)] := Ows.callP (K := [.blk b1 (.cells #[.pointer none, .slice none 0 0] 33 (0, 0))]) (L := [.row 0 60 2 (.slice o21 t19.1.length c22) t19.1.length (t19.1.flatMap encT60)]) ho ho' rfl; clear ho'
            refine st_pure tabOK hk [1, 2, 3, 4, 5, 6, 7, 8, 9, 10] [] [2, 3, 4] [(2, S t27), (3, I (w64 ((w64 ((p0.length : Int) - (t2.2.1.length : Int))) + t19.2.1))), (4, I 0)] (True) (by kernel_rfl) trivial ?_
            clear hk; intro a hk
            refine st_done ?_
            replace ho : Ows [] w0 w [.row 0 60 2 (.slice o21 t19.1.length c22) t19.1.length (t19.1.flatMap encT60)] := ho.erase 0
            replace ho : Ows [] w0 w [] := ho.erase 0
            refine st_retG hk (by kernel_rfl) [S t27, I (w64 ((w64 ((p0.length : Int) - (t2.2.1.length : Int))) + t19.2.1)), I 0] #[.tmp 2, .tmp 3, .tmp 4] (by kernel_rfl) ⟨resT hk (by kernel_rfl), resT hk (by kernel_rfl), resT hk (by kernel_rfl), trivial⟩ ?_
            obtain rfl := Option.some.inj H
            exact ⟨_, rfl, rfl, ho⟩
        ·
          have h29 : ¬ ((t7.1 == 0) = true) := ne_true_of_eq_false h17
          rw [if_neg h29] at H
          refine st_seq (C7 [1, 0, 1, 1, 1, 0, 0, 0, 0, 1, 1, 1, 0, 0, 1, 1, 1, 1, 1, 1, 0]) (C7 [1, 0, 1, 1, 1, 0, 0, 0, 0, 1, 1, 1, 0, 0, 1, 1, 1, 1, 1, 1, 1]) (by kernel_rfl) ?_
          refine st_region 13 (opsOf (C7 [1, 0, 1, 1, 1, 0, 0, 0, 0, 1, 1, 1, 0, 0, 1, 1, 1, 1, 1, 1, 0])) [0, 1, 2, 3, 4, 5] (by kernel_rfl) (by kernel_rfl) ?_
          refine st_pure tabOK hk [0, 1, 2, 3, 4, 5] [] [0, 5, 8, 10, 42] [(0, S p0), (5, .pointer (some ⟨b1, 0, none⟩)), (8, S t2.2.1), (10, I t7.1), (42, .bool (decide ((t2.2.1.length : Int) < w64 (t7.1 + 2))))] (True) (by kernel_rfl) trivial ?_
          clear hk; intro a hk
          refine st_done ?_
          refine st_cond hk (C7 [1, 0, 1, 1, 1, 0, 0, 0, 0, 1, 1, 1, 0, 0, 1, 1, 1, 1, 1, 1, 1, 0]) (C7 [1, 0, 1, 1, 1, 0, 0, 0, 0, 1, 1, 1, 0, 0, 1, 1, 1, 1, 1, 1, 1, 1]) (.tmp 42) (decide ((t2.2.1.length : Int) < w64 (t7.1 + 2))) (by kernel_rfl) (by kernel_rfl) (fun h30 => ?_) (fun h30 => ?_)
          ·
            have h31 : (t2.2.1.length : Int) < w64 (t7.1 + 2) := of_decide_eq_true h30
            rw [if_pos h31] at H
            refine st_seq (C7 [1, 0, 1, 1, 1, 0, 0, 0, 0, 1, 1, 1, 0, 0, 1, 1, 1, 1, 1, 1, 1, 0, 0]) (C7 [1, 0, 1, 1, 1, 0, 0, 0, 0, 1, 1, 1, 0, 0, 1, 1, 1, 1, 1, 1, 1, 0, 1]) (by kernel_rfl) ?_
            refine st_region 14 (opsOf (C7 [1, 0, 1, 1, 1, 0, 0, 0, 0, 1, 1, 1, 0, 0, 1, 1, 1, 1, 1, 1, 1, 0, 0])) [0, 1, 2] (by kernel_rfl) (by kernel_rfl) ?_
            refine st_pure tabOK hk [0, 1, 2] [] [2, 3, 4] [(2, S ([])), (3, I 0), (4, I 3)] (True) (by kernel_rfl) trivial ?_
            clear hk; intro a hk
            refine st_done ?_
            replace ho : Ows [] w0 w [] := ho.erase 0
            refine st_retG hk (by kernel_rfl) [S ([]), I 0, I 3] #[.tmp 2, .tmp 3, .tmp 4] (by kernel_rfl) ⟨resT hk (by kernel_rfl), resT hk (by kernel_rfl), resT hk (by kernel_rfl), trivial⟩ ?_
            obtain rfl := Option.some.inj H
            exact ⟨_, rfl, rfl, ho⟩
          ·
            have h32 : ¬ ((t2.2.1.length : Int) < w64 (t7.1 + 2)) := of_decide_eq_false h30
            rw [if_neg h32] at H
            refine st_seq (C7 [1, 0, 1, 1, 1, 0, 0, 0, 0, 1, 1, 1, 0, 0, 1, 1, 1, 1, 1, 1, 1, 1, 0]) (C7 [1, 0, 1, 1, 1, 0, 0, 0, 0, 1, 1, 1, 0, 0, 1, 1, 1, 1, 1, 1, 1, 1, 1]) (by kernel_rfl) ?_
            refine st_region 15 (opsOf (C7 [1, 0, 1, 1, 1, 0, 0, 0, 0, 1, 1, 1, 0, 0, 1, 1, 1, 1, 1, 1, 1, 1, 0])) [0, 1, 2, 3, 4, 5, 6] (by kernel_rfl) (by kernel_rfl) ?_
            have h33 : (0 : Int) ≤ w64 (t7.1 + 2) := by
              by_cases h33 : (0 : Int) ≤ w64 (t7.1 + 2)
              · exact h33
              · rw [if_neg h33] at H; cases H
            rw [if_pos h33] at H
            have h34 : w64 (t7.1 + 2) ≤ (t2.2.1.length : Int) := by
              by_cases h34 : w64 (t7.1 + 2) ≤ (t2.2.1.length : Int)
              · exact h34
              · rw [if_neg h34] at H; cases H
            rw [if_pos h34] at H
            have h35 : (0 : Int) ≤ t7.1 := by
              by_cases h35 : (0 : Int) ≤ t7.1
              · exact h35
              · rw [if_neg h35] at H; cases H
            rw [if_pos h35] at H
            have h36 : t7.1 ≤ w64 (t7.1 + 2) := by
              by_cases h36 : t7.1 ≤ w64 (t7.1 + 2)
              · exact h36
              · rw [if_neg h36] at H; cases H
            rw [if_pos h36] at H
            refine st_pure tabOK hk [0, 1, 2, 3, 4, 5, 6] [] [0, 5, 8, 10, 48] [(0, S p0), (5, .pointer (some ⟨b1, 0, none⟩)), (8, S t2.2.1), (10, I t7.1), (48, .bool (!(((t2.2.1.take (w64 (t7.1 + 2)).toNat).drop t7.1.toNat) == ([13, 10]))))] ((((0 : Int) ≤ w64 (t7.1 + 2) ∧ w64 (t7.1 + 2) ≤ (t2.2.1.length : Int)) ∧ ((0 : Int) ≤ t7.1 ∧ t7.1 ≤ w64 (t7.1 + 2))) ∧ True) (by kernel_rfl) ⟨⟨⟨h33, h34⟩, ⟨h35, h36⟩⟩, trivial⟩ ?_
            clear hk; intro a hk
            refine st_done ?_
            refine st_cond hk (C7 [1, 0, 1, 1, 1, 0, 0, 0, 0, 1, 1, 1, 0, 0, 1, 1, 1, 1, 1, 1, 1, 1, 1, 0]) (C7 [1, 0, 1, 1, 1, 0, 0, 0, 0, 1, 1, 1, 0, 0, 1, 1, 1, 1, 1, 1, 1, 1, 1, 1]) (.tmp 48) (!(((t2.2.1.take (w64 (t7.1 + 2)).toNat).drop t7.1.toNat) == ([13, 10]))) (by kernel_rfl) (by kernel_rfl) (fun h37 => ?_) (fun h37 => ?_)
            ·
              have h38 : (!(((t2.2.1.take (w64 (t7.1 + 2)).toNat).drop t7.1.toNat) == ([13, 10]))) = true := h37
              rw [if_pos h38] at H
              refine st_seq (C7 [1, 0, 1, 1, 1, 0, 0, 0, 0, 1, 1, 1, 0, 0, 1, 1, 1, 1, 1, 1, 1, 1, 1, 0, 0]) (C7 [1, 0, 1, 1, 1, 0, 0, 0, 0, 1, 1, 1, 0, 0, 1, 1, 1, 1, 1, 1, 1, 1, 1, 0, 1]) (by kernel_rfl) ?_
              refine st_region 16 (opsOf (C7 [1, 0, 1, 1, 1, 0, 0, 0, 0, 1, 1, 1, 0, 0, 1, 1, 1, 1, 1, 1, 1, 1, 1, 0, 0])) [0, 1, 2] (by kernel_rfl) (by kernel_rfl) ?_
              refine st_pure tabOK hk [0, 1, 2] [] [2, 3, 4] [(2, S ([])), (3, I 0), (4, I 2)] (True) (by kernel_rfl) trivial ?_
              clear hk; intro a hk
              refine st_done ?_
              replace ho : Ows [] w0 w [] := ho.erase 0
              refine st_retG hk (by kernel_rfl) [S ([]), I 0, I 2] #[.tmp 2, .tmp 3, .tmp 4] (by kernel_rfl) ⟨resT hk (by kernel_rfl), resT hk (by kernel_rfl), resT hk (by kernel_rfl), trivial⟩ ?_
              obtain rfl := Option.some.inj H
              exact ⟨_, rfl, rfl, ho⟩
            ·
              have h39 : ¬ ((!(((t2.2.1.take (w64 (t7.1 + 2)).toNat).drop t7.1.toNat) == ([13, 10]))) = true) := ne_true_of_eq_false h37
              rw [if_neg h39] at H
              refine st_skip (by kernel_rfl) ?_
              refine st_endb 2 ?_
              refine st_seq (C7 [1, 0, 1, 1, 1, 0, 0, 0, 0, 1, 1, 1, 1, 0]) (C7 [1, 0, 1, 1, 1, 0, 0, 0, 0, 1, 1, 1, 1, 1]) (by kernel_rfl) ?_
              refine st_region 17 (opsOf (C7 [1, 0, 1, 1, 1, 0, 0, 0, 0, 1, 1, 1, 1, 0])) [0, 1, 2, 3] (by kernel_rfl) (by kernel_rfl) ?_
              have h40 : t7.1 ≤ (t2.2.1.length : Int) := by
                by_cases h40 : t7.1 ≤ (t2.2.1.length : Int)
                · exact h40
                · rw [if_neg h40] at H; cases H
              rw [if_pos h40] at H
              refine st_pure tabOK hk [0, 1, 2] [3] [0, 5, 8, 10, 57] [(0, S p0), (5, .pointer (some ⟨b1, 0, none⟩)), (8, S t2.2.1), (10, I t7.1), (57, S (t2.2.1.take t7.1.toNat))] (((0 : Int) ≤ t7.1 ∧ t7.1 ≤ (t2.2.1.length : Int)) ∧ True) (by kernel_rfl) ⟨⟨h35, h40⟩, trivial⟩ ?_
              clear hk; intro a hk
              obtain ⟨t41, h42, H⟩ := Option.bind_eq_some_iff.1 H
              refine st_call hk 8 [.pointer (some ⟨b1, 0, none⟩), S (t2.2.1.take t7.1.toNat)] (some 58) enters8 (by kernel_rfl) (strings_Builder_WriteString_pnsn.ok  (t2.2.1.take t7.1.toNat) t41 h42 w b1 (Ows.has (K := [.blk b1 (.cells #[.pointer none, .slice none 0 0] 33 (0, 0))]) (L := []) ho)) ?_
              clear hk; rintro a u w ⟨o43, c44, rfl, ho'⟩ hk
              replace ho : Ows [] w0 w [.blk b1 (.cells #[.pointer (some ⟨b1, 0, none⟩), .slice o43 t41.2.length c44] 33 (0, 0)), .row 1 5 1 (.slice o43 t41.2.length c44) t41.2.length (t41.2.map bV)] := Ows.callP (K := [.blk b1 (.cells #[.pointer none, .slice none 0 0] 33 (0, 0))]) (L := []) ho ho' rfl; clear ho'
              refine st_done ?_
              refine st_region 18 (opsOf (C7 [1, 0, 1, 1, 1, 0, 0, 0, 0, 1, 1, 1, 1, 1])) [0, 1, 2, 3, 4] (by kernel_rfl) (by kernel_rfl) ?_
              refine st_pure tabOK hk [0, 1, 2, 3, 4] [] [0, 5, 6] [(0, S p0), (5, .pointer (some ⟨b1, 0, none⟩)), (6, S (t2.2.1.drop (w64 (t7.1 + 2)).toNat))] (((0 : Int) ≤ w64 (t7.1 + 2) ∧ w64 (t7.1 + 2) ≤ (t2.2.1.length : Int)) ∧ True) (by kernel_rfl) ⟨⟨h33, h34⟩, trivial⟩ ?_
              clear hk; intro a hk
              refine st_done ?_
              refine st_endb 1 ?_
              obtain ⟨m89, h90, H⟩ := Option.bind_eq_some_iff.1 H
              refine st_inl ?_
              refine chunk_Decode.l0_ok K K p0 t41.2 (t2.2.1.drop (w64 (t7.1 + 2)).toNat) m89 h90 b1 o43 c44 w0 hg _ _ a w  (hk.to [0, 5, 6] _ (by kernel_rfl)) ho ?_ ?_
              · intro s91 o92 c93 a w e hk ho; subst e
                simp only [] at H
                refine st_seq (C7 [1, 0, 1, 1, 1, 1, 0]) (C7 [1, 0, 1, 1, 1, 1, 1]) (by kernel_rfl) ?_
                refine st_region 19 (opsOf (C7 [1, 0, 1, 1, 1, 1, 0])) [0, 1, 2, 3, 4, 5, 6, 7, 8] (by kernel_rfl) (by kernel_rfl) ?_
                refine st_pure tabOK hk [0] [1, 2, 3, 4, 5, 6, 7, 8] [0, 5, 6, 64] [(0, S p0), (5, .pointer (some ⟨b1, 0, none⟩)), (6, S s91.2), (64, S s91.2)] (True) (by kernel_rfl) trivial ?_
                clear hk; intro a hk
                obtain ⟨t94, h95, H⟩ := Option.bind_eq_some_iff.1 H
                refine st_call hk 14 [S s91.2] (some 65) enters14 (by kernel_rfl) (head_Parse.ok K  s91.2 t94 h95 w (hg.of ho)) ?_
                clear hk; rintro a u w ⟨o96, c97, rfl, ho'⟩ hk
                replace ho : Ows [] w0 w [.row 0 60 2 (.slice o96 t94.1.length c97) t94.1.length (t94.1.flatMap encT60), .blk b1 (.cells #[.pointer (some ⟨b1, 0, none⟩), .slice o92 s91.1.length c93] 33 (0, 0)), .row 1 5 1 (.slice o92 s91.1.length c93) s91.1.length (s91.1.map bV)] := ho.call ho'; clear ho'
                refine st_pure tabOK hk [2, 3, 4, 5, 6, 7, 8] [] [0, 5, 6, 13, 14] [(0, S p0), (5, .pointer (some ⟨b1, 0, none⟩)), (6, S s91.2), (13, I t94.2.1), (14, I t94.2.2)] (True) (by kernel_rfl) trivial ?_
                clear hk; intro a hk
                refine st_done ?_
                refine st_seq (C7 [1, 0, 1, 1, 1, 1, 1, 0]) (C7 [1, 0, 1, 1, 1, 1, 1, 1]) (by kernel_rfl) ?_
                refine st_seq (C7 [1, 0, 1, 1, 1, 1, 1, 0, 0]) (C7 [1, 0, 1, 1, 1, 1, 1, 0, 1]) (by kernel_rfl) ?_
                refine st_region 20 (opsOf (C7 [1, 0, 1, 1, 1, 1, 1, 0, 0])) [0, 1] (by kernel_rfl) (by kernel_rfl) ?_
                refine st_pure tabOK hk [0, 1] [] [0, 5, 6, 13, 14, 70] [(0, S p0), (5, .pointer (some ⟨b1, 0, none⟩)), (6, S s91.2), (13, I t94.2.1), (14, I t94.2.2), (70, .bool (t94.2.2 != 0))] (True) (by kernel_rfl) trivial ?_
                clear hk; intro a hk
                refine st_done ?_
                refine st_cond hk (C7 [1, 0, 1, 1, 1, 1, 1, 0, 1, 0]) (C7 [1, 0, 1, 1, 1, 1, 1, 0, 1, 1]) (.tmp 70) (t94.2.2 != 0) (by kernel_rfl) (by kernel_rfl) (fun h99 => ?_) (fun h99 => ?_)
                ·
                  have h100 : (t94.2.2 != 0) = true := h99
                  rw [if_pos h100] at H
                  refine st_seq (C7 [1, 0, 1, 1, 1, 1, 1, 0, 1, 0, 0]) (C7 [1, 0, 1, 1, 1, 1, 1, 0, 1, 0, 1]) (by kernel_rfl) ?_
                  refine st_region 21 (opsOf (C7 [1, 0, 1, 1, 1, 1, 1, 0, 1, 0, 0])) [0, 1, 2, 3] (by kernel_rfl) (by kernel_rfl) ?_
                  refine st_pure tabOK hk [0, 1, 2, 3] [] [2, 3, 4] [(2, S ([])), (3, I 0), (4, I t94.2.2)] (True) (by kernel_rfl) trivial ?_
                  clear hk; intro a hk
                  refine st_done ?_
                  replace ho : Ows [] w0 w [.blk b1 (.cells #[.pointer (some ⟨b1, 0, none⟩), .slice o92 s91.1.length c93] 33 (0, 0)), .row 1 5 1 (.slice o92 s91.1.length c93) s91.1.length (s91.1.map bV)] := ho.erase 0
                  replace ho : Ows [] w0 w [.row 1 5 1 (.slice o92 s91.1.length c93) s91.1.length (s91.1.map bV)] := ho.erase 0
                  replace ho : Ows [] w0 w [] := ho.erase 0
                  refine st_retG hk (by kernel_rfl) [S ([]), I 0, I t94.2.2] #[.tmp 2, .tmp 3, .tmp 4] (by kernel_rfl) ⟨resT hk (by kernel_rfl), resT hk (by kernel_rfl), resT hk (by kernel_rfl), trivial⟩ ?_
                  obtain rfl := Option.some.inj H
                  exact ⟨_, rfl, rfl, ho⟩
                ·
                  have h101 : ¬ ((t94.2.2 != 0) = true) := ne_true_of_eq_false h99
                  rw [if_neg h101] at H
                  refine st_skip (by kernel_rfl) ?_
                  refine st_seq (C7 [1, 0, 1, 1, 1, 1, 1, 1, 0]) (C7 [1, 0, 1, 1, 1, 1, 1, 1, 1]) (by kernel_rfl) ?_
                  refine st_region 22 (opsOf (C7 [1, 0, 1, 1, 1, 1, 1, 1, 0])) [0, 1, 2, 3, 4, 5, 6, 7, 8, 9, 10] (by kernel_rfl) (by kernel_rfl) ?_
                  replace ho : Ows [] w0 w [.row 1 5 1 (.slice o92 s91.1.length c93) s91.1.length (s91.1.map bV), .row 0 60 2 (.slice o96 t94.1.length c97) t94.1.length (t94.1.flatMap encT60), .blk b1 (.cells #[.pointer (some ⟨b1, 0, none⟩), .slice o92 s91.1.length c93] 33 (0, 0))] := ho.front 2 _ _ rfl rfl
                  replace ho : Ows [] w0 w [.blk b1 (.cells #[.pointer (some ⟨b1, 0, none⟩), .slice o92 s91.1.length c93] 33 (0, 0)), .row 1 5 1 (.slice o92 s91.1.length c93) s91.1.length (s91.1.map bV), .row 0 60 2 (.slice o96 t94.1.length c97) t94.1.length (t94.1.flatMap encT60)] := ho.front 2 _ _ rfl rfl
                  obtain ⟨t102, h103, H⟩ := Option.bind_eq_some_iff.1 H
                  refine st_call hk 10 [.pointer (some ⟨b1, 0, none⟩)] (some 72) enters10 (by kernel_rfl) (strings_Builder_String_ps0t.ok  s91.1 t102 h103 w b1 o92 c93 (Ows.has (K := [.blk b1 (.cells #[.pointer (some ⟨b1, 0, none⟩), .slice o92 s91.1.length c93] 33 (0, 0)), .row 1 5 1 (.slice o92 s91.1.length c93) s91.1.length (s91.1.map bV)]) (L := [.row 0 60 2 (.slice o96 t94.1.length c97) t94.1.length (t94.1.flatMap encT60)]) ho)) ?_
                  clear hk; rintro a u w ⟨rfl, ho'⟩ hk
                  replace ho : Ows [] w0 w [.blk b1 (.cells #[.pointer (some ⟨b1, 0, none⟩), .slice o92 s91.1.length c93] 33 (0, 0)), .row 0 60 2 (.slice o96 t94.1.length c97) t94.1.length (t94.1.flatMap encT60)] := Ows.callP (K := [.blk b1 (.cells #[.pointer (some ⟨b1, 0, none⟩), .slice o92 s91.1.length c93] 33 (0, 0)), .row 1 5 1 (.slice o92 s91.1.length c93) s91.1.length (s91.1.map bV)]) (L := [.row 0 60 2 (.slice o96 t94.1.length c97) t94.1.length (t94.1.flatMap encT60)]) ho ho' rfl; clear ho'
                  refine st_pure tabOK hk [1, 2, 3, 4, 5, 6, 7, 8, 9, 10] [] [2, 3, 4] [(2, S t102), (3, I (w64 ((w64 ((p0.length : Int) - (s91.2.length : Int))) + t94.2.1))), (4, I 0)] (True) (by kernel_rfl) trivial ?_
                  clear hk; intro a hk
                  refine st_done ?_
                  replace ho : Ows [] w0 w [.row 0 60 2 (.slice o96 t94.1.length c97) t94.1.length (t94.1.flatMap encT60)] := ho.erase 0
                  replace ho : Ows [] w0 w [] := ho.erase 0
                  refine st_retG hk (by kernel_rfl) [S t102, I (w64 ((w64 ((p0.length : Int) - (s91.2.length : Int))) + t94.2.1)), I 0] #[.tmp 2, .tmp 3, .tmp 4] (by kernel_rfl) ⟨resT hk (by kernel_rfl), resT hk (by kernel_rfl), resT hk (by kernel_rfl), trivial⟩ ?_
                  obtain rfl := Option.some.inj H
                  exact ⟨_, rfl, rfl, ho⟩
              · intro r104  a w e hk ho; subst e
                simp only [] at H
                refine retG hk [S r104.1, I r104.2.1, I r104.2.2] #[.tmp 2, .tmp 3, .tmp 4] (by kernel_rfl) ⟨resT hk (by kernel_rfl), resT hk (by kernel_rfl), resT hk (by kernel_rfl), trivial⟩ ?_
                obtain rfl := Option.some.inj H
                exact ⟨_, rfl, rfl, ho⟩


/-! scullery/scullerylaw07.awake: function 5 -/
noncomputable def C5 (p : List Nat) : Code := Sub (bodyOf f5) p
def scullerylaw07_awake.f (K : Nat)  : Option (Bool) := (((chunk_Encode.f K ([97, 98, 99]) 2).bind fun t1 => ((chunk_Decode.f K ([65, 32, 59, 120, 61, 49, 13, 10, 48, 49, 50, 51, 52, 53, 54, 55, 56, 57, 13, 10, 48, 13, 10, 122, 58, 32, 121, 13, 10, 13, 10, 109, 111, 114, 101])).bind fun t3 => ((chunk_Decode.f K ([49, 13, 10, 97, 98])).bind fun t5 => ((chunk_Encode.f K ([]) 0).bind fun t7 => some ((t1.1 == ([50, 13, 10, 97, 98, 13, 10, 49, 13, 10, 99, 13, 10, 48, 13, 10, 13, 10])) && ((t1.2 == 0) && ((t3.1 == ([48, 49, 50, 51, 52, 53, 54, 55, 56, 57])) && ((t3.2.1 == 31) && ((t3.2.2 == 0) && ((t5.2.2 == 3) && (t7.2 == 1))))))))))))
abbrev scullerylaw07_awake.post (w0 : World) (r : Bool) (u : Value) (w : World) : Prop := u = .bool r ∧ Ows [] w0 w []
theorem scullerylaw07_awake.ok (K : Nat)  (r : Bool) (H : scullerylaw07_awake.f K  = some r) (w0 : World) (hg : Glob w0) : Calls Tryd.prog 5 ⟨[]⟩ w0 fun e w => ∃ u, e = .returned u ∧ scullerylaw07_awake.post w0 r u w := by
  unfold scullerylaw07_awake.f at H
  refine st_start (N := 55) [] (C5 []) func5 (by kernel_rfl) (by kernel_rfl) (by kernel_rfl) ?_
  intro a w hk ho
  refine st_seq (C5 [0]) (C5 [1]) (by kernel_rfl) ?_
  refine st_region 0 (opsOf (C5 [0])) [0] (by kernel_rfl) (by kernel_rfl) ?_
  refine st_pure tabOK hk [0] [] [] [] (True) (by kernel_rfl) trivial ?_
  clear hk; intro a hk
  refine st_done ?_
  refine st_seq (C5 [1, 0]) (C5 [1, 1]) (by kernel_rfl) ?_
  refine st_region 1 (opsOf (C5 [1, 0])) [0, 1, 2, 3, 4, 5] (by kernel_rfl) (by kernel_rfl) ?_
  obtain ⟨t1, h2, H⟩ := Option.bind_eq_some_iff.1 H
  refine st_call hk 6 [S ([97, 98, 99]), I 2] (some 12) enters6 (by kernel_rfl) (chunk_Encode.ok K  ([97, 98, 99]) 2 t1 h2 w (hg.of ho)) ?_
  clear hk; rintro a u w ⟨rfl, ho'⟩ hk
  replace ho : Ows [] w0 w [] := ho.call ho'; clear ho'
  refine st_pure tabOK hk [1, 2, 3, 4, 5] [] [1, 2] [(1, S t1.1), (2, I t1.2)] (True) (by kernel_rfl) trivial ?_
  clear hk; intro a hk
  refine st_done ?_
  refine st_seq (C5 [1, 1, 0]) (C5 [1, 1, 1]) (by kernel_rfl) ?_
  refine st_region 2 (opsOf (C5 [1, 1, 0])) [0, 1, 2, 3, 4, 5, 6, 7] (by kernel_rfl) (by kernel_rfl) ?_
  obtain ⟨t3, h4, H⟩ := Option.bind_eq_some_iff.1 H
  refine st_call hk 7 [S ([65, 32, 59, 120, 61, 49, 13, 10, 48, 49, 50, 51, 52, 53, 54, 55, 56, 57, 13, 10, 48, 13, 10, 122, 58, 32, 121, 13, 10, 13, 10, 109, 111, 114, 101])] (some 16) enters7 (by kernel_rfl) (chunk_Decode.ok K  ([65, 32, 59, 120, 61, 49, 13, 10, 48, 49, 50, 51, 52, 53, 54, 55, 56, 57, 13, 10, 48, 13, 10, 122, 58, 32, 121, 13, 10, 13, 10, 109, 111, 114, 101]) t3 h4 w (hg.of ho)) ?_
  clear hk; rintro a u w ⟨rfl, ho'⟩ hk
  replace ho : Ows [] w0 w [] := ho.call ho'; clear ho'
  refine st_pure tabOK hk [1, 2, 3, 4, 5, 6, 7] [] [1, 2, 3, 4, 5] [(1, S t1.1), (2, I t1.2), (3, S t3.1), (4, I t3.2.1), (5, I t3.2.2)] (True) (by kernel_rfl) trivial ?_
  clear hk; intro a hk
  refine st_done ?_
  refine st_seq (C5 [1, 1, 1, 0]) (C5 [1, 1, 1, 1]) (by kernel_rfl) ?_
  refine st_region 3 (opsOf (C5 [1, 1, 1, 0])) [0, 1, 2, 3, 4, 5, 6, 7] (by kernel_rfl) (by kernel_rfl) ?_
  obtain ⟨t5, h6, H⟩ := Option.bind_eq_some_iff.1 H
  refine st_call hk 7 [S ([49, 13, 10, 97, 98])] (some 21) enters7 (by kernel_rfl) (chunk_Decode.ok K  ([49, 13, 10, 97, 98]) t5 h6 w (hg.of ho)) ?_
  clear hk; rintro a u w ⟨rfl, ho'⟩ hk
  replace ho : Ows [] w0 w [] := ho.call ho'; clear ho'
  refine st_pure tabOK hk [1, 2, 3, 4, 5, 6, 7] [] [1, 2, 3, 4, 5, 8] [(1, S t1.1), (2, I t1.2), (3, S t3.1), (4, I t3.2.1), (5, I t3.2.2), (8, I t5.2.2)] (True) (by kernel_rfl) trivial ?_
  clear hk; intro a hk
  refine st_done ?_
  refine st_seq (C5 [1, 1, 1, 1, 0]) (C5 [1, 1, 1, 1, 1]) (by kernel_rfl) ?_
  refine st_region 4 (opsOf (C5 [1, 1, 1, 1, 0])) [0, 1, 2, 3, 4, 5] (by kernel_rfl) (by kernel_rfl) ?_
  obtain ⟨t7, h8, H⟩ := Option.bind_eq_some_iff.1 H
  refine st_call hk 6 [S ([]), I 0] (some 26) enters6 (by kernel_rfl) (chunk_Encode.ok K  ([]) 0 t7 h8 w (hg.of ho)) ?_
  clear hk; rintro a u w ⟨rfl, ho'⟩ hk
  replace ho : Ows [] w0 w [] := ho.call ho'; clear ho'
  refine st_pure tabOK hk [1, 2, 3, 4, 5] [] [1, 2, 3, 4, 5, 8, 10] [(1, S t1.1), (2, I t1.2), (3, S t3.1), (4, I t3.2.1), (5, I t3.2.2), (8, I t5.2.2), (10, I t7.2)] (True) (by kernel_rfl) trivial ?_
  clear hk; intro a hk
  refine st_done ?_
  refine st_seq (C5 [1, 1, 1, 1, 1, 0]) (C5 [1, 1, 1, 1, 1, 1]) (by kernel_rfl) ?_
  refine st_region 5 (opsOf (C5 [1, 1, 1, 1, 1, 0])) [0, 1, 2, 3, 4, 5, 6, 7, 8, 9, 10, 11, 12, 13, 14, 15, 16, 17, 18, 19, 20, 21, 22, 23, 24, 25, 26] (by kernel_rfl) (by kernel_rfl) ?_
  refine st_pure tabOK hk [0, 1, 2] [3, 4, 5, 6, 7, 8, 9, 10, 11, 12, 13, 14, 15, 16, 17, 18, 19, 20, 21, 22, 23, 24, 25, 26] [2, 3, 4, 5, 8, 10, 31] [(2, I t1.2), (3, S t3.1), (4, I t3.2.1), (5, I t3.2.2), (8, I t5.2.2), (10, I t7.2), (31, .bool (t1.1 == ([50, 13, 10, 97, 98, 13, 10, 49, 13, 10, 99, 13, 10, 48, 13, 10, 13, 10])))] (True) (by kernel_rfl) trivial ?_
  clear hk; intro a hk
  refine cut_ops (fun a w => Kn 55 a [(0, .bool ((t1.1 == ([50, 13, 10, 97, 98, 13, 10, 49, 13, 10, 99, 13, 10, 48, 13, 10, 13, 10])) && ((t1.2 == 0) && ((t3.1 == ([48, 49, 50, 51, 52, 53, 54, 55, 56, 57])) && ((t3.2.1 == 31) && ((t3.2.2 == 0) && ((t5.2.2 == 3) && (t7.2 == 1))))))))] ∧ Ows [] w0 w []) ?_ ?_
  · intro J
    rcases Bool.eq_false_or_eq_true (t1.1 == ([50, 13, 10, 97, 98, 13, 10, 49, 13, 10, 99, 13, 10, 48, 13, 10, 13, 10])) with h9 | h9
    ·
      rw [h9] at hk
      have h10 : (t1.1 == ([50, 13, 10, 97, 98, 13, 10, 49, 13, 10, 99, 13, 10, 48, 13, 10, 13, 10])) = true := h9
      refine st_pure tabOK hk [3, 4, 5, 6] [7, 8, 9, 10, 11, 12, 13, 14, 15, 16, 17, 18, 19, 20, 21, 22, 23, 24, 25, 26] [3, 4, 5, 8, 10, 35] [(3, S t3.1), (4, I t3.2.1), (5, I t3.2.2), (8, I t5.2.2), (10, I t7.2), (35, .bool (t1.2 == 0))] (True) (by kernel_rfl) trivial ?_
      clear hk; intro a hk
      rcases Bool.eq_false_or_eq_true (t1.2 == 0) with h11 | h11
      ·
        rw [h11] at hk
        have h12 : (t1.2 == 0) = true := h11
        refine st_pure tabOK hk [7, 8, 9, 10] [11, 12, 13, 14, 15, 16, 17, 18, 19, 20, 21, 22, 23, 24, 25, 26] [4, 5, 8, 10, 39] [(4, I t3.2.1), (5, I t3.2.2), (8, I t5.2.2), (10, I t7.2), (39, .bool (t3.1 == ([48, 49, 50, 51, 52, 53, 54, 55, 56, 57])))] (True) (by kernel_rfl) trivial ?_
        clear hk; intro a hk
        rcases Bool.eq_false_or_eq_true (t3.1 == ([48, 49, 50, 51, 52, 53, 54, 55, 56, 57])) with h13 | h13
        ·
          rw [h13] at hk
          have h14 : (t3.1 == ([48, 49, 50, 51, 52, 53, 54, 55, 56, 57])) = true := h13
          refine st_pure tabOK hk [11, 12, 13, 14] [15, 16, 17, 18, 19, 20, 21, 22, 23, 24, 25, 26] [5, 8, 10, 43] [(5, I t3.2.2), (8, I t5.2.2), (10, I t7.2), (43, .bool (t3.2.1 == 31))] (True) (by kernel_rfl) trivial ?_
          clear hk; intro a hk
          rcases Bool.eq_false_or_eq_true (t3.2.1 == 31) with h15 | h15
          ·
            rw [h15] at hk
            have h16 : (t3.2.1 == 31) = true := h15
            refine st_pure tabOK hk [15, 16, 17, 18] [19, 20, 21, 22, 23, 24, 25, 26] [8, 10, 47] [(8, I t5.2.2), (10, I t7.2), (47, .bool (t3.2.2 == 0))] (True) (by kernel_rfl) trivial ?_
            clear hk; intro a hk
            rcases Bool.eq_false_or_eq_true (t3.2.2 == 0) with h17 | h17
            ·
              rw [h17] at hk
              have h18 : (t3.2.2 == 0) = true := h17
              refine st_pure tabOK hk [19, 20, 21, 22] [23, 24, 25, 26] [10, 51] [(10, I t7.2), (51, .bool (t5.2.2 == 3))] (True) (by kernel_rfl) trivial ?_
              clear hk; intro a hk
              rcases Bool.eq_false_or_eq_true (t5.2.2 == 3) with h19 | h19
              ·
                rw [h19] at hk
                have h20 : (t5.2.2 == 3) = true := h19
                refine st_pure tabOK hk [23, 24, 25, 26] [] [0] [(0, .bool (t7.2 == 1))] (True) (by kernel_rfl) trivial ?_
                clear hk; intro a hk
                refine st_done ?_
                have e : ((t1.1 == ([50, 13, 10, 97, 98, 13, 10, 49, 13, 10, 99, 13, 10, 48, 13, 10, 13, 10])) && ((t1.2 == 0) && ((t3.1 == ([48, 49, 50, 51, 52, 53, 54, 55, 56, 57])) && ((t3.2.1 == 31) && ((t3.2.2 == 0) && ((t5.2.2 == 3) && (t7.2 == 1))))))) = (t7.2 == 1) := by first | (simp only [h9, h11, h13, h15, h17, h19]; done) | (simp only [h9, h11, h13, h15, h17, h19]; rfl) | rfl | simp [h9, h11, h13, h15, h17, h19]
                exact J a w ⟨by rw [e]; exact hk.to [0] _ (by kernel_rfl), ho⟩
              ·
                rw [h19] at hk
                have h21 : ¬ ((t5.2.2 == 3) = true) := ne_true_of_eq_false h19
                refine st_pure tabOK hk [23, 24, 25, 26] [] [0] [(0, .bool false)] (True) (by kernel_rfl) trivial ?_
                clear hk; intro a hk
                refine st_done ?_
                have e : ((t1.1 == ([50, 13, 10, 97, 98, 13, 10, 49, 13, 10, 99, 13, 10, 48, 13, 10, 13, 10])) && ((t1.2 == 0) && ((t3.1 == ([48, 49, 50, 51, 52, 53, 54, 55, 56, 57])) && ((t3.2.1 == 31) && ((t3.2.2 == 0) && ((t5.2.2 == 3) && (t7.2 == 1))))))) = false := by first | (simp only [h9, h11, h13, h15, h17, h19]; done) | (simp only [h9, h11, h13, h15, h17, h19]; rfl) | rfl | simp [h9, h11, h13, h15, h17, h19]
                exact J a w ⟨by rw [e]; exact hk.to [0] _ (by kernel_rfl), ho⟩
            ·
              rw [h17] at hk
              have h22 : ¬ ((t3.2.2 == 0) = true) := ne_true_of_eq_false h17
              refine st_pure tabOK hk [19, 20, 21, 22, 23, 24, 25, 26] [] [0] [(0, .bool false)] (True) (by kernel_rfl) trivial ?_
              clear hk; intro a hk
              refine st_done ?_
              have e : ((t1.1 == ([50, 13, 10, 97, 98, 13, 10, 49, 13, 10, 99, 13, 10, 48, 13, 10, 13, 10])) && ((t1.2 == 0) && ((t3.1 == ([48, 49, 50, 51, 52, 53, 54, 55, 56, 57])) && ((t3.2.1 == 31) && ((t3.2.2 == 0) && ((t5.2.2 == 3) && (t7.2 == 1))))))) = false := by first | (simp only [h9, h11, h13, h15, h17]; done) | (simp only [h9, h11, h13, h15, h17]; rfl) | rfl | simp [h9, h11, h13, h15, h17]
              exact J a w ⟨by rw [e]; exact hk.to [0] _ (by kernel_rfl), ho⟩
          ·
            rw [h15] at hk
            have h23 : ¬ ((t3.2.1 == 31) = true) := ne_true_of_eq_false h15
            refine st_pure tabOK hk [15, 16, 17, 18, 19, 20, 21, 22, 23, 24, 25, 26] [] [0] [(0, .bool false)] (True) (by kernel_rfl) trivial ?_
            clear hk; intro a hk
            refine st_done ?_
            have e : ((t1.1 == ([50, 13, 10, 97, 98, 13, 10, 49, 13, 10, 99, 13, 10, 48, 13, 10, 13, 10])) && ((t1.2 == 0) && ((t3.1 == ([48, 49, 50, 51, 52, 53, 54, 55, 56, 57])) && ((t3.2.1 == 31) && ((t3.2.2 == 0) && ((t5.2.2 == 3) && (t7.2 == 1))))))) = false := by first | (simp only [h9, h11, h13, h15]; done) | (simp only [h9, h11, h13, h15]; rfl) | rfl | simp [h9, h11, h13, h15]
            exact J a w ⟨by rw [e]; exact hk.to [0] _ (by kernel_rfl), ho⟩
        ·
          rw [h13] at hk
          have h24 : ¬ ((t3.1 == ([48, 49, 50, 51, 52, 53, 54, 55, 56, 57])) = true) := ne_true_of_eq_false h13
          refine st_pure tabOK hk [11, 12, 13, 14, 15, 16, 17, 18, 19, 20, 21, 22, 23, 24, 25, 26] [] [0] [(0, .bool false)] (True) (by kernel_rfl) trivial ?_
          clear hk; intro a hk
          refine st_done ?_
          have e : ((t1.1 == ([50, 13, 10, 97, 98, 13, 10, 49, 13, 10, 99, 13, 10, 48, 13, 10, 13, 10])) && ((t1.2 == 0) && ((t3.1 == ([48, 49, 50, 51, 52, 53, 54, 55, 56, 57])) && ((t3.2.1 == 31) && ((t3.2.2 == 0) && ((t5.2.2 == 3) && (t7.2 == 1))))))) = false := by first | (simp only [h9, h11, h13]; done) | (simp only [h9, h11, h13]; rfl) | rfl | simp [h9, h11, h13]
          exact J a w ⟨by rw [e]; exact hk.to [0] _ (by kernel_rfl), ho⟩
      ·
        rw [h11] at hk
        have h25 : ¬ ((t1.2 == 0) = true) := ne_true_of_eq_false h11
        refine st_pure tabOK hk [7, 8, 9, 10, 11, 12, 13, 14, 15, 16, 17, 18, 19, 20, 21, 22, 23, 24, 25, 26] [] [0] [(0, .bool false)] (True) (by kernel_rfl) trivial ?_
        clear hk; intro a hk
        refine st_done ?_
        have e : ((t1.1 == ([50, 13, 10, 97, 98, 13, 10, 49, 13, 10, 99, 13, 10, 48, 13, 10, 13, 10])) && ((t1.2 == 0) && ((t3.1 == ([48, 49, 50, 51, 52, 53, 54, 55, 56, 57])) && ((t3.2.1 == 31) && ((t3.2.2 == 0) && ((t5.2.2 == 3) && (t7.2 == 1))))))) = false := by first | (simp only [h9, h11]; done) | (simp only [h9, h11]; rfl) | rfl | simp [h9, h11]
        exact J a w ⟨by rw [e]; exact hk.to [0] _ (by kernel_rfl), ho⟩
    ·
      rw [h9] at hk
      have h26 : ¬ ((t1.1 == ([50, 13, 10, 97, 98, 13, 10, 49, 13, 10, 99, 13, 10, 48, 13, 10, 13, 10])) = true) := ne_true_of_eq_false h9
      refine st_pure tabOK hk [3, 4, 5, 6, 7, 8, 9, 10, 11, 12, 13, 14, 15, 16, 17, 18, 19, 20, 21, 22, 23, 24, 25, 26] [] [0] [(0, .bool false)] (True) (by kernel_rfl) trivial ?_
      clear hk; intro a hk
      refine st_done ?_
      have e : ((t1.1 == ([50, 13, 10, 97, 98, 13, 10, 49, 13, 10, 99, 13, 10, 48, 13, 10, 13, 10])) && ((t1.2 == 0) && ((t3.1 == ([48, 49, 50, 51, 52, 53, 54, 55, 56, 57])) && ((t3.2.1 == 31) && ((t3.2.2 == 0) && ((t5.2.2 == 3) && (t7.2 == 1))))))) = false := by first | (simp only [h9]; done) | (simp only [h9]; rfl) | rfl | simp [h9]
      exact J a w ⟨by rw [e]; exact hk.to [0] _ (by kernel_rfl), ho⟩
  · rintro a w ⟨hk, ho⟩
    refine st_retG hk (by kernel_rfl) [.bool ((t1.1 == ([50, 13, 10, 97, 98, 13, 10, 49, 13, 10, 99, 13, 10, 48, 13, 10, 13, 10])) && ((t1.2 == 0) && ((t3.1 == ([48, 49, 50, 51, 52, 53, 54, 55, 56, 57])) && ((t3.2.1 == 31) && ((t3.2.2 == 0) && ((t5.2.2 == 3) && (t7.2 == 1)))))))] #[.tmp 0] (by kernel_rfl) ⟨resT hk (by kernel_rfl), trivial⟩ ?_
    obtain rfl := Option.some.inj H
    exact ⟨_, rfl, rfl, ho⟩


/-! scullery/scullerylaw07.ChunkBack: function 3 -/
noncomputable def C3 (p : List Nat) : Code := Sub (bodyOf f3) p
def scullerylaw07_ChunkBack.f (K : Nat) (p0 : Str) (p1 : Str) (p2_0 : Int) (p2_1 : Int) : Option (Bool) := (((scullerylaw07_awake.f K ).bind fun t2 => (if ((decide ((p0.length : Int) > 1000)) || (decide ((p1.length : Int) > 100))) = true then some t2 else ((chunk_Encode.f K p0 p2_0).bind fun t10 => (if (t10.2 != 0) = true then some (t2 && (decide (p2_0 < 1))) else (if t10.1.length + p1.length ≤ maxI then ((chunk_Decode.f K (t10.1 ++ p1)).bind fun t19 => (if ((!(t19.1 == p0)) || ((t19.2.1 != (t10.1.length : Int)) || (t19.2.2 != 0))) = true then some false else (if ((decide (p2_1 < 0)) || (decide (p2_1 ≥ (t10.1.length : Int)))) = true then some t2 else (if (0 : Int) ≤ p2_1 then (if p2_1 ≤ (t10.1.length : Int) then ((chunk_Decode.f K (t10.1.take p2_1.toNat)).bind fun t38 => some (t2 && (t38.2.2 == 3))) else none) else none)))) else none))))))
abbrev scullerylaw07_ChunkBack.post (w0 : World) (r : Bool) (u : Value) (w : World) : Prop := u = .bool r ∧ Ows [] w0 w []
theorem scullerylaw07_ChunkBack.ok (K : Nat) (p0 : Str) (p1 : Str) (p2_0 : Int) (p2_1 : Int) (r : Bool) (H : scullerylaw07_ChunkBack.f K p0 p1 p2_0 p2_1 = some r) (w0 : World) (hg : Glob w0) : Calls Tryd.prog 3 ⟨[S p0, S p1, .agg #[I p2_0, I p2_1]]⟩ w0 fun e w => ∃ u, e = .returned u ∧ scullerylaw07_ChunkBack.post w0 r u w := by
  unfold scullerylaw07_ChunkBack.f at H
  refine st_start (N := 87) [S p0, S p1, .agg #[I p2_0, I p2_1]] (C3 []) func3 (by kernel_rfl) (by kernel_rfl) (by kernel_rfl) ?_
  intro a w hk ho
  refine st_seq (C3 [0]) (C3 [1]) (by kernel_rfl) ?_
  refine st_region 0 (opsOf (C3 [0])) [0, 1] (by kernel_rfl) (by kernel_rfl) ?_
  refine st_new tabOK hk ho #[I p2_0, I p2_1] 22 5 (by kernel_rfl) ?_
  clear hk ho; intro a b1 w hk ho
  refine st_pure tabOK hk [1] [] [0, 1, 5] [(0, S p0), (1, S p1), (5, .pointer (some ⟨b1, 0, none⟩))] (True) (by kernel_rfl) trivial ?_
  clear hk; intro a hk
  refine st_done ?_
  refine st_seq (C3 [1, 0]) (C3 [1, 1]) (by kernel_rfl) ?_
  refine st_region 1 (opsOf (C3 [1, 0])) [0, 1] (by kernel_rfl) (by kernel_rfl) ?_
  obtain ⟨t2, h3, H⟩ := Option.bind_eq_some_iff.1 H
  refine st_call hk 5 [] (some 16) enters5 (by kernel_rfl) (scullerylaw07_awake.ok K   t2 h3 w (hg.of ho)) ?_
  clear hk; rintro a u w ⟨rfl, ho'⟩ hk
  replace ho : Ows [] w0 w [.blk b1 (.cells #[I p2_0, I p2_1] 22 (0, 0))] := ho.call ho'; clear ho'
  refine st_pure tabOK hk [1] [] [0, 1, 5, 7] [(0, S p0), (1, S p1), (5, .pointer (some ⟨b1, 0, none⟩)), (7, .bool t2)] (True) (by kernel_rfl) trivial ?_
  clear hk; intro a hk
  refine st_done ?_
  refine st_seq (C3 [1, 1, 0]) (C3 [1, 1, 1]) (by kernel_rfl) ?_
  refine st_seq (C3 [1, 1, 0, 0]) (C3 [1, 1, 0, 1]) (by kernel_rfl) ?_
  refine st_region 2 (opsOf (C3 [1, 1, 0, 0])) [0, 1, 2, 3, 4, 5, 6, 7] (by kernel_rfl) (by kernel_rfl) ?_
  refine st_pure tabOK hk [0, 1, 2, 3] [4, 5, 6, 7] [0, 1, 5, 7, 20] [(0, S p0), (1, S p1), (5, .pointer (some ⟨b1, 0, none⟩)), (7, .bool t2), (20, .bool (decide ((p0.length : Int) > 1000)))] (True) (by kernel_rfl) trivial ?_
  clear hk; intro a hk
  refine cut_ops (fun a w => Kn 87 a [(0, S p0), (1, S p1), (5, .pointer (some ⟨b1, 0, none⟩)), (7, .bool t2), (24, .bool ((decide ((p0.length : Int) > 1000)) || (decide ((p1.length : Int) > 100))))] ∧ Ows [] w0 w [.blk b1 (.cells #[I p2_0, I p2_1] 22 (0, 0))]) ?_ ?_
  · intro J
    rcases Bool.eq_false_or_eq_true (decide ((p0.length : Int) > 1000)) with h4 | h4
    ·
      rw [h4] at hk
      have h5 : (p0.length : Int) > 1000 := of_decide_eq_true h4
      refine st_pure tabOK hk [4, 5, 6, 7] [] [0, 1, 5, 7, 24] [(0, S p0), (1, S p1), (5, .pointer (some ⟨b1, 0, none⟩)), (7, .bool t2), (24, .bool true)] (True) (by kernel_rfl) trivial ?_
      clear hk; intro a hk
      refine st_done ?_
      have e : ((decide ((p0.length : Int) > 1000)) || (decide ((p1.length : Int) > 100))) = true := by first | (simp only [h4]; done) | (simp only [h4]; rfl) | rfl | simp [h4]
      exact J a w ⟨by rw [e]; exact hk.to [0, 1, 5, 7, 24] _ (by kernel_rfl), ho⟩
    ·
      rw [h4] at hk
      have h6 : ¬ ((p0.length : Int) > 1000) := of_decide_eq_false h4
      refine st_pure tabOK hk [4, 5, 6, 7] [] [0, 1, 5, 7, 24] [(0, S p0), (1, S p1), (5, .pointer (some ⟨b1, 0, none⟩)), (7, .bool t2), (24, .bool (decide ((p1.length : Int) > 100)))] (True) (by kernel_rfl) trivial ?_
      clear hk; intro a hk
      refine st_done ?_
      have e : ((decide ((p0.length : Int) > 1000)) || (decide ((p1.length : Int) > 100))) = (decide ((p1.length : Int) > 100)) := by first | (simp only [h4]; done) | (simp only [h4]; rfl) | rfl | simp [h4]
      exact J a w ⟨by rw [e]; exact hk.to [0, 1, 5, 7, 24] _ (by kernel_rfl), ho⟩
  · rintro a w ⟨hk, ho⟩
    refine st_cond hk (C3 [1, 1, 0, 1, 0]) (C3 [1, 1, 0, 1, 1]) (.tmp 24) (((decide ((p0.length : Int) > 1000)) || (decide ((p1.length : Int) > 100)))) (by kernel_rfl) (by kernel_rfl) (fun h7 => ?_) (fun h7 => ?_)
    ·
      have h8 : ((decide ((p0.length : Int) > 1000)) || (decide ((p1.length : Int) > 100))) = true := h7
      rw [if_pos h8] at H
      refine st_seq (C3 [1, 1, 0, 1, 0, 0]) (C3 [1, 1, 0, 1, 0, 1]) (by kernel_rfl) ?_
      refine st_region 3 (opsOf (C3 [1, 1, 0, 1, 0, 0])) [0, 1] (by kernel_rfl) (by kernel_rfl) ?_
      refine st_pure tabOK hk [0, 1] [] [6] [(6, .bool t2)] (True) (by kernel_rfl) trivial ?_
      clear hk; intro a hk
      refine st_done ?_
      replace ho : Ows [] w0 w [] := ho.erase 0
      refine st_retG hk (by kernel_rfl) [.bool t2] #[.tmp 6] (by kernel_rfl) ⟨resT hk (by kernel_rfl), trivial⟩ ?_
      obtain rfl := Option.some.inj H
      exact ⟨_, rfl, rfl, ho⟩
    ·
      have h9 : ¬ (((decide ((p0.length : Int) > 1000)) || (decide ((p1.length : Int) > 100))) = true) := ne_true_of_eq_false h7
      rw [if_neg h9] at H
      refine st_skip (by kernel_rfl) ?_
      refine st_seq (C3 [1, 1, 1, 0]) (C3 [1, 1, 1, 1]) (by kernel_rfl) ?_
      refine st_region 4 (opsOf (C3 [1, 1, 1, 0])) [0, 1, 2, 3, 4, 5, 6, 7, 8] (by kernel_rfl) (by kernel_rfl) ?_
      refine st_pure tabOK hk [0, 1] [2, 3, 4, 5, 6, 7, 8] [0, 1, 5, 7, 27, 28] [(0, S p0), (1, S p1), (5, .pointer (some ⟨b1, 0, none⟩)), (7, .bool t2), (27, S p0), (28, .pointer (some ⟨b1, 0, none⟩))] (((0 : Int) ≤ 0 ∧ (0 : Int) < 2) ∧ True) (by kernel_rfl) ⟨(by decide), trivial⟩ ?_
      clear hk; intro a hk
      refine st_load1 tabOK hk 3 (some ⟨b1, 0, none⟩) 29 (by kernel_rfl) (by kernel_rfl) (I p2_0) (ho.cell 0 rfl rfl) ?_
      clear hk; intro a hk
      obtain ⟨t10, h11, H⟩ := Option.bind_eq_some_iff.1 H
      refine st_call hk 6 [S p0, I p2_0] (some 30) enters6 (by kernel_rfl) (chunk_Encode.ok K  p0 p2_0 t10 h11 w (hg.of ho)) ?_
      clear hk; rintro a u w ⟨rfl, ho'⟩ hk
      replace ho : Ows [] w0 w [.blk b1 (.cells #[I p2_0, I p2_1] 22 (0, 0))] := ho.call ho'; clear ho'
      refine st_pure tabOK hk [4, 5, 6, 7, 8] [] [0, 1, 5, 7, 8, 9] [(0, S p0), (1, S p1), (5, .pointer (some ⟨b1, 0, none⟩)), (7, .bool t2), (8, S t10.1), (9, I t10.2)] (True) (by kernel_rfl) trivial ?_
      clear hk; intro a hk
      refine st_done ?_
      refine st_seq (C3 [1, 1, 1, 1, 0]) (C3 [1, 1, 1, 1, 1]) (by kernel_rfl) ?_
      refine st_seq (C3 [1, 1, 1, 1, 0, 0]) (C3 [1, 1, 1, 1, 0, 1]) (by kernel_rfl) ?_
      refine st_region 5 (opsOf (C3 [1, 1, 1, 1, 0, 0])) [0, 1] (by kernel_rfl) (by kernel_rfl) ?_
      refine st_pure tabOK hk [0, 1] [] [0, 1, 5, 7, 8, 34] [(0, S p0), (1, S p1), (5, .pointer (some ⟨b1, 0, none⟩)), (7, .bool t2), (8, S t10.1), (34, .bool (t10.2 != 0))] (True) (by kernel_rfl) trivial ?_
      clear hk; intro a hk
      refine st_done ?_
      refine st_cond hk (C3 [1, 1, 1, 1, 0, 1, 0]) (C3 [1, 1, 1, 1, 0, 1, 1]) (.tmp 34) (t10.2 != 0) (by kernel_rfl) (by kernel_rfl) (fun h12 => ?_) (fun h12 => ?_)
      ·
        have h13 : (t10.2 != 0) = true := h12
        rw [if_pos h13] at H
        refine st_seq (C3 [1, 1, 1, 1, 0, 1, 0, 0]) (C3 [1, 1, 1, 1, 0, 1, 0, 1]) (by kernel_rfl) ?_
        refine st_region 6 (opsOf (C3 [1, 1, 1, 1, 0, 1, 0, 0])) [0, 1, 2, 3, 4, 5, 6] (by kernel_rfl) (by kernel_rfl) ?_
        refine st_pure tabOK hk [0, 1] [2, 3, 4, 5, 6] [5, 36] [(5, .pointer (some ⟨b1, 0, none⟩)), (36, .bool t2)] (True) (by kernel_rfl) trivial ?_
        clear hk; intro a hk
        refine cut_ops (fun a w => Kn 87 a [(6, .bool (t2 && (decide (p2_0 < 1))))] ∧ Ows [] w0 w [.blk b1 (.cells #[I p2_0, I p2_1] 22 (0, 0))]) ?_ ?_
        · intro J
          rcases Bool.eq_false_or_eq_true (t2) with h14 | h14
          ·
            rw [h14] at hk
            have h15 : t2 = true := h14
            refine st_pure tabOK hk [2] [3, 4, 5, 6] [36, 37] [(36, .bool true), (37, .pointer (some ⟨b1, 0, none⟩))] (((0 : Int) ≤ 0 ∧ (0 : Int) < 2) ∧ True) (by kernel_rfl) ⟨(by decide), trivial⟩ ?_
            clear hk; intro a hk
            refine st_load1 tabOK hk 3 (some ⟨b1, 0, none⟩) 38 (by kernel_rfl) (by kernel_rfl) (I p2_0) (ho.cell 0 rfl rfl) ?_
            clear hk; intro a hk
            refine st_pure tabOK hk [4, 5, 6] [] [6] [(6, .bool (decide (p2_0 < 1)))] (True) (by kernel_rfl) trivial ?_
            clear hk; intro a hk
            refine st_done ?_
            have e : (t2 && (decide (p2_0 < 1))) = (decide (p2_0 < 1)) := by first | (simp only [h14]; done) | (simp only [h14]; rfl) | rfl | simp [h14]
            exact J a w ⟨by rw [e]; exact hk.to [6] _ (by kernel_rfl), ho⟩
          ·
            rw [h14] at hk
            have h16 : ¬ (t2 = true) := ne_true_of_eq_false h14
            refine st_pure tabOK hk [2, 3, 4, 5, 6] [] [6] [(6, .bool false)] (True) (by kernel_rfl) trivial ?_
            clear hk; intro a hk
            refine st_done ?_
            have e : (t2 && (decide (p2_0 < 1))) = false := by first | (simp only [h14]; done) | (simp only [h14]; rfl) | rfl | simp [h14]
            exact J a w ⟨by rw [e]; exact hk.to [6] _ (by kernel_rfl), ho⟩
        · rintro a w ⟨hk, ho⟩
          replace ho : Ows [] w0 w [] := ho.erase 0
          refine st_retG hk (by kernel_rfl) [.bool (t2 && (decide (p2_0 < 1)))] #[.tmp 6] (by kernel_rfl) ⟨resT hk (by kernel_rfl), trivial⟩ ?_
          obtain rfl := Option.some.inj H
          exact ⟨_, rfl, rfl, ho⟩
      ·
        have h17 : ¬ ((t10.2 != 0) = true) := ne_true_of_eq_false h12
        rw [if_neg h17] at H
        refine st_skip (by kernel_rfl) ?_
        refine st_seq (C3 [1, 1, 1, 1, 1, 0]) (C3 [1, 1, 1, 1, 1, 1]) (by kernel_rfl) ?_
        refine st_region 7 (opsOf (C3 [1, 1, 1, 1, 1, 0])) [0, 1, 2, 3, 4, 5, 6, 7, 8, 9, 10] (by kernel_rfl) (by kernel_rfl) ?_
        have h18 : t10.1.length + p1.length ≤ maxI := by
          by_cases h18 : t10.1.length + p1.length ≤ maxI
          · exact h18
          · rw [if_neg h18] at H; cases H
        rw [if_pos h18] at H
        refine st_pure tabOK hk [0, 1, 2] [3, 4, 5, 6, 7, 8, 9, 10] [0, 5, 7, 8, 44] [(0, S p0), (5, .pointer (some ⟨b1, 0, none⟩)), (7, .bool t2), (8, S t10.1), (44, S (t10.1 ++ p1))] (t10.1.length + p1.length ≤ maxI ∧ True) (by kernel_rfl) ⟨h18, trivial⟩ ?_
        clear hk; intro a hk
        obtain ⟨t19, h20, H⟩ := Option.bind_eq_some_iff.1 H
        refine st_call hk 7 [S (t10.1 ++ p1)] (some 45) enters7 (by kernel_rfl) (chunk_Decode.ok K  (t10.1 ++ p1) t19 h20 w (hg.of ho)) ?_
        clear hk; rintro a u w ⟨rfl, ho'⟩ hk
        replace ho : Ows [] w0 w [.blk b1 (.cells #[I p2_0, I p2_1] 22 (0, 0))] := ho.call ho'; clear ho'
        refine st_pure tabOK hk [4, 5, 6, 7, 8, 9, 10] [] [0, 5, 7, 8, 10, 11, 12] [(0, S p0), (5, .pointer (some ⟨b1, 0, none⟩)), (7, .bool t2), (8, S t10.1), (10, S t19.1), (11, I t19.2.1), (12, I t19.2.2)] (True) (by kernel_rfl) trivial ?_
        clear hk; intro a hk
        refine st_done ?_
        refine st_seq (C3 [1, 1, 1, 1, 1, 1, 0]) (C3 [1, 1, 1, 1, 1, 1, 1]) (by kernel_rfl) ?_
        refine st_seq (C3 [1, 1, 1, 1, 1, 1, 0, 0]) (C3 [1, 1, 1, 1, 1, 1, 0, 1]) (by kernel_rfl) ?_
        refine st_region 8 (opsOf (C3 [1, 1, 1, 1, 1, 1, 0, 0])) [0, 1, 2, 3, 4, 5, 6, 7, 8, 9, 10, 11, 12] (by kernel_rfl) (by kernel_rfl) ?_
        refine st_pure tabOK hk [0, 1, 2, 3] [4, 5, 6, 7, 8, 9, 10, 11, 12] [5, 7, 8, 11, 12, 52] [(5, .pointer (some ⟨b1, 0, none⟩)), (7, .bool t2), (8, S t10.1), (11, I t19.2.1), (12, I t19.2.2), (52, .bool (!(t19.1 == p0)))] (True) (by kernel_rfl) trivial ?_
        clear hk; intro a hk
        refine cut_ops (fun a w => Kn 87 a [(5, .pointer (some ⟨b1, 0, none⟩)), (7, .bool t2), (8, S t10.1), (61, .bool ((!(t19.1 == p0)) || ((t19.2.1 != (t10.1.length : Int)) || (t19.2.2 != 0))))] ∧ Ows [] w0 w [.blk b1 (.cells #[I p2_0, I p2_1] 22 (0, 0))]) ?_ ?_
        · intro J
          rcases Bool.eq_false_or_eq_true (!(t19.1 == p0)) with h21 | h21
          ·
            rw [h21] at hk
            have h22 : (!(t19.1 == p0)) = true := h21
            refine st_pure tabOK hk [4, 5, 6, 7, 8, 9, 10, 11, 12] [] [5, 7, 8, 61] [(5, .pointer (some ⟨b1, 0, none⟩)), (7, .bool t2), (8, S t10.1), (61, .bool true)] (True) (by kernel_rfl) trivial ?_
            clear hk; intro a hk
            refine st_done ?_
            have e : ((!(t19.1 == p0)) || ((t19.2.1 != (t10.1.length : Int)) || (t19.2.2 != 0))) = true := by first | (simp only [h21]; done) | (simp only [h21]; rfl) | rfl | simp [h21]
            exact J a w ⟨by rw [e]; exact hk.to [5, 7, 8, 61] _ (by kernel_rfl), ho⟩
          ·
            rw [h21] at hk
            have h23 : ¬ ((!(t19.1 == p0)) = true) := ne_true_of_eq_false h21
            refine st_pure tabOK hk [4, 5, 6, 7, 8, 9] [10, 11, 12] [5, 7, 8, 12, 58] [(5, .pointer (some ⟨b1, 0, none⟩)), (7, .bool t2), (8, S t10.1), (12, I t19.2.2), (58, .bool (t19.2.1 != (t10.1.length : Int)))] (True) (by kernel_rfl) trivial ?_
            clear hk; intro a hk
            rcases Bool.eq_false_or_eq_true (t19.2.1 != (t10.1.length : Int)) with h24 | h24
            ·
              rw [h24] at hk
              have h25 : (t19.2.1 != (t10.1.length : Int)) = true := h24
              refine st_pure tabOK hk [10, 11, 12] [] [5, 7, 8, 61] [(5, .pointer (some ⟨b1, 0, none⟩)), (7, .bool t2), (8, S t10.1), (61, .bool true)] (True) (by kernel_rfl) trivial ?_
              clear hk; intro a hk
              refine st_done ?_
              have e : ((!(t19.1 == p0)) || ((t19.2.1 != (t10.1.length : Int)) || (t19.2.2 != 0))) = true := by first | (simp only [h21, h24]; done) | (simp only [h21, h24]; rfl) | rfl | simp [h21, h24]
              exact J a w ⟨by rw [e]; exact hk.to [5, 7, 8, 61] _ (by kernel_rfl), ho⟩
            ·
              rw [h24] at hk
              have h26 : ¬ ((t19.2.1 != (t10.1.length : Int)) = true) := ne_true_of_eq_false h24
              refine st_pure tabOK hk [10, 11, 12] [] [5, 7, 8, 61] [(5, .pointer (some ⟨b1, 0, none⟩)), (7, .bool t2), (8, S t10.1), (61, .bool (t19.2.2 != 0))] (True) (by kernel_rfl) trivial ?_
              clear hk; intro a hk
              refine st_done ?_
              have e : ((!(t19.1 == p0)) || ((t19.2.1 != (t10.1.length : Int)) || (t19.2.2 != 0))) = (t19.2.2 != 0) := by first | (simp only [h21, h24]; done) | (simp only [h21, h24]; rfl) | rfl | simp [h21, h24]
              exact J a w ⟨by rw [e]; exact hk.to [5, 7, 8, 61] _ (by kernel_rfl), ho⟩
        · rintro a w ⟨hk, ho⟩
          refine st_cond hk (C3 [1, 1, 1, 1, 1, 1, 0, 1, 0]) (C3 [1, 1, 1, 1, 1, 1, 0, 1, 1]) (.tmp 61) (((!(t19.1 == p0)) || ((t19.2.1 != (t10.1.length : Int)) || (t19.2.2 != 0)))) (by kernel_rfl) (by kernel_rfl) (fun h27 => ?_) (fun h27 => ?_)
          ·
            have h28 : ((!(t19.1 == p0)) || ((t19.2.1 != (t10.1.length : Int)) || (t19.2.2 != 0))) = true := h27
            rw [if_pos h28] at H
            refine st_seq (C3 [1, 1, 1, 1, 1, 1, 0, 1, 0, 0]) (C3 [1, 1, 1, 1, 1, 1, 0, 1, 0, 1]) (by kernel_rfl) ?_
            refine st_region 9 (opsOf (C3 [1, 1, 1, 1, 1, 1, 0, 1, 0, 0])) [0] (by kernel_rfl) (by kernel_rfl) ?_
            refine st_pure tabOK hk [0] [] [6] [(6, .bool false)] (True) (by kernel_rfl) trivial ?_
            clear hk; intro a hk
            refine st_done ?_
            replace ho : Ows [] w0 w [] := ho.erase 0
            refine st_retG hk (by kernel_rfl) [.bool false] #[.tmp 6] (by kernel_rfl) ⟨resT hk (by kernel_rfl), trivial⟩ ?_
            obtain rfl := Option.some.inj H
            exact ⟨_, rfl, rfl, ho⟩
          ·
            have h29 : ¬ (((!(t19.1 == p0)) || ((t19.2.1 != (t10.1.length : Int)) || (t19.2.2 != 0))) = true) := ne_true_of_eq_false h27
            rw [if_neg h29] at H
            refine st_skip (by kernel_rfl) ?_
            refine st_seq (C3 [1, 1, 1, 1, 1, 1, 1, 0]) (C3 [1, 1, 1, 1, 1, 1, 1, 1]) (by kernel_rfl) ?_
            refine st_seq (C3 [1, 1, 1, 1, 1, 1, 1, 0, 0]) (C3 [1, 1, 1, 1, 1, 1, 1, 0, 1]) (by kernel_rfl) ?_
            refine st_region 10 (opsOf (C3 [1, 1, 1, 1, 1, 1, 1, 0, 0])) [0, 1, 2, 3, 4, 5, 6, 7, 8, 9] (by kernel_rfl) (by kernel_rfl) ?_
            refine st_pure tabOK hk [0] [1, 2, 3, 4, 5, 6, 7, 8, 9] [5, 7, 8, 62] [(5, .pointer (some ⟨b1, 0, none⟩)), (7, .bool t2), (8, S t10.1), (62, .pointer (some ⟨b1, 1, none⟩))] (((0 : Int) ≤ 1 ∧ (1 : Int) < 2) ∧ True) (by kernel_rfl) ⟨(by decide), trivial⟩ ?_
            clear hk; intro a hk
            refine st_load1 tabOK hk 3 (some ⟨b1, 1, none⟩) 63 (by kernel_rfl) (by kernel_rfl) (I p2_1) (ho.cell 0 rfl rfl) ?_
            clear hk; intro a hk
            refine st_pure tabOK hk [2, 3] [4, 5, 6, 7, 8, 9] [5, 7, 8, 65] [(5, .pointer (some ⟨b1, 0, none⟩)), (7, .bool t2), (8, S t10.1), (65, .bool (decide (p2_1 < 0)))] (True) (by kernel_rfl) trivial ?_
            clear hk; intro a hk
            refine cut_ops (fun a w => Kn 87 a [(5, .pointer (some ⟨b1, 0, none⟩)), (7, .bool t2), (8, S t10.1), (71, .bool ((decide (p2_1 < 0)) || (decide (p2_1 ≥ (t10.1.length : Int)))))] ∧ Ows [] w0 w [.blk b1 (.cells #[I p2_0, I p2_1] 22 (0, 0))]) ?_ ?_
            · intro J
              rcases Bool.eq_false_or_eq_true (decide (p2_1 < 0)) with h30 | h30
              ·
                rw [h30] at hk
                have h31 : p2_1 < 0 := of_decide_eq_true h30
                refine st_pure tabOK hk [4, 5, 6, 7, 8, 9] [] [5, 7, 8, 71] [(5, .pointer (some ⟨b1, 0, none⟩)), (7, .bool t2), (8, S t10.1), (71, .bool true)] (True) (by kernel_rfl) trivial ?_
                clear hk; intro a hk
                refine st_done ?_
                have e : ((decide (p2_1 < 0)) || (decide (p2_1 ≥ (t10.1.length : Int)))) = true := by first | (simp only [h30]; done) | (simp only [h30]; rfl) | rfl | simp [h30]
                exact J a w ⟨by rw [e]; exact hk.to [5, 7, 8, 71] _ (by kernel_rfl), ho⟩
              ·
                rw [h30] at hk
                have h32 : ¬ (p2_1 < 0) := of_decide_eq_false h30
                refine st_pure tabOK hk [4] [5, 6, 7, 8, 9] [5, 7, 8, 65, 66] [(5, .pointer (some ⟨b1, 0, none⟩)), (7, .bool t2), (8, S t10.1), (65, .bool false), (66, .pointer (some ⟨b1, 1, none⟩))] (((0 : Int) ≤ 1 ∧ (1 : Int) < 2) ∧ True) (by kernel_rfl) ⟨(by decide), trivial⟩ ?_
                clear hk; intro a hk
                refine st_load1 tabOK hk 3 (some ⟨b1, 1, none⟩) 67 (by kernel_rfl) (by kernel_rfl) (I p2_1) (ho.cell 0 rfl rfl) ?_
                clear hk; intro a hk
                refine st_pure tabOK hk [6, 7, 8, 9] [] [5, 7, 8, 71] [(5, .pointer (some ⟨b1, 0, none⟩)), (7, .bool t2), (8, S t10.1), (71, .bool (decide (p2_1 ≥ (t10.1.length : Int))))] (True) (by kernel_rfl) trivial ?_
                clear hk; intro a hk
                refine st_done ?_
                have e : ((decide (p2_1 < 0)) || (decide (p2_1 ≥ (t10.1.length : Int)))) = (decide (p2_1 ≥ (t10.1.length : Int))) := by first | (simp only [h30]; done) | (simp only [h30]; rfl) | rfl | simp [h30]
                exact J a w ⟨by rw [e]; exact hk.to [5, 7, 8, 71] _ (by kernel_rfl), ho⟩
            · rintro a w ⟨hk, ho⟩
              refine st_cond hk (C3 [1, 1, 1, 1, 1, 1, 1, 0, 1, 0]) (C3 [1, 1, 1, 1, 1, 1, 1, 0, 1, 1]) (.tmp 71) (((decide (p2_1 < 0)) || (decide (p2_1 ≥ (t10.1.length : Int))))) (by kernel_rfl) (by kernel_rfl) (fun h33 => ?_) (fun h33 => ?_)
              ·
                have h34 : ((decide (p2_1 < 0)) || (decide (p2_1 ≥ (t10.1.length : Int)))) = true := h33
                rw [if_pos h34] at H
                refine st_seq (C3 [1, 1, 1, 1, 1, 1, 1, 0, 1, 0, 0]) (C3 [1, 1, 1, 1, 1, 1, 1, 0, 1, 0, 1]) (by kernel_rfl) ?_
                refine st_region 11 (opsOf (C3 [1, 1, 1, 1, 1, 1, 1, 0, 1, 0, 0])) [0, 1] (by kernel_rfl) (by kernel_rfl) ?_
                refine st_pure tabOK hk [0, 1] [] [6] [(6, .bool t2)] (True) (by kernel_rfl) trivial ?_
                clear hk; intro a hk
                refine st_done ?_
                replace ho : Ows [] w0 w [] := ho.erase 0
                refine st_retG hk (by kernel_rfl) [.bool t2] #[.tmp 6] (by kernel_rfl) ⟨resT hk (by kernel_rfl), trivial⟩ ?_
                obtain rfl := Option.some.inj H
                exact ⟨_, rfl, rfl, ho⟩
              ·
                have h35 : ¬ (((decide (p2_1 < 0)) || (decide (p2_1 ≥ (t10.1.length : Int)))) = true) := ne_true_of_eq_false h33
                rw [if_neg h35] at H
                refine st_skip (by kernel_rfl) ?_
                refine st_seq (C3 [1, 1, 1, 1, 1, 1, 1, 1, 0]) (C3 [1, 1, 1, 1, 1, 1, 1, 1, 1]) (by kernel_rfl) ?_
                refine st_region 12 (opsOf (C3 [1, 1, 1, 1, 1, 1, 1, 1, 0])) [0, 1, 2, 3, 4, 5, 6, 7, 8, 9, 10, 11] (by kernel_rfl) (by kernel_rfl) ?_
                refine st_pure tabOK hk [0, 1] [2, 3, 4, 5, 6, 7, 8, 9, 10, 11] [7, 74, 75] [(7, .bool t2), (74, S t10.1), (75, .pointer (some ⟨b1, 1, none⟩))] (((0 : Int) ≤ 1 ∧ (1 : Int) < 2) ∧ True) (by kernel_rfl) ⟨(by decide), trivial⟩ ?_
                clear hk; intro a hk
                refine st_load1 tabOK hk 3 (some ⟨b1, 1, none⟩) 76 (by kernel_rfl) (by kernel_rfl) (I p2_1) (ho.cell 0 rfl rfl) ?_
                clear hk; intro a hk
                have h36 : (0 : Int) ≤ p2_1 := by
                  by_cases h36 : (0 : Int) ≤ p2_1
                  · exact h36
                  · rw [if_neg h36] at H; cases H
                rw [if_pos h36] at H
                have h37 : p2_1 ≤ (t10.1.length : Int) := by
                  by_cases h37 : p2_1 ≤ (t10.1.length : Int)
                  · exact h37
                  · rw [if_neg h37] at H; cases H
                rw [if_pos h37] at H
                refine st_pure tabOK hk [3] [4, 5, 6, 7, 8, 9, 10, 11] [7, 77] [(7, .bool t2), (77, S (t10.1.take p2_1.toNat))] (((0 : Int) ≤ p2_1 ∧ p2_1 ≤ (t10.1.length : Int)) ∧ True) (by kernel_rfl) ⟨⟨h36, h37⟩, trivial⟩ ?_
                clear hk; intro a hk
                obtain ⟨t38, h39, H⟩ := Option.bind_eq_some_iff.1 H
                refine st_call hk 7 [S (t10.1.take p2_1.toNat)] (some 78) enters7 (by kernel_rfl) (chunk_Decode.ok K  (t10.1.take p2_1.toNat) t38 h39 w (hg.of ho)) ?_
                clear hk; rintro a u w ⟨rfl, ho'⟩ hk
                replace ho : Ows [] w0 w [.blk b1 (.cells #[I p2_0, I p2_1] 22 (0, 0))] := ho.call ho'; clear ho'
                refine st_pure tabOK hk [5, 6, 7, 8, 9, 10, 11] [] [7, 15] [(7, .bool t2), (15, I t38.2.2)] (True) (by kernel_rfl) trivial ?_
                clear hk; intro a hk
                refine st_done ?_
                refine st_seq (C3 [1, 1, 1, 1, 1, 1, 1, 1, 1, 0]) (C3 [1, 1, 1, 1, 1, 1, 1, 1, 1, 1]) (by kernel_rfl) ?_
                refine st_region 13 (opsOf (C3 [1, 1, 1, 1, 1, 1, 1, 1, 1, 0])) [0, 1, 2, 3, 4, 5] (by kernel_rfl) (by kernel_rfl) ?_
                refine st_pure tabOK hk [0, 1] [2, 3, 4, 5] [15, 83] [(15, I t38.2.2), (83, .bool t2)] (True) (by kernel_rfl) trivial ?_
                clear hk; intro a hk
                refine cut_ops (fun a w => Kn 87 a [(6, .bool (t2 && (t38.2.2 == 3)))] ∧ Ows [] w0 w [.blk b1 (.cells #[I p2_0, I p2_1] 22 (0, 0))]) ?_ ?_
                · intro J
                  rcases Bool.eq_false_or_eq_true (t2) with h40 | h40
                  ·
                    rw [h40] at hk
                    have h41 : t2 = true := h40
                    refine st_pure tabOK hk [2, 3, 4, 5] [] [6] [(6, .bool (t38.2.2 == 3))] (True) (by kernel_rfl) trivial ?_
                    clear hk; intro a hk
                    refine st_done ?_
                    have e : (t2 && (t38.2.2 == 3)) = (t38.2.2 == 3) := by first | (simp only [h40]; done) | (simp only [h40]; rfl) | rfl | simp [h40]
                    exact J a w ⟨by rw [e]; exact hk.to [6] _ (by kernel_rfl), ho⟩
                  ·
                    rw [h40] at hk
                    have h42 : ¬ (t2 = true) := ne_true_of_eq_false h40
                    refine st_pure tabOK hk [2, 3, 4, 5] [] [6] [(6, .bool false)] (True) (by kernel_rfl) trivial ?_
                    clear hk; intro a hk
                    refine st_done ?_
                    have e : (t2 && (t38.2.2 == 3)) = false := by first | (simp only [h40]; done) | (simp only [h40]; rfl) | rfl | simp [h40]
                    exact J a w ⟨by rw [e]; exact hk.to [6] _ (by kernel_rfl), ho⟩
                · rintro a w ⟨hk, ho⟩
                  replace ho : Ows [] w0 w [] := ho.erase 0
                  refine st_retG hk (by kernel_rfl) [.bool (t2 && (t38.2.2 == 3))] #[.tmp 6] (by kernel_rfl) ⟨resT hk (by kernel_rfl), trivial⟩ ?_
                  obtain rfl := Option.some.inj H
                  exact ⟨_, rfl, rfl, ho⟩


/-! scullery/scullerylaw07.ChunkJoin: function 4 -/
noncomputable def C4 (p : List Nat) : Code := Sub (bodyOf f4) p
def scullerylaw07_ChunkJoin.f (K : Nat) (p0 : Str) (p1 : Str) (p2_0 : Int) (p2_1 : Int) : Option (Bool) := (((scullerylaw07_awake.f K ).bind fun t2 => (if ((decide ((p0.length : Int) > 500)) || ((decide ((p1.length : Int) > 500)) || ((decide (p2_0 < 1)) || (decide (p2_1 < 1))))) = true then some t2 else ((chunk_Encode.f K p0 p2_0).bind fun t16 => ((chunk_Encode.f K p1 p2_1).bind fun t18 => (if ((t16.2 != 0) || ((t18.2 != 0) || (decide ((t16.1.length : Int) < 5)))) = true then some false else (if (0 : Int) ≤ w64 ((t16.1.length : Int) - 5) then (if w64 ((t16.1.length : Int) - 5) ≤ (t16.1.length : Int) then (if (t16.1.take (w64 ((t16.1.length : Int) - 5)).toNat).length + t18.1.length ≤ maxI then ((chunk_Decode.f K ((t16.1.take (w64 ((t16.1.length : Int) - 5)).toNat) ++ t18.1)).bind fun t32 => (((if t2 = true then (if p0.length + p1.length ≤ maxI then (if (t32.1 == (p0 ++ p1)) = true then (if (t32.2.1 == (w64 ((w64 ((t16.1.length : Int) + (t18.1.length : Int))) - 5))) = true then some (t32.2.2 == 0) else some false) else some false) else none) else some false)).bind fun m34 => some m34)) else none) else none) else none)))))))
abbrev scullerylaw07_ChunkJoin.post (w0 : World) (r : Bool) (u : Value) (w : World) : Prop := u = .bool r ∧ Ows [] w0 w []
theorem scullerylaw07_ChunkJoin.ok (K : Nat) (p0 : Str) (p1 : Str) (p2_0 : Int) (p2_1 : Int) (r : Bool) (H : scullerylaw07_ChunkJoin.f K p0 p1 p2_0 p2_1 = some r) (w0 : World) (hg : Glob w0) : Calls Tryd.prog 4 ⟨[S p0, S p1, .agg #[I p2_0, I p2_1]]⟩ w0 fun e w => ∃ u, e = .returned u ∧ scullerylaw07_ChunkJoin.post w0 r u w := by
  unfold scullerylaw07_ChunkJoin.f at H
  refine st_start (N := 94) [S p0, S p1, .agg #[I p2_0, I p2_1]] (C4 []) func4 (by kernel_rfl) (by kernel_rfl) (by kernel_rfl) ?_
  intro a w hk ho
  refine st_seq (C4 [0]) (C4 [1]) (by kernel_rfl) ?_
  refine st_region 0 (opsOf (C4 [0])) [0, 1] (by kernel_rfl) (by kernel_rfl) ?_
  refine st_new tabOK hk ho #[I p2_0, I p2_1] 22 5 (by kernel_rfl) ?_
  clear hk ho; intro a b1 w hk ho
  refine st_pure tabOK hk [1] [] [0, 1, 5] [(0, S p0), (1, S p1), (5, .pointer (some ⟨b1, 0, none⟩))] (True) (by kernel_rfl) trivial ?_
  clear hk; intro a hk
  refine st_done ?_
  refine st_seq (C4 [1, 0]) (C4 [1, 1]) (by kernel_rfl) ?_
  refine st_region 1 (opsOf (C4 [1, 0])) [0, 1] (by kernel_rfl) (by kernel_rfl) ?_
  obtain ⟨t2, h3, H⟩ := Option.bind_eq_some_iff.1 H
  refine st_call hk 5 [] (some 15) enters5 (by kernel_rfl) (scullerylaw07_awake.ok K   t2 h3 w (hg.of ho)) ?_
  clear hk; rintro a u w ⟨rfl, ho'⟩ hk
  replace ho : Ows [] w0 w [.blk b1 (.cells #[I p2_0, I p2_1] 22 (0, 0))] := ho.call ho'; clear ho'
  refine st_pure tabOK hk [1] [] [0, 1, 5, 7] [(0, S p0), (1, S p1), (5, .pointer (some ⟨b1, 0, none⟩)), (7, .bool t2)] (True) (by kernel_rfl) trivial ?_
  clear hk; intro a hk
  refine st_done ?_
  refine st_seq (C4 [1, 1, 0]) (C4 [1, 1, 1]) (by kernel_rfl) ?_
  refine st_seq (C4 [1, 1, 0, 0]) (C4 [1, 1, 0, 1]) (by kernel_rfl) ?_
  refine st_region 2 (opsOf (C4 [1, 1, 0, 0])) [0, 1, 2, 3, 4, 5, 6, 7, 8, 9, 10, 11, 12, 13, 14, 15, 16, 17] (by kernel_rfl) (by kernel_rfl) ?_
  refine st_pure tabOK hk [0, 1, 2, 3] [4, 5, 6, 7, 8, 9, 10, 11, 12, 13, 14, 15, 16, 17] [0, 1, 5, 7, 19] [(0, S p0), (1, S p1), (5, .pointer (some ⟨b1, 0, none⟩)), (7, .bool t2), (19, .bool (decide ((p0.length : Int) > 500)))] (True) (by kernel_rfl) trivial ?_
  clear hk; intro a hk
  refine cut_ops (fun a w => Kn 94 a [(0, S p0), (1, S p1), (5, .pointer (some ⟨b1, 0, none⟩)), (7, .bool t2), (33, .bool ((decide ((p0.length : Int) > 500)) || ((decide ((p1.length : Int) > 500)) || ((decide (p2_0 < 1)) || (decide (p2_1 < 1))))))] ∧ Ows [] w0 w [.blk b1 (.cells #[I p2_0, I p2_1] 22 (0, 0))]) ?_ ?_
  · intro J
    rcases Bool.eq_false_or_eq_true (decide ((p0.length : Int) > 500)) with h4 | h4
    ·
      rw [h4] at hk
      have h5 : (p0.length : Int) > 500 := of_decide_eq_true h4
      refine st_pure tabOK hk [4, 5, 6, 7, 8, 9, 10, 11, 12, 13, 14, 15, 16, 17] [] [0, 1, 5, 7, 33] [(0, S p0), (1, S p1), (5, .pointer (some ⟨b1, 0, none⟩)), (7, .bool t2), (33, .bool true)] (True) (by kernel_rfl) trivial ?_
      clear hk; intro a hk
      refine st_done ?_
      have e : ((decide ((p0.length : Int) > 500)) || ((decide ((p1.length : Int) > 500)) || ((decide (p2_0 < 1)) || (decide (p2_1 < 1))))) = true := by first | (simp only [h4]; done) | (simp only [h4]; rfl) | rfl | simp [h4]
      exact J a w ⟨by rw [e]; exact hk.to [0, 1, 5, 7, 33] _ (by kernel_rfl), ho⟩
    ·
      rw [h4] at hk
      have h6 : ¬ ((p0.length : Int) > 500) := of_decide_eq_false h4
      refine st_pure tabOK hk [4, 5, 6, 7, 8] [9, 10, 11, 12, 13, 14, 15, 16, 17] [0, 1, 5, 7, 24] [(0, S p0), (1, S p1), (5, .pointer (some ⟨b1, 0, none⟩)), (7, .bool t2), (24, .bool (decide ((p1.length : Int) > 500)))] (True) (by kernel_rfl) trivial ?_
      clear hk; intro a hk
      rcases Bool.eq_false_or_eq_true (decide ((p1.length : Int) > 500)) with h7 | h7
      ·
        rw [h7] at hk
        have h8 : (p1.length : Int) > 500 := of_decide_eq_true h7
        refine st_pure tabOK hk [9, 10, 11, 12, 13, 14, 15, 16, 17] [] [0, 1, 5, 7, 33] [(0, S p0), (1, S p1), (5, .pointer (some ⟨b1, 0, none⟩)), (7, .bool t2), (33, .bool true)] (True) (by kernel_rfl) trivial ?_
        clear hk; intro a hk
        refine st_done ?_
        have e : ((decide ((p0.length : Int) > 500)) || ((decide ((p1.length : Int) > 500)) || ((decide (p2_0 < 1)) || (decide (p2_1 < 1))))) = true := by first | (simp only [h4, h7]; done) | (simp only [h4, h7]; rfl) | rfl | simp [h4, h7]
        exact J a w ⟨by rw [e]; exact hk.to [0, 1, 5, 7, 33] _ (by kernel_rfl), ho⟩
      ·
        rw [h7] at hk
        have h9 : ¬ ((p1.length : Int) > 500) := of_decide_eq_false h7
        refine st_pure tabOK hk [9] [10, 11, 12, 13, 14, 15, 16, 17] [0, 1, 5, 7, 24, 25] [(0, S p0), (1, S p1), (5, .pointer (some ⟨b1, 0, none⟩)), (7, .bool t2), (24, .bool false), (25, .pointer (some ⟨b1, 0, none⟩))] (((0 : Int) ≤ 0 ∧ (0 : Int) < 2) ∧ True) (by kernel_rfl) ⟨(by decide), trivial⟩ ?_
        clear hk; intro a hk
        refine st_load1 tabOK hk 3 (some ⟨b1, 0, none⟩) 26 (by kernel_rfl) (by kernel_rfl) (I p2_0) (ho.cell 0 rfl rfl) ?_
        clear hk; intro a hk
        refine st_pure tabOK hk [11, 12, 13] [14, 15, 16, 17] [0, 1, 5, 7, 29] [(0, S p0), (1, S p1), (5, .pointer (some ⟨b1, 0, none⟩)), (7, .bool t2), (29, .bool (decide (p2_0 < 1)))] (True) (by kernel_rfl) trivial ?_
        clear hk; intro a hk
        rcases Bool.eq_false_or_eq_true (decide (p2_0 < 1)) with h10 | h10
        ·
          rw [h10] at hk
          have h11 : p2_0 < 1 := of_decide_eq_true h10
          refine st_pure tabOK hk [14, 15, 16, 17] [] [0, 1, 5, 7, 33] [(0, S p0), (1, S p1), (5, .pointer (some ⟨b1, 0, none⟩)), (7, .bool t2), (33, .bool true)] (True) (by kernel_rfl) trivial ?_
          clear hk; intro a hk
          refine st_done ?_
          have e : ((decide ((p0.length : Int) > 500)) || ((decide ((p1.length : Int) > 500)) || ((decide (p2_0 < 1)) || (decide (p2_1 < 1))))) = true := by first | (simp only [h4, h7, h10]; done) | (simp only [h4, h7, h10]; rfl) | rfl | simp [h4, h7, h10]
          exact J a w ⟨by rw [e]; exact hk.to [0, 1, 5, 7, 33] _ (by kernel_rfl), ho⟩
        ·
          rw [h10] at hk
          have h12 : ¬ (p2_0 < 1) := of_decide_eq_false h10
          refine st_pure tabOK hk [14] [15, 16, 17] [0, 1, 5, 7, 29, 30] [(0, S p0), (1, S p1), (5, .pointer (some ⟨b1, 0, none⟩)), (7, .bool t2), (29, .bool false), (30, .pointer (some ⟨b1, 1, none⟩))] (((0 : Int) ≤ 1 ∧ (1 : Int) < 2) ∧ True) (by kernel_rfl) ⟨(by decide), trivial⟩ ?_
          clear hk; intro a hk
          refine st_load1 tabOK hk 3 (some ⟨b1, 1, none⟩) 31 (by kernel_rfl) (by kernel_rfl) (I p2_1) (ho.cell 0 rfl rfl) ?_
          clear hk; intro a hk
          refine st_pure tabOK hk [16, 17] [] [0, 1, 5, 7, 33] [(0, S p0), (1, S p1), (5, .pointer (some ⟨b1, 0, none⟩)), (7, .bool t2), (33, .bool (decide (p2_1 < 1)))] (True) (by kernel_rfl) trivial ?_
          clear hk; intro a hk
          refine st_done ?_
          have e : ((decide ((p0.length : Int) > 500)) || ((decide ((p1.length : Int) > 500)) || ((decide (p2_0 < 1)) || (decide (p2_1 < 1))))) = (decide (p2_1 < 1)) := by first | (simp only [h4, h7, h10]; done) | (simp only [h4, h7, h10]; rfl) | rfl | simp [h4, h7, h10]
          exact J a w ⟨by rw [e]; exact hk.to [0, 1, 5, 7, 33] _ (by kernel_rfl), ho⟩
  · rintro a w ⟨hk, ho⟩
    refine st_cond hk (C4 [1, 1, 0, 1, 0]) (C4 [1, 1, 0, 1, 1]) (.tmp 33) (((decide ((p0.length : Int) > 500)) || ((decide ((p1.length : Int) > 500)) || ((decide (p2_0 < 1)) || (decide (p2_1 < 1)))))) (by kernel_rfl) (by kernel_rfl) (fun h13 => ?_) (fun h13 => ?_)
    ·
      have h14 : ((decide ((p0.length : Int) > 500)) || ((decide ((p1.length : Int) > 500)) || ((decide (p2_0 < 1)) || (decide (p2_1 < 1))))) = true := h13
      rw [if_pos h14] at H
      refine st_seq (C4 [1, 1, 0, 1, 0, 0]) (C4 [1, 1, 0, 1, 0, 1]) (by kernel_rfl) ?_
      refine st_region 3 (opsOf (C4 [1, 1, 0, 1, 0, 0])) [0, 1] (by kernel_rfl) (by kernel_rfl) ?_
      refine st_pure tabOK hk [0, 1] [] [6] [(6, .bool t2)] (True) (by kernel_rfl) trivial ?_
      clear hk; intro a hk
      refine st_done ?_
      replace ho : Ows [] w0 w [] := ho.erase 0
      refine st_retG hk (by kernel_rfl) [.bool t2] #[.tmp 6] (by kernel_rfl) ⟨resT hk (by kernel_rfl), trivial⟩ ?_
      obtain rfl := Option.some.inj H
      exact ⟨_, rfl, rfl, ho⟩
    ·
      have h15 : ¬ (((decide ((p0.length : Int) > 500)) || ((decide ((p1.length : Int) > 500)) || ((decide (p2_0 < 1)) || (decide (p2_1 < 1))))) = true) := ne_true_of_eq_false h13
      rw [if_neg h15] at H
      refine st_skip (by kernel_rfl) ?_
      refine st_seq (C4 [1, 1, 1, 0]) (C4 [1, 1, 1, 1]) (by kernel_rfl) ?_
      refine st_region 4 (opsOf (C4 [1, 1, 1, 0])) [0, 1, 2, 3, 4, 5, 6, 7, 8] (by kernel_rfl) (by kernel_rfl) ?_
      refine st_pure tabOK hk [0, 1] [2, 3, 4, 5, 6, 7, 8] [0, 1, 5, 7, 36, 37] [(0, S p0), (1, S p1), (5, .pointer (some ⟨b1, 0, none⟩)), (7, .bool t2), (36, S p0), (37, .pointer (some ⟨b1, 0, none⟩))] (((0 : Int) ≤ 0 ∧ (0 : Int) < 2) ∧ True) (by kernel_rfl) ⟨(by decide), trivial⟩ ?_
      clear hk; intro a hk
      refine st_load1 tabOK hk 3 (some ⟨b1, 0, none⟩) 38 (by kernel_rfl) (by kernel_rfl) (I p2_0) (ho.cell 0 rfl rfl) ?_
      clear hk; intro a hk
      obtain ⟨t16, h17, H⟩ := Option.bind_eq_some_iff.1 H
      refine st_call hk 6 [S p0, I p2_0] (some 39) enters6 (by kernel_rfl) (chunk_Encode.ok K  p0 p2_0 t16 h17 w (hg.of ho)) ?_
      clear hk; rintro a u w ⟨rfl, ho'⟩ hk
      replace ho : Ows [] w0 w [.blk b1 (.cells #[I p2_0, I p2_1] 22 (0, 0))] := ho.call ho'; clear ho'
      refine st_pure tabOK hk [4, 5, 6, 7, 8] [] [0, 1, 5, 7, 8, 9] [(0, S p0), (1, S p1), (5, .pointer (some ⟨b1, 0, none⟩)), (7, .bool t2), (8, S t16.1), (9, I t16.2)] (True) (by kernel_rfl) trivial ?_
      clear hk; intro a hk
      refine st_done ?_
      refine st_seq (C4 [1, 1, 1, 1, 0]) (C4 [1, 1, 1, 1, 1]) (by kernel_rfl) ?_
      refine st_region 5 (opsOf (C4 [1, 1, 1, 1, 0])) [0, 1, 2, 3, 4, 5, 6, 7, 8] (by kernel_rfl) (by kernel_rfl) ?_
      refine st_pure tabOK hk [0, 1] [2, 3, 4, 5, 6, 7, 8] [0, 1, 7, 8, 9, 43, 44] [(0, S p0), (1, S p1), (7, .bool t2), (8, S t16.1), (9, I t16.2), (43, S p1), (44, .pointer (some ⟨b1, 1, none⟩))] (((0 : Int) ≤ 1 ∧ (1 : Int) < 2) ∧ True) (by kernel_rfl) ⟨(by decide), trivial⟩ ?_
      clear hk; intro a hk
      refine st_load1 tabOK hk 3 (some ⟨b1, 1, none⟩) 45 (by kernel_rfl) (by kernel_rfl) (I p2_1) (ho.cell 0 rfl rfl) ?_
      clear hk; intro a hk
      obtain ⟨t18, h19, H⟩ := Option.bind_eq_some_iff.1 H
      refine st_call hk 6 [S p1, I p2_1] (some 46) enters6 (by kernel_rfl) (chunk_Encode.ok K  p1 p2_1 t18 h19 w (hg.of ho)) ?_
      clear hk; rintro a u w ⟨rfl, ho'⟩ hk
      replace ho : Ows [] w0 w [.blk b1 (.cells #[I p2_0, I p2_1] 22 (0, 0))] := ho.call ho'; clear ho'
      refine st_pure tabOK hk [4, 5, 6, 7, 8] [] [0, 1, 7, 8, 9, 10, 11] [(0, S p0), (1, S p1), (7, .bool t2), (8, S t16.1), (9, I t16.2), (10, S t18.1), (11, I t18.2)] (True) (by kernel_rfl) trivial ?_
      clear hk; intro a hk
      refine st_done ?_
      refine st_seq (C4 [1, 1, 1, 1, 1, 0]) (C4 [1, 1, 1, 1, 1, 1]) (by kernel_rfl) ?_
      refine st_seq (C4 [1, 1, 1, 1, 1, 0, 0]) (C4 [1, 1, 1, 1, 1, 0, 1]) (by kernel_rfl) ?_
      refine st_region 6 (opsOf (C4 [1, 1, 1, 1, 1, 0, 0])) [0, 1, 2, 3, 4, 5, 6, 7, 8, 9, 10] (by kernel_rfl) (by kernel_rfl) ?_
      refine st_pure tabOK hk [0, 1, 2] [3, 4, 5, 6, 7, 8, 9, 10] [0, 1, 7, 8, 10, 11, 51] [(0, S p0), (1, S p1), (7, .bool t2), (8, S t16.1), (10, S t18.1), (11, I t18.2), (51, .bool (t16.2 != 0))] (True) (by kernel_rfl) trivial ?_
      clear hk; intro a hk
      refine cut_ops (fun a w => Kn 94 a [(0, S p0), (1, S p1), (7, .bool t2), (8, S t16.1), (10, S t18.1), (59, .bool ((t16.2 != 0) || ((t18.2 != 0) || (decide ((t16.1.length : Int) < 5)))))] ∧ Ows [] w0 w [.blk b1 (.cells #[I p2_0, I p2_1] 22 (0, 0))]) ?_ ?_
      · intro J
        rcases Bool.eq_false_or_eq_true (t16.2 != 0) with h20 | h20
        ·
          rw [h20] at hk
          have h21 : (t16.2 != 0) = true := h20
          refine st_pure tabOK hk [3, 4, 5, 6, 7, 8, 9, 10] [] [0, 1, 7, 8, 10, 59] [(0, S p0), (1, S p1), (7, .bool t2), (8, S t16.1), (10, S t18.1), (59, .bool true)] (True) (by kernel_rfl) trivial ?_
          clear hk; intro a hk
          refine st_done ?_
          have e : ((t16.2 != 0) || ((t18.2 != 0) || (decide ((t16.1.length : Int) < 5)))) = true := by first | (simp only [h20]; done) | (simp only [h20]; rfl) | rfl | simp [h20]
          exact J a w ⟨by rw [e]; exact hk.to [0, 1, 7, 8, 10, 59] _ (by kernel_rfl), ho⟩
        ·
          rw [h20] at hk
          have h22 : ¬ ((t16.2 != 0) = true) := ne_true_of_eq_false h20
          refine st_pure tabOK hk [3, 4, 5, 6] [7, 8, 9, 10] [0, 1, 7, 8, 10, 55] [(0, S p0), (1, S p1), (7, .bool t2), (8, S t16.1), (10, S t18.1), (55, .bool (t18.2 != 0))] (True) (by kernel_rfl) trivial ?_
          clear hk; intro a hk
          rcases Bool.eq_false_or_eq_true (t18.2 != 0) with h23 | h23
          ·
            rw [h23] at hk
            have h24 : (t18.2 != 0) = true := h23
            refine st_pure tabOK hk [7, 8, 9, 10] [] [0, 1, 7, 8, 10, 59] [(0, S p0), (1, S p1), (7, .bool t2), (8, S t16.1), (10, S t18.1), (59, .bool true)] (True) (by kernel_rfl) trivial ?_
            clear hk; intro a hk
            refine st_done ?_
            have e : ((t16.2 != 0) || ((t18.2 != 0) || (decide ((t16.1.length : Int) < 5)))) = true := by first | (simp only [h20, h23]; done) | (simp only [h20, h23]; rfl) | rfl | simp [h20, h23]
            exact J a w ⟨by rw [e]; exact hk.to [0, 1, 7, 8, 10, 59] _ (by kernel_rfl), ho⟩
          ·
            rw [h23] at hk
            have h25 : ¬ ((t18.2 != 0) = true) := ne_true_of_eq_false h23
            refine st_pure tabOK hk [7, 8, 9, 10] [] [0, 1, 7, 8, 10, 59] [(0, S p0), (1, S p1), (7, .bool t2), (8, S t16.1), (10, S t18.1), (59, .bool (decide ((t16.1.length : Int) < 5)))] (True) (by kernel_rfl) trivial ?_
            clear hk; intro a hk
            refine st_done ?_
            have e : ((t16.2 != 0) || ((t18.2 != 0) || (decide ((t16.1.length : Int) < 5)))) = (decide ((t16.1.length : Int) < 5)) := by first | (simp only [h20, h23]; done) | (simp only [h20, h23]; rfl) | rfl | simp [h20, h23]
            exact J a w ⟨by rw [e]; exact hk.to [0, 1, 7, 8, 10, 59] _ (by kernel_rfl), ho⟩
      · rintro a w ⟨hk, ho⟩
        refine st_cond hk (C4 [1, 1, 1, 1, 1, 0, 1, 0]) (C4 [1, 1, 1, 1, 1, 0, 1, 1]) (.tmp 59) (((t16.2 != 0) || ((t18.2 != 0) || (decide ((t16.1.length : Int) < 5))))) (by kernel_rfl) (by kernel_rfl) (fun h26 => ?_) (fun h26 => ?_)
        ·
          have h27 : ((t16.2 != 0) || ((t18.2 != 0) || (decide ((t16.1.length : Int) < 5)))) = true := h26
          rw [if_pos h27] at H
          refine st_seq (C4 [1, 1, 1, 1, 1, 0, 1, 0, 0]) (C4 [1, 1, 1, 1, 1, 0, 1, 0, 1]) (by kernel_rfl) ?_
          refine st_region 7 (opsOf (C4 [1, 1, 1, 1, 1, 0, 1, 0, 0])) [0] (by kernel_rfl) (by kernel_rfl) ?_
          refine st_pure tabOK hk [0] [] [6] [(6, .bool false)] (True) (by kernel_rfl) trivial ?_
          clear hk; intro a hk
          refine st_done ?_
          replace ho : Ows [] w0 w [] := ho.erase 0
          refine st_retG hk (by kernel_rfl) [.bool false] #[.tmp 6] (by kernel_rfl) ⟨resT hk (by kernel_rfl), trivial⟩ ?_
          obtain rfl := Option.some.inj H
          exact ⟨_, rfl, rfl, ho⟩
        ·
          have h28 : ¬ (((t16.2 != 0) || ((t18.2 != 0) || (decide ((t16.1.length : Int) < 5)))) = true) := ne_true_of_eq_false h26
          rw [if_neg h28] at H
          refine st_skip (by kernel_rfl) ?_
          refine st_seq (C4 [1, 1, 1, 1, 1, 1, 0]) (C4 [1, 1, 1, 1, 1, 1, 1]) (by kernel_rfl) ?_
          refine st_region 8 (opsOf (C4 [1, 1, 1, 1, 1, 1, 0])) [0, 1, 2, 3, 4, 5, 6, 7, 8, 9, 10, 11, 12, 13, 14] (by kernel_rfl) (by kernel_rfl) ?_
          have h29 : (0 : Int) ≤ w64 ((t16.1.length : Int) - 5) := by
            by_cases h29 : (0 : Int) ≤ w64 ((t16.1.length : Int) - 5)
            · exact h29
            · rw [if_neg h29] at H; cases H
          rw [if_pos h29] at H
          have h30 : w64 ((t16.1.length : Int) - 5) ≤ (t16.1.length : Int) := by
            by_cases h30 : w64 ((t16.1.length : Int) - 5) ≤ (t16.1.length : Int)
            · exact h30
            · rw [if_neg h30] at H; cases H
          rw [if_pos h30] at H
          have h31 : (t16.1.take (w64 ((t16.1.length : Int) - 5)).toNat).length + t18.1.length ≤ maxI := by
            by_cases h31 : (t16.1.take (w64 ((t16.1.length : Int) - 5)).toNat).length + t18.1.length ≤ maxI
            · exact h31
            · rw [if_neg h31] at H; cases H
          rw [if_pos h31] at H
          refine st_pure tabOK hk [0, 1, 2, 3, 4, 5, 6] [7, 8, 9, 10, 11, 12, 13, 14] [0, 1, 7, 8, 10, 67] [(0, S p0), (1, S p1), (7, .bool t2), (8, S t16.1), (10, S t18.1), (67, S ((t16.1.take (w64 ((t16.1.length : Int) - 5)).toNat) ++ t18.1))] (((0 : Int) ≤ w64 ((t16.1.length : Int) - 5) ∧ w64 ((t16.1.length : Int) - 5) ≤ (t16.1.length : Int)) ∧ ((t16.1.take (w64 ((t16.1.length : Int) - 5)).toNat).length + t18.1.length ≤ maxI ∧ True)) (by kernel_rfl) ⟨⟨h29, h30⟩, ⟨h31, trivial⟩⟩ ?_
          clear hk; intro a hk
          obtain ⟨t32, h33, H⟩ := Option.bind_eq_some_iff.1 H
          refine st_call hk 7 [S ((t16.1.take (w64 ((t16.1.length : Int) - 5)).toNat) ++ t18.1)] (some 68) enters7 (by kernel_rfl) (chunk_Decode.ok K  ((t16.1.take (w64 ((t16.1.length : Int) - 5)).toNat) ++ t18.1) t32 h33 w (hg.of ho)) ?_
          clear hk; rintro a u w ⟨rfl, ho'⟩ hk
          replace ho : Ows [] w0 w [.blk b1 (.cells #[I p2_0, I p2_1] 22 (0, 0))] := ho.call ho'; clear ho'
          refine st_pure tabOK hk [8, 9, 10, 11, 12, 13, 14] [] [0, 1, 7, 8, 10, 12, 13, 14] [(0, S p0), (1, S p1), (7, .bool t2), (8, S t16.1), (10, S t18.1), (12, S t32.1), (13, I t32.2.1), (14, I t32.2.2)] (True) (by kernel_rfl) trivial ?_
          clear hk; intro a hk
          refine st_done ?_
          refine st_seq (C4 [1, 1, 1, 1, 1, 1, 1, 0]) (C4 [1, 1, 1, 1, 1, 1, 1, 1]) (by kernel_rfl) ?_
          refine st_region 9 (opsOf (C4 [1, 1, 1, 1, 1, 1, 1, 0])) [0, 1, 2, 3, 4, 5, 6, 7, 8, 9, 10, 11, 12, 13, 14, 15, 16, 17, 18, 19, 20, 21, 22] (by kernel_rfl) (by kernel_rfl) ?_
          refine st_pure tabOK hk [0, 1] [2, 3, 4, 5, 6, 7, 8, 9, 10, 11, 12, 13, 14, 15, 16, 17, 18, 19, 20, 21, 22] [0, 1, 8, 10, 12, 13, 14, 73] [(0, S p0), (1, S p1), (8, S t16.1), (10, S t18.1), (12, S t32.1), (13, I t32.2.1), (14, I t32.2.2), (73, .bool t2)] (True) (by kernel_rfl) trivial ?_
          clear hk; intro a hk
          obtain ⟨m34, HX, H⟩ := Option.bind_eq_some_iff.1 H
          refine cut_ops (fun a w => Kn 94 a [(6, .bool m34)] ∧ Ows [] w0 w []) ?_ ?_
          · intro J; clear H; have H := HX; clear HX
            rcases Bool.eq_false_or_eq_true (t2) with h35 | h35
            ·
              rw [h35] at hk
              have h36 : t2 = true := h35
              rw [if_pos h36] at H
              have h37 : p0.length + p1.length ≤ maxI := by
                by_cases h37 : p0.length + p1.length ≤ maxI
                · exact h37
                · rw [if_neg h37] at H; cases H
              rw [if_pos h37] at H
              refine st_pure tabOK hk [2, 3, 4, 5, 6, 7, 8] [9, 10, 11, 12, 13, 14, 15, 16, 17, 18, 19, 20, 21, 22] [8, 10, 13, 14, 80] [(8, S t16.1), (10, S t18.1), (13, I t32.2.1), (14, I t32.2.2), (80, .bool (t32.1 == (p0 ++ p1)))] (p0.length + p1.length ≤ maxI ∧ True) (by kernel_rfl) ⟨h37, trivial⟩ ?_
              clear hk; intro a hk
              rcases Bool.eq_false_or_eq_true (t32.1 == (p0 ++ p1)) with h38 | h38
              ·
                rw [h38] at hk
                have h39 : (t32.1 == (p0 ++ p1)) = true := h38
                rw [if_pos h39] at H
                refine st_pure tabOK hk [9, 10, 11, 12, 13, 14, 15, 16, 17, 18] [19, 20, 21, 22] [14, 90] [(14, I t32.2.2), (90, .bool (t32.2.1 == (w64 ((w64 ((t16.1.length : Int) + (t18.1.length : Int))) - 5))))] (True) (by kernel_rfl) trivial ?_
                clear hk; intro a hk
                rcases Bool.eq_false_or_eq_true (t32.2.1 == (w64 ((w64 ((t16.1.length : Int) + (t18.1.length : Int))) - 5))) with h40 | h40
                ·
                  rw [h40] at hk
                  have h41 : (t32.2.1 == (w64 ((w64 ((t16.1.length : Int) + (t18.1.length : Int))) - 5))) = true := h40
                  rw [if_pos h41] at H
                  refine st_pure tabOK hk [19, 20, 21, 22] [] [6] [(6, .bool (t32.2.2 == 0))] (True) (by kernel_rfl) trivial ?_
                  clear hk; intro a hk
                  refine st_done ?_
                  replace ho : Ows [] w0 w [] := ho.erase 0
                  obtain rfl := Option.some.inj H
                  exact J a w ⟨hk.to [6] _ (by kernel_rfl), ho⟩
                ·
                  rw [h40] at hk
                  have h42 : ¬ ((t32.2.1 == (w64 ((w64 ((t16.1.length : Int) + (t18.1.length : Int))) - 5))) = true) := ne_true_of_eq_false h40
                  rw [if_neg h42] at H
                  refine st_pure tabOK hk [19, 20, 21, 22] [] [6] [(6, .bool false)] (True) (by kernel_rfl) trivial ?_
                  clear hk; intro a hk
                  refine st_done ?_
                  replace ho : Ows [] w0 w [] := ho.erase 0
                  obtain rfl := Option.some.inj H
                  exact J a w ⟨hk.to [6] _ (by kernel_rfl), ho⟩
              ·
                rw [h38] at hk
                have h43 : ¬ ((t32.1 == (p0 ++ p1)) = true) := ne_true_of_eq_false h38
                rw [if_neg h43] at H
                refine st_pure tabOK hk [9, 10, 11, 12, 13, 14, 15, 16, 17, 18, 19, 20, 21, 22] [] [6] [(6, .bool false)] (True) (by kernel_rfl) trivial ?_
                clear hk; intro a hk
                refine st_done ?_
                replace ho : Ows [] w0 w [] := ho.erase 0
                obtain rfl := Option.some.inj H
                exact J a w ⟨hk.to [6] _ (by kernel_rfl), ho⟩
            ·
              rw [h35] at hk
              have h44 : ¬ (t2 = true) := ne_true_of_eq_false h35
              rw [if_neg h44] at H
              refine st_pure tabOK hk [2, 3, 4, 5, 6, 7, 8, 9, 10, 11, 12, 13, 14, 15, 16, 17, 18, 19, 20, 21, 22] [] [6] [(6, .bool false)] (True) (by kernel_rfl) trivial ?_
              clear hk; intro a hk
              refine st_done ?_
              replace ho : Ows [] w0 w [] := ho.erase 0
              obtain rfl := Option.some.inj H
              exact J a w ⟨hk.to [6] _ (by kernel_rfl), ho⟩
          · clear HX; rintro a w ⟨hk, ho⟩
            refine st_retG hk (by kernel_rfl) [.bool m34] #[.tmp 6] (by kernel_rfl) ⟨resT hk (by kernel_rfl), trivial⟩ ?_
            obtain rfl := Option.some.inj H
            exact ⟨_, rfl, rfl, ho⟩

end Go.Proofs.YtkkmbkelkbhecaaDoor
