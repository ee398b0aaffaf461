/- Go functions as plain functions, and that the machine's calls do what these say. -/
import Derived.Test.YtkkmbkelkbhecaaGreatDoorT
import Derived.Test.YtkkmbkelkbhecaaGreatDoorLay
import Derived.Test.YtkkmbkelkbhecaaGreatDoorHT
import Derived.Test.YtkkmbkelkbhecaaGreatDoorF2
set_option maxRecDepth 100000
set_option linter.unusedVariables false
namespace Go.Proofs.YtkkmbkelkbhecaaGreatDoor
open Go.Ev Go.Proofs.Tryz


/-! scullery/chunk.Decode: function 7 -/
noncomputable def C7 (p : List Nat) : Code := Sub (bodyOf f7) p
def chunk_Decode.l0 (K : Nat) : Nat → Str → List UInt8 → Str → Option ((List UInt8 × Str) ⊕ (Str × Int × Int))
  | 0, _, _, _ => none
  | k + 1, p0, v46, v49 => (((chunk_line.f v49).bind fun t52 => (if (t52.2.2 != 0) = true then some (.inr ([], 0, t52.2.2)) else ((chunk_size.f K t52.1).bind fun t57 => (if (!t57.2) = true then some (.inr ([], 0, 2)) else ((strings_Builder_Len_ps0t.f v46).bind fun t62 => (if w64 (t62.1 + t57.1) > 100000 then some (.inr ([], 0, 4)) else (if (t57.1 == 0) = true then some (.inl (t62.2, t52.2.1)) else (if (t52.2.1.length : Int) < w64 (t57.1 + 2) then some (.inr ([], 0, 3)) else (if (0 : Int) ≤ w64 (t57.1 + 2) then (if w64 (t57.1 + 2) ≤ (t52.2.1.length : Int) then (if (0 : Int) ≤ t57.1 then (if t57.1 ≤ w64 (t57.1 + 2) then (if (!(((t52.2.1.take (w64 (t57.1 + 2)).toNat).drop t57.1.toNat) == ([13, 10]))) = true then some (.inr ([], 0, 2)) else (if t57.1 ≤ (t52.2.1.length : Int) then ((strings_Builder_WriteString_ps0t.f t62.2 (t52.2.1.take t57.1.toNat)).bind fun t84 => chunk_Decode.l0 K k p0 t84.2 (t52.2.1.drop (w64 (t57.1 + 2)).toNat)) else none)) else none) else none) else none) else none))))))))))
def chunk_Decode.f (K : Nat) (p0 : Str) : Option (Str × Int × Int) := (((chunk_line.f p0).bind fun t2 => (if (t2.2.2 != 0) = true then some ([], 0, t2.2.2) else ((chunk_size.f K t2.1).bind fun t7 => (if (!t7.2) = true then some ([], 0, 2) else ((strings_Builder_Len_pnsn.f ).bind fun t12 => (if w64 (t12 + t7.1) > 100000 then some ([], 0, 4) else (if (t7.1 == 0) = true then ((head_Parse.f K t2.2.1).bind fun t19 => (if (t19.2.2 != 0) = true then some ([], 0, t19.2.2) else ((strings_Builder_String_pnsn.f ).bind fun t27 => some (t27, w64 ((w64 ((p0.length : Int) - (t2.2.1.length : Int))) + t19.2.1), 0)))) else (if (t2.2.1.length : Int) < w64 (t7.1 + 2) then some ([], 0, 3) else (if (0 : Int) ≤ w64 (t7.1 + 2) then (if w64 (t7.1 + 2) ≤ (t2.2.1.length : Int) then (if (0 : Int) ≤ t7.1 then (if t7.1 ≤ w64 (t7.1 + 2) then (if (!(((t2.2.1.take (w64 (t7.1 + 2)).toNat).drop t7.1.toNat) == ([13, 10]))) = true then some ([], 0, 2) else (if t7.1 ≤ (t2.2.1.length : Int) then ((strings_Builder_WriteString_pnsn.f (t2.2.1.take t7.1.toNat)).bind fun t41 => ((chunk_Decode.l0 K K p0 t41.2 (t2.2.1.drop (w64 (t7.1 + 2)).toNat)).bind fun m89 => match m89 with | .inl s91 => (((head_Parse.f K s91.2).bind fun t94 => (if (t94.2.2 != 0) = true then some ([], 0, t94.2.2) else ((strings_Builder_String_ps0t.f s91.1).bind fun t102 => some (t102, w64 ((w64 ((p0.length : Int) - (s91.2.length : Int))) + t94.2.1), 0))))) | .inr r104 => some r104)) else none)) else none) else none) else none) else none))))))))))
abbrev chunk_Decode.post (w0 : World) (r : Str × Int × Int) (u : Value) (w : World) : Prop := u = .tuple #[S r.1, I r.2.1, I r.2.2] ∧ Ows [] w0 w []
theorem chunk_Decode.l0_ok (K : Nat) : ∀ (k : Nat) (p0 : Str) (v46 : List UInt8) (v49 : Str) (out : (List UInt8 × Str) ⊕ (Str × Int × Int)), chunk_Decode.l0 K k p0 v46 v49 = some out → ∀ (b1 : Nat) (o47 : Option Addr) (c48 : Nat) (w0 : World) (hg : Glob w0) (Q : Exit → Act → World → Prop) (rest : List It) (a : Act) (w : World), Kn 80 a [(0, S p0), (5, .pointer (some ⟨b1, 0, none⟩)), (6, S v49)] → Ows [] w0 w [.blk b1 (.cells #[.pointer (some ⟨b1, 0, none⟩), .slice o47 v46.length c48] 32 (0, 0)), .row 1 5 1 (.slice o47 v46.length c48) v46.length (v46.map bV)] → (∀ (s : List UInt8 × Str) (o50 : Option Addr) (c51 : Nat) (a : Act) (w : World), out = .inl s → Kn 80 a [(0, S p0), (5, .pointer (some ⟨b1, 0, none⟩)), (6, S s.2)] → Ows [] w0 w [.blk b1 (.cells #[.pointer (some ⟨b1, 0, none⟩), .slice o50 s.1.length c51] 32 (0, 0)), .row 1 5 1 (.slice o50 s.1.length c51) s.1.length (s.1.map bV)] → G Tryz.prog Q rest a w) → (∀ (r : Str × Int × Int) (a : Act) (w : World), out = .inr r → Kn 80 a [(2, S r.1), (3, I r.2.1), (4, I r.2.2)] → Ows [] w0 w [] → Q .ret a w) → G Tryz.prog Q (.code (C7 [1, 0, 1, 1, 1, 0, 0, 0]) :: .inl (C7 [1, 0, 1, 1, 1, 0, 0, 0]) :: .endb 0 :: rest) a w := by
  intro k
  induction k with
  | zero => intro p0 v46 v49 out H; simp [chunk_Decode.l0] at H
  | succ k ih =>
    intro p0 v46 v49 out H b1 o47 c48 w0 hg Q rest a w  hk ho J R
    simp only [chunk_Decode.l0] at H
    refine st_block 1 (C7 [1, 0, 1, 1, 1, 0, 0, 0, 0]) (by kernel_rfl) ?_
    refine st_seq (C7 [1, 0, 1, 1, 1, 0, 0, 0, 0, 0]) (C7 [1, 0, 1, 1, 1, 0, 0, 0, 0, 1]) (by kernel_rfl) ?_
    refine st_region 3 (opsOf (C7 [1, 0, 1, 1, 1, 0, 0, 0, 0, 0])) [0, 1, 2, 3, 4, 5, 6, 7, 8] (by kernel_rfl) (by kernel_rfl) ?_
    refine st_pure tabOK hk [0] [1, 2, 3, 4, 5, 6, 7, 8] [0, 5, 17] [(0, S p0), (5, .pointer (some ⟨b1, 0, none⟩)), (17, S v49)] (True) (by kernel_rfl) trivial ?_
    clear hk; intro a hk
    obtain ⟨t52, h53, H⟩ := Option.bind_eq_some_iff.1 H
    refine st_call hk 13 [S v49] (some 18) enters13 (by kernel_rfl) (chunk_line.ok  v49 t52 h53 w ) ?_
    clear hk; rintro a u w ⟨rfl, ho'⟩ hk
    replace ho : Ows [] w0 w [.blk b1 (.cells #[.pointer (some ⟨b1, 0, none⟩), .slice o47 v46.length c48] 32 (0, 0)), .row 1 5 1 (.slice o47 v46.length c48) v46.length (v46.map bV)] := ho.call ho'; clear ho'
    refine st_pure tabOK hk [2, 3, 4, 5, 6, 7, 8] [] [0, 5, 7, 8, 9] [(0, S p0), (5, .pointer (some ⟨b1, 0, none⟩)), (7, S t52.1), (8, S t52.2.1), (9, I t52.2.2)] (True) (by kernel_rfl) trivial ?_
    clear hk; intro a hk
    refine st_done ?_
    refine st_seq (C7 [1, 0, 1, 1, 1, 0, 0, 0, 0, 1, 0]) (C7 [1, 0, 1, 1, 1, 0, 0, 0, 0, 1, 1]) (by kernel_rfl) ?_
    refine st_seq (C7 [1, 0, 1, 1, 1, 0, 0, 0, 0, 1, 0, 0]) (C7 [1, 0, 1, 1, 1, 0, 0, 0, 0, 1, 0, 1]) (by kernel_rfl) ?_
    refine st_region 4 (opsOf (C7 [1, 0, 1, 1, 1, 0, 0, 0, 0, 1, 0, 0])) [0, 1] (by kernel_rfl) (by kernel_rfl) ?_
    refine st_pure tabOK hk [0, 1] [] [0, 5, 7, 8, 9, 23] [(0, S p0), (5, .pointer (some ⟨b1, 0, none⟩)), (7, S t52.1), (8, S t52.2.1), (9, I t52.2.2), (23, .bool (t52.2.2 != 0))] (True) (by kernel_rfl) trivial ?_
    clear hk; intro a hk
    refine st_done ?_
    refine st_cond hk (C7 [1, 0, 1, 1, 1, 0, 0, 0, 0, 1, 0, 1, 0]) (C7 [1, 0, 1, 1, 1, 0, 0, 0, 0, 1, 0, 1, 1]) (.tmp 23) (t52.2.2 != 0) (by kernel_rfl) (by kernel_rfl) (fun h54 => ?_) (fun h54 => ?_)
    ·
      have h55 : (t52.2.2 != 0) = true := h54
      rw [if_pos h55] at H
      refine st_seq (C7 [1, 0, 1, 1, 1, 0, 0, 0, 0, 1, 0, 1, 0, 0]) (C7 [1, 0, 1, 1, 1, 0, 0, 0, 0, 1, 0, 1, 0, 1]) (by kernel_rfl) ?_
      refine st_region 5 (opsOf (C7 [1, 0, 1, 1, 1, 0, 0, 0, 0, 1, 0, 1, 0, 0])) [0, 1, 2, 3] (by kernel_rfl) (by kernel_rfl) ?_
      refine st_pure tabOK hk [0, 1, 2, 3] [] [2, 3, 4] [(2, S ([])), (3, I 0), (4, I t52.2.2)] (True) (by kernel_rfl) trivial ?_
      clear hk; intro a hk
      refine st_done ?_
      refine st_ret (by kernel_rfl) ?_
      replace ho : Ows [] w0 w [.row 1 5 1 (.slice o47 v46.length c48) v46.length (v46.map bV)] := ho.erase 0
      replace ho : Ows [] w0 w [] := ho.erase 0
      obtain rfl := Option.some.inj H
      exact R ([], 0, t52.2.2)  a w rfl (hk.to [2, 3, 4] _ (by kernel_rfl)) ho
    ·
      have h56 : ¬ ((t52.2.2 != 0) = true) := ne_true_of_eq_false h54
      rw [if_neg h56] at H
      refine st_skip (by kernel_rfl) ?_
      refine st_seq (C7 [1, 0, 1, 1, 1, 0, 0, 0, 0, 1, 1, 0]) (C7 [1, 0, 1, 1, 1, 0, 0, 0, 0, 1, 1, 1]) (by kernel_rfl) ?_
      refine st_region 6 (opsOf (C7 [1, 0, 1, 1, 1, 0, 0, 0, 0, 1, 1, 0])) [0, 1, 2, 3, 4, 5, 6] (by kernel_rfl) (by kernel_rfl) ?_
      refine st_pure tabOK hk [0] [1, 2, 3, 4, 5, 6] [0, 5, 8, 26] [(0, S p0), (5, .pointer (some ⟨b1, 0, none⟩)), (8, S t52.2.1), (26, S t52.1)] (True) (by kernel_rfl) trivial ?_
      clear hk; intro a hk
      obtain ⟨t57, h58, H⟩ := Option.bind_eq_some_iff.1 H
      refine st_call hk 14 [S t52.1] (some 27) enters14 (by kernel_rfl) (chunk_size.ok K  t52.1 t57 h58 w (hg.of ho)) ?_
      clear hk; rintro a u w ⟨rfl, ho'⟩ hk
      replace ho : Ows [] w0 w [.blk b1 (.cells #[.pointer (some ⟨b1, 0, none⟩), .slice o47 v46.length c48] 32 (0, 0)), .row 1 5 1 (.slice o47 v46.length c48) v46.length (v46.map bV)] := ho.call ho'; clear ho'
      refine st_pure tabOK hk [2, 3, 4, 5, 6] [] [0, 5, 8, 10, 11] [(0, S p0), (5, .pointer (some ⟨b1, 0, none⟩)), (8, S t52.2.1), (10, I t57.1), (11, .bool t57.2)] (True) (by kernel_rfl) trivial ?_
      clear hk; intro a hk
      refine st_done ?_
      refine st_seq (C7 [1, 0, 1, 1, 1, 0, 0, 0, 0, 1, 1, 1, 0]) (C7 [1, 0, 1, 1, 1, 0, 0, 0, 0, 1, 1, 1, 1]) (by kernel_rfl) ?_
      refine st_block 2 (C7 [1, 0, 1, 1, 1, 0, 0, 0, 0, 1, 1, 1, 0, 0]) (by kernel_rfl) ?_
      refine st_seq (C7 [1, 0, 1, 1, 1, 0, 0, 0, 0, 1, 1, 1, 0, 0, 0]) (C7 [1, 0, 1, 1, 1, 0, 0, 0, 0, 1, 1, 1, 0, 0, 1]) (by kernel_rfl) ?_
      refine st_region 7 (opsOf (C7 [1, 0, 1, 1, 1, 0, 0, 0, 0, 1, 1, 1, 0, 0, 0])) [0, 1, 2] (by kernel_rfl) (by kernel_rfl) ?_
      refine st_pure tabOK hk [0, 1, 2] [] [0, 5, 8, 10, 30] [(0, S p0), (5, .pointer (some ⟨b1, 0, none⟩)), (8, S t52.2.1), (10, I t57.1), (30, .bool (!t57.2))] (True) (by kernel_rfl) trivial ?_
      clear hk; intro a hk
      refine st_done ?_
      refine st_cond hk (C7 [1, 0, 1, 1, 1, 0, 0, 0, 0, 1, 1, 1, 0, 0, 1, 0]) (C7 [1, 0, 1, 1, 1, 0, 0, 0, 0, 1, 1, 1, 0, 0, 1, 1]) (.tmp 30) (!t57.2) (by kernel_rfl) (by kernel_rfl) (fun h59 => ?_) (fun h59 => ?_)
      ·
        have h60 : (!t57.2) = true := h59
        rw [if_pos h60] at H
        refine st_seq (C7 [1, 0, 1, 1, 1, 0, 0, 0, 0, 1, 1, 1, 0, 0, 1, 0, 0]) (C7 [1, 0, 1, 1, 1, 0, 0, 0, 0, 1, 1, 1, 0, 0, 1, 0, 1]) (by kernel_rfl) ?_
        refine st_region 8 (opsOf (C7 [1, 0, 1, 1, 1, 0, 0, 0, 0, 1, 1, 1, 0, 0, 1, 0, 0])) [0, 1, 2] (by kernel_rfl) (by kernel_rfl) ?_
        refine st_pure tabOK hk [0, 1, 2] [] [2, 3, 4] [(2, S ([])), (3, I 0), (4, I 2)] (True) (by kernel_rfl) trivial ?_
        clear hk; intro a hk
        refine st_done ?_
        refine st_ret (by kernel_rfl) ?_
        replace ho : Ows [] w0 w [.row 1 5 1 (.slice o47 v46.length c48) v46.length (v46.map bV)] := ho.erase 0
        replace ho : Ows [] w0 w [] := ho.erase 0
        obtain rfl := Option.some.inj H
        exact R ([], 0, 2)  a w rfl (hk.to [2, 3, 4] _ (by kernel_rfl)) ho
      ·
        have h61 : ¬ ((!t57.2) = true) := ne_true_of_eq_false h59
        rw [if_neg h61] at H
        refine st_seq (C7 [1, 0, 1, 1, 1, 0, 0, 0, 0, 1, 1, 1, 0, 0, 1, 1, 0]) (C7 [1, 0, 1, 1, 1, 0, 0, 0, 0, 1, 1, 1, 0, 0, 1, 1, 1]) (by kernel_rfl) ?_
        refine st_region 9 (opsOf (C7 [1, 0, 1, 1, 1, 0, 0, 0, 0, 1, 1, 1, 0, 0, 1, 1, 0])) [0, 1, 2, 3, 4] (by kernel_rfl) (by kernel_rfl) ?_
        obtain ⟨t62, h63, H⟩ := Option.bind_eq_some_iff.1 H
        refine st_call hk 15 [.pointer (some ⟨b1, 0, none⟩)] (some 34) enters15 (by kernel_rfl) (strings_Builder_Len_ps0t.ok  v46 t62 h63 w b1 o47 c48 (Ows.has (K := [.blk b1 (.cells #[.pointer (some ⟨b1, 0, none⟩), .slice o47 v46.length c48] 32 (0, 0)), .row 1 5 1 (.slice o47 v46.length c48) v46.length (v46.map bV)]) (L := []) ho)) ?_
        clear hk; rintro a u w ⟨o64, c65, rfl, ho'⟩ hk
        replace ho : Ows [] w0 w [.blk b1 (.cells #[.pointer (some ⟨b1, 0, none⟩), .slice o64 t62.2.length c65] 32 (0, 0)), .row 1 5 1 (.slice o64 t62.2.length c65) t62.2.length (t62.2.map bV)] := Ows.callP (K := [.blk b1 (.cells #[.pointer (some ⟨b1, 0, none⟩), .slice o47 v46.length c48] 32 (0, 0)), .row 1 5 1 (.slice o47 v46.length c48) v46.length (v46.map bV)]) (L := []) ho ho' rfl; clear ho'
        refine st_pure tabOK hk [1, 2, 3, 4] [] [0, 5, 8, 10, 33] [(0, S p0), (5, .pointer (some ⟨b1, 0, none⟩)), (8, S t52.2.1), (10, I t57.1), (33, .bool (decide (w64 (t62.1 + t57.1) > 100000)))] (True) (by kernel_rfl) trivial ?_
        clear hk; intro a hk
        refine st_done ?_
        refine st_cond hk (C7 [1, 0, 1, 1, 1, 0, 0, 0, 0, 1, 1, 1, 0, 0, 1, 1, 1, 0]) (C7 [1, 0, 1, 1, 1, 0, 0, 0, 0, 1, 1, 1, 0, 0, 1, 1, 1, 1]) (.tmp 33) (decide (w64 (t62.1 + t57.1) > 100000)) (by kernel_rfl) (by kernel_rfl) (fun h67 => ?_) (fun h67 => ?_)
        ·
          have h68 : w64 (t62.1 + t57.1) > 100000 := of_decide_eq_true h67
          rw [if_pos h68] at H
          refine st_seq (C7 [1, 0, 1, 1, 1, 0, 0, 0, 0, 1, 1, 1, 0, 0, 1, 1, 1, 0, 0]) (C7 [1, 0, 1, 1, 1, 0, 0, 0, 0, 1, 1, 1, 0, 0, 1, 1, 1, 0, 1]) (by kernel_rfl) ?_
          refine st_region 10 (opsOf (C7 [1, 0, 1, 1, 1, 0, 0, 0, 0, 1, 1, 1, 0, 0, 1, 1, 1, 0, 0])) [0, 1, 2] (by kernel_rfl) (by kernel_rfl) ?_
          refine st_pure tabOK hk [0, 1, 2] [] [2, 3, 4] [(2, S ([])), (3, I 0), (4, I 4)] (True) (by kernel_rfl) trivial ?_
          clear hk; intro a hk
          refine st_done ?_
          refine st_ret (by kernel_rfl) ?_
          replace ho : Ows [] w0 w [.row 1 5 1 (.slice o64 t62.2.length c65) t62.2.length (t62.2.map bV)] := ho.erase 0
          replace ho : Ows [] w0 w [] := ho.erase 0
          obtain rfl := Option.some.inj H
          exact R ([], 0, 4)  a w rfl (hk.to [2, 3, 4] _ (by kernel_rfl)) ho
        ·
          have h69 : ¬ (w64 (t62.1 + t57.1) > 100000) := of_decide_eq_false h67
          rw [if_neg h69] at H
          refine st_seq (C7 [1, 0, 1, 1, 1, 0, 0, 0, 0, 1, 1, 1, 0, 0, 1, 1, 1, 1, 0]) (C7 [1, 0, 1, 1, 1, 0, 0, 0, 0, 1, 1, 1, 0, 0, 1, 1, 1, 1, 1]) (by kernel_rfl) ?_
          refine st_region 11 (opsOf (C7 [1, 0, 1, 1, 1, 0, 0, 0, 0, 1, 1, 1, 0, 0, 1, 1, 1, 1, 0])) [0, 1, 2] (by kernel_rfl) (by kernel_rfl) ?_
          refine st_pure tabOK hk [0, 1, 2] [] [0, 5, 8, 10, 38] [(0, S p0), (5, .pointer (some ⟨b1, 0, none⟩)), (8, S t52.2.1), (10, I t57.1), (38, .bool (t57.1 == 0))] (True) (by kernel_rfl) trivial ?_
          clear hk; intro a hk
          refine st_done ?_
          refine st_cond hk (C7 [1, 0, 1, 1, 1, 0, 0, 0, 0, 1, 1, 1, 0, 0, 1, 1, 1, 1, 1, 0]) (C7 [1, 0, 1, 1, 1, 0, 0, 0, 0, 1, 1, 1, 0, 0, 1, 1, 1, 1, 1, 1]) (.tmp 38) (t57.1 == 0) (by kernel_rfl) (by kernel_rfl) (fun h70 => ?_) (fun h70 => ?_)
          ·
            have h71 : (t57.1 == 0) = true := h70
            rw [if_pos h71] at H
            refine st_seq (C7 [1, 0, 1, 1, 1, 0, 0, 0, 0, 1, 1, 1, 0, 0, 1, 1, 1, 1, 1, 0, 0]) (C7 [1, 0, 1, 1, 1, 0, 0, 0, 0, 1, 1, 1, 0, 0, 1, 1, 1, 1, 1, 0, 1]) (by kernel_rfl) ?_
            refine st_region 12 (opsOf (C7 [1, 0, 1, 1, 1, 0, 0, 0, 0, 1, 1, 1, 0, 0, 1, 1, 1, 1, 1, 0, 0])) [0, 1] (by kernel_rfl) (by kernel_rfl) ?_
            refine st_pure tabOK hk [0, 1] [] [0, 5, 6] [(0, S p0), (5, .pointer (some ⟨b1, 0, none⟩)), (6, S t52.2.1)] (True) (by kernel_rfl) trivial ?_
            clear hk; intro a hk
            refine st_done ?_
            refine st_exit 0 _ (by kernel_rfl) rfl ?_
            obtain rfl := Option.some.inj H
            exact J (t62.2, t52.2.1) o64 c65 a w rfl (hk.to [0, 5, 6] _ (by kernel_rfl)) ho
          ·
            have h72 : ¬ ((t57.1 == 0) = true) := ne_true_of_eq_false h70
            rw [if_neg h72] at H
            refine st_seq (C7 [1, 0, 1, 1, 1, 0, 0, 0, 0, 1, 1, 1, 0, 0, 1, 1, 1, 1, 1, 1, 0]) (C7 [1, 0, 1, 1, 1, 0, 0, 0, 0, 1, 1, 1, 0, 0, 1, 1, 1, 1, 1, 1, 1]) (by kernel_rfl) ?_
            refine st_region 13 (opsOf (C7 [1, 0, 1, 1, 1, 0, 0, 0, 0, 1, 1, 1, 0, 0, 1, 1, 1, 1, 1, 1, 0])) [0, 1, 2, 3, 4, 5] (by kernel_rfl) (by kernel_rfl) ?_
            refine st_pure tabOK hk [0, 1, 2, 3, 4, 5] [] [0, 5, 8, 10, 42] [(0, S p0), (5, .pointer (some ⟨b1, 0, none⟩)), (8, S t52.2.1), (10, I t57.1), (42, .bool (decide ((t52.2.1.length : Int) < w64 (t57.1 + 2))))] (True) (by kernel_rfl) trivial ?_
            clear hk; intro a hk
            refine st_done ?_
            refine st_cond hk (C7 [1, 0, 1, 1, 1, 0, 0, 0, 0, 1, 1, 1, 0, 0, 1, 1, 1, 1, 1, 1, 1, 0]) (C7 [1, 0, 1, 1, 1, 0, 0, 0, 0, 1, 1, 1, 0, 0, 1, 1, 1, 1, 1, 1, 1, 1]) (.tmp 42) (decide ((t52.2.1.length : Int) < w64 (t57.1 + 2))) (by kernel_rfl) (by kernel_rfl) (fun h73 => ?_) (fun h73 => ?_)
            ·
              have h74 : (t52.2.1.length : Int) < w64 (t57.1 + 2) := of_decide_eq_true h73
              rw [if_pos h74] at H
              refine st_seq (C7 [1, 0, 1, 1, 1, 0, 0, 0, 0, 1, 1, 1, 0, 0, 1, 1, 1, 1, 1, 1, 1, 0, 0]) (C7 [1, 0, 1, 1, 1, 0, 0, 0, 0, 1, 1, 1, 0, 0, 1, 1, 1, 1, 1, 1, 1, 0, 1]) (by kernel_rfl) ?_
              refine st_region 14 (opsOf (C7 [1, 0, 1, 1, 1, 0, 0, 0, 0, 1, 1, 1, 0, 0, 1, 1, 1, 1, 1, 1, 1, 0, 0])) [0, 1, 2] (by kernel_rfl) (by kernel_rfl) ?_
              refine st_pure tabOK hk [0, 1, 2] [] [2, 3, 4] [(2, S ([])), (3, I 0), (4, I 3)] (True) (by kernel_rfl) trivial ?_
              clear hk; intro a hk
              refine st_done ?_
              refine st_ret (by kernel_rfl) ?_
              replace ho : Ows [] w0 w [.row 1 5 1 (.slice o64 t62.2.length c65) t62.2.length (t62.2.map bV)] := ho.erase 0
              replace ho : Ows [] w0 w [] := ho.erase 0
              obtain rfl := Option.some.inj H
              exact R ([], 0, 3)  a w rfl (hk.to [2, 3, 4] _ (by kernel_rfl)) ho
            ·
              have h75 : ¬ ((t52.2.1.length : Int) < w64 (t57.1 + 2)) := of_decide_eq_false h73
              rw [if_neg h75] at H
              refine st_seq (C7 [1, 0, 1, 1, 1, 0, 0, 0, 0, 1, 1, 1, 0, 0, 1, 1, 1, 1, 1, 1, 1, 1, 0]) (C7 [1, 0, 1, 1, 1, 0, 0, 0, 0, 1, 1, 1, 0, 0, 1, 1, 1, 1, 1, 1, 1, 1, 1]) (by kernel_rfl) ?_
              refine st_region 15 (opsOf (C7 [1, 0, 1, 1, 1, 0, 0, 0, 0, 1, 1, 1, 0, 0, 1, 1, 1, 1, 1, 1, 1, 1, 0])) [0, 1, 2, 3, 4, 5, 6] (by kernel_rfl) (by kernel_rfl) ?_
              have h76 : (0 : Int) ≤ w64 (t57.1 + 2) := by
                by_cases h76 : (0 : Int) ≤ w64 (t57.1 + 2)
                · exact h76
                · rw [if_neg h76] at H; cases H
              rw [if_pos h76] at H
              have h77 : w64 (t57.1 + 2) ≤ (t52.2.1.length : Int) := by
                by_cases h77 : w64 (t57.1 + 2) ≤ (t52.2.1.length : Int)
                · exact h77
                · rw [if_neg h77] at H; cases H
              rw [if_pos h77] at H
              have h78 : (0 : Int) ≤ t57.1 := by
                by_cases h78 : (0 : Int) ≤ t57.1
                · exact h78
                · rw [if_neg h78] at H; cases H
              rw [if_pos h78] at H
              have h79 : t57.1 ≤ w64 (t57.1 + 2) := by
                by_cases h79 : t57.1 ≤ w64 (t57.1 + 2)
                · exact h79
                · rw [if_neg h79] at H; cases H
              rw [if_pos h79] at H
              refine st_pure tabOK hk [0, 1, 2, 3, 4, 5, 6] [] [0, 5, 8, 10, 48] [(0, S p0), (5, .pointer (some ⟨b1, 0, none⟩)), (8, S t52.2.1), (10, I t57.1), (48, .bool (!(((t52.2.1.take (w64 (t57.1 + 2)).toNat).drop t57.1.toNat) == ([13, 10]))))] ((((0 : Int) ≤ w64 (t57.1 + 2) ∧ w64 (t57.1 + 2) ≤ (t52.2.1.length : Int)) ∧ ((0 : Int) ≤ t57.1 ∧ t57.1 ≤ w64 (t57.1 + 2))) ∧ True) (by kernel_rfl) ⟨⟨⟨h76, h77⟩, ⟨h78, h79⟩⟩, trivial⟩ ?_
              clear hk; intro a hk
              refine st_done ?_
              refine st_cond hk (C7 [1, 0, 1, 1, 1, 0, 0, 0, 0, 1, 1, 1, 0, 0, 1, 1, 1, 1, 1, 1, 1, 1, 1, 0]) (C7 [1, 0, 1, 1, 1, 0, 0, 0, 0, 1, 1, 1, 0, 0, 1, 1, 1, 1, 1, 1, 1, 1, 1, 1]) (.tmp 48) (!(((t52.2.1.take (w64 (t57.1 + 2)).toNat).drop t57.1.toNat) == ([13, 10]))) (by kernel_rfl) (by kernel_rfl) (fun h80 => ?_) (fun h80 => ?_)
              ·
                have h81 : (!(((t52.2.1.take (w64 (t57.1 + 2)).toNat).drop t57.1.toNat) == ([13, 10]))) = true := h80
                rw [if_pos h81] at H
                refine st_seq (C7 [1, 0, 1, 1, 1, 0, 0, 0, 0, 1, 1, 1, 0, 0, 1, 1, 1, 1, 1, 1, 1, 1, 1, 0, 0]) (C7 [1, 0, 1, 1, 1, 0, 0, 0, 0, 1, 1, 1, 0, 0, 1, 1, 1, 1, 1, 1, 1, 1, 1, 0, 1]) (by kernel_rfl) ?_
                refine st_region 16 (opsOf (C7 [1, 0, 1, 1, 1, 0, 0, 0, 0, 1, 1, 1, 0, 0, 1, 1, 1, 1, 1, 1, 1, 1, 1, 0, 0])) [0, 1, 2] (by kernel_rfl) (by kernel_rfl) ?_
                refine st_pure tabOK hk [0, 1, 2] [] [2, 3, 4] [(2, S ([])), (3, I 0), (4, I 2)] (True) (by kernel_rfl) trivial ?_
                clear hk; intro a hk
                refine st_done ?_
                refine st_ret (by kernel_rfl) ?_
                replace ho : Ows [] w0 w [.row 1 5 1 (.slice o64 t62.2.length c65) t62.2.length (t62.2.map bV)] := ho.erase 0
                replace ho : Ows [] w0 w [] := ho.erase 0
                obtain rfl := Option.some.inj H
                exact R ([], 0, 2)  a w rfl (hk.to [2, 3, 4] _ (by kernel_rfl)) ho
              ·
                have h82 : ¬ ((!(((t52.2.1.take (w64 (t57.1 + 2)).toNat).drop t57.1.toNat) == ([13, 10]))) = true) := ne_true_of_eq_false h80
                rw [if_neg h82] at H
                refine st_skip (by kernel_rfl) ?_
                refine st_endb 2 ?_
                refine st_seq (C7 [1, 0, 1, 1, 1, 0, 0, 0, 0, 1, 1, 1, 1, 0]) (C7 [1, 0, 1, 1, 1, 0, 0, 0, 0, 1, 1, 1, 1, 1]) (by kernel_rfl) ?_
                refine st_region 17 (opsOf (C7 [1, 0, 1, 1, 1, 0, 0, 0, 0, 1, 1, 1, 1, 0])) [0, 1, 2, 3] (by kernel_rfl) (by kernel_rfl) ?_
                have h83 : t57.1 ≤ (t52.2.1.length : Int) := by
                  by_cases h83 : t57.1 ≤ (t52.2.1.length : Int)
                  · exact h83
                  · rw [if_neg h83] at H; cases H
                rw [if_pos h83] at H
                refine st_pure tabOK hk [0, 1, 2] [3] [0, 5, 8, 10, 57] [(0, S p0), (5, .pointer (some ⟨b1, 0, none⟩)), (8, S t52.2.1), (10, I t57.1), (57, S (t52.2.1.take t57.1.toNat))] (((0 : Int) ≤ t57.1 ∧ t57.1 ≤ (t52.2.1.length : Int)) ∧ True) (by kernel_rfl) ⟨⟨h78, h83⟩, trivial⟩ ?_
                clear hk; intro a hk
                obtain ⟨t84, h85, H⟩ := Option.bind_eq_some_iff.1 H
                refine st_call hk 9 [.pointer (some ⟨b1, 0, none⟩), S (t52.2.1.take t57.1.toNat)] (some 58) enters9 (by kernel_rfl) (strings_Builder_WriteString_ps0t.ok  t62.2 (t52.2.1.take t57.1.toNat) t84 h85 w b1 o64 c65 (Ows.has (K := [.blk b1 (.cells #[.pointer (some ⟨b1, 0, none⟩), .slice o64 t62.2.length c65] 32 (0, 0)), .row 1 5 1 (.slice o64 t62.2.length c65) t62.2.length (t62.2.map bV)]) (L := []) ho)) ?_
                clear hk; rintro a u w ⟨o86, c87, rfl, ho'⟩ hk
                replace ho : Ows [] w0 w [.blk b1 (.cells #[.pointer (some ⟨b1, 0, none⟩), .slice o86 t84.2.length c87] 32 (0, 0)), .row 1 5 1 (.slice o86 t84.2.length c87) t84.2.length (t84.2.map bV)] := Ows.callP (K := [.blk b1 (.cells #[.pointer (some ⟨b1, 0, none⟩), .slice o64 t62.2.length c65] 32 (0, 0)), .row 1 5 1 (.slice o64 t62.2.length c65) t62.2.length (t62.2.map bV)]) (L := []) ho ho' rfl; clear ho'
                refine st_done ?_
                refine st_region 18 (opsOf (C7 [1, 0, 1, 1, 1, 0, 0, 0, 0, 1, 1, 1, 1, 1])) [0, 1, 2, 3, 4] (by kernel_rfl) (by kernel_rfl) ?_
                refine st_pure tabOK hk [0, 1, 2, 3, 4] [] [0, 5, 6] [(0, S p0), (5, .pointer (some ⟨b1, 0, none⟩)), (6, S (t52.2.1.drop (w64 (t57.1 + 2)).toNat))] (((0 : Int) ≤ w64 (t57.1 + 2) ∧ w64 (t57.1 + 2) ≤ (t52.2.1.length : Int)) ∧ True) (by kernel_rfl) ⟨⟨h76, h77⟩, trivial⟩ ?_
                clear hk; intro a hk
                refine st_done ?_
                refine st_endb 1 ?_
                refine st_inl ?_
                exact ih p0 t84.2 (t52.2.1.drop (w64 (t57.1 + 2)).toNat) out H b1 o86 c87 w0 hg Q rest a w  (hk.to [0, 5, 6] _ (by kernel_rfl)) ho J R

theorem chunk_Decode.ok (K : Nat) (p0 : Str) (r : Str × Int × Int) (H : chunk_Decode.f K p0 = some r) (w0 : World) (hg : Glob w0) : Calls Tryz.prog 7 ⟨[S p0]⟩ w0 fun e w => ∃ u, e = .returned u ∧ chunk_Decode.post w0 r u w := by
  unfold chunk_Decode.f at H
  refine st_start (N := 80) [S p0] (C7 []) func7 (by kernel_rfl) (by kernel_rfl) (by kernel_rfl) ?_
  intro a w hk ho
  refine st_seq (C7 [0]) (C7 [1]) (by kernel_rfl) ?_
  refine st_region 0 (opsOf (C7 [0])) [0, 1, 2] (by kernel_rfl) (by kernel_rfl) ?_
  refine st_pure tabOK hk [0, 1, 2] [] [0] [(0, S p0)] (True) (by kernel_rfl) trivial ?_
  clear hk; intro a hk
  refine st_done ?_
  refine st_scope (C7 [1, 0]) (by kernel_rfl) ?_
  refine st_seq (C7 [1, 0, 0]) (C7 [1, 0, 1]) (by kernel_rfl) ?_
  refine st_region 1 (opsOf (C7 [1, 0, 0])) [0] (by kernel_rfl) (by kernel_rfl) ?_
  refine st_new tabOK hk ho #[.pointer none, .slice none 0 0] 32 5 (by kernel_rfl) ?_
  clear hk ho; intro a b1 w hk ho
  refine st_done ?_
  refine st_seq (C7 [1, 0, 1, 0]) (C7 [1, 0, 1, 1]) (by kernel_rfl) ?_
  refine st_region 2 (opsOf (C7 [1, 0, 1, 0])) [0, 1] (by kernel_rfl) (by kernel_rfl) ?_
  refine st_pure tabOK hk [0, 1] [] [0, 5, 6] [(0, S p0), (5, .pointer (some ⟨b1, 0, none⟩)), (6, S p0)] (True) (by kernel_rfl) trivial ?_
  clear hk; intro a hk
  refine st_done ?_
  refine st_seq (C7 [1, 0, 1, 1, 0]) (C7 [1, 0, 1, 1, 1]) (by kernel_rfl) ?_
  refine st_label 0 (by kernel_rfl) ?_
  refine st_seq (C7 [1, 0, 1, 1, 1, 0]) (C7 [1, 0, 1, 1, 1, 1]) (by kernel_rfl) ?_
  refine st_block 0 (C7 [1, 0, 1, 1, 1, 0, 0]) (by kernel_rfl) ?_
  refine st_loop (C7 [1, 0, 1, 1, 1, 0, 0, 0]) (by kernel_rfl) ?_
  refine st_block 1 (C7 [1, 0, 1, 1, 1, 0, 0, 0, 0]) (by kernel_rfl) ?_
  refine st_seq (C7 [1, 0, 1, 1, 1, 0, 0, 0, 0, 0]) (C7 [1, 0, 1, 1, 1, 0, 0, 0, 0, 1]) (by kernel_rfl) ?_
  refine st_region 3 (opsOf (C7 [1, 0, 1, 1, 1, 0, 0, 0, 0, 0])) [0, 1, 2, 3, 4, 5, 6, 7, 8] (by kernel_rfl) (by kernel_rfl) ?_
  refine st_pure tabOK hk [0] [1, 2, 3, 4, 5, 6, 7, 8] [0, 5, 17] [(0, S p0), (5, .pointer (some ⟨b1, 0, none⟩)), (17, S p0)] (True) (by kernel_rfl) trivial ?_
  clear hk; intro a hk
  obtain ⟨t2, h3, H⟩ := Option.bind_eq_some_iff.1 H
  refine st_call hk 13 [S p0] (some 18) enters13 (by kernel_rfl) (chunk_line.ok  p0 t2 h3 w ) ?_
  clear hk; rintro a u w ⟨rfl, ho'⟩ hk
  replace ho : Ows [] w0 w [.blk b1 (.cells #[.pointer none, .slice none 0 0] 32 (0, 0))] := ho.call ho'; clear ho'
  refine st_pure tabOK hk [2, 3, 4, 5, 6, 7, 8] [] [0, 5, 7, 8, 9] [(0, S p0), (5, .pointer (some ⟨b1, 0, none⟩)), (7, S t2.1), (8, S t2.2.1), (9, I t2.2.2)] (True) (by kernel_rfl) trivial ?_
  clear hk; intro a hk
  refine st_done ?_
  refine st_seq (C7 [1, 0, 1, 1, 1, 0, 0, 0, 0, 1, 0]) (C7 [1, 0, 1, 1, 1, 0, 0, 0, 0, 1, 1]) (by kernel_rfl) ?_
  refine st_seq (C7 [1, 0, 1, 1, 1, 0, 0, 0, 0, 1, 0, 0]) (C7 [1, 0, 1, 1, 1, 0, 0, 0, 0, 1, 0, 1]) (by kernel_rfl) ?_
  refine st_region 4 (opsOf (C7 [1, 0, 1, 1, 1, 0, 0, 0, 0, 1, 0, 0])) [0, 1] (by kernel_rfl) (by kernel_rfl) ?_
  refine st_pure tabOK hk [0, 1] [] [0, 5, 7, 8, 9, 23] [(0, S p0), (5, .pointer (some ⟨b1, 0, none⟩)), (7, S t2.1), (8, S t2.2.1), (9, I t2.2.2), (23, .bool (t2.2.2 != 0))] (True) (by kernel_rfl) trivial ?_
  clear hk; intro a hk
  refine st_done ?_
  refine st_cond hk (C7 [1, 0, 1, 1, 1, 0, 0, 0, 0, 1, 0, 1, 0]) (C7 [1, 0, 1, 1, 1, 0, 0, 0, 0, 1, 0, 1, 1]) (.tmp 23) (t2.2.2 != 0) (by kernel_rfl) (by kernel_rfl) (fun h4 => ?_) (fun h4 => ?_)
  ·
    have h5 : (t2.2.2 != 0) = true := h4
    rw [if_pos h5] at H
    refine st_seq (C7 [1, 0, 1, 1, 1, 0, 0, 0, 0, 1, 0, 1, 0, 0]) (C7 [1, 0, 1, 1, 1, 0, 0, 0, 0, 1, 0, 1, 0, 1]) (by kernel_rfl) ?_
    refine st_region 5 (opsOf (C7 [1, 0, 1, 1, 1, 0, 0, 0, 0, 1, 0, 1, 0, 0])) [0, 1, 2, 3] (by kernel_rfl) (by kernel_rfl) ?_
    refine st_pure tabOK hk [0, 1, 2, 3] [] [2, 3, 4] [(2, S ([])), (3, I 0), (4, I t2.2.2)] (True) (by kernel_rfl) trivial ?_
    clear hk; intro a hk
    refine st_done ?_
    replace ho : Ows [] w0 w [] := ho.erase 0
    refine st_retG hk (by kernel_rfl) [S ([]), I 0, I t2.2.2] #[.tmp 2, .tmp 3, .tmp 4] (by kernel_rfl) ⟨resT hk (by kernel_rfl), resT hk (by kernel_rfl), resT hk (by kernel_rfl), trivial⟩ ?_
    obtain rfl := Option.some.inj H
    exact ⟨_, rfl, rfl, ho⟩
  ·
    have h6 : ¬ ((t2.2.2 != 0) = true) := ne_true_of_eq_false h4
    rw [if_neg h6] at H
    refine st_skip (by kernel_rfl) ?_
    refine st_seq (C7 [1, 0, 1, 1, 1, 0, 0, 0, 0, 1, 1, 0]) (C7 [1, 0, 1, 1, 1, 0, 0, 0, 0, 1, 1, 1]) (by kernel_rfl) ?_
    refine st_region 6 (opsOf (C7 [1, 0, 1, 1, 1, 0, 0, 0, 0, 1, 1, 0])) [0, 1, 2, 3, 4, 5, 6] (by kernel_rfl) (by kernel_rfl) ?_
    refine st_pure tabOK hk [0] [1, 2, 3, 4, 5, 6] [0, 5, 8, 26] [(0, S p0), (5, .pointer (some ⟨b1, 0, none⟩)), (8, S t2.2.1), (26, S t2.1)] (True) (by kernel_rfl) trivial ?_
    clear hk; intro a hk
    obtain ⟨t7, h8, H⟩ := Option.bind_eq_some_iff.1 H
    refine st_call hk 14 [S t2.1] (some 27) enters14 (by kernel_rfl) (chunk_size.ok K  t2.1 t7 h8 w (hg.of ho)) ?_
    clear hk; rintro a u w ⟨rfl, ho'⟩ hk
    replace ho : Ows [] w0 w [.blk b1 (.cells #[.pointer none, .slice none 0 0] 32 (0, 0))] := ho.call ho'; clear ho'
    refine st_pure tabOK hk [2, 3, 4, 5, 6] [] [0, 5, 8, 10, 11] [(0, S p0), (5, .pointer (some ⟨b1, 0, none⟩)), (8, S t2.2.1), (10, I t7.1), (11, .bool t7.2)] (True) (by kernel_rfl) trivial ?_
    clear hk; intro a hk
    refine st_done ?_
    refine st_seq (C7 [1, 0, 1, 1, 1, 0, 0, 0, 0, 1, 1, 1, 0]) (C7 [1, 0, 1, 1, 1, 0, 0, 0, 0, 1, 1, 1, 1]) (by kernel_rfl) ?_
    refine st_block 2 (C7 [1, 0, 1, 1, 1, 0, 0, 0, 0, 1, 1, 1, 0, 0]) (by kernel_rfl) ?_
    refine st_seq (C7 [1, 0, 1, 1, 1, 0, 0, 0, 0, 1, 1, 1, 0, 0, 0]) (C7 [1, 0, 1, 1, 1, 0, 0, 0, 0, 1, 1, 1, 0, 0, 1]) (by kernel_rfl) ?_
    refine st_region 7 (opsOf (C7 [1, 0, 1, 1, 1, 0, 0, 0, 0, 1, 1, 1, 0, 0, 0])) [0, 1, 2] (by kernel_rfl) (by kernel_rfl) ?_
    refine st_pure tabOK hk [0, 1, 2] [] [0, 5, 8, 10, 30] [(0, S p0), (5, .pointer (some ⟨b1, 0, none⟩)), (8, S t2.2.1), (10, I t7.1), (30, .bool (!t7.2))] (True) (by kernel_rfl) trivial ?_
    clear hk; intro a hk
    refine st_done ?_
    refine st_cond hk (C7 [1, 0, 1, 1, 1, 0, 0, 0, 0, 1, 1, 1, 0, 0, 1, 0]) (C7 [1, 0, 1, 1, 1, 0, 0, 0, 0, 1, 1, 1, 0, 0, 1, 1]) (.tmp 30) (!t7.2) (by kernel_rfl) (by kernel_rfl) (fun h9 => ?_) (fun h9 => ?_)
    ·
      have h10 : (!t7.2) = true := h9
      rw [if_pos h10] at H
      refine st_seq (C7 [1, 0, 1, 1, 1, 0, 0, 0, 0, 1, 1, 1, 0, 0, 1, 0, 0]) (C7 [1, 0, 1, 1, 1, 0, 0, 0, 0, 1, 1, 1, 0, 0, 1, 0, 1]) (by kernel_rfl) ?_
      refine st_region 8 (opsOf (C7 [1, 0, 1, 1, 1, 0, 0, 0, 0, 1, 1, 1, 0, 0, 1, 0, 0])) [0, 1, 2] (by kernel_rfl) (by kernel_rfl) ?_
      refine st_pure tabOK hk [0, 1, 2] [] [2, 3, 4] [(2, S ([])), (3, I 0), (4, I 2)] (True) (by kernel_rfl) trivial ?_
      clear hk; intro a hk
      refine st_done ?_
      replace ho : Ows [] w0 w [] := ho.erase 0
      refine st_retG hk (by kernel_rfl) [S ([]), I 0, I 2] #[.tmp 2, .tmp 3, .tmp 4] (by kernel_rfl) ⟨resT hk (by kernel_rfl), resT hk (by kernel_rfl), resT hk (by kernel_rfl), trivial⟩ ?_
      obtain rfl := Option.some.inj H
      exact ⟨_, rfl, rfl, ho⟩
    ·
      have h11 : ¬ ((!t7.2) = true) := ne_true_of_eq_false h9
      rw [if_neg h11] at H
      refine st_seq (C7 [1, 0, 1, 1, 1, 0, 0, 0, 0, 1, 1, 1, 0, 0, 1, 1, 0]) (C7 [1, 0, 1, 1, 1, 0, 0, 0, 0, 1, 1, 1, 0, 0, 1, 1, 1]) (by kernel_rfl) ?_
      refine st_region 9 (opsOf (C7 [1, 0, 1, 1, 1, 0, 0, 0, 0, 1, 1, 1, 0, 0, 1, 1, 0])) [0, 1, 2, 3, 4] (by kernel_rfl) (by kernel_rfl) ?_
      obtain ⟨t12, h13, H⟩ := Option.bind_eq_some_iff.1 H
      refine st_call hk 15 [.pointer (some ⟨b1, 0, none⟩)] (some 34) enters15 (by kernel_rfl) (strings_Builder_Len_pnsn.ok   t12 h13 w b1 (Ows.has (K := [.blk b1 (.cells #[.pointer none, .slice none 0 0] 32 (0, 0))]) (L := []) ho)) ?_
      clear hk; rintro a u w ⟨rfl, ho'⟩ hk
      replace ho : Ows [] w0 w [.blk b1 (.cells #[.pointer none, .slice none 0 0] 32 (0, 0))] := Ows.callP (K := [.blk b1 (.cells #[.pointer none, .slice none 0 0] 32 (0, 0))]) (L := []) ho ho' rfl; clear ho'
      refine st_pure tabOK hk [1, 2, 3, 4] [] [0, 5, 8, 10, 33] [(0, S p0), (5, .pointer (some ⟨b1, 0, none⟩)), (8, S t2.2.1), (10, I t7.1), (33, .bool (decide (w64 (t12 + t7.1) > 100000)))] (True) (by kernel_rfl) trivial ?_
      clear hk; intro a hk
      refine st_done ?_
      refine st_cond hk (C7 [1, 0, 1, 1, 1, 0, 0, 0, 0, 1, 1, 1, 0, 0, 1, 1, 1, 0]) (C7 [1, 0, 1, 1, 1, 0, 0, 0, 0, 1, 1, 1, 0, 0, 1, 1, 1, 1]) (.tmp 33) (decide (w64 (t12 + t7.1) > 100000)) (by kernel_rfl) (by kernel_rfl) (fun h14 => ?_) (fun h14 => ?_)
      ·
        have h15 : w64 (t12 + t7.1) > 100000 := of_decide_eq_true h14
        rw [if_pos h15] at H
        refine st_seq (C7 [1, 0, 1, 1, 1, 0, 0, 0, 0, 1, 1, 1, 0, 0, 1, 1, 1, 0, 0]) (C7 [1, 0, 1, 1, 1, 0, 0, 0, 0, 1, 1, 1, 0, 0, 1, 1, 1, 0, 1]) (by kernel_rfl) ?_
        refine st_region 10 (opsOf (C7 [1, 0, 1, 1, 1, 0, 0, 0, 0, 1, 1, 1, 0, 0, 1, 1, 1, 0, 0])) [0, 1, 2] (by kernel_rfl) (by kernel_rfl) ?_
        refine st_pure tabOK hk [0, 1, 2] [] [2, 3, 4] [(2, S ([])), (3, I 0), (4, I 4)] (True) (by kernel_rfl) trivial ?_
        clear hk; intro a hk
        refine st_done ?_
        replace ho : Ows [] w0 w [] := ho.erase 0
        refine st_retG hk (by kernel_rfl) [S ([]), I 0, I 4] #[.tmp 2, .tmp 3, .tmp 4] (by kernel_rfl) ⟨resT hk (by kernel_rfl), resT hk (by kernel_rfl), resT hk (by kernel_rfl), trivial⟩ ?_
        obtain rfl := Option.some.inj H
        exact ⟨_, rfl, rfl, ho⟩
      ·
        have h16 : ¬ (w64 (t12 + t7.1) > 100000) := of_decide_eq_false h14
        rw [if_neg h16] at H
        refine st_seq (C7 [1, 0, 1, 1, 1, 0, 0, 0, 0, 1, 1, 1, 0, 0, 1, 1, 1, 1, 0]) (C7 [1, 0, 1, 1, 1, 0, 0, 0, 0, 1, 1, 1, 0, 0, 1, 1, 1, 1, 1]) (by kernel_rfl) ?_
        refine st_region 11 (opsOf (C7 [1, 0, 1, 1, 1, 0, 0, 0, 0, 1, 1, 1, 0, 0, 1, 1, 1, 1, 0])) [0, 1, 2] (by kernel_rfl) (by kernel_rfl) ?_
        refine st_pure tabOK hk [0, 1, 2] [] [0, 5, 8, 10, 38] [(0, S p0), (5, .pointer (some ⟨b1, 0, none⟩)), (8, S t2.2.1), (10, I t7.1), (38, .bool (t7.1 == 0))] (True) (by kernel_rfl) trivial ?_
        clear hk; intro a hk
        refine st_done ?_
        refine st_cond hk (C7 [1, 0, 1, 1, 1, 0, 0, 0, 0, 1, 1, 1, 0, 0, 1, 1, 1, 1, 1, 0]) (C7 [1, 0, 1, 1, 1, 0, 0, 0, 0, 1, 1, 1, 0, 0, 1, 1, 1, 1, 1, 1]) (.tmp 38) (t7.1 == 0) (by kernel_rfl) (by kernel_rfl) (fun h17 => ?_) (fun h17 => ?_)
        ·
          have h18 : (t7.1 == 0) = true := h17
          rw [if_pos h18] at H
          refine st_seq (C7 [1, 0, 1, 1, 1, 0, 0, 0, 0, 1, 1, 1, 0, 0, 1, 1, 1, 1, 1, 0, 0]) (C7 [1, 0, 1, 1, 1, 0, 0, 0, 0, 1, 1, 1, 0, 0, 1, 1, 1, 1, 1, 0, 1]) (by kernel_rfl) ?_
          refine st_region 12 (opsOf (C7 [1, 0, 1, 1, 1, 0, 0, 0, 0, 1, 1, 1, 0, 0, 1, 1, 1, 1, 1, 0, 0])) [0, 1] (by kernel_rfl) (by kernel_rfl) ?_
          refine st_pure tabOK hk [0, 1] [] [0, 5, 6] [(0, S p0), (5, .pointer (some ⟨b1, 0, none⟩)), (6, S t2.2.1)] (True) (by kernel_rfl) trivial ?_
          clear hk; intro a hk
          refine st_done ?_
          refine st_exit 0 _ (by kernel_rfl) rfl ?_
          refine st_seq (C7 [1, 0, 1, 1, 1, 1, 0]) (C7 [1, 0, 1, 1, 1, 1, 1]) (by kernel_rfl) ?_
          refine st_region 19 (opsOf (C7 [1, 0, 1, 1, 1, 1, 0])) [0, 1, 2, 3, 4, 5, 6, 7, 8] (by kernel_rfl) (by kernel_rfl) ?_
          refine st_pure tabOK hk [0] [1, 2, 3, 4, 5, 6, 7, 8] [0, 5, 6, 64] [(0, S p0), (5, .pointer (some ⟨b1, 0, none⟩)), (6, S t2.2.1), (64, S t2.2.1)] (True) (by kernel_rfl) trivial ?_
          clear hk; intro a hk
          obtain ⟨t19, h20, H⟩ := Option.bind_eq_some_iff.1 H
          refine st_call hk 16 [S t2.2.1] (some 65) enters16 (by kernel_rfl) (head_Parse.ok K  t2.2.1 t19 h20 w (hg.of ho)) ?_
          clear hk; rintro a u w ⟨o21, c22, rfl, ho'⟩ hk
          replace ho : Ows [] w0 w [.row 0 60 2 (.slice o21 t19.1.length c22) t19.1.length (t19.1.flatMap encT60), .blk b1 (.cells #[.pointer none, .slice none 0 0] 32 (0, 0))] := ho.call ho'; clear ho'
          refine st_pure tabOK hk [2, 3, 4, 5, 6, 7, 8] [] [0, 5, 6, 13, 14] [(0, S p0), (5, .pointer (some ⟨b1, 0, none⟩)), (6, S t2.2.1), (13, I t19.2.1), (14, I t19.2.2)] (True) (by kernel_rfl) trivial ?_
          clear hk; intro a hk
          refine st_done ?_
          refine st_seq (C7 [1, 0, 1, 1, 1, 1, 1, 0]) (C7 [1, 0, 1, 1, 1, 1, 1, 1]) (by kernel_rfl) ?_
          refine st_seq (C7 [1, 0, 1, 1, 1, 1, 1, 0, 0]) (C7 [1, 0, 1, 1, 1, 1, 1, 0, 1]) (by kernel_rfl) ?_
          refine st_region 20 (opsOf (C7 [1, 0, 1, 1, 1, 1, 1, 0, 0])) [0, 1] (by kernel_rfl) (by kernel_rfl) ?_
          refine st_pure tabOK hk [0, 1] [] [0, 5, 6, 13, 14, 70] [(0, S p0), (5, .pointer (some ⟨b1, 0, none⟩)), (6, S t2.2.1), (13, I t19.2.1), (14, I t19.2.2), (70, .bool (t19.2.2 != 0))] (True) (by kernel_rfl) trivial ?_
          clear hk; intro a hk
          refine st_done ?_
          refine st_cond hk (C7 [1, 0, 1, 1, 1, 1, 1, 0, 1, 0]) (C7 [1, 0, 1, 1, 1, 1, 1, 0, 1, 1]) (.tmp 70) (t19.2.2 != 0) (by kernel_rfl) (by kernel_rfl) (fun h24 => ?_) (fun h24 => ?_)
          ·
            have h25 : (t19.2.2 != 0) = true := h24
            rw [if_pos h25] at H
            refine st_seq (C7 [1, 0, 1, 1, 1, 1, 1, 0, 1, 0, 0]) (C7 [1, 0, 1, 1, 1, 1, 1, 0, 1, 0, 1]) (by kernel_rfl) ?_
            refine st_region 21 (opsOf (C7 [1, 0, 1, 1, 1, 1, 1, 0, 1, 0, 0])) [0, 1, 2, 3] (by kernel_rfl) (by kernel_rfl) ?_
            refine st_pure tabOK hk [0, 1, 2, 3] [] [2, 3, 4] [(2, S ([])), (3, I 0), (4, I t19.2.2)] (True) (by kernel_rfl) trivial ?_
            clear hk; intro a hk
            refine st_done ?_
            replace ho : Ows [] w0 w [.blk b1 (.cells #[.pointer none, .slice none 0 0] 32 (0, 0))] := ho.erase 0
            replace ho : Ows [] w0 w [] := ho.erase 0
            refine st_retG hk (by kernel_rfl) [S ([]), I 0, I t19.2.2] #[.tmp 2, .tmp 3, .tmp 4] (by kernel_rfl) ⟨resT hk (by kernel_rfl), resT hk (by kernel_rfl), resT hk (by kernel_rfl), trivial⟩ ?_
            obtain rfl := Option.some.inj H
            exact ⟨_, rfl, rfl, ho⟩
          ·
            have h26 : ¬ ((t19.2.2 != 0) = true) := ne_true_of_eq_false h24
            rw [if_neg h26] at H
            refine st_skip (by kernel_rfl) ?_
            refine st_seq (C7 [1, 0, 1, 1, 1, 1, 1, 1, 0]) (C7 [1, 0, 1, 1, 1, 1, 1, 1, 1]) (by kernel_rfl) ?_
            refine st_region 22 (opsOf (C7 [1, 0, 1, 1, 1, 1, 1, 1, 0])) [0, 1, 2, 3, 4, 5, 6, 7, 8, 9, 10] (by kernel_rfl) (by kernel_rfl) ?_
            replace ho : Ows [] w0 w [.blk b1 (.cells #[.pointer none, .slice none 0 0] 32 (0, 0)), .row 0 60 2 (.slice o21 t19.1.length c22) t19.1.length (t19.1.flatMap encT60)] := ho.front 1 _ _ rfl rfl
            obtain ⟨t27, h28, H⟩ := Option.bind_eq_some_iff.1 H
            refine st_call hk 11 [.pointer (some ⟨b1, 0, none⟩)] (some 72) enters11 (by kernel_rfl) (strings_Builder_String_pnsn.ok   t27 h28 w b1 (Ows.has (K := [.blk b1 (.cells #[.pointer none, .slice none 0 0] 32 (0, 0))]) (L := [.row 0 60 2 (.slice o21 t19.1.length c22) t19.1.length (t19.1.flatMap encT60)]) ho)) ?_
            clear hk; rintro a u w ⟨rfl, ho'⟩ hk
            replace ho : Ows [] w0 w [.blk b1 (.cells #[.pointer none, .slice none 0 0] 32 (0, 0)), .row 0 60 2 (.slice o21 t19.1.length c22) t19.1.length (t19.1.flatMap encT60)] := Ows.callP (K := [.blk b1 (.cells #[.pointer none, .slice none 0 0] 32 (0, 0))]) (L := [.row 0 60 2 (.slice o21 t19.1.length c22) t19.1.length (t19.1.flatMap encT60)]) ho ho' rfl; clear ho'
            refine st_pure tabOK hk [1, 2, 3, 4, 5, 6, 7, 8, 9, 10] [] [2, 3, 4] [(2, S t27), (3, I (w64 ((w64 ((p0.length : Int) - (t2.2.1.length : Int))) + t19.2.1))), (4, I 0)] (True) (by kernel_rfl) trivial ?_
            clear hk; intro a hk
            refine st_done ?_
            replace ho : Ows [] w0 w [.row 0 60 2 (.slice o21 t19.1.length c22) t19.1.length (t19.1.flatMap encT60)] := ho.erase 0
            replace ho : Ows [] w0 w [] := ho.erase 0
            refine st_retG hk (by kernel_rfl) [S t27, I (w64 ((w64 ((p0.length : Int) - (t2.2.1.length : Int))) + t19.2.1)), I 0] #[.tmp 2, .tmp 3, .tmp 4] (by kernel_rfl) ⟨resT hk (by kernel_rfl), resT hk (by kernel_rfl), resT hk (by kernel_rfl), trivial⟩ ?_
            obtain rfl := Option.some.inj H
            exact ⟨_, rfl, rfl, ho⟩
        ·
          have h29 : ¬ ((t7.1 == 0) = true) := ne_true_of_eq_false h17
          rw [if_neg h29] at H
          refine st_seq (C7 [1, 0, 1, 1, 1, 0, 0, 0, 0, 1, 1, 1, 0, 0, 1, 1, 1, 1, 1, 1, 0]) (C7 [1, 0, 1, 1, 1, 0, 0, 0, 0, 1, 1, 1, 0, 0, 1, 1, 1, 1, 1, 1, 1]) (by kernel_rfl) ?_
          refine st_region 13 (opsOf (C7 [1, 0, 1, 1, 1, 0, 0, 0, 0, 1, 1, 1, 0, 0, 1, 1, 1, 1, 1, 1, 0])) [0, 1, 2, 3, 4, 5] (by kernel_rfl) (by kernel_rfl) ?_
          refine st_pure tabOK hk [0, 1, 2, 3, 4, 5] [] [0, 5, 8, 10, 42] [(0, S p0), (5, .pointer (some ⟨b1, 0, none⟩)), (8, S t2.2.1), (10, I t7.1), (42, .bool (decide ((t2.2.1.length : Int) < w64 (t7.1 + 2))))] (True) (by kernel_rfl) trivial ?_
          clear hk; intro a hk
          refine st_done ?_
          refine st_cond hk (C7 [1, 0, 1, 1, 1, 0, 0, 0, 0, 1, 1, 1, 0, 0, 1, 1, 1, 1, 1, 1, 1, 0]) (C7 [1, 0, 1, 1, 1, 0, 0, 0, 0, 1, 1, 1, 0, 0, 1, 1, 1, 1, 1, 1, 1, 1]) (.tmp 42) (decide ((t2.2.1.length : Int) < w64 (t7.1 + 2))) (by kernel_rfl) (by kernel_rfl) (fun h30 => ?_) (fun h30 => ?_)
          ·
            have h31 : (t2.2.1.length : Int) < w64 (t7.1 + 2) := of_decide_eq_true h30
            rw [if_pos h31] at H
            refine st_seq (C7 [1, 0, 1, 1, 1, 0, 0, 0, 0, 1, 1, 1, 0, 0, 1, 1, 1, 1, 1, 1, 1, 0, 0]) (C7 [1, 0, 1, 1, 1, 0, 0, 0, 0, 1, 1, 1, 0, 0, 1, 1, 1, 1, 1, 1, 1, 0, 1]) (by kernel_rfl) ?_
            refine st_region 14 (opsOf (C7 [1, 0, 1, 1, 1, 0, 0, 0, 0, 1, 1, 1, 0, 0, 1, 1, 1, 1, 1, 1, 1, 0, 0])) [0, 1, 2] (by kernel_rfl) (by kernel_rfl) ?_
            refine st_pure tabOK hk [0, 1, 2] [] [2, 3, 4] [(2, S ([])), (3, I 0), (4, I 3)] (True) (by kernel_rfl) trivial ?_
            clear hk; intro a hk
            refine st_done ?_
            replace ho : Ows [] w0 w [] := ho.erase 0
            refine st_retG hk (by kernel_rfl) [S ([]), I 0, I 3] #[.tmp 2, .tmp 3, .tmp 4] (by kernel_rfl) ⟨resT hk (by kernel_rfl), resT hk (by kernel_rfl), resT hk (by kernel_rfl), trivial⟩ ?_
            obtain rfl := Option.some.inj H
            exact ⟨_, rfl, rfl, ho⟩
          ·
            have h32 : ¬ ((t2.2.1.length : Int) < w64 (t7.1 + 2)) := of_decide_eq_false h30
            rw [if_neg h32] at H
            refine st_seq (C7 [1, 0, 1, 1, 1, 0, 0, 0, 0, 1, 1, 1, 0, 0, 1, 1, 1, 1, 1, 1, 1, 1, 0]) (C7 [1, 0, 1, 1, 1, 0, 0, 0, 0, 1, 1, 1, 0, 0, 1, 1, 1, 1, 1, 1, 1, 1, 1]) (by kernel_rfl) ?_
            refine st_region 15 (opsOf (C7 [1, 0, 1, 1, 1, 0, 0, 0, 0, 1, 1, 1, 0, 0, 1, 1, 1, 1, 1, 1, 1, 1, 0])) [0, 1, 2, 3, 4, 5, 6] (by kernel_rfl) (by kernel_rfl) ?_
            have h33 : (0 : Int) ≤ w64 (t7.1 + 2) := by
              by_cases h33 : (0 : Int) ≤ w64 (t7.1 + 2)
              · exact h33
              · rw [if_neg h33] at H; cases H
            rw [if_pos h33] at H
            have h34 : w64 (t7.1 + 2) ≤ (t2.2.1.length : Int) := by
              by_cases h34 : w64 (t7.1 + 2) ≤ (t2.2.1.length : Int)
              · exact h34
              · rw [if_neg h34] at H; cases H
            rw [if_pos h34] at H
            have h35 : (0 : Int) ≤ t7.1 := by
              by_cases h35 : (0 : Int) ≤ t7.1
              · exact h35
              · rw [if_neg h35] at H; cases H
            rw [if_pos h35] at H
            have h36 : t7.1 ≤ w64 (t7.1 + 2) := by
              by_cases h36 : t7.1 ≤ w64 (t7.1 + 2)
              · exact h36
              · rw [if_neg h36] at H; cases H
            rw [if_pos h36] at H
            refine st_pure tabOK hk [0, 1, 2, 3, 4, 5, 6] [] [0, 5, 8, 10, 48] [(0, S p0), (5, .pointer (some ⟨b1, 0, none⟩)), (8, S t2.2.1), (10, I t7.1), (48, .bool (!(((t2.2.1.take (w64 (t7.1 + 2)).toNat).drop t7.1.toNat) == ([13, 10]))))] ((((0 : Int) ≤ w64 (t7.1 + 2) ∧ w64 (t7.1 + 2) ≤ (t2.2.1.length : Int)) ∧ ((0 : Int) ≤ t7.1 ∧ t7.1 ≤ w64 (t7.1 + 2))) ∧ True) (by kernel_rfl) ⟨⟨⟨h33, h34⟩, ⟨h35, h36⟩⟩, trivial⟩ ?_
            clear hk; intro a hk
            refine st_done ?_
            refine st_cond hk (C7 [1, 0, 1, 1, 1, 0, 0, 0, 0, 1, 1, 1, 0, 0, 1, 1, 1, 1, 1, 1, 1, 1, 1, 0]) (C7 [1, 0, 1, 1, 1, 0, 0, 0, 0, 1, 1, 1, 0, 0, 1, 1, 1, 1, 1, 1, 1, 1, 1, 1]) (.tmp 48) (!(((t2.2.1.take (w64 (t7.1 + 2)).toNat).drop t7.1.toNat) == ([13, 10]))) (by kernel_rfl) (by kernel_rfl) (fun h37 => ?_) (fun h37 => ?_)
            ·
              have h38 : (!(((t2.2.1.take (w64 (t7.1 + 2)).toNat).drop t7.1.toNat) == ([13, 10]))) = true := h37
              rw [if_pos h38] at H
              refine st_seq (C7 [1, 0, 1, 1, 1, 0, 0, 0, 0, 1, 1, 1, 0, 0, 1, 1, 1, 1, 1, 1, 1, 1, 1, 0, 0]) (C7 [1, 0, 1, 1, 1, 0, 0, 0, 0, 1, 1, 1, 0, 0, 1, 1, 1, 1, 1, 1, 1, 1, 1, 0, 1]) (by kernel_rfl) ?_
              refine st_region 16 (opsOf (C7 [1, 0, 1, 1, 1, 0, 0, 0, 0, 1, 1, 1, 0, 0, 1, 1, 1, 1, 1, 1, 1, 1, 1, 0, 0])) [0, 1, 2] (by kernel_rfl) (by kernel_rfl) ?_
              refine st_pure tabOK hk [0, 1, 2] [] [2, 3, 4] [(2, S ([])), (3, I 0), (4, I 2)] (True) (by kernel_rfl) trivial ?_
              clear hk; intro a hk
              refine st_done ?_
              replace ho : Ows [] w0 w [] := ho.erase 0
              refine st_retG hk (by kernel_rfl) [S ([]), I 0, I 2] #[.tmp 2, .tmp 3, .tmp 4] (by kernel_rfl) ⟨resT hk (by kernel_rfl), resT hk (by kernel_rfl), resT hk (by kernel_rfl), trivial⟩ ?_
              obtain rfl := Option.some.inj H
              exact ⟨_, rfl, rfl, ho⟩
            ·
              have h39 : ¬ ((!(((t2.2.1.take (w64 (t7.1 + 2)).toNat).drop t7.1.toNat) == ([13, 10]))) = true) := ne_true_of_eq_false h37
              rw [if_neg h39] at H
              refine st_skip (by kernel_rfl) ?_
              refine st_endb 2 ?_
              refine st_seq (C7 [1, 0, 1, 1, 1, 0, 0, 0, 0, 1, 1, 1, 1, 0]) (C7 [1, 0, 1, 1, 1, 0, 0, 0, 0, 1, 1, 1, 1, 1]) (by kernel_rfl) ?_
              refine st_region 17 (opsOf (C7 [1, 0, 1, 1, 1, 0, 0, 0, 0, 1, 1, 1, 1, 0])) [0, 1, 2, 3] (by kernel_rfl) (by kernel_rfl) ?_
              have h40 : t7.1 ≤ (t2.2.1.length : Int) := by
                by_cases h40 : t7.1 ≤ (t2.2.1.length : Int)
                · exact h40
                · rw [if_neg h40] at H; cases H
              rw [if_pos h40] at H
              refine st_pure tabOK hk [0, 1, 2] [3] [0, 5, 8, 10, 57] [(0, S p0), (5, .pointer (some ⟨b1, 0, none⟩)), (8, S t2.2.1), (10, I t7.1), (57, S (t2.2.1.take t7.1.toNat))] (((0 : Int) ≤ t7.1 ∧ t7.1 ≤ (t2.2.1.length : Int)) ∧ True) (by kernel_rfl) ⟨⟨h35, h40⟩, trivial⟩ ?_
              clear hk; intro a hk
              obtain ⟨t41, h42, H⟩ := Option.bind_eq_some_iff.1 H
              refine st_call hk 9 [.pointer (some ⟨b1, 0, none⟩), S (t2.2.1.take t7.1.toNat)] (some 58) enters9 (by kernel_rfl) (strings_Builder_WriteString_pnsn.ok  (t2.2.1.take t7.1.toNat) t41 h42 w b1 (Ows.has (K := [.blk b1 (.cells #[.pointer none, .slice none 0 0] 32 (0, 0))]) (L := []) ho)) ?_
              clear hk; rintro a u w ⟨o43, c44, rfl, ho'⟩ hk
              replace ho : Ows [] w0 w [.blk b1 (.cells #[.pointer (some ⟨b1, 0, none⟩), .slice o43 t41.2.length c44] 32 (0, 0)), .row 1 5 1 (.slice o43 t41.2.length c44) t41.2.length (t41.2.map bV)] := Ows.callP (K := [.blk b1 (.cells #[.pointer none, .slice none 0 0] 32 (0, 0))]) (L := []) ho ho' rfl; clear ho'
              refine st_done ?_
              refine st_region 18 (opsOf (C7 [1, 0, 1, 1, 1, 0, 0, 0, 0, 1, 1, 1, 1, 1])) [0, 1, 2, 3, 4] (by kernel_rfl) (by kernel_rfl) ?_
              refine st_pure tabOK hk [0, 1, 2, 3, 4] [] [0, 5, 6] [(0, S p0), (5, .pointer (some ⟨b1, 0, none⟩)), (6, S (t2.2.1.drop (w64 (t7.1 + 2)).toNat))] (((0 : Int) ≤ w64 (t7.1 + 2) ∧ w64 (t7.1 + 2) ≤ (t2.2.1.length : Int)) ∧ True) (by kernel_rfl) ⟨⟨h33, h34⟩, trivial⟩ ?_
              clear hk; intro a hk
              refine st_done ?_
              refine st_endb 1 ?_
              obtain ⟨m89, h90, H⟩ := Option.bind_eq_some_iff.1 H
              refine st_inl ?_
              refine chunk_Decode.l0_ok K K p0 t41.2 (t2.2.1.drop (w64 (t7.1 + 2)).toNat) m89 h90 b1 o43 c44 w0 hg _ _ a w  (hk.to [0, 5, 6] _ (by kernel_rfl)) ho ?_ ?_
              · intro s91 o92 c93 a w e hk ho; subst e
                simp only [] at H
                refine st_seq (C7 [1, 0, 1, 1, 1, 1, 0]) (C7 [1, 0, 1, 1, 1, 1, 1]) (by kernel_rfl) ?_
                refine st_region 19 (opsOf (C7 [1, 0, 1, 1, 1, 1, 0])) [0, 1, 2, 3, 4, 5, 6, 7, 8] (by kernel_rfl) (by kernel_rfl) ?_
                refine st_pure tabOK hk [0] [1, 2, 3, 4, 5, 6, 7, 8] [0, 5, 6, 64] [(0, S p0), (5, .pointer (some ⟨b1, 0, none⟩)), (6, S s91.2), (64, S s91.2)] (True) (by kernel_rfl) trivial ?_
                clear hk; intro a hk
                obtain ⟨t94, h95, H⟩ := Option.bind_eq_some_iff.1 H
                refine st_call hk 16 [S s91.2] (some 65) enters16 (by kernel_rfl) (head_Parse.ok K  s91.2 t94 h95 w (hg.of ho)) ?_
                clear hk; rintro a u w ⟨o96, c97, rfl, ho'⟩ hk
                replace ho : Ows [] w0 w [.row 0 60 2 (.slice o96 t94.1.length c97) t94.1.length (t94.1.flatMap encT60), .blk b1 (.cells #[.pointer (some ⟨b1, 0, none⟩), .slice o92 s91.1.length c93] 32 (0, 0)), .row 1 5 1 (.slice o92 s91.1.length c93) s91.1.length (s91.1.map bV)] := ho.call ho'; clear ho'
                refine st_pure tabOK hk [2, 3, 4, 5, 6, 7, 8] [] [0, 5, 6, 13, 14] [(0, S p0), (5, .pointer (some ⟨b1, 0, none⟩)), (6, S s91.2), (13, I t94.2.1), (14, I t94.2.2)] (True) (by kernel_rfl) trivial ?_
                clear hk; intro a hk
                refine st_done ?_
                refine st_seq (C7 [1, 0, 1, 1, 1, 1, 1, 0]) (C7 [1, 0, 1, 1, 1, 1, 1, 1]) (by kernel_rfl) ?_
                refine st_seq (C7 [1, 0, 1, 1, 1, 1, 1, 0, 0]) (C7 [1, 0, 1, 1, 1, 1, 1, 0, 1]) (by kernel_rfl) ?_
                refine st_region 20 (opsOf (C7 [1, 0, 1, 1, 1, 1, 1, 0, 0])) [0, 1] (by kernel_rfl) (by kernel_rfl) ?_
                refine st_pure tabOK hk [0, 1] [] [0, 5, 6, 13, 14, 70] [(0, S p0), (5, .pointer (some ⟨b1, 0, none⟩)), (6, S s91.2), (13, I t94.2.1), (14, I t94.2.2), (70, .bool (t94.2.2 != 0))] (True) (by kernel_rfl) trivial ?_
                clear hk; intro a hk
                refine st_done ?_
                refine st_cond hk (C7 [1, 0, 1, 1, 1, 1, 1, 0, 1, 0]) (C7 [1, 0, 1, 1, 1, 1, 1, 0, 1, 1]) (.tmp 70) (t94.2.2 != 0) (by kernel_rfl) (by kernel_rfl) (fun h99 => ?_) (fun h99 => ?_)
                ·
                  have h100 : (t94.2.2 != 0) = true := h99
                  rw [if_pos h100] at H
                  refine st_seq (C7 [1, 0, 1, 1, 1, 1, 1, 0, 1, 0, 0]) (C7 [1, 0, 1, 1, 1, 1, 1, 0, 1, 0, 1]) (by kernel_rfl) ?_
                  refine st_region 21 (opsOf (C7 [1, 0, 1, 1, 1, 1, 1, 0, 1, 0, 0])) [0, 1, 2, 3] (by kernel_rfl) (by kernel_rfl) ?_
                  refine st_pure tabOK hk [0, 1, 2, 3] [] [2, 3, 4] [(2, S ([])), (3, I 0), (4, I t94.2.2)] (True) (by kernel_rfl) trivial ?_
                  clear hk; intro a hk
                  refine st_done ?_
                  replace ho : Ows [] w0 w [.blk b1 (.cells #[.pointer (some ⟨b1, 0, none⟩), .slice o92 s91.1.length c93] 32 (0, 0)), .row 1 5 1 (.slice o92 s91.1.length c93) s91.1.length (s91.1.map bV)] := ho.erase 0
                  replace ho : Ows [] w0 w [.row 1 5 1 (.slice o92 s91.1.length c93) s91.1.length (s91.1.map bV)] := ho.erase 0
                  replace ho : Ows [] w0 w [] := ho.erase 0
                  refine st_retG hk (by kernel_rfl) [S ([]), I 0, I t94.2.2] #[.tmp 2, .tmp 3, .tmp 4] (by kernel_rfl) ⟨resT hk (by kernel_rfl), resT hk (by kernel_rfl), resT hk (by kernel_rfl), trivial⟩ ?_
                  obtain rfl := Option.some.inj H
                  exact ⟨_, rfl, rfl, ho⟩
                ·
                  have h101 : ¬ ((t94.2.2 != 0) = true) := ne_true_of_eq_false h99
                  rw [if_neg h101] at H
                  refine st_skip (by kernel_rfl) ?_
                  refine st_seq (C7 [1, 0, 1, 1, 1, 1, 1, 1, 0]) (C7 [1, 0, 1, 1, 1, 1, 1, 1, 1]) (by kernel_rfl) ?_
                  refine st_region 22 (opsOf (C7 [1, 0, 1, 1, 1, 1, 1, 1, 0])) [0, 1, 2, 3, 4, 5, 6, 7, 8, 9, 10] (by kernel_rfl) (by kernel_rfl) ?_
                  replace ho : Ows [] w0 w [.row 1 5 1 (.slice o92 s91.1.length c93) s91.1.length (s91.1.map bV), .row 0 60 2 (.slice o96 t94.1.length c97) t94.1.length (t94.1.flatMap encT60), .blk b1 (.cells #[.pointer (some ⟨b1, 0, none⟩), .slice o92 s91.1.length c93] 32 (0, 0))] := ho.front 2 _ _ rfl rfl
                  replace ho : Ows [] w0 w [.blk b1 (.cells #[.pointer (some ⟨b1, 0, none⟩), .slice o92 s91.1.length c93] 32 (0, 0)), .row 1 5 1 (.slice o92 s91.1.length c93) s91.1.length (s91.1.map bV), .row 0 60 2 (.slice o96 t94.1.length c97) t94.1.length (t94.1.flatMap encT60)] := ho.front 2 _ _ rfl rfl
                  obtain ⟨t102, h103, H⟩ := Option.bind_eq_some_iff.1 H
                  refine st_call hk 11 [.pointer (some ⟨b1, 0, none⟩)] (some 72) enters11 (by kernel_rfl) (strings_Builder_String_ps0t.ok  s91.1 t102 h103 w b1 o92 c93 (Ows.has (K := [.blk b1 (.cells #[.pointer (some ⟨b1, 0, none⟩), .slice o92 s91.1.length c93] 32 (0, 0)), .row 1 5 1 (.slice o92 s91.1.length c93) s91.1.length (s91.1.map bV)]) (L := [.row 0 60 2 (.slice o96 t94.1.length c97) t94.1.length (t94.1.flatMap encT60)]) ho)) ?_
                  clear hk; rintro a u w ⟨rfl, ho'⟩ hk
                  replace ho : Ows [] w0 w [.blk b1 (.cells #[.pointer (some ⟨b1, 0, none⟩), .slice o92 s91.1.length c93] 32 (0, 0)), .row 0 60 2 (.slice o96 t94.1.length c97) t94.1.length (t94.1.flatMap encT60)] := Ows.callP (K := [.blk b1 (.cells #[.pointer (some ⟨b1, 0, none⟩), .slice o92 s91.1.length c93] 32 (0, 0)), .row 1 5 1 (.slice o92 s91.1.length c93) s91.1.length (s91.1.map bV)]) (L := [.row 0 60 2 (.slice o96 t94.1.length c97) t94.1.length (t94.1.flatMap encT60)]) ho ho' rfl; clear ho'
                  refine st_pure tabOK hk [1, 2, 3, 4, 5, 6, 7, 8, 9, 10] [] [2, 3, 4] [(2, S t102), (3, I (w64 ((w64 ((p0.length : Int) - (s91.2.length : Int))) + t94.2.1))), (4, I 0)] (True) (by kernel_rfl) trivial ?_
                  clear hk; intro a hk
                  refine st_done ?_
                  replace ho : Ows [] w0 w [.row 0 60 2 (.slice o96 t94.1.length c97) t94.1.length (t94.1.flatMap encT60)] := ho.erase 0
                  replace ho : Ows [] w0 w [] := ho.erase 0
                  refine st_retG hk (by kernel_rfl) [S t102, I (w64 ((w64 ((p0.length : Int) - (s91.2.length : Int))) + t94.2.1)), I 0] #[.tmp 2, .tmp 3, .tmp 4] (by kernel_rfl) ⟨resT hk (by kernel_rfl), resT hk (by kernel_rfl), resT hk (by kernel_rfl), trivial⟩ ?_
                  obtain rfl := Option.some.inj H
                  exact ⟨_, rfl, rfl, ho⟩
              · intro r104  a w e hk ho; subst e
                simp only [] at H
                refine retG hk [S r104.1, I r104.2.1, I r104.2.2] #[.tmp 2, .tmp 3, .tmp 4] (by kernel_rfl) ⟨resT hk (by kernel_rfl), resT hk (by kernel_rfl), resT hk (by kernel_rfl), trivial⟩ ?_
                obtain rfl := Option.some.inj H
                exact ⟨_, rfl, rfl, ho⟩


/-! scullery/scullerylaw07.awake: function 4 -/
noncomputable def C4 (p : List Nat) : Code := Sub (bodyOf f4) p
def scullerylaw07_awake.f (K : Nat)  : Option (Bool) := (((chunk_Encode.f K ([97, 98, 99]) 2).bind fun t1 => ((chunk_Decode.f K ([65, 32, 59, 120, 61, 49, 13, 10, 48, 49, 50, 51, 52, 53, 54, 55, 56, 57, 13, 10, 48, 13, 10, 122, 58, 32, 121, 13, 10, 13, 10, 109, 111, 114, 101])).bind fun t3 => ((chunk_Decode.f K ([49, 13, 10, 97, 98])).bind fun t5 => ((chunk_Encode.f K ([]) 0).bind fun t7 => some ((t1.1 == ([50, 13, 10, 97, 98, 13, 10, 49, 13, 10, 99, 13, 10, 48, 13, 10, 13, 10])) && ((t1.2 == 0) && ((t3.1 == ([48, 49, 50, 51, 52, 53, 54, 55, 56, 57])) && ((t3.2.1 == 31) && ((t3.2.2 == 0) && ((t5.2.2 == 3) && (t7.2 == 1))))))))))))
abbrev scullerylaw07_awake.post (w0 : World) (r : Bool) (u : Value) (w : World) : Prop := u = .bool r ∧ Ows [] w0 w []
theorem scullerylaw07_awake.ok (K : Nat)  (r : Bool) (H : scullerylaw07_awake.f K  = some r) (w0 : World) (hg : Glob w0) : Calls Tryz.prog 4 ⟨[]⟩ w0 fun e w => ∃ u, e = .returned u ∧ scullerylaw07_awake.post w0 r u w := by
  unfold scullerylaw07_awake.f at H
  refine st_start (N := 55) [] (C4 []) func4 (by kernel_rfl) (by kernel_rfl) (by kernel_rfl) ?_
  intro a w hk ho
  refine st_seq (C4 [0]) (C4 [1]) (by kernel_rfl) ?_
  refine st_region 0 (opsOf (C4 [0])) [0] (by kernel_rfl) (by kernel_rfl) ?_
  refine st_pure tabOK hk [0] [] [] [] (True) (by kernel_rfl) trivial ?_
  clear hk; intro a hk
  refine st_done ?_
  refine st_seq (C4 [1, 0]) (C4 [1, 1]) (by kernel_rfl) ?_
  refine st_region 1 (opsOf (C4 [1, 0])) [0, 1, 2, 3, 4, 5] (by kernel_rfl) (by kernel_rfl) ?_
  obtain ⟨t1, h2, H⟩ := Option.bind_eq_some_iff.1 H
  refine st_call hk 5 [S ([97, 98, 99]), I 2] (some 12) enters5 (by kernel_rfl) (chunk_Encode.ok K  ([97, 98, 99]) 2 t1 h2 w (hg.of ho)) ?_
  clear hk; rintro a u w ⟨rfl, ho'⟩ hk
  replace ho : Ows [] w0 w [] := ho.call ho'; clear ho'
  refine st_pure tabOK hk [1, 2, 3, 4, 5] [] [1, 2] [(1, S t1.1), (2, I t1.2)] (True) (by kernel_rfl) trivial ?_
  clear hk; intro a hk
  refine st_done ?_
  refine st_seq (C4 [1, 1, 0]) (C4 [1, 1, 1]) (by kernel_rfl) ?_
  refine st_region 2 (opsOf (C4 [1, 1, 0])) [0, 1, 2, 3, 4, 5, 6, 7] (by kernel_rfl) (by kernel_rfl) ?_
  obtain ⟨t3, h4, H⟩ := Option.bind_eq_some_iff.1 H
  refine st_call hk 7 [S ([65, 32, 59, 120, 61, 49, 13, 10, 48, 49, 50, 51, 52, 53, 54, 55, 56, 57, 13, 10, 48, 13, 10, 122, 58, 32, 121, 13, 10, 13, 10, 109, 111, 114, 101])] (some 16) enters7 (by kernel_rfl) (chunk_Decode.ok K  ([65, 32, 59, 120, 61, 49, 13, 10, 48, 49, 50, 51, 52, 53, 54, 55, 56, 57, 13, 10, 48, 13, 10, 122, 58, 32, 121, 13, 10, 13, 10, 109, 111, 114, 101]) t3 h4 w (hg.of ho)) ?_
  clear hk; rintro a u w ⟨rfl, ho'⟩ hk
  replace ho : Ows [] w0 w [] := ho.call ho'; clear ho'
  refine st_pure tabOK hk [1, 2, 3, 4, 5, 6, 7] [] [1, 2, 3, 4, 5] [(1, S t1.1), (2, I t1.2), (3, S t3.1), (4, I t3.2.1), (5, I t3.2.2)] (True) (by kernel_rfl) trivial ?_
  clear hk; intro a hk
  refine st_done ?_
  refine st_seq (C4 [1, 1, 1, 0]) (C4 [1, 1, 1, 1]) (by kernel_rfl) ?_
  refine st_region 3 (opsOf (C4 [1, 1, 1, 0])) [0, 1, 2, 3, 4, 5, 6, 7] (by kernel_rfl) (by kernel_rfl) ?_
  obtain ⟨t5, h6, H⟩ := Option.bind_eq_some_iff.1 H
  refine st_call hk 7 [S ([49, 13, 10, 97, 98])] (some 21) enters7 (by kernel_rfl) (chunk_Decode.ok K  ([49, 13, 10, 97, 98]) t5 h6 w (hg.of ho)) ?_
  clear hk; rintro a u w ⟨rfl, ho'⟩ hk
  replace ho : Ows [] w0 w [] := ho.call ho'; clear ho'
  refine st_pure tabOK hk [1, 2, 3, 4, 5, 6, 7] [] [1, 2, 3, 4, 5, 8] [(1, S t1.1), (2, I t1.2), (3, S t3.1), (4, I t3.2.1), (5, I t3.2.2), (8, I t5.2.2)] (True) (by kernel_rfl) trivial ?_
  clear hk; intro a hk
  refine st_done ?_
  refine st_seq (C4 [1, 1, 1, 1, 0]) (C4 [1, 1, 1, 1, 1]) (by kernel_rfl) ?_
  refine st_region 4 (opsOf (C4 [1, 1, 1, 1, 0])) [0, 1, 2, 3, 4, 5] (by kernel_rfl) (by kernel_rfl) ?_
  obtain ⟨t7, h8, H⟩ := Option.bind_eq_some_iff.1 H
  refine st_call hk 5 [S ([]), I 0] (some 26) enters5 (by kernel_rfl) (chunk_Encode.ok K  ([]) 0 t7 h8 w (hg.of ho)) ?_
  clear hk; rintro a u w ⟨rfl, ho'⟩ hk
  replace ho : Ows [] w0 w [] := ho.call ho'; clear ho'
  refine st_pure tabOK hk [1, 2, 3, 4, 5] [] [1, 2, 3, 4, 5, 8, 10] [(1, S t1.1), (2, I t1.2), (3, S t3.1), (4, I t3.2.1), (5, I t3.2.2), (8, I t5.2.2), (10, I t7.2)] (True) (by kernel_rfl) trivial ?_
  clear hk; intro a hk
  refine st_done ?_
  refine st_seq (C4 [1, 1, 1, 1, 1, 0]) (C4 [1, 1, 1, 1, 1, 1]) (by kernel_rfl) ?_
  refine st_region 5 (opsOf (C4 [1, 1, 1, 1, 1, 0])) [0, 1, 2, 3, 4, 5, 6, 7, 8, 9, 10, 11, 12, 13, 14, 15, 16, 17, 18, 19, 20, 21, 22, 23, 24, 25, 26] (by kernel_rfl) (by kernel_rfl) ?_
  refine st_pure tabOK hk [0, 1, 2] [3, 4, 5, 6, 7, 8, 9, 10, 11, 12, 13, 14, 15, 16, 17, 18, 19, 20, 21, 22, 23, 24, 25, 26] [2, 3, 4, 5, 8, 10, 31] [(2, I t1.2), (3, S t3.1), (4, I t3.2.1), (5, I t3.2.2), (8, I t5.2.2), (10, I t7.2), (31, .bool (t1.1 == ([50, 13, 10, 97, 98, 13, 10, 49, 13, 10, 99, 13, 10, 48, 13, 10, 13, 10])))] (True) (by kernel_rfl) trivial ?_
  clear hk; intro a hk
  refine cut_ops (fun a w => Kn 55 a [(0, .bool ((t1.1 == ([50, 13, 10, 97, 98, 13, 10, 49, 13, 10, 99, 13, 10, 48, 13, 10, 13, 10])) && ((t1.2 == 0) && ((t3.1 == ([48, 49, 50, 51, 52, 53, 54, 55, 56, 57])) && ((t3.2.1 == 31) && ((t3.2.2 == 0) && ((t5.2.2 == 3) && (t7.2 == 1))))))))] ∧ Ows [] w0 w []) ?_ ?_
  · intro J
    rcases Bool.eq_false_or_eq_true (t1.1 == ([50, 13, 10, 97, 98, 13, 10, 49, 13, 10, 99, 13, 10, 48, 13, 10, 13, 10])) with h9 | h9
    ·
      rw [h9] at hk
      have h10 : (t1.1 == ([50, 13, 10, 97, 98, 13, 10, 49, 13, 10, 99, 13, 10, 48, 13, 10, 13, 10])) = true := h9
      refine st_pure tabOK hk [3, 4, 5, 6] [7, 8, 9, 10, 11, 12, 13, 14, 15, 16, 17, 18, 19, 20, 21, 22, 23, 24, 25, 26] [3, 4, 5, 8, 10, 35] [(3, S t3.1), (4, I t3.2.1), (5, I t3.2.2), (8, I t5.2.2), (10, I t7.2), (35, .bool (t1.2 == 0))] (True) (by kernel_rfl) trivial ?_
      clear hk; intro a hk
      rcases Bool.eq_false_or_eq_true (t1.2 == 0) with h11 | h11
      ·
        rw [h11] at hk
        have h12 : (t1.2 == 0) = true := h11
        refine st_pure tabOK hk [7, 8, 9, 10] [11, 12, 13, 14, 15, 16, 17, 18, 19, 20, 21, 22, 23, 24, 25, 26] [4, 5, 8, 10, 39] [(4, I t3.2.1), (5, I t3.2.2), (8, I t5.2.2), (10, I t7.2), (39, .bool (t3.1 == ([48, 49, 50, 51, 52, 53, 54, 55, 56, 57])))] (True) (by kernel_rfl) trivial ?_
        clear hk; intro a hk
        rcases Bool.eq_false_or_eq_true (t3.1 == ([48, 49, 50, 51, 52, 53, 54, 55, 56, 57])) with h13 | h13
        ·
          rw [h13] at hk
          have h14 : (t3.1 == ([48, 49, 50, 51, 52, 53, 54, 55, 56, 57])) = true := h13
          refine st_pure tabOK hk [11, 12, 13, 14] [15, 16, 17, 18, 19, 20, 21, 22, 23, 24, 25, 26] [5, 8, 10, 43] [(5, I t3.2.2), (8, I t5.2.2), (10, I t7.2), (43, .bool (t3.2.1 == 31))] (True) (by kernel_rfl) trivial ?_
          clear hk; intro a hk
          rcases Bool.eq_false_or_eq_true (t3.2.1 == 31) with h15 | h15
          ·
            rw [h15] at hk
            have h16 : (t3.2.1 == 31) = true := h15
            refine st_pure tabOK hk [15, 16, 17, 18] [19, 20, 21, 22, 23, 24, 25, 26] [8, 10, 47] [(8, I t5.2.2), (10, I t7.2), (47, .bool (t3.2.2 == 0))] (True) (by kernel_rfl) trivial ?_
            clear hk; intro a hk
            rcases Bool.eq_false_or_eq_true (t3.2.2 == 0) with h17 | h17
            ·
              rw [h17] at hk
              have h18 : (t3.2.2 == 0) = true := h17
              refine st_pure tabOK hk [19, 20, 21, 22] [23, 24, 25, 26] [10, 51] [(10, I t7.2), (51, .bool (t5.2.2 == 3))] (True) (by kernel_rfl) trivial ?_
              clear hk; intro a hk
              rcases Bool.eq_false_or_eq_true (t5.2.2 == 3) with h19 | h19
              ·
                rw [h19] at hk
                have h20 : (t5.2.2 == 3) = true := h19
                refine st_pure tabOK hk [23, 24, 25, 26] [] [0] [(0, .bool (t7.2 == 1))] (True) (by kernel_rfl) trivial ?_
                clear hk; intro a hk
                refine st_done ?_
                have e : ((t1.1 == ([50, 13, 10, 97, 98, 13, 10, 49, 13, 10, 99, 13, 10, 48, 13, 10, 13, 10])) && ((t1.2 == 0) && ((t3.1 == ([48, 49, 50, 51, 52, 53, 54, 55, 56, 57])) && ((t3.2.1 == 31) && ((t3.2.2 == 0) && ((t5.2.2 == 3) && (t7.2 == 1))))))) = (t7.2 == 1) := by first | (simp only [h9, h11, h13, h15, h17, h19]; done) | (simp only [h9, h11, h13, h15, h17, h19]; rfl) | rfl | simp [h9, h11, h13, h15, h17, h19]
                exact J a w ⟨by rw [e]; exact hk.to [0] _ (by kernel_rfl), ho⟩
              ·
                rw [h19] at hk
                have h21 : ¬ ((t5.2.2 == 3) = true) := ne_true_of_eq_false h19
                refine st_pure tabOK hk [23, 24, 25, 26] [] [0] [(0, .bool false)] (True) (by kernel_rfl) trivial ?_
                clear hk; intro a hk
                refine st_done ?_
                have e : ((t1.1 == ([50, 13, 10, 97, 98, 13, 10, 49, 13, 10, 99, 13, 10, 48, 13, 10, 13, 10])) && ((t1.2 == 0) && ((t3.1 == ([48, 49, 50, 51, 52, 53, 54, 55, 56, 57])) && ((t3.2.1 == 31) && ((t3.2.2 == 0) && ((t5.2.2 == 3) && (t7.2 == 1))))))) = false := by first | (simp only [h9, h11, h13, h15, h17, h19]; done) | (simp only [h9, h11, h13, h15, h17, h19]; rfl) | rfl | simp [h9, h11, h13, h15, h17, h19]
                exact J a w ⟨by rw [e]; exact hk.to [0] _ (by kernel_rfl), ho⟩
            ·
              rw [h17] at hk
              have h22 : ¬ ((t3.2.2 == 0) = true) := ne_true_of_eq_false h17
              refine st_pure tabOK hk [19, 20, 21, 22, 23, 24, 25, 26] [] [0] [(0, .bool false)] (True) (by kernel_rfl) trivial ?_
              clear hk; intro a hk
              refine st_done ?_
              have e : ((t1.1 == ([50, 13, 10, 97, 98, 13, 10, 49, 13, 10, 99, 13, 10, 48, 13, 10, 13, 10])) && ((t1.2 == 0) && ((t3.1 == ([48, 49, 50, 51, 52, 53, 54, 55, 56, 57])) && ((t3.2.1 == 31) && ((t3.2.2 == 0) && ((t5.2.2 == 3) && (t7.2 == 1))))))) = false := by first | (simp only [h9, h11, h13, h15, h17]; done) | (simp only [h9, h11, h13, h15, h17]; rfl) | rfl | simp [h9, h11, h13, h15, h17]
              exact J a w ⟨by rw [e]; exact hk.to [0] _ (by kernel_rfl), ho⟩
          ·
            rw [h15] at hk
            have h23 : ¬ ((t3.2.1 == 31) = true) := ne_true_of_eq_false h15
            refine st_pure tabOK hk [15, 16, 17, 18, 19, 20, 21, 22, 23, 24, 25, 26] [] [0] [(0, .bool false)] (True) (by kernel_rfl) trivial ?_
            clear hk; intro a hk
            refine st_done ?_
            have e : ((t1.1 == ([50, 13, 10, 97, 98, 13, 10, 49, 13, 10, 99, 13, 10, 48, 13, 10, 13, 10])) && ((t1.2 == 0) && ((t3.1 == ([48, 49, 50, 51, 52, 53, 54, 55, 56, 57])) && ((t3.2.1 == 31) && ((t3.2.2 == 0) && ((t5.2.2 == 3) && (t7.2 == 1))))))) = false := by first | (simp only [h9, h11, h13, h15]; done) | (simp only [h9, h11, h13, h15]; rfl) | rfl | simp [h9, h11, h13, h15]
            exact J a w ⟨by rw [e]; exact hk.to [0] _ (by kernel_rfl), ho⟩
        ·
          rw [h13] at hk
          have h24 : ¬ ((t3.1 == ([48, 49, 50, 51, 52, 53, 54, 55, 56, 57])) = true) := ne_true_of_eq_false h13
          refine st_pure tabOK hk [11, 12, 13, 14, 15, 16, 17, 18, 19, 20, 21, 22, 23, 24, 25, 26] [] [0] [(0, .bool false)] (True) (by kernel_rfl) trivial ?_
          clear hk; intro a hk
          refine st_done ?_
          have e : ((t1.1 == ([50, 13, 10, 97, 98, 13, 10, 49, 13, 10, 99, 13, 10, 48, 13, 10, 13, 10])) && ((t1.2 == 0) && ((t3.1 == ([48, 49, 50, 51, 52, 53, 54, 55, 56, 57])) && ((t3.2.1 == 31) && ((t3.2.2 == 0) && ((t5.2.2 == 3) && (t7.2 == 1))))))) = false := by first | (simp only [h9, h11, h13]; done) | (simp only [h9, h11, h13]; rfl) | rfl | simp [h9, h11, h13]
          exact J a w ⟨by rw [e]; exact hk.to [0] _ (by kernel_rfl), ho⟩
      ·
        rw [h11] at hk
        have h25 : ¬ ((t1.2 == 0) = true) := ne_true_of_eq_false h11
        refine st_pure tabOK hk [7, 8, 9, 10, 11, 12, 13, 14, 15, 16, 17, 18, 19, 20, 21, 22, 23, 24, 25, 26] [] [0] [(0, .bool false)] (True) (by kernel_rfl) trivial ?_
        clear hk; intro a hk
        refine st_done ?_
        have e : ((t1.1 == ([50, 13, 10, 97, 98, 13, 10, 49, 13, 10, 99, 13, 10, 48, 13, 10, 13, 10])) && ((t1.2 == 0) && ((t3.1 == ([48, 49, 50, 51, 52, 53, 54, 55, 56, 57])) && ((t3.2.1 == 31) && ((t3.2.2 == 0) && ((t5.2.2 == 3) && (t7.2 == 1))))))) = false := by first | (simp only [h9, h11]; done) | (simp only [h9, h11]; rfl) | rfl | simp [h9, h11]
        exact J a w ⟨by rw [e]; exact hk.to [0] _ (by kernel_rfl), ho⟩
    ·
      rw [h9] at hk
      have h26 : ¬ ((t1.1 == ([50, 13, 10, 97, 98, 13, 10, 49, 13, 10, 99, 13, 10, 48, 13, 10, 13, 10])) = true) := ne_true_of_eq_false h9
      refine st_pure tabOK hk [3, 4, 5, 6, 7, 8, 9, 10, 11, 12, 13, 14, 15, 16, 17, 18, 19, 20, 21, 22, 23, 24, 25, 26] [] [0] [(0, .bool false)] (True) (by kernel_rfl) trivial ?_
      clear hk; intro a hk
      refine st_done ?_
      have e : ((t1.1 == ([50, 13, 10, 97, 98, 13, 10, 49, 13, 10, 99, 13, 10, 48, 13, 10, 13, 10])) && ((t1.2 == 0) && ((t3.1 == ([48, 49, 50, 51, 52, 53, 54, 55, 56, 57])) && ((t3.2.1 == 31) && ((t3.2.2 == 0) && ((t5.2.2 == 3) && (t7.2 == 1))))))) = false := by first | (simp only [h9]; done) | (simp only [h9]; rfl) | rfl | simp [h9]
      exact J a w ⟨by rw [e]; exact hk.to [0] _ (by kernel_rfl), ho⟩
  · rintro a w ⟨hk, ho⟩
    refine st_retG hk (by kernel_rfl) [.bool ((t1.1 == ([50, 13, 10, 97, 98, 13, 10, 49, 13, 10, 99, 13, 10, 48, 13, 10, 13, 10])) && ((t1.2 == 0) && ((t3.1 == ([48, 49, 50, 51, 52, 53, 54, 55, 56, 57])) && ((t3.2.1 == 31) && ((t3.2.2 == 0) && ((t5.2.2 == 3) && (t7.2 == 1)))))))] #[.tmp 0] (by kernel_rfl) ⟨resT hk (by kernel_rfl), trivial⟩ ?_
    obtain rfl := Option.some.inj H
    exact ⟨_, rfl, rfl, ho⟩


/-! scullery/sculleryref07.hex: function 12 -/
noncomputable def C12 (p : List Nat) : Code := Sub (bodyOf f12) p
def sculleryref07_hex.f : Nat → Int → Option (Str)
  | 0, _ => none
  | K + 1, p0 => (if p0 < 16 then (if (0 : Int) ≤ w64 (p0 + 1) then (if w64 (p0 + 1) ≤ (([48, 49, 50, 51, 52, 53, 54, 55, 56, 57, 97, 98, 99, 100, 101, 102]).length : Int) then (if (0 : Int) ≤ p0 then (if p0 ≤ w64 (p0 + 1) then some ((([48, 49, 50, 51, 52, 53, 54, 55, 56, 57, 97, 98, 99, 100, 101, 102]).take (w64 (p0 + 1)).toNat).drop p0.toNat) else none) else none) else none) else none) else ((sculleryref07_hex.f K (w64 (p0.tdiv 16))).bind fun t8 => ((sculleryref07_hex.f K (p0.tmod 16)).bind fun t10 => (if t8.length + t10.length ≤ maxI then some (t8 ++ t10) else none))))
abbrev sculleryref07_hex.post (w0 : World) (r : Str) (u : Value) (w : World) : Prop := u = S r ∧ Ows [] w0 w []
theorem sculleryref07_hex.ok : ∀ (K : Nat) (p0 : Int) (r : Str) (H : sculleryref07_hex.f K p0 = some r) (w0 : World) , Calls Tryz.prog 12 ⟨[I p0]⟩ w0 fun e w => ∃ u, e = .returned u ∧ sculleryref07_hex.post w0 r u w := by
  intro K
  induction K with
  | zero => intro p0 r H; simp [sculleryref07_hex.f] at H
  | succ K ih =>
  intro p0 r H w0 
  simp only [sculleryref07_hex.f] at H
  refine st_start (N := 16) [I p0] (C12 []) func12 (by kernel_rfl) (by kernel_rfl) (by kernel_rfl) ?_
  intro a w hk ho
  refine st_seq (C12 [0]) (C12 [1]) (by kernel_rfl) ?_
  refine st_region 0 (opsOf (C12 [0])) [0] (by kernel_rfl) (by kernel_rfl) ?_
  refine st_pure tabOK hk [0] [] [0] [(0, I p0)] (True) (by kernel_rfl) trivial ?_
  clear hk; intro a hk
  refine st_done ?_
  refine st_seq (C12 [1, 0]) (C12 [1, 1]) (by kernel_rfl) ?_
  refine st_seq (C12 [1, 0, 0]) (C12 [1, 0, 1]) (by kernel_rfl) ?_
  refine st_region 1 (opsOf (C12 [1, 0, 0])) [0, 1] (by kernel_rfl) (by kernel_rfl) ?_
  refine st_pure tabOK hk [0, 1] [] [0, 4] [(0, I p0), (4, .bool (decide (p0 < 16)))] (True) (by kernel_rfl) trivial ?_
  clear hk; intro a hk
  refine st_done ?_
  refine st_cond hk (C12 [1, 0, 1, 0]) (C12 [1, 0, 1, 1]) (.tmp 4) (decide (p0 < 16)) (by kernel_rfl) (by kernel_rfl) (fun h1 => ?_) (fun h1 => ?_)
  ·
    have h2 : p0 < 16 := of_decide_eq_true h1
    rw [if_pos h2] at H
    refine st_seq (C12 [1, 0, 1, 0, 0]) (C12 [1, 0, 1, 0, 1]) (by kernel_rfl) ?_
    refine st_region 2 (opsOf (C12 [1, 0, 1, 0, 0])) [0, 1, 2, 3, 4] (by kernel_rfl) (by kernel_rfl) ?_
    have h3 : (0 : Int) ≤ w64 (p0 + 1) := by
      by_cases h3 : (0 : Int) ≤ w64 (p0 + 1)
      · exact h3
      · rw [if_neg h3] at H; cases H
    rw [if_pos h3] at H
    have h4 : w64 (p0 + 1) ≤ (([48, 49, 50, 51, 52, 53, 54, 55, 56, 57, 97, 98, 99, 100, 101, 102]).length : Int) := by
      by_cases h4 : w64 (p0 + 1) ≤ (([48, 49, 50, 51, 52, 53, 54, 55, 56, 57, 97, 98, 99, 100, 101, 102]).length : Int)
      · exact h4
      · rw [if_neg h4] at H; cases H
    rw [if_pos h4] at H
    have h5 : (0 : Int) ≤ p0 := by
      by_cases h5 : (0 : Int) ≤ p0
      · exact h5
      · rw [if_neg h5] at H; cases H
    rw [if_pos h5] at H
    have h6 : p0 ≤ w64 (p0 + 1) := by
      by_cases h6 : p0 ≤ w64 (p0 + 1)
      · exact h6
      · rw [if_neg h6] at H; cases H
    rw [if_pos h6] at H
    refine st_pure tabOK hk [0, 1, 2, 3, 4] [] [2] [(2, S ((([48, 49, 50, 51, 52, 53, 54, 55, 56, 57, 97, 98, 99, 100, 101, 102]).take (w64 (p0 + 1)).toNat).drop p0.toNat))] ((((0 : Int) ≤ w64 (p0 + 1) ∧ w64 (p0 + 1) ≤ (([48, 49, 50, 51, 52, 53, 54, 55, 56, 57, 97, 98, 99, 100, 101, 102]).length : Int)) ∧ ((0 : Int) ≤ p0 ∧ p0 ≤ w64 (p0 + 1))) ∧ True) (by kernel_rfl) ⟨⟨⟨h3, h4⟩, ⟨h5, h6⟩⟩, trivial⟩ ?_
    clear hk; intro a hk
    refine st_done ?_
    refine st_retG hk (by kernel_rfl) [S ((([48, 49, 50, 51, 52, 53, 54, 55, 56, 57, 97, 98, 99, 100, 101, 102]).take (w64 (p0 + 1)).toNat).drop p0.toNat)] #[.tmp 2] (by kernel_rfl) ⟨resT hk (by kernel_rfl), trivial⟩ ?_
    obtain rfl := Option.some.inj H
    exact ⟨_, rfl, rfl, ho⟩
  ·
    have h7 : ¬ (p0 < 16) := of_decide_eq_false h1
    rw [if_neg h7] at H
    refine st_skip (by kernel_rfl) ?_
    refine st_seq (C12 [1, 1, 0]) (C12 [1, 1, 1]) (by kernel_rfl) ?_
    refine st_region 3 (opsOf (C12 [1, 1, 0])) [0, 1, 2, 3, 4, 5, 6, 7] (by kernel_rfl) (by kernel_rfl) ?_
    refine st_pure tabOK hk [0, 1] [2, 3, 4, 5, 6, 7] [0, 10] [(0, I p0), (10, I (w64 (p0.tdiv 16)))] ((16 : Int) ≠ 0 ∧ True) (by kernel_rfl) ⟨(by decide), trivial⟩ ?_
    clear hk; intro a hk
    obtain ⟨t8, h9, H⟩ := Option.bind_eq_some_iff.1 H
    refine st_call hk 12 [I (w64 (p0.tdiv 16))] (some 11) enters12 (by kernel_rfl) (ih (w64 (p0.tdiv 16)) t8 h9 w ) ?_
    clear hk; rintro a u w ⟨rfl, ho'⟩ hk
    replace ho : Ows [] w0 w [] := ho.call ho'; clear ho'
    refine st_pure tabOK hk [3, 4] [5, 6, 7] [11, 13] [(11, S t8), (13, I (p0.tmod 16))] ((16 : Int) ≠ 0 ∧ True) (by kernel_rfl) ⟨(by decide), trivial⟩ ?_
    clear hk; intro a hk
    obtain ⟨t10, h11, H⟩ := Option.bind_eq_some_iff.1 H
    refine st_call hk 12 [I (p0.tmod 16)] (some 14) enters12 (by kernel_rfl) (ih (p0.tmod 16) t10 h11 w ) ?_
    clear hk; rintro a u w ⟨rfl, ho'⟩ hk
    replace ho : Ows [] w0 w [] := ho.call ho'; clear ho'
    have h12 : t8.length + t10.length ≤ maxI := by
      by_cases h12 : t8.length + t10.length ≤ maxI
      · exact h12
      · rw [if_neg h12] at H; cases H
    rw [if_pos h12] at H
    refine st_pure tabOK hk [6, 7] [] [2] [(2, S (t8 ++ t10))] (t8.length + t10.length ≤ maxI ∧ True) (by kernel_rfl) ⟨h12, trivial⟩ ?_
    clear hk; intro a hk
    refine st_done ?_
    refine st_retG hk (by kernel_rfl) [S (t8 ++ t10)] #[.tmp 2] (by kernel_rfl) ⟨resT hk (by kernel_rfl), trivial⟩ ?_
    obtain rfl := Option.some.inj H
    exact ⟨_, rfl, rfl, ho⟩


/-! scullery/sculleryref07.Encode: function 6 -/
noncomputable def C6 (p : List Nat) : Code := Sub (bodyOf f6) p
def sculleryref07_Encode.l0 (K : Nat) : Nat → Int → Str → Str → Option (Str)
  | 0, _, _, _ => none
  | k + 1, p1, v7, v8 => (if (!(v7 == ([]))) = true then (if (0 : Int) ≤ mnI p1 (v7.length : Int) then (if mnI p1 (v7.length : Int) ≤ (v7.length : Int) then ((sculleryref07_hex.f K (mnI p1 (v7.length : Int))).bind fun t13 => (if v8.length + t13.length ≤ maxI then (if (v8 ++ t13).length + ([13, 10]).length ≤ maxI then (if ((v8 ++ t13) ++ ([13, 10])).length + (v7.take (mnI p1 (v7.length : Int)).toNat).length ≤ maxI then (if (((v8 ++ t13) ++ ([13, 10])) ++ (v7.take (mnI p1 (v7.length : Int)).toNat)).length + ([13, 10]).length ≤ maxI then sculleryref07_Encode.l0 K k p1 (v7.drop (mnI p1 (v7.length : Int)).toNat) ((((v8 ++ t13) ++ ([13, 10])) ++ (v7.take (mnI p1 (v7.length : Int)).toNat)) ++ ([13, 10])) else none) else none) else none) else none)) else none) else none) else some v8)
def sculleryref07_Encode.f (K : Nat) (p0 : Str) (p1 : Int) : Option (Str × Int) := (if p1 < 1 then some ([], 1) else (if (p0.length : Int) > 100000 then some ([], 4) else ((sculleryref07_Encode.l0 K K p1 p0 ([])).bind fun s22 => (if s22.length + ([48, 13, 10, 13, 10]).length ≤ maxI then some (s22 ++ ([48, 13, 10, 13, 10]), 0) else none))))
abbrev sculleryref07_Encode.post (w0 : World) (r : Str × Int) (u : Value) (w : World) : Prop := u = .tuple #[S r.1, I r.2] ∧ Ows [] w0 w []
theorem sculleryref07_Encode.l0_ok (K : Nat) : ∀ (k : Nat) (p1 : Int) (v7 : Str) (v8 : Str) (out : Str), sculleryref07_Encode.l0 K k p1 v7 v8 = some out → ∀ (w0 : World) (Q : Exit → Act → World → Prop) (rest : List It) (a : Act) (w : World), Kn 34 a [(0, S v7), (1, I p1), (6, S v8)] → Ows [] w0 w [] → (∀ (s : Str) (a : Act) (w : World), out = s → Kn 34 a [(6, S s)] → Ows [] w0 w [] → G Tryz.prog Q rest a w) → G Tryz.prog Q (.code (C6 [1, 1, 1, 1, 0, 0, 0]) :: .inl (C6 [1, 1, 1, 1, 0, 0, 0]) :: .endb 0 :: rest) a w := by
  intro k
  induction k with
  | zero => intro p1 v7 v8 out H; simp [sculleryref07_Encode.l0] at H
  | succ k ih =>
    intro p1 v7 v8 out H  w0 Q rest a w  hk ho J
    simp only [sculleryref07_Encode.l0] at H
    refine st_seq (C6 [1, 1, 1, 1, 0, 0, 0, 0]) (C6 [1, 1, 1, 1, 0, 0, 0, 1]) (by kernel_rfl) ?_
    refine st_seq (C6 [1, 1, 1, 1, 0, 0, 0, 0, 0]) (C6 [1, 1, 1, 1, 0, 0, 0, 0, 1]) (by kernel_rfl) ?_
    refine st_region 6 (opsOf (C6 [1, 1, 1, 1, 0, 0, 0, 0, 0])) [0, 1] (by kernel_rfl) (by kernel_rfl) ?_
    refine st_pure tabOK hk [0, 1] [] [0, 1, 6, 14] [(0, S v7), (1, I p1), (6, S v8), (14, .bool (!(v7 == ([]))))] (True) (by kernel_rfl) trivial ?_
    clear hk; intro a hk
    refine st_done ?_
    refine st_cond hk (C6 [1, 1, 1, 1, 0, 0, 0, 0, 1, 0]) (C6 [1, 1, 1, 1, 0, 0, 0, 0, 1, 1]) (.tmp 14) (!(v7 == ([]))) (by kernel_rfl) (by kernel_rfl) (fun h9 => ?_) (fun h9 => ?_)
    ·
      have h10 : (!(v7 == ([]))) = true := h9
      rw [if_pos h10] at H
      refine st_skip (by kernel_rfl) ?_
      refine st_block 1 (C6 [1, 1, 1, 1, 0, 0, 0, 1, 0]) (by kernel_rfl) ?_
      refine st_seq (C6 [1, 1, 1, 1, 0, 0, 0, 1, 0, 0]) (C6 [1, 1, 1, 1, 0, 0, 0, 1, 0, 1]) (by kernel_rfl) ?_
      refine st_region 7 (opsOf (C6 [1, 1, 1, 1, 0, 0, 0, 1, 0, 0])) [0, 1, 2, 3, 4] (by kernel_rfl) (by kernel_rfl) ?_
      refine st_pure tabOK hk [0, 1, 2, 3, 4] [] [0, 1, 6, 7] [(0, S v7), (1, I p1), (6, S v8), (7, I (mnI p1 (v7.length : Int)))] (True) (by kernel_rfl) trivial ?_
      clear hk; intro a hk
      refine st_done ?_
      refine st_seq (C6 [1, 1, 1, 1, 0, 0, 0, 1, 0, 1, 0]) (C6 [1, 1, 1, 1, 0, 0, 0, 1, 0, 1, 1]) (by kernel_rfl) ?_
      refine st_draw ho 8 (opsOf (C6 [1, 1, 1, 1, 0, 0, 0, 1, 0, 1, 0])) [0, 1, 2, 3, 4, 5, 6, 7, 8, 9, 10] (by kernel_rfl) (by kernel_rfl) (by kernel_rfl) ?_
      clear ho; intro w ho
      have h11 : (0 : Int) ≤ mnI p1 (v7.length : Int) := by
        by_cases h11 : (0 : Int) ≤ mnI p1 (v7.length : Int)
        · exact h11
        · rw [if_neg h11] at H; cases H
      rw [if_pos h11] at H
      have h12 : mnI p1 (v7.length : Int) ≤ (v7.length : Int) := by
        by_cases h12 : mnI p1 (v7.length : Int) ≤ (v7.length : Int)
        · exact h12
        · rw [if_neg h12] at H; cases H
      rw [if_pos h12] at H
      refine any_pure tabOK hk [0, 1, 5, 6, 7] [0, 1, 2, 3, 4, 5, 6, 7, 8, 9, 10] [2, 3, 4, 8, 9, 10] [0, 1, 6, 7, 19, 20, 26] [(0, S v7), (1, I p1), (6, S v8), (7, I (mnI p1 (v7.length : Int))), (19, S v8), (20, I (mnI p1 (v7.length : Int))), (26, S (v7.take (mnI p1 (v7.length : Int)).toNat))] (((0 : Int) ≤ mnI p1 (v7.length : Int) ∧ mnI p1 (v7.length : Int) ≤ (v7.length : Int)) ∧ True) (by kernel_rfl) (by kernel_rfl) (by kernel_rfl) ⟨⟨h11, h12⟩, trivial⟩ ?_
      clear hk; intro a hk
      refine any_all [2] (by kernel_rfl) (by decide) ⟨?_, trivial⟩
      change wpOps _ _ _ [2] _ _
      obtain ⟨t13, h14, H⟩ := Option.bind_eq_some_iff.1 H
      refine st_call hk 12 [I (mnI p1 (v7.length : Int))] (some 21) enters12 (by kernel_rfl) (sculleryref07_hex.ok K  (mnI p1 (v7.length : Int)) t13 h14 w ) ?_
      clear hk; rintro a u w ⟨rfl, ho'⟩ hk
      replace ho : Ows [] w0 w [] := ho.call ho'; clear ho'
      refine any_go [3, 4, 8, 9, 10] (by kernel_rfl) ?_
      have h15 : v8.length + t13.length ≤ maxI := by
        by_cases h15 : v8.length + t13.length ≤ maxI
        · exact h15
        · rw [if_neg h15] at H; cases H
      rw [if_pos h15] at H
      have h16 : (v8 ++ t13).length + ([13, 10]).length ≤ maxI := by
        by_cases h16 : (v8 ++ t13).length + ([13, 10]).length ≤ maxI
        · exact h16
        · rw [if_neg h16] at H; cases H
      rw [if_pos h16] at H
      have h17 : ((v8 ++ t13) ++ ([13, 10])).length + (v7.take (mnI p1 (v7.length : Int)).toNat).length ≤ maxI := by
        by_cases h17 : ((v8 ++ t13) ++ ([13, 10])).length + (v7.take (mnI p1 (v7.length : Int)).toNat).length ≤ maxI
        · exact h17
        · rw [if_neg h17] at H; cases H
      rw [if_pos h17] at H
      have h18 : (((v8 ++ t13) ++ ([13, 10])) ++ (v7.take (mnI p1 (v7.length : Int)).toNat)).length + ([13, 10]).length ≤ maxI := by
        by_cases h18 : (((v8 ++ t13) ++ ([13, 10])) ++ (v7.take (mnI p1 (v7.length : Int)).toNat)).length + ([13, 10]).length ≤ maxI
        · exact h18
        · rw [if_neg h18] at H; cases H
      rw [if_pos h18] at H
      refine any_pure tabOK hk [3, 4, 8, 9, 10] [3, 4, 8, 9, 10] [] [0, 1, 6, 7] [(0, S v7), (1, I p1), (6, S ((((v8 ++ t13) ++ ([13, 10])) ++ (v7.take (mnI p1 (v7.length : Int)).toNat)) ++ ([13, 10]))), (7, I (mnI p1 (v7.length : Int)))] (v8.length + t13.length ≤ maxI ∧ ((v8 ++ t13).length + ([13, 10]).length ≤ maxI ∧ (((v8 ++ t13) ++ ([13, 10])).length + (v7.take (mnI p1 (v7.length : Int)).toNat).length ≤ maxI ∧ ((((v8 ++ t13) ++ ([13, 10])) ++ (v7.take (mnI p1 (v7.length : Int)).toNat)).length + ([13, 10]).length ≤ maxI ∧ True)))) (by kernel_rfl) (by kernel_rfl) (by kernel_rfl) ⟨h15, ⟨h16, ⟨h17, ⟨h18, trivial⟩⟩⟩⟩ ?_
      clear hk; intro a hk
      refine any_end ?_
      refine st_region 9 (opsOf (C6 [1, 1, 1, 1, 0, 0, 0, 1, 0, 1, 1])) [0, 1, 2, 3] (by kernel_rfl) (by kernel_rfl) ?_
      refine st_pure tabOK hk [0, 1, 2, 3] [] [0, 1, 6] [(0, S (v7.drop (mnI p1 (v7.length : Int)).toNat)), (1, I p1), (6, S ((((v8 ++ t13) ++ ([13, 10])) ++ (v7.take (mnI p1 (v7.length : Int)).toNat)) ++ ([13, 10])))] (((0 : Int) ≤ mnI p1 (v7.length : Int) ∧ mnI p1 (v7.length : Int) ≤ (v7.length : Int)) ∧ True) (by kernel_rfl) ⟨⟨h11, h12⟩, trivial⟩ ?_
      clear hk; intro a hk
      refine st_done ?_
      refine st_endb 1 ?_
      refine st_inl ?_
      exact ih p1 (v7.drop (mnI p1 (v7.length : Int)).toNat) ((((v8 ++ t13) ++ ([13, 10])) ++ (v7.take (mnI p1 (v7.length : Int)).toNat)) ++ ([13, 10])) out H  w0 Q rest a w  (hk.to [0, 1, 6] _ (by kernel_rfl)) ho J
    ·
      have h19 : ¬ ((!(v7 == ([]))) = true) := ne_true_of_eq_false h9
      rw [if_neg h19] at H
      refine st_exit 0 _ (by kernel_rfl) rfl ?_
      obtain rfl := Option.some.inj H
      exact J v8  a w rfl (hk.to [6] _ (by kernel_rfl)) ho

theorem sculleryref07_Encode.ok (K : Nat) (p0 : Str) (p1 : Int) (r : Str × Int) (H : sculleryref07_Encode.f K p0 p1 = some r) (w0 : World)  : Calls Tryz.prog 6 ⟨[S p0, I p1]⟩ w0 fun e w => ∃ u, e = .returned u ∧ sculleryref07_Encode.post w0 r u w := by
  unfold sculleryref07_Encode.f at H
  refine st_start (N := 34) [S p0, I p1] (C6 []) func6 (by kernel_rfl) (by kernel_rfl) (by kernel_rfl) ?_
  intro a w hk ho
  refine st_seq (C6 [0]) (C6 [1]) (by kernel_rfl) ?_
  refine st_region 0 (opsOf (C6 [0])) [0, 1] (by kernel_rfl) (by kernel_rfl) ?_
  refine st_pure tabOK hk [0, 1] [] [0, 1] [(0, S p0), (1, I p1)] (True) (by kernel_rfl) trivial ?_
  clear hk; intro a hk
  refine st_done ?_
  refine st_seq (C6 [1, 0]) (C6 [1, 1]) (by kernel_rfl) ?_
  refine st_seq (C6 [1, 0, 0]) (C6 [1, 0, 1]) (by kernel_rfl) ?_
  refine st_region 1 (opsOf (C6 [1, 0, 0])) [0, 1] (by kernel_rfl) (by kernel_rfl) ?_
  refine st_pure tabOK hk [0, 1] [] [0, 1, 9] [(0, S p0), (1, I p1), (9, .bool (decide (p1 < 1)))] (True) (by kernel_rfl) trivial ?_
  clear hk; intro a hk
  refine st_done ?_
  refine st_cond hk (C6 [1, 0, 1, 0]) (C6 [1, 0, 1, 1]) (.tmp 9) (decide (p1 < 1)) (by kernel_rfl) (by kernel_rfl) (fun h1 => ?_) (fun h1 => ?_)
  ·
    have h2 : p1 < 1 := of_decide_eq_true h1
    rw [if_pos h2] at H
    refine st_seq (C6 [1, 0, 1, 0, 0]) (C6 [1, 0, 1, 0, 1]) (by kernel_rfl) ?_
    refine st_region 2 (opsOf (C6 [1, 0, 1, 0, 0])) [0, 1] (by kernel_rfl) (by kernel_rfl) ?_
    refine st_pure tabOK hk [0, 1] [] [4, 5] [(4, S ([])), (5, I 1)] (True) (by kernel_rfl) trivial ?_
    clear hk; intro a hk
    refine st_done ?_
    refine st_retG hk (by kernel_rfl) [S ([]), I 1] #[.tmp 4, .tmp 5] (by kernel_rfl) ⟨resT hk (by kernel_rfl), resT hk (by kernel_rfl), trivial⟩ ?_
    obtain rfl := Option.some.inj H
    exact ⟨_, rfl, rfl, ho⟩
  ·
    have h3 : ¬ (p1 < 1) := of_decide_eq_false h1
    rw [if_neg h3] at H
    refine st_skip (by kernel_rfl) ?_
    refine st_seq (C6 [1, 1, 0]) (C6 [1, 1, 1]) (by kernel_rfl) ?_
    refine st_seq (C6 [1, 1, 0, 0]) (C6 [1, 1, 0, 1]) (by kernel_rfl) ?_
    refine st_region 3 (opsOf (C6 [1, 1, 0, 0])) [0, 1, 2] (by kernel_rfl) (by kernel_rfl) ?_
    refine st_pure tabOK hk [0, 1, 2] [] [0, 1, 12] [(0, S p0), (1, I p1), (12, .bool (decide ((p0.length : Int) > 100000)))] (True) (by kernel_rfl) trivial ?_
    clear hk; intro a hk
    refine st_done ?_
    refine st_cond hk (C6 [1, 1, 0, 1, 0]) (C6 [1, 1, 0, 1, 1]) (.tmp 12) (decide ((p0.length : Int) > 100000)) (by kernel_rfl) (by kernel_rfl) (fun h4 => ?_) (fun h4 => ?_)
    ·
      have h5 : (p0.length : Int) > 100000 := of_decide_eq_true h4
      rw [if_pos h5] at H
      refine st_seq (C6 [1, 1, 0, 1, 0, 0]) (C6 [1, 1, 0, 1, 0, 1]) (by kernel_rfl) ?_
      refine st_region 4 (opsOf (C6 [1, 1, 0, 1, 0, 0])) [0, 1] (by kernel_rfl) (by kernel_rfl) ?_
      refine st_pure tabOK hk [0, 1] [] [4, 5] [(4, S ([])), (5, I 4)] (True) (by kernel_rfl) trivial ?_
      clear hk; intro a hk
      refine st_done ?_
      refine st_retG hk (by kernel_rfl) [S ([]), I 4] #[.tmp 4, .tmp 5] (by kernel_rfl) ⟨resT hk (by kernel_rfl), resT hk (by kernel_rfl), trivial⟩ ?_
      obtain rfl := Option.some.inj H
      exact ⟨_, rfl, rfl, ho⟩
    ·
      have h6 : ¬ ((p0.length : Int) > 100000) := of_decide_eq_false h4
      rw [if_neg h6] at H
      refine st_skip (by kernel_rfl) ?_
      refine st_seq (C6 [1, 1, 1, 0]) (C6 [1, 1, 1, 1]) (by kernel_rfl) ?_
      refine st_region 5 (opsOf (C6 [1, 1, 1, 0])) [0] (by kernel_rfl) (by kernel_rfl) ?_
      refine st_pure tabOK hk [0] [] [0, 1, 6] [(0, S p0), (1, I p1), (6, S ([]))] (True) (by kernel_rfl) trivial ?_
      clear hk; intro a hk
      refine st_done ?_
      refine st_seq (C6 [1, 1, 1, 1, 0]) (C6 [1, 1, 1, 1, 1]) (by kernel_rfl) ?_
      refine st_block 0 (C6 [1, 1, 1, 1, 0, 0]) (by kernel_rfl) ?_
      obtain ⟨m20, h21, H⟩ := Option.bind_eq_some_iff.1 H
      refine st_loop (C6 [1, 1, 1, 1, 0, 0, 0]) (by kernel_rfl) ?_
      refine sculleryref07_Encode.l0_ok K K p1 p0 ([]) m20 h21  w0 _ _ a w  (hk.to [0, 1, 6] _ (by kernel_rfl)) ho ?_
      · intro s22  a w e hk ho; have e := e.symm; subst e
        refine st_seq (C6 [1, 1, 1, 1, 1, 0]) (C6 [1, 1, 1, 1, 1, 1]) (by kernel_rfl) ?_
        refine st_region 10 (opsOf (C6 [1, 1, 1, 1, 1, 0])) [0, 1, 2, 3] (by kernel_rfl) (by kernel_rfl) ?_
        have h23 : s22.length + ([48, 13, 10, 13, 10]).length ≤ maxI := by
          by_cases h23 : s22.length + ([48, 13, 10, 13, 10]).length ≤ maxI
          · exact h23
          · rw [if_neg h23] at H; cases H
        rw [if_pos h23] at H
        refine st_pure tabOK hk [0, 1, 2, 3] [] [4, 5] [(4, S (s22 ++ ([48, 13, 10, 13, 10]))), (5, I 0)] (s22.length + ([48, 13, 10, 13, 10]).length ≤ maxI ∧ True) (by kernel_rfl) ⟨h23, trivial⟩ ?_
        clear hk; intro a hk
        refine st_done ?_
        refine st_retG hk (by kernel_rfl) [S (s22 ++ ([48, 13, 10, 13, 10])), I 0] #[.tmp 4, .tmp 5] (by kernel_rfl) ⟨resT hk (by kernel_rfl), resT hk (by kernel_rfl), trivial⟩ ?_
        obtain rfl := Option.some.inj H
        exact ⟨_, rfl, rfl, ho⟩


/-! scullery/sculleryref06.Line: function 17 -/
noncomputable def C17 (p : List Nat) : Code := Sub (bodyOf f17) p
def sculleryref06_Line.l0 : Nat → Str → Int → Option ((Unit) ⊕ (Str × Int × Int))
  | 0, _, _ => none
  | k + 1, p0, v1 => (if v1 < (p0.length : Int) then (if (0 : Int) ≤ v1 then (if ((bt p0 v1) != 10) = true then sculleryref06_Line.l0 k p0 (w64 (v1 + 1)) else (((if (v1 == 0) = true then some true else (if (0 : Int) ≤ w64 (v1 - 1) then (if w64 (v1 - 1) < (p0.length : Int) then some ((bt p0 (w64 (v1 - 1))) != 13) else none) else none))).bind fun m8 => (if m8 = true then some (.inr ([], 0, 2)) else (if w64 (v1 - 1) > 2000 then some (.inr ([], 0, 4)) else (if (0 : Int) ≤ w64 (v1 - 1) then (if w64 (v1 - 1) ≤ (p0.length : Int) then some (.inr (p0.take (w64 (v1 - 1)).toNat, w64 (v1 + 1), 0)) else none) else none))))) else none) else some (.inl ()))
def sculleryref06_Line.f (K : Nat) (p0 : Str) : Option (Str × Int × Int) := (((sculleryref06_Line.l0 K p0 0).bind fun m23 => match m23 with | .inl s25 => (if (p0.length : Int) > 2002 then some ([], 0, 4) else some ([], 0, 3)) | .inr r29 => some r29))
abbrev sculleryref06_Line.post (w0 : World) (r : Str × Int × Int) (u : Value) (w : World) : Prop := u = .tuple #[S r.1, I r.2.1, I r.2.2] ∧ Ows [] w0 w []
theorem sculleryref06_Line.l0_ok : ∀ (k : Nat) (p0 : Str) (v1 : Int) (out : (Unit) ⊕ (Str × Int × Int)), sculleryref06_Line.l0 k p0 v1 = some out → ∀ (w0 : World) (Q : Exit → Act → World → Prop) (rest : List It) (a : Act) (w : World), Kn 37 a [(0, S p0), (5, I v1)] → Ows [] w0 w [] → (∀ (s : Unit) (a : Act) (w : World), out = .inl s → Kn 37 a [(0, S p0)] → Ows [] w0 w [] → G Tryz.prog Q rest a w) → (∀ (r : Str × Int × Int) (a : Act) (w : World), out = .inr r → Kn 37 a [(2, S r.1), (3, I r.2.1), (4, I r.2.2)] → Ows [] w0 w [] → Q .ret a w) → G Tryz.prog Q (.code (C17 [1, 0, 1, 0, 0]) :: .inl (C17 [1, 0, 1, 0, 0]) :: .endb 0 :: rest) a w := by
  intro k
  induction k with
  | zero => intro p0 v1 out H; simp [sculleryref06_Line.l0] at H
  | succ k ih =>
    intro p0 v1 out H  w0 Q rest a w  hk ho J R
    simp only [sculleryref06_Line.l0] at H
    refine st_seq (C17 [1, 0, 1, 0, 0, 0]) (C17 [1, 0, 1, 0, 0, 1]) (by kernel_rfl) ?_
    refine st_seq (C17 [1, 0, 1, 0, 0, 0, 0]) (C17 [1, 0, 1, 0, 0, 0, 1]) (by kernel_rfl) ?_
    refine st_region 2 (opsOf (C17 [1, 0, 1, 0, 0, 0, 0])) [0, 1, 2, 3] (by kernel_rfl) (by kernel_rfl) ?_
    refine st_pure tabOK hk [0, 1, 2, 3] [] [0, 5, 9] [(0, S p0), (5, I v1), (9, .bool (decide (v1 < (p0.length : Int))))] (True) (by kernel_rfl) trivial ?_
    clear hk; intro a hk
    refine st_done ?_
    refine st_cond hk (C17 [1, 0, 1, 0, 0, 0, 1, 0]) (C17 [1, 0, 1, 0, 0, 0, 1, 1]) (.tmp 9) (decide (v1 < (p0.length : Int))) (by kernel_rfl) (by kernel_rfl) (fun h2 => ?_) (fun h2 => ?_)
    ·
      have h3 : v1 < (p0.length : Int) := of_decide_eq_true h2
      rw [if_pos h3] at H
      refine st_skip (by kernel_rfl) ?_
      refine st_seq (C17 [1, 0, 1, 0, 0, 1, 0]) (C17 [1, 0, 1, 0, 0, 1, 1]) (by kernel_rfl) ?_
      refine st_block 1 (C17 [1, 0, 1, 0, 0, 1, 0, 0]) (by kernel_rfl) ?_
      refine st_seq (C17 [1, 0, 1, 0, 0, 1, 0, 0, 0]) (C17 [1, 0, 1, 0, 0, 1, 0, 0, 1]) (by kernel_rfl) ?_
      refine st_seq (C17 [1, 0, 1, 0, 0, 1, 0, 0, 0, 0]) (C17 [1, 0, 1, 0, 0, 1, 0, 0, 0, 1]) (by kernel_rfl) ?_
      refine st_region 4 (opsOf (C17 [1, 0, 1, 0, 0, 1, 0, 0, 0, 0])) [0, 1, 2, 3] (by kernel_rfl) (by kernel_rfl) ?_
      have h4 : (0 : Int) ≤ v1 := by
        by_cases h4 : (0 : Int) ≤ v1
        · exact h4
        · rw [if_neg h4] at H; cases H
      rw [if_pos h4] at H
      refine st_pure tabOK hk [0, 1, 2, 3] [] [0, 5, 15] [(0, S p0), (5, I v1), (15, .bool ((bt p0 v1) != 10))] (((0 : Int) ≤ v1 ∧ v1 < (p0.length : Int)) ∧ True) (by kernel_rfl) ⟨⟨h4, h3⟩, trivial⟩ ?_
      clear hk; intro a hk
      refine st_done ?_
      refine st_cond hk (C17 [1, 0, 1, 0, 0, 1, 0, 0, 0, 1, 0]) (C17 [1, 0, 1, 0, 0, 1, 0, 0, 0, 1, 1]) (.tmp 15) ((bt p0 v1) != 10) (by kernel_rfl) (by kernel_rfl) (fun h5 => ?_) (fun h5 => ?_)
      ·
        have h6 : ((bt p0 v1) != 10) = true := h5
        rw [if_pos h6] at H
        refine st_exit 1 _ (by kernel_rfl) rfl ?_
        refine st_region 3 (opsOf (C17 [1, 0, 1, 0, 0, 1, 1])) [0, 1, 2] (by kernel_rfl) (by kernel_rfl) ?_
        refine st_pure tabOK hk [0, 1, 2] [] [0, 5] [(0, S p0), (5, I (w64 (v1 + 1)))] (True) (by kernel_rfl) trivial ?_
        clear hk; intro a hk
        refine st_done ?_
        refine st_inl ?_
        exact ih p0 (w64 (v1 + 1)) out H  w0 Q rest a w  (hk.to [0, 5] _ (by kernel_rfl)) ho J R
      ·
        have h7 : ¬ (((bt p0 v1) != 10) = true) := ne_true_of_eq_false h5
        rw [if_neg h7] at H
        refine st_skip (by kernel_rfl) ?_
        refine st_seq (C17 [1, 0, 1, 0, 0, 1, 0, 0, 1, 0]) (C17 [1, 0, 1, 0, 0, 1, 0, 0, 1, 1]) (by kernel_rfl) ?_
        refine st_seq (C17 [1, 0, 1, 0, 0, 1, 0, 0, 1, 0, 0]) (C17 [1, 0, 1, 0, 0, 1, 0, 0, 1, 0, 1]) (by kernel_rfl) ?_
        refine st_region 5 (opsOf (C17 [1, 0, 1, 0, 0, 1, 0, 0, 1, 0, 0])) [0, 1, 2, 3, 4, 5, 6, 7, 8] (by kernel_rfl) (by kernel_rfl) ?_
        refine st_pure tabOK hk [0, 1, 2] [3, 4, 5, 6, 7, 8] [0, 5, 18] [(0, S p0), (5, I v1), (18, .bool (v1 == 0))] (True) (by kernel_rfl) trivial ?_
        clear hk; intro a hk
        obtain ⟨m8, HX, H⟩ := Option.bind_eq_some_iff.1 H
        refine cut_ops (fun a w => Kn 37 a [(0, S p0), (5, I v1), (24, .bool m8)] ∧ Ows [] w0 w []) ?_ ?_
        · intro J; clear H; have H := HX; clear HX
          rcases Bool.eq_false_or_eq_true (v1 == 0) with h9 | h9
          ·
            rw [h9] at hk
            have h10 : (v1 == 0) = true := h9
            rw [if_pos h10] at H
            refine st_pure tabOK hk [3, 4, 5, 6, 7, 8] [] [0, 5, 24] [(0, S p0), (5, I v1), (24, .bool true)] (True) (by kernel_rfl) trivial ?_
            clear hk; intro a hk
            refine st_done ?_
            obtain rfl := Option.some.inj H
            exact J a w ⟨hk.to [0, 5, 24] _ (by kernel_rfl), ho⟩
          ·
            rw [h9] at hk
            have h11 : ¬ ((v1 == 0) = true) := ne_true_of_eq_false h9
            rw [if_neg h11] at H
            have h12 : (0 : Int) ≤ w64 (v1 - 1) := by
              by_cases h12 : (0 : Int) ≤ w64 (v1 - 1)
              · exact h12
              · rw [if_neg h12] at H; cases H
            rw [if_pos h12] at H
            have h13 : w64 (v1 - 1) < (p0.length : Int) := by
              by_cases h13 : w64 (v1 - 1) < (p0.length : Int)
              · exact h13
              · rw [if_neg h13] at H; cases H
            rw [if_pos h13] at H
            refine st_pure tabOK hk [3, 4, 5, 6, 7, 8] [] [0, 5, 24] [(0, S p0), (5, I v1), (24, .bool ((bt p0 (w64 (v1 - 1))) != 13))] (((0 : Int) ≤ w64 (v1 - 1) ∧ w64 (v1 - 1) < (p0.length : Int)) ∧ True) (by kernel_rfl) ⟨⟨h12, h13⟩, trivial⟩ ?_
            clear hk; intro a hk
            refine st_done ?_
            obtain rfl := Option.some.inj H
            exact J a w ⟨hk.to [0, 5, 24] _ (by kernel_rfl), ho⟩
        · clear HX; rintro a w ⟨hk, ho⟩
          refine st_cond hk (C17 [1, 0, 1, 0, 0, 1, 0, 0, 1, 0, 1, 0]) (C17 [1, 0, 1, 0, 0, 1, 0, 0, 1, 0, 1, 1]) (.tmp 24) (m8) (by kernel_rfl) (by kernel_rfl) (fun h14 => ?_) (fun h14 => ?_)
          ·
            have h15 : m8 = true := h14
            rw [if_pos h15] at H
            refine st_seq (C17 [1, 0, 1, 0, 0, 1, 0, 0, 1, 0, 1, 0, 0]) (C17 [1, 0, 1, 0, 0, 1, 0, 0, 1, 0, 1, 0, 1]) (by kernel_rfl) ?_
            refine st_region 6 (opsOf (C17 [1, 0, 1, 0, 0, 1, 0, 0, 1, 0, 1, 0, 0])) [0, 1, 2] (by kernel_rfl) (by kernel_rfl) ?_
            refine st_pure tabOK hk [0, 1, 2] [] [2, 3, 4] [(2, S ([])), (3, I 0), (4, I 2)] (True) (by kernel_rfl) trivial ?_
            clear hk; intro a hk
            refine st_done ?_
            refine st_ret (by kernel_rfl) ?_
            obtain rfl := Option.some.inj H
            exact R ([], 0, 2)  a w rfl (hk.to [2, 3, 4] _ (by kernel_rfl)) ho
          ·
            have h16 : ¬ (m8 = true) := ne_true_of_eq_false h14
            rw [if_neg h16] at H
            refine st_skip (by kernel_rfl) ?_
            refine st_seq (C17 [1, 0, 1, 0, 0, 1, 0, 0, 1, 1, 0]) (C17 [1, 0, 1, 0, 0, 1, 0, 0, 1, 1, 1]) (by kernel_rfl) ?_
            refine st_seq (C17 [1, 0, 1, 0, 0, 1, 0, 0, 1, 1, 0, 0]) (C17 [1, 0, 1, 0, 0, 1, 0, 0, 1, 1, 0, 1]) (by kernel_rfl) ?_
            refine st_region 7 (opsOf (C17 [1, 0, 1, 0, 0, 1, 0, 0, 1, 1, 0, 0])) [0, 1, 2] (by kernel_rfl) (by kernel_rfl) ?_
            refine st_pure tabOK hk [0, 1, 2] [] [0, 5, 27] [(0, S p0), (5, I v1), (27, .bool (decide (w64 (v1 - 1) > 2000)))] (True) (by kernel_rfl) trivial ?_
            clear hk; intro a hk
            refine st_done ?_
            refine st_cond hk (C17 [1, 0, 1, 0, 0, 1, 0, 0, 1, 1, 0, 1, 0]) (C17 [1, 0, 1, 0, 0, 1, 0, 0, 1, 1, 0, 1, 1]) (.tmp 27) (decide (w64 (v1 - 1) > 2000)) (by kernel_rfl) (by kernel_rfl) (fun h17 => ?_) (fun h17 => ?_)
            ·
              have h18 : w64 (v1 - 1) > 2000 := of_decide_eq_true h17
              rw [if_pos h18] at H
              refine st_seq (C17 [1, 0, 1, 0, 0, 1, 0, 0, 1, 1, 0, 1, 0, 0]) (C17 [1, 0, 1, 0, 0, 1, 0, 0, 1, 1, 0, 1, 0, 1]) (by kernel_rfl) ?_
              refine st_region 8 (opsOf (C17 [1, 0, 1, 0, 0, 1, 0, 0, 1, 1, 0, 1, 0, 0])) [0, 1, 2] (by kernel_rfl) (by kernel_rfl) ?_
              refine st_pure tabOK hk [0, 1, 2] [] [2, 3, 4] [(2, S ([])), (3, I 0), (4, I 4)] (True) (by kernel_rfl) trivial ?_
              clear hk; intro a hk
              refine st_done ?_
              refine st_ret (by kernel_rfl) ?_
              obtain rfl := Option.some.inj H
              exact R ([], 0, 4)  a w rfl (hk.to [2, 3, 4] _ (by kernel_rfl)) ho
            ·
              have h19 : ¬ (w64 (v1 - 1) > 2000) := of_decide_eq_false h17
              rw [if_neg h19] at H
              refine st_skip (by kernel_rfl) ?_
              refine st_seq (C17 [1, 0, 1, 0, 0, 1, 0, 0, 1, 1, 1, 0]) (C17 [1, 0, 1, 0, 0, 1, 0, 0, 1, 1, 1, 1]) (by kernel_rfl) ?_
              refine st_region 9 (opsOf (C17 [1, 0, 1, 0, 0, 1, 0, 0, 1, 1, 1, 0])) [0, 1, 2, 3, 4, 5, 6, 7, 8] (by kernel_rfl) (by kernel_rfl) ?_
              have h20 : (0 : Int) ≤ w64 (v1 - 1) := by
                by_cases h20 : (0 : Int) ≤ w64 (v1 - 1)
                · exact h20
                · rw [if_neg h20] at H; cases H
              rw [if_pos h20] at H
              have h21 : w64 (v1 - 1) ≤ (p0.length : Int) := by
                by_cases h21 : w64 (v1 - 1) ≤ (p0.length : Int)
                · exact h21
                · rw [if_neg h21] at H; cases H
              rw [if_pos h21] at H
              refine st_pure tabOK hk [0, 1, 2, 3, 4, 5, 6, 7, 8] [] [2, 3, 4] [(2, S (p0.take (w64 (v1 - 1)).toNat)), (3, I (w64 (v1 + 1))), (4, I 0)] (((0 : Int) ≤ w64 (v1 - 1) ∧ w64 (v1 - 1) ≤ (p0.length : Int)) ∧ True) (by kernel_rfl) ⟨⟨h20, h21⟩, trivial⟩ ?_
              clear hk; intro a hk
              refine st_done ?_
              refine st_ret (by kernel_rfl) ?_
              obtain rfl := Option.some.inj H
              exact R (p0.take (w64 (v1 - 1)).toNat, w64 (v1 + 1), 0)  a w rfl (hk.to [2, 3, 4] _ (by kernel_rfl)) ho
    ·
      have h22 : ¬ (v1 < (p0.length : Int)) := of_decide_eq_false h2
      rw [if_neg h22] at H
      refine st_exit 0 _ (by kernel_rfl) rfl ?_
      obtain rfl := Option.some.inj H
      exact J ()  a w rfl (hk.to [0] _ (by kernel_rfl)) ho

theorem sculleryref06_Line.ok (K : Nat) (p0 : Str) (r : Str × Int × Int) (H : sculleryref06_Line.f K p0 = some r) (w0 : World)  : Calls Tryz.prog 17 ⟨[S p0]⟩ w0 fun e w => ∃ u, e = .returned u ∧ sculleryref06_Line.post w0 r u w := by
  unfold sculleryref06_Line.f at H
  refine st_start (N := 37) [S p0] (C17 []) func17 (by kernel_rfl) (by kernel_rfl) (by kernel_rfl) ?_
  intro a w hk ho
  refine st_seq (C17 [0]) (C17 [1]) (by kernel_rfl) ?_
  refine st_region 0 (opsOf (C17 [0])) [0, 1, 2] (by kernel_rfl) (by kernel_rfl) ?_
  refine st_pure tabOK hk [0, 1, 2] [] [0] [(0, S p0)] (True) (by kernel_rfl) trivial ?_
  clear hk; intro a hk
  refine st_done ?_
  refine st_seq (C17 [1, 0]) (C17 [1, 1]) (by kernel_rfl) ?_
  refine st_seq (C17 [1, 0, 0]) (C17 [1, 0, 1]) (by kernel_rfl) ?_
  refine st_region 1 (opsOf (C17 [1, 0, 0])) [0] (by kernel_rfl) (by kernel_rfl) ?_
  refine st_pure tabOK hk [0] [] [0, 5] [(0, S p0), (5, I 0)] (True) (by kernel_rfl) trivial ?_
  clear hk; intro a hk
  refine st_done ?_
  refine st_block 0 (C17 [1, 0, 1, 0]) (by kernel_rfl) ?_
  obtain ⟨m23, h24, H⟩ := Option.bind_eq_some_iff.1 H
  refine st_loop (C17 [1, 0, 1, 0, 0]) (by kernel_rfl) ?_
  refine sculleryref06_Line.l0_ok K p0 0 m23 h24  w0 _ _ a w  (hk.to [0, 5] _ (by kernel_rfl)) ho ?_ ?_
  · intro s25  a w e hk ho; subst e
    simp only [] at H
    refine st_seq (C17 [1, 1, 0]) (C17 [1, 1, 1]) (by kernel_rfl) ?_
    refine st_seq (C17 [1, 1, 0, 0]) (C17 [1, 1, 0, 1]) (by kernel_rfl) ?_
    refine st_region 10 (opsOf (C17 [1, 1, 0, 0])) [0, 1, 2] (by kernel_rfl) (by kernel_rfl) ?_
    refine st_pure tabOK hk [0, 1, 2] [] [36] [(36, .bool (decide ((p0.length : Int) > 2002)))] (True) (by kernel_rfl) trivial ?_
    clear hk; intro a hk
    refine st_done ?_
    refine st_cond hk (C17 [1, 1, 0, 1, 0]) (C17 [1, 1, 0, 1, 1]) (.tmp 36) (decide ((p0.length : Int) > 2002)) (by kernel_rfl) (by kernel_rfl) (fun h26 => ?_) (fun h26 => ?_)
    ·
      have h27 : (p0.length : Int) > 2002 := of_decide_eq_true h26
      rw [if_pos h27] at H
      refine st_seq (C17 [1, 1, 0, 1, 0, 0]) (C17 [1, 1, 0, 1, 0, 1]) (by kernel_rfl) ?_
      refine st_region 11 (opsOf (C17 [1, 1, 0, 1, 0, 0])) [0, 1, 2] (by kernel_rfl) (by kernel_rfl) ?_
      refine st_pure tabOK hk [0, 1, 2] [] [2, 3, 4] [(2, S ([])), (3, I 0), (4, I 4)] (True) (by kernel_rfl) trivial ?_
      clear hk; intro a hk
      refine st_done ?_
      refine st_retG hk (by kernel_rfl) [S ([]), I 0, I 4] #[.tmp 2, .tmp 3, .tmp 4] (by kernel_rfl) ⟨resT hk (by kernel_rfl), resT hk (by kernel_rfl), resT hk (by kernel_rfl), trivial⟩ ?_
      obtain rfl := Option.some.inj H
      exact ⟨_, rfl, rfl, ho⟩
    ·
      have h28 : ¬ ((p0.length : Int) > 2002) := of_decide_eq_false h26
      rw [if_neg h28] at H
      refine st_skip (by kernel_rfl) ?_
      refine st_seq (C17 [1, 1, 1, 0]) (C17 [1, 1, 1, 1]) (by kernel_rfl) ?_
      refine st_region 12 (opsOf (C17 [1, 1, 1, 0])) [0, 1, 2] (by kernel_rfl) (by kernel_rfl) ?_
      refine st_pure tabOK hk [0, 1, 2] [] [2, 3, 4] [(2, S ([])), (3, I 0), (4, I 3)] (True) (by kernel_rfl) trivial ?_
      clear hk; intro a hk
      refine st_done ?_
      refine st_retG hk (by kernel_rfl) [S ([]), I 0, I 3] #[.tmp 2, .tmp 3, .tmp 4] (by kernel_rfl) ⟨resT hk (by kernel_rfl), resT hk (by kernel_rfl), resT hk (by kernel_rfl), trivial⟩ ?_
      obtain rfl := Option.some.inj H
      exact ⟨_, rfl, rfl, ho⟩
  · intro r29  a w e hk ho; subst e
    simp only [] at H
    refine retG hk [S r29.1, I r29.2.1, I r29.2.2] #[.tmp 2, .tmp 3, .tmp 4] (by kernel_rfl) ⟨resT hk (by kernel_rfl), resT hk (by kernel_rfl), resT hk (by kernel_rfl), trivial⟩ ?_
    obtain rfl := Option.some.inj H
    exact ⟨_, rfl, rfl, ho⟩


/-! scullery/sculleryref07.digit: function 31 -/
noncomputable def C31 (p : List Nat) : Code := Sub (bodyOf f31) p
def sculleryref07_digit.l0 : Nat → Int → Int → Option ((Unit) ⊕ (Int))
  | 0, _, _ => none
  | k + 1, p0, v1 => (if v1 < 16 then (if (0 : Int) ≤ v1 then (if v1 < (([48, 49, 50, 51, 52, 53, 54, 55, 56, 57, 97, 98, 99, 100, 101, 102]).length : Int) then (if (((bt ([48, 49, 50, 51, 52, 53, 54, 55, 56, 57, 97, 98, 99, 100, 101, 102]) v1) == p0) || ((decide (v1 > 9)) && ((w8 ((bt ([48, 49, 50, 51, 52, 53, 54, 55, 56, 57, 97, 98, 99, 100, 101, 102]) v1) - 32)) == p0))) = true then some (.inr v1) else sculleryref07_digit.l0 k p0 (w64 (v1 + 1))) else none) else none) else some (.inl ()))
def sculleryref07_digit.f (K : Nat) (p0 : Int) : Option (Int) := (((sculleryref07_digit.l0 K p0 0).bind fun m16 => match m16 with | .inl s18 => some (-1) | .inr r19 => some r19))
abbrev sculleryref07_digit.post (w0 : World) (r : Int) (u : Value) (w : World) : Prop := u = I r ∧ Ows [] w0 w []
theorem sculleryref07_digit.l0_ok : ∀ (k : Nat) (p0 : Int) (v1 : Int) (out : (Unit) ⊕ (Int)), sculleryref07_digit.l0 k p0 v1 = some out → ∀ (w0 : World) (Q : Exit → Act → World → Prop) (rest : List It) (a : Act) (w : World), Kn 27 a [(0, .int .u8 p0), (3, S ([48, 49, 50, 51, 52, 53, 54, 55, 56, 57, 97, 98, 99, 100, 101, 102])), (4, I v1)] → Ows [] w0 w [] → (∀ (s : Unit) (a : Act) (w : World), out = .inl s → Kn 27 a [] → Ows [] w0 w [] → G Tryz.prog Q rest a w) → (∀ (r : Int) (a : Act) (w : World), out = .inr r → Kn 27 a [(2, I r)] → Ows [] w0 w [] → Q .ret a w) → G Tryz.prog Q (.code (C31 [1, 1, 0, 1, 0, 0]) :: .inl (C31 [1, 1, 0, 1, 0, 0]) :: .endb 0 :: rest) a w := by
  intro k
  induction k with
  | zero => intro p0 v1 out H; simp [sculleryref07_digit.l0] at H
  | succ k ih =>
    intro p0 v1 out H  w0 Q rest a w  hk ho J R
    simp only [sculleryref07_digit.l0] at H
    refine st_seq (C31 [1, 1, 0, 1, 0, 0, 0]) (C31 [1, 1, 0, 1, 0, 0, 1]) (by kernel_rfl) ?_
    refine st_seq (C31 [1, 1, 0, 1, 0, 0, 0, 0]) (C31 [1, 1, 0, 1, 0, 0, 0, 1]) (by kernel_rfl) ?_
    refine st_region 3 (opsOf (C31 [1, 1, 0, 1, 0, 0, 0, 0])) [0, 1] (by kernel_rfl) (by kernel_rfl) ?_
    refine st_pure tabOK hk [0, 1] [] [0, 3, 4, 6] [(0, .int .u8 p0), (3, S ([48, 49, 50, 51, 52, 53, 54, 55, 56, 57, 97, 98, 99, 100, 101, 102])), (4, I v1), (6, .bool (decide (v1 < 16)))] (True) (by kernel_rfl) trivial ?_
    clear hk; intro a hk
    refine st_done ?_
    refine st_cond hk (C31 [1, 1, 0, 1, 0, 0, 0, 1, 0]) (C31 [1, 1, 0, 1, 0, 0, 0, 1, 1]) (.tmp 6) (decide (v1 < 16)) (by kernel_rfl) (by kernel_rfl) (fun h2 => ?_) (fun h2 => ?_)
    ·
      have h3 : v1 < 16 := of_decide_eq_true h2
      rw [if_pos h3] at H
      refine st_skip (by kernel_rfl) ?_
      refine st_seq (C31 [1, 1, 0, 1, 0, 0, 1, 0]) (C31 [1, 1, 0, 1, 0, 0, 1, 1]) (by kernel_rfl) ?_
      refine st_block 1 (C31 [1, 1, 0, 1, 0, 0, 1, 0, 0]) (by kernel_rfl) ?_
      refine st_seq (C31 [1, 1, 0, 1, 0, 0, 1, 0, 0, 0]) (C31 [1, 1, 0, 1, 0, 0, 1, 0, 0, 1]) (by kernel_rfl) ?_
      refine st_region 5 (opsOf (C31 [1, 1, 0, 1, 0, 0, 1, 0, 0, 0])) [0, 1, 2, 3, 4, 5, 6, 7, 8, 9, 10, 11, 12, 13, 14, 15, 16] (by kernel_rfl) (by kernel_rfl) ?_
      have h4 : (0 : Int) ≤ v1 := by
        by_cases h4 : (0 : Int) ≤ v1
        · exact h4
        · rw [if_neg h4] at H; cases H
      rw [if_pos h4] at H
      have h5 : v1 < (([48, 49, 50, 51, 52, 53, 54, 55, 56, 57, 97, 98, 99, 100, 101, 102]).length : Int) := by
        by_cases h5 : v1 < (([48, 49, 50, 51, 52, 53, 54, 55, 56, 57, 97, 98, 99, 100, 101, 102]).length : Int)
        · exact h5
        · rw [if_neg h5] at H; cases H
      rw [if_pos h5] at H
      refine st_pure tabOK hk [0, 1, 2, 3, 4, 5] [6, 7, 8, 9, 10, 11, 12, 13, 14, 15, 16] [0, 3, 4, 14] [(0, .int .u8 p0), (3, S ([48, 49, 50, 51, 52, 53, 54, 55, 56, 57, 97, 98, 99, 100, 101, 102])), (4, I v1), (14, .bool ((bt ([48, 49, 50, 51, 52, 53, 54, 55, 56, 57, 97, 98, 99, 100, 101, 102]) v1) == p0))] (((0 : Int) ≤ v1 ∧ v1 < (([48, 49, 50, 51, 52, 53, 54, 55, 56, 57, 97, 98, 99, 100, 101, 102]).length : Int)) ∧ True) (by kernel_rfl) ⟨⟨h4, h5⟩, trivial⟩ ?_
      clear hk; intro a hk
      refine cut_ops (fun a w => Kn 27 a [(0, .int .u8 p0), (3, S ([48, 49, 50, 51, 52, 53, 54, 55, 56, 57, 97, 98, 99, 100, 101, 102])), (4, I v1), (25, .bool (((bt ([48, 49, 50, 51, 52, 53, 54, 55, 56, 57, 97, 98, 99, 100, 101, 102]) v1) == p0) || ((decide (v1 > 9)) && ((w8 ((bt ([48, 49, 50, 51, 52, 53, 54, 55, 56, 57, 97, 98, 99, 100, 101, 102]) v1) - 32)) == p0))))] ∧ Ows [] w0 w []) ?_ ?_
      · intro J
        rcases Bool.eq_false_or_eq_true ((bt ([48, 49, 50, 51, 52, 53, 54, 55, 56, 57, 97, 98, 99, 100, 101, 102]) v1) == p0) with h6 | h6
        ·
          rw [h6] at hk
          have h7 : ((bt ([48, 49, 50, 51, 52, 53, 54, 55, 56, 57, 97, 98, 99, 100, 101, 102]) v1) == p0) = true := h6
          refine st_pure tabOK hk [6, 7, 8, 9, 10, 11, 12, 13, 14, 15, 16] [] [0, 3, 4, 25] [(0, .int .u8 p0), (3, S ([48, 49, 50, 51, 52, 53, 54, 55, 56, 57, 97, 98, 99, 100, 101, 102])), (4, I v1), (25, .bool true)] (True) (by kernel_rfl) trivial ?_
          clear hk; intro a hk
          refine st_done ?_
          have e : (((bt ([48, 49, 50, 51, 52, 53, 54, 55, 56, 57, 97, 98, 99, 100, 101, 102]) v1) == p0) || ((decide (v1 > 9)) && ((w8 ((bt ([48, 49, 50, 51, 52, 53, 54, 55, 56, 57, 97, 98, 99, 100, 101, 102]) v1) - 32)) == p0))) = true := by first | (simp only [h6]; done) | (simp only [h6]; rfl) | rfl | simp [h6]
          exact J a w ⟨by rw [e]; exact hk.to [0, 3, 4, 25] _ (by kernel_rfl), ho⟩
        ·
          rw [h6] at hk
          have h8 : ¬ (((bt ([48, 49, 50, 51, 52, 53, 54, 55, 56, 57, 97, 98, 99, 100, 101, 102]) v1) == p0) = true) := ne_true_of_eq_false h6
          refine st_pure tabOK hk [6, 7, 8] [9, 10, 11, 12, 13, 14, 15, 16] [0, 3, 4, 14, 17] [(0, .int .u8 p0), (3, S ([48, 49, 50, 51, 52, 53, 54, 55, 56, 57, 97, 98, 99, 100, 101, 102])), (4, I v1), (14, .bool false), (17, .bool (decide (v1 > 9)))] (True) (by kernel_rfl) trivial ?_
          clear hk; intro a hk
          rcases Bool.eq_false_or_eq_true (decide (v1 > 9)) with h9 | h9
          ·
            rw [h9] at hk
            have h10 : v1 > 9 := of_decide_eq_true h9
            refine st_pure tabOK hk [9, 10, 11, 12, 13, 14, 15, 16] [] [0, 3, 4, 25] [(0, .int .u8 p0), (3, S ([48, 49, 50, 51, 52, 53, 54, 55, 56, 57, 97, 98, 99, 100, 101, 102])), (4, I v1), (25, .bool ((w8 ((bt ([48, 49, 50, 51, 52, 53, 54, 55, 56, 57, 97, 98, 99, 100, 101, 102]) v1) - 32)) == p0))] (((0 : Int) ≤ v1 ∧ v1 < (([48, 49, 50, 51, 52, 53, 54, 55, 56, 57, 97, 98, 99, 100, 101, 102]).length : Int)) ∧ True) (by kernel_rfl) ⟨⟨h4, h5⟩, trivial⟩ ?_
            clear hk; intro a hk
            refine st_done ?_
            have e : (((bt ([48, 49, 50, 51, 52, 53, 54, 55, 56, 57, 97, 98, 99, 100, 101, 102]) v1) == p0) || ((decide (v1 > 9)) && ((w8 ((bt ([48, 49, 50, 51, 52, 53, 54, 55, 56, 57, 97, 98, 99, 100, 101, 102]) v1) - 32)) == p0))) = ((w8 ((bt ([48, 49, 50, 51, 52, 53, 54, 55, 56, 57, 97, 98, 99, 100, 101, 102]) v1) - 32)) == p0) := by first | (simp only [h6, h9]; done) | (simp only [h6, h9]; rfl) | rfl | simp [h6, h9]
            exact J a w ⟨by rw [e]; exact hk.to [0, 3, 4, 25] _ (by kernel_rfl), ho⟩
          ·
            rw [h9] at hk
            have h11 : ¬ (v1 > 9) := of_decide_eq_false h9
            refine st_pure tabOK hk [9, 10, 11, 12, 13, 14, 15, 16] [] [0, 3, 4, 25] [(0, .int .u8 p0), (3, S ([48, 49, 50, 51, 52, 53, 54, 55, 56, 57, 97, 98, 99, 100, 101, 102])), (4, I v1), (25, .bool false)] (True) (by kernel_rfl) trivial ?_
            clear hk; intro a hk
            refine st_done ?_
            have e : (((bt ([48, 49, 50, 51, 52, 53, 54, 55, 56, 57, 97, 98, 99, 100, 101, 102]) v1) == p0) || ((decide (v1 > 9)) && ((w8 ((bt ([48, 49, 50, 51, 52, 53, 54, 55, 56, 57, 97, 98, 99, 100, 101, 102]) v1) - 32)) == p0))) = false := by first | (simp only [h6, h9]; done) | (simp only [h6, h9]; rfl) | rfl | simp [h6, h9]
            exact J a w ⟨by rw [e]; exact hk.to [0, 3, 4, 25] _ (by kernel_rfl), ho⟩
      · rintro a w ⟨hk, ho⟩
        refine st_cond hk (C31 [1, 1, 0, 1, 0, 0, 1, 0, 0, 1, 0]) (C31 [1, 1, 0, 1, 0, 0, 1, 0, 0, 1, 1]) (.tmp 25) ((((bt ([48, 49, 50, 51, 52, 53, 54, 55, 56, 57, 97, 98, 99, 100, 101, 102]) v1) == p0) || ((decide (v1 > 9)) && ((w8 ((bt ([48, 49, 50, 51, 52, 53, 54, 55, 56, 57, 97, 98, 99, 100, 101, 102]) v1) - 32)) == p0)))) (by kernel_rfl) (by kernel_rfl) (fun h12 => ?_) (fun h12 => ?_)
        ·
          have h13 : (((bt ([48, 49, 50, 51, 52, 53, 54, 55, 56, 57, 97, 98, 99, 100, 101, 102]) v1) == p0) || ((decide (v1 > 9)) && ((w8 ((bt ([48, 49, 50, 51, 52, 53, 54, 55, 56, 57, 97, 98, 99, 100, 101, 102]) v1) - 32)) == p0))) = true := h12
          rw [if_pos h13] at H
          refine st_seq (C31 [1, 1, 0, 1, 0, 0, 1, 0, 0, 1, 0, 0]) (C31 [1, 1, 0, 1, 0, 0, 1, 0, 0, 1, 0, 1]) (by kernel_rfl) ?_
          refine st_region 6 (opsOf (C31 [1, 1, 0, 1, 0, 0, 1, 0, 0, 1, 0, 0])) [0, 1] (by kernel_rfl) (by kernel_rfl) ?_
          refine st_pure tabOK hk [0, 1] [] [2] [(2, I v1)] (True) (by kernel_rfl) trivial ?_
          clear hk; intro a hk
          refine st_done ?_
          refine st_ret (by kernel_rfl) ?_
          obtain rfl := Option.some.inj H
          exact R v1  a w rfl (hk.to [2] _ (by kernel_rfl)) ho
        ·
          have h14 : ¬ ((((bt ([48, 49, 50, 51, 52, 53, 54, 55, 56, 57, 97, 98, 99, 100, 101, 102]) v1) == p0) || ((decide (v1 > 9)) && ((w8 ((bt ([48, 49, 50, 51, 52, 53, 54, 55, 56, 57, 97, 98, 99, 100, 101, 102]) v1) - 32)) == p0))) = true) := ne_true_of_eq_false h12
          rw [if_neg h14] at H
          refine st_skip (by kernel_rfl) ?_
          refine st_endb 1 ?_
          refine st_region 4 (opsOf (C31 [1, 1, 0, 1, 0, 0, 1, 1])) [0, 1, 2] (by kernel_rfl) (by kernel_rfl) ?_
          refine st_pure tabOK hk [0, 1, 2] [] [0, 3, 4] [(0, .int .u8 p0), (3, S ([48, 49, 50, 51, 52, 53, 54, 55, 56, 57, 97, 98, 99, 100, 101, 102])), (4, I (w64 (v1 + 1)))] (True) (by kernel_rfl) trivial ?_
          clear hk; intro a hk
          refine st_done ?_
          refine st_inl ?_
          exact ih p0 (w64 (v1 + 1)) out H  w0 Q rest a w  (hk.to [0, 3, 4] _ (by kernel_rfl)) ho J R
    ·
      have h15 : ¬ (v1 < 16) := of_decide_eq_false h2
      rw [if_neg h15] at H
      refine st_exit 0 _ (by kernel_rfl) rfl ?_
      obtain rfl := Option.some.inj H
      exact J ()  a w rfl (hk.to [] _ (by kernel_rfl)) ho

theorem sculleryref07_digit.ok (K : Nat) (p0 : Int) (r : Int) (H : sculleryref07_digit.f K p0 = some r) (w0 : World)  : Calls Tryz.prog 31 ⟨[.int .u8 p0]⟩ w0 fun e w => ∃ u, e = .returned u ∧ sculleryref07_digit.post w0 r u w := by
  unfold sculleryref07_digit.f at H
  refine st_start (N := 27) [.int .u8 p0] (C31 []) func31 (by kernel_rfl) (by kernel_rfl) (by kernel_rfl) ?_
  intro a w hk ho
  refine st_seq (C31 [0]) (C31 [1]) (by kernel_rfl) ?_
  refine st_region 0 (opsOf (C31 [0])) [0] (by kernel_rfl) (by kernel_rfl) ?_
  refine st_pure tabOK hk [0] [] [0] [(0, .int .u8 p0)] (True) (by kernel_rfl) trivial ?_
  clear hk; intro a hk
  refine st_done ?_
  refine st_seq (C31 [1, 0]) (C31 [1, 1]) (by kernel_rfl) ?_
  refine st_region 1 (opsOf (C31 [1, 0])) [0] (by kernel_rfl) (by kernel_rfl) ?_
  refine st_pure tabOK hk [0] [] [0, 3] [(0, .int .u8 p0), (3, S ([48, 49, 50, 51, 52, 53, 54, 55, 56, 57, 97, 98, 99, 100, 101, 102]))] (True) (by kernel_rfl) trivial ?_
  clear hk; intro a hk
  refine st_done ?_
  refine st_seq (C31 [1, 1, 0]) (C31 [1, 1, 1]) (by kernel_rfl) ?_
  refine st_seq (C31 [1, 1, 0, 0]) (C31 [1, 1, 0, 1]) (by kernel_rfl) ?_
  refine st_region 2 (opsOf (C31 [1, 1, 0, 0])) [0] (by kernel_rfl) (by kernel_rfl) ?_
  refine st_pure tabOK hk [0] [] [0, 3, 4] [(0, .int .u8 p0), (3, S ([48, 49, 50, 51, 52, 53, 54, 55, 56, 57, 97, 98, 99, 100, 101, 102])), (4, I 0)] (True) (by kernel_rfl) trivial ?_
  clear hk; intro a hk
  refine st_done ?_
  refine st_block 0 (C31 [1, 1, 0, 1, 0]) (by kernel_rfl) ?_
  obtain ⟨m16, h17, H⟩ := Option.bind_eq_some_iff.1 H
  refine st_loop (C31 [1, 1, 0, 1, 0, 0]) (by kernel_rfl) ?_
  refine sculleryref07_digit.l0_ok K p0 0 m16 h17  w0 _ _ a w  (hk.to [0, 3, 4] _ (by kernel_rfl)) ho ?_ ?_
  · intro s18  a w e hk ho; subst e
    simp only [] at H
    refine st_seq (C31 [1, 1, 1, 0]) (C31 [1, 1, 1, 1]) (by kernel_rfl) ?_
    refine st_region 7 (opsOf (C31 [1, 1, 1, 0])) [0] (by kernel_rfl) (by kernel_rfl) ?_
    refine st_pure tabOK hk [0] [] [2] [(2, I (-1))] (True) (by kernel_rfl) trivial ?_
    clear hk; intro a hk
    refine st_done ?_
    refine st_retG hk (by kernel_rfl) [I (-1)] #[.tmp 2] (by kernel_rfl) ⟨resT hk (by kernel_rfl), trivial⟩ ?_
    obtain rfl := Option.some.inj H
    exact ⟨_, rfl, rfl, ho⟩
  · intro r19  a w e hk ho; subst e
    simp only [] at H
    refine retG hk [I r19] #[.tmp 2] (by kernel_rfl) ⟨resT hk (by kernel_rfl), trivial⟩ ?_
    obtain rfl := Option.some.inj H
    exact ⟨_, rfl, rfl, ho⟩


/-! scullery/sculleryref01.blank: function 57 -/
noncomputable def C57 (p : List Nat) : Code := Sub (bodyOf f57) p
def sculleryref01_blank.f (p0 : Int) : Option (Bool) := some ((p0 == 32) || (p0 == 9))
abbrev sculleryref01_blank.post (w0 : World) (r : Bool) (u : Value) (w : World) : Prop := u = .bool r ∧ Ows [] w0 w []
theorem sculleryref01_blank.ok (p0 : Int) (r : Bool) (H : sculleryref01_blank.f p0 = some r) (w0 : World)  : Calls Tryz.prog 57 ⟨[.int .u8 p0]⟩ w0 fun e w => ∃ u, e = .returned u ∧ sculleryref01_blank.post w0 r u w := by
  unfold sculleryref01_blank.f at H
  refine st_start (N := 9) [.int .u8 p0] (C57 []) func57 (by kernel_rfl) (by kernel_rfl) (by kernel_rfl) ?_
  intro a w hk ho
  refine st_seq (C57 [0]) (C57 [1]) (by kernel_rfl) ?_
  refine st_region 0 (opsOf (C57 [0])) [0] (by kernel_rfl) (by kernel_rfl) ?_
  refine st_pure tabOK hk [0] [] [0] [(0, .int .u8 p0)] (True) (by kernel_rfl) trivial ?_
  clear hk; intro a hk
  refine st_done ?_
  refine st_seq (C57 [1, 0]) (C57 [1, 1]) (by kernel_rfl) ?_
  refine st_region 1 (opsOf (C57 [1, 0])) [0, 1, 2, 3, 4, 5, 6] (by kernel_rfl) (by kernel_rfl) ?_
  refine st_pure tabOK hk [0, 1, 2] [3, 4, 5, 6] [0, 5] [(0, .int .u8 p0), (5, .bool (p0 == 32))] (True) (by kernel_rfl) trivial ?_
  clear hk; intro a hk
  refine cut_ops (fun a w => Kn 9 a [(2, .bool ((p0 == 32) || (p0 == 9)))] ∧ Ows [] w0 w []) ?_ ?_
  · intro J
    rcases Bool.eq_false_or_eq_true (p0 == 32) with h1 | h1
    ·
      rw [h1] at hk
      have h2 : (p0 == 32) = true := h1
      refine st_pure tabOK hk [3, 4, 5, 6] [] [2] [(2, .bool true)] (True) (by kernel_rfl) trivial ?_
      clear hk; intro a hk
      refine st_done ?_
      have e : ((p0 == 32) || (p0 == 9)) = true := by first | (simp only [h1]; done) | (simp only [h1]; rfl) | rfl | simp [h1]
      exact J a w ⟨by rw [e]; exact hk.to [2] _ (by kernel_rfl), ho⟩
    ·
      rw [h1] at hk
      have h3 : ¬ ((p0 == 32) = true) := ne_true_of_eq_false h1
      refine st_pure tabOK hk [3, 4, 5, 6] [] [2] [(2, .bool (p0 == 9))] (True) (by kernel_rfl) trivial ?_
      clear hk; intro a hk
      refine st_done ?_
      have e : ((p0 == 32) || (p0 == 9)) = (p0 == 9) := by first | (simp only [h1]; done) | (simp only [h1]; rfl) | rfl | simp [h1]
      exact J a w ⟨by rw [e]; exact hk.to [2] _ (by kernel_rfl), ho⟩
  · rintro a w ⟨hk, ho⟩
    refine st_retG hk (by kernel_rfl) [.bool ((p0 == 32) || (p0 == 9))] #[.tmp 2] (by kernel_rfl) ⟨resT hk (by kernel_rfl), trivial⟩ ?_
    obtain rfl := Option.some.inj H
    exact ⟨_, rfl, rfl, ho⟩


/-! scullery/sculleryref01.Trim: function 33 -/
noncomputable def C33 (p : List Nat) : Code := Sub (bodyOf f33) p
def sculleryref01_Trim.f : Nat → Str → Option (Str)
  | 0, _ => none
  | K + 1, p0 => ((((if (p0.length : Int) > 0 then (if 0 < (p0.length : Int) then ((sculleryref01_blank.f (bt p0 0)).bind fun t5 => some t5) else none) else some false)).bind fun m1 => (if m1 = true then (if 1 ≤ (p0.length : Int) then ((sculleryref01_Trim.f K (p0.drop 1)).bind fun t11 => some t11) else none) else (((if (p0.length : Int) > 0 then (if (0 : Int) ≤ w64 ((p0.length : Int) - 1) then (if w64 ((p0.length : Int) - 1) < (p0.length : Int) then ((sculleryref01_blank.f (bt p0 (w64 ((p0.length : Int) - 1)))).bind fun t19 => some t19) else none) else none) else some false)).bind fun m14 => (if m14 = true then (if (0 : Int) ≤ w64 ((p0.length : Int) - 1) then (if w64 ((p0.length : Int) - 1) ≤ (p0.length : Int) then ((sculleryref01_Trim.f K (p0.take (w64 ((p0.length : Int) - 1)).toNat)).bind fun t26 => some t26) else none) else none) else some p0)))))
abbrev sculleryref01_Trim.post (w0 : World) (r : Str) (u : Value) (w : World) : Prop := u = S r ∧ Ows [] w0 w []
theorem sculleryref01_Trim.ok : ∀ (K : Nat) (p0 : Str) (r : Str) (H : sculleryref01_Trim.f K p0 = some r) (w0 : World) , Calls Tryz.prog 33 ⟨[S p0]⟩ w0 fun e w => ∃ u, e = .returned u ∧ sculleryref01_Trim.post w0 r u w := by
  intro K
  induction K with
  | zero => intro p0 r H; simp [sculleryref01_Trim.f] at H
  | succ K ih =>
  intro p0 r H w0 
  simp only [sculleryref01_Trim.f] at H
  refine st_start (N := 32) [S p0] (C33 []) func33 (by kernel_rfl) (by kernel_rfl) (by kernel_rfl) ?_
  intro a w hk ho
  refine st_seq (C33 [0]) (C33 [1]) (by kernel_rfl) ?_
  refine st_region 0 (opsOf (C33 [0])) [0] (by kernel_rfl) (by kernel_rfl) ?_
  refine st_pure tabOK hk [0] [] [0] [(0, S p0)] (True) (by kernel_rfl) trivial ?_
  clear hk; intro a hk
  refine st_done ?_
  refine st_seq (C33 [1, 0]) (C33 [1, 1]) (by kernel_rfl) ?_
  refine st_seq (C33 [1, 0, 0]) (C33 [1, 0, 1]) (by kernel_rfl) ?_
  refine st_region 1 (opsOf (C33 [1, 0, 0])) [0, 1, 2, 3, 4, 5, 6, 7] (by kernel_rfl) (by kernel_rfl) ?_
  refine st_pure tabOK hk [0, 1, 2, 3] [4, 5, 6, 7] [0, 6] [(0, S p0), (6, .bool (decide ((p0.length : Int) > 0)))] (True) (by kernel_rfl) trivial ?_
  clear hk; intro a hk
  obtain ⟨m1, HX, H⟩ := Option.bind_eq_some_iff.1 H
  refine cut_ops (fun a w => Kn 32 a [(0, S p0), (10, .bool m1)] ∧ Ows [] w0 w []) ?_ ?_
  · intro J; clear H; have H := HX; clear HX
    rcases Bool.eq_false_or_eq_true (decide ((p0.length : Int) > 0)) with h2 | h2
    ·
      rw [h2] at hk
      have h3 : (p0.length : Int) > 0 := of_decide_eq_true h2
      rw [if_pos h3] at H
      have h4 : 0 < (p0.length : Int) := by
        by_cases h4 : 0 < (p0.length : Int)
        · exact h4
        · rw [if_neg h4] at H; cases H
      rw [if_pos h4] at H
      refine st_pure tabOK hk [4, 5] [6, 7] [0, 6, 8] [(0, S p0), (6, .bool true), (8, .int .u8 (bt p0 0))] (((0 : Int) ≤ 0 ∧ 0 < (p0.length : Int)) ∧ True) (by kernel_rfl) ⟨⟨(by decide), h4⟩, trivial⟩ ?_
      clear hk; intro a hk
      obtain ⟨t5, h6, H⟩ := Option.bind_eq_some_iff.1 H
      refine st_call hk 57 [.int .u8 (bt p0 0)] (some 9) enters57 (by kernel_rfl) (sculleryref01_blank.ok  (bt p0 0) t5 h6 w ) ?_
      clear hk; rintro a u w ⟨rfl, ho'⟩ hk
      replace ho : Ows [] w0 w [] := ho.call ho'; clear ho'
      refine st_pure tabOK hk [7] [] [0, 10] [(0, S p0), (10, .bool t5)] (True) (by kernel_rfl) trivial ?_
      clear hk; intro a hk
      refine st_done ?_
      obtain rfl := Option.some.inj H
      exact J a w ⟨hk.to [0, 10] _ (by kernel_rfl), ho⟩
    ·
      rw [h2] at hk
      have h7 : ¬ ((p0.length : Int) > 0) := of_decide_eq_false h2
      rw [if_neg h7] at H
      refine st_pure tabOK hk [4, 5, 6, 7] [] [0, 10] [(0, S p0), (10, .bool false)] (True) (by kernel_rfl) trivial ?_
      clear hk; intro a hk
      refine st_done ?_
      obtain rfl := Option.some.inj H
      exact J a w ⟨hk.to [0, 10] _ (by kernel_rfl), ho⟩
  · clear HX; rintro a w ⟨hk, ho⟩
    refine st_cond hk (C33 [1, 0, 1, 0]) (C33 [1, 0, 1, 1]) (.tmp 10) (m1) (by kernel_rfl) (by kernel_rfl) (fun h8 => ?_) (fun h8 => ?_)
    ·
      have h9 : m1 = true := h8
      rw [if_pos h9] at H
      refine st_seq (C33 [1, 0, 1, 0, 0]) (C33 [1, 0, 1, 0, 1]) (by kernel_rfl) ?_
      refine st_region 2 (opsOf (C33 [1, 0, 1, 0, 0])) [0, 1, 2, 3] (by kernel_rfl) (by kernel_rfl) ?_
      have h10 : 1 ≤ (p0.length : Int) := by
        by_cases h10 : 1 ≤ (p0.length : Int)
        · exact h10
        · rw [if_neg h10] at H; cases H
      rw [if_pos h10] at H
      refine st_pure tabOK hk [0, 1] [2, 3] [12] [(12, S (p0.drop 1))] (((0 : Int) ≤ 1 ∧ 1 ≤ (p0.length : Int)) ∧ True) (by kernel_rfl) ⟨⟨(by decide), h10⟩, trivial⟩ ?_
      clear hk; intro a hk
      obtain ⟨t11, h12, H⟩ := Option.bind_eq_some_iff.1 H
      refine st_call hk 33 [S (p0.drop 1)] (some 13) enters33 (by kernel_rfl) (ih (p0.drop 1) t11 h12 w ) ?_
      clear hk; rintro a u w ⟨rfl, ho'⟩ hk
      replace ho : Ows [] w0 w [] := ho.call ho'; clear ho'
      refine st_pure tabOK hk [3] [] [2] [(2, S t11)] (True) (by kernel_rfl) trivial ?_
      clear hk; intro a hk
      refine st_done ?_
      refine st_retG hk (by kernel_rfl) [S t11] #[.tmp 2] (by kernel_rfl) ⟨resT hk (by kernel_rfl), trivial⟩ ?_
      obtain rfl := Option.some.inj H
      exact ⟨_, rfl, rfl, ho⟩
    ·
      have h13 : ¬ (m1 = true) := ne_true_of_eq_false h8
      rw [if_neg h13] at H
      refine st_skip (by kernel_rfl) ?_
      refine st_seq (C33 [1, 1, 0]) (C33 [1, 1, 1]) (by kernel_rfl) ?_
      refine st_seq (C33 [1, 1, 0, 0]) (C33 [1, 1, 0, 1]) (by kernel_rfl) ?_
      refine st_region 3 (opsOf (C33 [1, 1, 0, 0])) [0, 1, 2, 3, 4, 5, 6, 7, 8, 9, 10] (by kernel_rfl) (by kernel_rfl) ?_
      refine st_pure tabOK hk [0, 1, 2, 3] [4, 5, 6, 7, 8, 9, 10] [0, 17] [(0, S p0), (17, .bool (decide ((p0.length : Int) > 0)))] (True) (by kernel_rfl) trivial ?_
      clear hk; intro a hk
      obtain ⟨m14, HX, H⟩ := Option.bind_eq_some_iff.1 H
      refine cut_ops (fun a w => Kn 32 a [(0, S p0), (24, .bool m14)] ∧ Ows [] w0 w []) ?_ ?_
      · intro J; clear H; have H := HX; clear HX
        rcases Bool.eq_false_or_eq_true (decide ((p0.length : Int) > 0)) with h15 | h15
        ·
          rw [h15] at hk
          have h16 : (p0.length : Int) > 0 := of_decide_eq_true h15
          rw [if_pos h16] at H
          have h17 : (0 : Int) ≤ w64 ((p0.length : Int) - 1) := by
            by_cases h17 : (0 : Int) ≤ w64 ((p0.length : Int) - 1)
            · exact h17
            · rw [if_neg h17] at H; cases H
          rw [if_pos h17] at H
          have h18 : w64 ((p0.length : Int) - 1) < (p0.length : Int) := by
            by_cases h18 : w64 ((p0.length : Int) - 1) < (p0.length : Int)
            · exact h18
            · rw [if_neg h18] at H; cases H
          rw [if_pos h18] at H
          refine st_pure tabOK hk [4, 5, 6, 7, 8] [9, 10] [0, 17, 22] [(0, S p0), (17, .bool true), (22, .int .u8 (bt p0 (w64 ((p0.length : Int) - 1))))] (((0 : Int) ≤ w64 ((p0.length : Int) - 1) ∧ w64 ((p0.length : Int) - 1) < (p0.length : Int)) ∧ True) (by kernel_rfl) ⟨⟨h17, h18⟩, trivial⟩ ?_
          clear hk; intro a hk
          obtain ⟨t19, h20, H⟩ := Option.bind_eq_some_iff.1 H
          refine st_call hk 57 [.int .u8 (bt p0 (w64 ((p0.length : Int) - 1)))] (some 23) enters57 (by kernel_rfl) (sculleryref01_blank.ok  (bt p0 (w64 ((p0.length : Int) - 1))) t19 h20 w ) ?_
          clear hk; rintro a u w ⟨rfl, ho'⟩ hk
          replace ho : Ows [] w0 w [] := ho.call ho'; clear ho'
          refine st_pure tabOK hk [10] [] [0, 24] [(0, S p0), (24, .bool t19)] (True) (by kernel_rfl) trivial ?_
          clear hk; intro a hk
          refine st_done ?_
          obtain rfl := Option.some.inj H
          exact J a w ⟨hk.to [0, 24] _ (by kernel_rfl), ho⟩
        ·
          rw [h15] at hk
          have h21 : ¬ ((p0.length : Int) > 0) := of_decide_eq_false h15
          rw [if_neg h21] at H
          refine st_pure tabOK hk [4, 5, 6, 7, 8, 9, 10] [] [0, 24] [(0, S p0), (24, .bool false)] (True) (by kernel_rfl) trivial ?_
          clear hk; intro a hk
          refine st_done ?_
          obtain rfl := Option.some.inj H
          exact J a w ⟨hk.to [0, 24] _ (by kernel_rfl), ho⟩
      · clear HX; rintro a w ⟨hk, ho⟩
        refine st_cond hk (C33 [1, 1, 0, 1, 0]) (C33 [1, 1, 0, 1, 1]) (.tmp 24) (m14) (by kernel_rfl) (by kernel_rfl) (fun h22 => ?_) (fun h22 => ?_)
        ·
          have h23 : m14 = true := h22
          rw [if_pos h23] at H
          refine st_seq (C33 [1, 1, 0, 1, 0, 0]) (C33 [1, 1, 0, 1, 0, 1]) (by kernel_rfl) ?_
          refine st_region 4 (opsOf (C33 [1, 1, 0, 1, 0, 0])) [0, 1, 2, 3, 4, 5, 6] (by kernel_rfl) (by kernel_rfl) ?_
          have h24 : (0 : Int) ≤ w64 ((p0.length : Int) - 1) := by
            by_cases h24 : (0 : Int) ≤ w64 ((p0.length : Int) - 1)
            · exact h24
            · rw [if_neg h24] at H; cases H
          rw [if_pos h24] at H
          have h25 : w64 ((p0.length : Int) - 1) ≤ (p0.length : Int) := by
            by_cases h25 : w64 ((p0.length : Int) - 1) ≤ (p0.length : Int)
            · exact h25
            · rw [if_neg h25] at H; cases H
          rw [if_pos h25] at H
          refine st_pure tabOK hk [0, 1, 2, 3, 4] [5, 6] [29] [(29, S (p0.take (w64 ((p0.length : Int) - 1)).toNat))] (((0 : Int) ≤ w64 ((p0.length : Int) - 1) ∧ w64 ((p0.length : Int) - 1) ≤ (p0.length : Int)) ∧ True) (by kernel_rfl) ⟨⟨h24, h25⟩, trivial⟩ ?_
          clear hk; intro a hk
          obtain ⟨t26, h27, H⟩ := Option.bind_eq_some_iff.1 H
          refine st_call hk 33 [S (p0.take (w64 ((p0.length : Int) - 1)).toNat)] (some 30) enters33 (by kernel_rfl) (ih (p0.take (w64 ((p0.length : Int) - 1)).toNat) t26 h27 w ) ?_
          clear hk; rintro a u w ⟨rfl, ho'⟩ hk
          replace ho : Ows [] w0 w [] := ho.call ho'; clear ho'
          refine st_pure tabOK hk [6] [] [2] [(2, S t26)] (True) (by kernel_rfl) trivial ?_
          clear hk; intro a hk
          refine st_done ?_
          refine st_retG hk (by kernel_rfl) [S t26] #[.tmp 2] (by kernel_rfl) ⟨resT hk (by kernel_rfl), trivial⟩ ?_
          obtain rfl := Option.some.inj H
          exact ⟨_, rfl, rfl, ho⟩
        ·
          have h28 : ¬ (m14 = true) := ne_true_of_eq_false h22
          rw [if_neg h28] at H
          refine st_skip (by kernel_rfl) ?_
          refine st_seq (C33 [1, 1, 1, 0]) (C33 [1, 1, 1, 1]) (by kernel_rfl) ?_
          refine st_region 5 (opsOf (C33 [1, 1, 1, 0])) [0, 1] (by kernel_rfl) (by kernel_rfl) ?_
          refine st_pure tabOK hk [0, 1] [] [2] [(2, S p0)] (True) (by kernel_rfl) trivial ?_
          clear hk; intro a hk
          refine st_done ?_
          refine st_retG hk (by kernel_rfl) [S p0] #[.tmp 2] (by kernel_rfl) ⟨resT hk (by kernel_rfl), trivial⟩ ?_
          obtain rfl := Option.some.inj H
          exact ⟨_, rfl, rfl, ho⟩


/-! scullery/sculleryref01.Text: function 32 -/
noncomputable def C32 (p : List Nat) : Code := Sub (bodyOf f32) p
def sculleryref01_Text.l0 : Nat → Str → Int → Option ((Unit) ⊕ (Bool))
  | 0, _, _ => none
  | k + 1, p0, v1 => (if v1 < (p0.length : Int) then (if (0 : Int) ≤ v1 then (if (bif decide (bt p0 v1 < 32) then (((bt p0 v1) != 9) || ((bt p0 v1) == 127)) else (bt p0 v1) == 127) = true then some (.inr false) else sculleryref01_Text.l0 k p0 (w64 (v1 + 1))) else none) else some (.inl ()))
def sculleryref01_Text.f (K : Nat) (p0 : Str) : Option (Bool) := (((sculleryref01_Text.l0 K p0 0).bind fun m15 => match m15 with | .inl s17 => (((sculleryref01_Trim.f K p0).bind fun t18 => some (t18 == p0))) | .inr r20 => some r20))
abbrev sculleryref01_Text.post (w0 : World) (r : Bool) (u : Value) (w : World) : Prop := u = .bool r ∧ Ows [] w0 w []
theorem sculleryref01_Text.l0_ok : ∀ (k : Nat) (p0 : Str) (v1 : Int) (out : (Unit) ⊕ (Bool)), sculleryref01_Text.l0 k p0 v1 = some out → ∀ (w0 : World) (Q : Exit → Act → World → Prop) (rest : List It) (a : Act) (w : World), Kn 30 a [(0, S p0), (3, I v1)] → Ows [] w0 w [] → (∀ (s : Unit) (a : Act) (w : World), out = .inl s → Kn 30 a [(0, S p0)] → Ows [] w0 w [] → G Tryz.prog Q rest a w) → (∀ (r : Bool) (a : Act) (w : World), out = .inr r → Kn 30 a [(2, .bool r)] → Ows [] w0 w [] → Q .ret a w) → G Tryz.prog Q (.code (C32 [1, 0, 1, 0, 0]) :: .inl (C32 [1, 0, 1, 0, 0]) :: .endb 0 :: rest) a w := by
  intro k
  induction k with
  | zero => intro p0 v1 out H; simp [sculleryref01_Text.l0] at H
  | succ k ih =>
    intro p0 v1 out H  w0 Q rest a w  hk ho J R
    simp only [sculleryref01_Text.l0] at H
    refine st_seq (C32 [1, 0, 1, 0, 0, 0]) (C32 [1, 0, 1, 0, 0, 1]) (by kernel_rfl) ?_
    refine st_seq (C32 [1, 0, 1, 0, 0, 0, 0]) (C32 [1, 0, 1, 0, 0, 0, 1]) (by kernel_rfl) ?_
    refine st_region 2 (opsOf (C32 [1, 0, 1, 0, 0, 0, 0])) [0, 1, 2, 3] (by kernel_rfl) (by kernel_rfl) ?_
    refine st_pure tabOK hk [0, 1, 2, 3] [] [0, 3, 7] [(0, S p0), (3, I v1), (7, .bool (decide (v1 < (p0.length : Int))))] (True) (by kernel_rfl) trivial ?_
    clear hk; intro a hk
    refine st_done ?_
    refine st_cond hk (C32 [1, 0, 1, 0, 0, 0, 1, 0]) (C32 [1, 0, 1, 0, 0, 0, 1, 1]) (.tmp 7) (decide (v1 < (p0.length : Int))) (by kernel_rfl) (by kernel_rfl) (fun h2 => ?_) (fun h2 => ?_)
    ·
      have h3 : v1 < (p0.length : Int) := of_decide_eq_true h2
      rw [if_pos h3] at H
      refine st_skip (by kernel_rfl) ?_
      refine st_seq (C32 [1, 0, 1, 0, 0, 1, 0]) (C32 [1, 0, 1, 0, 0, 1, 1]) (by kernel_rfl) ?_
      refine st_block 1 (C32 [1, 0, 1, 0, 0, 1, 0, 0]) (by kernel_rfl) ?_
      refine st_seq (C32 [1, 0, 1, 0, 0, 1, 0, 0, 0]) (C32 [1, 0, 1, 0, 0, 1, 0, 0, 1]) (by kernel_rfl) ?_
      refine st_region 4 (opsOf (C32 [1, 0, 1, 0, 0, 1, 0, 0, 0])) [0, 1, 2, 3, 4, 5, 6, 7, 8, 9, 10, 11, 12, 13, 14, 15] (by kernel_rfl) (by kernel_rfl) ?_
      have h4 : (0 : Int) ≤ v1 := by
        by_cases h4 : (0 : Int) ≤ v1
        · exact h4
        · rw [if_neg h4] at H; cases H
      rw [if_pos h4] at H
      refine st_pure tabOK hk [0, 1, 2, 3, 4] [5, 6, 7, 8, 9, 10, 11, 12, 13, 14, 15] [0, 3, 14] [(0, S p0), (3, I v1), (14, .bool (decide (bt p0 v1 < 32)))] (((0 : Int) ≤ v1 ∧ v1 < (p0.length : Int)) ∧ True) (by kernel_rfl) ⟨⟨h4, h3⟩, trivial⟩ ?_
      clear hk; intro a hk
      refine cut_ops (fun a w => Kn 30 a [(0, S p0), (3, I v1), (25, .bool (bif decide (bt p0 v1 < 32) then (((bt p0 v1) != 9) || ((bt p0 v1) == 127)) else (bt p0 v1) == 127))] ∧ Ows [] w0 w []) ?_ ?_
      · intro J
        rcases Bool.eq_false_or_eq_true (decide (bt p0 v1 < 32)) with h5 | h5
        ·
          rw [h5] at hk
          have h6 : bt p0 v1 < 32 := of_decide_eq_true h5
          refine st_pure tabOK hk [5, 6, 7, 8, 9, 10] [11, 12, 13, 14, 15] [0, 3, 20] [(0, S p0), (3, I v1), (20, .bool ((bt p0 v1) != 9))] (((0 : Int) ≤ v1 ∧ v1 < (p0.length : Int)) ∧ True) (by kernel_rfl) ⟨⟨h4, h3⟩, trivial⟩ ?_
          clear hk; intro a hk
          rcases Bool.eq_false_or_eq_true ((bt p0 v1) != 9) with h7 | h7
          ·
            rw [h7] at hk
            have h8 : ((bt p0 v1) != 9) = true := h7
            refine st_pure tabOK hk [11, 12, 13, 14, 15] [] [0, 3, 25] [(0, S p0), (3, I v1), (25, .bool true)] (True) (by kernel_rfl) trivial ?_
            clear hk; intro a hk
            refine st_done ?_
            have e : (bif decide (bt p0 v1 < 32) then (((bt p0 v1) != 9) || ((bt p0 v1) == 127)) else (bt p0 v1) == 127) = true := by first | (simp only [h5, h7]; done) | (simp only [h5, h7]; rfl) | rfl | simp [h5, h7]
            exact J a w ⟨by rw [e]; exact hk.to [0, 3, 25] _ (by kernel_rfl), ho⟩
          ·
            rw [h7] at hk
            have h9 : ¬ (((bt p0 v1) != 9) = true) := ne_true_of_eq_false h7
            refine st_pure tabOK hk [11, 12, 13, 14, 15] [] [0, 3, 25] [(0, S p0), (3, I v1), (25, .bool ((bt p0 v1) == 127))] (((0 : Int) ≤ v1 ∧ v1 < (p0.length : Int)) ∧ True) (by kernel_rfl) ⟨⟨h4, h3⟩, trivial⟩ ?_
            clear hk; intro a hk
            refine st_done ?_
            have e : (bif decide (bt p0 v1 < 32) then (((bt p0 v1) != 9) || ((bt p0 v1) == 127)) else (bt p0 v1) == 127) = ((bt p0 v1) == 127) := by first | (simp only [h5, h7]; done) | (simp only [h5, h7]; rfl) | rfl | simp [h5, h7]
            exact J a w ⟨by rw [e]; exact hk.to [0, 3, 25] _ (by kernel_rfl), ho⟩
        ·
          rw [h5] at hk
          have h10 : ¬ (bt p0 v1 < 32) := of_decide_eq_false h5
          refine st_pure tabOK hk [5, 6, 7, 8, 9, 10, 11, 12, 13, 14, 15] [] [0, 3, 25] [(0, S p0), (3, I v1), (25, .bool ((bt p0 v1) == 127))] (((0 : Int) ≤ v1 ∧ v1 < (p0.length : Int)) ∧ True) (by kernel_rfl) ⟨⟨h4, h3⟩, trivial⟩ ?_
          clear hk; intro a hk
          refine st_done ?_
          have e : (bif decide (bt p0 v1 < 32) then (((bt p0 v1) != 9) || ((bt p0 v1) == 127)) else (bt p0 v1) == 127) = ((bt p0 v1) == 127) := by first | (simp only [h5]; done) | (simp only [h5]; rfl) | rfl | simp [h5]
          exact J a w ⟨by rw [e]; exact hk.to [0, 3, 25] _ (by kernel_rfl), ho⟩
      · rintro a w ⟨hk, ho⟩
        refine st_cond hk (C32 [1, 0, 1, 0, 0, 1, 0, 0, 1, 0]) (C32 [1, 0, 1, 0, 0, 1, 0, 0, 1, 1]) (.tmp 25) ((bif decide (bt p0 v1 < 32) then (((bt p0 v1) != 9) || ((bt p0 v1) == 127)) else (bt p0 v1) == 127)) (by kernel_rfl) (by kernel_rfl) (fun h11 => ?_) (fun h11 => ?_)
        ·
          have h12 : (bif decide (bt p0 v1 < 32) then (((bt p0 v1) != 9) || ((bt p0 v1) == 127)) else (bt p0 v1) == 127) = true := h11
          rw [if_pos h12] at H
          refine st_seq (C32 [1, 0, 1, 0, 0, 1, 0, 0, 1, 0, 0]) (C32 [1, 0, 1, 0, 0, 1, 0, 0, 1, 0, 1]) (by kernel_rfl) ?_
          refine st_region 5 (opsOf (C32 [1, 0, 1, 0, 0, 1, 0, 0, 1, 0, 0])) [0] (by kernel_rfl) (by kernel_rfl) ?_
          refine st_pure tabOK hk [0] [] [2] [(2, .bool false)] (True) (by kernel_rfl) trivial ?_
          clear hk; intro a hk
          refine st_done ?_
          refine st_ret (by kernel_rfl) ?_
          obtain rfl := Option.some.inj H
          exact R false  a w rfl (hk.to [2] _ (by kernel_rfl)) ho
        ·
          have h13 : ¬ ((bif decide (bt p0 v1 < 32) then (((bt p0 v1) != 9) || ((bt p0 v1) == 127)) else (bt p0 v1) == 127) = true) := ne_true_of_eq_false h11
          rw [if_neg h13] at H
          refine st_skip (by kernel_rfl) ?_
          refine st_endb 1 ?_
          refine st_region 3 (opsOf (C32 [1, 0, 1, 0, 0, 1, 1])) [0, 1, 2] (by kernel_rfl) (by kernel_rfl) ?_
          refine st_pure tabOK hk [0, 1, 2] [] [0, 3] [(0, S p0), (3, I (w64 (v1 + 1)))] (True) (by kernel_rfl) trivial ?_
          clear hk; intro a hk
          refine st_done ?_
          refine st_inl ?_
          exact ih p0 (w64 (v1 + 1)) out H  w0 Q rest a w  (hk.to [0, 3] _ (by kernel_rfl)) ho J R
    ·
      have h14 : ¬ (v1 < (p0.length : Int)) := of_decide_eq_false h2
      rw [if_neg h14] at H
      refine st_exit 0 _ (by kernel_rfl) rfl ?_
      obtain rfl := Option.some.inj H
      exact J ()  a w rfl (hk.to [0] _ (by kernel_rfl)) ho

theorem sculleryref01_Text.ok (K : Nat) (p0 : Str) (r : Bool) (H : sculleryref01_Text.f K p0 = some r) (w0 : World)  : Calls Tryz.prog 32 ⟨[S p0]⟩ w0 fun e w => ∃ u, e = .returned u ∧ sculleryref01_Text.post w0 r u w := by
  unfold sculleryref01_Text.f at H
  refine st_start (N := 30) [S p0] (C32 []) func32 (by kernel_rfl) (by kernel_rfl) (by kernel_rfl) ?_
  intro a w hk ho
  refine st_seq (C32 [0]) (C32 [1]) (by kernel_rfl) ?_
  refine st_region 0 (opsOf (C32 [0])) [0] (by kernel_rfl) (by kernel_rfl) ?_
  refine st_pure tabOK hk [0] [] [0] [(0, S p0)] (True) (by kernel_rfl) trivial ?_
  clear hk; intro a hk
  refine st_done ?_
  refine st_seq (C32 [1, 0]) (C32 [1, 1]) (by kernel_rfl) ?_
  refine st_seq (C32 [1, 0, 0]) (C32 [1, 0, 1]) (by kernel_rfl) ?_
  refine st_region 1 (opsOf (C32 [1, 0, 0])) [0] (by kernel_rfl) (by kernel_rfl) ?_
  refine st_pure tabOK hk [0] [] [0, 3] [(0, S p0), (3, I 0)] (True) (by kernel_rfl) trivial ?_
  clear hk; intro a hk
  refine st_done ?_
  refine st_block 0 (C32 [1, 0, 1, 0]) (by kernel_rfl) ?_
  obtain ⟨m15, h16, H⟩ := Option.bind_eq_some_iff.1 H
  refine st_loop (C32 [1, 0, 1, 0, 0]) (by kernel_rfl) ?_
  refine sculleryref01_Text.l0_ok K p0 0 m15 h16  w0 _ _ a w  (hk.to [0, 3] _ (by kernel_rfl)) ho ?_ ?_
  · intro s17  a w e hk ho; subst e
    simp only [] at H
    refine st_seq (C32 [1, 1, 0]) (C32 [1, 1, 1]) (by kernel_rfl) ?_
    refine st_region 6 (opsOf (C32 [1, 1, 0])) [0, 1, 2, 3, 4] (by kernel_rfl) (by kernel_rfl) ?_
    refine st_pure tabOK hk [0] [1, 2, 3, 4] [0, 26] [(0, S p0), (26, S p0)] (True) (by kernel_rfl) trivial ?_
    clear hk; intro a hk
    obtain ⟨t18, h19, H⟩ := Option.bind_eq_some_iff.1 H
    refine st_call hk 33 [S p0] (some 27) enters33 (by kernel_rfl) (sculleryref01_Trim.ok K  p0 t18 h19 w ) ?_
    clear hk; rintro a u w ⟨rfl, ho'⟩ hk
    replace ho : Ows [] w0 w [] := ho.call ho'; clear ho'
    refine st_pure tabOK hk [2, 3, 4] [] [2] [(2, .bool (t18 == p0))] (True) (by kernel_rfl) trivial ?_
    clear hk; intro a hk
    refine st_done ?_
    refine st_retG hk (by kernel_rfl) [.bool (t18 == p0)] #[.tmp 2] (by kernel_rfl) ⟨resT hk (by kernel_rfl), trivial⟩ ?_
    obtain rfl := Option.some.inj H
    exact ⟨_, rfl, rfl, ho⟩
  · intro r20  a w e hk ho; subst e
    simp only [] at H
    refine retG hk [.bool r20] #[.tmp 2] (by kernel_rfl) ⟨resT hk (by kernel_rfl), trivial⟩ ?_
    obtain rfl := Option.some.inj H
    exact ⟨_, rfl, rfl, ho⟩


/-! scullery/sculleryref07.size: function 18 -/
noncomputable def C18 (p : List Nat) : Code := Sub (bodyOf f18) p
def sculleryref07_size.l0 (K : Nat) : Nat → Str → Int → Int → Option (Int × Int)
  | 0, _, _, _ => none
  | k + 1, p0, v1, v2 => ((((if v2 < (p0.length : Int) then (if (0 : Int) ≤ v2 then ((sculleryref07_digit.f K (bt p0 v2)).bind fun t7 => some (decide (t7 ≥ 0))) else none) else some false)).bind fun m3 => (if m3 = true then (if (0 : Int) ≤ v2 then (if v2 < (p0.length : Int) then ((sculleryref07_digit.f K (bt p0 v2)).bind fun t14 => sculleryref07_size.l0 K k p0 (mnI (w64 ((w64 ((16 : Int) * v1)) + t14)) 1099511627776) (w64 (v2 + 1))) else none) else none) else some (v1, v2))))
def sculleryref07_size.l1 : Nat → Str → (Int × Int) → Str → Option (Str)
  | 0, _, _, _ => none
  | k + 1, p0, s19, v28 => ((((if (!(v28 == ([]))) = true then (if 0 < (v28.length : Int) then (if ((bt v28 0) == 32) = true then some true else some ((bt v28 0) == 9)) else none) else some false)).bind fun m29 => (if m29 = true then (if 1 ≤ (v28.length : Int) then sculleryref07_size.l1 k p0 s19 (v28.drop 1) else none) else some v28)))
def sculleryref07_size.f (K : Nat) (p0 : Str) : Option (Int × Bool) := (((sculleryref07_size.l0 K K p0 0 0).bind fun s19 => (if ((decide (s19.2 < 1)) || (decide (s19.2 > 8))) = true then some (0, false) else (if (0 : Int) ≤ s19.2 then (if s19.2 ≤ (p0.length : Int) then ((sculleryref07_size.l1 K p0 s19 (p0.drop s19.2.toNat)).bind fun s43 => (if (s43 == ([])) = true then some (s19.1, s19.2 == (p0.length : Int)) else (if 0 < (s43.length : Int) then (((if ((bt s43 0) == 59) = true then (if 1 ≤ (s43.length : Int) then ((sculleryref01_Trim.f K (s43.drop 1)).bind fun t52 => ((sculleryref01_Text.f K t52).bind fun t54 => some t54)) else none) else some false)).bind fun m48 => some (s19.1, m48)) else none))) else none) else none))))
abbrev sculleryref07_size.post (w0 : World) (r : Int × Bool) (u : Value) (w : World) : Prop := u = .tuple #[I r.1, .bool r.2] ∧ Ows [] w0 w []
theorem sculleryref07_size.l0_ok (K : Nat) : ∀ (k : Nat) (p0 : Str) (v1 : Int) (v2 : Int) (out : Int × Int), sculleryref07_size.l0 K k p0 v1 v2 = some out → ∀ (w0 : World) (Q : Exit → Act → World → Prop) (rest : List It) (a : Act) (w : World), Kn 68 a [(0, S p0), (4, I v1), (5, I v2)] → Ows [] w0 w [] → (∀ (s : Int × Int) (a : Act) (w : World), out = s → Kn 68 a [(0, S p0), (4, I s.1), (5, I s.2)] → Ows [] w0 w [] → G Tryz.prog Q rest a w) → G Tryz.prog Q (.code (C18 [1, 1, 1, 0, 0, 0]) :: .inl (C18 [1, 1, 1, 0, 0, 0]) :: .endb 0 :: rest) a w := by
  intro k
  induction k with
  | zero => intro p0 v1 v2 out H; simp [sculleryref07_size.l0] at H
  | succ k ih =>
    intro p0 v1 v2 out H  w0 Q rest a w  hk ho J
    simp only [sculleryref07_size.l0] at H
    refine st_seq (C18 [1, 1, 1, 0, 0, 0, 0]) (C18 [1, 1, 1, 0, 0, 0, 1]) (by kernel_rfl) ?_
    refine st_seq (C18 [1, 1, 1, 0, 0, 0, 0, 0]) (C18 [1, 1, 1, 0, 0, 0, 0, 1]) (by kernel_rfl) ?_
    refine st_region 3 (opsOf (C18 [1, 1, 1, 0, 0, 0, 0, 0])) [0, 1, 2, 3, 4, 5, 6, 7, 8, 9, 10] (by kernel_rfl) (by kernel_rfl) ?_
    refine st_pure tabOK hk [0, 1, 2, 3, 4] [5, 6, 7, 8, 9, 10] [0, 4, 5, 11] [(0, S p0), (4, I v1), (5, I v2), (11, .bool (decide (v2 < (p0.length : Int))))] (True) (by kernel_rfl) trivial ?_
    clear hk; intro a hk
    obtain ⟨m3, HX, H⟩ := Option.bind_eq_some_iff.1 H
    refine cut_ops (fun a w => Kn 68 a [(0, S p0), (4, I v1), (5, I v2), (17, .bool m3)] ∧ Ows [] w0 w []) ?_ ?_
    · intro J; clear H; have H := HX; clear HX
      rcases Bool.eq_false_or_eq_true (decide (v2 < (p0.length : Int))) with h4 | h4
      ·
        rw [h4] at hk
        have h5 : v2 < (p0.length : Int) := of_decide_eq_true h4
        rw [if_pos h5] at H
        have h6 : (0 : Int) ≤ v2 := by
          by_cases h6 : (0 : Int) ≤ v2
          · exact h6
          · rw [if_neg h6] at H; cases H
        rw [if_pos h6] at H
        refine st_pure tabOK hk [5, 6, 7] [8, 9, 10] [0, 4, 5, 11, 14] [(0, S p0), (4, I v1), (5, I v2), (11, .bool true), (14, .int .u8 (bt p0 v2))] (((0 : Int) ≤ v2 ∧ v2 < (p0.length : Int)) ∧ True) (by kernel_rfl) ⟨⟨h6, h5⟩, trivial⟩ ?_
        clear hk; intro a hk
        obtain ⟨t7, h8, H⟩ := Option.bind_eq_some_iff.1 H
        refine st_call hk 31 [.int .u8 (bt p0 v2)] (some 15) enters31 (by kernel_rfl) (sculleryref07_digit.ok K  (bt p0 v2) t7 h8 w ) ?_
        clear hk; rintro a u w ⟨rfl, ho'⟩ hk
        replace ho : Ows [] w0 w [] := ho.call ho'; clear ho'
        refine st_pure tabOK hk [9, 10] [] [0, 4, 5, 17] [(0, S p0), (4, I v1), (5, I v2), (17, .bool (decide (t7 ≥ 0)))] (True) (by kernel_rfl) trivial ?_
        clear hk; intro a hk
        refine st_done ?_
        obtain rfl := Option.some.inj H
        exact J a w ⟨hk.to [0, 4, 5, 17] _ (by kernel_rfl), ho⟩
      ·
        rw [h4] at hk
        have h9 : ¬ (v2 < (p0.length : Int)) := of_decide_eq_false h4
        rw [if_neg h9] at H
        refine st_pure tabOK hk [5, 6, 7, 8, 9, 10] [] [0, 4, 5, 17] [(0, S p0), (4, I v1), (5, I v2), (17, .bool false)] (True) (by kernel_rfl) trivial ?_
        clear hk; intro a hk
        refine st_done ?_
        obtain rfl := Option.some.inj H
        exact J a w ⟨hk.to [0, 4, 5, 17] _ (by kernel_rfl), ho⟩
    · clear HX; rintro a w ⟨hk, ho⟩
      refine st_cond hk (C18 [1, 1, 1, 0, 0, 0, 0, 1, 0]) (C18 [1, 1, 1, 0, 0, 0, 0, 1, 1]) (.tmp 17) (m3) (by kernel_rfl) (by kernel_rfl) (fun h10 => ?_) (fun h10 => ?_)
      ·
        have h11 : m3 = true := h10
        rw [if_pos h11] at H
        refine st_skip (by kernel_rfl) ?_
        refine st_block 1 (C18 [1, 1, 1, 0, 0, 0, 1, 0]) (by kernel_rfl) ?_
        refine st_seq (C18 [1, 1, 1, 0, 0, 0, 1, 0, 0]) (C18 [1, 1, 1, 0, 0, 0, 1, 0, 1]) (by kernel_rfl) ?_
        refine st_region 4 (opsOf (C18 [1, 1, 1, 0, 0, 0, 1, 0, 0])) [0, 1, 2, 3, 4, 5, 6, 7, 8] (by kernel_rfl) (by kernel_rfl) ?_
        have h12 : (0 : Int) ≤ v2 := by
          by_cases h12 : (0 : Int) ≤ v2
          · exact h12
          · rw [if_neg h12] at H; cases H
        rw [if_pos h12] at H
        have h13 : v2 < (p0.length : Int) := by
          by_cases h13 : v2 < (p0.length : Int)
          · exact h13
          · rw [if_neg h13] at H; cases H
        rw [if_pos h13] at H
        refine st_pure tabOK hk [0, 1, 2, 3, 4] [5, 6, 7, 8] [0, 5, 19, 22] [(0, S p0), (5, I v2), (19, I (w64 ((16 : Int) * v1))), (22, .int .u8 (bt p0 v2))] (((0 : Int) ≤ v2 ∧ v2 < (p0.length : Int)) ∧ True) (by kernel_rfl) ⟨⟨h12, h13⟩, trivial⟩ ?_
        clear hk; intro a hk
        obtain ⟨t14, h15, H⟩ := Option.bind_eq_some_iff.1 H
        refine st_call hk 31 [.int .u8 (bt p0 v2)] (some 23) enters31 (by kernel_rfl) (sculleryref07_digit.ok K  (bt p0 v2) t14 h15 w ) ?_
        clear hk; rintro a u w ⟨rfl, ho'⟩ hk
        replace ho : Ows [] w0 w [] := ho.call ho'; clear ho'
        refine st_pure tabOK hk [6, 7, 8] [] [0, 4, 5] [(0, S p0), (4, I (mnI (w64 ((w64 ((16 : Int) * v1)) + t14)) 1099511627776)), (5, I v2)] (True) (by kernel_rfl) trivial ?_
        clear hk; intro a hk
        refine st_done ?_
        refine st_region 5 (opsOf (C18 [1, 1, 1, 0, 0, 0, 1, 0, 1])) [0, 1, 2] (by kernel_rfl) (by kernel_rfl) ?_
        refine st_pure tabOK hk [0, 1, 2] [] [0, 4, 5] [(0, S p0), (4, I (mnI (w64 ((w64 ((16 : Int) * v1)) + t14)) 1099511627776)), (5, I (w64 (v2 + 1)))] (True) (by kernel_rfl) trivial ?_
        clear hk; intro a hk
        refine st_done ?_
        refine st_endb 1 ?_
        refine st_inl ?_
        exact ih p0 (mnI (w64 ((w64 ((16 : Int) * v1)) + t14)) 1099511627776) (w64 (v2 + 1)) out H  w0 Q rest a w  (hk.to [0, 4, 5] _ (by kernel_rfl)) ho J
      ·
        have h16 : ¬ (m3 = true) := ne_true_of_eq_false h10
        rw [if_neg h16] at H
        refine st_exit 0 _ (by kernel_rfl) rfl ?_
        obtain rfl := Option.some.inj H
        exact J (v1, v2)  a w rfl (hk.to [0, 4, 5] _ (by kernel_rfl)) ho

theorem sculleryref07_size.l1_ok : ∀ (k : Nat) (p0 : Str) (s19 : Int × Int) (v28 : Str) (out : Str), sculleryref07_size.l1 k p0 s19 v28 = some out → ∀ (w0 : World) (Q : Exit → Act → World → Prop) (rest : List It) (a : Act) (w : World), Kn 68 a [(0, S p0), (4, I s19.1), (5, I s19.2), (6, S v28)] → Ows [] w0 w [] → (∀ (s : Str) (a : Act) (w : World), out = s → Kn 68 a [(0, S p0), (4, I s19.1), (5, I s19.2), (6, S s)] → Ows [] w0 w [] → G Tryz.prog Q rest a w) → G Tryz.prog Q (.code (C18 [1, 1, 1, 1, 1, 1, 0, 0, 0]) :: .inl (C18 [1, 1, 1, 1, 1, 1, 0, 0, 0]) :: .endb 2 :: rest) a w := by
  intro k
  induction k with
  | zero => intro p0 s19 v28 out H; simp [sculleryref07_size.l1] at H
  | succ k ih =>
    intro p0 s19 v28 out H  w0 Q rest a w  hk ho J
    simp only [sculleryref07_size.l1] at H
    refine st_seq (C18 [1, 1, 1, 1, 1, 1, 0, 0, 0, 0]) (C18 [1, 1, 1, 1, 1, 1, 0, 0, 0, 1]) (by kernel_rfl) ?_
    refine st_seq (C18 [1, 1, 1, 1, 1, 1, 0, 0, 0, 0, 0]) (C18 [1, 1, 1, 1, 1, 1, 0, 0, 0, 0, 1]) (by kernel_rfl) ?_
    refine st_region 9 (opsOf (C18 [1, 1, 1, 1, 1, 1, 0, 0, 0, 0, 0])) [0, 1, 2, 3, 4, 5, 6, 7, 8, 9, 10, 11] (by kernel_rfl) (by kernel_rfl) ?_
    refine st_pure tabOK hk [0, 1, 2] [3, 4, 5, 6, 7, 8, 9, 10, 11] [0, 4, 5, 6, 39] [(0, S p0), (4, I s19.1), (5, I s19.2), (6, S v28), (39, .bool (!(v28 == ([]))))] (True) (by kernel_rfl) trivial ?_
    clear hk; intro a hk
    obtain ⟨m29, HX, H⟩ := Option.bind_eq_some_iff.1 H
    refine cut_ops (fun a w => Kn 68 a [(0, S p0), (4, I s19.1), (5, I s19.2), (6, S v28), (48, .bool m29)] ∧ Ows [] w0 w []) ?_ ?_
    · intro J; clear H; have H := HX; clear HX
      rcases Bool.eq_false_or_eq_true (!(v28 == ([]))) with h30 | h30
      ·
        rw [h30] at hk
        have h31 : (!(v28 == ([]))) = true := h30
        rw [if_pos h31] at H
        have h32 : 0 < (v28.length : Int) := by
          by_cases h32 : 0 < (v28.length : Int)
          · exact h32
          · rw [if_neg h32] at H; cases H
        rw [if_pos h32] at H
        refine st_pure tabOK hk [3, 4, 5, 6] [7, 8, 9, 10, 11] [0, 4, 5, 6, 39, 43] [(0, S p0), (4, I s19.1), (5, I s19.2), (6, S v28), (39, .bool true), (43, .bool ((bt v28 0) == 32))] (((0 : Int) ≤ 0 ∧ 0 < (v28.length : Int)) ∧ True) (by kernel_rfl) ⟨⟨(by decide), h32⟩, trivial⟩ ?_
        clear hk; intro a hk
        rcases Bool.eq_false_or_eq_true ((bt v28 0) == 32) with h33 | h33
        ·
          rw [h33] at hk
          have h34 : ((bt v28 0) == 32) = true := h33
          rw [if_pos h34] at H
          refine st_pure tabOK hk [7, 8, 9, 10, 11] [] [0, 4, 5, 6, 48] [(0, S p0), (4, I s19.1), (5, I s19.2), (6, S v28), (48, .bool true)] (True) (by kernel_rfl) trivial ?_
          clear hk; intro a hk
          refine st_done ?_
          obtain rfl := Option.some.inj H
          exact J a w ⟨hk.to [0, 4, 5, 6, 48] _ (by kernel_rfl), ho⟩
        ·
          rw [h33] at hk
          have h35 : ¬ (((bt v28 0) == 32) = true) := ne_true_of_eq_false h33
          rw [if_neg h35] at H
          refine st_pure tabOK hk [7, 8, 9, 10, 11] [] [0, 4, 5, 6, 48] [(0, S p0), (4, I s19.1), (5, I s19.2), (6, S v28), (48, .bool ((bt v28 0) == 9))] (((0 : Int) ≤ 0 ∧ 0 < (v28.length : Int)) ∧ True) (by kernel_rfl) ⟨⟨(by decide), h32⟩, trivial⟩ ?_
          clear hk; intro a hk
          refine st_done ?_
          obtain rfl := Option.some.inj H
          exact J a w ⟨hk.to [0, 4, 5, 6, 48] _ (by kernel_rfl), ho⟩
      ·
        rw [h30] at hk
        have h36 : ¬ ((!(v28 == ([]))) = true) := ne_true_of_eq_false h30
        rw [if_neg h36] at H
        refine st_pure tabOK hk [3, 4, 5, 6, 7, 8, 9, 10, 11] [] [0, 4, 5, 6, 48] [(0, S p0), (4, I s19.1), (5, I s19.2), (6, S v28), (48, .bool false)] (True) (by kernel_rfl) trivial ?_
        clear hk; intro a hk
        refine st_done ?_
        obtain rfl := Option.some.inj H
        exact J a w ⟨hk.to [0, 4, 5, 6, 48] _ (by kernel_rfl), ho⟩
    · clear HX; rintro a w ⟨hk, ho⟩
      refine st_cond hk (C18 [1, 1, 1, 1, 1, 1, 0, 0, 0, 0, 1, 0]) (C18 [1, 1, 1, 1, 1, 1, 0, 0, 0, 0, 1, 1]) (.tmp 48) (m29) (by kernel_rfl) (by kernel_rfl) (fun h37 => ?_) (fun h37 => ?_)
      ·
        have h38 : m29 = true := h37
        rw [if_pos h38] at H
        refine st_skip (by kernel_rfl) ?_
        refine st_block 3 (C18 [1, 1, 1, 1, 1, 1, 0, 0, 0, 1, 0]) (by kernel_rfl) ?_
        refine st_region 10 (opsOf (C18 [1, 1, 1, 1, 1, 1, 0, 0, 0, 1, 0])) [0, 1, 2] (by kernel_rfl) (by kernel_rfl) ?_
        have h39 : 1 ≤ (v28.length : Int) := by
          by_cases h39 : 1 ≤ (v28.length : Int)
          · exact h39
          · rw [if_neg h39] at H; cases H
        rw [if_pos h39] at H
        refine st_pure tabOK hk [0, 1, 2] [] [0, 4, 5, 6] [(0, S p0), (4, I s19.1), (5, I s19.2), (6, S (v28.drop 1))] (((0 : Int) ≤ 1 ∧ 1 ≤ (v28.length : Int)) ∧ True) (by kernel_rfl) ⟨⟨(by decide), h39⟩, trivial⟩ ?_
        clear hk; intro a hk
        refine st_done ?_
        refine st_endb 3 ?_
        refine st_inl ?_
        exact ih p0 s19 (v28.drop 1) out H  w0 Q rest a w  (hk.to [0, 4, 5, 6] _ (by kernel_rfl)) ho J
      ·
        have h40 : ¬ (m29 = true) := ne_true_of_eq_false h37
        rw [if_neg h40] at H
        refine st_exit 2 _ (by kernel_rfl) rfl ?_
        obtain rfl := Option.some.inj H
        exact J v28  a w rfl (hk.to [0, 4, 5, 6] _ (by kernel_rfl)) ho

theorem sculleryref07_size.ok (K : Nat) (p0 : Str) (r : Int × Bool) (H : sculleryref07_size.f K p0 = some r) (w0 : World)  : Calls Tryz.prog 18 ⟨[S p0]⟩ w0 fun e w => ∃ u, e = .returned u ∧ sculleryref07_size.post w0 r u w := by
  unfold sculleryref07_size.f at H
  refine st_start (N := 68) [S p0] (C18 []) func18 (by kernel_rfl) (by kernel_rfl) (by kernel_rfl) ?_
  intro a w hk ho
  refine st_seq (C18 [0]) (C18 [1]) (by kernel_rfl) ?_
  refine st_region 0 (opsOf (C18 [0])) [0, 1] (by kernel_rfl) (by kernel_rfl) ?_
  refine st_pure tabOK hk [0, 1] [] [0] [(0, S p0)] (True) (by kernel_rfl) trivial ?_
  clear hk; intro a hk
  refine st_done ?_
  refine st_seq (C18 [1, 0]) (C18 [1, 1]) (by kernel_rfl) ?_
  refine st_region 1 (opsOf (C18 [1, 0])) [0] (by kernel_rfl) (by kernel_rfl) ?_
  refine st_pure tabOK hk [0] [] [0, 4] [(0, S p0), (4, I 0)] (True) (by kernel_rfl) trivial ?_
  clear hk; intro a hk
  refine st_done ?_
  refine st_seq (C18 [1, 1, 0]) (C18 [1, 1, 1]) (by kernel_rfl) ?_
  refine st_region 2 (opsOf (C18 [1, 1, 0])) [0] (by kernel_rfl) (by kernel_rfl) ?_
  refine st_pure tabOK hk [0] [] [0, 4, 5] [(0, S p0), (4, I 0), (5, I 0)] (True) (by kernel_rfl) trivial ?_
  clear hk; intro a hk
  refine st_done ?_
  refine st_seq (C18 [1, 1, 1, 0]) (C18 [1, 1, 1, 1]) (by kernel_rfl) ?_
  refine st_block 0 (C18 [1, 1, 1, 0, 0]) (by kernel_rfl) ?_
  obtain ⟨m17, h18, H⟩ := Option.bind_eq_some_iff.1 H
  refine st_loop (C18 [1, 1, 1, 0, 0, 0]) (by kernel_rfl) ?_
  refine sculleryref07_size.l0_ok K K p0 0 0 m17 h18  w0 _ _ a w  (hk.to [0, 4, 5] _ (by kernel_rfl)) ho ?_
  · intro s19  a w e hk ho; have e := e.symm; subst e
    refine st_seq (C18 [1, 1, 1, 1, 0]) (C18 [1, 1, 1, 1, 1]) (by kernel_rfl) ?_
    refine st_seq (C18 [1, 1, 1, 1, 0, 0]) (C18 [1, 1, 1, 1, 0, 1]) (by kernel_rfl) ?_
    refine st_region 6 (opsOf (C18 [1, 1, 1, 1, 0, 0])) [0, 1, 2, 3, 4, 5] (by kernel_rfl) (by kernel_rfl) ?_
    refine st_pure tabOK hk [0, 1, 2] [3, 4, 5] [0, 4, 5, 30] [(0, S p0), (4, I s19.1), (5, I s19.2), (30, .bool (decide (s19.2 < 1)))] (True) (by kernel_rfl) trivial ?_
    clear hk; intro a hk
    refine cut_ops (fun a w => Kn 68 a [(0, S p0), (4, I s19.1), (5, I s19.2), (33, .bool ((decide (s19.2 < 1)) || (decide (s19.2 > 8))))] ∧ Ows [] w0 w []) ?_ ?_
    · intro J
      rcases Bool.eq_false_or_eq_true (decide (s19.2 < 1)) with h20 | h20
      ·
        rw [h20] at hk
        have h21 : s19.2 < 1 := of_decide_eq_true h20
        refine st_pure tabOK hk [3, 4, 5] [] [0, 4, 5, 33] [(0, S p0), (4, I s19.1), (5, I s19.2), (33, .bool true)] (True) (by kernel_rfl) trivial ?_
        clear hk; intro a hk
        refine st_done ?_
        have e : ((decide (s19.2 < 1)) || (decide (s19.2 > 8))) = true := by first | (simp only [h20]; done) | (simp only [h20]; rfl) | rfl | simp [h20]
        exact J a w ⟨by rw [e]; exact hk.to [0, 4, 5, 33] _ (by kernel_rfl), ho⟩
      ·
        rw [h20] at hk
        have h22 : ¬ (s19.2 < 1) := of_decide_eq_false h20
        refine st_pure tabOK hk [3, 4, 5] [] [0, 4, 5, 33] [(0, S p0), (4, I s19.1), (5, I s19.2), (33, .bool (decide (s19.2 > 8)))] (True) (by kernel_rfl) trivial ?_
        clear hk; intro a hk
        refine st_done ?_
        have e : ((decide (s19.2 < 1)) || (decide (s19.2 > 8))) = (decide (s19.2 > 8)) := by first | (simp only [h20]; done) | (simp only [h20]; rfl) | rfl | simp [h20]
        exact J a w ⟨by rw [e]; exact hk.to [0, 4, 5, 33] _ (by kernel_rfl), ho⟩
    · rintro a w ⟨hk, ho⟩
      refine st_cond hk (C18 [1, 1, 1, 1, 0, 1, 0]) (C18 [1, 1, 1, 1, 0, 1, 1]) (.tmp 33) (((decide (s19.2 < 1)) || (decide (s19.2 > 8)))) (by kernel_rfl) (by kernel_rfl) (fun h23 => ?_) (fun h23 => ?_)
      ·
        have h24 : ((decide (s19.2 < 1)) || (decide (s19.2 > 8))) = true := h23
        rw [if_pos h24] at H
        refine st_seq (C18 [1, 1, 1, 1, 0, 1, 0, 0]) (C18 [1, 1, 1, 1, 0, 1, 0, 1]) (by kernel_rfl) ?_
        refine st_region 7 (opsOf (C18 [1, 1, 1, 1, 0, 1, 0, 0])) [0, 1] (by kernel_rfl) (by kernel_rfl) ?_
        refine st_pure tabOK hk [0, 1] [] [2, 3] [(2, I 0), (3, .bool false)] (True) (by kernel_rfl) trivial ?_
        clear hk; intro a hk
        refine st_done ?_
        refine st_retG hk (by kernel_rfl) [I 0, .bool false] #[.tmp 2, .tmp 3] (by kernel_rfl) ⟨resT hk (by kernel_rfl), resT hk (by kernel_rfl), trivial⟩ ?_
        obtain rfl := Option.some.inj H
        exact ⟨_, rfl, rfl, ho⟩
      ·
        have h25 : ¬ (((decide (s19.2 < 1)) || (decide (s19.2 > 8))) = true) := ne_true_of_eq_false h23
        rw [if_neg h25] at H
        refine st_skip (by kernel_rfl) ?_
        refine st_seq (C18 [1, 1, 1, 1, 1, 0]) (C18 [1, 1, 1, 1, 1, 1]) (by kernel_rfl) ?_
        refine st_region 8 (opsOf (C18 [1, 1, 1, 1, 1, 0])) [0, 1, 2, 3] (by kernel_rfl) (by kernel_rfl) ?_
        have h26 : (0 : Int) ≤ s19.2 := by
          by_cases h26 : (0 : Int) ≤ s19.2
          · exact h26
          · rw [if_neg h26] at H; cases H
        rw [if_pos h26] at H
        have h27 : s19.2 ≤ (p0.length : Int) := by
          by_cases h27 : s19.2 ≤ (p0.length : Int)
          · exact h27
          · rw [if_neg h27] at H; cases H
        rw [if_pos h27] at H
        refine st_pure tabOK hk [0, 1, 2, 3] [] [0, 4, 5, 6] [(0, S p0), (4, I s19.1), (5, I s19.2), (6, S (p0.drop s19.2.toNat))] (((0 : Int) ≤ s19.2 ∧ s19.2 ≤ (p0.length : Int)) ∧ True) (by kernel_rfl) ⟨⟨h26, h27⟩, trivial⟩ ?_
        clear hk; intro a hk
        refine st_done ?_
        refine st_seq (C18 [1, 1, 1, 1, 1, 1, 0]) (C18 [1, 1, 1, 1, 1, 1, 1]) (by kernel_rfl) ?_
        refine st_block 2 (C18 [1, 1, 1, 1, 1, 1, 0, 0]) (by kernel_rfl) ?_
        obtain ⟨m41, h42, H⟩ := Option.bind_eq_some_iff.1 H
        refine st_loop (C18 [1, 1, 1, 1, 1, 1, 0, 0, 0]) (by kernel_rfl) ?_
        refine sculleryref07_size.l1_ok K p0 s19 (p0.drop s19.2.toNat) m41 h42  w0 _ _ a w  (hk.to [0, 4, 5, 6] _ (by kernel_rfl)) ho ?_
        · intro s43  a w e hk ho; have e := e.symm; subst e
          refine st_seq (C18 [1, 1, 1, 1, 1, 1, 1, 0]) (C18 [1, 1, 1, 1, 1, 1, 1, 1]) (by kernel_rfl) ?_
          refine st_seq (C18 [1, 1, 1, 1, 1, 1, 1, 0, 0]) (C18 [1, 1, 1, 1, 1, 1, 1, 0, 1]) (by kernel_rfl) ?_
          refine st_region 11 (opsOf (C18 [1, 1, 1, 1, 1, 1, 1, 0, 0])) [0, 1] (by kernel_rfl) (by kernel_rfl) ?_
          refine st_pure tabOK hk [0, 1] [] [0, 4, 5, 6, 52] [(0, S p0), (4, I s19.1), (5, I s19.2), (6, S s43), (52, .bool (s43 == ([])))] (True) (by kernel_rfl) trivial ?_
          clear hk; intro a hk
          refine st_done ?_
          refine st_cond hk (C18 [1, 1, 1, 1, 1, 1, 1, 0, 1, 0]) (C18 [1, 1, 1, 1, 1, 1, 1, 0, 1, 1]) (.tmp 52) (s43 == ([])) (by kernel_rfl) (by kernel_rfl) (fun h44 => ?_) (fun h44 => ?_)
          ·
            have h45 : (s43 == ([])) = true := h44
            rw [if_pos h45] at H
            refine st_seq (C18 [1, 1, 1, 1, 1, 1, 1, 0, 1, 0, 0]) (C18 [1, 1, 1, 1, 1, 1, 1, 0, 1, 0, 1]) (by kernel_rfl) ?_
            refine st_region 12 (opsOf (C18 [1, 1, 1, 1, 1, 1, 1, 0, 1, 0, 0])) [0, 1, 2, 3, 4, 5, 6] (by kernel_rfl) (by kernel_rfl) ?_
            refine st_pure tabOK hk [0, 1, 2, 3, 4, 5, 6] [] [2, 3] [(2, I s19.1), (3, .bool (s19.2 == (p0.length : Int)))] (True) (by kernel_rfl) trivial ?_
            clear hk; intro a hk
            refine st_done ?_
            refine st_retG hk (by kernel_rfl) [I s19.1, .bool (s19.2 == (p0.length : Int))] #[.tmp 2, .tmp 3] (by kernel_rfl) ⟨resT hk (by kernel_rfl), resT hk (by kernel_rfl), trivial⟩ ?_
            obtain rfl := Option.some.inj H
            exact ⟨_, rfl, rfl, ho⟩
          ·
            have h46 : ¬ ((s43 == ([])) = true) := ne_true_of_eq_false h44
            rw [if_neg h46] at H
            refine st_skip (by kernel_rfl) ?_
            refine st_seq (C18 [1, 1, 1, 1, 1, 1, 1, 1, 0]) (C18 [1, 1, 1, 1, 1, 1, 1, 1, 1]) (by kernel_rfl) ?_
            refine st_region 13 (opsOf (C18 [1, 1, 1, 1, 1, 1, 1, 1, 0])) [0, 1, 2, 3, 4, 5, 6, 7, 8, 9, 10, 11] (by kernel_rfl) (by kernel_rfl) ?_
            have h47 : 0 < (s43.length : Int) := by
              by_cases h47 : 0 < (s43.length : Int)
              · exact h47
              · rw [if_neg h47] at H; cases H
            rw [if_pos h47] at H
            refine st_pure tabOK hk [0, 1, 2, 3, 4] [5, 6, 7, 8, 9, 10, 11] [6, 58, 62] [(6, S s43), (58, I s19.1), (62, .bool ((bt s43 0) == 59))] (((0 : Int) ≤ 0 ∧ 0 < (s43.length : Int)) ∧ True) (by kernel_rfl) ⟨⟨(by decide), h47⟩, trivial⟩ ?_
            clear hk; intro a hk
            obtain ⟨m48, HX, H⟩ := Option.bind_eq_some_iff.1 H
            refine cut_ops (fun a w => Kn 68 a [(2, I s19.1), (3, .bool m48)] ∧ Ows [] w0 w []) ?_ ?_
            · intro J; clear H; have H := HX; clear HX
              rcases Bool.eq_false_or_eq_true ((bt s43 0) == 59) with h49 | h49
              ·
                rw [h49] at hk
                have h50 : ((bt s43 0) == 59) = true := h49
                rw [if_pos h50] at H
                have h51 : 1 ≤ (s43.length : Int) := by
                  by_cases h51 : 1 ≤ (s43.length : Int)
                  · exact h51
                  · rw [if_neg h51] at H; cases H
                rw [if_pos h51] at H
                refine st_pure tabOK hk [5, 6] [7, 8, 9, 10, 11] [58, 62, 64] [(58, I s19.1), (62, .bool true), (64, S (s43.drop 1))] (((0 : Int) ≤ 1 ∧ 1 ≤ (s43.length : Int)) ∧ True) (by kernel_rfl) ⟨⟨(by decide), h51⟩, trivial⟩ ?_
                clear hk; intro a hk
                obtain ⟨t52, h53, H⟩ := Option.bind_eq_some_iff.1 H
                refine st_call hk 33 [S (s43.drop 1)] (some 65) enters33 (by kernel_rfl) (sculleryref01_Trim.ok K  (s43.drop 1) t52 h53 w ) ?_
                clear hk; rintro a u w ⟨rfl, ho'⟩ hk
                replace ho : Ows [] w0 w [] := ho.call ho'; clear ho'
                obtain ⟨t54, h55, H⟩ := Option.bind_eq_some_iff.1 H
                refine st_call hk 32 [S t52] (some 66) enters32 (by kernel_rfl) (sculleryref01_Text.ok K  t52 t54 h55 w ) ?_
                clear hk; rintro a u w ⟨rfl, ho'⟩ hk
                replace ho : Ows [] w0 w [] := ho.call ho'; clear ho'
                refine st_pure tabOK hk [9, 10, 11] [] [2, 3] [(2, I s19.1), (3, .bool t54)] (True) (by kernel_rfl) trivial ?_
                clear hk; intro a hk
                refine st_done ?_
                obtain rfl := Option.some.inj H
                exact J a w ⟨hk.to [2, 3] _ (by kernel_rfl), ho⟩
              ·
                rw [h49] at hk
                have h56 : ¬ (((bt s43 0) == 59) = true) := ne_true_of_eq_false h49
                rw [if_neg h56] at H
                refine st_pure tabOK hk [5, 6, 7, 8, 9, 10, 11] [] [2, 3] [(2, I s19.1), (3, .bool false)] (True) (by kernel_rfl) trivial ?_
                clear hk; intro a hk
                refine st_done ?_
                obtain rfl := Option.some.inj H
                exact J a w ⟨hk.to [2, 3] _ (by kernel_rfl), ho⟩
            · clear HX; rintro a w ⟨hk, ho⟩
              refine st_retG hk (by kernel_rfl) [I s19.1, .bool m48] #[.tmp 2, .tmp 3] (by kernel_rfl) ⟨resT hk (by kernel_rfl), resT hk (by kernel_rfl), trivial⟩ ?_
              obtain rfl := Option.some.inj H
              exact ⟨_, rfl, rfl, ho⟩


/-! scullery/sculleryref01.letter: function 81 -/
noncomputable def C81 (p : List Nat) : Code := Sub (bodyOf f81) p
def sculleryref01_letter.f (p0 : Int) : Option (Bool) := some (bif decide (p0 ≥ 97) then ((decide (p0 ≤ 122)) || (bif decide (p0 ≥ 65) then ((decide (p0 ≤ 90)) || ((decide (p0 ≥ 48)) && (decide (p0 ≤ 57)))) else ((decide (p0 ≥ 48)) && (decide (p0 ≤ 57))))) else (bif decide (p0 ≥ 65) then ((decide (p0 ≤ 90)) || ((decide (p0 ≥ 48)) && (decide (p0 ≤ 57)))) else ((decide (p0 ≥ 48)) && (decide (p0 ≤ 57)))))
abbrev sculleryref01_letter.post (w0 : World) (r : Bool) (u : Value) (w : World) : Prop := u = .bool r ∧ Ows [] w0 w []
theorem sculleryref01_letter.ok (p0 : Int) (r : Bool) (H : sculleryref01_letter.f p0 = some r) (w0 : World)  : Calls Tryz.prog 81 ⟨[.int .u8 p0]⟩ w0 fun e w => ∃ u, e = .returned u ∧ sculleryref01_letter.post w0 r u w := by
  unfold sculleryref01_letter.f at H
  refine st_start (N := 25) [.int .u8 p0] (C81 []) func81 (by kernel_rfl) (by kernel_rfl) (by kernel_rfl) ?_
  intro a w hk ho
  refine st_seq (C81 [0]) (C81 [1]) (by kernel_rfl) ?_
  refine st_region 0 (opsOf (C81 [0])) [0] (by kernel_rfl) (by kernel_rfl) ?_
  refine st_pure tabOK hk [0] [] [0] [(0, .int .u8 p0)] (True) (by kernel_rfl) trivial ?_
  clear hk; intro a hk
  refine st_done ?_
  refine st_seq (C81 [1, 0]) (C81 [1, 1]) (by kernel_rfl) ?_
  refine st_region 1 (opsOf (C81 [1, 0])) [0, 1, 2, 3, 4, 5, 6, 7, 8, 9, 10, 11, 12, 13, 14, 15, 16, 17, 18, 19, 20, 21, 22] (by kernel_rfl) (by kernel_rfl) ?_
  refine st_pure tabOK hk [0, 1, 2] [3, 4, 5, 6, 7, 8, 9, 10, 11, 12, 13, 14, 15, 16, 17, 18, 19, 20, 21, 22] [0, 5] [(0, .int .u8 p0), (5, .bool (decide (p0 ≥ 97)))] (True) (by kernel_rfl) trivial ?_
  clear hk; intro a hk
  refine cut_ops (fun a w => Kn 25 a [(2, .bool (bif decide (p0 ≥ 97) then ((decide (p0 ≤ 122)) || (bif decide (p0 ≥ 65) then ((decide (p0 ≤ 90)) || ((decide (p0 ≥ 48)) && (decide (p0 ≤ 57)))) else ((decide (p0 ≥ 48)) && (decide (p0 ≤ 57))))) else (bif decide (p0 ≥ 65) then ((decide (p0 ≤ 90)) || ((decide (p0 ≥ 48)) && (decide (p0 ≤ 57)))) else ((decide (p0 ≥ 48)) && (decide (p0 ≤ 57))))))] ∧ Ows [] w0 w []) ?_ ?_
  · intro J
    rcases Bool.eq_false_or_eq_true (decide (p0 ≥ 97)) with h1 | h1
    ·
      rw [h1] at hk
      have h2 : p0 ≥ 97 := of_decide_eq_true h1
      refine st_pure tabOK hk [3, 4, 5, 6] [7, 8, 9, 10, 11, 12, 13, 14, 15, 16, 17, 18, 19, 20, 21, 22] [0, 9] [(0, .int .u8 p0), (9, .bool (decide (p0 ≤ 122)))] (True) (by kernel_rfl) trivial ?_
      clear hk; intro a hk
      rcases Bool.eq_false_or_eq_true (decide (p0 ≤ 122)) with h3 | h3
      ·
        rw [h3] at hk
        have h4 : p0 ≤ 122 := of_decide_eq_true h3
        refine st_pure tabOK hk [7, 8, 9, 10, 11, 12, 13, 14, 15, 16, 17, 18, 19, 20, 21, 22] [] [2] [(2, .bool true)] (True) (by kernel_rfl) trivial ?_
        clear hk; intro a hk
        refine st_done ?_
        have e : (bif decide (p0 ≥ 97) then ((decide (p0 ≤ 122)) || (bif decide (p0 ≥ 65) then ((decide (p0 ≤ 90)) || ((decide (p0 ≥ 48)) && (decide (p0 ≤ 57)))) else ((decide (p0 ≥ 48)) && (decide (p0 ≤ 57))))) else (bif decide (p0 ≥ 65) then ((decide (p0 ≤ 90)) || ((decide (p0 ≥ 48)) && (decide (p0 ≤ 57)))) else ((decide (p0 ≥ 48)) && (decide (p0 ≤ 57))))) = true := by first | (simp only [h1, h3]; done) | (simp only [h1, h3]; rfl) | rfl | simp [h1, h3]
        exact J a w ⟨by rw [e]; exact hk.to [2] _ (by kernel_rfl), ho⟩
      ·
        rw [h3] at hk
        have h5 : ¬ (p0 ≤ 122) := of_decide_eq_false h3
        refine st_pure tabOK hk [7, 8, 9] [10, 11, 12, 13, 14, 15, 16, 17, 18, 19, 20, 21, 22] [0, 9, 12] [(0, .int .u8 p0), (9, .bool false), (12, .bool (decide (p0 ≥ 65)))] (True) (by kernel_rfl) trivial ?_
        clear hk; intro a hk
        rcases Bool.eq_false_or_eq_true (decide (p0 ≥ 65)) with h6 | h6
        ·
          rw [h6] at hk
          have h7 : p0 ≥ 65 := of_decide_eq_true h6
          refine st_pure tabOK hk [10, 11, 12, 13, 14] [15, 16, 17, 18, 19, 20, 21, 22] [0, 17] [(0, .int .u8 p0), (17, .bool (decide (p0 ≤ 90)))] (True) (by kernel_rfl) trivial ?_
          clear hk; intro a hk
          rcases Bool.eq_false_or_eq_true (decide (p0 ≤ 90)) with h8 | h8
          ·
            rw [h8] at hk
            have h9 : p0 ≤ 90 := of_decide_eq_true h8
            refine st_pure tabOK hk [15, 16, 17, 18, 19, 20, 21, 22] [] [2] [(2, .bool true)] (True) (by kernel_rfl) trivial ?_
            clear hk; intro a hk
            refine st_done ?_
            have e : (bif decide (p0 ≥ 97) then ((decide (p0 ≤ 122)) || (bif decide (p0 ≥ 65) then ((decide (p0 ≤ 90)) || ((decide (p0 ≥ 48)) && (decide (p0 ≤ 57)))) else ((decide (p0 ≥ 48)) && (decide (p0 ≤ 57))))) else (bif decide (p0 ≥ 65) then ((decide (p0 ≤ 90)) || ((decide (p0 ≥ 48)) && (decide (p0 ≤ 57)))) else ((decide (p0 ≥ 48)) && (decide (p0 ≤ 57))))) = true := by first | (simp only [h1, h3, h6, h8]; done) | (simp only [h1, h3, h6, h8]; rfl) | rfl | simp [h1, h3, h6, h8]
            exact J a w ⟨by rw [e]; exact hk.to [2] _ (by kernel_rfl), ho⟩
          ·
            rw [h8] at hk
            have h10 : ¬ (p0 ≤ 90) := of_decide_eq_false h8
            refine st_pure tabOK hk [15, 16, 17] [18, 19, 20, 21, 22] [0, 17, 20] [(0, .int .u8 p0), (17, .bool false), (20, .bool (decide (p0 ≥ 48)))] (True) (by kernel_rfl) trivial ?_
            clear hk; intro a hk
            rcases Bool.eq_false_or_eq_true (decide (p0 ≥ 48)) with h11 | h11
            ·
              rw [h11] at hk
              have h12 : p0 ≥ 48 := of_decide_eq_true h11
              refine st_pure tabOK hk [18, 19, 20, 21, 22] [] [2] [(2, .bool (decide (p0 ≤ 57)))] (True) (by kernel_rfl) trivial ?_
              clear hk; intro a hk
              refine st_done ?_
              have e : (bif decide (p0 ≥ 97) then ((decide (p0 ≤ 122)) || (bif decide (p0 ≥ 65) then ((decide (p0 ≤ 90)) || ((decide (p0 ≥ 48)) && (decide (p0 ≤ 57)))) else ((decide (p0 ≥ 48)) && (decide (p0 ≤ 57))))) else (bif decide (p0 ≥ 65) then ((decide (p0 ≤ 90)) || ((decide (p0 ≥ 48)) && (decide (p0 ≤ 57)))) else ((decide (p0 ≥ 48)) && (decide (p0 ≤ 57))))) = (decide (p0 ≤ 57)) := by first | (simp only [h1, h3, h6, h8, h11]; done) | (simp only [h1, h3, h6, h8, h11]; rfl) | rfl | simp [h1, h3, h6, h8, h11]
              exact J a w ⟨by rw [e]; exact hk.to [2] _ (by kernel_rfl), ho⟩
            ·
              rw [h11] at hk
              have h13 : ¬ (p0 ≥ 48) := of_decide_eq_false h11
              refine st_pure tabOK hk [18, 19, 20, 21, 22] [] [2] [(2, .bool false)] (True) (by kernel_rfl) trivial ?_
              clear hk; intro a hk
              refine st_done ?_
              have e : (bif decide (p0 ≥ 97) then ((decide (p0 ≤ 122)) || (bif decide (p0 ≥ 65) then ((decide (p0 ≤ 90)) || ((decide (p0 ≥ 48)) && (decide (p0 ≤ 57)))) else ((decide (p0 ≥ 48)) && (decide (p0 ≤ 57))))) else (bif decide (p0 ≥ 65) then ((decide (p0 ≤ 90)) || ((decide (p0 ≥ 48)) && (decide (p0 ≤ 57)))) else ((decide (p0 ≥ 48)) && (decide (p0 ≤ 57))))) = false := by first | (simp only [h1, h3, h6, h8, h11]; done) | (simp only [h1, h3, h6, h8, h11]; rfl) | rfl | simp [h1, h3, h6, h8, h11]
              exact J a w ⟨by rw [e]; exact hk.to [2] _ (by kernel_rfl), ho⟩
        ·
          rw [h6] at hk
          have h14 : ¬ (p0 ≥ 65) := of_decide_eq_false h6
          refine st_pure tabOK hk [10, 11, 12, 13, 14, 15, 16, 17] [18, 19, 20, 21, 22] [0, 17, 20] [(0, .int .u8 p0), (17, .bool false), (20, .bool (decide (p0 ≥ 48)))] (True) (by kernel_rfl) trivial ?_
          clear hk; intro a hk
          rcases Bool.eq_false_or_eq_true (decide (p0 ≥ 48)) with h15 | h15
          ·
            rw [h15] at hk
            have h16 : p0 ≥ 48 := of_decide_eq_true h15
            refine st_pure tabOK hk [18, 19, 20, 21, 22] [] [2] [(2, .bool (decide (p0 ≤ 57)))] (True) (by kernel_rfl) trivial ?_
            clear hk; intro a hk
            refine st_done ?_
            have e : (bif decide (p0 ≥ 97) then ((decide (p0 ≤ 122)) || (bif decide (p0 ≥ 65) then ((decide (p0 ≤ 90)) || ((decide (p0 ≥ 48)) && (decide (p0 ≤ 57)))) else ((decide (p0 ≥ 48)) && (decide (p0 ≤ 57))))) else (bif decide (p0 ≥ 65) then ((decide (p0 ≤ 90)) || ((decide (p0 ≥ 48)) && (decide (p0 ≤ 57)))) else ((decide (p0 ≥ 48)) && (decide (p0 ≤ 57))))) = (decide (p0 ≤ 57)) := by first | (simp only [h1, h3, h6, h15]; done) | (simp only [h1, h3, h6, h15]; rfl) | rfl | simp [h1, h3, h6, h15]
            exact J a w ⟨by rw [e]; exact hk.to [2] _ (by kernel_rfl), ho⟩
          ·
            rw [h15] at hk
            have h17 : ¬ (p0 ≥ 48) := of_decide_eq_false h15
            refine st_pure tabOK hk [18, 19, 20, 21, 22] [] [2] [(2, .bool false)] (True) (by kernel_rfl) trivial ?_
            clear hk; intro a hk
            refine st_done ?_
            have e : (bif decide (p0 ≥ 97) then ((decide (p0 ≤ 122)) || (bif decide (p0 ≥ 65) then ((decide (p0 ≤ 90)) || ((decide (p0 ≥ 48)) && (decide (p0 ≤ 57)))) else ((decide (p0 ≥ 48)) && (decide (p0 ≤ 57))))) else (bif decide (p0 ≥ 65) then ((decide (p0 ≤ 90)) || ((decide (p0 ≥ 48)) && (decide (p0 ≤ 57)))) else ((decide (p0 ≥ 48)) && (decide (p0 ≤ 57))))) = false := by first | (simp only [h1, h3, h6, h15]; done) | (simp only [h1, h3, h6, h15]; rfl) | rfl | simp [h1, h3, h6, h15]
            exact J a w ⟨by rw [e]; exact hk.to [2] _ (by kernel_rfl), ho⟩
    ·
      rw [h1] at hk
      have h18 : ¬ (p0 ≥ 97) := of_decide_eq_false h1
      refine st_pure tabOK hk [3, 4, 5, 6, 7, 8, 9] [10, 11, 12, 13, 14, 15, 16, 17, 18, 19, 20, 21, 22] [0, 9, 12] [(0, .int .u8 p0), (9, .bool false), (12, .bool (decide (p0 ≥ 65)))] (True) (by kernel_rfl) trivial ?_
      clear hk; intro a hk
      rcases Bool.eq_false_or_eq_true (decide (p0 ≥ 65)) with h19 | h19
      ·
        rw [h19] at hk
        have h20 : p0 ≥ 65 := of_decide_eq_true h19
        refine st_pure tabOK hk [10, 11, 12, 13, 14] [15, 16, 17, 18, 19, 20, 21, 22] [0, 17] [(0, .int .u8 p0), (17, .bool (decide (p0 ≤ 90)))] (True) (by kernel_rfl) trivial ?_
        clear hk; intro a hk
        rcases Bool.eq_false_or_eq_true (decide (p0 ≤ 90)) with h21 | h21
        ·
          rw [h21] at hk
          have h22 : p0 ≤ 90 := of_decide_eq_true h21
          refine st_pure tabOK hk [15, 16, 17, 18, 19, 20, 21, 22] [] [2] [(2, .bool true)] (True) (by kernel_rfl) trivial ?_
          clear hk; intro a hk
          refine st_done ?_
          have e : (bif decide (p0 ≥ 97) then ((decide (p0 ≤ 122)) || (bif decide (p0 ≥ 65) then ((decide (p0 ≤ 90)) || ((decide (p0 ≥ 48)) && (decide (p0 ≤ 57)))) else ((decide (p0 ≥ 48)) && (decide (p0 ≤ 57))))) else (bif decide (p0 ≥ 65) then ((decide (p0 ≤ 90)) || ((decide (p0 ≥ 48)) && (decide (p0 ≤ 57)))) else ((decide (p0 ≥ 48)) && (decide (p0 ≤ 57))))) = true := by first | (simp only [h1, h19, h21]; done) | (simp only [h1, h19, h21]; rfl) | rfl | simp [h1, h19, h21]
          exact J a w ⟨by rw [e]; exact hk.to [2] _ (by kernel_rfl), ho⟩
        ·
          rw [h21] at hk
          have h23 : ¬ (p0 ≤ 90) := of_decide_eq_false h21
          refine st_pure tabOK hk [15, 16, 17] [18, 19, 20, 21, 22] [0, 17, 20] [(0, .int .u8 p0), (17, .bool false), (20, .bool (decide (p0 ≥ 48)))] (True) (by kernel_rfl) trivial ?_
          clear hk; intro a hk
          rcases Bool.eq_false_or_eq_true (decide (p0 ≥ 48)) with h24 | h24
          ·
            rw [h24] at hk
            have h25 : p0 ≥ 48 := of_decide_eq_true h24
            refine st_pure tabOK hk [18, 19, 20, 21, 22] [] [2] [(2, .bool (decide (p0 ≤ 57)))] (True) (by kernel_rfl) trivial ?_
            clear hk; intro a hk
            refine st_done ?_
            have e : (bif decide (p0 ≥ 97) then ((decide (p0 ≤ 122)) || (bif decide (p0 ≥ 65) then ((decide (p0 ≤ 90)) || ((decide (p0 ≥ 48)) && (decide (p0 ≤ 57)))) else ((decide (p0 ≥ 48)) && (decide (p0 ≤ 57))))) else (bif decide (p0 ≥ 65) then ((decide (p0 ≤ 90)) || ((decide (p0 ≥ 48)) && (decide (p0 ≤ 57)))) else ((decide (p0 ≥ 48)) && (decide (p0 ≤ 57))))) = (decide (p0 ≤ 57)) := by first | (simp only [h1, h19, h21, h24]; done) | (simp only [h1, h19, h21, h24]; rfl) | rfl | simp [h1, h19, h21, h24]
            exact J a w ⟨by rw [e]; exact hk.to [2] _ (by kernel_rfl), ho⟩
          ·
            rw [h24] at hk
            have h26 : ¬ (p0 ≥ 48) := of_decide_eq_false h24
            refine st_pure tabOK hk [18, 19, 20, 21, 22] [] [2] [(2, .bool false)] (True) (by kernel_rfl) trivial ?_
            clear hk; intro a hk
            refine st_done ?_
            have e : (bif decide (p0 ≥ 97) then ((decide (p0 ≤ 122)) || (bif decide (p0 ≥ 65) then ((decide (p0 ≤ 90)) || ((decide (p0 ≥ 48)) && (decide (p0 ≤ 57)))) else ((decide (p0 ≥ 48)) && (decide (p0 ≤ 57))))) else (bif decide (p0 ≥ 65) then ((decide (p0 ≤ 90)) || ((decide (p0 ≥ 48)) && (decide (p0 ≤ 57)))) else ((decide (p0 ≥ 48)) && (decide (p0 ≤ 57))))) = false := by first | (simp only [h1, h19, h21, h24]; done) | (simp only [h1, h19, h21, h24]; rfl) | rfl | simp [h1, h19, h21, h24]
            exact J a w ⟨by rw [e]; exact hk.to [2] _ (by kernel_rfl), ho⟩
      ·
        rw [h19] at hk
        have h27 : ¬ (p0 ≥ 65) := of_decide_eq_false h19
        refine st_pure tabOK hk [10, 11, 12, 13, 14, 15, 16, 17] [18, 19, 20, 21, 22] [0, 17, 20] [(0, .int .u8 p0), (17, .bool false), (20, .bool (decide (p0 ≥ 48)))] (True) (by kernel_rfl) trivial ?_
        clear hk; intro a hk
        rcases Bool.eq_false_or_eq_true (decide (p0 ≥ 48)) with h28 | h28
        ·
          rw [h28] at hk
          have h29 : p0 ≥ 48 := of_decide_eq_true h28
          refine st_pure tabOK hk [18, 19, 20, 21, 22] [] [2] [(2, .bool (decide (p0 ≤ 57)))] (True) (by kernel_rfl) trivial ?_
          clear hk; intro a hk
          refine st_done ?_
          have e : (bif decide (p0 ≥ 97) then ((decide (p0 ≤ 122)) || (bif decide (p0 ≥ 65) then ((decide (p0 ≤ 90)) || ((decide (p0 ≥ 48)) && (decide (p0 ≤ 57)))) else ((decide (p0 ≥ 48)) && (decide (p0 ≤ 57))))) else (bif decide (p0 ≥ 65) then ((decide (p0 ≤ 90)) || ((decide (p0 ≥ 48)) && (decide (p0 ≤ 57)))) else ((decide (p0 ≥ 48)) && (decide (p0 ≤ 57))))) = (decide (p0 ≤ 57)) := by first | (simp only [h1, h19, h28]; done) | (simp only [h1, h19, h28]; rfl) | rfl | simp [h1, h19, h28]
          exact J a w ⟨by rw [e]; exact hk.to [2] _ (by kernel_rfl), ho⟩
        ·
          rw [h28] at hk
          have h30 : ¬ (p0 ≥ 48) := of_decide_eq_false h28
          refine st_pure tabOK hk [18, 19, 20, 21, 22] [] [2] [(2, .bool false)] (True) (by kernel_rfl) trivial ?_
          clear hk; intro a hk
          refine st_done ?_
          have e : (bif decide (p0 ≥ 97) then ((decide (p0 ≤ 122)) || (bif decide (p0 ≥ 65) then ((decide (p0 ≤ 90)) || ((decide (p0 ≥ 48)) && (decide (p0 ≤ 57)))) else ((decide (p0 ≥ 48)) && (decide (p0 ≤ 57))))) else (bif decide (p0 ≥ 65) then ((decide (p0 ≤ 90)) || ((decide (p0 ≥ 48)) && (decide (p0 ≤ 57)))) else ((decide (p0 ≥ 48)) && (decide (p0 ≤ 57))))) = false := by first | (simp only [h1, h19, h28]; done) | (simp only [h1, h19, h28]; rfl) | rfl | simp [h1, h19, h28]
          exact J a w ⟨by rw [e]; exact hk.to [2] _ (by kernel_rfl), ho⟩
  · rintro a w ⟨hk, ho⟩
    refine st_retG hk (by kernel_rfl) [.bool (bif decide (p0 ≥ 97) then ((decide (p0 ≤ 122)) || (bif decide (p0 ≥ 65) then ((decide (p0 ≤ 90)) || ((decide (p0 ≥ 48)) && (decide (p0 ≤ 57)))) else ((decide (p0 ≥ 48)) && (decide (p0 ≤ 57))))) else (bif decide (p0 ≥ 65) then ((decide (p0 ≤ 90)) || ((decide (p0 ≥ 48)) && (decide (p0 ≤ 57)))) else ((decide (p0 ≥ 48)) && (decide (p0 ≤ 57)))))] #[.tmp 2] (by kernel_rfl) ⟨resT hk (by kernel_rfl), trivial⟩ ?_
    obtain rfl := Option.some.inj H
    exact ⟨_, rfl, rfl, ho⟩


/-! scullery/sculleryref01.Tchar: function 58 -/
noncomputable def C58 (p : List Nat) : Code := Sub (bodyOf f58) p
def sculleryref01_Tchar.l0 : Nat → Int → Int → Option ((Unit) ⊕ (Bool))
  | 0, _, _ => none
  | k + 1, p0, v1 => (if v1 < (([33, 35, 36, 37, 38, 39, 42, 43, 45, 46, 94, 95, 96, 124, 126]).length : Int) then (if (0 : Int) ≤ v1 then (if ((bt ([33, 35, 36, 37, 38, 39, 42, 43, 45, 46, 94, 95, 96, 124, 126]) v1) == p0) = true then some (.inr true) else sculleryref01_Tchar.l0 k p0 (w64 (v1 + 1))) else none) else some (.inl ()))
def sculleryref01_Tchar.f (K : Nat) (p0 : Int) : Option (Bool) := (((sculleryref01_Tchar.l0 K p0 0).bind fun m9 => match m9 with | .inl s11 => (((sculleryref01_letter.f p0).bind fun t12 => some t12)) | .inr r14 => some r14))
abbrev sculleryref01_Tchar.post (w0 : World) (r : Bool) (u : Value) (w : World) : Prop := u = .bool r ∧ Ows [] w0 w []
theorem sculleryref01_Tchar.l0_ok : ∀ (k : Nat) (p0 : Int) (v1 : Int) (out : (Unit) ⊕ (Bool)), sculleryref01_Tchar.l0 k p0 v1 = some out → ∀ (w0 : World) (Q : Exit → Act → World → Prop) (rest : List It) (a : Act) (w : World), Kn 18 a [(0, .int .u8 p0), (3, S ([33, 35, 36, 37, 38, 39, 42, 43, 45, 46, 94, 95, 96, 124, 126])), (4, I v1)] → Ows [] w0 w [] → (∀ (s : Unit) (a : Act) (w : World), out = .inl s → Kn 18 a [(0, .int .u8 p0)] → Ows [] w0 w [] → G Tryz.prog Q rest a w) → (∀ (r : Bool) (a : Act) (w : World), out = .inr r → Kn 18 a [(2, .bool r)] → Ows [] w0 w [] → Q .ret a w) → G Tryz.prog Q (.code (C58 [1, 1, 0, 1, 0, 0]) :: .inl (C58 [1, 1, 0, 1, 0, 0]) :: .endb 0 :: rest) a w := by
  intro k
  induction k with
  | zero => intro p0 v1 out H; simp [sculleryref01_Tchar.l0] at H
  | succ k ih =>
    intro p0 v1 out H  w0 Q rest a w  hk ho J R
    simp only [sculleryref01_Tchar.l0] at H
    refine st_seq (C58 [1, 1, 0, 1, 0, 0, 0]) (C58 [1, 1, 0, 1, 0, 0, 1]) (by kernel_rfl) ?_
    refine st_seq (C58 [1, 1, 0, 1, 0, 0, 0, 0]) (C58 [1, 1, 0, 1, 0, 0, 0, 1]) (by kernel_rfl) ?_
    refine st_region 3 (opsOf (C58 [1, 1, 0, 1, 0, 0, 0, 0])) [0, 1, 2, 3] (by kernel_rfl) (by kernel_rfl) ?_
    refine st_pure tabOK hk [0, 1, 2, 3] [] [0, 3, 4, 8] [(0, .int .u8 p0), (3, S ([33, 35, 36, 37, 38, 39, 42, 43, 45, 46, 94, 95, 96, 124, 126])), (4, I v1), (8, .bool (decide (v1 < (([33, 35, 36, 37, 38, 39, 42, 43, 45, 46, 94, 95, 96, 124, 126]).length : Int))))] (True) (by kernel_rfl) trivial ?_
    clear hk; intro a hk
    refine st_done ?_
    refine st_cond hk (C58 [1, 1, 0, 1, 0, 0, 0, 1, 0]) (C58 [1, 1, 0, 1, 0, 0, 0, 1, 1]) (.tmp 8) (decide (v1 < (([33, 35, 36, 37, 38, 39, 42, 43, 45, 46, 94, 95, 96, 124, 126]).length : Int))) (by kernel_rfl) (by kernel_rfl) (fun h2 => ?_) (fun h2 => ?_)
    ·
      have h3 : v1 < (([33, 35, 36, 37, 38, 39, 42, 43, 45, 46, 94, 95, 96, 124, 126]).length : Int) := of_decide_eq_true h2
      rw [if_pos h3] at H
      refine st_skip (by kernel_rfl) ?_
      refine st_seq (C58 [1, 1, 0, 1, 0, 0, 1, 0]) (C58 [1, 1, 0, 1, 0, 0, 1, 1]) (by kernel_rfl) ?_
      refine st_block 1 (C58 [1, 1, 0, 1, 0, 0, 1, 0, 0]) (by kernel_rfl) ?_
      refine st_seq (C58 [1, 1, 0, 1, 0, 0, 1, 0, 0, 0]) (C58 [1, 1, 0, 1, 0, 0, 1, 0, 0, 1]) (by kernel_rfl) ?_
      refine st_region 5 (opsOf (C58 [1, 1, 0, 1, 0, 0, 1, 0, 0, 0])) [0, 1, 2, 3, 4] (by kernel_rfl) (by kernel_rfl) ?_
      have h4 : (0 : Int) ≤ v1 := by
        by_cases h4 : (0 : Int) ≤ v1
        · exact h4
        · rw [if_neg h4] at H; cases H
      rw [if_pos h4] at H
      refine st_pure tabOK hk [0, 1, 2, 3, 4] [] [0, 3, 4, 15] [(0, .int .u8 p0), (3, S ([33, 35, 36, 37, 38, 39, 42, 43, 45, 46, 94, 95, 96, 124, 126])), (4, I v1), (15, .bool ((bt ([33, 35, 36, 37, 38, 39, 42, 43, 45, 46, 94, 95, 96, 124, 126]) v1) == p0))] (((0 : Int) ≤ v1 ∧ v1 < (([33, 35, 36, 37, 38, 39, 42, 43, 45, 46, 94, 95, 96, 124, 126]).length : Int)) ∧ True) (by kernel_rfl) ⟨⟨h4, h3⟩, trivial⟩ ?_
      clear hk; intro a hk
      refine st_done ?_
      refine st_cond hk (C58 [1, 1, 0, 1, 0, 0, 1, 0, 0, 1, 0]) (C58 [1, 1, 0, 1, 0, 0, 1, 0, 0, 1, 1]) (.tmp 15) ((bt ([33, 35, 36, 37, 38, 39, 42, 43, 45, 46, 94, 95, 96, 124, 126]) v1) == p0) (by kernel_rfl) (by kernel_rfl) (fun h5 => ?_) (fun h5 => ?_)
      ·
        have h6 : ((bt ([33, 35, 36, 37, 38, 39, 42, 43, 45, 46, 94, 95, 96, 124, 126]) v1) == p0) = true := h5
        rw [if_pos h6] at H
        refine st_seq (C58 [1, 1, 0, 1, 0, 0, 1, 0, 0, 1, 0, 0]) (C58 [1, 1, 0, 1, 0, 0, 1, 0, 0, 1, 0, 1]) (by kernel_rfl) ?_
        refine st_region 6 (opsOf (C58 [1, 1, 0, 1, 0, 0, 1, 0, 0, 1, 0, 0])) [0] (by kernel_rfl) (by kernel_rfl) ?_
        refine st_pure tabOK hk [0] [] [2] [(2, .bool true)] (True) (by kernel_rfl) trivial ?_
        clear hk; intro a hk
        refine st_done ?_
        refine st_ret (by kernel_rfl) ?_
        obtain rfl := Option.some.inj H
        exact R true  a w rfl (hk.to [2] _ (by kernel_rfl)) ho
      ·
        have h7 : ¬ (((bt ([33, 35, 36, 37, 38, 39, 42, 43, 45, 46, 94, 95, 96, 124, 126]) v1) == p0) = true) := ne_true_of_eq_false h5
        rw [if_neg h7] at H
        refine st_skip (by kernel_rfl) ?_
        refine st_endb 1 ?_
        refine st_region 4 (opsOf (C58 [1, 1, 0, 1, 0, 0, 1, 1])) [0, 1, 2] (by kernel_rfl) (by kernel_rfl) ?_
        refine st_pure tabOK hk [0, 1, 2] [] [0, 3, 4] [(0, .int .u8 p0), (3, S ([33, 35, 36, 37, 38, 39, 42, 43, 45, 46, 94, 95, 96, 124, 126])), (4, I (w64 (v1 + 1)))] (True) (by kernel_rfl) trivial ?_
        clear hk; intro a hk
        refine st_done ?_
        refine st_inl ?_
        exact ih p0 (w64 (v1 + 1)) out H  w0 Q rest a w  (hk.to [0, 3, 4] _ (by kernel_rfl)) ho J R
    ·
      have h8 : ¬ (v1 < (([33, 35, 36, 37, 38, 39, 42, 43, 45, 46, 94, 95, 96, 124, 126]).length : Int)) := of_decide_eq_false h2
      rw [if_neg h8] at H
      refine st_exit 0 _ (by kernel_rfl) rfl ?_
      obtain rfl := Option.some.inj H
      exact J ()  a w rfl (hk.to [0] _ (by kernel_rfl)) ho

theorem sculleryref01_Tchar.ok (K : Nat) (p0 : Int) (r : Bool) (H : sculleryref01_Tchar.f K p0 = some r) (w0 : World)  : Calls Tryz.prog 58 ⟨[.int .u8 p0]⟩ w0 fun e w => ∃ u, e = .returned u ∧ sculleryref01_Tchar.post w0 r u w := by
  unfold sculleryref01_Tchar.f at H
  refine st_start (N := 18) [.int .u8 p0] (C58 []) func58 (by kernel_rfl) (by kernel_rfl) (by kernel_rfl) ?_
  intro a w hk ho
  refine st_seq (C58 [0]) (C58 [1]) (by kernel_rfl) ?_
  refine st_region 0 (opsOf (C58 [0])) [0] (by kernel_rfl) (by kernel_rfl) ?_
  refine st_pure tabOK hk [0] [] [0] [(0, .int .u8 p0)] (True) (by kernel_rfl) trivial ?_
  clear hk; intro a hk
  refine st_done ?_
  refine st_seq (C58 [1, 0]) (C58 [1, 1]) (by kernel_rfl) ?_
  refine st_region 1 (opsOf (C58 [1, 0])) [0] (by kernel_rfl) (by kernel_rfl) ?_
  refine st_pure tabOK hk [0] [] [0, 3] [(0, .int .u8 p0), (3, S ([33, 35, 36, 37, 38, 39, 42, 43, 45, 46, 94, 95, 96, 124, 126]))] (True) (by kernel_rfl) trivial ?_
  clear hk; intro a hk
  refine st_done ?_
  refine st_seq (C58 [1, 1, 0]) (C58 [1, 1, 1]) (by kernel_rfl) ?_
  refine st_seq (C58 [1, 1, 0, 0]) (C58 [1, 1, 0, 1]) (by kernel_rfl) ?_
  refine st_region 2 (opsOf (C58 [1, 1, 0, 0])) [0] (by kernel_rfl) (by kernel_rfl) ?_
  refine st_pure tabOK hk [0] [] [0, 3, 4] [(0, .int .u8 p0), (3, S ([33, 35, 36, 37, 38, 39, 42, 43, 45, 46, 94, 95, 96, 124, 126])), (4, I 0)] (True) (by kernel_rfl) trivial ?_
  clear hk; intro a hk
  refine st_done ?_
  refine st_block 0 (C58 [1, 1, 0, 1, 0]) (by kernel_rfl) ?_
  obtain ⟨m9, h10, H⟩ := Option.bind_eq_some_iff.1 H
  refine st_loop (C58 [1, 1, 0, 1, 0, 0]) (by kernel_rfl) ?_
  refine sculleryref01_Tchar.l0_ok K p0 0 m9 h10  w0 _ _ a w  (hk.to [0, 3, 4] _ (by kernel_rfl)) ho ?_ ?_
  · intro s11  a w e hk ho; subst e
    simp only [] at H
    refine st_seq (C58 [1, 1, 1, 0]) (C58 [1, 1, 1, 1]) (by kernel_rfl) ?_
    refine st_region 7 (opsOf (C58 [1, 1, 1, 0])) [0, 1, 2] (by kernel_rfl) (by kernel_rfl) ?_
    refine st_pure tabOK hk [0] [1, 2] [16] [(16, .int .u8 p0)] (True) (by kernel_rfl) trivial ?_
    clear hk; intro a hk
    obtain ⟨t12, h13, H⟩ := Option.bind_eq_some_iff.1 H
    refine st_call hk 81 [.int .u8 p0] (some 17) enters81 (by kernel_rfl) (sculleryref01_letter.ok  p0 t12 h13 w ) ?_
    clear hk; rintro a u w ⟨rfl, ho'⟩ hk
    replace ho : Ows [] w0 w [] := ho.call ho'; clear ho'
    refine st_pure tabOK hk [2] [] [2] [(2, .bool t12)] (True) (by kernel_rfl) trivial ?_
    clear hk; intro a hk
    refine st_done ?_
    refine st_retG hk (by kernel_rfl) [.bool t12] #[.tmp 2] (by kernel_rfl) ⟨resT hk (by kernel_rfl), trivial⟩ ?_
    obtain rfl := Option.some.inj H
    exact ⟨_, rfl, rfl, ho⟩
  · intro r14  a w e hk ho; subst e
    simp only [] at H
    refine retG hk [.bool r14] #[.tmp 2] (by kernel_rfl) ⟨resT hk (by kernel_rfl), trivial⟩ ?_
    obtain rfl := Option.some.inj H
    exact ⟨_, rfl, rfl, ho⟩


/-! scullery/sculleryref01.Token: function 34 -/
noncomputable def C34 (p : List Nat) : Code := Sub (bodyOf f34) p
def sculleryref01_Token.l0 (K : Nat) : Nat → Str → Int → Option ((Unit) ⊕ (Bool))
  | 0, _, _ => none
  | k + 1, p0, v1 => (if v1 < (p0.length : Int) then (if (0 : Int) ≤ v1 then ((sculleryref01_Tchar.f K (bt p0 v1)).bind fun t5 => (if (!t5) = true then some (.inr false) else sculleryref01_Token.l0 K k p0 (w64 (v1 + 1)))) else none) else some (.inl ()))
def sculleryref01_Token.f (K : Nat) (p0 : Str) : Option (Bool) := (((sculleryref01_Token.l0 K K p0 0).bind fun m11 => match m11 with | .inl s13 => some (decide ((p0.length : Int) > 0)) | .inr r14 => some r14))
abbrev sculleryref01_Token.post (w0 : World) (r : Bool) (u : Value) (w : World) : Prop := u = .bool r ∧ Ows [] w0 w []
theorem sculleryref01_Token.l0_ok (K : Nat) : ∀ (k : Nat) (p0 : Str) (v1 : Int) (out : (Unit) ⊕ (Bool)), sculleryref01_Token.l0 K k p0 v1 = some out → ∀ (w0 : World) (Q : Exit → Act → World → Prop) (rest : List It) (a : Act) (w : World), Kn 18 a [(0, S p0), (3, I v1)] → Ows [] w0 w [] → (∀ (s : Unit) (a : Act) (w : World), out = .inl s → Kn 18 a [(0, S p0)] → Ows [] w0 w [] → G Tryz.prog Q rest a w) → (∀ (r : Bool) (a : Act) (w : World), out = .inr r → Kn 18 a [(2, .bool r)] → Ows [] w0 w [] → Q .ret a w) → G Tryz.prog Q (.code (C34 [1, 0, 1, 0, 0]) :: .inl (C34 [1, 0, 1, 0, 0]) :: .endb 0 :: rest) a w := by
  intro k
  induction k with
  | zero => intro p0 v1 out H; simp [sculleryref01_Token.l0] at H
  | succ k ih =>
    intro p0 v1 out H  w0 Q rest a w  hk ho J R
    simp only [sculleryref01_Token.l0] at H
    refine st_seq (C34 [1, 0, 1, 0, 0, 0]) (C34 [1, 0, 1, 0, 0, 1]) (by kernel_rfl) ?_
    refine st_seq (C34 [1, 0, 1, 0, 0, 0, 0]) (C34 [1, 0, 1, 0, 0, 0, 1]) (by kernel_rfl) ?_
    refine st_region 2 (opsOf (C34 [1, 0, 1, 0, 0, 0, 0])) [0, 1, 2, 3] (by kernel_rfl) (by kernel_rfl) ?_
    refine st_pure tabOK hk [0, 1, 2, 3] [] [0, 3, 7] [(0, S p0), (3, I v1), (7, .bool (decide (v1 < (p0.length : Int))))] (True) (by kernel_rfl) trivial ?_
    clear hk; intro a hk
    refine st_done ?_
    refine st_cond hk (C34 [1, 0, 1, 0, 0, 0, 1, 0]) (C34 [1, 0, 1, 0, 0, 0, 1, 1]) (.tmp 7) (decide (v1 < (p0.length : Int))) (by kernel_rfl) (by kernel_rfl) (fun h2 => ?_) (fun h2 => ?_)
    ·
      have h3 : v1 < (p0.length : Int) := of_decide_eq_true h2
      rw [if_pos h3] at H
      refine st_skip (by kernel_rfl) ?_
      refine st_seq (C34 [1, 0, 1, 0, 0, 1, 0]) (C34 [1, 0, 1, 0, 0, 1, 1]) (by kernel_rfl) ?_
      refine st_block 1 (C34 [1, 0, 1, 0, 0, 1, 0, 0]) (by kernel_rfl) ?_
      refine st_seq (C34 [1, 0, 1, 0, 0, 1, 0, 0, 0]) (C34 [1, 0, 1, 0, 0, 1, 0, 0, 1]) (by kernel_rfl) ?_
      refine st_region 4 (opsOf (C34 [1, 0, 1, 0, 0, 1, 0, 0, 0])) [0, 1, 2, 3, 4] (by kernel_rfl) (by kernel_rfl) ?_
      have h4 : (0 : Int) ≤ v1 := by
        by_cases h4 : (0 : Int) ≤ v1
        · exact h4
        · rw [if_neg h4] at H; cases H
      rw [if_pos h4] at H
      refine st_pure tabOK hk [0, 1, 2] [3, 4] [0, 3, 12] [(0, S p0), (3, I v1), (12, .int .u8 (bt p0 v1))] (((0 : Int) ≤ v1 ∧ v1 < (p0.length : Int)) ∧ True) (by kernel_rfl) ⟨⟨h4, h3⟩, trivial⟩ ?_
      clear hk; intro a hk
      obtain ⟨t5, h6, H⟩ := Option.bind_eq_some_iff.1 H
      refine st_call hk 58 [.int .u8 (bt p0 v1)] (some 13) enters58 (by kernel_rfl) (sculleryref01_Tchar.ok K  (bt p0 v1) t5 h6 w ) ?_
      clear hk; rintro a u w ⟨rfl, ho'⟩ hk
      replace ho : Ows [] w0 w [] := ho.call ho'; clear ho'
      refine st_pure tabOK hk [4] [] [0, 3, 14] [(0, S p0), (3, I v1), (14, .bool (!t5))] (True) (by kernel_rfl) trivial ?_
      clear hk; intro a hk
      refine st_done ?_
      refine st_cond hk (C34 [1, 0, 1, 0, 0, 1, 0, 0, 1, 0]) (C34 [1, 0, 1, 0, 0, 1, 0, 0, 1, 1]) (.tmp 14) (!t5) (by kernel_rfl) (by kernel_rfl) (fun h7 => ?_) (fun h7 => ?_)
      ·
        have h8 : (!t5) = true := h7
        rw [if_pos h8] at H
        refine st_seq (C34 [1, 0, 1, 0, 0, 1, 0, 0, 1, 0, 0]) (C34 [1, 0, 1, 0, 0, 1, 0, 0, 1, 0, 1]) (by kernel_rfl) ?_
        refine st_region 5 (opsOf (C34 [1, 0, 1, 0, 0, 1, 0, 0, 1, 0, 0])) [0] (by kernel_rfl) (by kernel_rfl) ?_
        refine st_pure tabOK hk [0] [] [2] [(2, .bool false)] (True) (by kernel_rfl) trivial ?_
        clear hk; intro a hk
        refine st_done ?_
        refine st_ret (by kernel_rfl) ?_
        obtain rfl := Option.some.inj H
        exact R false  a w rfl (hk.to [2] _ (by kernel_rfl)) ho
      ·
        have h9 : ¬ ((!t5) = true) := ne_true_of_eq_false h7
        rw [if_neg h9] at H
        refine st_skip (by kernel_rfl) ?_
        refine st_endb 1 ?_
        refine st_region 3 (opsOf (C34 [1, 0, 1, 0, 0, 1, 1])) [0, 1, 2] (by kernel_rfl) (by kernel_rfl) ?_
        refine st_pure tabOK hk [0, 1, 2] [] [0, 3] [(0, S p0), (3, I (w64 (v1 + 1)))] (True) (by kernel_rfl) trivial ?_
        clear hk; intro a hk
        refine st_done ?_
        refine st_inl ?_
        exact ih p0 (w64 (v1 + 1)) out H  w0 Q rest a w  (hk.to [0, 3] _ (by kernel_rfl)) ho J R
    ·
      have h10 : ¬ (v1 < (p0.length : Int)) := of_decide_eq_false h2
      rw [if_neg h10] at H
      refine st_exit 0 _ (by kernel_rfl) rfl ?_
      obtain rfl := Option.some.inj H
      exact J ()  a w rfl (hk.to [0] _ (by kernel_rfl)) ho

theorem sculleryref01_Token.ok (K : Nat) (p0 : Str) (r : Bool) (H : sculleryref01_Token.f K p0 = some r) (w0 : World)  : Calls Tryz.prog 34 ⟨[S p0]⟩ w0 fun e w => ∃ u, e = .returned u ∧ sculleryref01_Token.post w0 r u w := by
  unfold sculleryref01_Token.f at H
  refine st_start (N := 18) [S p0] (C34 []) func34 (by kernel_rfl) (by kernel_rfl) (by kernel_rfl) ?_
  intro a w hk ho
  refine st_seq (C34 [0]) (C34 [1]) (by kernel_rfl) ?_
  refine st_region 0 (opsOf (C34 [0])) [0] (by kernel_rfl) (by kernel_rfl) ?_
  refine st_pure tabOK hk [0] [] [0] [(0, S p0)] (True) (by kernel_rfl) trivial ?_
  clear hk; intro a hk
  refine st_done ?_
  refine st_seq (C34 [1, 0]) (C34 [1, 1]) (by kernel_rfl) ?_
  refine st_seq (C34 [1, 0, 0]) (C34 [1, 0, 1]) (by kernel_rfl) ?_
  refine st_region 1 (opsOf (C34 [1, 0, 0])) [0] (by kernel_rfl) (by kernel_rfl) ?_
  refine st_pure tabOK hk [0] [] [0, 3] [(0, S p0), (3, I 0)] (True) (by kernel_rfl) trivial ?_
  clear hk; intro a hk
  refine st_done ?_
  refine st_block 0 (C34 [1, 0, 1, 0]) (by kernel_rfl) ?_
  obtain ⟨m11, h12, H⟩ := Option.bind_eq_some_iff.1 H
  refine st_loop (C34 [1, 0, 1, 0, 0]) (by kernel_rfl) ?_
  refine sculleryref01_Token.l0_ok K K p0 0 m11 h12  w0 _ _ a w  (hk.to [0, 3] _ (by kernel_rfl)) ho ?_ ?_
  · intro s13  a w e hk ho; subst e
    simp only [] at H
    refine st_seq (C34 [1, 1, 0]) (C34 [1, 1, 1]) (by kernel_rfl) ?_
    refine st_region 6 (opsOf (C34 [1, 1, 0])) [0, 1, 2, 3] (by kernel_rfl) (by kernel_rfl) ?_
    refine st_pure tabOK hk [0, 1, 2, 3] [] [2] [(2, .bool (decide ((p0.length : Int) > 0)))] (True) (by kernel_rfl) trivial ?_
    clear hk; intro a hk
    refine st_done ?_
    refine st_retG hk (by kernel_rfl) [.bool (decide ((p0.length : Int) > 0))] #[.tmp 2] (by kernel_rfl) ⟨resT hk (by kernel_rfl), trivial⟩ ?_
    obtain rfl := Option.some.inj H
    exact ⟨_, rfl, rfl, ho⟩
  · intro r14  a w e hk ho; subst e
    simp only [] at H
    refine retG hk [.bool r14] #[.tmp 2] (by kernel_rfl) ⟨resT hk (by kernel_rfl), trivial⟩ ?_
    obtain rfl := Option.some.inj H
    exact ⟨_, rfl, rfl, ho⟩


/-! scullery/sculleryref01.Lower: function 35 -/
noncomputable def C35 (p : List Nat) : Code := Sub (bodyOf f35) p
def sculleryref01_Lower.l0 : Nat → Str → List UInt8 → Int → Option (List UInt8)
  | 0, _, _, _ => none
  | k + 1, p0, v4, v7 => (if v7 < (p0.length : Int) then (if (0 : Int) ≤ v7 then (((if ((decide (bt p0 v7 ≥ 65)) && (decide (bt p0 v7 ≤ 90))) = true then some (w8 ((bt p0 v7) + 32)) else some (bt p0 v7))).bind fun m16 => (if (0 : Int) ≤ m16 then (if m16 < 256 then (if v4.length + ([(u8 m16)] : List (UInt8)).length ≤ 4294967296 then sculleryref01_Lower.l0 k p0 (v4 ++ ([(u8 m16)] : List (UInt8))) (w64 (v7 + 1)) else none) else none) else none)) else none) else some v4)
def sculleryref01_Lower.f (K : Nat) (p0 : Str) : Option (Str) := (((sculleryref01_Lower.l0 K p0 ([] : List (UInt8)) 0).bind fun s32 => some s32))
abbrev sculleryref01_Lower.post (w0 : World) (r : Str) (u : Value) (w : World) : Prop := u = S r ∧ Ows [] w0 w []
theorem sculleryref01_Lower.l0_ok : ∀ (k : Nat) (p0 : Str) (v4 : List UInt8) (v7 : Int) (out : List UInt8), sculleryref01_Lower.l0 k p0 v4 v7 = some out → ∀ (o5 : Option Addr) (c6 : Nat) (w0 : World) (Q : Exit → Act → World → Prop) (rest : List It) (a : Act) (w : World), Kn 30 a [(0, S p0), (3, .slice o5 v4.length c6), (4, I v7)] → Ows [] w0 w [.row 0 5 1 (.slice o5 v4.length c6) v4.length (v4.map bV)] → (∀ (s : List UInt8) (o8 : Option Addr) (c9 : Nat) (a : Act) (w : World), out = s → Kn 30 a [(3, .slice o8 s.length c9)] → Ows [] w0 w [.row 0 5 1 (.slice o8 s.length c9) s.length (s.map bV)] → G Tryz.prog Q rest a w) → G Tryz.prog Q (.code (C35 [1, 1, 0, 1, 0, 0]) :: .inl (C35 [1, 1, 0, 1, 0, 0]) :: .endb 0 :: rest) a w := by
  intro k
  induction k with
  | zero => intro p0 v4 v7 out H; simp [sculleryref01_Lower.l0] at H
  | succ k ih =>
    intro p0 v4 v7 out H o5 c6 w0 Q rest a w  hk ho J
    simp only [sculleryref01_Lower.l0] at H
    refine st_seq (C35 [1, 1, 0, 1, 0, 0, 0]) (C35 [1, 1, 0, 1, 0, 0, 1]) (by kernel_rfl) ?_
    refine st_seq (C35 [1, 1, 0, 1, 0, 0, 0, 0]) (C35 [1, 1, 0, 1, 0, 0, 0, 1]) (by kernel_rfl) ?_
    refine st_region 3 (opsOf (C35 [1, 1, 0, 1, 0, 0, 0, 0])) [0, 1, 2, 3] (by kernel_rfl) (by kernel_rfl) ?_
    refine st_pure tabOK hk [0, 1, 2, 3] [] [0, 3, 4, 10] [(0, S p0), (3, .slice o5 v4.length c6), (4, I v7), (10, .bool (decide (v7 < (p0.length : Int))))] (True) (by kernel_rfl) trivial ?_
    clear hk; intro a hk
    refine st_done ?_
    refine st_cond hk (C35 [1, 1, 0, 1, 0, 0, 0, 1, 0]) (C35 [1, 1, 0, 1, 0, 0, 0, 1, 1]) (.tmp 10) (decide (v7 < (p0.length : Int))) (by kernel_rfl) (by kernel_rfl) (fun h10 => ?_) (fun h10 => ?_)
    ·
      have h11 : v7 < (p0.length : Int) := of_decide_eq_true h10
      rw [if_pos h11] at H
      refine st_skip (by kernel_rfl) ?_
      refine st_seq (C35 [1, 1, 0, 1, 0, 0, 1, 0]) (C35 [1, 1, 0, 1, 0, 0, 1, 1]) (by kernel_rfl) ?_
      refine st_block 1 (C35 [1, 1, 0, 1, 0, 0, 1, 0, 0]) (by kernel_rfl) ?_
      refine st_seq (C35 [1, 1, 0, 1, 0, 0, 1, 0, 0, 0]) (C35 [1, 1, 0, 1, 0, 0, 1, 0, 0, 1]) (by kernel_rfl) ?_
      refine st_region 5 (opsOf (C35 [1, 1, 0, 1, 0, 0, 1, 0, 0, 0])) [0, 1, 2, 3] (by kernel_rfl) (by kernel_rfl) ?_
      have h12 : (0 : Int) ≤ v7 := by
        by_cases h12 : (0 : Int) ≤ v7
        · exact h12
        · rw [if_neg h12] at H; cases H
      rw [if_pos h12] at H
      refine st_pure tabOK hk [0, 1, 2, 3] [] [0, 3, 4, 5] [(0, S p0), (3, .slice o5 v4.length c6), (4, I v7), (5, .int .u8 (bt p0 v7))] (((0 : Int) ≤ v7 ∧ v7 < (p0.length : Int)) ∧ True) (by kernel_rfl) ⟨⟨h12, h11⟩, trivial⟩ ?_
      clear hk; intro a hk
      refine st_done ?_
      refine st_seq (C35 [1, 1, 0, 1, 0, 0, 1, 0, 0, 1, 0]) (C35 [1, 1, 0, 1, 0, 0, 1, 0, 0, 1, 1]) (by kernel_rfl) ?_
      refine st_seq (C35 [1, 1, 0, 1, 0, 0, 1, 0, 0, 1, 0, 0]) (C35 [1, 1, 0, 1, 0, 0, 1, 0, 0, 1, 0, 1]) (by kernel_rfl) ?_
      refine st_region 6 (opsOf (C35 [1, 1, 0, 1, 0, 0, 1, 0, 0, 1, 0, 0])) [0, 1, 2, 3, 4, 5] (by kernel_rfl) (by kernel_rfl) ?_
      refine st_pure tabOK hk [0, 1, 2] [3, 4, 5] [0, 3, 4, 5, 18] [(0, S p0), (3, .slice o5 v4.length c6), (4, I v7), (5, .int .u8 (bt p0 v7)), (18, .bool (decide (bt p0 v7 ≥ 65)))] (True) (by kernel_rfl) trivial ?_
      clear hk; intro a hk
      refine cut_ops (fun a w => Kn 30 a [(0, S p0), (3, .slice o5 v4.length c6), (4, I v7), (5, .int .u8 (bt p0 v7)), (21, .bool ((decide (bt p0 v7 ≥ 65)) && (decide (bt p0 v7 ≤ 90))))] ∧ Ows [] w0 w [.row 0 5 1 (.slice o5 v4.length c6) v4.length (v4.map bV)]) ?_ ?_
      · intro J
        rcases Bool.eq_false_or_eq_true (decide (bt p0 v7 ≥ 65)) with h13 | h13
        ·
          rw [h13] at hk
          have h14 : bt p0 v7 ≥ 65 := of_decide_eq_true h13
          refine st_pure tabOK hk [3, 4, 5] [] [0, 3, 4, 5, 21] [(0, S p0), (3, .slice o5 v4.length c6), (4, I v7), (5, .int .u8 (bt p0 v7)), (21, .bool (decide (bt p0 v7 ≤ 90)))] (True) (by kernel_rfl) trivial ?_
          clear hk; intro a hk
          refine st_done ?_
          have e : ((decide (bt p0 v7 ≥ 65)) && (decide (bt p0 v7 ≤ 90))) = (decide (bt p0 v7 ≤ 90)) := by first | (simp only [h13]; done) | (simp only [h13]; rfl) | rfl | simp [h13]
          exact J a w ⟨by rw [e]; exact hk.to [0, 3, 4, 5, 21] _ (by kernel_rfl), ho⟩
        ·
          rw [h13] at hk
          have h15 : ¬ (bt p0 v7 ≥ 65) := of_decide_eq_false h13
          refine st_pure tabOK hk [3, 4, 5] [] [0, 3, 4, 5, 21] [(0, S p0), (3, .slice o5 v4.length c6), (4, I v7), (5, .int .u8 (bt p0 v7)), (21, .bool false)] (True) (by kernel_rfl) trivial ?_
          clear hk; intro a hk
          refine st_done ?_
          have e : ((decide (bt p0 v7 ≥ 65)) && (decide (bt p0 v7 ≤ 90))) = false := by first | (simp only [h13]; done) | (simp only [h13]; rfl) | rfl | simp [h13]
          exact J a w ⟨by rw [e]; exact hk.to [0, 3, 4, 5, 21] _ (by kernel_rfl), ho⟩
      · rintro a w ⟨hk, ho⟩
        obtain ⟨m16, HX, H⟩ := Option.bind_eq_some_iff.1 H
        refine cut_code (fun a w => Kn 30 a [(0, S p0), (3, .slice o5 v4.length c6), (4, I v7), (5, .int .u8 m16)] ∧ Ows [] w0 w [.row 0 5 1 (.slice o5 v4.length c6) v4.length (v4.map bV)]) ?_ ?_
        · intro J; clear H; have H := HX; clear HX
          refine st_cond hk (C35 [1, 1, 0, 1, 0, 0, 1, 0, 0, 1, 0, 1, 0]) (C35 [1, 1, 0, 1, 0, 0, 1, 0, 0, 1, 0, 1, 1]) (.tmp 21) (((decide (bt p0 v7 ≥ 65)) && (decide (bt p0 v7 ≤ 90)))) (by kernel_rfl) (by kernel_rfl) (fun h17 => ?_) (fun h17 => ?_)
          ·
            have h18 : ((decide (bt p0 v7 ≥ 65)) && (decide (bt p0 v7 ≤ 90))) = true := h17
            rw [if_pos h18] at H
            refine st_region 7 (opsOf (C35 [1, 1, 0, 1, 0, 0, 1, 0, 0, 1, 0, 1, 0])) [0, 1, 2] (by kernel_rfl) (by kernel_rfl) ?_
            refine st_pure tabOK hk [0, 1, 2] [] [0, 3, 4, 5] [(0, S p0), (3, .slice o5 v4.length c6), (4, I v7), (5, .int .u8 (w8 ((bt p0 v7) + 32)))] (True) (by kernel_rfl) trivial ?_
            clear hk; intro a hk
            refine st_done ?_
            obtain rfl := Option.some.inj H
            exact J a w ⟨hk.to [0, 3, 4, 5] _ (by kernel_rfl), ho⟩
          ·
            have h19 : ¬ (((decide (bt p0 v7 ≥ 65)) && (decide (bt p0 v7 ≤ 90))) = true) := ne_true_of_eq_false h17
            rw [if_neg h19] at H
            refine st_skip (by kernel_rfl) ?_
            obtain rfl := Option.some.inj H
            exact J a w ⟨hk.to [0, 3, 4, 5] _ (by kernel_rfl), ho⟩
        · clear HX; rintro a w ⟨hk, ho⟩
          refine st_region 8 (opsOf (C35 [1, 1, 0, 1, 0, 0, 1, 0, 0, 1, 1])) [0, 1, 2, 3, 4] (by kernel_rfl) (by kernel_rfl) ?_
          refine st_pure tabOK hk [0, 1] [2, 3, 4] [0, 4, 24, 25] [(0, S p0), (4, I v7), (24, .slice o5 v4.length c6), (25, .int .u8 m16)] (True) (by kernel_rfl) trivial ?_
          clear hk; intro a hk
          refine st_lit tabOK hk ho #[.int .u8 m16] 5 1 1 26 (by kernel_rfl) ?_
          clear hk ho; intro a o20 w h21 hk ho
          have h23 : (0 : Int) ≤ m16 := by
            by_cases h23 : (0 : Int) ≤ m16
            · exact h23
            · rw [if_neg h23] at H; cases H
          rw [if_pos h23] at H
          have h24 : m16 < 256 := by
            by_cases h24 : m16 < 256
            · exact h24
            · rw [if_neg h24] at H; cases H
          rw [if_pos h24] at H
          rw [u8_bV m16 h23 h24] at ho
          replace ho : Ows [] w0 w [.row 0 5 1 (.slice o20 (([(u8 m16)] : List (UInt8)).length) 1) (([(u8 m16)] : List (UInt8)).length) (([(u8 m16)] : List (UInt8)).map bV), .row 0 5 1 (.slice o5 v4.length c6) v4.length (v4.map bV)] := ho
          replace hk : Kn 30 a [(0, S p0), (4, I v7), (24, .slice o5 v4.length c6), (26, .slice o20 (([(u8 m16)] : List (UInt8)).length) 1)] := hk.to [0, 4, 24, 26] _ (by kernel_rfl)
          have h25 : v4.length + ([(u8 m16)] : List (UInt8)).length ≤ 4294967296 := by
            by_cases h25 : v4.length + ([(u8 m16)] : List (UInt8)).length ≤ 4294967296
            · exact h25
            · rw [if_neg h25] at H; cases H
          rw [if_pos h25] at H
          refine st_append tabOK hk ho 1 30 5 1 27 (.int .u8 0) o5 v4.length c6 (v4.map bV) o20 (([(u8 m16)] : List (UInt8)).length) 1 (([(u8 m16)] : List (UInt8)).map bV) (by kernel_rfl) (by kernel_rfl) (by kernel_rfl) (by decide) rfl (by simp) (ho.rd 0 rfl) (one_map (fun _ => rfl) _) h25 ((v4 ++ ([(u8 m16)] : List (UInt8))).length) ((v4 ++ ([(u8 m16)] : List (UInt8))).map bV) (by simp) (by first | rfl | exact (List.map_append ..).symm) ?_
          clear hk ho; intro a o26 c27 w h28 hk ho
          replace ho : Ows [] w0 w [.row 0 5 1 (.slice o20 (([(u8 m16)] : List (UInt8)).length) 1) (([(u8 m16)] : List (UInt8)).length) (([(u8 m16)] : List (UInt8)).map bV), .row 0 5 1 (.slice o26 ((v4 ++ ([(u8 m16)] : List (UInt8))).length) c27) ((v4 ++ ([(u8 m16)] : List (UInt8))).length) ((v4 ++ ([(u8 m16)] : List (UInt8))).map bV)] := ho
          refine st_pure tabOK hk [4] [] [0, 3, 4] [(0, S p0), (3, .slice o26 ((v4 ++ ([(u8 m16)] : List (UInt8))).length) c27), (4, I v7)] (True) (by kernel_rfl) trivial ?_
          clear hk; intro a hk
          refine st_done ?_
          refine st_endb 1 ?_
          refine st_region 4 (opsOf (C35 [1, 1, 0, 1, 0, 0, 1, 1])) [0, 1, 2] (by kernel_rfl) (by kernel_rfl) ?_
          refine st_pure tabOK hk [0, 1, 2] [] [0, 3, 4] [(0, S p0), (3, .slice o26 ((v4 ++ ([(u8 m16)] : List (UInt8))).length) c27), (4, I (w64 (v7 + 1)))] (True) (by kernel_rfl) trivial ?_
          clear hk; intro a hk
          refine st_done ?_
          refine st_inl ?_
          replace ho : Ows [] w0 w [.row 0 5 1 (.slice o26 ((v4 ++ ([(u8 m16)] : List (UInt8))).length) c27) ((v4 ++ ([(u8 m16)] : List (UInt8))).length) ((v4 ++ ([(u8 m16)] : List (UInt8))).map bV)] := ho.erase 0
          exact ih p0 (v4 ++ ([(u8 m16)] : List (UInt8))) (w64 (v7 + 1)) out H o26 c27 w0 Q rest a w  (hk.to [0, 3, 4] _ (by kernel_rfl)) ho J
    ·
      have h29 : ¬ (v7 < (p0.length : Int)) := of_decide_eq_false h10
      rw [if_neg h29] at H
      refine st_exit 0 _ (by kernel_rfl) rfl ?_
      obtain rfl := Option.some.inj H
      exact J v4 o5 c6 a w rfl (hk.to [3] _ (by kernel_rfl)) ho

theorem sculleryref01_Lower.ok (K : Nat) (p0 : Str) (r : Str) (H : sculleryref01_Lower.f K p0 = some r) (w0 : World)  : Calls Tryz.prog 35 ⟨[S p0]⟩ w0 fun e w => ∃ u, e = .returned u ∧ sculleryref01_Lower.post w0 r u w := by
  unfold sculleryref01_Lower.f at H
  refine st_start (N := 30) [S p0] (C35 []) func35 (by kernel_rfl) (by kernel_rfl) (by kernel_rfl) ?_
  intro a w hk ho
  refine st_seq (C35 [0]) (C35 [1]) (by kernel_rfl) ?_
  refine st_region 0 (opsOf (C35 [0])) [0] (by kernel_rfl) (by kernel_rfl) ?_
  refine st_pure tabOK hk [0] [] [0] [(0, S p0)] (True) (by kernel_rfl) trivial ?_
  clear hk; intro a hk
  refine st_done ?_
  refine st_seq (C35 [1, 0]) (C35 [1, 1]) (by kernel_rfl) ?_
  refine st_region 1 (opsOf (C35 [1, 0])) [0, 1] (by kernel_rfl) (by kernel_rfl) ?_
  refine st_lit tabOK hk ho #[] 5 1 0 6 (by kernel_rfl) ?_
  clear hk ho; intro a o1 w h2 hk ho
  replace ho : Ows [] w0 w [.row 0 5 1 (.slice o1 (([] : List (UInt8)).length) 0) (([] : List (UInt8)).length) (([] : List (UInt8)).map bV)] := ho
  replace hk : Kn 30 a [(0, S p0), (6, .slice o1 (([] : List (UInt8)).length) 0)] := hk.to [0, 6] _ (by kernel_rfl)
  refine st_pure tabOK hk [1] [] [0, 3] [(0, S p0), (3, .slice o1 (([] : List (UInt8)).length) 0)] (True) (by kernel_rfl) trivial ?_
  clear hk; intro a hk
  refine st_done ?_
  refine st_seq (C35 [1, 1, 0]) (C35 [1, 1, 1]) (by kernel_rfl) ?_
  refine st_seq (C35 [1, 1, 0, 0]) (C35 [1, 1, 0, 1]) (by kernel_rfl) ?_
  refine st_region 2 (opsOf (C35 [1, 1, 0, 0])) [0] (by kernel_rfl) (by kernel_rfl) ?_
  refine st_pure tabOK hk [0] [] [0, 3, 4] [(0, S p0), (3, .slice o1 (([] : List (UInt8)).length) 0), (4, I 0)] (True) (by kernel_rfl) trivial ?_
  clear hk; intro a hk
  refine st_done ?_
  refine st_block 0 (C35 [1, 1, 0, 1, 0]) (by kernel_rfl) ?_
  obtain ⟨m30, h31, H⟩ := Option.bind_eq_some_iff.1 H
  refine st_loop (C35 [1, 1, 0, 1, 0, 0]) (by kernel_rfl) ?_
  refine sculleryref01_Lower.l0_ok K p0 ([] : List (UInt8)) 0 m30 h31 o1 0 w0 _ _ a w  (hk.to [0, 3, 4] _ (by kernel_rfl)) ho ?_
  · intro s32 o33 c34 a w e hk ho; have e := e.symm; subst e
    refine st_seq (C35 [1, 1, 1, 0]) (C35 [1, 1, 1, 1]) (by kernel_rfl) ?_
    refine st_region 9 (opsOf (C35 [1, 1, 1, 0])) [0, 1, 2] (by kernel_rfl) (by kernel_rfl) ?_
    refine st_pure tabOK hk [0] [1, 2] [28] [(28, .slice o33 s32.length c34)] (True) (by kernel_rfl) trivial ?_
    clear hk; intro a hk
    refine st_string tabOK hk 30 9 5 29 o33 s32.length c34 s32 (by kernel_rfl) (by kernel_rfl) (by kernel_rfl) (by kernel_rfl) rfl (ho.rd 0 rfl) ?_
    clear hk; intro a hk
    refine st_pure tabOK hk [2] [] [2] [(2, S s32)] (True) (by kernel_rfl) trivial ?_
    clear hk; intro a hk
    refine st_done ?_
    replace ho : Ows [] w0 w [] := ho.erase 0
    refine st_retG hk (by kernel_rfl) [S s32] #[.tmp 2] (by kernel_rfl) ⟨resT hk (by kernel_rfl), trivial⟩ ?_
    obtain rfl := Option.some.inj H
    exact ⟨_, rfl, rfl, ho⟩

end Go.Proofs.YtkkmbkelkbhecaaGreatDoor
