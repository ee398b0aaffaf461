/- Plain laws: a head is parsed by both alike. -/
import Derived.Test.YtkkmbkelkbhecaaGreatDoorLS
set_option maxRecDepth 1000000
namespace Go.Proofs.YtkkmbkelkbhecaaGreatDoor
open Go.Ev Go.Proofs.Tryz

theorem nat_byte (b : UInt8) (c : Nat) (hc : c < 256) : ((b.toNat : Int) == (c : Int)) = (b == UInt8.ofNat c) := by
  rw [Bool.eq_iff_iff, beq_iff_eq, beq_iff_eq]
  constructor
  · intro e
    refine UInt8.toNat_inj.1 ?_
    rw [UInt8.toNat_ofNat_of_lt' hc]
    omega
  · rintro rfl
    rw [UInt8.toNat_ofNat_of_lt' hc]

/-! ### the first colon, by the reference -/
theorem colon_none (p0 : Str) (v2 : List (Str × Str)) (v5 : Int) (t8 : Str × Int × Int) (ht : t8.1.length ≤ 100000) (v : Int) : ∀ (i k : Nat), i < k → i ≤ t8.1.length → (∀ (j : Nat) (hj : j < t8.1.length), j < i → t8.1[j] ≠ 58) →
    sculleryref06_Parse.l1 k p0 v2 v5 t8 v ((i : Int) - 1) = some v
  | 0, k, hk, _, _ => by
    obtain ⟨k, rfl⟩ : ∃ q, k = q + 1 := ⟨k - 1, by omega⟩
    rw [sculleryref06_Parse.l1, if_neg (by omega)]
  | i + 1, k, hk, hi, hn => by
    obtain ⟨k, rfl⟩ : ∃ q, k = q + 1 := ⟨k - 1, by omega⟩
    have e : (((i + 1 : Nat) : Int) - 1) = (i : Int) := by omega
    have hl : i < t8.1.length := by omega
    have hb := nat_byte t8.1[i] 58 (by decide)
    have hc : (t8.1[i] == UInt8.ofNat 58) = false := by
      rw [beq_eq_false_iff_ne]
      exact hn i hl (by omega)
    rw [hc] at hb
    have hb' : ((t8.1[i].toNat : Int) == 58) = false := hb
    rw [e, sculleryref06_Parse.l1, if_pos (by omega), if_pos (by omega), if_pos (by omega), bt_at t8.1 i hl, hb', if_neg (by decide), Option.bind_some, w64_id (n := (i : Int) - 1) (by omega) (by omega)]
    exact colon_none p0 v2 v5 t8 ht v i k (by omega) (by omega) (fun j hj h => hn j hj (by omega))

theorem colon_some (p0 : Str) (v2 : List (Str × Str)) (v5 : Int) (t8 : Str × Int × Int) (ht : t8.1.length ≤ 100000) (N V : Str) (h8 : t8.1 = N ++ 58 :: V) (hN : (58 : UInt8) ∉ N) : ∀ (d k : Nat) (v : Int), N.length + d + 1 < k → N.length + d < t8.1.length →
    sculleryref06_Parse.l1 k p0 v2 v5 t8 v (((N.length + d : Nat)) : Int) = some (N.length : Int)
  | 0, k, v, hk, hl => by
    obtain ⟨k, rfl⟩ : ∃ q, k = q + 1 := ⟨k - 1, by omega⟩
    have hl' : N.length < t8.1.length := by omega
    have hbt : bt t8.1 ((N.length + 0 : Nat) : Int) = 58 := by
      have e : t8.1[N.length] = 58 := by simp [h8]
      rw [Nat.add_zero, bt_at t8.1 N.length hl', e]
      rfl
    rw [sculleryref06_Parse.l1, if_pos (by omega), if_pos (by omega), if_pos (by omega), hbt, if_pos (by decide), Option.bind_some, w64_id (n := ((N.length + 0 : Nat) : Int) - 1) (by omega) (by omega)]
    rw [Nat.add_zero]
    exact colon_none p0 v2 v5 t8 ht _ N.length k (by omega) (by omega) (fun j hj h e => hN (by
      have e2 : t8.1[j] = N[j] := by simp [h8, h]
      rw [e2] at e
      exact e ▸ List.getElem_mem h))
  | d + 1, k, v, hk, hl => by
    obtain ⟨k, rfl⟩ : ∃ q, k = q + 1 := ⟨k - 1, by omega⟩
    have e1 : w64 (((N.length + (d + 1) : Nat) : Int) - 1) = ((N.length + d : Nat) : Int) := by rw [w64_id (by omega) (by omega)]; omega
    rw [sculleryref06_Parse.l1, if_pos (by omega), if_pos (by omega), if_pos (by omega), e1]
    split
    · rw [Option.bind_some]
      exact colon_some p0 v2 v5 t8 ht N V h8 hN d k _ (by omega) (by omega)
    · rw [Option.bind_some]
      exact colon_some p0 v2 v5 t8 ht N V h8 hN d k _ (by omega) (by omega)

/-! ### a field -/
theorem field_none (h : Str) (hh : h.length ≤ 2000) (hn : (58 : UInt8) ∉ h) : head_field.f KK h = some ([], [], 2) := by
  unfold head_field.f
  rw [cut_none h 58 hn, Option.bind_some]
  simp only []
  rw [trim_eq [] (by decide), Option.bind_some, if_pos (by decide), Option.bind_some, if_pos rfl]
theorem field_bad (N V : Str) (hl : N.length + V.length ≤ 2000) (hn : (58 : UInt8) ∉ N) (hb : (tokenB N && textB (trimB V)) = false) : head_field.f KK (N ++ 58 :: V) = some ([], [], 2) := by
  have htl := trimB_len V
  unfold head_field.f
  rw [cut_at N V 58 hn (by omega), Option.bind_some]
  simp only []
  rw [trim_eq V (by omega), Option.bind_some, if_neg (by decide), token_eq N (by omega), Option.bind_some, text_eq (trimB V) (by omega), Option.bind_some]
  cases h1 : tokenB N with
  | false => rfl
  | true =>
    rw [h1, Bool.true_and] at hb
    rw [hb]
    rfl
theorem field_good (N V : Str) (hl : N.length + V.length ≤ 2000) (hn : (58 : UInt8) ∉ N) (hb : (tokenB N && textB (trimB V)) = true) : ∃ r, head_field.f KK (N ++ 58 :: V) = some (r, trimB V, 0) := by
  have htl := trimB_len V
  obtain ⟨r, hr⟩ := lower_ex N (by omega)
  refine ⟨r, ?_⟩
  simp only [Bool.and_eq_true] at hb
  unfold head_field.f
  rw [cut_at N V 58 hn (by omega), Option.bind_some]
  simp only []
  rw [trim_eq V (by omega), Option.bind_some, if_neg (by decide), token_eq N (by omega), Option.bind_some, text_eq (trimB V) (by omega), Option.bind_some, hb.1, hb.2, if_neg (by decide), Option.bind_some, if_neg (by decide), hr, Option.bind_some]

theorem parse_same (s : Str) (hs : s.length ≤ 100000) : ∀ (m : Nat) (rest : Str) (i k k' : Nat) (l l' : List (Str × Str)), rest = s.drop i → i ≤ s.length → rest.length ≤ m → m < k → m < k' → l.length = l'.length → l.length ≤ 64 →
    ∃ L L' x y, head_Parse.l0 KK k s l rest = some (L, x, y) ∧ sculleryref06_Parse.l0 KK k' s l' (i : Int) = some (L', x, y) := by
  have hk0 : KK = 2097152 := rfl
  intro m
  induction m with
  | zero =>
    intro rest i k k' l l' hr hi hm hk hk' hl h64
    obtain ⟨k, rfl⟩ : ∃ q, k = q + 1 := ⟨k - 1, by omega⟩
    obtain ⟨k', rfl⟩ : ∃ q, k' = q + 1 := ⟨k' - 1, by omega⟩
    obtain rfl : rest = [] := List.length_eq_zero_iff.1 (by omega)
    refine ⟨[], [], 0, 3, ?_, ?_⟩
    · rw [head_Parse.l0, show head_line.f [] = some ([], [], 3) by decide, Option.bind_some, if_pos (by decide)]
    · rw [sculleryref06_Parse.l0, if_pos (by omega), if_pos (by omega), Int.toNat_natCast, ← hr, show sculleryref06_Line.f KK [] = some ([], 0, 3) by kernel_rfl, Option.bind_some, if_pos (by decide)]
  | succ m ih =>
    intro rest i k k' l l' hr hi hm hk hk' hl h64
    obtain ⟨k, rfl⟩ : ∃ q, k = q + 1 := ⟨k - 1, by omega⟩
    obtain ⟨k', rfl⟩ : ∃ q, k' = q + 1 := ⟨k' - 1, by omega⟩
    have hrl : rest.length = s.length - i := by rw [hr, List.length_drop]
    obtain ⟨⟨h, R, e⟩, _, h2, h3⟩ := line_all rest (by omega)
    have hA : head_Parse.l0 KK (k + 1) s l rest = head_Parse.l0 KK (k + 1) s l rest := rfl
    conv at hA => rhs; rw [head_Parse.l0, h2, Option.bind_some]
    have hB : sculleryref06_Parse.l0 KK (k' + 1) s l' (i : Int) = sculleryref06_Parse.l0 KK (k' + 1) s l' (i : Int) := rfl
    conv at hB => rhs; rw [sculleryref06_Parse.l0, if_pos (show (0 : Int) ≤ (i : Int) by omega), if_pos (show (i : Int) ≤ (s.length : Int) by omega), Int.toNat_natCast, ← hr]
    simp only at h3 hA hB
    rcases h3 with ⟨he, hR⟩ | ⟨rfl, hspl, hh, hR⟩
    · have hne : (e != 0) = true := by simpa using he
      rw [if_pos hne] at hA
      rw [hR, Option.bind_some, if_pos hne] at hB
      exact ⟨[], [], 0, e, hA, hB⟩
    · have hlen : rest.length = h.length + (2 + R.length) := by rw [hspl]; simp; omega
      have hRs : R = s.drop (i + (h.length + 2)) := by
        rw [← List.drop_drop, ← hr, hspl, ← List.append_assoc]
        exact (List.drop_left' (by simp)).symm
      have hat : w64 ((i : Int) + ((h.length : Int) + 2)) = ((i + (h.length + 2) : Nat) : Int) := by rw [w64_id (by omega) (by omega)]; omega
      rw [if_neg (by decide)] at hA
      rw [hR, Option.bind_some, if_neg (by simp)] at hB
      simp only [hat] at hB
      by_cases hnil : h = []
      · subst hnil
        have : w64 ((s.length : Int) - (R.length : Int)) = ((i + (([] : Str).length + 2) : Nat) : Int) := by rw [w64_id (by omega) (by omega)]; simp only [List.length_nil] at hlen ⊢; omega
        rw [if_pos (by decide), this] at hA
        rw [if_pos (by decide)] at hB
        exact ⟨l, l', ((i + (([] : Str).length + 2) : Nat) : Int), 0, hA, hB⟩
      · have hb : ¬ (h == ([] : Str)) = true := by simpa using hnil
        rw [if_neg hb] at hA hB
        by_cases h6 : l.length = 64
        · rw [if_pos (by simp only [beq_iff_eq]; omega)] at hA
          rw [if_pos (by omega)] at hB
          exact ⟨[], [], 0, 4, hA, hB⟩
        · rw [if_neg (by simp only [beq_iff_eq]; omega)] at hA
          rw [if_neg (by omega)] at hB
          have hpos : 1 ≤ h.length := by
            cases h with
            | nil => exact absurd rfl hnil
            | cons a b => simp
          rcases line_cases 58 h with hn | ⟨N, V, rfl, hn⟩
          · have hc := colon_none s l' (i : Int) (h, (h.length : Int) + 2, 0) (by show h.length ≤ 100000; omega) (-1) h.length KK (by omega) (Nat.le_refl _) (fun j hj _ e => hn (by
              have hj' : j < h.length := hj
              have e' : h[j] = 58 := e
              exact e' ▸ List.getElem_mem hj'))
            rw [field_none h (by omega) hn, Option.bind_some, if_pos (by decide)] at hA
            rw [w64_id (n := (h.length : Int) - 1) (by omega) (by omega), hc, Option.bind_some, if_pos (by decide)] at hB
            exact ⟨[], [], 0, 2, hA, hB⟩
          · have hNV : N.length + (V.length + 1) = (N ++ 58 :: V).length := by simp
            have htl := trimB_len V
            have hc := colon_some s l' (i : Int) (N ++ 58 :: V, ((N ++ 58 :: V).length : Int) + 2, 0) (by show (N ++ 58 :: V).length ≤ 100000; omega) N V rfl hn V.length KK (-1) (by omega) (by show N.length + V.length < (N ++ 58 :: V).length; omega)
            have hw : w64 (((N ++ 58 :: V).length : Int) - 1) = ((N.length + V.length : Nat) : Int) := by rw [w64_id (by omega) (by omega)]; omega
            have hw2 : w64 ((N.length : Int) + 1) = ((N.length + 1 : Nat) : Int) := by rw [w64_id (by omega) (by omega)]; omega
            have hdr : (N ++ 58 :: V).drop (N.length + 1) = V := by
              rw [← List.drop_drop, List.drop_left]
              rfl
            rw [hw, hc, Option.bind_some, if_neg (by omega), if_pos (by omega), if_pos (by omega), hw2, if_pos (by omega), if_pos (by omega), Int.toNat_natCast, Int.toNat_natCast] at hB
            rw [hdr, List.take_left, trimR KK V (by omega) (by omega), Option.bind_some, tokenR_eq N (by omega), Option.bind_some, textR_eq (trimB V) (by omega), Option.bind_some] at hB
            cases hgood : tokenB N && textB (trimB V) with
            | false =>
              rw [field_bad N V (by omega) hn hgood, Option.bind_some, if_pos (by decide)] at hA
              refine ⟨[], [], 0, 2, hA, hB.trans ?_⟩
              cases h1 : tokenB N with
              | false => rfl
              | true =>
                rw [h1, Bool.true_and] at hgood
                rw [hgood]
                rfl
            | true =>
              obtain ⟨r, hf⟩ := field_good N V (by omega) hn hgood
              simp only [Bool.and_eq_true] at hgood
              obtain ⟨r', hf'⟩ := lowerR_ex N (by omega)
              rw [hf, Option.bind_some, if_neg (by simp), if_pos (by simp only [List.length_cons, List.length_nil]; omega)] at hA
              rw [hgood.1, hgood.2, if_neg (by decide), Option.bind_some, if_neg (by decide), hf', Option.bind_some, if_pos (by simp only [List.length_cons, List.length_nil]; omega)] at hB
              obtain ⟨L, L', x, y, e1, e2⟩ := ih R _ k k' (l ++ [(r, trimB V)]) (l' ++ [(r', trimB V)]) hRs (by omega) (by omega) (by omega) (by omega) (by simp [hl]) (by simp; omega)
              exact ⟨L, L', x, y, hA.trans e1, hB.trans e2⟩

theorem parse_both (s : Str) (hs : s.length ≤ 100000) : ∃ L L' x y, head_Parse.f KK s = some (L, x, y) ∧ sculleryref06_Parse.f KK s = some (L', x, y) := by
  have hk0 : KK = 2097152 := rfl
  obtain ⟨L, L', x, y, h1, h2⟩ := parse_same s hs s.length s 0 KK KK [] [] rfl (by omega) (Nat.le_refl _) (by omega) (by omega) rfl (by simp)
  refine ⟨L, L', x, y, ?_, ?_⟩
  · unfold head_Parse.f
    rw [h1, Option.bind_some]
  · unfold sculleryref06_Parse.f
    rw [show (0 : Int) = ((0 : Nat) : Int) from rfl, h2, Option.bind_some]

end Go.Proofs.YtkkmbkelkbhecaaGreatDoor
