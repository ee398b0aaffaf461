/- Plain laws: lines. -/
import Derived.Test.YtkkmbkelkbhecaaGreatDoorLU
set_option maxRecDepth 1000000
namespace Go.Proofs.YtkkmbkelkbhecaaGreatDoor
open Go.Ev Go.Proofs.Tryz

theorem line_cases (c : UInt8) (s : Str) : c ∉ s ∨ ∃ T R, s = T ++ c :: R ∧ c ∉ T := by
  induction s with
  | nil => exact .inl (by simp)
  | cons b t ih =>
    by_cases h : b = c
    · subst h
      exact .inr ⟨[], t, rfl, by simp⟩
    · rcases ih with h2 | ⟨T, R, rfl, h2⟩
      · exact .inl (by simp [h2, Ne.symm h])
      · exact .inr ⟨b :: T, R, rfl, by simp [h2, Ne.symm h]⟩

theorem last_cases' (T : Str) : T = [] ∨ ∃ h x, T = h ++ [x] := by
  rcases List.eq_nil_or_concat T with h | ⟨h, x, e⟩
  · exact .inl h
  · exact .inr ⟨h, x, by simpa using e⟩

theorem suffix_nil : strings_HasSuffix.f [] [13] = some false := by decide
theorem suffix_one (h : Str) (x : UInt8) (hl : h.length ≤ 1000000) : strings_HasSuffix.f (h ++ [x]) [13] = some (x == 13) := by
  unfold strings_HasSuffix.f stringslite_HasSuffix.f
  have h1 : w64 (((h ++ [x]).length : Int) - (([13] : Str).length : Int)) = (h.length : Int) := by
    rw [List.length_append, List.length_singleton, List.length_singleton, w64_id (by omega) (by omega)]; omega
  rw [h1, if_pos (by rw [List.length_append, List.length_singleton, List.length_singleton]; omega), if_pos (by omega), if_pos (by rw [List.length_append]; omega), Int.toNat_natCast, List.drop_left]
  have : (([x] : Str) == [13]) = (x == 13) := by simp [BEq.beq, List.beq]
  rw [this]
  rfl
theorem cutSuffix_nil : strings_CutSuffix.f [] [13] = some ([], false) := by decide
theorem cutSuffix_one (h : Str) (x : UInt8) (hl : h.length ≤ 1000000) : strings_CutSuffix.f (h ++ [x]) [13] = some (if x = 13 then (h, true) else (h ++ [x], false)) := by
  have hs := suffix_one h x hl
  unfold strings_HasSuffix.f at hs
  have hs' : stringslite_HasSuffix.f (h ++ [x]) [13] = some (x == 13) := by
    cases e : stringslite_HasSuffix.f (h ++ [x]) [13] with
    | none => rw [e] at hs; cases hs
    | some b => rw [e] at hs; exact hs
  unfold strings_CutSuffix.f stringslite_CutSuffix.f
  rw [hs', Option.bind_some]
  by_cases hx : x = 13
  · subst hx
    have h1 : w64 (((h ++ [(13 : UInt8)]).length : Int) - (([13] : Str).length : Int)) = (h.length : Int) := by
      simp only [List.length_append, List.length_singleton]; rw [w64_id (by omega) (by omega)]; omega
    rw [if_neg (by decide), h1, if_pos (by omega), if_pos (by rw [List.length_append]; omega), Int.toNat_natCast, List.take_left, if_pos rfl]
    rfl
  · have : (!(x == 13)) = true := by simpa using hx
    rw [if_pos this, if_neg hx]
    rfl

/-! ### the reference's loop -/
theorem lineR_none (s : Str) (hs : s.length ≤ 1000000) (hn : (10 : UInt8) ∉ s) : ∀ (j i k : Nat), i + j = s.length → j < k → sculleryref06_Line.l0 k s (i : Int) = some (.inl ())
  | 0, i, k, hi, hk => by
    obtain ⟨k, rfl⟩ : ∃ q, k = q + 1 := ⟨k - 1, by omega⟩
    rw [sculleryref06_Line.l0, if_neg (by omega)]
  | j + 1, i, k, hi, hk => by
    obtain ⟨k, rfl⟩ : ∃ q, k = q + 1 := ⟨k - 1, by omega⟩
    have hl : i < s.length := by omega
    have hc : s[i] ≠ 10 := fun e => hn (e ▸ List.getElem_mem hl)
    have hb : (bt s (i : Int) != 10) = true := by
      rw [bt_at s i hl]
      simp only [bne_iff_ne, ne_eq]
      intro e
      exact hc (UInt8.toNat_inj.1 (show s[i].toNat = (10 : UInt8).toNat by simpa using (by exact_mod_cast e : s[i].toNat = 10)))
    rw [sculleryref06_Line.l0, if_pos (by omega), if_pos (by omega), if_pos hb, w64_succ i (by omega)]
    exact lineR_none s hs hn j (i + 1) k (by omega) (by omega)

theorem lineR_go (T R : Str) (hT : T.length ≤ 1000000) (hn : (10 : UInt8) ∉ T) : ∀ (j i k : Nat), i + j = T.length → j < k →
    sculleryref06_Line.l0 k (T ++ 10 :: R) (i : Int) = sculleryref06_Line.l0 (k - j) (T ++ 10 :: R) (T.length : Int)
  | 0, i, k, hi, hk => by
    obtain rfl : i = T.length := by omega
    rfl
  | j + 1, i, k, hi, hk => by
    obtain ⟨k, rfl⟩ : ∃ q, k = q + 1 := ⟨k - 1, by omega⟩
    have hl : i < T.length := by omega
    have hl2 : i < (T ++ 10 :: R).length := by rw [List.length_append]; omega
    have hc : T[i] ≠ 10 := fun e => hn (e ▸ List.getElem_mem hl)
    have hb : (bt (T ++ 10 :: R) (i : Int) != 10) = true := by
      rw [bt_at _ i hl2, List.getElem_append_left hl]
      simp only [bne_iff_ne, ne_eq]
      intro e
      exact hc (UInt8.toNat_inj.1 (show T[i].toNat = (10 : UInt8).toNat by simpa using (by exact_mod_cast e : T[i].toNat = 10)))
    rw [sculleryref06_Line.l0, if_pos (by omega), if_pos (by omega), if_pos hb, w64_succ i (by omega), lineR_go T R hT hn j (i + 1) k (by omega) (by omega), show k + 1 - (j + 1) = k - j by omega]

/-- What a line is, in all three. -/
def LR (s : Str) (r : Str × Str × Int) : Prop :=
  chunk_line.f s = some r ∧ head_line.f s = some r ∧
    ((r.2.2 ≠ 0 ∧ sculleryref06_Line.f KK s = some ([], 0, r.2.2)) ∨ (r.2.2 = 0 ∧ s = r.1 ++ ([13, 10] ++ r.2.1) ∧ r.1.length ≤ 2000 ∧ sculleryref06_Line.f KK s = some (r.1, (r.1.length : Int) + 2, 0)))

theorem line_all (s : Str) (hs : s.length ≤ 100000) : ∃ r, LR s r := by
  have hk : KK = 2097152 := rfl
  rcases line_cases 10 s with hn | ⟨T, R, rfl, hn⟩
  · have hR : sculleryref06_Line.f KK s = some ([], 0, if (s.length : Int) > 2002 then 4 else 3) := by
      unfold sculleryref06_Line.f
      rw [show (0 : Int) = ((0 : Nat) : Int) from rfl, lineR_none s (by omega) hn s.length 0 KK (by omega) (by omega), Option.bind_some]
      simp only []
      split <;> rfl
    refine ⟨([], [], if (s.length : Int) > 2002 then 4 else 3), ?_, ?_, .inl ⟨?_, hR⟩⟩
    · unfold chunk_line.f
      rw [cut_none s 10 hn, Option.bind_some]
      by_cases h : (s.length : Int) > 2002 <;> simp [h]
    · unfold head_line.f
      rw [cut_none s 10 hn, Option.bind_some]
      by_cases h : (s.length : Int) > 2002 <;> simp [h]
    · simp only []
      split <;> decide
  · have hTl : T.length ≤ 100000 := by rw [List.length_append] at hs; omega
    have hgo := lineR_go T R (by omega) hn T.length 0 KK (by omega) (by omega)
    obtain ⟨q, hq⟩ : ∃ q, KK - T.length = q + 1 := ⟨KK - T.length - 1, by omega⟩
    have hlt : T.length < (T ++ 10 :: R).length := by simp
    have h10 : bt (T ++ 10 :: R) (T.length : Int) = 10 := by
      rw [bt_at _ _ hlt]
      simp
    have hR : sculleryref06_Line.f KK (T ++ 10 :: R) = (sculleryref06_Line.l0 (q + 1) (T ++ 10 :: R) (T.length : Int)).bind fun m23 => match m23 with | .inl s25 => (if ((T ++ 10 :: R).length : Int) > 2002 then some ([], 0, 4) else some ([], 0, 3)) | .inr r29 => some r29 := by
      unfold sculleryref06_Line.f
      rw [show (0 : Int) = ((0 : Nat) : Int) from rfl, hgo, hq]
      rfl
    rw [sculleryref06_Line.l0, if_pos (by omega), if_pos (by omega), h10, if_neg (by decide)] at hR
    rcases last_cases' T with rfl | ⟨h, x, rfl⟩
    · refine ⟨([], [], 2), ?_, ?_, .inl ⟨by decide, ?_⟩⟩
      · unfold chunk_line.f
        rw [cut_at [] R 10 hn (by decide), Option.bind_some]
        simp [suffix_nil]
      · unfold head_line.f
        rw [cut_at [] R 10 hn (by decide), Option.bind_some]
        simp [cutSuffix_nil]
      · rw [hR]
        rfl
    · have hhl : h.length ≤ 100000 := by rw [List.length_append] at hTl; omega
      have hlen : (h ++ [x]).length = h.length + 1 := by simp
      have hw1 : w64 (((h ++ [x]).length : Int) - 1) = (h.length : Int) := by rw [hlen, w64_id (by omega) (by omega)]; omega
      have hw2 : w64 (((h ++ [x]).length : Int) + 1) = (h.length : Int) + 2 := by rw [hlen, w64_id (by omega) (by omega)]; omega
      have hltx : h.length < ((h ++ [x]) ++ 10 :: R).length := by rw [List.length_append, hlen]; omega
      have hbx : bt ((h ++ [x]) ++ 10 :: R) (h.length : Int) = (x.toNat : Int) := by
        rw [bt_at _ _ hltx]
        simp
      have hne : (((h ++ [x]).length : Int) == 0) = false := by
        rw [hlen]
        simp only [beq_eq_false_iff_ne]
        omega
      rw [hne, if_neg (by decide), hw1, hw2, if_pos (by omega), if_pos (by omega), hbx, Option.bind_some] at hR
      have hx13 : (((x.toNat : Int)) != 13) = !(x == 13) := by
        rw [Bool.eq_iff_iff]
        simp only [bne_iff_ne, ne_eq, Bool.not_eq_true', beq_eq_false_iff_ne]
        constructor
        · intro a e
          subst e
          exact a rfl
        · intro a e
          exact a (UInt8.toNat_inj.1 (show x.toNat = (13 : UInt8).toNat by simpa using (by exact_mod_cast e : x.toNat = 13)))
      rw [hx13] at hR
      by_cases hx : x = 13
      · subst hx
        have hb0 : (!((13 : UInt8) == 13)) = false := rfl
        rw [hb0, if_neg (by decide)] at hR
        by_cases hbig : (h.length : Int) > 2000
        · rw [if_pos hbig] at hR
          refine ⟨([], [], 4), ?_, ?_, .inl ⟨by decide, by rw [hR]; rfl⟩⟩
          · unfold chunk_line.f
            rw [cut_at _ R 10 hn (by omega), Option.bind_some, if_neg (by simp), if_neg (by simp), suffix_one h 13 (by omega), Option.bind_some, if_neg (by decide), if_pos (by rw [hlen]; omega)]
          · unfold head_line.f
            rw [cut_at _ R 10 hn (by omega), Option.bind_some, if_neg (by simp), if_neg (by simp), cutSuffix_one h 13 (by omega), Option.bind_some, if_pos rfl, if_neg (by simp), if_pos hbig]
        · rw [if_neg hbig, if_pos (by omega), if_pos (by rw [List.length_append, hlen]; omega), Option.bind_some] at hR
          refine ⟨(h, R, 0), ?_, ?_, .inr ⟨rfl, by simp, by show h.length ≤ 2000; omega, ?_⟩⟩
          · unfold chunk_line.f
            rw [cut_at _ R 10 hn (by omega), Option.bind_some, if_neg (by simp), if_neg (by simp), suffix_one h 13 (by omega), Option.bind_some, if_neg (by decide), if_neg (by rw [hlen]; omega), hw1, if_pos (by omega), if_pos (by rw [hlen]; omega), Int.toNat_natCast, List.take_left]
          · unfold head_line.f
            rw [cut_at _ R 10 hn (by omega), Option.bind_some, if_neg (by simp), if_neg (by simp), cutSuffix_one h 13 (by omega), Option.bind_some, if_pos rfl, if_neg (by simp), if_neg hbig]
          · rw [hR, Int.toNat_natCast, List.append_assoc, List.take_left]
      · have hb1 : (!(x == 13)) = true := by simpa using hx
        rw [hb1, if_pos rfl] at hR
        refine ⟨([], [], 2), ?_, ?_, .inl ⟨by decide, by rw [hR]; rfl⟩⟩
        · unfold chunk_line.f
          rw [cut_at _ R 10 hn (by omega), Option.bind_some, if_neg (by simp), if_neg (by simp), suffix_one h x (by omega), Option.bind_some, if_pos hb1]
        · unfold head_line.f
          rw [cut_at _ R 10 hn (by omega), Option.bind_some, if_neg (by simp), if_neg (by simp), cutSuffix_one h x (by omega), Option.bind_some, if_neg hx, if_pos (by simp)]

end Go.Proofs.YtkkmbkelkbhecaaGreatDoor
