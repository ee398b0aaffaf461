/- Plain laws: chunks: the program's and the reference's are the same. -/
import Derived.Test.YtkkmbkelkbhecaaGreatDoorLP
set_option maxRecDepth 1000000
namespace Go.Proofs.YtkkmbkelkbhecaaGreatDoor
open Go.Ev Go.Proofs.Tryz

theorem len_eq (a : Str) : strings_Builder_Len_ps0t.f a = some ((a.length : Int), a) := rfl

theorem put_eq (a p : Str) (h : a.length + p.length ≤ 4294967296) : strings_Builder_WriteString_ps0t.f a p = some ((p.length : Int), a ++ p) := by
  unfold strings_Builder_WriteString_ps0t.f strings_Builder_copyCheck_ps0t.f
  rw [Option.bind_some, if_pos h]
theorem put_new (p : Str) (h : p.length ≤ 4294967296) : strings_Builder_WriteString_pnsn.f p = some ((p.length : Int), p) := by
  unfold strings_Builder_WriteString_pnsn.f strings_Builder_copyCheck_pnsn.f
  rw [Option.bind_some, if_pos (by simpa using h)]

theorem le_max {n : Nat} (h : n ≤ 1000000) : n ≤ maxI := Nat.le_trans h (by decide)

/-- What is behind the chunks. -/
def behind (s : Str) (q : List UInt8 × Str) : Option (Str × Int × Int) :=
  (head_Parse.f KK q.2).bind fun t => if (t.2.2 != 0) = true then some ([], 0, t.2.2) else some (q.1, w64 (w64 ((s.length : Int) - (q.2.length : Int)) + t.2.1), 0)

theorem decode_eq (s : Str) : chunk_Decode.f KK s = (chunk_Decode.l0 KK (KK + 1) s [] s).bind fun m => match m with | .inl q => behind s q | .inr r => some r := by
  rw [chunk_Decode.l0, chunk_Decode.f]
  cases chunk_line.f s with
  | none => rfl
  | some t2 =>
    simp only [Option.bind_some]
    by_cases h1 : (t2.2.2 != 0) = true
    · rw [if_pos h1, if_pos h1, Option.bind_some]
    rw [if_neg h1, if_neg h1]
    cases chunk_size.f KK t2.1 with
    | none => rfl
    | some t7 =>
      simp only [Option.bind_some]
      by_cases h2 : (!t7.2) = true
      · rw [if_pos h2, if_pos h2, Option.bind_some]
      rw [if_neg h2, if_neg h2, len_eq]
      simp only [strings_Builder_Len_pnsn.f, Option.bind_some, List.length_nil, Int.natCast_zero]
      by_cases h3 : w64 (0 + t7.1) > 100000
      · rw [if_pos h3, if_pos h3, Option.bind_some]
      rw [if_neg h3, if_neg h3]
      by_cases h4 : (t7.1 == 0) = true
      · rw [if_pos h4, if_pos h4, Option.bind_some]
        rfl
      rw [if_neg h4, if_neg h4]
      by_cases h5 : (t2.2.1.length : Int) < w64 (t7.1 + 2)
      · rw [if_pos h5, if_pos h5, Option.bind_some]
      rw [if_neg h5, if_neg h5]
      by_cases h6 : (0 : Int) ≤ w64 (t7.1 + 2)
      · rw [if_pos h6, if_pos h6]
        by_cases h7 : w64 (t7.1 + 2) ≤ (t2.2.1.length : Int)
        · rw [if_pos h7, if_pos h7]
          by_cases h8 : (0 : Int) ≤ t7.1
          · rw [if_pos h8, if_pos h8]
            by_cases h9 : t7.1 ≤ w64 (t7.1 + 2)
            · rw [if_pos h9, if_pos h9]
              by_cases h10 : (!(((t2.2.1.take (w64 (t7.1 + 2)).toNat).drop t7.1.toNat) == ([13, 10]))) = true
              · rw [if_pos h10, if_pos h10, Option.bind_some]
              rw [if_neg h10, if_neg h10]
              by_cases h11 : t7.1 ≤ (t2.2.1.length : Int)
              · rw [if_pos h11, if_pos h11]
                have e : strings_Builder_WriteString_ps0t.f [] (t2.2.1.take t7.1.toNat) = strings_Builder_WriteString_pnsn.f (t2.2.1.take t7.1.toNat) := by
                  unfold strings_Builder_WriteString_ps0t.f strings_Builder_WriteString_pnsn.f strings_Builder_copyCheck_ps0t.f strings_Builder_copyCheck_pnsn.f
                  rfl
                rw [e]
                cases strings_Builder_WriteString_pnsn.f (t2.2.1.take t7.1.toNat) with
                | none => rfl
                | some t41 => rfl
              · rw [if_neg h11, if_neg h11]; rfl
            · rw [if_neg h9, if_neg h9]; rfl
          · rw [if_neg h8, if_neg h8]; rfl
        · rw [if_neg h7, if_neg h7]; rfl
      · rw [if_neg h6, if_neg h6]; rfl

theorem mn_pos {a b : Int} (ha : 1 ≤ a) (hb : 1 ≤ b) : 1 ≤ mnI a b ∧ mnI a b ≤ b := by unfold mnI; split <;> omega

def after (s : Str) : (List UInt8 × Str) ⊕ (Str × Int × Int) → Option (Str × Int × Int)
  | .inl q => behind s q
  | .inr r => some r

theorem size_lo (h : Str) (n : Int) (hs : sizeS h = (n, true)) : ∃ v : Nat, n = (v : Int) ∧ v < 4294967296 := by
  unfold sizeS at hs
  split at hs
  · simp at hs
  · rename_i hc
    simp only [Prod.mk.injEq] at hs
    exact ⟨_, hs.1.symm, (parseInt_eq _ (all_hex h) (by omega) (by omega)).2⟩

theorem two_at (s : Str) (p : Nat) (h : p + 2 ≤ s.length) : (s.drop p).take 2 = [s[p], s[p + 1]] := by
  rw [List.drop_eq_getElem_cons (show p < s.length by omega), List.drop_eq_getElem_cons (show p + 1 < s.length by omega)]
  rfl

theorem pair_at (s R : Str) (p v : Nat) (hR : R = s.drop p) (h : p + v + 2 ≤ s.length) : (R.take (v + 2)).drop v = [s[p + v], s[p + v + 1]] := by
  subst hR
  rw [List.drop_take, show v + 2 - v = 2 by omega, List.drop_drop, two_at s (p + v) (by omega)]

theorem decode_same (s : Str) (hs : s.length ≤ 3000) : ∀ (m : Nat) (rest acc : Str) (i k k' : Nat), rest = s.drop i → i ≤ s.length → rest.length ≤ m → m < k → m < k' → acc.length ≤ i →
    ∃ out, (chunk_Decode.l0 KK k s acc rest).bind (after s) = some out ∧ sculleryref07_Decode.l0 KK k' s acc (i : Int) = some out := by
  have hk0 : KK = 2097152 := rfl
  intro m
  induction m with
  | zero =>
    intro rest acc i k k' hr hi hm hk hk' ha
    obtain ⟨k, rfl⟩ : ∃ q, k = q + 1 := ⟨k - 1, by omega⟩
    obtain ⟨k', rfl⟩ : ∃ q, k' = q + 1 := ⟨k' - 1, by omega⟩
    obtain rfl : rest = [] := List.length_eq_zero_iff.1 (by omega)
    refine ⟨([], 0, 3), ?_, ?_⟩
    · rw [chunk_Decode.l0, show chunk_line.f [] = some ([], [], 3) by decide, Option.bind_some, if_pos (by decide)]
      rfl
    · rw [sculleryref07_Decode.l0, if_pos (by omega), if_pos (by omega), Int.toNat_natCast, ← hr, show sculleryref06_Line.f KK [] = some ([], 0, 3) by kernel_rfl, Option.bind_some, if_pos (by decide)]
  | succ m ih =>
    intro rest acc i k k' hr hi hm hk hk' ha
    obtain ⟨k, rfl⟩ : ∃ q, k = q + 1 := ⟨k - 1, by omega⟩
    obtain ⟨k', rfl⟩ : ∃ q, k' = q + 1 := ⟨k' - 1, by omega⟩
    have hrl : rest.length = s.length - i := by rw [hr, List.length_drop]
    obtain ⟨⟨h, R, e⟩, h1, _, h3⟩ := line_all rest (by omega)
    have hA : chunk_Decode.l0 KK (k + 1) s acc rest = chunk_Decode.l0 KK (k + 1) s acc rest := rfl
    conv at hA => rhs; rw [chunk_Decode.l0, h1, Option.bind_some]
    have hB : sculleryref07_Decode.l0 KK (k' + 1) s acc (i : Int) = sculleryref07_Decode.l0 KK (k' + 1) s acc (i : Int) := rfl
    conv at hB => rhs; rw [sculleryref07_Decode.l0, if_pos (show (0 : Int) ≤ (i : Int) by omega), if_pos (show (i : Int) ≤ (s.length : Int) by omega), Int.toNat_natCast, ← hr]
    simp only at h3 hA hB
    rcases h3 with ⟨he, hR⟩ | ⟨rfl, hspl, hh, hR⟩
    · have hne : (e != 0) = true := by simpa using he
      rw [if_pos hne] at hA
      rw [hR, Option.bind_some, if_pos hne] at hB
      exact ⟨([], 0, e), by rw [hA]; rfl, hB⟩
    · have hlen : rest.length = h.length + (2 + R.length) := by rw [hspl]; simp; omega
      obtain ⟨p, hp⟩ : ∃ p, p = i + (h.length + 2) := ⟨_, rfl⟩
      have hRs : R = s.drop p := by
        rw [hp, ← List.drop_drop, ← hr, hspl, ← List.append_assoc]
        exact (List.drop_left' (by simp)).symm
      have hat : w64 ((i : Int) + ((h.length : Int) + 2)) = (p : Int) := by rw [w64_id (by omega) (by omega)]; omega
      rw [if_neg (by decide), size_eq' h hh, Option.bind_some] at hA
      rw [hR, Option.bind_some, if_neg (by simp), sizeR_eq h hh, Option.bind_some] at hB
      simp only [hat] at hB
      obtain ⟨⟨n, is⟩, hsz⟩ : ∃ x, sizeS h = x := ⟨_, rfl⟩
      rw [hsz] at hA hB
      simp only at hA hB
      cases is with
      | false =>
        rw [if_pos (by decide)] at hA hB
        exact ⟨([], 0, 2), by rw [hA]; rfl, hB⟩
      | true =>
        obtain ⟨v, rfl, hv⟩ := size_lo h n hsz
        rw [if_neg (by decide), len_eq, Option.bind_some] at hA
        rw [if_neg (by decide)] at hB
        simp only at hA
        have e1 : w64 ((acc.length : Int) + (v : Int)) = (acc.length : Int) + (v : Int) := w64_id (by omega) (by omega)
        rw [e1] at hA hB
        by_cases hbig : (acc.length : Int) + (v : Int) > 100000
        · rw [if_pos hbig] at hA hB
          exact ⟨([], 0, 4), by rw [hA]; rfl, hB⟩
        · rw [if_neg hbig] at hA hB
          have hRl : R.length = s.length - p := by rw [hRs, List.length_drop]
          by_cases hz : v = 0
          · have hzb : ((v : Int) == 0) = true := by simp [hz]
            rw [if_pos hzb] at hA hB
            rw [if_pos (by omega), if_pos (by omega), Int.toNat_natCast, ← hRs] at hB
            obtain ⟨L, L', x, y, p1, p2⟩ := parse_both R (by omega)
            rw [p2, Option.bind_some] at hB
            simp only at hB
            have hA' : (chunk_Decode.l0 KK (k + 1) s acc rest).bind (after s) = behind s (acc, R) := by rw [hA]; rfl
            unfold behind at hA'
            simp only at hA'
            rw [p1, Option.bind_some] at hA'
            simp only at hA'
            have hw : w64 ((s.length : Int) - (R.length : Int)) = (p : Int) := by rw [w64_id (by omega) (by omega)]; omega
            rw [hw] at hA'
            by_cases hy : (y != 0) = true
            · rw [if_pos hy] at hA' hB
              exact ⟨_, hA', hB⟩
            · rw [if_neg hy] at hA' hB
              exact ⟨_, hA', hB⟩
          · have hzb : ¬ ((v : Int) == 0) = true := by simp only [beq_iff_eq]; omega
            rw [if_neg hzb] at hA hB
            have e2 : w64 ((v : Int) + 2) = (v : Int) + 2 := w64_id (by omega) (by omega)
            have e3 : w64 ((s.length : Int) - (p : Int)) = (R.length : Int) := by rw [w64_id (by omega) (by omega)]; omega
            rw [e3, e2] at hB
            simp only [e2] at hA
            by_cases hsh : (R.length : Int) < (v : Int) + 2
            · rw [if_pos hsh] at hA hB
              exact ⟨([], 0, 3), by rw [hA]; rfl, hB⟩
            · rw [if_neg hsh] at hA hB
              have e4 : w64 ((p : Int) + (v : Int)) = ((p + v : Nat) : Int) := by rw [w64_id (by omega) (by omega)]; omega
              have e5 : w64 (((p + v : Nat) : Int) + 1) = ((p + v + 1 : Nat) : Int) := by rw [w64_id (by omega) (by omega)]; omega
              have e6 : w64 (((p + v : Nat) : Int) + 2) = ((p + v + 2 : Nat) : Int) := by rw [w64_id (by omega) (by omega)]; omega
              have e7 : ((v : Int) + 2).toNat = v + 2 := by omega
              simp only [e7, Int.toNat_natCast] at hA
              simp only [e4, e5, e6, Int.toNat_natCast] at hB
              have b0 : bt s ((p + v : Nat) : Int) = (s[p + v].toNat : Int) := bt_at s (p + v) (by omega)
              have b1 : bt s ((p + v + 1 : Nat) : Int) = (s[p + v + 1].toNat : Int) := bt_at s (p + v + 1) (by omega)
              have hpair := pair_at s R p v hRs (by omega)
              rw [if_pos (by omega), if_pos (by omega), if_pos (by omega), if_pos (by omega), hpair] at hA
              rw [if_pos (by omega), if_pos (by omega), b0, if_pos (show (0 : Int) ≤ ((p + v + 1 : Nat) : Int) by omega), if_pos (show ((p + v + 1 : Nat) : Int) < (s.length : Int) by omega), b1] at hB
              have c0 : ((s[p + v].toNat : Int) != 13) = !(s[p + v] == 13) := by
                have := nat_byte s[p + v] 13 (by decide)
                show (!((s[p + v].toNat : Int) == 13)) = _
                have e13 : ((s[p + v].toNat : Int) == 13) = (s[p + v] == 13) := this
                rw [e13]
              have c1 : ((s[p + v + 1].toNat : Int) != 10) = !(s[p + v + 1] == 10) := by
                have := nat_byte s[p + v + 1] 10 (by decide)
                show (!((s[p + v + 1].toNat : Int) == 10)) = _
                have e10 : ((s[p + v + 1].toNat : Int) == 10) = (s[p + v + 1] == 10) := this
                rw [e10]
              rw [c0, c1] at hB
              have hpb : (([s[p + v], s[p + v + 1]] : Str) == [13, 10]) = ((s[p + v] == 13) && (s[p + v + 1] == 10)) := by
                simp [BEq.beq, List.beq]
              rw [hpb] at hA
              cases g0 : s[p + v] == 13 with
              | false =>
                rw [g0] at hA hB
                rw [if_pos (by simp)] at hA
                rw [if_pos (by decide), Option.bind_some, if_pos rfl] at hB
                exact ⟨([], 0, 2), by rw [hA]; rfl, hB⟩
              | true =>
                cases g1 : s[p + v + 1] == 10 with
                | false =>
                  rw [g0, g1] at hA hB
                  rw [if_pos (by decide)] at hA
                  rw [if_neg (by decide), Option.bind_some, if_pos (by decide)] at hB
                  exact ⟨([], 0, 2), by rw [hA]; rfl, hB⟩
                | true =>
                  rw [g0, g1] at hA hB
                  have hput : acc.length + (R.take v).length ≤ 4294967296 := by rw [List.length_take]; omega
                  rw [if_neg (by decide), if_pos (by omega), put_eq _ _ hput, Option.bind_some] at hA
                  have hpart : (s.take (p + v)).drop p = R.take v := by rw [List.drop_take, show p + v - p = v by omega, ← hRs]
                  rw [if_neg (by decide), Option.bind_some, if_neg (by decide), if_pos (by omega), if_pos (by omega), if_pos (by omega), hpart, if_pos (Nat.le_trans hput (by decide))] at hB
                  simp only at hA
                  obtain ⟨out, o1, o2⟩ := ih (R.drop (v + 2)) (acc ++ R.take v) (p + v + 2) k k' (by rw [hRs, List.drop_drop]; rfl) (by omega) (by rw [List.length_drop]; omega) (by omega) (by omega) (by rw [List.length_append, List.length_take]; omega)
                  exact ⟨out, by rw [hA]; exact o1, hB.trans o2⟩

theorem decode_both (s : Str) (hs : s.length ≤ 3000) : ∃ out, chunk_Decode.f KK s = some out ∧ sculleryref07_Decode.f KK s = some out := by
  have hk0 : KK = 2097152 := rfl
  obtain ⟨out, h1, h2⟩ := decode_same s hs s.length s [] 0 (KK + 1) KK rfl (by omega) (Nat.le_refl _) (by omega) (by omega) (Nat.le_refl _)
  refine ⟨out, ?_, ?_⟩
  · rw [decode_eq, ← h1]
    rfl
  · unfold sculleryref07_Decode.f
    rw [show (0 : Int) = ((0 : Nat) : Int) from rfl, h2, Option.bind_some]

/-! ### Encode -/
def hexR (n : Nat) : Bool := decide (sculleryref07_hex.f KK (n : Int) = some (hexs n))
theorem hexR_small : (List.range 1001).all hexR = true := by kernel_rfl
theorem hexR_of (n : Nat) (h : n ≤ 1000) : sculleryref07_hex.f KK (n : Int) = some (hexs n) := by
  have := List.all_eq_true.1 hexR_small n (List.mem_range.2 (by omega))
  unfold hexR at this
  simpa using this

theorem encode_same (sz : Int) (hs : 1 ≤ sz) : ∀ (m k k' : Nat) (acc rest : Str), rest.length ≤ m → m < k → m < k' → rest.length ≤ 1000 → acc.length + 8 * rest.length ≤ 100000 →
    ∃ out, chunk_Encode.l0 KK k sz acc rest = some out ∧ sculleryref07_Encode.l0 KK k' sz rest acc = some out ∧ out.length ≤ 100000 := by
  intro m
  induction m with
  | zero =>
    intro k k' acc rest h0 hk hk' h1 h2
    obtain ⟨k, rfl⟩ : ∃ i, k = i + 1 := ⟨k - 1, by omega⟩
    obtain ⟨k', rfl⟩ : ∃ i, k' = i + 1 := ⟨k' - 1, by omega⟩
    obtain rfl : rest = [] := List.length_eq_zero_iff.1 (by omega)
    exact ⟨acc, by simp [chunk_Encode.l0], by simp [sculleryref07_Encode.l0], by omega⟩
  | succ m ih =>
    intro k k' acc rest h0 hk hk' h1 h2
    obtain ⟨k, rfl⟩ : ∃ i, k = i + 1 := ⟨k - 1, by omega⟩
    obtain ⟨k', rfl⟩ : ∃ i, k' = i + 1 := ⟨k' - 1, by omega⟩
    by_cases he : rest = []
    · subst he
      exact ⟨acc, by simp [chunk_Encode.l0], by simp [sculleryref07_Encode.l0], by omega⟩
    · have hpos : 1 ≤ rest.length := by
        cases rest with
        | nil => exact absurd rfl he
        | cons a r => simp
      have hm := mn_pos (a := sz) (b := (rest.length : Int)) hs (by omega)
      obtain ⟨n, hn⟩ : ∃ n : Nat, mnI sz (rest.length : Int) = (n : Int) := ⟨(mnI sz (rest.length : Int)).toNat, by omega⟩
      rw [hn] at hm
      have hx := hex_of n (by omega)
      have hxR := hexR_of n (by omega)
      have hb' : (!(rest == ([] : List UInt8))) = true := by simp [he]
      have hA : chunk_Encode.l0 KK (k + 1) sz acc rest = chunk_Encode.l0 KK (k + 1) sz acc rest := rfl
      conv at hA => rhs; rw [chunk_Encode.l0, hn, if_pos hb', if_pos (show (0 : Int) ≤ (n : Int) by omega), if_pos (show (n : Int) ≤ (rest.length : Int) by omega), hx.1, Option.bind_some, Int.toNat_natCast]
      have hB : sculleryref07_Encode.l0 KK (k' + 1) sz rest acc = sculleryref07_Encode.l0 KK (k' + 1) sz rest acc := rfl
      conv at hB => rhs; rw [sculleryref07_Encode.l0, hn, if_pos hb', if_pos (show (0 : Int) ≤ (n : Int) by omega), if_pos (show (n : Int) ≤ (rest.length : Int) by omega), hxR, Option.bind_some, Int.toNat_natCast]
      rw [if_pos (le_max (by first | omega | (simp only [List.length_append, List.length_take, List.length_drop, List.length_cons, List.length_nil]; omega))), if_pos (le_max (by first | omega | (simp only [List.length_append, List.length_take, List.length_drop, List.length_cons, List.length_nil]; omega))), if_pos (le_max (by first | omega | (simp only [List.length_append, List.length_take, List.length_drop, List.length_cons, List.length_nil]; omega))), put_eq _ _ (by first | omega | (simp only [List.length_append, List.length_take, List.length_drop, List.length_cons, List.length_nil]; omega)), Option.bind_some] at hA
      rw [if_pos (le_max (by first | omega | (simp only [List.length_append, List.length_take, List.length_drop, List.length_cons, List.length_nil]; omega))), if_pos (le_max (by first | omega | (simp only [List.length_append, List.length_take, List.length_drop, List.length_cons, List.length_nil]; omega))), if_pos (le_max (by first | omega | (simp only [List.length_append, List.length_take, List.length_drop, List.length_cons, List.length_nil]; omega))), if_pos (le_max (by first | omega | (simp only [List.length_append, List.length_take, List.length_drop, List.length_cons, List.length_nil]; omega)))] at hB
      simp only at hA
      obtain ⟨out, o1, o2, o3⟩ := ih k k' (acc ++ (hexs n ++ [13, 10] ++ rest.take n ++ [13, 10])) (rest.drop n) (by rw [List.length_drop]; omega) (by omega) (by omega) (by rw [List.length_drop]; omega) (by first | omega | (simp only [List.length_append, List.length_take, List.length_drop, List.length_cons, List.length_nil]; omega))
      refine ⟨out, hA.trans o1, hB.trans ?_, o3⟩
      rw [← o2]
      congr 1
      simp

theorem encode_both (B : Str) (hB : B.length ≤ 1000) (sz : Int) : ∃ out, chunk_Encode.f KK B sz = some out ∧ sculleryref07_Encode.f KK B sz = some out := by
  by_cases hs : 1 ≤ sz
  · obtain ⟨out, e, e2, ho⟩ := encode_same sz hs B.length (KK + 1) KK [] B (Nat.le_refl _) (by have : KK = 2097152 := rfl; omega) (by have : KK = 2097152 := rfl; omega) hB (by simp; omega)
    refine ⟨(out ++ [48, 13, 10, 13, 10], 0), ?_, ?_⟩
    · unfold chunk_Encode.f
      rw [if_neg (by omega), if_neg (by omega)]
      rw [chunk_Encode.l0] at e
      by_cases he : B = []
      · subst he
        simp only [beq_self_eq_true, Bool.not_true, Bool.false_eq_true, if_false, Option.some.injEq] at e ⊢
        rw [← e]
        rfl
      · have hb' : (!(B == ([] : List UInt8))) = true := by simp [he]
        have hpos : 1 ≤ B.length := by
          cases B with
          | nil => exact absurd rfl he
          | cons a r => simp
        have hm := mn_pos (a := sz) (b := (B.length : Int)) hs (by omega)
        obtain ⟨n, hn⟩ : ∃ n : Nat, mnI sz (B.length : Int) = (n : Int) := ⟨(mnI sz (B.length : Int)).toNat, by omega⟩
        rw [hn] at hm
        have hx := hex_of n (by omega)
        rw [hn, if_pos hb', if_pos (by omega), if_pos (by omega), hx.1, Option.bind_some, Int.toNat_natCast] at e ⊢
        rw [if_pos (le_max (by first | omega | (simp only [List.length_append, List.length_take, List.length_drop, List.length_cons, List.length_nil]; omega))), if_pos (le_max (by first | omega | (simp only [List.length_append, List.length_take, List.length_drop, List.length_cons, List.length_nil]; omega))), if_pos (le_max (by first | omega | (simp only [List.length_append, List.length_take, List.length_drop, List.length_cons, List.length_nil]; omega)))] at e ⊢
        rw [put_eq _ _ (by first | omega | (simp only [List.length_append, List.length_take, List.length_drop, List.length_cons, List.length_nil]; omega)), Option.bind_some, List.nil_append] at e
        rw [put_new _ (by first | omega | (simp only [List.length_append, List.length_take, List.length_drop, List.length_cons, List.length_nil]; omega)), Option.bind_some]
        have e' : chunk_Encode.l0 KK KK sz (hexs n ++ [13, 10] ++ List.take n B ++ [13, 10]) (List.drop n B) = some out := e
        rw [e', Option.bind_some]
        unfold strings_Builder_String_ps0t.f
        rw [Option.bind_some, if_pos (le_max (by first | omega | (simp only [List.length_append, List.length_take, List.length_drop, List.length_cons, List.length_nil]; omega))), if_pos (le_max (by first | omega | (simp only [List.length_append, List.length_take, List.length_drop, List.length_cons, List.length_nil]; omega))), if_pos (le_max (by first | omega | (simp only [List.length_append, List.length_take, List.length_drop, List.length_cons, List.length_nil]; omega)))]
        simp
    · unfold sculleryref07_Encode.f
      rw [if_neg (by omega), if_neg (by omega), e2, Option.bind_some, if_pos (le_max (by first | omega | (simp only [List.length_append, List.length_take, List.length_drop, List.length_cons, List.length_nil]; omega)))]
  · refine ⟨([], 1), ?_, ?_⟩
    · unfold chunk_Encode.f
      rw [if_pos (by omega)]
    · unfold sculleryref07_Encode.f
      rw [if_pos (by omega)]

/-! ### the law -/
theorem tells_true (B s : Str) (sz : Int) : scullerylaw07_ChunkTells.f KK B s sz = some true := by
  unfold scullerylaw07_ChunkTells.f
  rw [awake_true, Option.bind_some]
  by_cases hg : (decide ((B.length : Int) > 1000) || decide ((s.length : Int) > 3000)) = true
  · rw [if_pos hg]
  rw [if_neg hg]
  simp only [Bool.or_eq_true, decide_eq_true_eq, not_or] at hg
  obtain ⟨o1, a1, a2⟩ := encode_both B (by omega) sz
  obtain ⟨o2, b1, b2⟩ := decode_both s (by omega)
  rw [a1, Option.bind_some, a2, Option.bind_some, b1, Option.bind_some, b2, Option.bind_some]
  simp

end Go.Proofs.YtkkmbkelkbhecaaGreatDoor
