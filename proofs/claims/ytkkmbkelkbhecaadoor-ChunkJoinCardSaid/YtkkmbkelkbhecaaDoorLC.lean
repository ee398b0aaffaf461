/- Plain laws: what reads a body in chunks, whole or cut off. -/
import Derived.Test.YtkkmbkelkbhecaaDoorLB
set_option maxRecDepth 1000000
namespace Go.Proofs.YtkkmbkelkbhecaaDoor
open Go.Ev Go.Proofs.Tryd

theorem len_eq (a : Str) : strings_Builder_Len_ps0t.f a = some ((a.length : Int), a) := rfl

theorem step (k : Nat) (p0 acc p R : Str) (h1 : 1 ≤ p.length) (h2 : p.length ≤ 1000) (ha : acc.length + p.length ≤ 100000) (hR : R.length ≤ 1000000) :
    chunk_Decode.l0 KK (k + 1) p0 acc (hexs p.length ++ ([13, 10] ++ (p ++ ([13, 10] ++ R)))) = chunk_Decode.l0 KK k p0 (acc ++ p) R := by
  have hx := hex_of p.length h2
  rw [chunk_Decode.l0, line_at _ _ hx.2.2.1 (by omega), Option.bind_some]
  rw [if_neg (by simp), hx.2.1, Option.bind_some]
  rw [if_neg (by simp), len_eq, Option.bind_some]
  have e1 : w64 ((acc.length : Int) + (p.length : Int)) = (acc.length : Int) + (p.length : Int) := w64_id (by omega) (by omega)
  have e2 : w64 ((p.length : Int) + 2) = (p.length : Int) + 2 := w64_id (by omega) (by omega)
  have e3 : ((p.length : Int) + 2).toNat = p.length + 2 := by omega
  have hl : (p ++ ([13, 10] ++ R)).length = p.length + (2 + R.length) := by simp; omega
  simp only [e1, e2, e3, Int.toNat_natCast]
  rw [if_neg (by omega), if_neg (by simp only [beq_iff_eq]; omega), if_neg (by omega), if_pos (by omega), if_pos (by omega), if_pos (by omega), if_pos (by omega)]
  have e4 : List.drop p.length (List.take (p.length + 2) (p ++ ([13, 10] ++ R))) = [13, 10] := by
    rw [List.take_append]
    simp
  have e5 : List.take p.length (p ++ ([13, 10] ++ R)) = p := by simp
  have e6 : List.drop (p.length + 2) (p ++ ([13, 10] ++ R)) = R := by
    rw [List.drop_append]
    simp
  rw [e4, e5, e6, if_neg (by decide), if_pos (by omega), put_eq _ _ (by omega), Option.bind_some]

theorem step_short (k : Nat) (p0 acc R : Str) (n : Nat) (h1 : 1 ≤ n) (h2 : n ≤ 1000) (ha : acc.length + n ≤ 100000) (hR : R.length < n + 2) :
    chunk_Decode.l0 KK (k + 1) p0 acc (hexs n ++ ([13, 10] ++ R)) = some (.inr ([], 0, 3)) := by
  have hx := hex_of n h2
  rw [chunk_Decode.l0, line_at _ _ hx.2.2.1 (by omega), Option.bind_some]
  rw [if_neg (by simp), hx.2.1, Option.bind_some]
  rw [if_neg (by simp), len_eq, Option.bind_some]
  have e1 : w64 ((acc.length : Int) + (n : Int)) = (acc.length : Int) + (n : Int) := w64_id (by omega) (by omega)
  have e2 : w64 ((n : Int) + 2) = (n : Int) + 2 := w64_id (by omega) (by omega)
  simp only [e1, e2]
  rw [if_neg (by omega), if_neg (by simp only [beq_iff_eq]; omega), if_pos (by omega)]

theorem step_end (k : Nat) (p0 acc R : Str) (ha : acc.length ≤ 100000) :
    chunk_Decode.l0 KK (k + 1) p0 acc ([48] ++ ([13, 10] ++ R)) = some (.inl (acc, R)) := by
  have hx := hex_of 0 (by omega)
  rw [show ([48] : Str) = hexs 0 from by decide]
  rw [chunk_Decode.l0, line_at _ _ hx.2.2.1 (by omega), Option.bind_some]
  rw [if_neg (by simp), hx.2.1, Option.bind_some]
  rw [if_neg (by simp), len_eq, Option.bind_some]
  have e1 : w64 ((acc.length : Int) + ((0 : Nat) : Int)) = (acc.length : Int) := by rw [w64_id (by omega) (by omega)]; omega
  simp only [e1]
  rw [if_neg (by omega), if_pos (by decide)]

theorem step_cut (k : Nat) (p0 acc s : Str) (hn : (10 : UInt8) ∉ s) (hl : s.length ≤ 2002) :
    chunk_Decode.l0 KK (k + 1) p0 acc s = some (.inr ([], 0, 3)) := by
  rw [chunk_Decode.l0, line_short s hn hl, Option.bind_some, if_pos (by decide)]

theorem read_all (p0 R : Str) (hR : R.length ≤ 100000) : ∀ (ps : List Str) (k : Nat) (acc : Str), good ps → ps.length < k → acc.length + (body ps).length ≤ 100000 →
    chunk_Decode.l0 KK k p0 acc (enc ps ++ ([48] ++ ([13, 10] ++ R))) = some (.inl (acc ++ body ps, R))
  | [], k, acc, _, hk, ha => by
    obtain ⟨k, rfl⟩ : ∃ i, k = i + 1 := ⟨k - 1, by omega⟩
    simp only [body, List.append_nil]
    exact step_end k p0 acc R (by omega)
  | p :: ps, k, acc, g, hk, ha => by
    obtain ⟨k, rfl⟩ : ∃ i, k = i + 1 := ⟨k - 1, by omega⟩
    have h1 := g p (by simp)
    have gs : good ps := fun q hq => g q (by simp [hq])
    have hl := enc_len ps gs
    simp only [body, List.length_append] at ha
    have e : enc (p :: ps) ++ ([48] ++ ([13, 10] ++ R)) = hexs p.length ++ ([13, 10] ++ (p ++ ([13, 10] ++ (enc ps ++ ([48] ++ ([13, 10] ++ R)))))) := by simp [enc, one]
    rw [e, step k p0 acc p _ h1.1 h1.2 (by omega) (by simp only [List.length_append, List.length_cons, List.length_nil]; omega),
      read_all p0 R hR ps k (acc ++ p) gs (by simp only [List.length_cons] at hk; omega) (by rw [List.length_append]; omega)]
    simp [body]

/-- What is read where the text is cut off. -/
def off (m : (List UInt8 × Str) ⊕ (Str × Int × Int)) : Prop := m = .inr ([], 0, 3) ∨ ∃ acc r, m = .inl (acc, r) ∧ (r = [] ∨ r = [13])

theorem take_hex (h R : Str) (c : Nat) (hn : (10 : UInt8) ∉ h) (hl : h.length ≤ 3) (hc : c < h.length + 2) :
    (10 : UInt8) ∉ (h ++ ([13, 10] ++ R)).take c ∧ ((h ++ ([13, 10] ++ R)).take c).length ≤ 2002 := by
  have e : (h ++ ([13, 10] ++ R)).take c = (h ++ [13]).take c := by
    have : h ++ ([13, 10] ++ R) = (h ++ [13]) ++ (10 :: R) := by simp
    rw [this, List.take_append_of_le_length (by simp; omega)]
  rw [e]
  refine ⟨fun hm => ?_, by simp only [List.length_take, List.length_append, List.length_cons, List.length_nil]; omega⟩
  have := List.mem_of_mem_take hm
  simp [hn] at this

theorem read_off (p0 : Str) : ∀ (ps : List Str) (k c : Nat) (acc : Str), good ps → ps.length < k → acc.length + (body ps).length ≤ 100000 → c < (enc ps ++ END).length →
    ∃ m, chunk_Decode.l0 KK k p0 acc ((enc ps ++ END).take c) = some m ∧ off m
  | [], k, c, acc, _, hk, ha, hc => by
    obtain ⟨k, rfl⟩ : ∃ i, k = i + 1 := ⟨k - 1, by omega⟩
    have hc' : c < 5 := hc
    have ha' : acc.length ≤ 100000 := by simpa [body] using ha
    simp only [enc, List.nil_append]
    by_cases h3 : c < 3
    · refine ⟨_, step_cut k p0 acc _ ?_ ?_, .inl rfl⟩
      · have : c = 0 ∨ c = 1 ∨ c = 2 := by omega
        rcases this with rfl | rfl | rfl <;> decide
      · have : c = 0 ∨ c = 1 ∨ c = 2 := by omega
        rcases this with rfl | rfl | rfl <;> decide
    · have : c = 3 ∨ c = 4 := by omega
      rcases this with rfl | rfl
      · exact ⟨_, step_end k p0 acc [] ha', .inr ⟨_, _, rfl, .inl rfl⟩⟩
      · exact ⟨_, step_end k p0 acc [13] ha', .inr ⟨_, _, rfl, .inr rfl⟩⟩
  | p :: ps, k, c, acc, g, hk, ha, hc => by
    obtain ⟨k, rfl⟩ : ∃ i, k = i + 1 := ⟨k - 1, by omega⟩
    have h1 := g p (by simp)
    have gs : good ps := fun q hq => g q (by simp [hq])
    have hl := enc_len ps gs
    have hx := hex_of p.length h1.2
    simp only [body, List.length_append] at ha
    have e : enc (p :: ps) ++ END = hexs p.length ++ ([13, 10] ++ (p ++ ([13, 10] ++ (enc ps ++ END)))) := by simp [enc, one]
    rw [e] at hc ⊢
    by_cases hc1 : c < (hexs p.length).length + 2
    · have ht := take_hex (hexs p.length) (p ++ ([13, 10] ++ (enc ps ++ END))) c hx.2.2.1 hx.2.2.2 hc1
      exact ⟨_, step_cut k p0 acc _ ht.1 ht.2, .inl rfl⟩
    · obtain ⟨d, rfl⟩ : ∃ d, c = (hexs p.length).length + (2 + d) := ⟨c - (hexs p.length).length - 2, by omega⟩
      have e2 : List.take ((hexs p.length).length + (2 + d)) (hexs p.length ++ ([13, 10] ++ (p ++ ([13, 10] ++ (enc ps ++ END))))) = hexs p.length ++ ([13, 10] ++ (p ++ ([13, 10] ++ (enc ps ++ END))).take d) := by
        rw [List.take_length_add_append]
        congr 1
        exact List.take_length_add_append (l₁ := ([13, 10] : Str)) (i := d) ..
      rw [e2]
      by_cases hd : d < p.length + 2
      · exact ⟨_, step_short k p0 acc _ p.length h1.1 h1.2 (by omega) (by rw [List.length_take]; omega), .inl rfl⟩
      · obtain ⟨f, rfl⟩ : ∃ f, d = p.length + (2 + f) := ⟨d - p.length - 2, by omega⟩
        have e3 : List.take (p.length + (2 + f)) (p ++ ([13, 10] ++ (enc ps ++ END))) = p ++ ([13, 10] ++ (enc ps ++ END).take f) := by
          rw [List.take_length_add_append]
          congr 1
          exact List.take_length_add_append (l₁ := ([13, 10] : Str)) (i := f) ..
        have hE : END.length = 5 := rfl
        rw [e3, step k p0 acc p _ h1.1 h1.2 (by omega) (by simp only [List.length_take, List.length_append]; omega)]
        refine read_off p0 ps k f (acc ++ p) gs (by simp only [List.length_cons] at hk; omega) (by rw [List.length_append]; omega) ?_
        simp only [List.length_append, List.length_cons, List.length_nil] at hc ⊢
        omega

/-- What is behind the chunks. -/
def behind (s : Str) (q : List UInt8 × Str) : Option (Str × Int × Int) :=
  (head_Parse.f KK q.2).bind fun t => if (t.2.2 != 0) = true then some ([], 0, t.2.2) else some (q.1, w64 (w64 ((s.length : Int) - (q.2.length : Int)) + t.2.1), 0)

theorem decode_eq (s : Str) : chunk_Decode.f KK s = (chunk_Decode.l0 KK (KK + 1) s [] s).bind fun m => match m with | .inl q => behind s q | .inr r => some r := by
  rw [chunk_Decode.l0, chunk_Decode.f]
  cases chunk_line.f s with
  | none => rfl
  | some t2 =>
    simp only [Option.bind_some]
    by_cases h1 : (t2.2.2 != 0) = true
    · rw [if_pos h1, if_pos h1, Option.bind_some]
    rw [if_neg h1, if_neg h1]
    cases chunk_size.f KK t2.1 with
    | none => rfl
    | some t7 =>
      simp only [Option.bind_some]
      by_cases h2 : (!t7.2) = true
      · rw [if_pos h2, if_pos h2, Option.bind_some]
      rw [if_neg h2, if_neg h2, len_eq]
      simp only [strings_Builder_Len_pnsn.f, Option.bind_some, List.length_nil, Int.natCast_zero]
      by_cases h3 : w64 (0 + t7.1) > 100000
      · rw [if_pos h3, if_pos h3, Option.bind_some]
      rw [if_neg h3, if_neg h3]
      by_cases h4 : (t7.1 == 0) = true
      · rw [if_pos h4, if_pos h4, Option.bind_some]
        rfl
      rw [if_neg h4, if_neg h4]
      by_cases h5 : (t2.2.1.length : Int) < w64 (t7.1 + 2)
      · rw [if_pos h5, if_pos h5, Option.bind_some]
      rw [if_neg h5, if_neg h5]
      by_cases h6 : (0 : Int) ≤ w64 (t7.1 + 2)
      · rw [if_pos h6, if_pos h6]
        by_cases h7 : w64 (t7.1 + 2) ≤ (t2.2.1.length : Int)
        · rw [if_pos h7, if_pos h7]
          by_cases h8 : (0 : Int) ≤ t7.1
          · rw [if_pos h8, if_pos h8]
            by_cases h9 : t7.1 ≤ w64 (t7.1 + 2)
            · rw [if_pos h9, if_pos h9]
              by_cases h10 : (!(((t2.2.1.take (w64 (t7.1 + 2)).toNat).drop t7.1.toNat) == ([13, 10]))) = true
              · rw [if_pos h10, if_pos h10, Option.bind_some]
              rw [if_neg h10, if_neg h10]
              by_cases h11 : t7.1 ≤ (t2.2.1.length : Int)
              · rw [if_pos h11, if_pos h11]
                have e : strings_Builder_WriteString_ps0t.f [] (t2.2.1.take t7.1.toNat) = strings_Builder_WriteString_pnsn.f (t2.2.1.take t7.1.toNat) := by
                  unfold strings_Builder_WriteString_ps0t.f strings_Builder_WriteString_pnsn.f strings_Builder_copyCheck_ps0t.f strings_Builder_copyCheck_pnsn.f
                  rfl
                rw [e]
                cases strings_Builder_WriteString_pnsn.f (t2.2.1.take t7.1.toNat) with
                | none => rfl
                | some t41 => rfl
              · rw [if_neg h11, if_neg h11]; rfl
            · rw [if_neg h9, if_neg h9]; rfl
          · rw [if_neg h8, if_neg h8]; rfl
        · rw [if_neg h7, if_neg h7]; rfl
      · rw [if_neg h6, if_neg h6]; rfl

/-! ### the head behind -/

theorem hline_blank (M : Str) : head_line.f ([13, 10] ++ M) = some ([], M, 0) := by
  have e : ([13, 10] ++ M : Str) = [13] ++ 10 :: M := rfl
  unfold head_line.f
  rw [e, cut_at [13] M 10 (by decide) (by decide), Option.bind_some]
  rw [if_neg (by simp), if_neg (by simp)]
  rw [show strings_CutSuffix.f [13] [13] = some ([], true) from by kernel_rfl, Option.bind_some, if_neg (by decide), if_neg (by decide)]

theorem head_blank (M : Str) (hM : M.length ≤ 100000) : head_Parse.f KK ([13, 10] ++ M) = some ([], 2, 0) := by
  have hk : KK = 2097151 + 1 := rfl
  unfold head_Parse.f
  rw [show head_Parse.l0 KK KK = head_Parse.l0 KK (2097151 + 1) from rfl, head_Parse.l0, hline_blank, Option.bind_some, if_neg (by simp), if_pos (by simp), Option.bind_some]
  rw [w64_id (by simp only [List.length_append]; omega) (by simp only [List.length_append, List.length_cons, List.length_nil]; omega)]
  have : ((([13, 10] ++ M : Str).length : Int) - (M.length : Int)) = 2 := by simp only [List.length_append, List.length_cons, List.length_nil]; omega
  rw [this]

theorem head_off0 : head_Parse.f KK [] = some ([], 0, 3) := by kernel_rfl
theorem head_off1 : head_Parse.f KK [13] = some ([], 0, 3) := by kernel_rfl

/-- Chunks, their end, and more. -/
theorem decode_all (ps : List Str) (g : good ps) (hb : (body ps).length ≤ 10000) (M : Str) (hM : M.length ≤ 10000) :
    chunk_Decode.f KK (enc ps ++ END ++ M) = some (body ps, ((enc ps ++ END).length : Int), 0) := by
  have hl := enc_len ps g
  have hp := good_len ps g
  have e : enc ps ++ END ++ M = enc ps ++ ([48] ++ ([13, 10] ++ ([13, 10] ++ M))) := by simp [END]
  rw [decode_eq]
  have := read_all (enc ps ++ END ++ M) ([13, 10] ++ M) (by simp; omega) ps (KK + 1) [] g (by have : KK = 2097152 := rfl; omega) (by simp; omega)
  rw [← e] at this
  rw [this, Option.bind_some]
  show behind _ _ = _
  unfold behind
  rw [head_blank M (by omega), Option.bind_some, if_neg (by decide)]
  simp only [List.nil_append]
  have hE : END.length = 5 := rfl
  rw [w64_id (n := ((enc ps ++ END ++ M).length : Int) - _) (by simp only [List.length_append, List.length_cons, List.length_nil]; omega) (by simp only [List.length_append, List.length_cons, List.length_nil]; omega)]
  have e2 : ((enc ps ++ END ++ M).length : Int) - (([13, 10] ++ M : Str).length : Int) + 2 = ((enc ps ++ END).length : Int) := by simp only [List.length_append, List.length_cons, List.length_nil]; omega
  rw [e2, w64_id (by omega) (by simp only [List.length_append]; omega)]

theorem decode_off (ps : List Str) (g : good ps) (hb : (body ps).length ≤ 10000) (c : Nat) (hc : c < (enc ps ++ END).length) :
    ∃ r, chunk_Decode.f KK ((enc ps ++ END).take c) = some r ∧ r.2.2 = 3 := by
  have hp := good_len ps g
  obtain ⟨m, hm, ho⟩ := read_off ((enc ps ++ END).take c) ps (KK + 1) c [] g (by have : KK = 2097152 := rfl; omega) (by simp; omega) hc
  rw [decode_eq, hm, Option.bind_some]
  rcases ho with rfl | ⟨acc, r, rfl, rfl | rfl⟩
  · exact ⟨_, rfl, rfl⟩
  · refine ⟨([], 0, 3), ?_, rfl⟩
    show behind _ _ = _
    unfold behind
    rw [head_off0]
    rfl
  · refine ⟨([], 0, 3), ?_, rfl⟩
    show behind _ _ = _
    unfold behind
    rw [head_off1]
    rfl

/-! ### the laws -/

theorem back_true (B M : Str) (sz cut : Int) : scullerylaw07_ChunkBack.f KK B M sz cut = some true := by
  unfold scullerylaw07_ChunkBack.f
  rw [awake_true, Option.bind_some]
  by_cases hg : (decide ((B.length : Int) > 1000) || decide ((M.length : Int) > 100)) = true
  · rw [if_pos hg]
  rw [if_neg hg]
  simp only [Bool.or_eq_true, decide_eq_true_eq, not_or] at hg
  by_cases hs : 1 ≤ sz
  · obtain ⟨ps, g, hb, he⟩ := encode_eq B (by omega) sz hs
    have hl := enc_len ps g
    have hE : END.length = 5 := rfl
    rw [hb] at hl
    rw [he, Option.bind_some, if_neg (by simp), if_pos (le_max (by simp only [List.length_append]; omega))]
    rw [decode_all ps g (by rw [hb]; omega) M (by omega), Option.bind_some, hb]
    rw [if_neg (by simp)]
    by_cases hc : (decide (cut < 0) || decide (cut ≥ ((enc ps ++ END).length : Int))) = true
    · rw [if_pos hc]
    rw [if_neg hc]
    simp only [Bool.or_eq_true, decide_eq_true_eq, not_or] at hc
    simp only []
    rw [if_pos (by omega), if_pos (by omega)]
    obtain ⟨r, hr, h3⟩ := decode_off ps g (by rw [hb]; omega) cut.toNat (by omega)
    rw [hr, Option.bind_some, h3]
    rfl
  · rw [encode_none B sz hs, Option.bind_some, if_pos (by decide)]
    have : decide (sz < 1) = true := by simp; omega
    rw [this]
    rfl

theorem join_true (A B : Str) (sz1 sz2 : Int) : scullerylaw07_ChunkJoin.f KK A B sz1 sz2 = some true := by
  unfold scullerylaw07_ChunkJoin.f
  rw [awake_true, Option.bind_some]
  by_cases hg : (decide ((A.length : Int) > 500) || (decide ((B.length : Int) > 500) || (decide (sz1 < 1) || decide (sz2 < 1)))) = true
  · rw [if_pos hg]
  rw [if_neg hg]
  simp only [Bool.or_eq_true, decide_eq_true_eq, not_or] at hg
  obtain ⟨ps, g, hb, he⟩ := encode_eq A (by omega) sz1 (by omega)
  obtain ⟨qs, g', hb', he'⟩ := encode_eq B (by omega) sz2 (by omega)
  have hl := enc_len ps g
  have hl' := enc_len qs g'
  have hE : END.length = 5 := rfl
  rw [hb] at hl
  rw [hb'] at hl'
  rw [he, Option.bind_some, he', Option.bind_some]
  have h5 : w64 (((enc ps ++ END).length : Int) - 5) = ((enc ps).length : Int) := by
    rw [w64_id (by simp only [List.length_append]; omega) (by simp only [List.length_append]; omega)]
    simp only [List.length_append]; omega
  rw [if_neg (by simp only [bne_self_eq_false, Bool.false_or, decide_eq_true_eq, List.length_append]; omega)]
  simp only [h5, Int.toNat_natCast]
  rw [if_pos (by omega), if_pos (by rw [List.length_append]; omega), List.take_left' rfl, if_pos (le_max (by simp only [List.length_append]; omega))]
  have gg : good (ps ++ qs) := by
    intro p hp
    rcases List.mem_append.1 hp with h | h
    · exact g p h
    · exact g' p h
  have hd := decode_all (ps ++ qs) gg (by rw [body_append, hb, hb', List.length_append]; omega) [] (by decide)
  rw [List.append_nil, enc_append, body_append, hb, hb', List.append_assoc] at hd
  rw [hd, Option.bind_some, if_pos trivial, if_pos (le_max (by omega)), if_pos (by simp)]
  have e : w64 (w64 (((enc ps ++ END).length : Int) + ((enc qs ++ END).length : Int)) - 5) = ((enc ps ++ (enc qs ++ END)).length : Int) := by
    rw [w64_id (n := ((enc ps ++ END).length : Int) + _) (by omega) (by simp only [List.length_append]; omega), w64_id (by simp only [List.length_append]; omega) (by simp only [List.length_append]; omega)]
    simp only [List.length_append]; omega
  rw [e, if_pos (by simp)]
  rfl

end Go.Proofs.YtkkmbkelkbhecaaDoor
