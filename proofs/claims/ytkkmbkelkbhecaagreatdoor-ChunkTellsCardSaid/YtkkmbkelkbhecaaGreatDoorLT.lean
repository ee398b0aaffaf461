/- Plain laws: what TrimFunc takes off, at a predicate that holds of blanks alone: by bytes. -/
import Derived.Test.YtkkmbkelkbhecaaGreatDoorF4
import Derived.Lib.TrimAscii
import Derived.Lib.SpaceUEq
set_option maxRecDepth 100000
namespace Go.Proofs.YtkkmbkelkbhecaaGreatDoor
open Go.Ev Go.Proofs.Tryz
open Go.Lib (decodeL decodeLastL decodeL_N decodeL_drop decodeN decodeN_cases decodeN_ascii OpenAt last_cases fw_width idxFuncFrom lastIdxFuncFrom)

/-- Blanks. -/
def bl (b : UInt8) : Bool := b == 32 || b == 9
def blN (x : Nat) : Bool := x == 32 || x == 9
theorem bl_nat (b : UInt8) : bl b = blN b.toNat := by
  unfold bl blN
  have h (c : UInt8) : (b == c) = (b.toNat == c.toNat) := by
    rw [Bool.eq_iff_iff, beq_iff_eq, beq_iff_eq]
    exact UInt8.toNat_inj.symm
  rw [h 32, h 9]
  rfl
theorem bl_lo {b : UInt8} (h : bl b = true) : b.toNat < 128 := by
  rw [bl_nat] at h
  simp only [blN, Bool.or_eq_true, beq_iff_eq] at h
  omega
theorem blN_big {x : Nat} (h : 128 ≤ x) : blN x = false := by
  simp only [blN, Bool.or_eq_false_iff, beq_eq_false_iff_ne]
  omega
theorem bl_big {b : UInt8} (h : 128 ≤ b.toNat) : bl b = false := by rw [bl_nat]; exact blN_big h

theorem dec_bl {b : UInt8} {t : Str} (h : bl b = true) : decodeL (b :: t) = (b.toNat, 1) := Lib.decodeL_ascii b t (bl_lo h)
theorem dec_rune (b : UInt8) (t : Str) : blN (decodeL (b :: t)).1 = bl b := by
  by_cases h : b.toNat < 128
  · rw [Lib.decodeL_ascii b t h, bl_nat]
  · rw [bl_big (by omega)]
    refine blN_big ?_
    rw [decodeL_N]
    have h0 : ((b :: t : Str).getD 0 0).toNat = b.toNat := by simp
    rw [h0]
    rcases decodeN_cases (b :: t : Str).length b.toNat ((b :: t : Str).getD 1 0).toNat ((b :: t : Str).getD 2 0).toNat ((b :: t : Str).getD 3 0).toNat with ⟨c, e⟩ | ⟨c1, c2, c3, cv, e⟩ | ⟨c1, c2, c3, c4, cv, e⟩ | ⟨c, e⟩ | e
    · omega
    · rw [e]; exact cv
    · rw [e]; show 128 ≤ _; simp only; omega
    · omega
    · rw [e]; decide

theorem dropWhile_eq (l : Str) : l.dropWhile bl = l.drop (l.takeWhile bl).length := by
  induction l with
  | nil => rfl
  | cons b t ih =>
    cases h : bl b with
    | true => simp [h, ih]
    | false => simp [h]

theorem dropWhile_all (l : Str) (h : l.all bl = true) : l.dropWhile bl = [] := by
  induction l with
  | nil => rfl
  | cons b t ih =>
    simp only [List.all_cons, Bool.and_eq_true] at h
    rw [List.dropWhile_cons, if_pos h.1]
    exact ih h.2

theorem left_from (l : Str) : ∀ (f pos : Nat), l.length - pos ≤ f →
    idxFuncFrom blN false ⟨⟨l⟩⟩ f pos = if (l.drop pos).all bl then -1 else ((pos + ((l.drop pos).takeWhile bl).length : Nat) : Int)
  | 0, pos, hf => by
    rw [List.drop_eq_nil_of_le (by omega)]
    rfl
  | f + 1, pos, hf => by
    unfold idxFuncFrom
    by_cases hp : pos < l.length
    · have hs : pos < (⟨⟨l⟩⟩ : ByteArray).size := hp
      rw [if_pos hs]
      have hd : l.drop pos = l[pos] :: l.drop (pos + 1) := List.drop_eq_getElem_cons hp
      have hdec : Utf8.decode ⟨⟨l⟩⟩ pos = decodeL (l[pos] :: l.drop (pos + 1)) := by rw [← hd]; exact (decodeL_drop ⟨⟨l⟩⟩ pos).symm
      rw [hdec, hd]
      cases hb : bl l[pos] with
      | true =>
        rw [dec_rune, hb, if_neg (by decide), dec_bl hb, left_from l f (pos + 1) (by omega)]
        simp only [List.all_cons, hb, Bool.true_and, List.takeWhile_cons, if_true, List.length_cons]
        split
        · rfl
        · congr 1; omega
      | false =>
        rw [dec_rune, hb, if_pos rfl]
        simp only [List.all_cons, hb, Bool.false_and, Bool.false_eq_true, if_false, List.takeWhile_cons, List.length_nil, Nat.add_zero]
    · have hs : ¬ pos < (⟨⟨l⟩⟩ : ByteArray).size := hp
      rw [if_neg hs, List.drop_eq_nil_of_le (by omega)]
      rfl

theorem ext_list (l : Str) (a b : Nat) : ((⟨⟨l⟩⟩ : ByteArray).extract a b).data.toList = (l.drop a).take (b - a) := Lib.extract_data ⟨⟨l⟩⟩ a b

theorem left_eq (l : Str) : (Lib.trimLeftF blN ⟨⟨l⟩⟩).data.toList = l.dropWhile bl := by
  unfold Lib.trimLeftF Lib.idxFunc
  have hz : (⟨⟨l⟩⟩ : ByteArray).size = l.length := rfl
  rw [hz, left_from l l.length 0 (by omega), List.drop_zero]
  cases h : l.all bl with
  | true =>
    simp only [if_true]
    exact (dropWhile_all l h).symm
  | false =>
    simp only [Bool.false_eq_true, if_false]
    rw [if_neg (by omega), ext_list, dropWhile_eq]
    simp only [Nat.zero_add, Int.toNat_natCast]
    exact List.take_of_length_le (by simp)

theorem right_from (l : Str) : ∀ (f i : Nat), i ≤ f → i ≤ l.length → OpenAt l i →
    (lastIdxFuncFrom blN false ⟨⟨l⟩⟩ f i = -1 ∨ (0 ≤ lastIdxFuncFrom blN false ⟨⟨l⟩⟩ f i ∧ lastIdxFuncFrom blN false ⟨⟨l⟩⟩ f i < (l.length : Int))) ∧
    (if 0 ≤ lastIdxFuncFrom blN false ⟨⟨l⟩⟩ f i then (lastIdxFuncFrom blN false ⟨⟨l⟩⟩ f i).toNat + (decodeL (l.drop (lastIdxFuncFrom blN false ⟨⟨l⟩⟩ f i).toNat)).2 else 0) = ((l.take i).reverse.dropWhile bl).length
  | 0, i, hf, _, _ => by
    obtain rfl : i = 0 := by omega
    simp [lastIdxFuncFrom]
  | f + 1, i, hf, hil, ho => by
    by_cases hi : 0 < i
    · obtain ⟨j, rfl⟩ : ∃ j, i = j + 1 := ⟨i - 1, by omega⟩
      have hj : j < l.length := by omega
      have ht : l.take (j + 1) = l.take j ++ [l[j]] := by rw [List.take_succ_eq_append_getElem hj]
      have hg : l.getD j 0 = l[j] := by simp [List.getD, hj]
      have hlen : (l.take (j + 1)).length = j + 1 := by rw [List.length_take]; omega
      have hw := Lib.decodeLastL_width (l.take (j + 1)) (by omega)
      rw [hlen] at hw
      have hlc := last_cases l (j + 1) hi hil
      rw [Nat.add_sub_cancel, hg] at hlc
      unfold lastIdxFuncFrom
      rw [if_pos hi]
      cases hb : bl l[j] with
      | true =>
        have hlo := bl_lo hb
        have hd : decodeLastL (l.take (j + 1)) = (l[j].toNat, 1) := by
          rcases hlc with ⟨_, e⟩ | ⟨e, _⟩ | ⟨e, _⟩
          · exact e
          · omega
          · omega
        simp only [hd]
        rw [if_neg (by rw [← bl_nat, hb]; decide), Nat.add_sub_cancel]
        have hrev : ((l.take (j + 1)).reverse.dropWhile bl) = (l.take j).reverse.dropWhile bl := by rw [ht, List.reverse_append, List.reverse_singleton, List.singleton_append, List.dropWhile_cons, if_pos hb]
        rw [hrev]
        exact right_from l f j (by omega) (by omega) (.inr (by rw [hg]; omega))
      | false =>
        have hp : blN (decodeLastL (l.take (j + 1))).1 = false := by
          rcases hlc with ⟨_, e⟩ | ⟨_, e⟩ | ⟨h128, st, hst, e, hsum⟩
          · rw [e, ← bl_nat, hb]
          · rw [e]; decide
          · rw [e]
            have hlt : st < (l.take (j + 1)).length := by omega
            have hc : (l.take (j + 1)).drop st = (l.take (j + 1))[st] :: (l.take (j + 1)).drop (st + 1) := List.drop_eq_getElem_cons hlt
            rw [hc] at hsum ⊢
            rw [dec_rune]
            cases hb2 : bl (l.take (j + 1))[st] with
            | false => rfl
            | true =>
              rw [dec_bl hb2] at hsum
              have : st = j := by simp only at hsum; omega
              subst this
              have e2 : (l.take (st + 1))[st] = l[st] := by simp
              rw [e2, hb] at hb2
              cases hb2
        simp only [hp, if_true]
        refine ⟨.inr ⟨by omega, by omega⟩, ?_⟩
        rw [if_pos (by omega), Int.toNat_natCast, fw_width l (j + 1) hi hil ho, Nat.sub_add_cancel hw.2]
        have hrev : (l.take (j + 1)).reverse.dropWhile bl = (l.take (j + 1)).reverse := by rw [ht, List.reverse_append, List.reverse_singleton, List.singleton_append, List.dropWhile_cons, if_neg (by rw [hb]; decide)]
        rw [hrev, List.length_reverse, hlen]
    · obtain rfl : i = 0 := by omega
      rw [Lib.lastIdxFuncFrom_zero]
      simp

theorem take_rev (l : Str) : l.take (l.reverse.dropWhile bl).length = (l.reverse.dropWhile bl).reverse := by
  rw [dropWhile_eq, List.length_drop, List.length_reverse, List.reverse_drop, List.reverse_reverse, List.length_reverse]

theorem right_eq (l : Str) : (Lib.trimRightF blN ⟨⟨l⟩⟩).data.toList = (l.reverse.dropWhile bl).reverse := by
  have hz : (⟨⟨l⟩⟩ : ByteArray).size = l.length := rfl
  have h := right_from l l.length l.length (Nat.le_refl _) (Nat.le_refl _) (.inl rfl)
  rw [List.take_of_length_le (Nat.le_refl _)] at h
  unfold Lib.trimRightF
  rw [ext_list, List.drop_zero, Nat.sub_zero, ← take_rev, ← h.2]
  congr 1
  unfold Lib.rightEndF Lib.lastIdxFunc
  rw [hz]
  obtain ⟨r, hr⟩ : ∃ r, lastIdxFuncFrom blN false ⟨⟨l⟩⟩ l.length l.length = r := ⟨_, rfl⟩
  rw [hr] at h ⊢
  by_cases h0 : 0 ≤ r
  · rw [if_pos h0, if_pos h0]
    congr 1
    have hlt : r < (l.length : Int) := by
      rcases h.1 with e | e
      · omega
      · exact e.2
    unfold Lib.decodeGoB
    have hl : ((⟨⟨l⟩⟩ : ByteArray).extract r.toNat l.length).data.toList = l.drop r.toNat := by
      rw [ext_list]
      exact List.take_of_length_le (by simp)
    have hsz : ((⟨⟨l⟩⟩ : ByteArray).extract r.toNat l.length).size ≠ 0 := by
      rw [Lib.size_eq, hl, List.length_drop]
      omega
    rw [if_neg hsz, ← decodeL_drop, hl, List.drop_zero]
  · rw [if_neg h0, if_neg h0]

/-- Blanks off at both ends. -/
def trimB (l : Str) : Str := ((l.dropWhile bl).reverse.dropWhile bl).reverse

theorem ba_eq (s : ByteArray) (l : Str) (h : s.data.toList = l) : s = ⟨⟨l⟩⟩ := by
  obtain ⟨⟨m⟩⟩ := s
  exact congrArg (fun m => (⟨⟨m⟩⟩ : ByteArray)) h

theorem trimF_eq (p : Nat → Bool) (hp : ∀ x, p x = blN x) (l : Str) : (Lib.trimF p ⟨⟨l⟩⟩).data.toList = trimB l := by
  obtain rfl : p = blN := funext hp
  unfold Lib.trimF trimB
  have e : Lib.trimLeftF blN ⟨⟨l⟩⟩ = ⟨⟨l.dropWhile bl⟩⟩ := by
    exact ba_eq _ _ (left_eq l)
  rw [e, right_eq]

theorem trimB_len (l : Str) : (trimB l).length ≤ l.length := by
  unfold trimB
  rw [List.length_reverse]
  have h1 := (List.dropWhile_sublist (p := bl) (l := (l.dropWhile bl).reverse)).length_le
  have h2 := (List.dropWhile_sublist (p := bl) (l := l)).length_le
  rw [List.length_reverse] at h1
  omega

theorem trim_eq (s : Str) (hs : s.length ≤ 1000000) : ascii_Trim.f s = some (trimB s) := by
  unfold ascii_Trim.f strings_TrimFunc_ascii_Trim_1.f
  rw [if_pos (Nat.le_trans hs (by decide)), trimF_eq _ (fun x => ?_)]
  · rfl
  · unfold strings_TrimFunc_ascii_Trim_1.p ascii_Trim_1.f blN
    have h1 : ((x : Int) == 32) = (x == 32) := by
      rw [Bool.eq_iff_iff, beq_iff_eq, beq_iff_eq]
      omega
    have h2 : ((x : Int) == 9) = (x == 9) := by
      rw [Bool.eq_iff_iff, beq_iff_eq, beq_iff_eq]
      omega
    simp only [Option.getD_some, h1, h2]

end Go.Proofs.YtkkmbkelkbhecaaGreatDoor
