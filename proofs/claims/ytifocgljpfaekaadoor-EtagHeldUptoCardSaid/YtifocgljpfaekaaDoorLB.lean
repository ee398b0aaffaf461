/- Plain laws: texts, prefixes, digits; a date's text is read as it was written. -/
import Derived.Test.YtifocgljpfaekaaDoorLA
set_option maxRecDepth 100000
namespace Go.Proofs.YtifocgljpfaekaaDoor
open Go.Ev Go.Proofs.Tryd

abbrev KK : Nat := 2097152

theorem days_eq (K : Nat) (hK : 100 ≤ K) (y : Int) (m : Nat) (d : Int) (hy1 : 1970 ≤ y) (hy2 : y ≤ 9999) (hm1 : 1 ≤ m) (hm2 : m ≤ 12) (hd1 : 1 ≤ d) (hd2 : d ≤ LONG y m) :
    date_Days.f K y m d = some (AH y - AH 1970 + CUM y m + d - 1, 0) := by
  have e70 : AH 1970 = 719527 := by decide
  have hb : 719527 ≤ AH y ∧ AH y ≤ 4000000 := by unfold AH; omega
  have hl := long_hi y m
  have hc := cum_hi y m
  have hc0 := cum_lo y m
  unfold date_Days.f
  rw [if_neg (by omega), if_neg (by omega), if_neg (by omega), if_neg (by omega), if_neg (by omega), long_eq (by omega)]
  have : decide (d > LONG y (m : Int)) = false := by simp; omega
  simp only [Option.bind_some, this, Bool.false_eq_true, if_false]
  rw [ahead_eq (by omega) (by omega), ahead_eq (by omega) (by omega), Option.bind_some, Option.bind_some, e70, w64_id (n := AH y - 719527) (by omega) (by omega), w64_id (n := AH y - 719527 + d) (by omega) (by omega), w64_id (n := AH y - 719527 + d - 1) (by omega) (by omega)]
  have := sums_eq y (by omega) m hm2 (m - 1) 1 K (AH y - 719527 + d - 1) (by omega) (by omega) (by omega) (by omega) (by omega)
  have h1 : CUM y 1 = 0 := by simp [CUM]
  rw [show ((1 : Nat) : Int) = 1 from rfl, h1] at this
  rw [this, Option.bind_some]
  congr 2; omega

/-! ### prefixes -/

theorem hasPrefix_eq (s p : Str) : stringslite_HasPrefix.f s p = some (p.isPrefixOf s) := by
  unfold stringslite_HasPrefix.f
  by_cases h : (s.length : Int) ≥ (p.length : Int)
  · rw [if_pos h, if_pos h, Option.bind_some]
    congr 1
    rw [Bool.eq_iff_iff, List.isPrefixOf_iff_prefix, beq_iff_eq, List.prefix_iff_eq_take]
    simp [eq_comm]
  · rw [if_neg h, Option.bind_some]
    congr 1
    symm
    rw [Bool.eq_false_iff]
    intro hp
    have := (List.isPrefixOf_iff_prefix.1 hp).length_le
    omega

theorem sHasPrefix_eq (s p : Str) : strings_HasPrefix.f s p = some (p.isPrefixOf s) := by
  unfold strings_HasPrefix.f
  rw [hasPrefix_eq, Option.bind_some]

theorem cutPrefix_eq (s p : Str) : strings_CutPrefix.f s p = some (if p.isPrefixOf s then (s.drop p.length, true) else (s, false)) := by
  unfold strings_CutPrefix.f stringslite_CutPrefix.f
  rw [hasPrefix_eq, Option.bind_some]
  cases h : p.isPrefixOf s with
  | false => simp
  | true =>
    have := (List.isPrefixOf_iff_prefix.1 h).length_le
    have h2 : (p.length : Int) ≤ (s.length : Int) := by omega
    simp [h2]

theorem word_eq (s p : Str) (o : Bool) : date_scan_word.f s o p = some (if p.isPrefixOf s then (s.drop p.length, o) else (s, true)) := by
  unfold date_scan_word.f
  rw [cutPrefix_eq, Option.bind_some]
  cases h : p.isPrefixOf s <;> cases o <;> simp

/-! ### digits -/

def dig (n : Int) : UInt8 := u8 (48 + n)
def dig2 (n : Int) : Str := [dig (n / 10), dig (n % 10)]
def dig4 (n : Int) : Str := [dig (n / 1000), dig (n / 100 % 10), dig (n / 10 % 10), dig (n % 10)]

theorem dig_toNat {n : Int} (h0 : 0 ≤ n) (h : n ≤ 9) : ((dig n).toNat : Int) = 48 + n := by
  unfold dig u8
  rw [UInt8.toNat_ofNat_of_lt' (by show (48 + n).toNat < 256; omega)]
  omega

theorem digits_step (k : Nat) (p1 : Int) (v : List UInt8) (n i : Int) (hp : 0 ≤ p1) (hp2 : p1 ≤ 100) (hi : 0 ≤ i) (hlt : i < p1) (hv : (v.length : Int) = p1) (hn : 0 ≤ n) (hn2 : n ≤ 1000000) :
    date_digits.l0 (k + 1) p1 v n i = date_digits.l0 k p1 (v.set (p1 - 1 - i).toNat (dig (n % 10))) (n / 10) (i + 1) := by
  rw [date_digits.l0, if_pos (by simp; omega), w64_id (n := p1 - 1) (by omega) (by omega), w64_id (n := p1 - 1 - i) (by omega) (by omega), if_pos (by omega), if_pos (by omega), tmod_pos hn, tdiv_pos hn, w64_id (n := 48 + n % 10) (by omega) (by omega), w8_id (by omega) (by omega), w64_id (n := n / 10) (by omega) (by omega), w64_id (n := i + 1) (by omega) (by omega)]
  rfl

theorem digits_end (k : Nat) (p1 : Int) (v : List UInt8) (n i : Int) (hlt : ¬ i < p1) (hp : 0 ≤ p1) : date_digits.l0 (k + 1) p1 v n i = some v := by
  rw [date_digits.l0, if_neg]
  simp; omega

theorem digits2_eq (K : Nat) (hK : 100 ≤ K) (n : Int) (h0 : 0 ≤ n) (h : n < 100) : date_digits.f K n 2 = some (dig2 n) := by
  obtain ⟨k, rfl⟩ : ∃ k, K = k + 1 + 1 + 1 := ⟨K - 3, by omega⟩
  unfold date_digits.f
  rw [if_pos (by decide), if_pos (by decide), digits_step _ 2 _ n 0 (by decide) (by decide) (by decide) (by decide) (by decide) (by omega) (by omega), digits_step _ 2 _ _ _ (by decide) (by decide) (by decide) (by decide) (by simp) (by omega) (by omega), digits_end _ _ _ _ _ (by decide) (by decide), Option.bind_some]
  have e : n / 10 % 10 = n / 10 := by omega
  rw [e]
  rfl

theorem digits4_eq (K : Nat) (hK : 100 ≤ K) (n : Int) (h0 : 0 ≤ n) (h : n < 10000) : date_digits.f K n 4 = some (dig4 n) := by
  obtain ⟨k, rfl⟩ : ∃ k, K = k + 1 + 1 + 1 + 1 + 1 := ⟨K - 5, by omega⟩
  unfold date_digits.f
  rw [if_pos (by decide), if_pos (by decide), digits_step _ 4 _ n 0 (by decide) (by decide) (by decide) (by decide) (by decide) (by omega) (by omega), digits_step _ 4 _ _ _ (by decide) (by decide) (by decide) (by decide) (by simp) (by omega) (by omega),
    digits_step _ 4 _ _ _ (by decide) (by decide) (by decide) (by decide) (by simp) (by omega) (by omega), digits_step _ 4 _ _ _ (by decide) (by decide) (by decide) (by decide) (by simp) (by omega) (by omega), digits_end _ _ _ _ _ (by decide) (by decide), Option.bind_some]
  have e : n / 10 / 10 = n / 100 := by omega
  have e2 : n / 100 / 10 % 10 = n / 1000 := by omega
  rw [e, e2]
  rfl

theorem number_step (k : Nat) (p1 p2 : Int) (s : Str) (o : Bool) (v i : Int) (hi : 0 ≤ i) (hlt : i < p1) (hs : i < s.length) (hlen : (s.length : Int) ≤ 4294967296) (hb0 : 48 ≤ bt s i) (hb1 : bt s i ≤ 57) (hv : 0 ≤ v) (hv2 : v ≤ 1000000) :
    date_scan_number.l0 (k + 1) p1 p2 s o v i = date_scan_number.l0 k p1 p2 s o (10 * v + (bt s i - 48)) (i + 1) := by
  have hd : decide (bt s i > 57) = false := by simp; omega
  rw [date_scan_number.l0, if_pos hlt, if_neg (by omega), if_pos hi, if_pos hs, if_neg (by omega), hd, Option.bind_some, if_neg (by simp), if_pos hi, if_pos hs, w8_id (by omega) (by omega), w64_id (n := 10 * v) (by omega) (by omega), w64_id (n := bt s i - 48) (by omega) (by omega), w64_id (n := 10 * v + (bt s i - 48)) (by omega) (by omega), w64_id (n := i + 1) (by omega) (by omega)]

theorem number_end (k : Nat) (p1 p2 : Int) (s : Str) (o : Bool) (v i : Int) (hlt : ¬ i < p1) : date_scan_number.l0 (k + 1) p1 p2 s o v i = some (.inl (s, o, v)) := by
  rw [date_scan_number.l0, if_neg hlt]

theorem bt0 (a : UInt8) (r : Str) : bt (a :: r) 0 = a.toNat := rfl
theorem bt1 (a b : UInt8) (r : Str) : bt (a :: b :: r) 1 = b.toNat := rfl
theorem bt2 (a b c : UInt8) (r : Str) : bt (a :: b :: c :: r) 2 = c.toNat := rfl
theorem bt3 (a b c d : UInt8) (r : Str) : bt (a :: b :: c :: d :: r) 3 = d.toNat := rfl

theorem number2_eq (K : Nat) (hK : 100 ≤ K) (n most : Int) (h0 : 0 ≤ n) (h : n < 100) (hm : n ≤ most) (r : Str) (hr : r.length ≤ 100000) : date_scan_number.f K (dig2 n ++ r) false 2 most = some (n, r, false) := by
  obtain ⟨k, rfl⟩ : ∃ k, K = k + 1 + 1 + 1 := ⟨K - 3, by omega⟩
  have h1 := dig_toNat (n := n / 10) (by omega) (by omega)
  have h2 := dig_toNat (n := n % 10) (by omega) (by omega)
  have hs : dig2 n ++ r = dig (n / 10) :: dig (n % 10) :: r := rfl
  unfold date_scan_number.f
  rw [hs]
  have hl : ((dig (n / 10) :: dig (n % 10) :: r).length : Int) = r.length + 2 := by simp; omega
  rw [number_step _ _ _ _ _ _ _ (by decide) (by decide) (by rw [hl]; omega) (by rw [hl]; omega) (by rw [bt0]; omega) (by rw [bt0]; omega) (by decide) (by decide), bt0,
    number_step _ _ _ _ _ _ _ (by decide) (by decide) (by rw [hl]; omega) (by rw [hl]; omega) (by rw [show (0 : Int) + 1 = 1 from rfl, bt1]; omega) (by rw [show (0 : Int) + 1 = 1 from rfl, bt1]; omega) (by omega) (by omega), number_end _ _ _ _ _ _ _ (by decide), Option.bind_some]
  rw [show (0 : Int) + 1 = 1 from rfl, bt1, h1, h2]
  have e : 10 * (10 * 0 + (48 + n / 10 - 48)) + (48 + n % 10 - 48) = n := by omega
  simp only [e, if_pos (show (0 : Int) ≤ 2 by decide)]
  rw [if_pos (by rw [hl]; omega)]
  have hd : decide (n > most) = false := by simp; omega
  rw [hd]
  rfl

theorem number4_eq (K : Nat) (hK : 100 ≤ K) (n most : Int) (h0 : 0 ≤ n) (h : n < 10000) (hm : n ≤ most) (r : Str) (hr : r.length ≤ 100000) : date_scan_number.f K (dig4 n ++ r) false 4 most = some (n, r, false) := by
  obtain ⟨k, rfl⟩ : ∃ k, K = k + 1 + 1 + 1 + 1 + 1 := ⟨K - 5, by omega⟩
  have h1 := dig_toNat (n := n / 1000) (by omega) (by omega)
  have h2 := dig_toNat (n := n / 100 % 10) (by omega) (by omega)
  have h3 := dig_toNat (n := n / 10 % 10) (by omega) (by omega)
  have h4 := dig_toNat (n := n % 10) (by omega) (by omega)
  have hs : dig4 n ++ r = dig (n / 1000) :: dig (n / 100 % 10) :: dig (n / 10 % 10) :: dig (n % 10) :: r := rfl
  unfold date_scan_number.f
  rw [hs]
  have hl : ((dig (n / 1000) :: dig (n / 100 % 10) :: dig (n / 10 % 10) :: dig (n % 10) :: r).length : Int) = r.length + 4 := by simp; omega
  rw [number_step _ _ _ _ _ _ _ (by decide) (by decide) (by rw [hl]; omega) (by rw [hl]; omega) (by rw [bt0]; omega) (by rw [bt0]; omega) (by decide) (by decide), bt0,
    number_step _ _ _ _ _ _ _ (by decide) (by decide) (by rw [hl]; omega) (by rw [hl]; omega) (by rw [show (0 : Int) + 1 = 1 from rfl, bt1]; omega) (by rw [show (0 : Int) + 1 = 1 from rfl, bt1]; omega) (by omega) (by omega), show (0 : Int) + 1 = 1 from rfl, bt1,
    number_step _ _ _ _ _ _ _ (by decide) (by decide) (by rw [hl]; omega) (by rw [hl]; omega) (by rw [show (1 : Int) + 1 = 2 from rfl, bt2]; omega) (by rw [show (1 : Int) + 1 = 2 from rfl, bt2]; omega) (by omega) (by omega), show (1 : Int) + 1 = 2 from rfl, bt2,
    number_step _ _ _ _ _ _ _ (by decide) (by decide) (by rw [hl]; omega) (by rw [hl]; omega) (by rw [show (2 : Int) + 1 = 3 from rfl, bt3]; omega) (by rw [show (2 : Int) + 1 = 3 from rfl, bt3]; omega) (by omega) (by omega), show (2 : Int) + 1 = 3 from rfl, bt3,
    number_end _ _ _ _ _ _ _ (by decide), Option.bind_some]
  rw [h1, h2, h3, h4]
  have e : 10 * (10 * (10 * (10 * 0 + (48 + n / 1000 - 48)) + (48 + n / 100 % 10 - 48)) + (48 + n / 10 % 10 - 48)) + (48 + n % 10 - 48) = n := by omega
  simp only [e, if_pos (show (0 : Int) ≤ 4 by decide)]
  rw [if_pos (by rw [hl]; omega)]
  have hd : decide (n > most) = false := by simp; omega
  rw [hd]
  rfl

/-! ### the names of months and weekdays -/

def MON : Nat → Str
  | 1 => [74, 97, 110] | 2 => [70, 101, 98] | 3 => [77, 97, 114] | 4 => [65, 112, 114] | 5 => [77, 97, 121] | 6 => [74, 117, 110]
  | 7 => [74, 117, 108] | 8 => [65, 117, 103] | 9 => [83, 101, 112] | 10 => [79, 99, 116] | 11 => [78, 111, 118] | _ => [68, 101, 99]

theorem month_eq (K : Nat) (hK : 100 ≤ K) (m : Nat) (h1 : 1 ≤ m) (h2 : m ≤ 12) (r : Str) : date_scan_month.f K (MON m ++ r) false = some ((m : Int), r, false) := by
  obtain ⟨k, rfl⟩ : ∃ k, K = k + 1 + 1 + 1 + 1 + 1 + 1 + 1 + 1 + 1 + 1 + 1 + 1 + 1 := ⟨K - 13, by omega⟩
  have hm : m = 1 ∨ m = 2 ∨ m = 3 ∨ m = 4 ∨ m = 5 ∨ m = 6 ∨ m = 7 ∨ m = 8 ∨ m = 9 ∨ m = 10 ∨ m = 11 ∨ m = 12 := by omega
  unfold date_scan_month.f date_names.f
  rcases hm with rfl | rfl | rfl | rfl | rfl | rfl | rfl | rfl | rfl | rfl | rfl | rfl <;>
    simp [date_scan_month.l0, sHasPrefix_eq, word_eq, MON, Ev.get, w64_id, List.cons_prefix_cons]

end Go.Proofs.YtifocgljpfaekaaDoor
