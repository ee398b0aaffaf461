/- Plain laws: numbers, days, dates: what is printed is parsed. -/
import Derived.Test.YtifocgljpfaekaaDoorF4
set_option maxRecDepth 100000
namespace Go.Proofs.YtifocgljpfaekaaDoor
open Go.Ev Go.Proofs.Tryd

theorem w64_id {n : Int} (h0 : -9223372036854775808 ≤ n) (h1 : n ≤ 9223372036854775807) : w64 n = n := by
  have hb : (2 ^ IntKind.i64.bits : Int) = 18446744073709551616 := by decide
  have hb' : (2 ^ (IntKind.i64.bits - 1) : Int) = 9223372036854775808 := by decide
  have hs : IntKind.i64.signed = true := by decide
  show IntKind.i64.wrap n = n
  unfold IntKind.wrap
  simp only [hb, hb', hs, Bool.true_and, decide_eq_true_eq]
  split <;> omega

theorem w8_id {n : Int} (h0 : 0 ≤ n) (h1 : n < 256) : w8 n = n := by
  have hb : (2 ^ IntKind.u8.bits : Int) = 256 := by decide
  have hs : IntKind.u8.signed = false := by decide
  show IntKind.u8.wrap n = n
  unfold IntKind.wrap
  simp only [hb, hs, Bool.false_and, Bool.false_eq_true, if_false]
  omega

theorem tdiv_pos {a b : Int} (h : 0 ≤ a) : a.tdiv b = a / b := Int.tdiv_eq_ediv_of_nonneg h
theorem tmod_pos {a b : Int} (h : 0 ≤ a) : a.tmod b = a % b := Int.tmod_eq_emod_of_nonneg h

/-! ### years and months -/

def AH (y : Int) : Int := 365 * y + (y - 1) / 4 - (y - 1) / 100 + (y - 1) / 400
def LEAP (y : Int) : Bool := y % 4 == 0 && (y % 100 != 0 || y % 400 == 0)
def LONG (y m : Int) : Int := if m = 2 then (if LEAP y then 29 else 28) else if m = 4 ∨ m = 6 ∨ m = 9 ∨ m = 11 then 30 else 31

theorem ahead_eq {y : Int} (h : 1 ≤ y) (h2 : y ≤ 20000) : date_ahead.f y = some (AH y) := by
  unfold date_ahead.f AH
  have e1 : w64 (y - 1) = y - 1 := w64_id (by omega) (by omega)
  rw [e1, tdiv_pos (by omega), tdiv_pos (by omega), tdiv_pos (by omega), w64_id (n := 365 * y) (by omega) (by omega), w64_id (n := (y - 1) / 4) (by omega) (by omega), w64_id (n := (y - 1) / 100) (by omega) (by omega), w64_id (n := (y - 1) / 400) (by omega) (by omega)]
  rw [w64_id (n := 365 * y + (y - 1) / 4) (by omega) (by omega), w64_id (n := 365 * y + (y - 1) / 4 - (y - 1) / 100) (by omega) (by omega), w64_id (by omega) (by omega)]

theorem leap_eq {y : Int} (h : 0 ≤ y) : date_leap.f y = some (LEAP y) := by
  unfold date_leap.f LEAP
  rw [tmod_pos h, tmod_pos h, tmod_pos h]

theorem long_eq {y m : Int} (h : 0 ≤ y) : date_long.f y m = some (LONG y m) := by
  unfold date_long.f LONG
  rw [leap_eq h]
  by_cases h2 : m = 2
  · subst h2
    cases LEAP y <;> rfl
  · have e2 : (m == 2) = false := by simpa using h2
    simp only [e2, Bool.false_eq_true, if_false, Option.bind_some, h2]
    by_cases h4 : m = 4 ∨ m = 6 ∨ m = 9 ∨ m = 11
    · have : ((m == 4) || ((m == 6) || ((m == 9) || (m == 11)))) = true := by simpa using h4
      simp [this, h4]
    · have : ((m == 4) || ((m == 6) || ((m == 9) || (m == 11)))) = false := by simpa using h4
      simp [this, h4]

theorem AH_succ (y : Int) : AH (y + 1) = AH y + 365 + (if LEAP y then 1 else 0) := by
  unfold AH LEAP
  have e : y + 1 - 1 = y := by omega
  rw [e]
  have h4 : y / 4 = (y - 1) / 4 + (if y % 4 = 0 then 1 else 0) := by split <;> omega
  have h100 : y / 100 = (y - 1) / 100 + (if y % 100 = 0 then 1 else 0) := by split <;> omega
  have h400 : y / 400 = (y - 1) / 400 + (if y % 400 = 0 then 1 else 0) := by split <;> omega
  rw [h4, h100, h400]
  by_cases a : y % 4 = 0 <;> by_cases b : y % 100 = 0 <;> by_cases c : y % 400 = 0 <;> simp [a, b, c] <;> omega

/-- The days of a year ahead of a month. -/
def CUM (y : Int) : Nat → Int
  | 0 => 0
  | m + 1 => CUM y m + (if m = 0 then 0 else LONG y (m : Int))

theorem CUM_13 (y : Int) : CUM y 13 = 365 + (if LEAP y then 1 else 0) := by
  cases h : LEAP y <;> simp [CUM, LONG, h]

theorem long_lo (y m : Int) : 28 ≤ LONG y m := by unfold LONG; split <;> split <;> omega
theorem long_hi (y m : Int) : LONG y m ≤ 31 := by unfold LONG; split <;> split <;> omega
theorem cum_hi (y : Int) : ∀ m, CUM y m ≤ 31 * m
  | 0 => by simp [CUM]
  | m + 1 => by
    have := cum_hi y m
    have := long_hi y m
    simp only [CUM]
    split <;> omega
theorem cum_lo (y : Int) : ∀ m, 0 ≤ CUM y m
  | 0 => by simp [CUM]
  | m + 1 => by
    have := cum_lo y m
    have := long_lo y m
    simp only [CUM]
    split <;> omega

theorem months_eq (y : Int) (hy : 0 ≤ y) : ∀ (j m k : Nat) (rem : Int), m + j = 12 → 1 ≤ m → j + 1 ≤ k → 0 ≤ rem → rem ≤ 400 → rem + CUM y m < CUM y 13 →
    ∃ (rem' : Int) (m' : Nat), date_of.l1 k y rem m = some (rem', (m' : Int)) ∧ 1 ≤ m' ∧ m' ≤ 12 ∧ 0 ≤ rem' ∧ rem' < LONG y m' ∧ rem' + CUM y m' = rem + CUM y m := by
  intro j
  induction j with
  | zero =>
    intro m k rem hm h1 hk h0 h400 hlt
    obtain ⟨k, rfl⟩ : ∃ i, k = i + 1 := ⟨k - 1, by omega⟩
    obtain rfl : m = 12 := by omega
    have : ¬ rem ≥ LONG y ((12 : Nat) : Int) := by
      have e : CUM y 13 = CUM y 12 + LONG y ((12 : Nat) : Int) := by simp [CUM]
      omega
    refine ⟨rem, 12, ?_, by omega, by omega, h0, by omega, rfl⟩
    rw [date_of.l1, long_eq hy, Option.bind_some, if_neg this]
  | succ j ih =>
    intro m k rem hm h1 hk h0 h400 hlt
    obtain ⟨k, rfl⟩ : ∃ i, k = i + 1 := ⟨k - 1, by omega⟩
    rw [date_of.l1, long_eq hy, Option.bind_some]
    by_cases h : rem ≥ LONG y (m : Int)
    · have e : CUM y (m + 1) = CUM y m + LONG y (m : Int) := by simp only [CUM]; rw [if_neg (by omega)]
      have hl := long_lo y m
      obtain ⟨rem', m', h2, h3⟩ := ih (m + 1) k (rem - LONG y m) (by omega) (by omega) (by omega) (by omega) (by omega) (by omega)
      refine ⟨rem', m', ?_, h3.1, h3.2.1, h3.2.2.1, h3.2.2.2.1, by omega⟩
      rw [if_pos h, Option.bind_some, w64_id (n := rem - LONG y m) (by omega) (by omega), w64_id (n := (m : Int) + 1) (by omega) (by omega)]
      simpa using h2
    · refine ⟨rem, m, ?_, h1, by omega, h0, by omega, rfl⟩
      rw [if_neg h]

theorem years_eq (days : Int) (h0 : 0 ≤ days) (hlt : days < AH 10000 - AH 1970) : ∀ (j k : Nat) (y : Int), y + j = 9999 → 1970 ≤ y → j + 1 ≤ k → AH y - AH 1970 ≤ days →
    ∃ y', date_of.l0 k days y = some y' ∧ 1970 ≤ y' ∧ y' ≤ 9999 ∧ AH y' - AH 1970 ≤ days ∧ days < AH (y' + 1) - AH 1970 := by
  have e70 : AH 1970 = 719527 := by decide
  have e10 : AH 10000 = 3652424 := by decide
  intro j
  induction j with
  | zero =>
    intro k y hy h1 hk h
    obtain ⟨k, rfl⟩ : ∃ i, k = i + 1 := ⟨k - 1, by omega⟩
    obtain rfl : y = 9999 := by omega
    refine ⟨9999, ?_, by omega, by omega, h, by simpa using hlt⟩
    rw [date_of.l0, w64_id (n := 9999 + 1) (by omega) (by omega), ahead_eq (by omega) (by omega), ahead_eq (by omega) (by omega), Option.bind_some, Option.bind_some]
    rw [if_neg]
    rw [show (9999 : Int) + 1 = 10000 by omega, e70, e10, w64_id (by omega) (by omega)]
    omega
  | succ j ih =>
    intro k y hy h1 hk h
    obtain ⟨k, rfl⟩ : ∃ i, k = i + 1 := ⟨k - 1, by omega⟩
    have hb : 0 ≤ AH (y + 1) ∧ AH (y + 1) ≤ 4000000 := by unfold AH; omega
    rw [date_of.l0, w64_id (n := y + 1) (by omega) (by omega), ahead_eq (by omega) (by omega), ahead_eq (by omega) (by omega), Option.bind_some, Option.bind_some]
    rw [w64_id (n := AH (y + 1) - AH 1970) (by omega) (by omega)]
    by_cases hc : AH (y + 1) - AH 1970 ≤ days
    · obtain ⟨y', h2, h3⟩ := ih k (y + 1) (by omega) (by omega) (by omega) hc
      exact ⟨y', by rw [if_pos hc]; exact h2, h3⟩
    · exact ⟨y, by rw [if_neg hc], h1, by omega, h, by omega⟩

/-- The day of a number. -/
theorem of_eq (K : Nat) (hK : 100000 ≤ K) (days : Int) (h0 : 0 ≤ days) (hlt : days < AH 10000 - AH 1970) :
    ∃ (y : Int) (m : Nat) (d : Int), date_of.f K days = some (y, (m : Int), d) ∧ 1970 ≤ y ∧ y ≤ 9999 ∧ 1 ≤ m ∧ m ≤ 12 ∧ 1 ≤ d ∧ d ≤ LONG y m ∧ AH y - AH 1970 + CUM y m + d - 1 = days := by
  have e70 : AH 1970 = 719527 := by decide
  have e10 : AH 10000 = 3652424 := by decide
  have hs : w64 (1970 + w64 (days.tdiv 366)) = 1970 + days / 366 := by
    rw [tdiv_pos h0, w64_id (n := days / 366) (by omega) (by omega), w64_id (by omega) (by omega)]
  have hA : AH (1970 + days / 366) - AH 1970 ≤ days := by
    rw [e70]; unfold AH; omega
  obtain ⟨y, h1, hy1, hy2, hy3, hy4⟩ := years_eq days h0 hlt (9999 - (1970 + days / 366)).toNat K (1970 + days / 366) (by omega) (by omega) (by omega) hA
  have hbig : 0 ≤ AH y ∧ AH y ≤ 4000000 := by unfold AH; omega
  have hsucc := AH_succ y
  have hc13 := CUM_13 y
  have hle : (if LEAP y then (1 : Int) else 0) ≤ 1 := by split <;> omega
  obtain ⟨rem, m, h2, hm1, hm2, hr0, hr1, hr2⟩ := months_eq y (by omega) 11 1 K (days - (AH y - AH 1970)) (by omega) (by omega) (by omega) (by omega) (by omega) (by
    have : CUM y 1 = 0 := by simp [CUM]
    omega)
  have hlh := long_hi y m
  refine ⟨y, m, rem + 1, ?_, hy1, hy2, hm1, hm2, by omega, by omega, by
    have : CUM y 1 = 0 := by simp [CUM]
    omega⟩
  unfold date_of.f
  rw [hs, h1, Option.bind_some, ahead_eq (by omega) (by omega), Option.bind_some, ahead_eq (by omega) (by omega), Option.bind_some, w64_id (n := AH y - AH 1970) (by omega) (by omega), w64_id (n := days - (AH y - AH 1970)) (by omega) (by omega)]
  rw [show ((1 : Nat) : Int) = 1 from rfl] at h2
  rw [h2, Option.bind_some, w64_id (by omega) (by omega)]

theorem sums_eq (y : Int) (hy : 0 ≤ y) (month : Nat) (hm : month ≤ 12) : ∀ (j m k : Nat) (n : Int), m + j = month → 1 ≤ m → j + 1 ≤ k → 0 ≤ n → n ≤ 100000000 + 31 * m → date_Days.l0 k y month n m = some (n + CUM y month - CUM y m) := by
  intro j
  induction j with
  | zero =>
    intro m k n hmj h1 hk h0 hn
    obtain ⟨k, rfl⟩ : ∃ i, k = i + 1 := ⟨k - 1, by omega⟩
    obtain rfl : m = month := by omega
    rw [date_Days.l0, if_neg (by omega)]
    congr 1; omega
  | succ j ih =>
    intro m k n hmj h1 hk h0 hn
    obtain ⟨k, rfl⟩ : ∃ i, k = i + 1 := ⟨k - 1, by omega⟩
    have hl := long_lo y m
    have hh := long_hi y m
    have e : CUM y (m + 1) = CUM y m + LONG y (m : Int) := by simp only [CUM]; rw [if_neg (by omega)]
    rw [date_Days.l0, if_pos (by omega), long_eq hy, Option.bind_some, w64_id (n := n + LONG y m) (by omega) (by omega), w64_id (n := (m : Int) + 1) (by omega) (by omega)]
    have := ih (m + 1) k (n + LONG y m) (by omega) (by omega) (by omega) (by omega)
    rw [show ((m + 1 : Nat) : Int) = (m : Int) + 1 by omega] at this
    rw [this (by omega)]
    congr 1; omega

end Go.Proofs.YtifocgljpfaekaaDoor
