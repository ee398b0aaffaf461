/- Plain laws: a date's text; it is read as it was written. -/
import Derived.Test.YtifocgljpfaekaaDoorLB
set_option maxRecDepth 100000
namespace Go.Proofs.YtifocgljpfaekaaDoor
open Go.Ev Go.Proofs.Tryd

theorem word_take (p r : Str) (o : Bool) : date_scan_word.f (p ++ r) o p = some (r, o) := by
  rw [word_eq]
  have : p.isPrefixOf (p ++ r) = true := List.isPrefixOf_iff_prefix.2 (List.prefix_append p r)
  simp

def WD : Nat → Str
  | 0 => [83, 117, 110] | 1 => [77, 111, 110] | 2 => [84, 117, 101] | 3 => [87, 101, 100] | 4 => [84, 104, 117] | 5 => [70, 114, 105] | _ => [83, 97, 116]

/-- A clock's text. -/
def CLOCK (h mi s : Int) : Str := dig2 h ++ ([58] ++ (dig2 mi ++ ([58] ++ dig2 s)))
/-- A date's text behind its weekday. -/
def REST (y : Int) (m : Nat) (d h mi s : Int) : Str := [44, 32] ++ (dig2 d ++ ([32] ++ (MON m ++ ([32] ++ (dig4 y ++ ([32] ++ (CLOCK h mi s ++ [32, 71, 77, 84])))))))

theorem MON_len (m : Nat) : (MON m).length = 3 := by unfold MON; split <;> rfl
theorem WD_len (m : Nat) : (WD m).length = 3 := by unfold WD; split <;> rfl
theorem dig2_len (n : Int) : (dig2 n).length = 2 := rfl
theorem dig4_len (n : Int) : (dig4 n).length = 4 := rfl

theorem clock_eq (K : Nat) (hK : 100 ≤ K) (h mi s : Int) (h0 : 0 ≤ h) (h1 : h ≤ 23) (m0 : 0 ≤ mi) (m1 : mi ≤ 59) (s0 : 0 ≤ s) (s1 : s ≤ 59) (r : Str) (hr : r.length ≤ 1000) :
    date_scan_clock.f K (CLOCK h mi s ++ r) false = some (h * 3600 + mi * 60 + s, r, false) := by
  unfold date_scan_clock.f CLOCK
  simp only [List.append_assoc]
  rw [number2_eq K hK h 23 h0 (by omega) h1 _ (by simp only [List.length_append, dig2_len, List.length_cons, List.length_nil]; omega), Option.bind_some, word_take, Option.bind_some,
    number2_eq K hK mi 59 m0 (by omega) m1 _ (by simp only [List.length_append, dig2_len, List.length_cons, List.length_nil]; omega), Option.bind_some, word_take, Option.bind_some,
    number2_eq K hK s 59 s0 (by omega) s1 _ (by omega), Option.bind_some]
  simp only []
  rw [w64_id (n := h * 3600) (by omega) (by omega), w64_id (n := mi * 60) (by omega) (by omega), w64_id (n := h * 3600 + mi * 60) (by omega) (by omega), w64_id (by omega) (by omega)]

theorem first_eq (K : Nat) (hK : 100 ≤ K) (y : Int) (m : Nat) (d h mi s : Int) (y0 : 0 ≤ y) (y1 : y ≤ 9999) (hm1 : 1 ≤ m) (hm2 : m ≤ 12) (d0 : 0 ≤ d) (d1 : d ≤ 31) (h0 : 0 ≤ h) (h1 : h ≤ 23) (m0 : 0 ≤ mi) (m1 : mi ≤ 59) (s0 : 0 ≤ s) (s1 : s ≤ 59) :
    date_first.f K (REST y m d h mi s) false = some (y, (m : Int), d, h * 3600 + mi * 60 + s, [], false) := by
  have hc : (CLOCK h mi s).length = 8 := rfl
  have hM := MON_len m
  unfold date_first.f REST
  rw [word_take, Option.bind_some, number2_eq K hK d 31 d0 (by omega) d1 _ (by simp only [List.length_append, dig2_len, dig4_len, hc, hM, List.length_cons, List.length_nil]; omega), Option.bind_some, word_take, Option.bind_some,
    month_eq K hK m hm1 hm2, Option.bind_some, word_take, Option.bind_some, number4_eq K hK y 9999 y0 (by omega) y1 _ (by simp only [List.length_append, hc, List.length_cons, List.length_nil]; omega), Option.bind_some, word_take, Option.bind_some,
    clock_eq K hK h mi s h0 h1 m0 m1 s0 s1 _ (by decide), Option.bind_some]
  have := word_take [32, 71, 77, 84] [] false
  rw [List.append_nil] at this
  simp only [this, Option.bind_some]

theorem weekday_eq (n : Int) (h0 : 0 ≤ n) (h1 : n ≤ 100000000) : date_Weekday.f n = some ((n % 7 + 4) % 7) := by
  unfold date_Weekday.f
  rw [if_neg (by omega), tmod_pos h0, w64_id (by omega) (by omega), tmod_pos (by omega)]

theorem parse_eq (K : Nat) (hK : 100 ≤ K) (R : Str) (y m d secs n : Int) (i : Nat) (hi : i < 7) (hf : date_first.f K R false = some (y, m, d, secs, [], false)) (hd : date_Days.f K y m d = some (n, 0)) (hw : date_Weekday.f n = some (i : Int))
    (hn0 : 0 ≤ n) (hn1 : n ≤ 100000000) (hs0 : 0 ≤ secs) (hs1 : secs ≤ 1000000) : date_Parse.f K (WD i ++ R) = some (n * 86400 + secs, 0) := by
  have hl : ∀ k, K = k + 1 + 1 + 1 + 1 + 1 + 1 + 1 + 1 → ∃ t, date_weekdays.f = some t ∧ date_Parse.l0 K K (WD i ++ R) t 0 = some (.inr (n * 86400 + secs, 0)) := by
    intro k hk
    refine ⟨_, rfl, ?_⟩
    rw [show date_Parse.l0 K K = date_Parse.l0 K (k + 1 + 1 + 1 + 1 + 1 + 1 + 1 + 1) by rw [← hk]]
    have hi' : i = 0 ∨ i = 1 ∨ i = 2 ∨ i = 3 ∨ i = 4 ∨ i = 5 ∨ i = 6 := by omega
    have e1 : w64 (n * 86400) = n * 86400 := w64_id (by omega) (by omega)
    have e2 : w64 (n * 86400 + secs) = n * 86400 + secs := w64_id (by omega) (by omega)
    rcases hi' with rfl | rfl | rfl | rfl | rfl | rfl | rfl <;>
      simp [date_Parse.l0, word_eq, WD, Ev.get, w64_id, List.cons_prefix_cons, hf, hd, hw, e1, e2]
  obtain ⟨k, hk⟩ : ∃ k, K = k + 1 + 1 + 1 + 1 + 1 + 1 + 1 + 1 := ⟨K - 8, by omega⟩
  obtain ⟨t, h1, h2⟩ := hl k hk
  unfold date_Parse.f
  rw [h1, Option.bind_some, h2]
  rfl

/-- The days of a number of seconds. -/
theorem print_parse (K : Nat) (hK : 100000 ≤ K) (n : Int) (h0 : 0 ≤ n) (h1 : n < 253402300800) : ∃ s, date_Print.f K n = some (s, 0) ∧ date_Parse.f K s = some (n, 0) ∧ s.length = 29 := by
  have e70 : AH 1970 = 719527 := by decide
  have e10 : AH 10000 = 3652424 := by decide
  obtain ⟨y, m, d, ho, hy1, hy2, hm1, hm2, hd1, hd2, hsum⟩ := of_eq K hK (n / 86400) (by omega) (by omega)
  have hdh := long_hi y m
  have hday := days_eq K (by omega) y m d hy1 hy2 hm1 hm2 hd1 hd2
  rw [hsum] at hday
  have hwd := weekday_eq (n / 86400) (by omega) (by omega)
  obtain ⟨i, hi⟩ : ∃ i : Nat, (i : Int) = (n / 86400 % 7 + 4) % 7 := ⟨((n / 86400 % 7 + 4) % 7).toNat, by omega⟩
  rw [← hi] at hwd
  have hi7 : i < 7 := by omega
  refine ⟨WD i ++ REST y m d (n % 86400 / 3600) (n % 86400 / 60 % 60) (n % 86400 % 60), ?_, ?_, ?_⟩
  · unfold date_Print.f
    have hc : ((decide (n < 0)) || (decide (n ≥ 253402300800))) = false := by simp; omega
    rw [hc]
    simp only [Bool.false_eq_true, if_false]
    have ed : w64 (n.tdiv 86400) = n / 86400 := by rw [tdiv_pos h0, w64_id (by omega) (by omega)]
    have es : n.tmod 86400 = n % 86400 := tmod_pos h0
    rw [ed, es, ho, Option.bind_some, tdiv_pos (by omega), tdiv_pos (by omega), w64_id (n := n % 86400 / 3600) (by omega) (by omega), w64_id (n := n % 86400 / 60) (by omega) (by omega), tmod_pos (by omega), tmod_pos (by omega)]
    rw [digits2_eq K (by omega) _ (by omega) (by omega), digits2_eq K (by omega) _ (by omega) (by omega), digits2_eq K (by omega) _ (by omega) (by omega), digits2_eq K (by omega) d (by omega) (by omega), digits4_eq K (by omega) y (by omega) (by omega)]
    rw [show date_weekdays.f = some ([83, 117, 110, 100, 97, 121], [77, 111, 110, 100, 97, 121], [84, 117, 101, 115, 100, 97, 121], [87, 101, 100, 110, 101, 115, 100, 97, 121], [84, 104, 117, 114, 115, 100, 97, 121], [70, 114, 105, 100, 97, 121], [83, 97, 116, 117, 114, 100, 97, 121]) from rfl,
      show date_names.f = some ([74, 97, 110], [70, 101, 98], [77, 97, 114], [65, 112, 114], [77, 97, 121], [74, 117, 110], [74, 117, 108], [65, 117, 103], [83, 101, 112], [79, 99, 116], [78, 111, 118], [68, 101, 99]) from rfl, hwd]
    have ew : (Ev.get [[83, 117, 110, 100, 97, 121], [77, 111, 110, 100, 97, 121], [84, 117, 101, 115, 100, 97, 121], [87, 101, 100, 110, 101, 115, 100, 97, 121], [84, 104, 117, 114, 115, 100, 97, 121], [70, 114, 105, 100, 97, 121], [83, 97, 116, 117, 114, 100, 97, 121]] (i : Int)).take 3 = WD i ∧
        3 ≤ ((Ev.get ([[83, 117, 110, 100, 97, 121], [77, 111, 110, 100, 97, 121], [84, 117, 101, 115, 100, 97, 121], [87, 101, 100, 110, 101, 115, 100, 97, 121], [84, 104, 117, 114, 115, 100, 97, 121], [70, 114, 105, 100, 97, 121], [83, 97, 116, 117, 114, 100, 97, 121]] : List Str) (i : Int)).length : Int) := by
      have hi' : i = 0 ∨ i = 1 ∨ i = 2 ∨ i = 3 ∨ i = 4 ∨ i = 5 ∨ i = 6 := by omega
      rcases hi' with rfl | rfl | rfl | rfl | rfl | rfl | rfl <;> exact ⟨rfl, by decide⟩
    have em : w64 ((m : Int) - 1) = (m : Int) - 1 := w64_id (by omega) (by omega)
    have en : Ev.get [[74, 97, 110], [70, 101, 98], [77, 97, 114], [65, 112, 114], [77, 97, 121], [74, 117, 110], [74, 117, 108], [65, 117, 103], [83, 101, 112], [79, 99, 116], [78, 111, 118], [68, 101, 99]] ((m : Int) - 1) = MON m := by
      have hm' : m = 1 ∨ m = 2 ∨ m = 3 ∨ m = 4 ∨ m = 5 ∨ m = 6 ∨ m = 7 ∨ m = 8 ∨ m = 9 ∨ m = 10 ∨ m = 11 ∨ m = 12 := by omega
      rcases hm' with rfl | rfl | rfl | rfl | rfl | rfl | rfl | rfl | rfl | rfl | rfl | rfl <;> rfl
    have hi0 : (0 : Int) ≤ i ∧ (i : Int) < 7 := by omega
    have hm0 : (0 : Int) ≤ (m : Int) - 1 ∧ (m : Int) - 1 < 12 := by omega
    simp only [Option.bind_some, ew.1, ew.2, em, en, hi0.1, hi0.2, hm0.1, hm0.2, if_true, List.length_append, dig2_len, dig4_len, WD_len, MON_len, List.length_cons, List.length_nil, Nat.reduceAdd, maxI, Nat.reduceLeDiff]
    simp only [REST, CLOCK, List.append_assoc]
  · rw [parse_eq K (by omega) _ y m d (n % 86400 / 3600 * 3600 + n % 86400 / 60 % 60 * 60 + n % 86400 % 60) (n / 86400) i hi7 (first_eq K (by omega) y m d _ _ _ (by omega) (by omega) hm1 hm2 (by omega) (by omega) (by omega) (by omega) (by omega) (by omega) (by omega) (by omega)) hday hwd (by omega) (by omega) (by omega) (by omega)]
    congr 2; omega
  · have hc : (CLOCK (n % 86400 / 3600) (n % 86400 / 60 % 60) (n % 86400 % 60)).length = 8 := rfl
    simp only [REST, List.length_append, dig2_len, dig4_len, WD_len, MON_len, hc, List.length_cons, List.length_nil]

end Go.Proofs.YtifocgljpfaekaaDoor
