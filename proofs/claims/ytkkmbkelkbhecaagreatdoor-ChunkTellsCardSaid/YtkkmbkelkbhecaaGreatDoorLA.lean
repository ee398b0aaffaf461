/- Plain laws: words of strings, and the digits of a chunk's size. -/
import Derived.Test.YtkkmbkelkbhecaaGreatDoorLT
set_option maxRecDepth 1000000
namespace Go.Proofs.YtkkmbkelkbhecaaGreatDoor
open Go.Ev Go.Proofs.Tryz
abbrev KK : Nat := 2097152

theorem w64_id {n : Int} (h0 : -9223372036854775808 ≤ n) (h1 : n ≤ 9223372036854775807) : w64 n = n := by
  have hb : (2 ^ IntKind.i64.bits : Int) = 18446744073709551616 := by decide
  have hb' : (2 ^ (IntKind.i64.bits - 1) : Int) = 9223372036854775808 := by decide
  have hs : IntKind.i64.signed = true := by decide
  show IntKind.i64.wrap n = n
  unfold IntKind.wrap
  simp only [hb, hb', hs, Bool.true_and, decide_eq_true_eq]
  split <;> omega

theorem bt0 (a : UInt8) (r : Str) : bt (a :: r) 0 = a.toNat := rfl

theorem indexByte_at (T r : Str) (c : UInt8) (h : c ∉ T) : Lib.indexByte (T ++ c :: r) c = (T.length : Int) := by
  induction T with
  | nil => simp [Lib.indexByte]
  | cons x T ih =>
    have h1 : ¬ x = c := fun e => h (by simp [e])
    have h2 : c ∉ T := fun e => h (by simp [e])
    simp only [List.cons_append, Lib.indexByte, ih h2]
    have : ((T.length : Int) == -1) = false := by simp
    simp [h1, this]

theorem indexByte_none (T : Str) (c : UInt8) (h : c ∉ T) : Lib.indexByte T c = -1 := by
  induction T with
  | nil => simp [Lib.indexByte]
  | cons x T ih =>
    have h1 : ¬ x = c := fun e => h (by simp [e])
    have h2 : c ∉ T := fun e => h (by simp [e])
    simp [Lib.indexByte, ih h2, h1]

theorem index_one (s : Str) (c : UInt8) : stringslite_Index.f s [c] = some (Lib.indexByte s c) := by
  unfold stringslite_Index.f
  by_cases h : [c] = s
  · subst h
    simp [Lib.indexByte]
  · have : ((([c] : Str).length : Int) == 0 || ([c] == s)) = false := by simpa using h
    rw [if_neg (by rw [this]; decide), if_pos (by simp), if_pos (by simp)]
    unfold stringslite_IndexByte.f
    rw [Option.bind_some, bt0]
    have : ((c.toNat : Int).toNat.toUInt8) = c := by
      rw [Int.toNat_natCast]
      exact UInt8.ofNat_toNat
    rw [this]

theorem cut_at (T r : Str) (c : UInt8) (h : c ∉ T) (hl : T.length ≤ 4294967296) : strings_Cut.f (T ++ c :: r) [c] = some (T, r, true) := by
  unfold strings_Cut.f stringslite_Cut.f
  rw [index_one, indexByte_at T r c h, Option.bind_some]
  have h1 : w64 ((T.length : Int) + (([c] : Str).length : Int)) = (T.length : Int) + 1 := by rw [w64_id (by simp; omega) (by simp; omega)]; rfl
  rw [if_pos (by omega), if_pos (by omega), if_pos (by simp; omega), h1, if_pos (by omega), if_pos (by simp; omega), Option.bind_some]
  have e1 : (T.length : Int).toNat = T.length := by omega
  have e2 : ((T.length : Int) + 1).toNat = T.length + 1 := by omega
  rw [e1, e2, List.take_left, List.drop_append]
  simp

theorem cut_none (T : Str) (c : UInt8) (h : c ∉ T) : strings_Cut.f T [c] = some (T, [], false) := by
  unfold strings_Cut.f stringslite_Cut.f
  rw [index_one, indexByte_none T c h, Option.bind_some, if_neg (by omega), Option.bind_some]

theorem hasSuffix_at (T p : Str) (hT : T.length ≤ 4294967296) (hp : p.length ≤ 4294967296) : strings_HasSuffix.f (T ++ p) p = some true := by
  unfold strings_HasSuffix.f stringslite_HasSuffix.f
  have h1 : w64 (((T ++ p).length : Int) - (p.length : Int)) = (T.length : Int) := by
    rw [List.length_append, w64_id (by omega) (by omega)]; omega
  rw [h1, if_pos (by rw [List.length_append]; omega), if_pos (by omega), if_pos (by rw [List.length_append]; omega)]
  simp

theorem line_at (h R : Str) (hn : (10 : UInt8) ∉ h) (hl : h.length ≤ 1000) : chunk_line.f (h ++ ([13, 10] ++ R)) = some (h, R, 0) := by
  have e : h ++ ([13, 10] ++ R) = (h ++ [13]) ++ 10 :: R := by simp
  have hn' : (10 : UInt8) ∉ h ++ [13] := by simp [hn]
  unfold chunk_line.f
  rw [e, cut_at _ R 10 hn' (by simp; omega), Option.bind_some]
  simp only [Bool.not_true, Bool.false_and, Bool.false_eq_true, if_false]
  rw [hasSuffix_at h [13] (by omega) (by decide), Option.bind_some]
  have h1 : w64 (((h ++ [13]).length : Int) - 1) = (h.length : Int) := by
    rw [List.length_append, w64_id (by simp only [List.length_cons, List.length_nil]; omega) (by simp only [List.length_cons, List.length_nil]; omega)]; simp
  rw [h1]
  simp only [Bool.not_true, Bool.false_eq_true, if_false]
  rw [if_neg (by simp; omega), if_pos (by omega), if_pos (by rw [List.length_append]; omega)]
  simp

theorem line_short (s : Str) (hn : (10 : UInt8) ∉ s) (hl : s.length ≤ 2002) : chunk_line.f s = some ([], [], 3) := by
  unfold chunk_line.f
  rw [cut_none s 10 hn, Option.bind_some]
  have : decide ((s.length : Int) > 2002) = false := by simp; omega
  simp [this]

/-! ### the digits -/

def hx (n : Nat) : UInt8 := (if n < 10 then 48 + n else 87 + n).toUInt8
def hexs (n : Nat) : Str := if n < 16 then [hx n] else if n < 256 then [hx (n / 16), hx (n % 16)] else [hx (n / 256), hx (n / 16 % 16), hx (n % 16)]
def hexOk (n : Nat) : Bool := decide (strconv_FormatInt_16.f KK (n : Int) = some (hexs n)) && (decide (chunk_size.f KK (hexs n) = some ((n : Int), true)) && (!(hexs n).contains 10 && decide ((hexs n).length ≤ 3)))
theorem hex_small : (List.range 1001).all hexOk = true := by kernel_rfl
theorem awake_true : scullerylaw07_awake.f KK = some true := by kernel_rfl

theorem hex_of (n : Nat) (h : n ≤ 1000) : strconv_FormatInt_16.f KK (n : Int) = some (hexs n) ∧ chunk_size.f KK (hexs n) = some ((n : Int), true) ∧ (10 : UInt8) ∉ hexs n ∧ (hexs n).length ≤ 3 := by
  have := List.all_eq_true.1 hex_small n (List.mem_range.2 (by omega))
  unfold hexOk at this
  simp only [Bool.and_eq_true, decide_eq_true_eq, Bool.not_eq_true', List.contains_eq_mem, decide_eq_false_iff_not] at this
  exact this

end Go.Proofs.YtkkmbkelkbhecaaGreatDoor
