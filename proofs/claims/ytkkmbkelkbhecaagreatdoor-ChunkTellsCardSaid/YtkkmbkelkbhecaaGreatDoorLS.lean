/- Plain laws: the size that a chunk's line tells. -/
import Derived.Test.YtkkmbkelkbhecaaGreatDoorLL
set_option maxRecDepth 1000000
namespace Go.Proofs.YtkkmbkelkbhecaaGreatDoor
open Go.Ev Go.Proofs.Tryz

def HEX : Str := [48, 49, 50, 51, 52, 53, 54, 55, 56, 57, 97, 98, 99, 100, 101, 102, 65, 66, 67, 68, 69, 70]
def isHexN (n : Nat) : Bool := (decide (48 ≤ n) && decide (n ≤ 57)) || ((decide (97 ≤ n) && decide (n ≤ 102)) || (decide (65 ≤ n) && decide (n ≤ 70)))
def isHex (b : UInt8) : Bool := isHexN b.toNat
def hv (n : Nat) : Nat := if n ≤ 57 then n - 48 else if n ≤ 70 then n - 55 else n - 87
def digitN (n : Nat) : Bool := decide (48 ≤ n) && decide (n ≤ 57)

def hexFacts (n : Nat) : Bool :=
  (HEX.contains (UInt8.ofNat n) == isHexN n) &&
  (decide (sculleryref07_digit.f KK (n : Int) = some (if isHexN n then (hv n : Int) else -1)) &&
  (!isHexN n ||
    (decide (hv n < 16) && (n != 43 && (n != 45 &&
     (if digitN n then decide (w8 ((n : Int) - 48) = (hv n : Int))
      else ((decide (48 ≤ (n : Int)) && decide ((n : Int) ≤ 57)) == false) && decide (((strconv_lower.f (n : Int)).bind fun t37 => if 97 ≤ t37 then ((strconv_lower.f (n : Int)).bind fun t42 => some (decide (t42 ≤ 122))) else some false) = some true) &&
        decide (((strconv_lower.f (n : Int)).bind fun t47 => some (w8 ((w8 (t47 - 97)) + 10))) = some (hv n : Int))))))))
theorem hex_range : (List.range 256).all hexFacts = true := by kernel_rfl

theorem hex_mem (b : UInt8) : HEX.contains b = isHex b := by
  have := of_range hex_range b
  unfold hexFacts at this
  simp only [Bool.and_eq_true, beq_iff_eq] at this
  unfold isHex
  rw [← this.1]
  simp
theorem hex_digit (b : UInt8) : sculleryref07_digit.f KK (b.toNat : Int) = some (if isHex b then (hv b.toNat : Int) else -1) := by
  have := of_range hex_range b
  unfold hexFacts at this
  simp only [Bool.and_eq_true, decide_eq_true_eq] at this
  exact this.2.1
theorem hex_more (b : UInt8) (h : isHex b = true) : hv b.toNat < 16 ∧ b.toNat ≠ 43 ∧ b.toNat ≠ 45 ∧
    (if digitN b.toNat then w8 ((b.toNat : Int) - 48) = (hv b.toNat : Int)
      else ((decide (48 ≤ (b.toNat : Int)) && decide ((b.toNat : Int) ≤ 57)) = false) ∧ (((strconv_lower.f (b.toNat : Int)).bind fun t37 => if 97 ≤ t37 then ((strconv_lower.f (b.toNat : Int)).bind fun t42 => some (decide (t42 ≤ 122))) else some false) = some true) ∧
        ((strconv_lower.f (b.toNat : Int)).bind fun t47 => some (w8 ((w8 (t47 - 97)) + 10))) = some (hv b.toNat : Int)) := by
  have := of_range hex_range b
  unfold hexFacts at this
  unfold isHex at h
  rw [h] at this
  simp only [Bool.not_true, Bool.false_or, Bool.and_eq_true, decide_eq_true_eq, bne_iff_ne, ne_eq] at this
  refine ⟨this.2.2.1, this.2.2.2.1, this.2.2.2.2.1, ?_⟩
  have h5 := this.2.2.2.2.2
  split
  · rename_i hd
    rw [if_pos hd] at h5
    simpa using h5
  · rename_i hd
    rw [if_neg hd] at h5
    simp only [Bool.and_eq_true, decide_eq_true_eq, beq_iff_eq] at h5
    exact ⟨h5.1.1, h5.1.2, h5.2⟩

theorem u64_id {n : Int} (h0 : 0 ≤ n) (h1 : n < 18446744073709551616) : IntKind.u64.wrap n = n := by
  have hb : (2 ^ IntKind.u64.bits : Int) = 18446744073709551616 := by decide
  have hs : IntKind.u64.signed = false := by decide
  unfold IntKind.wrap
  simp only [hb, hs, Bool.false_and, Bool.false_eq_true, if_false]
  omega

/-- The value of digits. -/
def stepV (n : Nat) (b : UInt8) : Nat := 16 * n + hv b.toNat
def val (a : Str) : Nat := a.foldl stepV 0

theorem parse_step (k : Nat) (a : Str) (n i : Nat) (hi : i < a.length) (hb : isHex a[i] = true) (hn : n < 4294967296) (ha : a.length ≤ 1000) :
    strconv_ParseUint_16_64.l0 (k + 1) a false (n : Int) (i : Int) = strconv_ParseUint_16_64.l0 k a false (stepV n a[i] : Int) ((i + 1 : Nat) : Int) := by
  obtain ⟨h16, _, _, hm⟩ := hex_more a[i] hb
  have hw1 : IntKind.u64.wrap ((n : Int) * 16) = (n : Int) * 16 := u64_id (by omega) (by omega)
  have hw2 : IntKind.u64.wrap (hv a[i].toNat : Int) = (hv a[i].toNat : Int) := u64_id (by omega) (by omega)
  have hw3 : IntKind.u64.wrap ((n : Int) * 16 + (hv a[i].toNat : Int)) = (stepV n a[i] : Int) := by
    rw [u64_id (by omega) (by omega)]
    unfold stepV
    omega
  have hs : (stepV n a[i] : Int) = (n : Int) * 16 + (hv a[i].toNat : Int) := by unfold stepV; omega
  have hm15 : (if ((a[i].toNat : Int) == 95) = true then some () else some ()) = some () := by split <;> rfl
  rw [strconv_ParseUint_16_64.l0, if_pos (by omega), if_pos (by omega), bt_at a i hi, hm15, Option.bind_some]
  by_cases hd : digitN a[i].toNat = true
  · rw [if_pos hd] at hm
    have hc : (decide (48 ≤ (a[i].toNat : Int)) && decide ((a[i].toNat : Int) ≤ 57)) = true := by
      unfold digitN at hd
      simp only [Bool.and_eq_true, decide_eq_true_eq] at hd ⊢
      omega
    rw [if_pos hc, hm, if_neg (by omega), if_neg (by omega), hw1, hw2, hw3, if_neg (by simp only [Bool.or_eq_true, decide_eq_true_eq]; omega), w64_succ i (by omega)]
  · rw [if_neg hd] at hm
    rw [if_neg (by rw [hm.1]; decide)]
    have h1 := hm.2.1
    have h2 := hm.2.2
    unfold strconv_lower.f at h1 h2 ⊢
    rw [Option.bind_some] at h1 h2 ⊢
    rw [h1, Option.bind_some, if_pos rfl, Option.bind_some]
    rw [Option.some.inj h2, if_neg (by omega), if_neg (by omega), hw1, hw2, hw3, if_neg (by simp only [Bool.or_eq_true, decide_eq_true_eq]; omega), w64_succ i (by omega)]

theorem parse_loop (a : Str) (ha : a.all isHex = true) (hl : a.length ≤ 8) : ∀ (j i k n : Nat), i + j = a.length → j < k → n < 16 ^ i →
    strconv_ParseUint_16_64.l0 k a false (n : Int) (i : Int) = some (false, (((a.drop i).foldl stepV n : Nat) : Int)) ∧ (a.drop i).foldl stepV n < 16 ^ a.length
  | 0, i, k, n, hi, hk, hn => by
    obtain ⟨k, rfl⟩ : ∃ q, k = q + 1 := ⟨k - 1, by omega⟩
    rw [strconv_ParseUint_16_64.l0, if_neg (by omega), List.drop_eq_nil_of_le (by omega)]
    obtain rfl : i = a.length := by omega
    exact ⟨rfl, hn⟩
  | j + 1, i, k, n, hi, hk, hn => by
    obtain ⟨k, rfl⟩ : ∃ q, k = q + 1 := ⟨k - 1, by omega⟩
    have hlt : i < a.length := by omega
    have hb : isHex a[i] = true := List.all_eq_true.1 ha _ (List.getElem_mem hlt)
    have hp : 16 ^ i ≤ 16 ^ 7 := Nat.pow_le_pow_right (by decide) (by omega)
    have h16 := (hex_more a[i] hb).1
    have hd : a.drop i = a[i] :: a.drop (i + 1) := List.drop_eq_getElem_cons hlt
    rw [parse_step k a n i hlt hb (by omega) (by omega), hd, List.foldl_cons]
    exact parse_loop a ha hl j (i + 1) k _ (by omega) (by omega) (by unfold stepV; rw [Nat.pow_succ]; omega)

theorem parseInt_eq (a : Str) (ha : a.all isHex = true) (h1 : 1 ≤ a.length) (hl : a.length ≤ 8) : strconv_ParseInt_16_64.f KK a = some (val a : Int) ∧ val a < 4294967296 := by
  have hk : KK = 2097152 := rfl
  obtain ⟨hp, hv'⟩ := parse_loop a ha hl a.length 0 KK 0 (by omega) (by omega) (by decide)
  rw [List.drop_zero] at hp hv'
  have hpw : 16 ^ a.length ≤ 16 ^ 8 := Nat.pow_le_pow_right (by decide) (by omega)
  have hval : val a < 4294967296 := by unfold val; omega
  refine ⟨?_, hval⟩
  cases a with
  | nil => simp at h1
  | cons b t =>
    have hb : isHex b = true := by
      simp only [List.all_cons, Bool.and_eq_true] at ha
      exact ha.1
    obtain ⟨_, h43, h45, _⟩ := hex_more b hb
    have hbt : bt (b :: t) 0 = (b.toNat : Int) := rfl
    have c1 : ((b.toNat : Int) == 43) = false := by simp only [beq_eq_false_iff_ne]; omega
    have c2 : ((b.toNat : Int) == 45) = false := by simp only [beq_eq_false_iff_ne]; omega
    have hne : ((b :: t : Str) == []) = false := by simp
    have hU : strconv_ParseUint_16_64.f KK (b :: t) = some (val (b :: t) : Int) := by
      unfold strconv_ParseUint_16_64.f
      have hp' : strconv_ParseUint_16_64.l0 KK (b :: t) false 0 0 = some (false, (val (b :: t) : Int)) := hp
      rw [hne, if_neg (by decide), if_pos (by omega), hp', Option.bind_some]
      rfl
    unfold strconv_ParseInt_16_64.f strconv_ParseInt_n47_16_64.f
    rw [hne, if_neg (by decide), if_pos (by simp only [List.length_cons]; omega), hbt, c1, c2, if_neg (by decide), if_neg (by decide), Option.bind_some]
    simp only [hU, Option.bind_some]
    have hd : decide ((val (b :: t) : Int) ≥ 9223372036854775808) = false := by simp only [decide_eq_false_iff_not]; omega
    simp [hd, w64_id (n := (val (b :: t) : Int)) (by omega) (by omega)]

/-! ### the program's size, the reference's -/
def tailB : Str → Bool
  | [] => false
  | c :: u => c == 59 && textB (trimB u)
def restB : Str → Bool
  | [] => true
  | c :: u => tailB ((c :: u).dropWhile bl)
def sizeS (h : Str) : Int × Bool :=
  if (h.takeWhile isHex).length < 1 ∨ 8 < (h.takeWhile isHex).length then (0, false)
  else ((val (h.takeWhile isHex) : Int), restB (h.dropWhile isHex))
theorem restB_cons (c : UInt8) (u : Str) : restB (c :: u) = tailB ((c :: u).dropWhile bl) := rfl
theorem tailB_cons (c : UInt8) (u : Str) : tailB (c :: u) = (c == 59 && textB (trimB u)) := rfl

theorem split_hex (h : Str) : h.takeWhile isHex ++ h.dropWhile isHex = h := List.takeWhile_append_dropWhile
theorem all_hex (h : Str) : (h.takeWhile isHex).all isHex = true := List.all_takeWhile
theorem head_hex (h : Str) (c : UInt8) (u : Str) (e : h.dropWhile isHex = c :: u) : isHex c = false := by
  have := List.head?_dropWhile_not isHex h
  rw [e] at this
  simpa using this

theorem trimLeft_hex (h : Str) (hh : h.length ≤ 1000000) : strings_TrimLeft.f h HEX = some (h.dropWhile isHex) := by
  unfold strings_TrimLeft.f
  rw [if_pos ⟨Nat.le_trans hh (by decide), by decide, by decide⟩]
  unfold Lib.trimLeftS
  congr 2
  funext b
  exact hex_mem b
theorem trimLeft_bl (h : Str) (hh : h.length ≤ 1000000) : strings_TrimLeft.f h [32, 9] = some (h.dropWhile bl) := by
  unfold strings_TrimLeft.f
  rw [if_pos ⟨Nat.le_trans hh (by decide), by decide, by decide⟩]
  unfold Lib.trimLeftS
  congr 2
  funext b
  simp only [bl, List.contains, List.elem]
  cases b == 32 <;> cases b == 9 <;> rfl

theorem cutPrefix_nil : strings_CutPrefix.f [] [59] = some ([], false) := by decide
theorem cutPrefix_one (c : UInt8) (u : Str) : strings_CutPrefix.f (c :: u) [59] = some (if c == 59 then (u, true) else (c :: u, false)) := by
  unfold strings_CutPrefix.f stringslite_CutPrefix.f stringslite_HasPrefix.f
  have e : ((c :: u : Str).take 1 == [59]) = (c == 59) := by simp [BEq.beq, List.beq]
  have hl : (([59] : Str).length : Int) ≤ ((c :: u : Str).length : Int) := by simp only [List.length_cons, List.length_nil]; omega
  rw [if_pos hl, if_pos hl]
  have e1 : (([59] : Str).length : Int).toNat = 1 := rfl
  rw [e1, e]
  cases c == 59 with
  | false => rfl
  | true =>
    show ((if (([59] : Str).length : Int) ≤ ((c :: u : Str).length : Int) then some ((c :: u : Str).drop 1, true) else none).bind fun t1 => some (t1.1, t1.2)) = _
    rw [if_pos hl]
    rfl

theorem size_eq' (h : Str) (hh : h.length ≤ 2000) : chunk_size.f KK h = some (sizeS h) := by
  have hsp := split_hex h
  have hlen : (h.takeWhile isHex).length + (h.dropWhile isHex).length = h.length := by rw [← List.length_append, hsp]
  have hw : w64 ((h.length : Int) - ((h.dropWhile isHex).length : Int)) = ((h.takeWhile isHex).length : Int) := by rw [w64_id (by omega) (by omega)]; omega
  unfold chunk_size.f sizeS
  have htl := trimLeft_hex h (by omega)
  unfold HEX at htl
  rw [htl, Option.bind_some]
  simp only [hw]
  by_cases hc : (h.takeWhile isHex).length < 1 ∨ 8 < (h.takeWhile isHex).length
  · rw [if_pos hc, if_pos (by simp only [Bool.or_eq_true, decide_eq_true_eq]; omega)]
  · rw [if_neg hc, if_neg (by simp only [Bool.or_eq_true, decide_eq_true_eq]; omega), if_pos (by omega), if_pos (by omega), Int.toNat_natCast]
    have ht : h.take (h.takeWhile isHex).length = h.takeWhile isHex := by
      conv => lhs; rw [← hsp]
      exact List.take_left' (by rw [hsp])
    rw [ht, (parseInt_eq _ (all_hex h) (by omega) (by omega)).1, Option.bind_some]
    cases hr : h.dropWhile isHex with
    | nil => rfl
    | cons d r =>
      have hrl : (d :: r : Str).length ≤ 2000 := by rw [← hr]; omega
      rw [if_neg (by simp), trimLeft_bl _ (by omega), Option.bind_some, restB_cons]
      cases ht2 : (d :: r : Str).dropWhile bl with
      | nil =>
        rw [cutPrefix_nil]
        rfl
      | cons c u =>
        have hul : u.length ≤ 2000 := by
          have := (List.dropWhile_sublist (p := bl) (l := (d :: r : Str))).length_le
          rw [ht2] at this
          simp only [List.length_cons] at this hrl
          omega
        rw [cutPrefix_one, Option.bind_some, tailB_cons]
        cases c == 59 with
        | false => rfl
        | true =>
          have htb := trimB_len u
          simp only [if_true]
          rw [trim_eq u (by omega), Option.bind_some, text_eq _ (by omega)]
          rfl

/-! the reference -/
def stepM (v : Int) (b : UInt8) : Int := mnI (16 * v + (hv b.toNat : Int)) 1099511627776

theorem sizeR_loop (h : Str) (hh : h.length ≤ 2000) : ∀ (j i k : Nat) (v : Int), i + j = (h.takeWhile isHex).length → j < k → 0 ≤ v → v ≤ 1099511627776 →
    sculleryref07_size.l0 KK k h v (i : Int) = some (((h.takeWhile isHex).drop i).foldl stepM v, ((h.takeWhile isHex).length : Int))
  | 0, i, k, v, hi, hk, h0, h1 => by
    obtain ⟨k, rfl⟩ : ∃ q, k = q + 1 := ⟨k - 1, by omega⟩
    obtain rfl : i = (h.takeWhile isHex).length := by omega
    have hsp := split_hex h
    have hlen : (h.takeWhile isHex).length + (h.dropWhile isHex).length = h.length := by rw [← List.length_append, hsp]
    rw [sculleryref07_size.l0, List.drop_eq_nil_of_le (Nat.le_refl _)]
    cases hr : h.dropWhile isHex with
    | nil =>
      rw [hr] at hlen
      rw [if_neg (by simp only [List.length_nil] at hlen; omega), Option.bind_some, if_neg (by decide)]
      rfl
    | cons c u =>
      rw [hr, List.length_cons] at hlen
      have hlt : (h.takeWhile isHex).length < h.length := by omega
      have hc : h[(h.takeWhile isHex).length] = c := by
        have e : h = h.takeWhile isHex ++ c :: u := by rw [← hr, hsp]
        have := List.getElem?_append_right (l₁ := h.takeWhile isHex) (l₂ := c :: u) (i := (h.takeWhile isHex).length) (Nat.le_refl _)
        rw [← e, Nat.sub_self, List.getElem?_cons_zero, List.getElem?_eq_getElem hlt] at this
        exact Option.some.inj this
      have hf := head_hex h c u hr
      rw [if_pos (by omega), if_pos (by omega), bt_at h _ hlt, hc, hex_digit, hf, Option.bind_some, Option.bind_some, if_neg (by simp)]
      rfl
  | j + 1, i, k, v, hi, hk, h0, h1 => by
    obtain ⟨k, rfl⟩ : ∃ q, k = q + 1 := ⟨k - 1, by omega⟩
    have hsp := split_hex h
    have hlen : (h.takeWhile isHex).length + (h.dropWhile isHex).length = h.length := by rw [← List.length_append, hsp]
    have hia : i < (h.takeWhile isHex).length := by omega
    have hih : i < h.length := by omega
    have hg : h[i] = (h.takeWhile isHex)[i] := by
      have := List.getElem?_append_left (l₁ := h.takeWhile isHex) (l₂ := h.dropWhile isHex) hia
      rw [hsp, List.getElem?_eq_getElem hih, List.getElem?_eq_getElem hia] at this
      exact Option.some.inj this
    have hb : isHex (h.takeWhile isHex)[i] = true := List.all_eq_true.1 (all_hex h) _ (List.getElem_mem hia)
    have h16 := (hex_more _ hb).1
    have hd : (h.takeWhile isHex).drop i = (h.takeWhile isHex)[i] :: (h.takeWhile isHex).drop (i + 1) := List.drop_eq_getElem_cons hia
    have hm : mnI (w64 (w64 ((16 : Int) * v) + (hv (h.takeWhile isHex)[i].toNat : Int))) 1099511627776 = stepM v (h.takeWhile isHex)[i] := by
      unfold stepM
      rw [w64_id (n := (16 : Int) * v) (by omega) (by omega), w64_id (by omega) (by omega)]
    have hs : 0 ≤ stepM v (h.takeWhile isHex)[i] ∧ stepM v (h.takeWhile isHex)[i] ≤ 1099511627776 := by
      unfold stepM mnI
      split <;> omega
    rw [sculleryref07_size.l0, if_pos (by omega), if_pos (by omega), bt_at h i hih, hg, hex_digit, hb, if_pos rfl, Option.bind_some, Option.bind_some, if_pos (by simp), if_pos (by omega), if_pos (by omega), Option.bind_some, hm, w64_succ i (by omega), hd, List.foldl_cons]
    exact sizeR_loop h hh j (i + 1) k _ (by omega) (by omega) hs.1 hs.2

theorem fold_same (a : Str) (hl : a.length ≤ 8) (ha : a.all isHex = true) : a.foldl stepM 0 = (val a : Int) := by
  suffices h : ∀ (l : Str) (n i : Nat), l.all isHex = true → i + l.length ≤ 8 → n < 16 ^ i → l.foldl stepM (n : Int) = (l.foldl stepV n : Nat) from h a 0 0 ha (by omega) (by decide)
  intro l
  induction l with
  | nil => intro n i _ _ _; rfl
  | cons b t ih =>
    intro n i hall hi hn
    simp only [List.all_cons, Bool.and_eq_true] at hall
    simp only [List.length_cons] at hi
    have h16 := (hex_more b hall.1).1
    have hp : 16 ^ i ≤ 16 ^ 7 := Nat.pow_le_pow_right (by decide) (by omega)
    have hs : stepM (n : Int) b = (stepV n b : Nat) := by
      unfold stepM stepV mnI
      rw [if_neg (by omega)]
      omega
    rw [List.foldl_cons, List.foldl_cons, hs]
    exact ih _ (i + 1) hall.2 (by omega) (by unfold stepV; rw [Nat.pow_succ]; omega)

theorem blanksR (p0 : Str) (s19 : Int × Int) : ∀ (r : Str) (k : Nat), r.length < k → sculleryref07_size.l1 k p0 s19 r = some (r.dropWhile bl)
  | [], k, hk => by
    obtain ⟨k, rfl⟩ : ∃ q, k = q + 1 := ⟨k - 1, by omega⟩
    simp [sculleryref07_size.l1]
  | b :: t, k, hk => by
    obtain ⟨k, rfl⟩ : ∃ q, k = q + 1 := ⟨k - 1, by omega⟩
    have hb := blank1 b
    unfold sculleryref01_blank.f at hb
    have hb' := Option.some.inj hb
    have hbt : bt (b :: t) 0 = (b.toNat : Int) := rfl
    rw [sculleryref07_size.l1, if_pos (by simp), if_pos (by simp only [List.length_cons]; omega), hbt]
    have e : (if ((b.toNat : Int) == 32) = true then some true else some ((b.toNat : Int) == 9)) = some (bl b) := by
      rw [← hb']
      cases ((b.toNat : Int) == 32) <;> rfl
    rw [e, Option.bind_some, List.dropWhile_cons]
    cases bl b with
    | true =>
      rw [if_pos rfl, if_pos rfl, if_pos (by simp only [List.length_cons]; omega), List.drop_one, List.tail_cons]
      exact blanksR p0 s19 t k (by simp only [List.length_cons] at hk; omega)
    | false => rfl

theorem sizeR_eq (h : Str) (hh : h.length ≤ 2000) : sculleryref07_size.f KK h = some (sizeS h) := by
  have hk : KK = 2097152 := rfl
  have hsp := split_hex h
  have hlen : (h.takeWhile isHex).length + (h.dropWhile isHex).length = h.length := by rw [← List.length_append, hsp]
  unfold sculleryref07_size.f sizeS
  rw [show sculleryref07_size.l0 KK KK h 0 0 = sculleryref07_size.l0 KK KK h 0 ((0 : Nat) : Int) from rfl, sizeR_loop h hh (h.takeWhile isHex).length 0 KK 0 (by omega) (by omega) (by omega) (by omega), Option.bind_some, List.drop_zero]
  simp only []
  by_cases hc : (h.takeWhile isHex).length < 1 ∨ 8 < (h.takeWhile isHex).length
  · rw [if_pos hc, if_pos (by simp only [Bool.or_eq_true, decide_eq_true_eq]; omega)]
  · rw [if_neg hc, if_neg (by simp only [Bool.or_eq_true, decide_eq_true_eq]; omega), if_pos (by omega), if_pos (by omega), Int.toNat_natCast, fold_same _ (by omega) (all_hex h)]
    have ht : h.drop (h.takeWhile isHex).length = h.dropWhile isHex := by
      conv => lhs; rw [← hsp]
      exact List.drop_left' (by rw [hsp])
    rw [ht, blanksR _ _ _ KK (by omega), Option.bind_some]
    cases hr : h.dropWhile isHex with
    | nil =>
      rw [hr, List.length_nil] at hlen
      have : (((h.takeWhile isHex).length : Int) == (h.length : Int)) = true := by simp only [beq_iff_eq]; omega
      rw [List.dropWhile_nil, if_pos (by simp), this]
      rfl
    | cons d r =>
      rw [hr, List.length_cons] at hlen
      have hne : (((h.takeWhile isHex).length : Int) == (h.length : Int)) = false := by simp only [beq_eq_false_iff_ne]; omega
      rw [restB_cons]
      cases ht2 : (d :: r : Str).dropWhile bl with
      | nil =>
        rw [if_pos (by simp), hne]
        rfl
      | cons c u =>
        have hul : u.length ≤ 2000 := by
          have := (List.dropWhile_sublist (p := bl) (l := (d :: r : Str))).length_le
          rw [ht2] at this
          simp only [List.length_cons] at this
          omega
        have hbt : bt (c :: u) 0 = (c.toNat : Int) := rfl
        have e59 : ((c.toNat : Int) == 59) = (c == 59) := by
          rw [Bool.eq_iff_iff, beq_iff_eq, beq_iff_eq]
          constructor
          · intro e
            exact UInt8.toNat_inj.1 (show c.toNat = (59 : UInt8).toNat by simpa using (by exact_mod_cast e : c.toNat = 59))
          · rintro rfl
            rfl
        rw [if_neg (by simp), if_pos (by simp only [List.length_cons]; omega), hbt, e59, tailB_cons]
        cases c == 59 with
        | false => rfl
        | true =>
          have htb := trimB_len u
          rw [if_pos rfl, if_pos (by simp only [List.length_cons]; omega), List.drop_one, List.tail_cons, trimR KK u (by omega) (by omega), Option.bind_some, textR_eq _ (by omega)]
          rfl

end Go.Proofs.YtkkmbkelkbhecaaGreatDoor
