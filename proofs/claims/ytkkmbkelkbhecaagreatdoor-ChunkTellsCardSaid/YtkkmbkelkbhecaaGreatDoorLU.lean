/- Plain laws: texts, tokens, blanks: the program's and the reference's are the same. -/
import Derived.Test.YtkkmbkelkbhecaaGreatDoorLA
set_option maxRecDepth 1000000
namespace Go.Proofs.YtkkmbkelkbhecaaGreatDoor
open Go.Ev Go.Proofs.Tryz

theorem bt_at (s : Str) (i : Nat) (h : i < s.length) : bt s (i : Int) = (s[i].toNat : Int) := by
  simp [bt, h]
theorem of_range {P : Nat → Bool} (h : (List.range 256).all P = true) (b : UInt8) : P b.toNat = true :=
  List.all_eq_true.1 h _ (List.mem_range.2 b.toNat_lt)

/-! ### bytes -/
def okTN (n : Nat) : Bool := n == 9 || (decide (32 ≤ n) && n != 127)
def okT (b : UInt8) : Bool := okTN b.toNat
def badT (x : Int) : Bool := bif decide (x < 32) then ((x != 9) || (x == 127)) else x == 127
def tokN (n : Nat) : Bool := (ascii_Token_1.f (n : Int)).getD false
def tok (b : UInt8) : Bool := tokN b.toNat
theorem text_range : ((List.range 256).all fun n => decide (ascii_Text_1.f (n : Int) = some (okTN n)) && badT (n : Int) == !okTN n) = true := by kernel_rfl
theorem tok_range : ((List.range 256).all fun n => decide (ascii_Token_1.f (n : Int) = some (tokN n)) && decide (sculleryref01_Tchar.f KK (n : Int) = some (tokN n))) = true := by kernel_rfl
theorem blank_range : ((List.range 256).all fun n => decide (sculleryref01_blank.f (n : Int) = some (blN n))) = true := by kernel_rfl
theorem text1 (b : UInt8) : ascii_Text_1.f (b.toNat : Int) = some (okT b) := by
  have := of_range text_range b
  simp only [Bool.and_eq_true, decide_eq_true_eq] at this
  exact this.1
theorem text2 (b : UInt8) : badT (b.toNat : Int) = !okT b := by
  have := of_range text_range b
  simp only [Bool.and_eq_true, beq_iff_eq] at this
  exact this.2
theorem tok1 (b : UInt8) : ascii_Token_1.f (b.toNat : Int) = some (tok b) := by
  have := of_range tok_range b
  simp only [Bool.and_eq_true, decide_eq_true_eq] at this
  exact this.1
theorem tok2 (b : UInt8) : sculleryref01_Tchar.f KK (b.toNat : Int) = some (tok b) := by
  have := of_range tok_range b
  simp only [Bool.and_eq_true, decide_eq_true_eq] at this
  exact this.2
theorem blank1 (b : UInt8) : sculleryref01_blank.f (b.toNat : Int) = some (bl b) := by
  have := of_range blank_range b
  simp only [decide_eq_true_eq] at this
  rw [bl_nat]
  exact this

theorem w64_succ (i : Nat) (h : i ≤ 4294967296) : w64 ((i : Int) + 1) = ((i + 1 : Nat) : Int) := by rw [w64_id (by omega) (by omega)]; omega

/-! ### every byte of a text -/
theorem textLoop (s : Str) (hs : s.length ≤ 4294967296) : ∀ (j i k : Nat), i + j = s.length → j < k → ascii_all_ascii_Text_1.l0 k s (i : Int) = some (if (s.drop i).all okT then .inl () else .inr false)
  | 0, i, k, hi, hk => by
    obtain ⟨k, rfl⟩ : ∃ q, k = q + 1 := ⟨k - 1, by omega⟩
    rw [ascii_all_ascii_Text_1.l0, if_neg (by omega), List.drop_eq_nil_of_le (by omega)]
    rfl
  | j + 1, i, k, hi, hk => by
    obtain ⟨k, rfl⟩ : ∃ q, k = q + 1 := ⟨k - 1, by omega⟩
    have hl : i < s.length := by omega
    have hd : s.drop i = s[i] :: s.drop (i + 1) := List.drop_eq_getElem_cons hl
    rw [ascii_all_ascii_Text_1.l0, if_pos (by omega), if_pos (by omega), bt_at s i hl, text1, Option.bind_some, hd, w64_succ i (by omega), textLoop s hs j (i + 1) k (by omega) (by omega)]
    rw [List.all_cons]
    cases okT s[i] <;> rfl
theorem textLoopR (s : Str) (hs : s.length ≤ 4294967296) : ∀ (j i k : Nat), i + j = s.length → j < k → sculleryref01_Text.l0 k s (i : Int) = some (if (s.drop i).all okT then .inl () else .inr false)
  | 0, i, k, hi, hk => by
    obtain ⟨k, rfl⟩ : ∃ q, k = q + 1 := ⟨k - 1, by omega⟩
    rw [sculleryref01_Text.l0, if_neg (by omega), List.drop_eq_nil_of_le (by omega)]
    rfl
  | j + 1, i, k, hi, hk => by
    obtain ⟨k, rfl⟩ : ∃ q, k = q + 1 := ⟨k - 1, by omega⟩
    have hl : i < s.length := by omega
    have hd : s.drop i = s[i] :: s.drop (i + 1) := List.drop_eq_getElem_cons hl
    have hb := text2 s[i]
    unfold badT at hb
    rw [sculleryref01_Text.l0, if_pos (by omega), if_pos (by omega), bt_at s i hl, hb, hd, w64_succ i (by omega), textLoopR s hs j (i + 1) k (by omega) (by omega)]
    rw [List.all_cons]
    cases okT s[i] <;> rfl
theorem tokLoop (s : Str) (hs : s.length ≤ 4294967296) : ∀ (j i k : Nat), i + j = s.length → j < k → ascii_all_ascii_Token_1.l0 k s (i : Int) = some (if (s.drop i).all tok then .inl () else .inr false)
  | 0, i, k, hi, hk => by
    obtain ⟨k, rfl⟩ : ∃ q, k = q + 1 := ⟨k - 1, by omega⟩
    rw [ascii_all_ascii_Token_1.l0, if_neg (by omega), List.drop_eq_nil_of_le (by omega)]
    rfl
  | j + 1, i, k, hi, hk => by
    obtain ⟨k, rfl⟩ : ∃ q, k = q + 1 := ⟨k - 1, by omega⟩
    have hl : i < s.length := by omega
    have hd : s.drop i = s[i] :: s.drop (i + 1) := List.drop_eq_getElem_cons hl
    rw [ascii_all_ascii_Token_1.l0, if_pos (by omega), if_pos (by omega), bt_at s i hl, tok1, Option.bind_some, hd, w64_succ i (by omega), tokLoop s hs j (i + 1) k (by omega) (by omega)]
    rw [List.all_cons]
    cases tok s[i] <;> rfl
theorem tokLoopR (s : Str) (hs : s.length ≤ 4294967296) : ∀ (j i k : Nat), i + j = s.length → j < k → sculleryref01_Token.l0 KK k s (i : Int) = some (if (s.drop i).all tok then .inl () else .inr false)
  | 0, i, k, hi, hk => by
    obtain ⟨k, rfl⟩ : ∃ q, k = q + 1 := ⟨k - 1, by omega⟩
    rw [sculleryref01_Token.l0, if_neg (by omega), List.drop_eq_nil_of_le (by omega)]
    rfl
  | j + 1, i, k, hi, hk => by
    obtain ⟨k, rfl⟩ : ∃ q, k = q + 1 := ⟨k - 1, by omega⟩
    have hl : i < s.length := by omega
    have hd : s.drop i = s[i] :: s.drop (i + 1) := List.drop_eq_getElem_cons hl
    rw [sculleryref01_Token.l0, if_pos (by omega), if_pos (by omega), bt_at s i hl, tok2, Option.bind_some, hd, w64_succ i (by omega), tokLoopR s hs j (i + 1) k (by omega) (by omega)]
    rw [List.all_cons]
    cases tok s[i] <;> rfl

/-! ### blanks, by the reference -/
theorem trimB_cons {b : UInt8} (t : Str) (h : bl b = true) : trimB (b :: t) = trimB t := by
  unfold trimB
  rw [List.dropWhile_cons, if_pos h]
theorem drop_id {b : UInt8} (t : Str) (h : bl b = false) : (b :: t).dropWhile bl = b :: t := by
  rw [List.dropWhile_cons, if_neg (by rw [h]; decide)]
theorem trimB_snoc {b x : UInt8} (t : Str) (h : bl b = false) (hx : bl x = true) : trimB ((b :: t) ++ [x]) = trimB (b :: t) := by
  unfold trimB
  rw [List.cons_append, drop_id _ h, drop_id _ h, ← List.cons_append, List.reverse_append, List.reverse_singleton, List.singleton_append, List.dropWhile_cons, if_pos hx]
theorem trimB_id {x : UInt8} (l : Str) (h : (l ++ [x]).dropWhile bl = l ++ [x]) (hx : bl x = false) : trimB (l ++ [x]) = l ++ [x] := by
  unfold trimB
  rw [h, List.reverse_append, List.reverse_singleton, List.singleton_append, drop_id _ hx]
  simp
theorem trimR : ∀ (k : Nat) (s : Str), s.length < k → s.length ≤ 1000000 → sculleryref01_Trim.f k s = some (trimB s)
  | 0, s, hk, _ => by omega
  | k + 1, [], hk, _ => by simp [sculleryref01_Trim.f, trimB]
  | k + 1, b :: t, hk, hs => by
    have hl : (b :: t : Str).length = t.length + 1 := rfl
    have h0 : bt (b :: t) 0 = (b.toNat : Int) := rfl
    rw [sculleryref01_Trim.f, if_pos (by omega), if_pos (by omega), h0, blank1, Option.bind_some, Option.bind_some]
    cases hb : bl b with
    | true =>
      rw [if_pos rfl, if_pos (by omega), List.drop_one, List.tail_cons, trimR k t (by omega) (by omega), Option.bind_some, trimB_cons t hb]
    | false =>
      have hw : w64 (((b :: t : Str).length : Int) - 1) = (t.length : Int) := by rw [w64_id (by omega) (by omega)]; omega
      have hlt : t.length < (b :: t : Str).length := by omega
      rw [if_neg (by decide), if_pos (by omega), hw, if_pos (by omega), if_pos (by omega), bt_at (b :: t) t.length hlt, blank1, Option.bind_some, Option.bind_some]
      have hsplit : (b :: t : Str).take t.length ++ [(b :: t : Str)[t.length]] = b :: t := by
        rw [← List.take_succ_eq_append_getElem hlt]
        exact List.take_of_length_le (by omega)
      cases hx : bl (b :: t : Str)[t.length] with
      | true =>
        rw [if_pos rfl, if_pos (by omega), if_pos (by omega), Int.toNat_natCast, trimR k _ (by rw [List.length_take]; omega) (by rw [List.length_take]; omega), Option.bind_some]
        congr 1
        cases t with
        | nil =>
          have : ([b] : Str)[([] : Str).length] = b := rfl
          rw [this, hb] at hx
          cases hx
        | cons c r =>
          have e : (b :: c :: r : Str).take (c :: r : Str).length = b :: (c :: r : Str).take r.length := rfl
          rw [← hsplit, e] 
          have := trimB_snoc (b := b) (x := (b :: c :: r : Str)[(c :: r : Str).length]) ((c :: r : Str).take r.length) hb hx
          rw [this]
          simp
      | false =>
        rw [if_neg (by decide)]
        congr 1
        rw [← hsplit]
        exact (trimB_id _ (by rw [hsplit]; exact drop_id t hb) hx).symm

/-! ### Text, Token, on both sides -/
def textB (s : Str) : Bool := s.all okT && trimB s == s
def tokenB (s : Str) : Bool := !(s == []) && s.all tok
theorem text_eq (s : Str) (hs : s.length ≤ 1000000) : ascii_Text.f KK s = some (textB s) := by
  have hk : KK = 2097152 := rfl
  unfold ascii_Text.f ascii_all_ascii_Text_1.f
  rw [if_pos (by omega), show (0 : Int) = ((0 : Nat) : Int) from rfl, textLoop s (by omega) s.length 0 KK (by omega) (by omega), Option.bind_some, List.drop_zero, trim_eq s hs]
  unfold textB
  cases s.all okT <;> rfl
theorem textR_eq (s : Str) (hs : s.length ≤ 1000000) : sculleryref01_Text.f KK s = some (textB s) := by
  have hk : KK = 2097152 := rfl
  unfold sculleryref01_Text.f
  rw [show (0 : Int) = ((0 : Nat) : Int) from rfl, textLoopR s (by omega) s.length 0 KK (by omega) (by omega), Option.bind_some, List.drop_zero, trimR KK s (by omega) hs]
  unfold textB
  cases s.all okT <;> rfl
theorem token_eq (s : Str) (hs : s.length ≤ 1000000) : ascii_Token.f KK s = some (tokenB s) := by
  have hk : KK = 2097152 := rfl
  unfold ascii_Token.f ascii_all_ascii_Token_1.f
  rw [if_pos (show s.length ≤ 4294967296 by omega), show (0 : Int) = ((0 : Nat) : Int) from rfl, tokLoop s (by omega) s.length 0 KK (by omega) (by omega), Option.bind_some, List.drop_zero]
  unfold tokenB
  cases h : (s == ([] : Str)) <;> cases s.all tok <;> simp
theorem tokenR_eq (s : Str) (hs : s.length ≤ 1000000) : sculleryref01_Token.f KK s = some (tokenB s) := by
  have hk : KK = 2097152 := rfl
  unfold sculleryref01_Token.f
  rw [show (0 : Int) = ((0 : Nat) : Int) from rfl, tokLoopR s (by omega) s.length 0 KK (by omega) (by omega), Option.bind_some, List.drop_zero]
  unfold tokenB
  cases s with
  | nil => rfl
  | cons b t => cases (b :: t : Str).all tok <;> simp

/-! ### Lower: there is one -/
theorem lower_loop (s : Str) (hs : s.length ≤ 1000000) : ∀ (j i k : Nat) (v : Str), v.length = s.length → i + j = s.length → j < k → ∃ r, ascii_Lower.l0 k s v (i : Int) = some r
  | 0, i, k, v, hv, hi, hk => by
    obtain ⟨k, rfl⟩ : ∃ q, k = q + 1 := ⟨k - 1, by omega⟩
    exact ⟨v, by rw [ascii_Lower.l0, if_neg (by omega)]⟩
  | j + 1, i, k, v, hv, hi, hk => by
    obtain ⟨k, rfl⟩ : ∃ q, k = q + 1 := ⟨k - 1, by omega⟩
    rw [ascii_Lower.l0, if_pos (by omega), if_pos (by omega), if_pos (by omega), w64_succ i (by omega)]
    split
    · rw [Option.bind_some]
      exact lower_loop s hs j (i + 1) k _ (by rw [List.length_set]; exact hv) (by omega) (by omega)
    · rw [Option.bind_some]
      exact lower_loop s hs j (i + 1) k _ hv (by omega) (by omega)
theorem lower_ex (s : Str) (hs : s.length ≤ 1000000) : ∃ r, ascii_Lower.f KK s = some r := by
  have hk : KK = 2097152 := rfl
  unfold ascii_Lower.f
  obtain ⟨r, hr⟩ := lower_loop s hs s.length 0 KK s rfl (by omega) (by omega)
  exact ⟨r, by rw [if_pos (by omega), show (0 : Int) = ((0 : Nat) : Int) from rfl, hr, Option.bind_some]⟩
theorem lowerR_loop (s : Str) (hs : s.length ≤ 1000000) : ∀ (j i k : Nat) (v : Str), v.length ≤ i → i + j = s.length → j < k → ∃ r, sculleryref01_Lower.l0 k s v (i : Int) = some r
  | 0, i, k, v, hv, hi, hk => by
    obtain ⟨k, rfl⟩ : ∃ q, k = q + 1 := ⟨k - 1, by omega⟩
    exact ⟨v, by rw [sculleryref01_Lower.l0, if_neg (by omega)]⟩
  | j + 1, i, k, v, hv, hi, hk => by
    obtain ⟨k, rfl⟩ : ∃ q, k = q + 1 := ⟨k - 1, by omega⟩
    have hl : i < s.length := by omega
    have hb := s[i].toNat_lt
    have hwr := w8_range ((s[i].toNat : Int) + 32)
    rw [sculleryref01_Lower.l0, if_pos (by omega), if_pos (by omega), bt_at s i hl, w64_succ i (by omega)]
    split
    · rw [Option.bind_some, if_pos hwr.1, if_pos hwr.2, if_pos (by simp only [List.length_cons, List.length_nil]; omega)]
      exact lowerR_loop s hs j (i + 1) k _ (by simp; omega) (by omega) (by omega)
    · rw [Option.bind_some, if_pos (by omega), if_pos (by omega), if_pos (by simp only [List.length_cons, List.length_nil]; omega)]
      exact lowerR_loop s hs j (i + 1) k _ (by simp; omega) (by omega) (by omega)
theorem lowerR_ex (s : Str) (hs : s.length ≤ 1000000) : ∃ r, sculleryref01_Lower.f KK s = some r := by
  have hk : KK = 2097152 := rfl
  unfold sculleryref01_Lower.f
  obtain ⟨r, hr⟩ := lowerR_loop s hs s.length 0 KK [] (by simp) (by omega) (by omega)
  exact ⟨r, by rw [show (0 : Int) = ((0 : Nat) : Int) from rfl, hr, Option.bind_some]⟩

end Go.Proofs.YtkkmbkelkbhecaaGreatDoor
