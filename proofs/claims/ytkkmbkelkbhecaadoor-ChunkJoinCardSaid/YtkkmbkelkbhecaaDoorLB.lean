/- Plain laws: a body in chunks is read. -/
import Derived.Test.YtkkmbkelkbhecaaDoorLA
set_option maxRecDepth 1000000
namespace Go.Proofs.YtkkmbkelkbhecaaDoor
open Go.Ev Go.Proofs.Tryd

/-- One part in a chunk. -/
def one (p : Str) : Str := hexs p.length ++ ([13, 10] ++ (p ++ [13, 10]))
def enc : List Str → Str
  | [] => []
  | p :: ps => one p ++ enc ps
def body : List Str → Str
  | [] => []
  | p :: ps => p ++ body ps
def good (ps : List Str) : Prop := ∀ p ∈ ps, 1 ≤ p.length ∧ p.length ≤ 1000

theorem enc_append (a b : List Str) : enc (a ++ b) = enc a ++ enc b := by
  induction a with
  | nil => rfl
  | cons p a ih => simp [enc, ih]
theorem body_append (a b : List Str) : body (a ++ b) = body a ++ body b := by
  induction a with
  | nil => rfl
  | cons p a ih => simp [body, ih]

theorem one_len (p : Str) (h : p.length ≤ 1000) : (one p).length ≤ p.length + 7 := by
  have := (hex_of p.length h).2.2.2
  simp only [one, List.length_append, List.length_cons, List.length_nil]
  omega
theorem enc_len : ∀ ps, good ps → (enc ps).length ≤ 8 * (body ps).length
  | [], _ => by simp [enc, body]
  | p :: ps, h => by
    have h1 := h p (by simp)
    have := one_len p h1.2
    have := enc_len ps (fun q hq => h q (by simp [hq]))
    simp only [enc, body, List.length_append]
    omega
theorem good_len : ∀ ps, good ps → ps.length ≤ (body ps).length
  | [], _ => by simp [body]
  | p :: ps, h => by
    have h1 := h p (by simp)
    have := good_len ps (fun q hq => h q (by simp [hq]))
    simp only [body, List.length_append, List.length_cons]
    omega

theorem put_eq (a p : Str) (h : a.length + p.length ≤ 4294967296) : strings_Builder_WriteString_ps0t.f a p = some ((p.length : Int), a ++ p) := by
  unfold strings_Builder_WriteString_ps0t.f strings_Builder_copyCheck_ps0t.f
  rw [Option.bind_some, if_pos h]
theorem put_new (p : Str) (h : p.length ≤ 4294967296) : strings_Builder_WriteString_pnsn.f p = some ((p.length : Int), p) := by
  unfold strings_Builder_WriteString_pnsn.f strings_Builder_copyCheck_pnsn.f
  rw [Option.bind_some, if_pos (by simpa using h)]

theorem le_max {n : Nat} (h : n ≤ 1000000) : n ≤ maxI := Nat.le_trans h (by decide)

/-! ### Encode -/

theorem mn_pos {a b : Int} (ha : 1 ≤ a) (hb : 1 ≤ b) : 1 ≤ mnI a b ∧ mnI a b ≤ b := by unfold mnI; split <;> omega

theorem encode_loop (sz : Int) (hs : 1 ≤ sz) : ∀ (m k : Nat) (acc rest : Str), rest.length ≤ m → m < k → rest.length ≤ 1000 → acc.length + 8 * rest.length ≤ 100000 →
    ∃ ps, good ps ∧ body ps = rest ∧ chunk_Encode.l0 KK k sz acc rest = some (acc ++ enc ps) := by
  intro m
  induction m with
  | zero =>
    intro k acc rest h0 hk h1 h2
    obtain ⟨k, rfl⟩ : ∃ i, k = i + 1 := ⟨k - 1, by omega⟩
    obtain rfl : rest = [] := List.length_eq_zero_iff.1 (by omega)
    exact ⟨[], fun p hp => by simp at hp, rfl, by simp [chunk_Encode.l0, enc]⟩
  | succ m ih =>
    intro k acc rest h0 hk h1 h2
    obtain ⟨k, rfl⟩ : ∃ i, k = i + 1 := ⟨k - 1, by omega⟩
    by_cases he : rest = []
    · subst he
      exact ⟨[], fun p hp => by simp at hp, rfl, by simp [chunk_Encode.l0, enc]⟩
    · have hpos : 1 ≤ rest.length := by
        cases rest with
        | nil => exact absurd rfl he
        | cons a r => simp
      have hm := mn_pos (a := sz) (b := (rest.length : Int)) hs (by omega)
      obtain ⟨n, hn⟩ : ∃ n : Nat, mnI sz (rest.length : Int) = (n : Int) := ⟨(mnI sz (rest.length : Int)).toNat, by omega⟩
      rw [hn] at hm
      have ht : (rest.take n).length = n := by rw [List.length_take]; omega
      have hd : (rest.drop n).length = rest.length - n := by simp
      have hx := hex_of n (by omega)
      have hone : one (rest.take n) = ((hexs n ++ [13, 10]) ++ rest.take n) ++ [13, 10] := by simp [one, ht]
      have hl := one_len (rest.take n) (by omega)
      have hl2 : (((hexs n ++ [13, 10]) ++ rest.take n) ++ [13, 10] : Str).length = (one (rest.take n)).length := by rw [hone]
      obtain ⟨ps, g, hb, e⟩ := ih k (acc ++ one (rest.take n)) (rest.drop n) (by omega) (by omega) (by omega) (by rw [List.length_append]; omega)
      refine ⟨rest.take n :: ps, ?_, by simp [body, hb], ?_⟩
      · intro p hp
        rcases List.mem_cons.1 hp with rfl | hp
        · omega
        · exact g p hp
      · have hb' : (!(rest == ([] : List UInt8))) = true := by simp [he]
        rw [chunk_Encode.l0, hn, if_pos hb', if_pos (by omega), if_pos (by omega), hx.1, Option.bind_some, Int.toNat_natCast]
        rw [if_pos (le_max (by simp only [List.length_append, List.length_take, List.length_drop, List.length_cons, List.length_nil]; omega)), if_pos (le_max (by simp only [List.length_append, List.length_take, List.length_drop, List.length_cons, List.length_nil]; omega)), if_pos (le_max (by simp only [List.length_append, List.length_take, List.length_drop, List.length_cons, List.length_nil]; omega)), ← hone, put_eq _ _ (by omega), Option.bind_some]
        show chunk_Encode.l0 KK k sz (acc ++ one (List.take n rest)) (List.drop n rest) = _
        rw [e]
        simp [enc]

def END : Str := [48, 13, 10, 13, 10]

theorem encode_eq (B : Str) (hB : B.length ≤ 1000) (sz : Int) (hs : 1 ≤ sz) : ∃ ps, good ps ∧ body ps = B ∧ chunk_Encode.f KK B sz = some (enc ps ++ END, 0) := by
  obtain ⟨ps, g, hb, e⟩ := encode_loop sz hs B.length (KK + 1) [] B (by omega) (by have : KK = 2097152 := rfl; omega) hB (by simp; omega)
  refine ⟨ps, g, hb, ?_⟩
  have hl := enc_len ps g
  rw [hb] at hl
  unfold chunk_Encode.f
  rw [if_neg (by omega), if_neg (by omega)]
  rw [chunk_Encode.l0] at e
  by_cases he : B = []
  · subst he
    simp only [beq_self_eq_true, Bool.not_true, Bool.false_eq_true, if_false, Option.some.injEq] at e ⊢
    rw [List.nil_append] at e
    rw [← e]
    rfl
  · have hb' : (!(B == ([] : List UInt8))) = true := by simp [he]
    have hpos : 1 ≤ B.length := by
      cases B with
      | nil => exact absurd rfl he
      | cons a r => simp
    have hm := mn_pos (a := sz) (b := (B.length : Int)) hs (by omega)
    obtain ⟨n, hn⟩ : ∃ n : Nat, mnI sz (B.length : Int) = (n : Int) := ⟨(mnI sz (B.length : Int)).toNat, by omega⟩
    rw [hn] at hm
    have hx := hex_of n (by omega)
    rw [hn, if_pos hb', if_pos (by omega), if_pos (by omega), hx.1, Option.bind_some, Int.toNat_natCast] at e ⊢
    rw [if_pos (le_max (by simp only [List.length_append, List.length_take, List.length_drop, List.length_cons, List.length_nil]; omega)), if_pos (le_max (by simp only [List.length_append, List.length_take, List.length_drop, List.length_cons, List.length_nil]; omega)), if_pos (le_max (by simp only [List.length_append, List.length_take, List.length_drop, List.length_cons, List.length_nil]; omega))] at e ⊢
    rw [put_eq _ _ (by simp only [List.length_append, List.length_take, List.length_drop, List.length_cons, List.length_nil]; omega), Option.bind_some, List.nil_append] at e
    rw [put_new _ (by simp only [List.length_append, List.length_take, List.length_drop, List.length_cons, List.length_nil]; omega), Option.bind_some]
    have e' : chunk_Encode.l0 KK KK sz (hexs n ++ [13, 10] ++ List.take n B ++ [13, 10]) (List.drop n B) = some (enc ps) := e
    rw [e', Option.bind_some]
    unfold strings_Builder_String_ps0t.f
    rw [Option.bind_some, if_pos (le_max (by simp only [List.length_append, List.length_take, List.length_drop, List.length_cons, List.length_nil]; omega)), if_pos (le_max (by simp only [List.length_append, List.length_take, List.length_drop, List.length_cons, List.length_nil]; omega)), if_pos (le_max (by simp only [List.length_append, List.length_take, List.length_drop, List.length_cons, List.length_nil]; omega))]
    simp [END]

theorem encode_none (B : Str) (sz : Int) (hs : ¬ 1 ≤ sz) : chunk_Encode.f KK B sz = some ([], 1) := by
  unfold chunk_Encode.f
  rw [if_pos (by omega)]

end Go.Proofs.YtkkmbkelkbhecaaDoor
