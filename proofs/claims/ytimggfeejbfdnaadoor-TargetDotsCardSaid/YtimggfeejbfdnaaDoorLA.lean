/- Plain laws: parts of a path, and their join. -/
import Derived.Test.YtimggfeejbfdnaaDoorF2
set_option maxRecDepth 1000000
namespace Go.Proofs.YtimggfeejbfdnaaDoor
open Go.Ev Go.Proofs.Tryd
abbrev KK : Nat := 2097152

theorem w64_id {n : Int} (h0 : -9223372036854775808 ≤ n) (h1 : n ≤ 9223372036854775807) : w64 n = n := by
  have hb : (2 ^ IntKind.i64.bits : Int) = 18446744073709551616 := by decide
  have hb' : (2 ^ (IntKind.i64.bits - 1) : Int) = 9223372036854775808 := by decide
  have hs : IntKind.i64.signed = true := by decide
  show IntKind.i64.wrap n = n
  unfold IntKind.wrap
  simp only [hb, hb', hs, Bool.true_and, decide_eq_true_eq]
  split <;> omega
theorem le_max {n : Nat} (h : n ≤ 1000000) : n ≤ maxI := Nat.le_trans h (by decide)
theorem bt_at (s : Str) (i : Nat) (h : i < s.length) : bt s (i : Int) = (s[i].toNat : Int) := by
  simp [bt, h]
theorem w64_succ (i : Nat) (h : i ≤ 4294967296) : w64 ((i : Int) + 1) = ((i + 1 : Nat) : Int) := by rw [w64_id (by omega) (by omega)]; omega
theorem nat_byte (b : UInt8) (c : Nat) (hc : c < 256) : ((b.toNat : Int) == (c : Int)) = (b == UInt8.ofNat c) := by
  rw [Bool.eq_iff_iff, beq_iff_eq, beq_iff_eq]
  constructor
  · intro e
    refine UInt8.toNat_inj.1 ?_
    rw [UInt8.toNat_ofNat_of_lt' hc]
    omega
  · rintro rfl
    rw [UInt8.toNat_ofNat_of_lt' hc]
theorem line_cases (c : UInt8) (s : Str) : c ∉ s ∨ ∃ T R, s = T ++ c :: R ∧ c ∉ T := by
  induction s with
  | nil => exact .inl (by simp)
  | cons b t ih =>
    by_cases h : b = c
    · subst h
      exact .inr ⟨[], t, rfl, by simp⟩
    · rcases ih with h2 | ⟨T, R, rfl, h2⟩
      · exact .inl (by simp [h2, Ne.symm h])
      · exact .inr ⟨b :: T, R, rfl, by simp [h2, Ne.symm h]⟩
theorem indexByte_at (T r : Str) (c : UInt8) (h : c ∉ T) : Lib.indexByte (T ++ c :: r) c = (T.length : Int) := by
  induction T with
  | nil => simp [Lib.indexByte]
  | cons x T ih =>
    have h1 : ¬ x = c := fun e => h (by simp [e])
    have h2 : c ∉ T := fun e => h (by simp [e])
    simp only [List.cons_append, Lib.indexByte, ih h2]
    have : ((T.length : Int) == -1) = false := by simp
    simp [h1, this]
theorem indexByte_none (T : Str) (c : UInt8) (h : c ∉ T) : Lib.indexByte T c = -1 := by
  induction T with
  | nil => simp [Lib.indexByte]
  | cons x T ih =>
    have h1 : ¬ x = c := fun e => h (by simp [e])
    have h2 : c ∉ T := fun e => h (by simp [e])
    simp [Lib.indexByte, ih h2, h1]

/-! ### parts -/
/-- A text in parts, at each slash. -/
def parts : Str → List Str
  | [] => [[]]
  | b :: t => if b = 47 then [] :: parts t else match parts t with
    | [] => [[b]]
    | p :: ps => (b :: p) :: ps
/-- The parts as a text. -/
def joinS : List Str → Str
  | [] => []
  | [p] => p
  | p :: q :: r => p ++ 47 :: joinS (q :: r)

theorem parts_ne (s : Str) : parts s ≠ [] := by
  cases s with
  | nil => simp [parts]
  | cons b t =>
    unfold parts
    split
    · simp
    · split <;> simp
theorem parts_none (s : Str) (h : (47 : UInt8) ∉ s) : parts s = [s] := by
  induction s with
  | nil => rfl
  | cons b t ih =>
    have h1 : ¬ b = 47 := fun e => h (by simp [e])
    have h2 : (47 : UInt8) ∉ t := fun e => h (by simp [e])
    rw [parts, if_neg h1, ih h2]
theorem parts_at (T R : Str) (h : (47 : UInt8) ∉ T) : parts (T ++ 47 :: R) = T :: parts R := by
  induction T with
  | nil => simp [parts]
  | cons b t ih =>
    have h1 : ¬ b = 47 := fun e => h (by simp [e])
    have h2 : (47 : UInt8) ∉ t := fun e => h (by simp [e])
    rw [List.cons_append, parts, if_neg h1, ih h2]

theorem splitK_parts : ∀ (n : Nat) (s : Str), s.length ≤ n → Lib.splitK [47] 0 (Lib.count s [47]) s = parts s := by
  intro n
  induction n with
  | zero =>
    intro s hs
    obtain rfl : s = [] := List.length_eq_zero_iff.1 (by omega)
    rfl
  | succ n ih =>
    intro s hs
    rcases line_cases 47 s with h | ⟨T, R, rfl, h⟩
    · have hi : Lib.index s [47] = -1 := by rw [Lib.index_one]; exact indexByte_none s 47 h
      rw [Lib.count_miss hi, parts_none s h]
      rfl
    · have hi : Lib.index (T ++ 47 :: R) [47] = (T.length : Int) := by rw [Lib.index_one]; exact indexByte_at T R 47 h
      have hd : (T ++ 47 :: R).drop (T.length + ([47] : Str).length) = R := by
        rw [← List.drop_drop, List.drop_left]
        rfl
      rw [Lib.count_hit (by simp) hi, hd, Nat.add_comm, Lib.splitK, if_neg (by rw [hi]; simp only [beq_iff_eq]; omega), hi, Int.toNat_natCast, Nat.add_zero, List.take_left, hd, ih R (by simp only [List.length_append, List.length_cons] at hs; omega), parts_at T R h]

theorem split_eq (s : Str) (hs : s.length ≤ 1000000) : strings_Split.f s [47] = some (parts s) := by
  unfold strings_Split.f
  rw [if_pos ⟨by omega, by decide⟩]
  unfold splitL
  rw [Lib.splitB_data]
  congr 1
  exact splitK_parts s.length s (Nat.le_refl _)

def clean (ps : List Str) : Prop := ∀ p ∈ ps, (47 : UInt8) ∉ p
theorem parts_clean (s : Str) : clean (parts s) := by
  induction s with
  | nil => intro p hp; simp [parts] at hp; simp [hp]
  | cons b t ih =>
    unfold parts
    split
    · intro p hp
      rcases List.mem_cons.1 hp with rfl | hp
      · simp
      · exact ih p hp
    · rename_i hb
      split
      · intro p hp
        simp at hp
        subst hp
        simpa using Ne.symm hb
      · rename_i q qs e
        intro p hp
        rcases List.mem_cons.1 hp with rfl | hp
        · have := ih q (by rw [e]; simp)
          simp [this, Ne.symm hb]
        · exact ih p (by rw [e]; simp [hp])
theorem parts_join : ∀ (ps : List Str), ps ≠ [] → clean ps → parts (joinS ps) = ps
  | [], h, _ => absurd rfl h
  | [p], _, hc => parts_none p (hc p (by simp))
  | p :: q :: r, _, hc => by
    rw [joinS, parts_at p _ (hc p (by simp)), parts_join (q :: r) (by simp) (fun x hx => hc x (by simp at hx ⊢; exact .inr hx))]
theorem join_parts (s : Str) : joinS (parts s) = s := by
  induction s with
  | nil => rfl
  | cons b t ih =>
    unfold parts
    split
    · rename_i hb
      cases e : parts t with
      | nil => exact absurd e (parts_ne t)
      | cons q qs =>
        rw [joinS, ← e, ih, hb]
        rfl
    · cases e : parts t with
      | nil => exact absurd e (parts_ne t)
      | cons q qs =>
        rw [e] at ih
        rw [← ih]
        cases qs with
        | nil => rfl
        | cons r rs => rfl

/-- How long a join is. -/
def tot (ps : List Str) : Nat := (ps.map (fun p => p.length + 1)).sum
theorem join_len : ∀ ps : List Str, (joinS ps).length ≤ tot ps
  | [] => by simp [joinS]
  | [p] => by simp [joinS, tot]
  | p :: q :: r => by
    have := join_len (q :: r)
    simp only [joinS, tot, List.map_cons, List.sum_cons, List.length_append, List.length_cons] at this ⊢
    omega
theorem tot_parts (s : Str) : tot (parts s) = s.length + 1 := by
  induction s with
  | nil => rfl
  | cons b t ih =>
    unfold parts
    split
    · simp only [tot, List.map_cons, List.sum_cons, List.length_nil, List.length_cons] at ih ⊢
      omega
    · cases e : parts t with
      | nil => exact absurd e (parts_ne t)
      | cons q qs =>
        rw [e] at ih
        simp only [tot, List.map_cons, List.sum_cons, List.length_cons] at ih ⊢
        omega
theorem len_tot (ps : List Str) : ps.length ≤ tot ps := by
  induction ps with
  | nil => simp
  | cons p ps ih =>
    simp only [tot, List.map_cons, List.sum_cons, List.length_cons] at ih ⊢
    omega
theorem tot_cons (p : Str) (ps : List Str) : tot (p :: ps) = p.length + 1 + tot ps := by simp [tot]
theorem tot_append (a b : List Str) : tot (a ++ b) = tot a + tot b := by simp [tot]

end Go.Proofs.YtimggfeejbfdnaaDoor
