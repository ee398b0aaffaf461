/- Plain laws: the stage's theorem on a path's dots. -/
import Derived.Test.YtimggfeejbfdnaaDoorLB
set_option maxRecDepth 1000000
namespace Go.Proofs.YtimggfeejbfdnaaDoor
open Go.Ev Go.Proofs.Tryd

theorem awake_true : scullerylaw09_awake.f KK = some true := by kernel_rfl

/-- Does a part that is dots begin here, between slashes? -/
def hd : Str → Bool
  | 47 :: 46 :: 47 :: _ => true
  | 47 :: 46 :: 46 :: 47 :: _ => true
  | _ => false

theorem hd_other (a : UInt8) (t : Str) (h : a ≠ 47) : hd (a :: t) = false := by
  unfold hd
  split
  · rename_i e
    simp only [List.cons.injEq] at e
    exact absurd e.1 h
  · rename_i e
    simp only [List.cons.injEq] at e
    exact absurd e.1 h
  · rfl

theorem hd2 (a : UInt8) (t : Str) (h : a ≠ 46) : hd (47 :: a :: t) = false := by
  unfold hd
  split
  · rename_i e
    simp only [List.cons.injEq] at e
    exact absurd e.2.1 h
  · rename_i e
    simp only [List.cons.injEq] at e
    exact absurd e.2.1 h
  · rfl
theorem hd3 (a : UInt8) (t : Str) (h : a ≠ 47) (h2 : a ≠ 46) : hd (47 :: 46 :: a :: t) = false := by
  unfold hd
  split
  · rename_i e
    simp only [List.cons.injEq] at e
    exact absurd e.2.2.1 h
  · rename_i e
    simp only [List.cons.injEq] at e
    exact absurd e.2.2.1 h2
  · rfl
theorem hd4 (a : UInt8) (t : Str) (h : a ≠ 47) : hd (47 :: 46 :: 46 :: a :: t) = false := by
  unfold hd
  split
  · rename_i e
    simp only [List.cons.injEq] at e
    exact absurd e.2.2.1 (by decide)
  · rename_i e
    simp only [List.cons.injEq] at e
    exact absurd e.2.2.2.1 h
  · rfl

/-- A text of parts, each behind a slash, and a slash at its end. -/
def wall (ps : List Str) : Str := (ps.map fun p => 47 :: p).flatten ++ [47]
theorem wall_cons (p : Str) (ps : List Str) : wall (p :: ps) = 47 :: (p ++ wall ps) := by simp [wall]
theorem wall_head (ps : List Str) : ∃ t, wall ps = 47 :: t := by
  cases ps with
  | nil => exact ⟨[], rfl⟩
  | cons p ps => exact ⟨p ++ wall ps, wall_cons p ps⟩
theorem wall_join : ∀ (p : Str) (ps : List Str), wall (p :: ps) = 47 :: joinS (p :: ps) ++ [47]
  | p, [] => by simp [wall, joinS]
  | p, q :: r => by
    rw [wall_cons, wall_join q r, joinS]
    simp

theorem hd_wall (p : Str) (ps : List Str) (hc : (47 : UInt8) ∉ p) (hp : dotty p = false) : hd (wall (p :: ps)) = false := by
  rw [wall_cons]
  obtain ⟨t, ht⟩ := wall_head ps
  rw [ht]
  match p, hc, hp with
  | [], _, _ => exact (show hd (47 :: 47 :: t) = false by unfold hd; split <;> simp_all)
  | [a], hc, hp =>
    have ha : a ≠ 47 := fun e => hc (by simp [e])
    have ha2 : a ≠ 46 := fun e => by subst e; exact absurd hp (by decide)
    show hd (47 :: a :: 47 :: t) = false
    unfold hd
    split
    · rename_i e; simp_all
    · rename_i e; simp_all
    · rfl
  | [a, b], hc, hp =>
    have ha : a ≠ 47 := fun e => hc (by simp [e])
    have hb : b ≠ 47 := fun e => hc (by simp [e])
    show hd (47 :: a :: b :: 47 :: t) = false
    unfold hd
    split
    · rename_i e; simp_all
    · rename_i e
      simp only [List.cons.injEq] at e
      obtain ⟨_, rfl, rfl, _⟩ := e
      exact absurd hp (by decide)
    · rfl
  | a :: b :: c :: r, hc, hp =>
    have hb : b ≠ 47 := fun e => hc (by simp [e])
    have hcc : c ≠ 47 := fun e => hc (by simp [e])
    show hd (47 :: a :: b :: c :: (r ++ 47 :: t)) = false
    unfold hd
    split
    · rename_i e; simp_all
    · rename_i e; simp_all
    · rfl

theorem hd_all : ∀ (ps : List Str), clean ps → plainL ps → ∀ i, hd ((wall ps).drop i) = false
  | [], _, _, i => by
    match i with
    | 0 => rfl
    | i + 1 => simp [wall, hd]
  | p :: ps, hc, hp, i => by
    have hcp := hc p (by simp)
    have hps : clean ps := fun q hq => hc q (by simp [hq])
    have hpp : plainL ps := fun q hq => hp q (by simp [hq])
    by_cases h0 : i = 0
    · subst h0
      rw [List.drop_zero]
      exact hd_wall p ps hcp (hp p (by simp))
    · obtain ⟨j, rfl⟩ : ∃ j, i = j + 1 := ⟨i - 1, by omega⟩
      rw [wall_cons, List.drop_succ_cons]
      by_cases hj : j < p.length
      · have e : (p ++ wall ps).drop j = p[j] :: (p ++ wall ps).drop (j + 1) := by
          rw [List.drop_eq_getElem_cons (show j < (p ++ wall ps).length by rw [List.length_append]; omega), List.getElem_append_left hj]
        rw [e]
        exact hd_other _ _ (fun h => hcp (h ▸ List.getElem_mem hj))
      · obtain ⟨d, rfl⟩ : ∃ d, j = p.length + d := ⟨j - p.length, by omega⟩
        rw [← List.drop_drop, List.drop_left]
        exact hd_all ps hps hpp d

theorem byte_eq (s : Str) (i : Nat) (h : i < s.length) (c : Nat) (hc : c < 256) : (bt s (i : Int) == (c : Int)) = (s[i] == UInt8.ofNat c) := by
  rw [bt_at s i h]
  exact nat_byte s[i] c hc

theorem hd_step (s : Str) (i : Nat) (hl : i + 2 < s.length) (hs : s.length ≤ 100000) :
    (if ((bt s (i : Int)) == 47) = true then (if (0 : Int) ≤ w64 ((i : Int) + 1) then (if w64 ((i : Int) + 1) < (s.length : Int) then (if ((bt s (w64 ((i : Int) + 1))) == 46) = true then (if (0 : Int) ≤ w64 ((i : Int) + 2) then (if ((bt s (w64 ((i : Int) + 2))) == 47) = true then some true else (if ((bt s (w64 ((i : Int) + 2))) == 46) = true then (if w64 ((i : Int) + 3) < (s.length : Int) then (if (0 : Int) ≤ w64 ((i : Int) + 3) then some ((bt s (w64 ((i : Int) + 3))) == 47) else none) else some false) else some false)) else none) else some false) else none) else none) else some false) = some (hd (s.drop i)) := by
  have e1 : w64 ((i : Int) + 1) = ((i + 1 : Nat) : Int) := by rw [w64_id (by omega) (by omega)]; omega
  have e2 : w64 ((i : Int) + 2) = ((i + 2 : Nat) : Int) := by rw [w64_id (by omega) (by omega)]; omega
  have e3 : w64 ((i : Int) + 3) = ((i + 3 : Nat) : Int) := by rw [w64_id (by omega) (by omega)]; omega
  have b0 : (bt s (i : Int) == 47) = (s[i] == 47) := byte_eq s i (by omega) 47 (by decide)
  have b1 : (bt s ((i + 1 : Nat) : Int) == 46) = (s[i + 1] == 46) := byte_eq s (i + 1) (by omega) 46 (by decide)
  have b2 : (bt s ((i + 2 : Nat) : Int) == 47) = (s[i + 2] == 47) := byte_eq s (i + 2) (by omega) 47 (by decide)
  have b3 : (bt s ((i + 2 : Nat) : Int) == 46) = (s[i + 2] == 46) := byte_eq s (i + 2) (by omega) 46 (by decide)
  have d0 : s.drop i = s[i] :: s[i + 1] :: s[i + 2] :: s.drop (i + 3) := by
    rw [List.drop_eq_getElem_cons (show i < s.length by omega), List.drop_eq_getElem_cons (show i + 1 < s.length by omega), List.drop_eq_getElem_cons (show i + 1 + 1 < s.length by omega)]
  rw [e1, e2, e3, b0, b1, b2, b3, d0]
  by_cases h0 : s[i] = 47
  · rw [h0, if_pos (by decide), if_pos (by omega), if_pos (by omega)]
    by_cases h1 : s[i + 1] = 46
    · rw [h1, if_pos (by decide), if_pos (by omega)]
      by_cases h2 : s[i + 2] = 47
      · rw [h2, if_pos (by decide)]
        rfl
      · rw [if_neg (by simpa using h2)]
        by_cases h3 : s[i + 2] = 46
        · rw [h3, if_pos (by decide)]
          by_cases h4 : i + 3 < s.length
          · have b4 : (bt s ((i + 3 : Nat) : Int) == 47) = (s[i + 3] == 47) := byte_eq s (i + 3) h4 47 (by decide)
            rw [if_pos (by omega), if_pos (by omega), b4, List.drop_eq_getElem_cons h4]
            congr 1
            by_cases h5 : s[i + 3] = 47
            · rw [h5]
              rfl
            · have : (s[i + 3] == 47) = false := by simpa using h5
              rw [this, hd4 _ _ h5]
          · rw [if_neg (by omega), List.drop_eq_nil_of_le (by omega)]
            rfl
        · rw [if_neg (by simpa using h3), hd3 _ _ h2 h3]
    · rw [if_neg (by simpa using h1), hd2 _ _ h1]
  · rw [if_neg (by simpa using h0), hd_other _ _ h0]

theorem check_loop (p0 p1 d : Str) (t1 : Bool) (hs : (d ++ [47]).length ≤ 100000) (hno : ∀ i, hd ((d ++ [47]).drop i) = false) : ∀ (j i k : Nat), i + j = (d ++ [47]).length → j < k →
    scullerylaw09_TargetDots.l0 k p0 p1 t1 d (i : Int) = some (.inl ())
  | 0, i, k, hi, hk => by
    obtain ⟨k, rfl⟩ : ∃ q, k = q + 1 := ⟨k - 1, by omega⟩
    rw [scullerylaw09_TargetDots.l0, w64_id (n := (i : Int) + 2) (by omega) (by omega), if_neg (by omega)]
  | j + 1, i, k, hi, hk => by
    obtain ⟨k, rfl⟩ : ∃ q, k = q + 1 := ⟨k - 1, by omega⟩
    by_cases h2 : i + 2 < (d ++ [47]).length
    · rw [scullerylaw09_TargetDots.l0, if_pos (by rw [w64_id (n := (i : Int) + 2) (by omega) (by omega)]; omega), if_pos (by omega), if_pos (by omega), hd_step (d ++ [47]) i h2 hs, Option.bind_some, hno i, if_neg (by decide), w64_succ i (by omega)]
      exact check_loop p0 p1 d t1 hs hno j (i + 1) k (by omega) (by omega)
    · rw [scullerylaw09_TargetDots.l0, w64_id (n := (i : Int) + 2) (by omega) (by omega), if_neg (by omega)]

theorem slash_loop (p0 p1 d : Str) (t1 : Bool) (hs : p1.length ≤ 100000) : ∀ (j i k : Nat), i + j = p1.length → j < k →
    scullerylaw09_TargetDots.l1 k p0 p1 t1 d (i : Int) = some (if (p1.drop i).contains 47 then .inr t1 else .inl ())
  | 0, i, k, hi, hk => by
    obtain ⟨k, rfl⟩ : ∃ q, k = q + 1 := ⟨k - 1, by omega⟩
    rw [scullerylaw09_TargetDots.l1, if_neg (by omega), List.drop_eq_nil_of_le (by omega)]
    rfl
  | j + 1, i, k, hi, hk => by
    obtain ⟨k, rfl⟩ : ∃ q, k = q + 1 := ⟨k - 1, by omega⟩
    have hl : i < p1.length := by omega
    have hd : p1.drop i = p1[i] :: p1.drop (i + 1) := List.drop_eq_getElem_cons hl
    have b0 : (bt p1 (i : Int) == 47) = (p1[i] == 47) := byte_eq p1 i hl 47 (by decide)
    rw [scullerylaw09_TargetDots.l1, if_pos (by omega), if_pos (by omega), b0, w64_succ i (by omega), slash_loop p0 p1 d t1 hs j (i + 1) k (by omega) (by omega), hd]
    by_cases h : p1[i] = 47
    · rw [h, if_pos (by decide)]
      rfl
    · have h1 : (p1[i] == 47) = false := by simpa using h
      have h2 : (47 == p1[i]) = false := by simpa using Ne.symm h
      rw [h1, if_neg (by decide), List.contains_cons, h2, Bool.false_or]

theorem dots_law (path part : Str) : scullerylaw09_TargetDots.f KK path part = some true := by
  have hk : KK = 2097152 := rfl
  unfold scullerylaw09_TargetDots.f
  rw [awake_true, Option.bind_some]
  by_cases h1 : (path.length : Int) > 300
  · rw [if_pos h1, Option.bind_some, if_pos rfl]
  rw [if_neg h1]
  by_cases h2 : (part.length : Int) > 100
  · rw [if_pos h2, Option.bind_some, if_pos rfl]
  rw [if_neg h2]
  cases path with
  | nil => rfl
  | cons a b =>
    have hl : (a :: b : Str).length = b.length + 1 := rfl
    have ha : bt (a :: b) 0 = (a.toNat : Int) := rfl
    have hb47 : ((a.toNat : Int) != 47) = !(a == 47) := by
      have := nat_byte a 47 (by decide)
      show (!((a.toNat : Int) == 47)) = _
      have e : ((a.toNat : Int) == 47) = (a == 47) := this
      rw [e]
    rw [if_neg (by simp only [beq_iff_eq]; omega), if_pos (by omega), ha, hb47, Option.bind_some]
    by_cases h47 : a = 47
    · subst h47
      rw [if_neg (by decide)]
      have hlen := dotsS_len b
      rw [dots_eq b (by omega), Option.bind_some]
      obtain ⟨m, hm⟩ : ∃ m, m = joinS (dotsGo [] (parts b)) := ⟨_, rfl⟩
      have hdm : dotsS b = 47 :: m := by rw [hm]; rfl
      have hml : m.length ≤ b.length + 1 := by
        rw [hdm, List.length_cons] at hlen
        omega
      have hagain : target_Dots.f KK (dotsS b) = some (dotsS b) := by
        rw [hdm, dots_eq m (by omega), hm, dotsS_again b]
        rfl
      rw [hagain, Option.bind_some]
      have e1 : (!(dotsS b == dotsS b)) = false := by simp
      have e2 : (dotsS b == ([] : Str)) = false := by rw [hdm]; rfl
      have e3 : bt (dotsS b) 0 = 47 := by rw [hdm]; rfl
      have hpos : 0 < ((dotsS b).length : Int) := by rw [hdm, List.length_cons]; omega
      rw [e1, if_neg (by decide), e2, if_neg (by decide), if_pos hpos, e3, Option.bind_some, if_neg (by decide), if_pos (le_max (by simp only [List.length_cons, List.length_nil]; omega))]
      have hwall : dotsS b ++ [47] = wall (dotsGo [] (parts b)) := by
        cases e : dotsGo [] (parts b) with
        | nil => exact absurd e (dotsGo_ne _ _ (parts_ne b))
        | cons q r =>
          rw [wall_join, ← e]
          rfl
      have hno : ∀ i, hd ((dotsS b ++ [47]).drop i) = false := by
        rw [hwall]
        exact hd_all _ (kept_clean b) (kept_plain b)
      have hsl : (dotsS b ++ [47]).length ≤ 100000 := by simp only [List.length_append, List.length_cons, List.length_nil]; omega
      rw [show (0 : Int) = ((0 : Nat) : Int) from rfl, check_loop (47 :: b) part (dotsS b) true hsl hno (dotsS b ++ [47]).length 0 KK (by omega) (by omega), Option.bind_some]
      simp only []
      rw [slash_loop (47 :: b) part (dotsS b) true (by omega) part.length 0 KK (by omega) (by omega), Option.bind_some, List.drop_zero]
      cases hsl2 : part.contains 47 with
      | true => rfl
      | false =>
        have hns : (47 : UInt8) ∉ part := by
          intro h
          have := List.contains_iff_mem.2 h
          rw [hsl2] at this
          cases this
        simp only [Bool.false_eq_true, if_false]
        cases hdt : part == [46] || part == [46, 46] with
        | true => rw [if_pos rfl]
        | false =>
          have hdo : dotty part = false := hdt
          rw [if_neg (by decide), if_pos trivial, if_pos (le_max (by simp only [List.length_cons, List.length_nil]; omega)), if_pos (le_max (by simp only [List.length_append, List.length_cons, List.length_nil]; omega)), if_pos (le_max (by simp only [List.length_append, List.length_cons, List.length_nil]; omega))]
          have s1 : ((([47] ++ part) ++ [47, 46, 46]) ++ 47 :: b : Str) = 47 :: (part ++ 47 :: ([46, 46] ++ 47 :: b)) := by simp
          have s2 : ([47, 46] ++ 47 :: b : Str) = 47 :: ([46] ++ 47 :: b) := rfl
          rw [s1, dots_eq _ (by simp only [List.length_append, List.length_cons, List.length_nil]; omega), dotsS_up part b hns hdo, Option.bind_some, if_pos (by simp), if_pos (le_max (by simp only [List.length_cons, List.length_nil]; omega)), s2, dots_eq _ (by simp only [List.length_append, List.length_cons, List.length_nil]; omega), dotsS_here b, Option.bind_some, Option.bind_some]
          simp
    · have : (!(a == 47)) = true := by simpa using h47
      rw [this, if_pos rfl]

end Go.Proofs.YtimggfeejbfdnaaDoor
