/- Plain laws: a path without the parts that are dots. -/
import Derived.Test.YtimggfeejbfdnaaDoorLA
set_option maxRecDepth 1000000
namespace Go.Proofs.YtimggfeejbfdnaaDoor
open Go.Ev Go.Proofs.Tryd

/-! ### Join -/
theorem get_at (ps : List Str) (i : Nat) (h : i < ps.length) : Ev.get ps (i : Int) = ps[i] := by
  simp [Ev.get, h]
theorem put_eq (a p : Str) (h : a.length + p.length ≤ 4294967296) : strings_Builder_WriteString_ps0t.f a p = some ((p.length : Int), a ++ p) := by
  unfold strings_Builder_WriteString_ps0t.f strings_Builder_copyCheck_ps0t.f
  rw [Option.bind_some, if_pos h]

theorem join_size (ps : List Str) (p1 : Str) (ht : tot ps ≤ 100000) : ∀ (j i k : Nat) (v : Int), i + j = ps.length → j < k → 0 ≤ v → v ≤ 1000000 - tot (ps.drop i) → ∃ n : Int, strings_Join.l0 k ps p1 v (i : Int) = some n ∧ v ≤ n ∧ n ≤ v + tot (ps.drop i)
  | 0, i, k, v, hi, hk, h0, h1 => by
    obtain ⟨k, rfl⟩ : ∃ q, k = q + 1 := ⟨k - 1, by omega⟩
    exact ⟨v, by rw [strings_Join.l0, if_neg (by omega)], by omega, by omega⟩
  | j + 1, i, k, v, hi, hk, h0, h1 => by
    obtain ⟨k, rfl⟩ : ∃ q, k = q + 1 := ⟨k - 1, by omega⟩
    have hl : i < ps.length := by omega
    have hd : ps.drop i = ps[i] :: ps.drop (i + 1) := List.drop_eq_getElem_cons hl
    have hlt := len_tot ps
    rw [hd, tot_cons] at h1
    have e1 : w64 ((9223372036854775807 : Int) - v) = 9223372036854775807 - v := w64_id (by omega) (by omega)
    have e2 : w64 (v + (ps[i].length : Int)) = v + (ps[i].length : Int) := w64_id (by omega) (by omega)
    obtain ⟨n, hn, h2, h3⟩ := join_size ps p1 ht j (i + 1) k (v + ps[i].length) (by omega) (by omega) (by omega) (by omega)
    refine ⟨n, ?_, by omega, ?_⟩
    · rw [strings_Join.l0, if_pos (by omega), if_pos (by omega), get_at ps i hl, e1, if_neg (by omega), Option.bind_some, e2, w64_succ i (by omega)]
      exact hn
    · rw [hd, tot_cons]
      omega

theorem join_more (p : Str) (ps : List Str) (ht : tot (p :: ps) ≤ 100000) : ∀ (j i k : Nat) (acc : Str), i + j = ps.length → j < k → acc.length + tot (ps.drop i) ≤ 1000000 →
    strings_Join.l1 k (p :: ps) [47] acc (i : Int) = some (acc ++ ((ps.drop i).map (fun q => 47 :: q)).flatten)
  | 0, i, k, acc, hi, hk, h1 => by
    obtain ⟨k, rfl⟩ : ∃ q, k = q + 1 := ⟨k - 1, by omega⟩
    have hd : (p :: ps).drop (Int.toNat (1 : Int)) = ps := rfl
    rw [strings_Join.l1, hd, if_neg (by omega), List.drop_eq_nil_of_le (by omega)]
    simp
  | j + 1, i, k, acc, hi, hk, h1 => by
    obtain ⟨k, rfl⟩ : ∃ q, k = q + 1 := ⟨k - 1, by omega⟩
    have hl : i < ps.length := by omega
    have hd0 : (p :: ps).drop (Int.toNat (1 : Int)) = ps := rfl
    have hd : ps.drop i = ps[i] :: ps.drop (i + 1) := List.drop_eq_getElem_cons hl
    rw [hd, tot_cons] at h1
    have hlp := len_tot (p :: ps)
    simp only [List.length_cons] at hlp
    rw [strings_Join.l1, hd0, if_pos (by omega), if_pos (by omega), put_eq acc [47] (by simp only [List.length_cons, List.length_nil]; omega), Option.bind_some, get_at ps i hl]
    simp only []
    rw [put_eq (acc ++ [47]) ps[i] (by simp only [List.length_append, List.length_cons, List.length_nil]; omega), Option.bind_some, w64_succ i (by omega)]
    simp only []
    rw [join_more p ps ht j (i + 1) k _ (by omega) (by omega) (by simp only [List.length_append, List.length_cons, List.length_nil]; omega), hd, List.map_cons, List.flatten_cons]
    simp only [List.append_assoc, List.cons_append, List.nil_append]

theorem flat_join : ∀ (p : Str) (ps : List Str), p ++ (ps.map (fun q => 47 :: q)).flatten = joinS (p :: ps)
  | p, [] => by simp [joinS]
  | p, q :: r => by
    rw [joinS, ← flat_join q r]
    simp

theorem join_eq (ps : List Str) (ht : tot ps ≤ 100000) : strings_Join.f KK ps [47] = some (joinS ps) := by
  have hk : KK = 2097152 := rfl
  unfold strings_Join.f
  cases ps with
  | nil => rfl
  | cons p r =>
    cases r with
    | nil => rfl
    | cons q r =>
      have hl : (p :: q :: r).length = r.length + 2 := by simp
      have hlt := len_tot (p :: q :: r)
      rw [if_neg (by simp only [beq_iff_eq]; omega), if_neg (by simp only [beq_iff_eq]; omega)]
      have e1 : w64 (((p :: q :: r).length : Int) - 1) = (r.length : Int) + 1 := by rw [w64_id (by omega) (by omega)]; omega
      have e2 : 1 ≤ w64 ((9223372036854775807 : Int).tdiv ((r.length : Int) + 1)) ∧ 1 < w64 ((9223372036854775807 : Int).tdiv ((r.length : Int) + 1)) := by
        rw [Int.tdiv_eq_ediv_of_nonneg (by omega)]
        have h1 : (2 : Int) ≤ 9223372036854775807 / ((r.length : Int) + 1) := by
          rw [Int.le_ediv_iff_mul_le (by omega)]
          omega
        have h2 : (9223372036854775807 : Int) / ((r.length : Int) + 1) ≤ 9223372036854775807 := Int.ediv_le_self _ (by omega)
        rw [w64_id (by omega) (by omega)]
        omega
      have e3 : w64 ((([47] : Str).length : Int) * ((r.length : Int) + 1)) = (r.length : Int) + 1 := by
        rw [w64_id (by simp only [List.length_cons, List.length_nil]; omega) (by simp only [List.length_cons, List.length_nil]; omega)]
        simp only [List.length_cons, List.length_nil]
        omega
      have e4 : w64 ((0 : Int) + ((r.length : Int) + 1)) = (r.length : Int) + 1 := by rw [w64_id (by omega) (by omega)]; omega
      rw [e1, if_pos (by decide), if_pos (by omega), if_neg (by simp only [List.length_cons, List.length_nil]; omega), e3, e4, Option.bind_some]
      obtain ⟨n, hn, h2, h3⟩ := join_size (p :: q :: r) [47] ht (p :: q :: r).length 0 KK ((r.length : Int) + 1) (by omega) (by omega) (by omega) (by rw [List.drop_zero]; omega)
      rw [List.drop_zero] at h3
      rw [show strings_Join.l0 KK (p :: q :: r) [47] ((r.length : Int) + 1) 0 = some n from hn, Option.bind_some]
      have e5 : w64 ((0 : Int) + n) = n := by rw [w64_id (by omega) (by omega)]; omega
      have hg : strings_Builder_Grow_pnsn.f n = some [] := by
        unfold strings_Builder_Grow_pnsn.f strings_Builder_copyCheck_pnsn.f strings_Builder_grow_ps0sn.f
        rw [Option.bind_some, if_neg (by omega), Option.bind_some, if_pos (by omega), e5, if_pos (by omega), if_pos (by omega)]
        rfl
      have hp0 : Ev.get (p :: q :: r) 0 = p := rfl
      have htp := tot_cons p (q :: r)
      rw [hg, Option.bind_some, if_pos (by omega), hp0, put_eq [] p (by simp only [List.length_nil]; omega), Option.bind_some, if_pos (by omega), List.nil_append]
      have hm := join_more p (q :: r) ht (q :: r).length 0 KK p (by omega) (by have e9 : (q :: r).length + 1 = (p :: q :: r).length := rfl; omega) (by rw [List.drop_zero]; omega)
      rw [List.drop_zero, flat_join] at hm
      rw [show strings_Join.l1 KK (p :: q :: r) [47] p 0 = some (joinS (p :: q :: r)) from hm, Option.bind_some]
      rfl

/-! ### Dots -/
def dotty (p : Str) : Bool := p == [46] || p == [46, 46]
def back (kept : List Str) (p : Str) : List Str := if p == [46, 46] then kept.take (kept.length - 1) else kept
def dotsGo : List Str → List Str → List Str
  | kept, [] => kept
  | kept, p :: ps => if dotty p = false then dotsGo (back kept p ++ [p]) ps else if ps = [] then dotsGo (back kept p ++ [[]]) ps else dotsGo (back kept p) ps

theorem dotsGo_clean : ∀ (ps kept : List Str), clean kept → clean ps → clean (dotsGo kept ps)
  | [], kept, hk, _ => hk
  | p :: ps, kept, hk, hp => by
    have hb : clean (back kept p) := by
      unfold back
      split
      · intro q hq
        exact hk q (List.mem_of_mem_take hq)
      · exact hk
    have hps : clean ps := fun q hq => hp q (by simp [hq])
    unfold dotsGo
    split
    · refine dotsGo_clean ps _ ?_ hps
      intro q hq
      rcases List.mem_append.1 hq with h | h
      · exact hb q h
      · simp at h
        subst h
        exact hp q (by simp)
    · split
      · refine dotsGo_clean ps _ ?_ hps
        intro q hq
        rcases List.mem_append.1 hq with h | h
        · exact hb q h
        · simp at h
          subst h
          simp
      · exact dotsGo_clean ps _ hb hps
def plainL (ps : List Str) : Prop := ∀ p ∈ ps, dotty p = false
theorem dotsGo_plain : ∀ (ps kept : List Str), plainL kept → plainL (dotsGo kept ps)
  | [], kept, hk => hk
  | p :: ps, kept, hk => by
    have hb : plainL (back kept p) := by
      unfold back
      split
      · intro q hq
        exact hk q (List.mem_of_mem_take hq)
      · exact hk
    unfold dotsGo
    split
    · rename_i hd
      refine dotsGo_plain ps _ ?_
      intro q hq
      rcases List.mem_append.1 hq with h | h
      · exact hb q h
      · simp at h
        subst h
        exact hd
    · split
      · refine dotsGo_plain ps _ ?_
        intro q hq
        rcases List.mem_append.1 hq with h | h
        · exact hb q h
        · simp at h
          subst h
          rfl
      · exact dotsGo_plain ps _ hb
theorem dotsGo_ne : ∀ (ps kept : List Str), ps ≠ [] → dotsGo kept ps ≠ []
  | [], _, h => absurd rfl h
  | [p], kept, _ => by
    unfold dotsGo
    split
    · simp [dotsGo]
    · simp [dotsGo]
  | p :: q :: r, kept, _ => by
    unfold dotsGo
    split
    · exact dotsGo_ne (q :: r) _ (by simp)
    · rw [if_neg (by simp)]
      exact dotsGo_ne (q :: r) _ (by simp)
theorem dotsGo_id : ∀ (ps kept : List Str), plainL ps → dotsGo kept ps = kept ++ ps
  | [], kept, _ => by simp [dotsGo]
  | p :: ps, kept, h => by
    have hd := h p (by simp)
    have hb : back kept p = kept := by
      unfold back
      unfold dotty at hd
      simp only [Bool.or_eq_false_iff] at hd
      rw [hd.2]
      rfl
    unfold dotsGo
    rw [if_pos hd, hb, dotsGo_id ps _ (fun q hq => h q (by simp [hq]))]
    simp
theorem tot_take (ps : List Str) (n : Nat) : tot (ps.take n) ≤ tot ps := by
  conv => rhs; rw [← List.take_append_drop n ps]
  rw [tot_append]
  omega
theorem tot_back (kept : List Str) (p : Str) : tot (back kept p) ≤ tot kept := by
  unfold back
  split
  · exact tot_take _ _
  · exact Nat.le_refl _
theorem dotsGo_tot : ∀ (ps kept : List Str), tot (dotsGo kept ps) ≤ tot kept + tot ps
  | [], kept => by simp [dotsGo]
  | p :: ps, kept => by
    have hb := tot_back kept p
    have h1 := dotsGo_tot ps (back kept p ++ [p])
    have h2 := dotsGo_tot ps (back kept p ++ [[]])
    have h3 := dotsGo_tot ps (back kept p)
    have e1 : tot [p] = p.length + 1 := by simp [tot]
    have e2 : tot [([] : Str)] = 1 := by simp [tot]
    rw [tot_append, e1] at h1
    rw [tot_append, e2] at h2
    rw [tot_cons]
    unfold dotsGo
    split
    · omega
    · split <;> omega

theorem dots_loop (ps : List Str) (ht : tot ps ≤ 10000) : ∀ (j i k : Nat) (kept : List Str), i + j = ps.length → j < k → kept.length ≤ i →
    target_Dots.l0 k ps kept (i : Int) = some (dotsGo kept (ps.drop i))
  | 0, i, k, kept, hi, hk, _ => by
    obtain ⟨k, rfl⟩ : ∃ q, k = q + 1 := ⟨k - 1, by omega⟩
    rw [target_Dots.l0, if_neg (by omega), List.drop_eq_nil_of_le (by omega)]
    rfl
  | j + 1, i, k, kept, hi, hk, hkl => by
    obtain ⟨k, rfl⟩ : ∃ q, k = q + 1 := ⟨k - 1, by omega⟩
    have hl : i < ps.length := by omega
    have hlt := len_tot ps
    have hd : ps.drop i = ps[i] :: ps.drop (i + 1) := List.drop_eq_getElem_cons hl
    have hmx : mxI (w64 ((kept.length : Int) - 1)) 0 = ((kept.length - 1 : Nat) : Int) := by
      rw [w64_id (by omega) (by omega)]
      unfold mxI
      split <;> omega
    have hb : (if (ps[i] == ([46, 46])) = true then (if (0 : Int) ≤ mxI (w64 ((kept.length : Int) - 1)) 0 then (if mxI (w64 ((kept.length : Int) - 1)) 0 ≤ (kept.length : Int) then some (kept.take (Int.toNat (mxI (w64 ((kept.length : Int) - 1)) 0))) else none) else none) else some kept) = some (back kept ps[i]) := by
      rw [hmx]
      unfold back
      split
      · rw [if_pos (by omega), if_pos (by omega), Int.toNat_natCast]
      · rfl
    have hbl : (back kept ps[i]).length ≤ i := by
      unfold back
      split
      · rw [List.length_take]; omega
      · exact hkl
    have hlast : (((i : Int) == (w64 ((ps.length : Int) - 1))) = true) ↔ ps.drop (i + 1) = [] := by
      rw [w64_id (by omega) (by omega), List.drop_eq_nil_iff, beq_iff_eq]
      omega
    rw [target_Dots.l0, if_pos (by omega), if_pos (by omega), get_at ps i hl, hb, Option.bind_some, w64_succ i (by omega), hd, dotsGo]
    unfold dotty
    cases hdt : ps[i] == [46] || ps[i] == [46, 46] with
    | false =>
      rw [if_pos (by decide), if_pos (by simp only [List.length_cons, List.length_nil]; omega), Option.bind_some, if_pos rfl]
      exact dots_loop ps ht j (i + 1) k _ (by omega) (by omega) (by simp; omega)
    | true =>
      rw [if_neg (show ¬ (!true) = true by decide), if_neg (show ¬ (true = false) by decide)]
      by_cases hz : ps.drop (i + 1) = []
      · rw [if_pos (hlast.2 hz), if_pos hz, if_pos (by simp only [List.length_cons, List.length_nil]; omega), Option.bind_some]
        exact dots_loop ps ht j (i + 1) k _ (by omega) (by omega) (by simp; omega)
      · rw [if_neg (fun h => hz (hlast.1 h)), if_neg hz, Option.bind_some]
        exact dots_loop ps ht j (i + 1) k _ (by omega) (by omega) (by omega)

theorem cutPrefix_slash (b : Str) : strings_CutPrefix.f (47 :: b) [47] = some (b, true) := by
  unfold strings_CutPrefix.f stringslite_CutPrefix.f stringslite_HasPrefix.f
  have hl : (([47] : Str).length : Int) ≤ ((47 :: b : Str).length : Int) := by simp only [List.length_cons, List.length_nil]; omega
  have e : (((47 :: b : Str).take (([47] : Str).length : Int).toNat) == [47]) = true := by
    show (([47] : Str) == [47]) = true
    decide
  rw [if_pos hl, if_pos hl, e, Option.bind_some, Option.bind_some, if_neg (by decide), if_pos hl]
  rfl

def dotsS (b : Str) : Str := 47 :: joinS (dotsGo [] (parts b))
theorem dots_eq (b : Str) (hb : b.length ≤ 2000) : target_Dots.f KK (47 :: b) = some (dotsS b) := by
  have hk : KK = 2097152 := rfl
  have ht := tot_parts b
  have hl := len_tot (parts b)
  unfold target_Dots.f
  rw [cutPrefix_slash, Option.bind_some, if_neg (by simp), split_eq b (by omega), Option.bind_some]
  have e1 : w64 (((parts b).length : Int) + 1) = (((parts b).length + 1 : Nat) : Int) := w64_succ _ (by omega)
  rw [e1, if_pos (by omega), if_pos (by omega), show (0 : Int) = ((0 : Nat) : Int) from rfl, dots_loop (parts b) (by omega) (parts b).length 0 KK [] (by omega) (by omega) (by simp), Option.bind_some, List.drop_zero]
  have htd := dotsGo_tot (parts b) []
  have e0 : tot [] = 0 := rfl
  have hj := join_len (dotsGo [] (parts b))
  rw [join_eq _ (by omega), Option.bind_some, if_pos (le_max (by simp only [List.length_cons, List.length_nil]; omega))]
  rfl
theorem dotsS_len (b : Str) : (dotsS b).length ≤ b.length + 2 := by
  have ht := tot_parts b
  have htd := dotsGo_tot (parts b) []
  have e0 : tot [] = 0 := rfl
  have hj := join_len (dotsGo [] (parts b))
  unfold dotsS
  rw [List.length_cons]
  omega

theorem kept_clean (b : Str) : clean (dotsGo [] (parts b)) := dotsGo_clean _ _ (fun _ h => by simp at h) (parts_clean b)
theorem kept_plain (b : Str) : plainL (dotsGo [] (parts b)) := dotsGo_plain _ _ (fun _ h => by simp at h)
theorem dotsS_again (b : Str) : dotsS (joinS (dotsGo [] (parts b))) = dotsS b := by
  unfold dotsS
  rw [parts_join _ (dotsGo_ne _ _ (parts_ne b)) (kept_clean b), dotsGo_id _ _ (kept_plain b), List.nil_append]

theorem dotsS_up (p b : Str) (h1 : (47 : UInt8) ∉ p) (h2 : dotty p = false) : dotsS (p ++ 47 :: ([46, 46] ++ 47 :: b)) = dotsS b := by
  unfold dotsS
  rw [parts_at p _ h1, parts_at [46, 46] b (by decide)]
  have e : dotsGo [] (p :: [46, 46] :: parts b) = dotsGo [] (parts b) := by
    have hb : back [] p = [] := by
      unfold back
      split <;> rfl
    rw [dotsGo, if_pos h2, hb, List.nil_append, dotsGo, if_neg (by decide), if_neg (parts_ne b)]
    rfl
  rw [e]
theorem dotsS_here (b : Str) : dotsS ([46] ++ 47 :: b) = dotsS b := by
  unfold dotsS
  rw [parts_at [46] b (by decide)]
  have e : dotsGo [] ([46] :: parts b) = dotsGo [] (parts b) := by
    rw [dotsGo, if_neg (by decide), if_neg (parts_ne b)]
    rfl
  rw [e]

end Go.Proofs.YtimggfeejbfdnaaDoor
