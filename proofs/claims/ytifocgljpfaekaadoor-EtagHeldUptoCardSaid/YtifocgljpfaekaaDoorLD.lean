/- Plain laws: tags, fields, and the law itself. -/
import Derived.Test.YtifocgljpfaekaaDoorLC
set_option maxRecDepth 100000
namespace Go.Proofs.YtifocgljpfaekaaDoor
open Go.Ev Go.Proofs.Tryd

/-- May a byte stand in a tag? -/
def okB (c : UInt8) : Bool := !((decide ((c.toNat : Int) ≤ 32)) || (((c.toNat : Int) == 34) || ((c.toNat : Int) == 127)))

theorem bt_at (s : Str) (i : Nat) (h : i < s.length) : bt s (i : Int) = (s[i].toNat : Int) := by
  simp [bt, h]

theorem right_loop (s : Str) (hs : s.length ≤ 4294967296) : ∀ (j i k : Nat), i + j = s.length → j + 1 ≤ k → etag_right.l0 k s (i : Int) = some (if (s.drop i).all okB then .inl () else .inr false) := by
  intro j
  induction j with
  | zero =>
    intro i k hi hk
    obtain ⟨k, rfl⟩ : ∃ q, k = q + 1 := ⟨k - 1, by omega⟩
    rw [etag_right.l0, if_neg (by omega), List.drop_eq_nil_of_le (by omega)]
    rfl
  | succ j ih =>
    intro i k hi hk
    obtain ⟨k, rfl⟩ : ∃ q, k = q + 1 := ⟨k - 1, by omega⟩
    rw [etag_right.l0, if_pos (by omega), if_pos (by omega), bt_at s i (by omega)]
    rw [List.drop_eq_getElem_cons (show i < s.length by omega), List.all_cons]
    cases h : okB s[i] with
    | false =>
      have : ((decide ((s[i].toNat : Int) ≤ 32)) || (((s[i].toNat : Int) == 34) || ((s[i].toNat : Int) == 127))) = true := by unfold okB at h; simpa only [Bool.not_eq_false'] using h
      rw [if_pos this]
      simp
    | true =>
      have : ((decide ((s[i].toNat : Int) ≤ 32)) || (((s[i].toNat : Int) == 34) || ((s[i].toNat : Int) == 127))) = false := by
        unfold okB at h
        simpa only [Bool.not_eq_true'] using h
      rw [if_neg (by rw [this]; decide), w64_id (by omega) (by omega)]
      have := ih (i + 1) k (by omega) (by omega)
      rw [show ((i + 1 : Nat) : Int) = (i : Int) + 1 by omega] at this
      rw [this]
      simp

theorem right_eq (K : Nat) (s : Str) (hs : s.length ≤ 1048576) (hK : 1048578 ≤ K) : etag_right.f K s = some (s.all okB) := by
  unfold etag_right.f
  have := right_loop s (by omega) s.length 0 K (by omega) (by omega)
  rw [if_pos (by omega), show (0 : Int) = ((0 : Nat) : Int) from rfl, this, Option.bind_some, List.drop_zero]
  cases s.all okB <;> rfl

theorem indexByte_at (T r : Str) (c : UInt8) (h : c ∉ T) : Lib.indexByte (T ++ c :: r) c = (T.length : Int) := by
  induction T with
  | nil => simp [Lib.indexByte]
  | cons x T ih =>
    have h1 : ¬ x = c := fun e => h (by simp [e])
    have h2 : c ∉ T := fun e => h (by simp [e])
    simp only [List.cons_append, Lib.indexByte, ih h2]
    have : ((T.length : Int) == -1) = false := by simp
    simp [h1, this]

theorem index_one (s : Str) (c : UInt8) : stringslite_Index.f s [c] = some (Lib.indexByte s c) := by
  unfold stringslite_Index.f
  by_cases h : [c] = s
  · subst h
    simp [Lib.indexByte]
  · have : ((([c] : Str).length : Int) == 0 || ([c] == s)) = false := by simpa using h
    rw [if_neg (by rw [this]; decide), if_pos (by simp), if_pos (by simp)]
    unfold stringslite_IndexByte.f
    rw [Option.bind_some, bt0]
    have : ((c.toNat : Int).toNat.toUInt8) = c := by
      rw [Int.toNat_natCast]
      exact UInt8.ofNat_toNat
    rw [this]

theorem cut_at (T r : Str) (c : UInt8) (h : c ∉ T) (hl : T.length ≤ 4294967296) : strings_Cut.f (T ++ c :: r) [c] = some (T, r, true) := by
  unfold strings_Cut.f stringslite_Cut.f
  rw [index_one, indexByte_at T r c h, Option.bind_some]
  have h1 : w64 ((T.length : Int) + (([c] : Str).length : Int)) = (T.length : Int) + 1 := by rw [w64_id (by simp; omega) (by simp; omega)]; rfl
  rw [if_pos (by omega), if_pos (by omega), if_pos (by simp; omega), h1, if_pos (by omega), if_pos (by simp; omega), Option.bind_some]
  have e1 : (T.length : Int).toNat = T.length := by omega
  have e2 : ((T.length : Int) + 1).toNat = T.length + 1 := by omega
  rw [e1, e2, List.take_left, List.drop_append]
  simp

/-- A tag's text, and what is behind. -/
def TAG (w : Bool) (T r : Str) : Str := (if w then [87, 47] else []) ++ (34 :: (T ++ 34 :: r))

theorem ok_no_quote {T : Str} (h : T.all okB = true) : (34 : UInt8) ∉ T := by
  intro hm
  have := List.all_eq_true.1 h 34 hm
  revert this; decide

theorem take_eq (K : Nat) (w : Bool) (T r : Str) (h : T.all okB = true) (hl : T.length ≤ 1048576) (hK : 1048578 ≤ K) : etag_take.f K (TAG w T r) = some (w, T, r, true) := by
  unfold etag_take.f
  have h1 : strings_CutPrefix.f (TAG w T r) [87, 47] = some (34 :: (T ++ 34 :: r), w) := by
    rw [cutPrefix_eq]
    cases w <;> simp [TAG, List.isPrefixOf]
  rw [h1, Option.bind_some]
  have h2 : strings_CutPrefix.f (34 :: (T ++ 34 :: r)) [34] = some (T ++ 34 :: r, true) := by
    rw [cutPrefix_eq]; simp [List.isPrefixOf]
  simp only [h2, Option.bind_some, cut_at T r 34 (ok_no_quote h) (by omega), right_eq K T hl hK, h]
  rfl

theorem parse_tag (K : Nat) (w : Bool) (T : Str) (h : T.all okB = true) (hl : T.length ≤ 1048576) (hK : 1048578 ≤ K) : etag_Parse.f K (TAG w T []) = some (w, T, 0) := by
  unfold etag_Parse.f
  rw [take_eq K w T [] h hl hK, Option.bind_some]
  rfl

theorem print_tag (K : Nat) (w : Bool) (T : Str) (hl : T.length ≤ 1048576) (hK : 1048578 ≤ K) : etag_Print.f K w T = some (if T.all okB then (TAG w T [], 0) else ([], 2)) := by
  unfold etag_Print.f
  rw [if_pos (by simp [maxI]; omega), if_pos (by simp [maxI]; omega), right_eq K T hl hK, Option.bind_some]
  cases T.all okB with
  | false => rfl
  | true =>
    cases w with
    | false => simp [TAG]
    | true => simp [TAG, maxI]; omega

theorem trim_same (s cs : Str) (a b : UInt8) (m : Str) (hs : s = a :: (m ++ [b])) (ha : cs.contains a = false) (hb : cs.contains b = false) : Lib.trimS s cs = s := by
  subst hs
  have h1 : Lib.trimRightS (a :: (m ++ [b])) cs = a :: (m ++ [b]) := by
    unfold Lib.trimRightS
    rw [show (a :: (m ++ [b])).reverse = b :: (m.reverse ++ [a]) by simp, List.dropWhile_cons_of_neg (by simpa using hb)]
    simp
  unfold Lib.trimS Lib.trimLeftS
  rw [h1, List.dropWhile_cons_of_neg (by simpa using ha)]

theorem TAG_form (w : Bool) (T : Str) : ∃ a m, TAG w T [] = a :: (m ++ [34]) ∧ (a = 87 ∨ a = 34) ∧ (∃ x m', m ++ [34] = x :: m') := by
  cases w with
  | false => exact ⟨34, T, by simp [TAG], .inr rfl, by cases T <;> simp⟩
  | true => exact ⟨87, 47 :: 34 :: T, by simp [TAG], .inl rfl, by simp⟩

theorem TAG_len (w : Bool) (T r : Str) : (TAG w T r).length = (if w then 2 else 0) + T.length + r.length + 2 := by
  cases w <;> simp [TAG] <;> omega

theorem list_tag (K : Nat) (w : Bool) (T : Str) (h : T.all okB = true) (hl : T.length ≤ 1048576) (hK : 1048578 ≤ K) : etag_List.f K (TAG w T []) = some ([(w, T)], false, 0) := by
  obtain ⟨a, m, hf, ha, x, m', hx⟩ := TAG_form w T
  have hlen : (TAG w T []).length ≤ 2000000 := by rw [TAG_len]; cases w <;> simp <;> omega
  have hTrim : strings_Trim.f (TAG w T []) [32, 9] = some (TAG w T []) := by
    unfold strings_Trim.f
    rw [if_pos ⟨by simp only [maxI]; omega, by decide, by decide⟩, trim_same _ _ a 34 m hf (by rcases ha with rfl | rfl <;> decide) (by decide)]
  have hLeft : strings_TrimLeft.f (TAG w T []) [32, 9, 44] = some (TAG w T []) := by
    unfold strings_TrimLeft.f
    rw [if_pos ⟨by simp only [maxI]; omega, by decide, by decide⟩]
    unfold Lib.trimLeftS
    rw [hf, List.dropWhile_cons_of_neg (by rcases ha with rfl | rfl <;> decide)]
  have hLeft0 : ∀ cs : Str, cs = [32, 9] ∨ cs = [32, 9, 44] → strings_TrimLeft.f [] cs = some [] := by
    intro cs hc
    unfold strings_TrimLeft.f
    rw [if_pos ⟨by decide, by rcases hc with rfl | rfl <;> decide, by rcases hc with rfl | rfl <;> decide⟩]
    rfl
  unfold etag_List.f
  rw [hTrim, Option.bind_some]
  have hne : (TAG w T [] == ([42] : Str)) = false := by
    rw [hf, hx]
    simp
  rw [if_neg (by rw [hne]; decide)]
  obtain ⟨k, hk⟩ : ∃ k, K = k + 1 + 1 := ⟨K - 2, by omega⟩
  have hloop : etag_List.l0 K K [] (TAG w T []) = some (.inl [(w, T)]) := by
    rw [show etag_List.l0 K K = etag_List.l0 K (k + 1 + 1) by rw [← hk]]
    have hne0 : (TAG w T [] == ([] : Str)) = false := by rw [hf]; rfl
    rw [etag_List.l0, hLeft, Option.bind_some, if_neg (by rw [hne0]; decide), take_eq K w T [] h hl hK, Option.bind_some]
    simp only []
    rw [hLeft0 _ (.inl rfl), Option.bind_some]
    rw [if_neg (by decide), if_neg (by decide), Option.bind_some, if_neg (by decide), if_pos (by simp), etag_List.l0, hLeft0 _ (.inr rfl), Option.bind_some, if_pos (by rfl)]
    rfl
  rw [hloop, Option.bind_some]
  rfl

theorem join_none (K : Nat) (sep : Str) : strings_Join.f K [] sep = some [] := rfl
theorem join_one (K : Nat) (x sep : Str) : strings_Join.f K [x] sep = some x := rfl

theorem get_none (K : Nat) (l : List (Str × Str)) (n : Str) (hl : l.length ≤ 100) (h : (l.filter fun x => x.1 == n) = []) : head_Get.f K l n = some ([], false) := by
  unfold head_Get.f head_All.f
  rw [if_pos (by omega), h]
  rfl
theorem get_one (K : Nat) (l : List (Str × Str)) (n v : Str) (hl : l.length ≤ 100) (h : (l.filter fun x => x.1 == n) = [(n, v)]) : head_Get.f K l n = some (v, true) := by
  unfold head_Get.f head_All.f
  rw [if_pos (by omega), h]
  rfl

theorem tagged_eq (K : Nat) (w w' : Bool) (T T' : Str) (h : T.all okB = true) (h' : T'.all okB = true) (hl : T.length ≤ 1048576) (hl' : T'.length ≤ 1048576) (hK : 1048578 ≤ K) (p : List (Str × Str)) (hp : head_Get.f K p [101, 116, 97, 103] = some (TAG w T [], true)) :
    etag_tagged.f K (TAG w' T' []) p = some (T' == T) := by
  unfold etag_tagged.f
  rw [list_tag K w' T' h' hl' hK, Option.bind_some, if_neg (by simp), hp, Option.bind_some]
  simp only []
  rw [parse_tag K w T h hl hK, Option.bind_some]
  obtain ⟨k, rfl⟩ : ∃ k, K = k + 1 + 1 := ⟨K - 2, by omega⟩
  have hg : Ev.get [(w', T')] (0 : Int) = (w', T') := rfl
  have hlike : etag_Like.f w' T' w T false = some (T' == T) := by
    unfold etag_Like.f
    cases T' == T <;> rfl
  cases hq : T' == T with
  | true =>
    rw [etag_tagged.l0, if_pos (by simp), if_pos (by decide)]
    simp only [hg, hlike, hq]
    rfl
  | false =>
    rw [etag_tagged.l0, if_pos (by simp), if_pos (by decide)]
    simp only [hg, hlike, hq]
    rfl

theorem awake_true : scullerylaw12_awake.f KK = some true := by kernel_rfl
theorem parse_none : date_Parse.f KK [] = some (0, 2) := by kernel_rfl

theorem print_bad (K : Nat) (n : Int) (h : ¬ (0 ≤ n ∧ n < 253402300800)) : date_Print.f K n = some ([], 6) := by
  unfold date_Print.f
  rw [if_pos (by simp; omega)]

/-- The law, as a plain function, answers true. -/
theorem law_true (w : Bool) (T : Str) (n0 n1 : Int) (hl : T.length ≤ 1048576) : scullerylaw12_EtagHeld.f KK w T n0 n1 = some true := by
  have hK : 1048578 ≤ KK := by decide
  have hK2 : 100000 ≤ KK := by decide
  unfold scullerylaw12_EtagHeld.f
  rw [awake_true, Option.bind_some, print_tag KK w T hl hK, Option.bind_some]
  by_cases h0 : 0 ≤ n0 ∧ n0 < 253402300800
  rotate_left
  · rw [print_bad KK n0 h0, Option.bind_some]
    by_cases h1 : 0 ≤ n1 ∧ n1 < 253402300800
    · obtain ⟨b, hb, _⟩ := print_parse KK hK2 n1 h1.1 h1.2
      rw [hb, Option.bind_some, if_pos (by simp)]
    · rw [print_bad KK n1 h1, Option.bind_some, if_pos (by simp)]
  obtain ⟨a, ha, hpa, hla⟩ := print_parse KK hK2 n0 h0.1 h0.2
  rw [ha, Option.bind_some]
  by_cases h1 : 0 ≤ n1 ∧ n1 < 253402300800
  rotate_left
  · rw [print_bad KK n1 h1, Option.bind_some, if_pos (by simp)]
  obtain ⟨b, hb, hpb, hlb⟩ := print_parse KK hK2 n1 h1.1 h1.2
  rw [hb, Option.bind_some]
  cases hT : T.all okB with
  | false => rw [if_pos (by simp)]
  | true =>
    by_cases hlen : (((TAG w T []).length : Int) > 200)
    · rw [if_pos (by simp; omega)]
    rw [if_neg (by simp; omega)]
    simp only [if_true]
    have hlen2 := TAG_len w T []
    have hp1 : head_Get.f KK [([101, 116, 97, 103], TAG w T []), ([108, 97, 115, 116, 45, 109, 111, 100, 105, 102, 105, 101, 100], a)] [101, 116, 97, 103] = some (TAG w T [], true) := get_one _ _ _ _ (by simp) rfl
    have hp2 : head_Get.f KK [([101, 116, 97, 103], TAG w T []), ([108, 97, 115, 116, 45, 109, 111, 100, 105, 102, 105, 101, 100], a)] [108, 97, 115, 116, 45, 109, 111, 100, 105, 102, 105, 101, 100] = some (a, true) := get_one _ _ _ _ (by simp) rfl
    have hw2 : etag_when.f KK [([101, 116, 97, 103], TAG w T []), ([108, 97, 115, 116, 45, 109, 111, 100, 105, 102, 105, 101, 100], a)] [108, 97, 115, 116, 45, 109, 111, 100, 105, 102, 105, 101, 100] = some (n0, true) := by
      unfold etag_when.f; rw [hp2, Option.bind_some, hpa]; rfl
    -- one
    have one : etag_Held.f KK [([105, 102, 45, 110, 111, 110, 101, 45, 109, 97, 116, 99, 104], TAG w T [])] [([101, 116, 97, 103], TAG w T []), ([108, 97, 115, 116, 45, 109, 111, 100, 105, 102, 105, 101, 100], a)] = some true := by
      unfold etag_Held.f
      rw [get_one _ _ _ (TAG w T []) (by simp) rfl, Option.bind_some, if_pos rfl]
      simp only []
      rw [tagged_eq KK w w T T hT hT hl hl hK _ hp1]
      simp
    have two : etag_Held.f KK [([105, 102, 45, 109, 111, 100, 105, 102, 105, 101, 100, 45, 115, 105, 110, 99, 101], b)] [([101, 116, 97, 103], TAG w T []), ([108, 97, 115, 116, 45, 109, 111, 100, 105, 102, 105, 101, 100], a)] = some (decide (n0 ≤ n1)) := by
      unfold etag_Held.f
      rw [get_none _ _ _ (by simp) rfl, Option.bind_some, if_neg (by decide)]
      have : etag_when.f KK [([105, 102, 45, 109, 111, 100, 105, 102, 105, 101, 100, 45, 115, 105, 110, 99, 101], b)] [105, 102, 45, 109, 111, 100, 105, 102, 105, 101, 100, 45, 115, 105, 110, 99, 101] = some (n1, true) := by
        unfold etag_when.f; rw [get_one _ _ _ b (by simp) rfl, Option.bind_some, hpb]; rfl
      rw [this, hw2]
      simp
    have hT2 : (T ++ [120]).all okB = true := by
      rw [List.all_append, hT]; decide
    have three : etag_Held.f KK [([105, 102, 45, 110, 111, 110, 101, 45, 109, 97, 116, 99, 104], TAG false (T ++ [120]) []), ([105, 102, 45, 109, 111, 100, 105, 102, 105, 101, 100, 45, 115, 105, 110, 99, 101], a)] [([101, 116, 97, 103], TAG w T []), ([108, 97, 115, 116, 45, 109, 111, 100, 105, 102, 105, 101, 100], a)] = some false := by
      unfold etag_Held.f
      rw [get_one _ _ _ (TAG false (T ++ [120]) []) (by simp) rfl, Option.bind_some, if_pos rfl]
      simp only []
      rw [tagged_eq KK w false T (T ++ [120]) hT hT2 hl (by simp; omega) hK _ hp1]
      have : (T ++ [120] == T) = false := by
        rw [beq_eq_false_iff_ne]
        intro e
        have := congrArg List.length e
        simp at this
      rw [this]; rfl
    have none' : etag_Held.f KK [] [([101, 116, 97, 103], TAG w T []), ([108, 97, 115, 116, 45, 109, 111, 100, 105, 102, 105, 101, 100], a)] = some false := by
      unfold etag_Held.f
      rw [get_none _ _ _ (by simp) rfl, Option.bind_some, if_neg (by decide)]
      have : etag_when.f KK [] [105, 102, 45, 109, 111, 100, 105, 102, 105, 101, 100, 45, 115, 105, 110, 99, 101] = some (0, false) := by
        unfold etag_when.f; rw [get_none _ _ _ (by simp) rfl, Option.bind_some, parse_none]; rfl
      rw [this, hw2]
      rfl
    have hx : (([34] : Str) ++ T) ++ [120, 34] = TAG false (T ++ [120]) [] := by simp [TAG]
    have hwith1 : head_With.f [] [105, 102, 45, 110, 111, 110, 101, 45, 109, 97, 116, 99, 104] (TAG false (T ++ [120]) []) = some [([105, 102, 45, 110, 111, 110, 101, 45, 109, 97, 116, 99, 104], TAG false (T ++ [120]) [])] := rfl
    have hwith2 : head_With.f [([105, 102, 45, 110, 111, 110, 101, 45, 109, 97, 116, 99, 104], TAG false (T ++ [120]) [])] [105, 102, 45, 109, 111, 100, 105, 102, 105, 101, 100, 45, 115, 105, 110, 99, 101] a = some [([105, 102, 45, 110, 111, 110, 101, 45, 109, 97, 116, 99, 104], TAG false (T ++ [120]) []), ([105, 102, 45, 109, 111, 100, 105, 102, 105, 101, 100, 45, 115, 105, 110, 99, 101], a)] := rfl
    rw [one, Option.bind_some, two, Option.bind_some, if_pos (by simp [maxI]; omega), if_pos (by simp [maxI]; omega), hx, hwith1, Option.bind_some, hwith2, Option.bind_some, three, Option.bind_some, none']
    simp

end Go.Proofs.YtifocgljpfaekaaDoor
