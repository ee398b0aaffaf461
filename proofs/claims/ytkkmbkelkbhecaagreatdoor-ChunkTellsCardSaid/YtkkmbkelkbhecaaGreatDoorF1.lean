/- Go functions as plain functions, and that the machine's calls do what these say. -/
import Derived.Test.YtkkmbkelkbhecaaGreatDoorT
import Derived.Test.YtkkmbkelkbhecaaGreatDoorLay
import Derived.Test.YtkkmbkelkbhecaaGreatDoorHT
set_option maxRecDepth 100000
set_option linter.unusedVariables false
namespace Go.Proofs.YtkkmbkelkbhecaaGreatDoor
open Go.Ev Go.Proofs.Tryz


/-! internal/strconv.isPowerOfTwo: function 62 -/
noncomputable def C62 (p : List Nat) : Code := Sub (bodyOf f62) p
def strconv_isPowerOfTwo_16.f  : Option (Bool) := some ((bitI .and .i64 (16 : Int) 15) == 0)
abbrev strconv_isPowerOfTwo_16.post (w0 : World) (r : Bool) (u : Value) (w : World) : Prop := u = .bool r ∧ Ows [] w0 w []
theorem strconv_isPowerOfTwo_16.ok  (r : Bool) (H : strconv_isPowerOfTwo_16.f  = some r) (w0 : World)  : Calls Tryz.prog 62 ⟨[I 16]⟩ w0 fun e w => ∃ u, e = .returned u ∧ strconv_isPowerOfTwo_16.post w0 r u w := by
  unfold strconv_isPowerOfTwo_16.f at H
  refine st_start (N := 8) [I 16] (C62 []) func62 (by kernel_rfl) (by kernel_rfl) (by kernel_rfl) ?_
  intro a w hk ho
  refine st_seq (C62 [0]) (C62 [1]) (by kernel_rfl) ?_
  refine st_region 0 (opsOf (C62 [0])) [0] (by kernel_rfl) (by kernel_rfl) ?_
  refine st_pure tabOK hk [0] [] [0] [(0, I 16)] (True) (by kernel_rfl) trivial ?_
  clear hk; intro a hk
  refine st_done ?_
  refine st_seq (C62 [1, 0]) (C62 [1, 1]) (by kernel_rfl) ?_
  refine st_region 1 (opsOf (C62 [1, 0])) [0, 1, 2, 3, 4, 5] (by kernel_rfl) (by kernel_rfl) ?_
  refine st_pure tabOK hk [0, 1, 2, 3, 4, 5] [] [2] [(2, .bool ((bitI .and .i64 (16 : Int) 15) == 0))] (True) (by kernel_rfl) trivial ?_
  clear hk; intro a hk
  refine st_done ?_
  refine st_retG hk (by kernel_rfl) [.bool ((bitI .and .i64 (16 : Int) 15) == 0)] #[.tmp 2] (by kernel_rfl) ⟨resT hk (by kernel_rfl), trivial⟩ ?_
  obtain rfl := Option.some.inj H
  exact ⟨_, rfl, rfl, ho⟩


/-! math/bits.TrailingZeros64: function 83 -/
noncomputable def C83 (p : List Nat) : Code := Sub (bodyOf f83) p
def bits_TrailingZeros64_16.f  : Option (Int) := (if (0 : Int) ≤ shI .shr .u64 (IntKind.u64.wrap ((bitI .and .u64 (16 : Int) (IntKind.u64.wrap (0 - 16))) * 285870213051353865)) 58 then (if shI .shr .u64 (IntKind.u64.wrap ((bitI .and .u64 (16 : Int) (IntKind.u64.wrap (0 - 16))) * 285870213051353865)) 58 < 64 then some (w64 (bt tab5 (shI .shr .u64 (IntKind.u64.wrap ((bitI .and .u64 (16 : Int) (IntKind.u64.wrap (0 - 16))) * 285870213051353865)) 58))) else none) else none)
abbrev bits_TrailingZeros64_16.post (w0 : World) (r : Int) (u : Value) (w : World) : Prop := u = I r ∧ Ows [] w0 w []
theorem bits_TrailingZeros64_16.ok  (r : Int) (H : bits_TrailingZeros64_16.f  = some r) (w0 : World) (hg : Glob w0) : Calls Tryz.prog 83 ⟨[.int .u64 16]⟩ w0 fun e w => ∃ u, e = .returned u ∧ bits_TrailingZeros64_16.post w0 r u w := by
  unfold bits_TrailingZeros64_16.f at H
  refine st_start (N := 14) [.int .u64 16] (C83 []) func83 (by kernel_rfl) (by kernel_rfl) (by kernel_rfl) ?_
  intro a w hk ho
  refine st_seq (C83 [0]) (C83 [1]) (by kernel_rfl) ?_
  refine st_region 0 (opsOf (C83 [0])) [0] (by kernel_rfl) (by kernel_rfl) ?_
  refine st_pure tabOK hk [0] [] [0] [(0, .int .u64 16)] (True) (by kernel_rfl) trivial ?_
  clear hk; intro a hk
  refine st_done ?_
  refine st_seq (C83 [1, 0]) (C83 [1, 1]) (by kernel_rfl) ?_
  refine st_seq (C83 [1, 0, 0]) (C83 [1, 0, 1]) (by kernel_rfl) ?_
  refine st_region 1 (opsOf (C83 [1, 0, 0])) [0, 1] (by kernel_rfl) (by kernel_rfl) ?_
  refine st_pure tabOK hk [0, 1] [] [0, 4] [(0, .int .u64 16), (4, .bool false)] (True) (by kernel_rfl) trivial ?_
  clear hk; intro a hk
  refine st_done ?_
  refine st_cond_false hk (C83 [1, 0, 1, 0]) (C83 [1, 0, 1, 1]) (.tmp 4) (by kernel_rfl) (by kernel_rfl) ?_
  refine st_skip (by kernel_rfl) ?_
  refine st_seq (C83 [1, 1, 0]) (C83 [1, 1, 1]) (by kernel_rfl) ?_
  refine st_region 3 (opsOf (C83 [1, 1, 0])) [0, 1, 2, 3, 4, 5, 6, 7, 8, 9] (by kernel_rfl) (by kernel_rfl) ?_
  have h1 : (0 : Int) ≤ shI .shr .u64 (IntKind.u64.wrap ((bitI .and .u64 (16 : Int) (IntKind.u64.wrap (0 - 16))) * 285870213051353865)) 58 := by
    by_cases h1 : (0 : Int) ≤ shI .shr .u64 (IntKind.u64.wrap ((bitI .and .u64 (16 : Int) (IntKind.u64.wrap (0 - 16))) * 285870213051353865)) 58
    · exact h1
    · rw [if_neg h1] at H; cases H
  rw [if_pos h1] at H
  have h2 : shI .shr .u64 (IntKind.u64.wrap ((bitI .and .u64 (16 : Int) (IntKind.u64.wrap (0 - 16))) * 285870213051353865)) 58 < 64 := by
    by_cases h2 : shI .shr .u64 (IntKind.u64.wrap ((bitI .and .u64 (16 : Int) (IntKind.u64.wrap (0 - 16))) * 285870213051353865)) 58 < 64
    · exact h2
    · rw [if_neg h2] at H; cases H
  rw [if_pos h2] at H
  refine st_pure tabOK hk [0, 1, 2, 3, 4, 5, 6] [7, 8, 9] [11] [(11, .pointer ((some (⟨5, 0, none⟩ : Addr)).map (·.add ((shI .shr .u64 (IntKind.u64.wrap ((bitI .and .u64 (16 : Int) (IntKind.u64.wrap (0 - 16))) * 285870213051353865)) 58).toNat * 1))))] ((0 : Int) ≤ 58 ∧ (((0 : Int) ≤ shI .shr .u64 (IntKind.u64.wrap ((bitI .and .u64 (16 : Int) (IntKind.u64.wrap (0 - 16))) * 285870213051353865)) 58 ∧ shI .shr .u64 (IntKind.u64.wrap ((bitI .and .u64 (16 : Int) (IntKind.u64.wrap (0 - 16))) * 285870213051353865)) 58 < 64) ∧ True)) (by kernel_rfl) ⟨(by decide), ⟨⟨h1, h2⟩, trivial⟩⟩ ?_
  clear hk; intro a hk
  refine st_load1 tabOK hk 5 ((some (⟨5, 0, none⟩ : Addr)).map (·.add ((shI .shr .u64 (IntKind.u64.wrap ((bitI .and .u64 (16 : Int) (IntKind.u64.wrap (0 - 16))) * 285870213051353865)) 58).toNat * 1))) 12 (by kernel_rfl) (by kernel_rfl) (.int .u8 (bt tab5 (shI .shr .u64 (IntKind.u64.wrap ((bitI .and .u64 (16 : Int) (IntKind.u64.wrap (0 - 16))) * 285870213051353865)) 58))) ((rd_ows hg.t5 ho).elemB h1 (show shI .shr .u64 (IntKind.u64.wrap ((bitI .and .u64 (16 : Int) (IntKind.u64.wrap (0 - 16))) * 285870213051353865)) 58 < (tab5.length : Int) from h2)) ?_
  clear hk; intro a hk
  refine st_pure tabOK hk [8, 9] [] [2] [(2, I (w64 (bt tab5 (shI .shr .u64 (IntKind.u64.wrap ((bitI .and .u64 (16 : Int) (IntKind.u64.wrap (0 - 16))) * 285870213051353865)) 58))))] (True) (by kernel_rfl) trivial ?_
  clear hk; intro a hk
  refine st_done ?_
  refine st_retG hk (by kernel_rfl) [I (w64 (bt tab5 (shI .shr .u64 (IntKind.u64.wrap ((bitI .and .u64 (16 : Int) (IntKind.u64.wrap (0 - 16))) * 285870213051353865)) 58)))] #[.tmp 2] (by kernel_rfl) ⟨resT hk (by kernel_rfl), trivial⟩ ?_
  obtain rfl := Option.some.inj H
  exact ⟨_, rfl, rfl, ho⟩


/-! math/bits.TrailingZeros: function 63 -/
noncomputable def C63 (p : List Nat) : Code := Sub (bodyOf f63) p
def bits_TrailingZeros_16.f  : Option (Int) := (((bits_TrailingZeros64_16.f ).bind fun t1 => some t1))
abbrev bits_TrailingZeros_16.post (w0 : World) (r : Int) (u : Value) (w : World) : Prop := u = I r ∧ Ows [] w0 w []
theorem bits_TrailingZeros_16.ok  (r : Int) (H : bits_TrailingZeros_16.f  = some r) (w0 : World) (hg : Glob w0) : Calls Tryz.prog 63 ⟨[.int .u64 16]⟩ w0 fun e w => ∃ u, e = .returned u ∧ bits_TrailingZeros_16.post w0 r u w := by
  unfold bits_TrailingZeros_16.f at H
  refine st_start (N := 8) [.int .u64 16] (C63 []) func63 (by kernel_rfl) (by kernel_rfl) (by kernel_rfl) ?_
  intro a w hk ho
  refine st_seq (C63 [0]) (C63 [1]) (by kernel_rfl) ?_
  refine st_region 0 (opsOf (C63 [0])) [0] (by kernel_rfl) (by kernel_rfl) ?_
  refine st_pure tabOK hk [0] [] [0] [(0, .int .u64 16)] (True) (by kernel_rfl) trivial ?_
  clear hk; intro a hk
  refine st_done ?_
  refine st_seq (C63 [1, 0]) (C63 [1, 1]) (by kernel_rfl) ?_
  refine st_cond_false hk (C63 [1, 0, 0]) (C63 [1, 0, 1]) (.const (.bool false)) (by kernel_rfl) (by kernel_rfl) ?_
  refine st_skip (by kernel_rfl) ?_
  refine st_seq (C63 [1, 1, 0]) (C63 [1, 1, 1]) (by kernel_rfl) ?_
  refine st_region 2 (opsOf (C63 [1, 1, 0])) [0, 1, 2] (by kernel_rfl) (by kernel_rfl) ?_
  refine st_pure tabOK hk [0] [1, 2] [6] [(6, .int .u64 16)] (True) (by kernel_rfl) trivial ?_
  clear hk; intro a hk
  obtain ⟨t1, h2, H⟩ := Option.bind_eq_some_iff.1 H
  refine st_call hk 83 [.int .u64 16] (some 7) enters83 (by kernel_rfl) (bits_TrailingZeros64_16.ok   t1 h2 w (hg.of ho)) ?_
  clear hk; rintro a u w ⟨rfl, ho'⟩ hk
  replace ho : Ows [] w0 w [] := ho.call ho'; clear ho'
  refine st_pure tabOK hk [2] [] [2] [(2, I t1)] (True) (by kernel_rfl) trivial ?_
  clear hk; intro a hk
  refine st_done ?_
  refine st_retG hk (by kernel_rfl) [I t1] #[.tmp 2] (by kernel_rfl) ⟨resT hk (by kernel_rfl), trivial⟩ ?_
  obtain rfl := Option.some.inj H
  exact ⟨_, rfl, rfl, ho⟩


/-! internal/strconv.formatBits: function 40 -/
noncomputable def C40 (p : List Nat) : Code := Sub (bodyOf f40) p
def strconv_formatBits_16.l0 : Nat → List UInt8 → Bool → Bool → Int → List UInt8 → Int → Int → Option (List UInt8 × Int × Int)
  | 0, _, _, _, _, _, _, _ => none
  | k + 1, p0, p3, p4, t14, v16, v17, v18 => (if v17 ≥ 16 then (if (0 : Int) ≤ bitI .and .u64 v17 15 then (if bitI .and .u64 v17 15 < (([48, 49, 50, 51, 52, 53, 54, 55, 56, 57, 97, 98, 99, 100, 101, 102, 103, 104, 105, 106, 107, 108, 109, 110, 111, 112, 113, 114, 115, 116, 117, 118, 119, 120, 121, 122]).length : Int) then (if v16.length = 65 then (if (0 : Int) ≤ w64 (v18 - 1) then (if w64 (v18 - 1) < 65 then (if (0 : Int) ≤ IntKind.u64.wrap (t14) then strconv_formatBits_16.l0 k p0 p3 p4 t14 (v16.set (w64 (v18 - 1)).toNat (u8 (bt ([48, 49, 50, 51, 52, 53, 54, 55, 56, 57, 97, 98, 99, 100, 101, 102, 103, 104, 105, 106, 107, 108, 109, 110, 111, 112, 113, 114, 115, 116, 117, 118, 119, 120, 121, 122]) (bitI .and .u64 v17 15)))) (shI .shr .u64 v17 (IntKind.u64.wrap (t14))) (w64 (v18 - 1)) else none) else none) else none) else none) else none) else none) else some (v16, v17, v18))
def strconv_formatBits_16.l1 : Nat → List UInt8 → Bool → Bool → List UInt8 → Int → Int → Option (List UInt8 × Int × Int)
  | 0, _, _, _, _, _, _ => none
  | k + 1, p0, p3, p4, v39, v40, v41 => (if v40 ≥ 16 then (if (0 : Int) ≤ IntKind.u64.wrap (v40 - (IntKind.u64.wrap ((IntKind.u64.wrap (v40.tdiv 16)) * 16))) then (if IntKind.u64.wrap (v40 - (IntKind.u64.wrap ((IntKind.u64.wrap (v40.tdiv 16)) * 16))) < (([48, 49, 50, 51, 52, 53, 54, 55, 56, 57, 97, 98, 99, 100, 101, 102, 103, 104, 105, 106, 107, 108, 109, 110, 111, 112, 113, 114, 115, 116, 117, 118, 119, 120, 121, 122]).length : Int) then (if v39.length = 65 then (if (0 : Int) ≤ w64 (v41 - 1) then (if w64 (v41 - 1) < 65 then strconv_formatBits_16.l1 k p0 p3 p4 (v39.set (w64 (v41 - 1)).toNat (u8 (bt ([48, 49, 50, 51, 52, 53, 54, 55, 56, 57, 97, 98, 99, 100, 101, 102, 103, 104, 105, 106, 107, 108, 109, 110, 111, 112, 113, 114, 115, 116, 117, 118, 119, 120, 121, 122]) (IntKind.u64.wrap (v40 - (IntKind.u64.wrap ((IntKind.u64.wrap (v40.tdiv 16)) * 16))))))) (IntKind.u64.wrap (v40.tdiv 16)) (w64 (v41 - 1)) else none) else none) else none) else none) else none) else some (v39, v40, v41))
def strconv_formatBits_16.f (K : Nat) (p0 : List UInt8) (p1 : Int) (p3 : Bool) (p4 : Bool) : Option (List UInt8 × Str) := ((((if p3 = true then some (IntKind.u64.wrap (0 - p1)) else some p1)).bind fun m5 => ((strconv_isPowerOfTwo_16.f ).bind fun t9 => (((if t9 = true then ((bits_TrailingZeros_16.f ).bind fun t14 => ((strconv_formatBits_16.l0 K p0 p3 p4 t14 (List.replicate 65 (0 : UInt8)) m5 65).bind fun s31 => (if (0 : Int) ≤ s31.2.1 then (if s31.2.1 < (([48, 49, 50, 51, 52, 53, 54, 55, 56, 57, 97, 98, 99, 100, 101, 102, 103, 104, 105, 106, 107, 108, 109, 110, 111, 112, 113, 114, 115, 116, 117, 118, 119, 120, 121, 122]).length : Int) then (if s31.1.length = 65 then (if (0 : Int) ≤ w64 (s31.2.2 - 1) then (if w64 (s31.2.2 - 1) < 65 then some (s31.1.set (w64 (s31.2.2 - 1)).toNat (u8 (bt ([48, 49, 50, 51, 52, 53, 54, 55, 56, 57, 97, 98, 99, 100, 101, 102, 103, 104, 105, 106, 107, 108, 109, 110, 111, 112, 113, 114, 115, 116, 117, 118, 119, 120, 121, 122]) s31.2.1)), w64 (s31.2.2 - 1)) else none) else none) else none) else none) else none))) else ((strconv_formatBits_16.l1 K p0 p3 p4 (List.replicate 65 (0 : UInt8)) m5 65).bind fun s53 => (if (0 : Int) ≤ s53.2.1 then (if s53.2.1 < (([48, 49, 50, 51, 52, 53, 54, 55, 56, 57, 97, 98, 99, 100, 101, 102, 103, 104, 105, 106, 107, 108, 109, 110, 111, 112, 113, 114, 115, 116, 117, 118, 119, 120, 121, 122]).length : Int) then (if s53.1.length = 65 then (if (0 : Int) ≤ w64 (s53.2.2 - 1) then (if w64 (s53.2.2 - 1) < 65 then some (s53.1.set (w64 (s53.2.2 - 1)).toNat (u8 (bt ([48, 49, 50, 51, 52, 53, 54, 55, 56, 57, 97, 98, 99, 100, 101, 102, 103, 104, 105, 106, 107, 108, 109, 110, 111, 112, 113, 114, 115, 116, 117, 118, 119, 120, 121, 122]) s53.2.1)), w64 (s53.2.2 - 1)) else none) else none) else none) else none) else none)))).bind fun m11 => (((if p3 = true then (if m11.1.length = 65 then (if (0 : Int) ≤ w64 (m11.2 - 1) then (if w64 (m11.2 - 1) < 65 then some (m11.1.set (w64 (m11.2 - 1)).toNat (u8 45), w64 (m11.2 - 1)) else none) else none) else none) else some (m11.1, m11.2))).bind fun m60 => (if p4 = true then none else (if m60.1.length = 65 then (if (0 : Int) ≤ m60.2 then (if m60.2 ≤ 65 then some (([] : List UInt8), m60.1.drop (Int.toNat m60.2)) else none) else none) else none)))))))
abbrev strconv_formatBits_16.post (w0 : World) (r : List UInt8 × Str) (u : Value) (w : World) : Prop := ∃ (o84 : Option Addr), ∃ (c85 : Nat), u = .tuple #[.slice o84 r.1.length c85, S r.2] ∧ Ows [] w0 w [.row 0 5 1 (.slice o84 r.1.length c85) r.1.length (r.1.map bV)]
theorem strconv_formatBits_16.l0_ok : ∀ (k : Nat) (p0 : List UInt8) (p3 : Bool) (p4 : Bool) (t14 : Int) (v16 : List UInt8) (v17 : Int) (v18 : Int) (out : List UInt8 × Int × Int), strconv_formatBits_16.l0 k p0 p3 p4 t14 v16 v17 v18 = some out → ∀ (o1 : Option Addr) (c2 : Nat) (b3 : Nat) (w0 : World) (Q : Exit → Act → World → Prop) (rest : List It) (a : Act) (w : World), (hr0 : Rd w0 o1 (p0.map bV)) → (hl0 : p0.length ≤ c2) → Kn 102 a [(0, .slice o1 p0.length c2), (1, .int .u64 v17), (3, .bool p3), (4, .bool p4), (10, .slice none 0 0), (11, S ([])), (12, .pointer (some ⟨b3, 0, none⟩)), (13, I v18), (14, .int .u64 (IntKind.u64.wrap (t14))), (15, .int .u64 16), (16, .int .u64 15)] → Ows [] w0 w [.row 0 88 1 (.slice (some (⟨b3, 0, none⟩ : Addr)) v16.length 65) v16.length (v16.map bV)] → (∀ (s : List UInt8 × Int × Int) (a : Act) (w : World), out = s → Kn 102 a [(0, .slice o1 p0.length c2), (1, .int .u64 s.2.1), (3, .bool p3), (4, .bool p4), (10, .slice none 0 0), (11, S ([])), (12, .pointer (some ⟨b3, 0, none⟩)), (13, I s.2.2)] → Ows [] w0 w [.row 0 88 1 (.slice (some (⟨b3, 0, none⟩ : Addr)) s.1.length 65) s.1.length (s.1.map bV)] → G Tryz.prog Q rest a w) → G Tryz.prog Q (.code (C40 [1, 1, 1, 1, 1, 0, 1, 0, 1, 1, 1, 0, 0, 0]) :: .inl (C40 [1, 1, 1, 1, 1, 0, 1, 0, 1, 1, 1, 0, 0, 0]) :: .endb 0 :: rest) a w := by
  intro k
  induction k with
  | zero => intro p0 p3 p4 t14 v16 v17 v18 out H; simp [strconv_formatBits_16.l0] at H
  | succ k ih =>
    intro p0 p3 p4 t14 v16 v17 v18 out H o1 c2 b3 w0 Q rest a w hr0 hl0 hk ho J
    simp only [strconv_formatBits_16.l0] at H
    refine st_seq (C40 [1, 1, 1, 1, 1, 0, 1, 0, 1, 1, 1, 0, 0, 0, 0]) (C40 [1, 1, 1, 1, 1, 0, 1, 0, 1, 1, 1, 0, 0, 0, 1]) (by kernel_rfl) ?_
    refine st_seq (C40 [1, 1, 1, 1, 1, 0, 1, 0, 1, 1, 1, 0, 0, 0, 0, 0]) (C40 [1, 1, 1, 1, 1, 0, 1, 0, 1, 1, 1, 0, 0, 0, 0, 1]) (by kernel_rfl) ?_
    refine st_region 11 (opsOf (C40 [1, 1, 1, 1, 1, 0, 1, 0, 1, 1, 1, 0, 0, 0, 0, 0])) [0, 1, 2] (by kernel_rfl) (by kernel_rfl) ?_
    refine st_pure tabOK hk [0, 1, 2] [] [0, 1, 3, 4, 10, 11, 12, 13, 14, 15, 16, 46] [(0, .slice o1 p0.length c2), (1, .int .u64 v17), (3, .bool p3), (4, .bool p4), (10, .slice none 0 0), (11, S ([])), (12, .pointer (some ⟨b3, 0, none⟩)), (13, I v18), (14, .int .u64 (IntKind.u64.wrap (t14))), (15, .int .u64 16), (16, .int .u64 15), (46, .bool (decide (v17 ≥ 16)))] (True) (by kernel_rfl) trivial ?_
    clear hk; intro a hk
    refine st_done ?_
    refine st_cond hk (C40 [1, 1, 1, 1, 1, 0, 1, 0, 1, 1, 1, 0, 0, 0, 0, 1, 0]) (C40 [1, 1, 1, 1, 1, 0, 1, 0, 1, 1, 1, 0, 0, 0, 0, 1, 1]) (.tmp 46) (decide (v17 ≥ 16)) (by kernel_rfl) (by kernel_rfl) (fun h19 => ?_) (fun h19 => ?_)
    ·
      have h20 : v17 ≥ 16 := of_decide_eq_true h19
      rw [if_pos h20] at H
      refine st_skip (by kernel_rfl) ?_
      refine st_block 1 (C40 [1, 1, 1, 1, 1, 0, 1, 0, 1, 1, 1, 0, 0, 0, 1, 0]) (by kernel_rfl) ?_
      refine st_seq (C40 [1, 1, 1, 1, 1, 0, 1, 0, 1, 1, 1, 0, 0, 0, 1, 0, 0]) (C40 [1, 1, 1, 1, 1, 0, 1, 0, 1, 1, 1, 0, 0, 0, 1, 0, 1]) (by kernel_rfl) ?_
      refine st_region 12 (opsOf (C40 [1, 1, 1, 1, 1, 0, 1, 0, 1, 1, 1, 0, 0, 0, 1, 0, 0])) [0, 1, 2] (by kernel_rfl) (by kernel_rfl) ?_
      refine st_pure tabOK hk [0, 1, 2] [] [0, 1, 3, 4, 10, 11, 12, 13, 14, 15, 16] [(0, .slice o1 p0.length c2), (1, .int .u64 v17), (3, .bool p3), (4, .bool p4), (10, .slice none 0 0), (11, S ([])), (12, .pointer (some ⟨b3, 0, none⟩)), (13, I (w64 (v18 - 1))), (14, .int .u64 (IntKind.u64.wrap (t14))), (15, .int .u64 16), (16, .int .u64 15)] (True) (by kernel_rfl) trivial ?_
      clear hk; intro a hk
      refine st_done ?_
      refine st_seq (C40 [1, 1, 1, 1, 1, 0, 1, 0, 1, 1, 1, 0, 0, 0, 1, 0, 1, 0]) (C40 [1, 1, 1, 1, 1, 0, 1, 0, 1, 1, 1, 0, 0, 0, 1, 0, 1, 1]) (by kernel_rfl) ?_
      refine st_region 13 (opsOf (C40 [1, 1, 1, 1, 1, 0, 1, 0, 1, 1, 1, 0, 0, 0, 1, 0, 1, 0])) [0, 1, 2, 3, 4, 5, 6] (by kernel_rfl) (by kernel_rfl) ?_
      have h21 : (0 : Int) ≤ bitI .and .u64 v17 15 := by
        by_cases h21 : (0 : Int) ≤ bitI .and .u64 v17 15
        · exact h21
        · rw [if_neg h21] at H; cases H
      rw [if_pos h21] at H
      have h22 : bitI .and .u64 v17 15 < (([48, 49, 50, 51, 52, 53, 54, 55, 56, 57, 97, 98, 99, 100, 101, 102, 103, 104, 105, 106, 107, 108, 109, 110, 111, 112, 113, 114, 115, 116, 117, 118, 119, 120, 121, 122]).length : Int) := by
        by_cases h22 : bitI .and .u64 v17 15 < (([48, 49, 50, 51, 52, 53, 54, 55, 56, 57, 97, 98, 99, 100, 101, 102, 103, 104, 105, 106, 107, 108, 109, 110, 111, 112, 113, 114, 115, 116, 117, 118, 119, 120, 121, 122]).length : Int)
        · exact h22
        · rw [if_neg h22] at H; cases H
      rw [if_pos h22] at H
      have h23 : v16.length = 65 := by
        by_cases h23 : v16.length = 65
        · exact h23
        · rw [if_neg h23] at H; cases H
      rw [if_pos h23] at H
      have h24 : (0 : Int) ≤ w64 (v18 - 1) := by
        by_cases h24 : (0 : Int) ≤ w64 (v18 - 1)
        · exact h24
        · rw [if_neg h24] at H; cases H
      rw [if_pos h24] at H
      have h25 : w64 (v18 - 1) < 65 := by
        by_cases h25 : w64 (v18 - 1) < 65
        · exact h25
        · rw [if_neg h25] at H; cases H
      rw [if_pos h25] at H
      refine st_pure tabOK hk [0, 1, 2, 3, 4, 5] [6] [0, 1, 3, 4, 10, 11, 12, 13, 14, 15, 16, 53, 54] [(0, .slice o1 p0.length c2), (1, .int .u64 v17), (3, .bool p3), (4, .bool p4), (10, .slice none 0 0), (11, S ([])), (12, .pointer (some ⟨b3, 0, none⟩)), (13, I (w64 (v18 - 1))), (14, .int .u64 (IntKind.u64.wrap (t14))), (15, .int .u64 16), (16, .int .u64 15), (53, .int .u8 (bt ([48, 49, 50, 51, 52, 53, 54, 55, 56, 57, 97, 98, 99, 100, 101, 102, 103, 104, 105, 106, 107, 108, 109, 110, 111, 112, 113, 114, 115, 116, 117, 118, 119, 120, 121, 122]) (bitI .and .u64 v17 15))), (54, .pointer ((some (⟨b3, 0, none⟩ : Addr)).map (·.add ((w64 (v18 - 1)).toNat * 1))))] (((0 : Int) ≤ bitI .and .u64 v17 15 ∧ bitI .and .u64 v17 15 < (([48, 49, 50, 51, 52, 53, 54, 55, 56, 57, 97, 98, 99, 100, 101, 102, 103, 104, 105, 106, 107, 108, 109, 110, 111, 112, 113, 114, 115, 116, 117, 118, 119, 120, 121, 122]).length : Int)) ∧ (((0 : Int) ≤ w64 (v18 - 1) ∧ w64 (v18 - 1) < 65) ∧ True)) (by kernel_rfl) ⟨⟨h21, h22⟩, ⟨⟨h24, h25⟩, trivial⟩⟩ ?_
      clear hk; intro a hk
      try rw [u8_bV (bt ([48, 49, 50, 51, 52, 53, 54, 55, 56, 57, 97, 98, 99, 100, 101, 102, 103, 104, 105, 106, 107, 108, 109, 110, 111, 112, 113, 114, 115, 116, 117, 118, 119, 120, 121, 122]) (bitI .and .u64 v17 15)) (bt_lo _ _) (bt_hi _ _)] at hk
      refine st_putB hk ho 0 5 (w64 (v18 - 1)) (u8 (bt ([48, 49, 50, 51, 52, 53, 54, 55, 56, 57, 97, 98, 99, 100, 101, 102, 103, 104, 105, 106, 107, 108, 109, 110, 111, 112, 113, 114, 115, 116, 117, 118, 119, 120, 121, 122]) (bitI .and .u64 v17 15))) 88 (some (⟨b3, 0, none⟩ : Addr)) 65 v16 [.row 0 88 1 (.slice (some (⟨b3, 0, none⟩ : Addr)) ((v16.set (w64 (v18 - 1)).toNat (u8 (bt ([48, 49, 50, 51, 52, 53, 54, 55, 56, 57, 97, 98, 99, 100, 101, 102, 103, 104, 105, 106, 107, 108, 109, 110, 111, 112, 113, 114, 115, 116, 117, 118, 119, 120, 121, 122]) (bitI .and .u64 v17 15)))).length) 65) ((v16.set (w64 (v18 - 1)).toNat (u8 (bt ([48, 49, 50, 51, 52, 53, 54, 55, 56, 57, 97, 98, 99, 100, 101, 102, 103, 104, 105, 106, 107, 108, 109, 110, 111, 112, 113, 114, 115, 116, 117, 118, 119, 120, 121, 122]) (bitI .and .u64 v17 15)))).length) ((v16.set (w64 (v18 - 1)).toNat (u8 (bt ([48, 49, 50, 51, 52, 53, 54, 55, 56, 57, 97, 98, 99, 100, 101, 102, 103, 104, 105, 106, 107, 108, 109, 110, 111, 112, 113, 114, 115, 116, 117, 118, 119, 120, 121, 122]) (bitI .and .u64 v17 15)))).map bV)] (by kernel_rfl) (by kernel_rfl) (by kernel_rfl) rfl h24 (show w64 (v18 - 1) < (v16.length : Int) by rw [h23]; exact h25) rfl ?_
      clear ho; intro w ho
      have h26 : v16.length = (v16.set (w64 (v18 - 1)).toNat (u8 (bt ([48, 49, 50, 51, 52, 53, 54, 55, 56, 57, 97, 98, 99, 100, 101, 102, 103, 104, 105, 106, 107, 108, 109, 110, 111, 112, 113, 114, 115, 116, 117, 118, 119, 120, 121, 122]) (bitI .and .u64 v17 15)))).length := by simp
      replace hk : Kn 102 a [(0, .slice o1 p0.length c2), (1, .int .u64 v17), (3, .bool p3), (4, .bool p4), (10, .slice none 0 0), (11, S ([])), (12, .pointer (some ⟨b3, 0, none⟩)), (13, I (w64 (v18 - 1))), (14, .int .u64 (IntKind.u64.wrap (t14))), (15, .int .u64 16), (16, .int .u64 15)] := by exact hk.to [0, 1, 3, 4, 10, 11, 12, 13, 14, 15, 16] _ (by kernel_rfl)
      refine st_done ?_
      refine st_region 14 (opsOf (C40 [1, 1, 1, 1, 1, 0, 1, 0, 1, 1, 1, 0, 0, 0, 1, 0, 1, 1])) [0, 1, 2, 3] (by kernel_rfl) (by kernel_rfl) ?_
      have h27 : (0 : Int) ≤ IntKind.u64.wrap (t14) := by
        by_cases h27 : (0 : Int) ≤ IntKind.u64.wrap (t14)
        · exact h27
        · rw [if_neg h27] at H; cases H
      rw [if_pos h27] at H
      refine st_pure tabOK hk [0, 1, 2, 3] [] [0, 1, 3, 4, 10, 11, 12, 13, 14, 15, 16] [(0, .slice o1 p0.length c2), (1, .int .u64 (shI .shr .u64 v17 (IntKind.u64.wrap (t14)))), (3, .bool p3), (4, .bool p4), (10, .slice none 0 0), (11, S ([])), (12, .pointer (some ⟨b3, 0, none⟩)), (13, I (w64 (v18 - 1))), (14, .int .u64 (IntKind.u64.wrap (t14))), (15, .int .u64 16), (16, .int .u64 15)] ((0 : Int) ≤ IntKind.u64.wrap (t14) ∧ True) (by kernel_rfl) ⟨h27, trivial⟩ ?_
      clear hk; intro a hk
      refine st_done ?_
      refine st_endb 1 ?_
      refine st_inl ?_
      exact ih p0 p3 p4 t14 (v16.set (w64 (v18 - 1)).toNat (u8 (bt ([48, 49, 50, 51, 52, 53, 54, 55, 56, 57, 97, 98, 99, 100, 101, 102, 103, 104, 105, 106, 107, 108, 109, 110, 111, 112, 113, 114, 115, 116, 117, 118, 119, 120, 121, 122]) (bitI .and .u64 v17 15)))) (shI .shr .u64 v17 (IntKind.u64.wrap (t14))) (w64 (v18 - 1)) out H o1 c2 b3 w0 Q rest a w hr0 hl0 (hk.to [0, 1, 3, 4, 10, 11, 12, 13, 14, 15, 16] _ (by kernel_rfl)) ho J
    ·
      have h28 : ¬ (v17 ≥ 16) := of_decide_eq_false h19
      rw [if_neg h28] at H
      refine st_exit 0 _ (by kernel_rfl) rfl ?_
      obtain rfl := Option.some.inj H
      exact J (v16, v17, v18)  a w rfl (hk.to [0, 1, 3, 4, 10, 11, 12, 13] _ (by kernel_rfl)) ho

theorem strconv_formatBits_16.l1_ok : ∀ (k : Nat) (p0 : List UInt8) (p3 : Bool) (p4 : Bool) (v39 : List UInt8) (v40 : Int) (v41 : Int) (out : List UInt8 × Int × Int), strconv_formatBits_16.l1 k p0 p3 p4 v39 v40 v41 = some out → ∀ (o1 : Option Addr) (c2 : Nat) (b3 : Nat) (w0 : World) (Q : Exit → Act → World → Prop) (rest : List It) (a : Act) (w : World), (hr0 : Rd w0 o1 (p0.map bV)) → (hl0 : p0.length ≤ c2) → Kn 102 a [(0, .slice o1 p0.length c2), (1, .int .u64 v40), (3, .bool p3), (4, .bool p4), (10, .slice none 0 0), (11, S ([])), (12, .pointer (some ⟨b3, 0, none⟩)), (13, I v41), (17, .int .u64 16)] → Ows [] w0 w [.row 0 88 1 (.slice (some (⟨b3, 0, none⟩ : Addr)) v39.length 65) v39.length (v39.map bV)] → (∀ (s : List UInt8 × Int × Int) (a : Act) (w : World), out = s → Kn 102 a [(0, .slice o1 p0.length c2), (1, .int .u64 s.2.1), (3, .bool p3), (4, .bool p4), (10, .slice none 0 0), (11, S ([])), (12, .pointer (some ⟨b3, 0, none⟩)), (13, I s.2.2)] → Ows [] w0 w [.row 0 88 1 (.slice (some (⟨b3, 0, none⟩ : Addr)) s.1.length 65) s.1.length (s.1.map bV)] → G Tryz.prog Q rest a w) → G Tryz.prog Q (.code (C40 [1, 1, 1, 1, 1, 0, 1, 1, 1, 0, 0, 0]) :: .inl (C40 [1, 1, 1, 1, 1, 0, 1, 1, 1, 0, 0, 0]) :: .endb 2 :: rest) a w := by
  intro k
  induction k with
  | zero => intro p0 p3 p4 v39 v40 v41 out H; simp [strconv_formatBits_16.l1] at H
  | succ k ih =>
    intro p0 p3 p4 v39 v40 v41 out H o1 c2 b3 w0 Q rest a w hr0 hl0 hk ho J
    simp only [strconv_formatBits_16.l1] at H
    refine st_seq (C40 [1, 1, 1, 1, 1, 0, 1, 1, 1, 0, 0, 0, 0]) (C40 [1, 1, 1, 1, 1, 0, 1, 1, 1, 0, 0, 0, 1]) (by kernel_rfl) ?_
    refine st_seq (C40 [1, 1, 1, 1, 1, 0, 1, 1, 1, 0, 0, 0, 0, 0]) (C40 [1, 1, 1, 1, 1, 0, 1, 1, 1, 0, 0, 0, 0, 1]) (by kernel_rfl) ?_
    refine st_region 18 (opsOf (C40 [1, 1, 1, 1, 1, 0, 1, 1, 1, 0, 0, 0, 0, 0])) [0, 1, 2] (by kernel_rfl) (by kernel_rfl) ?_
    refine st_pure tabOK hk [0, 1, 2] [] [0, 1, 3, 4, 10, 11, 12, 13, 17, 68] [(0, .slice o1 p0.length c2), (1, .int .u64 v40), (3, .bool p3), (4, .bool p4), (10, .slice none 0 0), (11, S ([])), (12, .pointer (some ⟨b3, 0, none⟩)), (13, I v41), (17, .int .u64 16), (68, .bool (decide (v40 ≥ 16)))] (True) (by kernel_rfl) trivial ?_
    clear hk; intro a hk
    refine st_done ?_
    refine st_cond hk (C40 [1, 1, 1, 1, 1, 0, 1, 1, 1, 0, 0, 0, 0, 1, 0]) (C40 [1, 1, 1, 1, 1, 0, 1, 1, 1, 0, 0, 0, 0, 1, 1]) (.tmp 68) (decide (v40 ≥ 16)) (by kernel_rfl) (by kernel_rfl) (fun h42 => ?_) (fun h42 => ?_)
    ·
      have h43 : v40 ≥ 16 := of_decide_eq_true h42
      rw [if_pos h43] at H
      refine st_skip (by kernel_rfl) ?_
      refine st_block 3 (C40 [1, 1, 1, 1, 1, 0, 1, 1, 1, 0, 0, 0, 1, 0]) (by kernel_rfl) ?_
      refine st_seq (C40 [1, 1, 1, 1, 1, 0, 1, 1, 1, 0, 0, 0, 1, 0, 0]) (C40 [1, 1, 1, 1, 1, 0, 1, 1, 1, 0, 0, 0, 1, 0, 1]) (by kernel_rfl) ?_
      refine st_region 19 (opsOf (C40 [1, 1, 1, 1, 1, 0, 1, 1, 1, 0, 0, 0, 1, 0, 0])) [0, 1, 2] (by kernel_rfl) (by kernel_rfl) ?_
      refine st_pure tabOK hk [0, 1, 2] [] [0, 1, 3, 4, 10, 11, 12, 13, 17] [(0, .slice o1 p0.length c2), (1, .int .u64 v40), (3, .bool p3), (4, .bool p4), (10, .slice none 0 0), (11, S ([])), (12, .pointer (some ⟨b3, 0, none⟩)), (13, I (w64 (v41 - 1))), (17, .int .u64 16)] (True) (by kernel_rfl) trivial ?_
      clear hk; intro a hk
      refine st_done ?_
      refine st_seq (C40 [1, 1, 1, 1, 1, 0, 1, 1, 1, 0, 0, 0, 1, 0, 1, 0]) (C40 [1, 1, 1, 1, 1, 0, 1, 1, 1, 0, 0, 0, 1, 0, 1, 1]) (by kernel_rfl) ?_
      refine st_region 20 (opsOf (C40 [1, 1, 1, 1, 1, 0, 1, 1, 1, 0, 0, 0, 1, 0, 1, 0])) [0, 1, 2, 3] (by kernel_rfl) (by kernel_rfl) ?_
      refine st_pure tabOK hk [0, 1, 2, 3] [] [0, 1, 3, 4, 10, 11, 12, 13, 17, 18] [(0, .slice o1 p0.length c2), (1, .int .u64 v40), (3, .bool p3), (4, .bool p4), (10, .slice none 0 0), (11, S ([])), (12, .pointer (some ⟨b3, 0, none⟩)), (13, I (w64 (v41 - 1))), (17, .int .u64 16), (18, .int .u64 (IntKind.u64.wrap (v40.tdiv 16)))] ((16 : Int) ≠ 0 ∧ True) (by kernel_rfl) ⟨(by decide), trivial⟩ ?_
      clear hk; intro a hk
      refine st_done ?_
      refine st_seq (C40 [1, 1, 1, 1, 1, 0, 1, 1, 1, 0, 0, 0, 1, 0, 1, 1, 0]) (C40 [1, 1, 1, 1, 1, 0, 1, 1, 1, 0, 0, 0, 1, 0, 1, 1, 1]) (by kernel_rfl) ?_
      refine st_region 21 (opsOf (C40 [1, 1, 1, 1, 1, 0, 1, 1, 1, 0, 0, 0, 1, 0, 1, 1, 0])) [0, 1, 2, 3, 4, 5, 6, 7, 8] (by kernel_rfl) (by kernel_rfl) ?_
      have h44 : (0 : Int) ≤ IntKind.u64.wrap (v40 - (IntKind.u64.wrap ((IntKind.u64.wrap (v40.tdiv 16)) * 16))) := by
        by_cases h44 : (0 : Int) ≤ IntKind.u64.wrap (v40 - (IntKind.u64.wrap ((IntKind.u64.wrap (v40.tdiv 16)) * 16)))
        · exact h44
        · rw [if_neg h44] at H; cases H
      rw [if_pos h44] at H
      have h45 : IntKind.u64.wrap (v40 - (IntKind.u64.wrap ((IntKind.u64.wrap (v40.tdiv 16)) * 16))) < (([48, 49, 50, 51, 52, 53, 54, 55, 56, 57, 97, 98, 99, 100, 101, 102, 103, 104, 105, 106, 107, 108, 109, 110, 111, 112, 113, 114, 115, 116, 117, 118, 119, 120, 121, 122]).length : Int) := by
        by_cases h45 : IntKind.u64.wrap (v40 - (IntKind.u64.wrap ((IntKind.u64.wrap (v40.tdiv 16)) * 16))) < (([48, 49, 50, 51, 52, 53, 54, 55, 56, 57, 97, 98, 99, 100, 101, 102, 103, 104, 105, 106, 107, 108, 109, 110, 111, 112, 113, 114, 115, 116, 117, 118, 119, 120, 121, 122]).length : Int)
        · exact h45
        · rw [if_neg h45] at H; cases H
      rw [if_pos h45] at H
      have h46 : v39.length = 65 := by
        by_cases h46 : v39.length = 65
        · exact h46
        · rw [if_neg h46] at H; cases H
      rw [if_pos h46] at H
      have h47 : (0 : Int) ≤ w64 (v41 - 1) := by
        by_cases h47 : (0 : Int) ≤ w64 (v41 - 1)
        · exact h47
        · rw [if_neg h47] at H; cases H
      rw [if_pos h47] at H
      have h48 : w64 (v41 - 1) < 65 := by
        by_cases h48 : w64 (v41 - 1) < 65
        · exact h48
        · rw [if_neg h48] at H; cases H
      rw [if_pos h48] at H
      refine st_pure tabOK hk [0, 1, 2, 3, 4, 5, 6, 7] [8] [0, 3, 4, 10, 11, 12, 13, 17, 18, 80, 81] [(0, .slice o1 p0.length c2), (3, .bool p3), (4, .bool p4), (10, .slice none 0 0), (11, S ([])), (12, .pointer (some ⟨b3, 0, none⟩)), (13, I (w64 (v41 - 1))), (17, .int .u64 16), (18, .int .u64 (IntKind.u64.wrap (v40.tdiv 16))), (80, .int .u8 (bt ([48, 49, 50, 51, 52, 53, 54, 55, 56, 57, 97, 98, 99, 100, 101, 102, 103, 104, 105, 106, 107, 108, 109, 110, 111, 112, 113, 114, 115, 116, 117, 118, 119, 120, 121, 122]) (IntKind.u64.wrap (v40 - (IntKind.u64.wrap ((IntKind.u64.wrap (v40.tdiv 16)) * 16)))))), (81, .pointer ((some (⟨b3, 0, none⟩ : Addr)).map (·.add ((w64 (v41 - 1)).toNat * 1))))] (((0 : Int) ≤ IntKind.u64.wrap (v40 - (IntKind.u64.wrap ((IntKind.u64.wrap (v40.tdiv 16)) * 16))) ∧ IntKind.u64.wrap (v40 - (IntKind.u64.wrap ((IntKind.u64.wrap (v40.tdiv 16)) * 16))) < (([48, 49, 50, 51, 52, 53, 54, 55, 56, 57, 97, 98, 99, 100, 101, 102, 103, 104, 105, 106, 107, 108, 109, 110, 111, 112, 113, 114, 115, 116, 117, 118, 119, 120, 121, 122]).length : Int)) ∧ (((0 : Int) ≤ w64 (v41 - 1) ∧ w64 (v41 - 1) < 65) ∧ True)) (by kernel_rfl) ⟨⟨h44, h45⟩, ⟨⟨h47, h48⟩, trivial⟩⟩ ?_
      clear hk; intro a hk
      try rw [u8_bV (bt ([48, 49, 50, 51, 52, 53, 54, 55, 56, 57, 97, 98, 99, 100, 101, 102, 103, 104, 105, 106, 107, 108, 109, 110, 111, 112, 113, 114, 115, 116, 117, 118, 119, 120, 121, 122]) (IntKind.u64.wrap (v40 - (IntKind.u64.wrap ((IntKind.u64.wrap (v40.tdiv 16)) * 16))))) (bt_lo _ _) (bt_hi _ _)] at hk
      refine st_putB hk ho 0 5 (w64 (v41 - 1)) (u8 (bt ([48, 49, 50, 51, 52, 53, 54, 55, 56, 57, 97, 98, 99, 100, 101, 102, 103, 104, 105, 106, 107, 108, 109, 110, 111, 112, 113, 114, 115, 116, 117, 118, 119, 120, 121, 122]) (IntKind.u64.wrap (v40 - (IntKind.u64.wrap ((IntKind.u64.wrap (v40.tdiv 16)) * 16)))))) 88 (some (⟨b3, 0, none⟩ : Addr)) 65 v39 [.row 0 88 1 (.slice (some (⟨b3, 0, none⟩ : Addr)) ((v39.set (w64 (v41 - 1)).toNat (u8 (bt ([48, 49, 50, 51, 52, 53, 54, 55, 56, 57, 97, 98, 99, 100, 101, 102, 103, 104, 105, 106, 107, 108, 109, 110, 111, 112, 113, 114, 115, 116, 117, 118, 119, 120, 121, 122]) (IntKind.u64.wrap (v40 - (IntKind.u64.wrap ((IntKind.u64.wrap (v40.tdiv 16)) * 16))))))).length) 65) ((v39.set (w64 (v41 - 1)).toNat (u8 (bt ([48, 49, 50, 51, 52, 53, 54, 55, 56, 57, 97, 98, 99, 100, 101, 102, 103, 104, 105, 106, 107, 108, 109, 110, 111, 112, 113, 114, 115, 116, 117, 118, 119, 120, 121, 122]) (IntKind.u64.wrap (v40 - (IntKind.u64.wrap ((IntKind.u64.wrap (v40.tdiv 16)) * 16))))))).length) ((v39.set (w64 (v41 - 1)).toNat (u8 (bt ([48, 49, 50, 51, 52, 53, 54, 55, 56, 57, 97, 98, 99, 100, 101, 102, 103, 104, 105, 106, 107, 108, 109, 110, 111, 112, 113, 114, 115, 116, 117, 118, 119, 120, 121, 122]) (IntKind.u64.wrap (v40 - (IntKind.u64.wrap ((IntKind.u64.wrap (v40.tdiv 16)) * 16))))))).map bV)] (by kernel_rfl) (by kernel_rfl) (by kernel_rfl) rfl h47 (show w64 (v41 - 1) < (v39.length : Int) by rw [h46]; exact h48) rfl ?_
      clear ho; intro w ho
      have h49 : v39.length = (v39.set (w64 (v41 - 1)).toNat (u8 (bt ([48, 49, 50, 51, 52, 53, 54, 55, 56, 57, 97, 98, 99, 100, 101, 102, 103, 104, 105, 106, 107, 108, 109, 110, 111, 112, 113, 114, 115, 116, 117, 118, 119, 120, 121, 122]) (IntKind.u64.wrap (v40 - (IntKind.u64.wrap ((IntKind.u64.wrap (v40.tdiv 16)) * 16))))))).length := by simp
      replace hk : Kn 102 a [(0, .slice o1 p0.length c2), (3, .bool p3), (4, .bool p4), (10, .slice none 0 0), (11, S ([])), (12, .pointer (some ⟨b3, 0, none⟩)), (13, I (w64 (v41 - 1))), (17, .int .u64 16), (18, .int .u64 (IntKind.u64.wrap (v40.tdiv 16)))] := by exact hk.to [0, 3, 4, 10, 11, 12, 13, 17, 18] _ (by kernel_rfl)
      refine st_done ?_
      refine st_region 22 (opsOf (C40 [1, 1, 1, 1, 1, 0, 1, 1, 1, 0, 0, 0, 1, 0, 1, 1, 1])) [0, 1] (by kernel_rfl) (by kernel_rfl) ?_
      refine st_pure tabOK hk [0, 1] [] [0, 1, 3, 4, 10, 11, 12, 13, 17] [(0, .slice o1 p0.length c2), (1, .int .u64 (IntKind.u64.wrap (v40.tdiv 16))), (3, .bool p3), (4, .bool p4), (10, .slice none 0 0), (11, S ([])), (12, .pointer (some ⟨b3, 0, none⟩)), (13, I (w64 (v41 - 1))), (17, .int .u64 16)] (True) (by kernel_rfl) trivial ?_
      clear hk; intro a hk
      refine st_done ?_
      refine st_endb 3 ?_
      refine st_inl ?_
      exact ih p0 p3 p4 (v39.set (w64 (v41 - 1)).toNat (u8 (bt ([48, 49, 50, 51, 52, 53, 54, 55, 56, 57, 97, 98, 99, 100, 101, 102, 103, 104, 105, 106, 107, 108, 109, 110, 111, 112, 113, 114, 115, 116, 117, 118, 119, 120, 121, 122]) (IntKind.u64.wrap (v40 - (IntKind.u64.wrap ((IntKind.u64.wrap (v40.tdiv 16)) * 16))))))) (IntKind.u64.wrap (v40.tdiv 16)) (w64 (v41 - 1)) out H o1 c2 b3 w0 Q rest a w hr0 hl0 (hk.to [0, 1, 3, 4, 10, 11, 12, 13, 17] _ (by kernel_rfl)) ho J
    ·
      have h50 : ¬ (v40 ≥ 16) := of_decide_eq_false h42
      rw [if_neg h50] at H
      refine st_exit 2 _ (by kernel_rfl) rfl ?_
      obtain rfl := Option.some.inj H
      exact J (v39, v40, v41)  a w rfl (hk.to [0, 1, 3, 4, 10, 11, 12, 13] _ (by kernel_rfl)) ho

theorem strconv_formatBits_16.ok (K : Nat) (p0 : List UInt8) (p1 : Int) (p3 : Bool) (p4 : Bool) (r : List UInt8 × Str) (H : strconv_formatBits_16.f K p0 p1 p3 p4 = some r) (w0 : World) (o1 : Option Addr) (c2 : Nat) (hr0 : Rd w0 o1 (p0.map bV)) (hl0 : p0.length ≤ c2) (hg : Glob w0) : Calls Tryz.prog 40 ⟨[.slice o1 p0.length c2, .int .u64 p1, I 16, .bool p3, .bool p4]⟩ w0 fun e w => ∃ u, e = .returned u ∧ strconv_formatBits_16.post w0 r u w := by
  unfold strconv_formatBits_16.f at H
  refine st_start (N := 102) [.slice o1 p0.length c2, .int .u64 p1, I 16, .bool p3, .bool p4] (C40 []) func40 (by kernel_rfl) (by kernel_rfl) (by kernel_rfl) ?_
  intro a w hk ho
  refine st_seq (C40 [0]) (C40 [1]) (by kernel_rfl) ?_
  refine st_region 0 (opsOf (C40 [0])) [0, 1] (by kernel_rfl) (by kernel_rfl) ?_
  refine st_pure tabOK hk [0, 1] [] [0, 1, 2, 3, 4, 10, 11] [(0, .slice o1 p0.length c2), (1, .int .u64 p1), (2, I 16), (3, .bool p3), (4, .bool p4), (10, .slice none 0 0), (11, S ([]))] (True) (by kernel_rfl) trivial ?_
  clear hk; intro a hk
  refine st_done ?_
  refine st_seq (C40 [1, 0]) (C40 [1, 1]) (by kernel_rfl) ?_
  refine st_seq (C40 [1, 0, 0]) (C40 [1, 0, 1]) (by kernel_rfl) ?_
  refine st_region 1 (opsOf (C40 [1, 0, 0])) [0, 1, 2, 3, 4, 5, 6, 7, 8, 9] (by kernel_rfl) (by kernel_rfl) ?_
  refine st_pure tabOK hk [0, 1, 2, 3, 4, 5, 6, 7, 8, 9] [] [0, 1, 2, 3, 4, 10, 11, 28] [(0, .slice o1 p0.length c2), (1, .int .u64 p1), (2, I 16), (3, .bool p3), (4, .bool p4), (10, .slice none 0 0), (11, S ([])), (28, .bool false)] (True) (by kernel_rfl) trivial ?_
  clear hk; intro a hk
  refine st_done ?_
  refine st_cond_false hk (C40 [1, 0, 1, 0]) (C40 [1, 0, 1, 1]) (.tmp 28) (by kernel_rfl) (by kernel_rfl) ?_
  refine st_skip (by kernel_rfl) ?_
  refine st_seq (C40 [1, 1, 0]) (C40 [1, 1, 1]) (by kernel_rfl) ?_
  refine st_region 3 (opsOf (C40 [1, 1, 0])) [0] (by kernel_rfl) (by kernel_rfl) ?_
  refine st_new tabOK hk ho #[.int .u8 0, .int .u8 0, .int .u8 0, .int .u8 0, .int .u8 0, .int .u8 0, .int .u8 0, .int .u8 0, .int .u8 0, .int .u8 0, .int .u8 0, .int .u8 0, .int .u8 0, .int .u8 0, .int .u8 0, .int .u8 0, .int .u8 0, .int .u8 0, .int .u8 0, .int .u8 0, .int .u8 0, .int .u8 0, .int .u8 0, .int .u8 0, .int .u8 0, .int .u8 0, .int .u8 0, .int .u8 0, .int .u8 0, .int .u8 0, .int .u8 0, .int .u8 0, .int .u8 0, .int .u8 0, .int .u8 0, .int .u8 0, .int .u8 0, .int .u8 0, .int .u8 0, .int .u8 0, .int .u8 0, .int .u8 0, .int .u8 0, .int .u8 0, .int .u8 0, .int .u8 0, .int .u8 0, .int .u8 0, .int .u8 0, .int .u8 0, .int .u8 0, .int .u8 0, .int .u8 0, .int .u8 0, .int .u8 0, .int .u8 0, .int .u8 0, .int .u8 0, .int .u8 0, .int .u8 0, .int .u8 0, .int .u8 0, .int .u8 0, .int .u8 0, .int .u8 0] 88 12 (by kernel_rfl) ?_
  clear hk ho; intro a b3 w hk ho
  replace ho := ho.asRow (size := 1) (n := (List.replicate 65 (0 : UInt8)).length) (cap := 65) (.inl rfl) (by rfl) (by simp) (by decide) (xs := (List.replicate 65 (0 : UInt8)).map bV) (by kernel_rfl)
  replace ho : Ows [] w0 w [.row 0 88 1 (.slice (some (⟨b3, 0, none⟩ : Addr)) ((List.replicate 65 (0 : UInt8)).length) 65) ((List.replicate 65 (0 : UInt8)).length) ((List.replicate 65 (0 : UInt8)).map bV)] := ho
  refine st_done ?_
  refine st_seq (C40 [1, 1, 1, 0]) (C40 [1, 1, 1, 1]) (by kernel_rfl) ?_
  refine st_region 4 (opsOf (C40 [1, 1, 1, 0])) [0] (by kernel_rfl) (by kernel_rfl) ?_
  refine st_pure tabOK hk [0] [] [0, 1, 2, 3, 4, 10, 11, 12, 13] [(0, .slice o1 p0.length c2), (1, .int .u64 p1), (2, I 16), (3, .bool p3), (4, .bool p4), (10, .slice none 0 0), (11, S ([])), (12, .pointer (some ⟨b3, 0, none⟩)), (13, I 65)] (True) (by kernel_rfl) trivial ?_
  clear hk; intro a hk
  refine st_done ?_
  refine st_seq (C40 [1, 1, 1, 1, 0]) (C40 [1, 1, 1, 1, 1]) (by kernel_rfl) ?_
  refine st_seq (C40 [1, 1, 1, 1, 0, 0]) (C40 [1, 1, 1, 1, 0, 1]) (by kernel_rfl) ?_
  refine st_region 5 (opsOf (C40 [1, 1, 1, 1, 0, 0])) [0] (by kernel_rfl) (by kernel_rfl) ?_
  refine st_pure tabOK hk [0] [] [0, 1, 2, 3, 4, 10, 11, 12, 13, 30] [(0, .slice o1 p0.length c2), (1, .int .u64 p1), (2, I 16), (3, .bool p3), (4, .bool p4), (10, .slice none 0 0), (11, S ([])), (12, .pointer (some ⟨b3, 0, none⟩)), (13, I 65), (30, .bool p3)] (True) (by kernel_rfl) trivial ?_
  clear hk; intro a hk
  refine st_done ?_
  obtain ⟨m5, HX, H⟩ := Option.bind_eq_some_iff.1 H
  refine cut_code (fun a w => Kn 102 a [(0, .slice o1 p0.length c2), (1, .int .u64 m5), (2, I 16), (3, .bool p3), (4, .bool p4), (10, .slice none 0 0), (11, S ([])), (12, .pointer (some ⟨b3, 0, none⟩)), (13, I 65)] ∧ Ows [] w0 w [.row 0 88 1 (.slice (some (⟨b3, 0, none⟩ : Addr)) ((List.replicate 65 (0 : UInt8)).length) 65) ((List.replicate 65 (0 : UInt8)).length) ((List.replicate 65 (0 : UInt8)).map bV)]) ?_ ?_
  · intro J; clear H; have H := HX; clear HX
    refine st_cond hk (C40 [1, 1, 1, 1, 0, 1, 0]) (C40 [1, 1, 1, 1, 0, 1, 1]) (.tmp 30) (p3) (by kernel_rfl) (by kernel_rfl) (fun h6 => ?_) (fun h6 => ?_)
    ·
      have h7 : p3 = true := h6
      rw [if_pos h7] at H
      refine st_region 6 (opsOf (C40 [1, 1, 1, 1, 0, 1, 0])) [0, 1, 2] (by kernel_rfl) (by kernel_rfl) ?_
      refine st_pure tabOK hk [0, 1, 2] [] [0, 1, 2, 3, 4, 10, 11, 12, 13] [(0, .slice o1 p0.length c2), (1, .int .u64 (IntKind.u64.wrap (0 - p1))), (2, I 16), (3, .bool p3), (4, .bool p4), (10, .slice none 0 0), (11, S ([])), (12, .pointer (some ⟨b3, 0, none⟩)), (13, I 65)] (True) (by kernel_rfl) trivial ?_
      clear hk; intro a hk
      refine st_done ?_
      obtain rfl := Option.some.inj H
      exact J a w ⟨hk.to [0, 1, 2, 3, 4, 10, 11, 12, 13] _ (by kernel_rfl), ho⟩
    ·
      have h8 : ¬ (p3 = true) := ne_true_of_eq_false h6
      rw [if_neg h8] at H
      refine st_skip (by kernel_rfl) ?_
      obtain rfl := Option.some.inj H
      exact J a w ⟨hk.to [0, 1, 2, 3, 4, 10, 11, 12, 13] _ (by kernel_rfl), ho⟩
  · clear HX; rintro a w ⟨hk, ho⟩
    refine st_seq (C40 [1, 1, 1, 1, 1, 0]) (C40 [1, 1, 1, 1, 1, 1]) (by kernel_rfl) ?_
    refine st_seq (C40 [1, 1, 1, 1, 1, 0, 0]) (C40 [1, 1, 1, 1, 1, 0, 1]) (by kernel_rfl) ?_
    refine st_region 7 (opsOf (C40 [1, 1, 1, 1, 1, 0, 0])) [0, 1] (by kernel_rfl) (by kernel_rfl) ?_
    refine st_pure tabOK hk [0] [1] [0, 1, 2, 3, 4, 10, 11, 12, 13, 33] [(0, .slice o1 p0.length c2), (1, .int .u64 m5), (2, I 16), (3, .bool p3), (4, .bool p4), (10, .slice none 0 0), (11, S ([])), (12, .pointer (some ⟨b3, 0, none⟩)), (13, I 65), (33, I 16)] (True) (by kernel_rfl) trivial ?_
    clear hk; intro a hk
    obtain ⟨t9, h10, H⟩ := Option.bind_eq_some_iff.1 H
    refine st_call hk 62 [I 16] (some 34) enters62 (by kernel_rfl) (strconv_isPowerOfTwo_16.ok   t9 h10 w ) ?_
    clear hk; rintro a u w ⟨rfl, ho'⟩ hk
    replace ho : Ows [] w0 w [.row 0 88 1 (.slice (some (⟨b3, 0, none⟩ : Addr)) ((List.replicate 65 (0 : UInt8)).length) 65) ((List.replicate 65 (0 : UInt8)).length) ((List.replicate 65 (0 : UInt8)).map bV)] := ho.call ho'; clear ho'
    refine st_done ?_
    obtain ⟨m11, HX, H⟩ := Option.bind_eq_some_iff.1 H
    refine cut_code (fun a w => Kn 102 a [(0, .slice o1 p0.length c2), (3, .bool p3), (4, .bool p4), (10, .slice none 0 0), (11, S ([])), (12, .pointer (some ⟨b3, 0, none⟩)), (13, I m11.2)] ∧ Ows [] w0 w [.row 0 88 1 (.slice (some (⟨b3, 0, none⟩ : Addr)) m11.1.length 65) m11.1.length (m11.1.map bV)]) ?_ ?_
    · intro J; clear H; have H := HX; clear HX
      refine st_cond hk (C40 [1, 1, 1, 1, 1, 0, 1, 0]) (C40 [1, 1, 1, 1, 1, 0, 1, 1]) (.tmp 34) (t9) (by kernel_rfl) (by kernel_rfl) (fun h12 => ?_) (fun h12 => ?_)
      ·
        have h13 : t9 = true := h12
        rw [if_pos h13] at H
        refine st_seq (C40 [1, 1, 1, 1, 1, 0, 1, 0, 0]) (C40 [1, 1, 1, 1, 1, 0, 1, 0, 1]) (by kernel_rfl) ?_
        refine st_region 8 (opsOf (C40 [1, 1, 1, 1, 1, 0, 1, 0, 0])) [0, 1, 2, 3, 4] (by kernel_rfl) (by kernel_rfl) ?_
        refine st_pure tabOK hk [0, 1] [2, 3, 4] [0, 1, 2, 3, 4, 10, 11, 12, 13, 36] [(0, .slice o1 p0.length c2), (1, .int .u64 m5), (2, I 16), (3, .bool p3), (4, .bool p4), (10, .slice none 0 0), (11, S ([])), (12, .pointer (some ⟨b3, 0, none⟩)), (13, I 65), (36, .int .u64 16)] (True) (by kernel_rfl) trivial ?_
        clear hk; intro a hk
        obtain ⟨t14, h15, H⟩ := Option.bind_eq_some_iff.1 H
        refine st_call hk 63 [.int .u64 16] (some 37) enters63 (by kernel_rfl) (bits_TrailingZeros_16.ok   t14 h15 w (hg.of ho)) ?_
        clear hk; rintro a u w ⟨rfl, ho'⟩ hk
        replace ho : Ows [] w0 w [.row 0 88 1 (.slice (some (⟨b3, 0, none⟩ : Addr)) ((List.replicate 65 (0 : UInt8)).length) 65) ((List.replicate 65 (0 : UInt8)).length) ((List.replicate 65 (0 : UInt8)).map bV)] := ho.call ho'; clear ho'
        refine st_pure tabOK hk [3, 4] [] [0, 1, 2, 3, 4, 10, 11, 12, 13, 14] [(0, .slice o1 p0.length c2), (1, .int .u64 m5), (2, I 16), (3, .bool p3), (4, .bool p4), (10, .slice none 0 0), (11, S ([])), (12, .pointer (some ⟨b3, 0, none⟩)), (13, I 65), (14, .int .u64 (IntKind.u64.wrap (t14)))] (True) (by kernel_rfl) trivial ?_
        clear hk; intro a hk
        refine st_done ?_
        refine st_seq (C40 [1, 1, 1, 1, 1, 0, 1, 0, 1, 0]) (C40 [1, 1, 1, 1, 1, 0, 1, 0, 1, 1]) (by kernel_rfl) ?_
        refine st_region 9 (opsOf (C40 [1, 1, 1, 1, 1, 0, 1, 0, 1, 0])) [0, 1, 2] (by kernel_rfl) (by kernel_rfl) ?_
        refine st_pure tabOK hk [0, 1, 2] [] [0, 1, 2, 3, 4, 10, 11, 12, 13, 14, 15] [(0, .slice o1 p0.length c2), (1, .int .u64 m5), (2, I 16), (3, .bool p3), (4, .bool p4), (10, .slice none 0 0), (11, S ([])), (12, .pointer (some ⟨b3, 0, none⟩)), (13, I 65), (14, .int .u64 (IntKind.u64.wrap (t14))), (15, .int .u64 16)] (True) (by kernel_rfl) trivial ?_
        clear hk; intro a hk
        refine st_done ?_
        refine st_seq (C40 [1, 1, 1, 1, 1, 0, 1, 0, 1, 1, 0]) (C40 [1, 1, 1, 1, 1, 0, 1, 0, 1, 1, 1]) (by kernel_rfl) ?_
        refine st_region 10 (opsOf (C40 [1, 1, 1, 1, 1, 0, 1, 0, 1, 1, 0])) [0, 1, 2, 3] (by kernel_rfl) (by kernel_rfl) ?_
        refine st_pure tabOK hk [0, 1, 2, 3] [] [0, 1, 3, 4, 10, 11, 12, 13, 14, 15, 16] [(0, .slice o1 p0.length c2), (1, .int .u64 m5), (3, .bool p3), (4, .bool p4), (10, .slice none 0 0), (11, S ([])), (12, .pointer (some ⟨b3, 0, none⟩)), (13, I 65), (14, .int .u64 (IntKind.u64.wrap (t14))), (15, .int .u64 16), (16, .int .u64 15)] (True) (by kernel_rfl) trivial ?_
        clear hk; intro a hk
        refine st_done ?_
        refine st_seq (C40 [1, 1, 1, 1, 1, 0, 1, 0, 1, 1, 1, 0]) (C40 [1, 1, 1, 1, 1, 0, 1, 0, 1, 1, 1, 1]) (by kernel_rfl) ?_
        refine st_block 0 (C40 [1, 1, 1, 1, 1, 0, 1, 0, 1, 1, 1, 0, 0]) (by kernel_rfl) ?_
        obtain ⟨m29, h30, H⟩ := Option.bind_eq_some_iff.1 H
        refine st_loop (C40 [1, 1, 1, 1, 1, 0, 1, 0, 1, 1, 1, 0, 0, 0]) (by kernel_rfl) ?_
        refine strconv_formatBits_16.l0_ok K p0 p3 p4 t14 (List.replicate 65 (0 : UInt8)) m5 65 m29 h30 o1 c2 b3 w0 _ _ a w hr0 hl0 (hk.to [0, 1, 3, 4, 10, 11, 12, 13, 14, 15, 16] _ (by kernel_rfl)) ho ?_
        · intro s31  a w e hk ho; have e := e.symm; subst e
          refine st_seq (C40 [1, 1, 1, 1, 1, 0, 1, 0, 1, 1, 1, 1, 0]) (C40 [1, 1, 1, 1, 1, 0, 1, 0, 1, 1, 1, 1, 1]) (by kernel_rfl) ?_
          refine st_region 15 (opsOf (C40 [1, 1, 1, 1, 1, 0, 1, 0, 1, 1, 1, 1, 0])) [0, 1, 2] (by kernel_rfl) (by kernel_rfl) ?_
          refine st_pure tabOK hk [0, 1, 2] [] [0, 1, 3, 4, 10, 11, 12, 13] [(0, .slice o1 p0.length c2), (1, .int .u64 s31.2.1), (3, .bool p3), (4, .bool p4), (10, .slice none 0 0), (11, S ([])), (12, .pointer (some ⟨b3, 0, none⟩)), (13, I (w64 (s31.2.2 - 1)))] (True) (by kernel_rfl) trivial ?_
          clear hk; intro a hk
          refine st_done ?_
          refine st_region 16 (opsOf (C40 [1, 1, 1, 1, 1, 0, 1, 0, 1, 1, 1, 1, 1])) [0, 1, 2, 3, 4] (by kernel_rfl) (by kernel_rfl) ?_
          have h32 : (0 : Int) ≤ s31.2.1 := by
            by_cases h32 : (0 : Int) ≤ s31.2.1
            · exact h32
            · rw [if_neg h32] at H; cases H
          rw [if_pos h32] at H
          have h33 : s31.2.1 < (([48, 49, 50, 51, 52, 53, 54, 55, 56, 57, 97, 98, 99, 100, 101, 102, 103, 104, 105, 106, 107, 108, 109, 110, 111, 112, 113, 114, 115, 116, 117, 118, 119, 120, 121, 122]).length : Int) := by
            by_cases h33 : s31.2.1 < (([48, 49, 50, 51, 52, 53, 54, 55, 56, 57, 97, 98, 99, 100, 101, 102, 103, 104, 105, 106, 107, 108, 109, 110, 111, 112, 113, 114, 115, 116, 117, 118, 119, 120, 121, 122]).length : Int)
            · exact h33
            · rw [if_neg h33] at H; cases H
          rw [if_pos h33] at H
          have h34 : s31.1.length = 65 := by
            by_cases h34 : s31.1.length = 65
            · exact h34
            · rw [if_neg h34] at H; cases H
          rw [if_pos h34] at H
          have h35 : (0 : Int) ≤ w64 (s31.2.2 - 1) := by
            by_cases h35 : (0 : Int) ≤ w64 (s31.2.2 - 1)
            · exact h35
            · rw [if_neg h35] at H; cases H
          rw [if_pos h35] at H
          have h36 : w64 (s31.2.2 - 1) < 65 := by
            by_cases h36 : w64 (s31.2.2 - 1) < 65
            · exact h36
            · rw [if_neg h36] at H; cases H
          rw [if_pos h36] at H
          refine st_pure tabOK hk [0, 1, 2, 3] [4] [0, 3, 4, 10, 11, 12, 13, 62, 63] [(0, .slice o1 p0.length c2), (3, .bool p3), (4, .bool p4), (10, .slice none 0 0), (11, S ([])), (12, .pointer (some ⟨b3, 0, none⟩)), (13, I (w64 (s31.2.2 - 1))), (62, .int .u8 (bt ([48, 49, 50, 51, 52, 53, 54, 55, 56, 57, 97, 98, 99, 100, 101, 102, 103, 104, 105, 106, 107, 108, 109, 110, 111, 112, 113, 114, 115, 116, 117, 118, 119, 120, 121, 122]) s31.2.1)), (63, .pointer ((some (⟨b3, 0, none⟩ : Addr)).map (·.add ((w64 (s31.2.2 - 1)).toNat * 1))))] (((0 : Int) ≤ s31.2.1 ∧ s31.2.1 < (([48, 49, 50, 51, 52, 53, 54, 55, 56, 57, 97, 98, 99, 100, 101, 102, 103, 104, 105, 106, 107, 108, 109, 110, 111, 112, 113, 114, 115, 116, 117, 118, 119, 120, 121, 122]).length : Int)) ∧ (((0 : Int) ≤ w64 (s31.2.2 - 1) ∧ w64 (s31.2.2 - 1) < 65) ∧ True)) (by kernel_rfl) ⟨⟨h32, h33⟩, ⟨⟨h35, h36⟩, trivial⟩⟩ ?_
          clear hk; intro a hk
          try rw [u8_bV (bt ([48, 49, 50, 51, 52, 53, 54, 55, 56, 57, 97, 98, 99, 100, 101, 102, 103, 104, 105, 106, 107, 108, 109, 110, 111, 112, 113, 114, 115, 116, 117, 118, 119, 120, 121, 122]) s31.2.1) (bt_lo _ _) (bt_hi _ _)] at hk
          refine st_putB hk ho 0 5 (w64 (s31.2.2 - 1)) (u8 (bt ([48, 49, 50, 51, 52, 53, 54, 55, 56, 57, 97, 98, 99, 100, 101, 102, 103, 104, 105, 106, 107, 108, 109, 110, 111, 112, 113, 114, 115, 116, 117, 118, 119, 120, 121, 122]) s31.2.1)) 88 (some (⟨b3, 0, none⟩ : Addr)) 65 s31.1 [.row 0 88 1 (.slice (some (⟨b3, 0, none⟩ : Addr)) ((s31.1.set (w64 (s31.2.2 - 1)).toNat (u8 (bt ([48, 49, 50, 51, 52, 53, 54, 55, 56, 57, 97, 98, 99, 100, 101, 102, 103, 104, 105, 106, 107, 108, 109, 110, 111, 112, 113, 114, 115, 116, 117, 118, 119, 120, 121, 122]) s31.2.1))).length) 65) ((s31.1.set (w64 (s31.2.2 - 1)).toNat (u8 (bt ([48, 49, 50, 51, 52, 53, 54, 55, 56, 57, 97, 98, 99, 100, 101, 102, 103, 104, 105, 106, 107, 108, 109, 110, 111, 112, 113, 114, 115, 116, 117, 118, 119, 120, 121, 122]) s31.2.1))).length) ((s31.1.set (w64 (s31.2.2 - 1)).toNat (u8 (bt ([48, 49, 50, 51, 52, 53, 54, 55, 56, 57, 97, 98, 99, 100, 101, 102, 103, 104, 105, 106, 107, 108, 109, 110, 111, 112, 113, 114, 115, 116, 117, 118, 119, 120, 121, 122]) s31.2.1))).map bV)] (by kernel_rfl) (by kernel_rfl) (by kernel_rfl) rfl h35 (show w64 (s31.2.2 - 1) < (s31.1.length : Int) by rw [h34]; exact h36) rfl ?_
          clear ho; intro w ho
          have h37 : s31.1.length = (s31.1.set (w64 (s31.2.2 - 1)).toNat (u8 (bt ([48, 49, 50, 51, 52, 53, 54, 55, 56, 57, 97, 98, 99, 100, 101, 102, 103, 104, 105, 106, 107, 108, 109, 110, 111, 112, 113, 114, 115, 116, 117, 118, 119, 120, 121, 122]) s31.2.1))).length := by simp
          replace hk : Kn 102 a [(0, .slice o1 p0.length c2), (3, .bool p3), (4, .bool p4), (10, .slice none 0 0), (11, S ([])), (12, .pointer (some ⟨b3, 0, none⟩)), (13, I (w64 (s31.2.2 - 1)))] := by exact hk.to [0, 3, 4, 10, 11, 12, 13] _ (by kernel_rfl)
          refine st_done ?_
          obtain rfl := Option.some.inj H
          exact J a w ⟨hk.to [0, 3, 4, 10, 11, 12, 13] _ (by kernel_rfl), ho⟩
      ·
        have h38 : ¬ (t9 = true) := ne_true_of_eq_false h12
        rw [if_neg h38] at H
        refine st_seq (C40 [1, 1, 1, 1, 1, 0, 1, 1, 0]) (C40 [1, 1, 1, 1, 1, 0, 1, 1, 1]) (by kernel_rfl) ?_
        refine st_region 17 (opsOf (C40 [1, 1, 1, 1, 1, 0, 1, 1, 0])) [0, 1, 2] (by kernel_rfl) (by kernel_rfl) ?_
        refine st_pure tabOK hk [0, 1, 2] [] [0, 1, 3, 4, 10, 11, 12, 13, 17] [(0, .slice o1 p0.length c2), (1, .int .u64 m5), (3, .bool p3), (4, .bool p4), (10, .slice none 0 0), (11, S ([])), (12, .pointer (some ⟨b3, 0, none⟩)), (13, I 65), (17, .int .u64 16)] (True) (by kernel_rfl) trivial ?_
        clear hk; intro a hk
        refine st_done ?_
        refine st_seq (C40 [1, 1, 1, 1, 1, 0, 1, 1, 1, 0]) (C40 [1, 1, 1, 1, 1, 0, 1, 1, 1, 1]) (by kernel_rfl) ?_
        refine st_block 2 (C40 [1, 1, 1, 1, 1, 0, 1, 1, 1, 0, 0]) (by kernel_rfl) ?_
        obtain ⟨m51, h52, H⟩ := Option.bind_eq_some_iff.1 H
        refine st_loop (C40 [1, 1, 1, 1, 1, 0, 1, 1, 1, 0, 0, 0]) (by kernel_rfl) ?_
        refine strconv_formatBits_16.l1_ok K p0 p3 p4 (List.replicate 65 (0 : UInt8)) m5 65 m51 h52 o1 c2 b3 w0 _ _ a w hr0 hl0 (hk.to [0, 1, 3, 4, 10, 11, 12, 13, 17] _ (by kernel_rfl)) ho ?_
        · intro s53  a w e hk ho; have e := e.symm; subst e
          refine st_seq (C40 [1, 1, 1, 1, 1, 0, 1, 1, 1, 1, 0]) (C40 [1, 1, 1, 1, 1, 0, 1, 1, 1, 1, 1]) (by kernel_rfl) ?_
          refine st_region 23 (opsOf (C40 [1, 1, 1, 1, 1, 0, 1, 1, 1, 1, 0])) [0, 1, 2] (by kernel_rfl) (by kernel_rfl) ?_
          refine st_pure tabOK hk [0, 1, 2] [] [0, 1, 3, 4, 10, 11, 12, 13] [(0, .slice o1 p0.length c2), (1, .int .u64 s53.2.1), (3, .bool p3), (4, .bool p4), (10, .slice none 0 0), (11, S ([])), (12, .pointer (some ⟨b3, 0, none⟩)), (13, I (w64 (s53.2.2 - 1)))] (True) (by kernel_rfl) trivial ?_
          clear hk; intro a hk
          refine st_done ?_
          refine st_region 24 (opsOf (C40 [1, 1, 1, 1, 1, 0, 1, 1, 1, 1, 1])) [0, 1, 2, 3, 4] (by kernel_rfl) (by kernel_rfl) ?_
          have h54 : (0 : Int) ≤ s53.2.1 := by
            by_cases h54 : (0 : Int) ≤ s53.2.1
            · exact h54
            · rw [if_neg h54] at H; cases H
          rw [if_pos h54] at H
          have h55 : s53.2.1 < (([48, 49, 50, 51, 52, 53, 54, 55, 56, 57, 97, 98, 99, 100, 101, 102, 103, 104, 105, 106, 107, 108, 109, 110, 111, 112, 113, 114, 115, 116, 117, 118, 119, 120, 121, 122]).length : Int) := by
            by_cases h55 : s53.2.1 < (([48, 49, 50, 51, 52, 53, 54, 55, 56, 57, 97, 98, 99, 100, 101, 102, 103, 104, 105, 106, 107, 108, 109, 110, 111, 112, 113, 114, 115, 116, 117, 118, 119, 120, 121, 122]).length : Int)
            · exact h55
            · rw [if_neg h55] at H; cases H
          rw [if_pos h55] at H
          have h56 : s53.1.length = 65 := by
            by_cases h56 : s53.1.length = 65
            · exact h56
            · rw [if_neg h56] at H; cases H
          rw [if_pos h56] at H
          have h57 : (0 : Int) ≤ w64 (s53.2.2 - 1) := by
            by_cases h57 : (0 : Int) ≤ w64 (s53.2.2 - 1)
            · exact h57
            · rw [if_neg h57] at H; cases H
          rw [if_pos h57] at H
          have h58 : w64 (s53.2.2 - 1) < 65 := by
            by_cases h58 : w64 (s53.2.2 - 1) < 65
            · exact h58
            · rw [if_neg h58] at H; cases H
          rw [if_pos h58] at H
          refine st_pure tabOK hk [0, 1, 2, 3] [4] [0, 3, 4, 10, 11, 12, 13, 87, 88] [(0, .slice o1 p0.length c2), (3, .bool p3), (4, .bool p4), (10, .slice none 0 0), (11, S ([])), (12, .pointer (some ⟨b3, 0, none⟩)), (13, I (w64 (s53.2.2 - 1))), (87, .int .u8 (bt ([48, 49, 50, 51, 52, 53, 54, 55, 56, 57, 97, 98, 99, 100, 101, 102, 103, 104, 105, 106, 107, 108, 109, 110, 111, 112, 113, 114, 115, 116, 117, 118, 119, 120, 121, 122]) s53.2.1)), (88, .pointer ((some (⟨b3, 0, none⟩ : Addr)).map (·.add ((w64 (s53.2.2 - 1)).toNat * 1))))] (((0 : Int) ≤ s53.2.1 ∧ s53.2.1 < (([48, 49, 50, 51, 52, 53, 54, 55, 56, 57, 97, 98, 99, 100, 101, 102, 103, 104, 105, 106, 107, 108, 109, 110, 111, 112, 113, 114, 115, 116, 117, 118, 119, 120, 121, 122]).length : Int)) ∧ (((0 : Int) ≤ w64 (s53.2.2 - 1) ∧ w64 (s53.2.2 - 1) < 65) ∧ True)) (by kernel_rfl) ⟨⟨h54, h55⟩, ⟨⟨h57, h58⟩, trivial⟩⟩ ?_
          clear hk; intro a hk
          try rw [u8_bV (bt ([48, 49, 50, 51, 52, 53, 54, 55, 56, 57, 97, 98, 99, 100, 101, 102, 103, 104, 105, 106, 107, 108, 109, 110, 111, 112, 113, 114, 115, 116, 117, 118, 119, 120, 121, 122]) s53.2.1) (bt_lo _ _) (bt_hi _ _)] at hk
          refine st_putB hk ho 0 5 (w64 (s53.2.2 - 1)) (u8 (bt ([48, 49, 50, 51, 52, 53, 54, 55, 56, 57, 97, 98, 99, 100, 101, 102, 103, 104, 105, 106, 107, 108, 109, 110, 111, 112, 113, 114, 115, 116, 117, 118, 119, 120, 121, 122]) s53.2.1)) 88 (some (⟨b3, 0, none⟩ : Addr)) 65 s53.1 [.row 0 88 1 (.slice (some (⟨b3, 0, none⟩ : Addr)) ((s53.1.set (w64 (s53.2.2 - 1)).toNat (u8 (bt ([48, 49, 50, 51, 52, 53, 54, 55, 56, 57, 97, 98, 99, 100, 101, 102, 103, 104, 105, 106, 107, 108, 109, 110, 111, 112, 113, 114, 115, 116, 117, 118, 119, 120, 121, 122]) s53.2.1))).length) 65) ((s53.1.set (w64 (s53.2.2 - 1)).toNat (u8 (bt ([48, 49, 50, 51, 52, 53, 54, 55, 56, 57, 97, 98, 99, 100, 101, 102, 103, 104, 105, 106, 107, 108, 109, 110, 111, 112, 113, 114, 115, 116, 117, 118, 119, 120, 121, 122]) s53.2.1))).length) ((s53.1.set (w64 (s53.2.2 - 1)).toNat (u8 (bt ([48, 49, 50, 51, 52, 53, 54, 55, 56, 57, 97, 98, 99, 100, 101, 102, 103, 104, 105, 106, 107, 108, 109, 110, 111, 112, 113, 114, 115, 116, 117, 118, 119, 120, 121, 122]) s53.2.1))).map bV)] (by kernel_rfl) (by kernel_rfl) (by kernel_rfl) rfl h57 (show w64 (s53.2.2 - 1) < (s53.1.length : Int) by rw [h56]; exact h58) rfl ?_
          clear ho; intro w ho
          have h59 : s53.1.length = (s53.1.set (w64 (s53.2.2 - 1)).toNat (u8 (bt ([48, 49, 50, 51, 52, 53, 54, 55, 56, 57, 97, 98, 99, 100, 101, 102, 103, 104, 105, 106, 107, 108, 109, 110, 111, 112, 113, 114, 115, 116, 117, 118, 119, 120, 121, 122]) s53.2.1))).length := by simp
          replace hk : Kn 102 a [(0, .slice o1 p0.length c2), (3, .bool p3), (4, .bool p4), (10, .slice none 0 0), (11, S ([])), (12, .pointer (some ⟨b3, 0, none⟩)), (13, I (w64 (s53.2.2 - 1)))] := by exact hk.to [0, 3, 4, 10, 11, 12, 13] _ (by kernel_rfl)
          refine st_done ?_
          obtain rfl := Option.some.inj H
          exact J a w ⟨hk.to [0, 3, 4, 10, 11, 12, 13] _ (by kernel_rfl), ho⟩
    · clear HX; rintro a w ⟨hk, ho⟩
      refine st_seq (C40 [1, 1, 1, 1, 1, 1, 0]) (C40 [1, 1, 1, 1, 1, 1, 1]) (by kernel_rfl) ?_
      refine st_seq (C40 [1, 1, 1, 1, 1, 1, 0, 0]) (C40 [1, 1, 1, 1, 1, 1, 0, 1]) (by kernel_rfl) ?_
      refine st_region 25 (opsOf (C40 [1, 1, 1, 1, 1, 1, 0, 0])) [0] (by kernel_rfl) (by kernel_rfl) ?_
      refine st_pure tabOK hk [0] [] [0, 4, 10, 11, 12, 13, 89] [(0, .slice o1 p0.length c2), (4, .bool p4), (10, .slice none 0 0), (11, S ([])), (12, .pointer (some ⟨b3, 0, none⟩)), (13, I m11.2), (89, .bool p3)] (True) (by kernel_rfl) trivial ?_
      clear hk; intro a hk
      refine st_done ?_
      obtain ⟨m60, HX, H⟩ := Option.bind_eq_some_iff.1 H
      refine cut_code (fun a w => Kn 102 a [(0, .slice o1 p0.length c2), (4, .bool p4), (10, .slice none 0 0), (11, S ([])), (12, .pointer (some ⟨b3, 0, none⟩)), (13, I m60.2)] ∧ Ows [] w0 w [.row 0 88 1 (.slice (some (⟨b3, 0, none⟩ : Addr)) m60.1.length 65) m60.1.length (m60.1.map bV)]) ?_ ?_
      · intro J; clear H; have H := HX; clear HX
        refine st_cond hk (C40 [1, 1, 1, 1, 1, 1, 0, 1, 0]) (C40 [1, 1, 1, 1, 1, 1, 0, 1, 1]) (.tmp 89) (p3) (by kernel_rfl) (by kernel_rfl) (fun h61 => ?_) (fun h61 => ?_)
        ·
          have h62 : p3 = true := h61
          rw [if_pos h62] at H
          refine st_seq (C40 [1, 1, 1, 1, 1, 1, 0, 1, 0, 0]) (C40 [1, 1, 1, 1, 1, 1, 0, 1, 0, 1]) (by kernel_rfl) ?_
          refine st_region 26 (opsOf (C40 [1, 1, 1, 1, 1, 1, 0, 1, 0, 0])) [0, 1, 2] (by kernel_rfl) (by kernel_rfl) ?_
          refine st_pure tabOK hk [0, 1, 2] [] [0, 4, 10, 11, 12, 13] [(0, .slice o1 p0.length c2), (4, .bool p4), (10, .slice none 0 0), (11, S ([])), (12, .pointer (some ⟨b3, 0, none⟩)), (13, I (w64 (m11.2 - 1)))] (True) (by kernel_rfl) trivial ?_
          clear hk; intro a hk
          refine st_done ?_
          refine st_region 27 (opsOf (C40 [1, 1, 1, 1, 1, 1, 0, 1, 0, 1])) [0, 1, 2] (by kernel_rfl) (by kernel_rfl) ?_
          have h63 : m11.1.length = 65 := by
            by_cases h63 : m11.1.length = 65
            · exact h63
            · rw [if_neg h63] at H; cases H
          rw [if_pos h63] at H
          have h64 : (0 : Int) ≤ w64 (m11.2 - 1) := by
            by_cases h64 : (0 : Int) ≤ w64 (m11.2 - 1)
            · exact h64
            · rw [if_neg h64] at H; cases H
          rw [if_pos h64] at H
          have h65 : w64 (m11.2 - 1) < 65 := by
            by_cases h65 : w64 (m11.2 - 1) < 65
            · exact h65
            · rw [if_neg h65] at H; cases H
          rw [if_pos h65] at H
          refine st_pure tabOK hk [0, 1] [2] [0, 4, 10, 11, 12, 13, 93] [(0, .slice o1 p0.length c2), (4, .bool p4), (10, .slice none 0 0), (11, S ([])), (12, .pointer (some ⟨b3, 0, none⟩)), (13, I (w64 (m11.2 - 1))), (93, .pointer ((some (⟨b3, 0, none⟩ : Addr)).map (·.add ((w64 (m11.2 - 1)).toNat * 1))))] (((0 : Int) ≤ w64 (m11.2 - 1) ∧ w64 (m11.2 - 1) < 65) ∧ True) (by kernel_rfl) ⟨⟨h64, h65⟩, trivial⟩ ?_
          clear hk; intro a hk
          try rw [u8_bV 45 (by decide) (by decide)] at hk
          refine st_putB hk ho 0 5 (w64 (m11.2 - 1)) (u8 45) 88 (some (⟨b3, 0, none⟩ : Addr)) 65 m11.1 [.row 0 88 1 (.slice (some (⟨b3, 0, none⟩ : Addr)) ((m11.1.set (w64 (m11.2 - 1)).toNat (u8 45)).length) 65) ((m11.1.set (w64 (m11.2 - 1)).toNat (u8 45)).length) ((m11.1.set (w64 (m11.2 - 1)).toNat (u8 45)).map bV)] (by kernel_rfl) (by kernel_rfl) (by kernel_rfl) rfl h64 (show w64 (m11.2 - 1) < (m11.1.length : Int) by rw [h63]; exact h65) rfl ?_
          clear ho; intro w ho
          have h66 : m11.1.length = (m11.1.set (w64 (m11.2 - 1)).toNat (u8 45)).length := by simp
          replace hk : Kn 102 a [(0, .slice o1 p0.length c2), (4, .bool p4), (10, .slice none 0 0), (11, S ([])), (12, .pointer (some ⟨b3, 0, none⟩)), (13, I (w64 (m11.2 - 1)))] := by exact hk.to [0, 4, 10, 11, 12, 13] _ (by kernel_rfl)
          refine st_done ?_
          obtain rfl := Option.some.inj H
          exact J a w ⟨hk.to [0, 4, 10, 11, 12, 13] _ (by kernel_rfl), ho⟩
        ·
          have h67 : ¬ (p3 = true) := ne_true_of_eq_false h61
          rw [if_neg h67] at H
          refine st_skip (by kernel_rfl) ?_
          obtain rfl := Option.some.inj H
          exact J a w ⟨hk.to [0, 4, 10, 11, 12, 13] _ (by kernel_rfl), ho⟩
      · clear HX; rintro a w ⟨hk, ho⟩
        refine st_seq (C40 [1, 1, 1, 1, 1, 1, 1, 0]) (C40 [1, 1, 1, 1, 1, 1, 1, 1]) (by kernel_rfl) ?_
        refine st_seq (C40 [1, 1, 1, 1, 1, 1, 1, 0, 0]) (C40 [1, 1, 1, 1, 1, 1, 1, 0, 1]) (by kernel_rfl) ?_
        refine st_region 28 (opsOf (C40 [1, 1, 1, 1, 1, 1, 1, 0, 0])) [0] (by kernel_rfl) (by kernel_rfl) ?_
        refine st_pure tabOK hk [0] [] [0, 10, 11, 12, 13, 94] [(0, .slice o1 p0.length c2), (10, .slice none 0 0), (11, S ([])), (12, .pointer (some ⟨b3, 0, none⟩)), (13, I m60.2), (94, .bool p4)] (True) (by kernel_rfl) trivial ?_
        clear hk; intro a hk
        refine st_done ?_
        refine st_cond hk (C40 [1, 1, 1, 1, 1, 1, 1, 0, 1, 0]) (C40 [1, 1, 1, 1, 1, 1, 1, 0, 1, 1]) (.tmp 94) (p4) (by kernel_rfl) (by kernel_rfl) (fun h68 => ?_) (fun h68 => ?_)
        ·
          have h69 : p4 = true := h68
          rw [if_pos h69] at H
          exact nomatch H
        ·
          have h78 : ¬ (p4 = true) := ne_true_of_eq_false h68
          rw [if_neg h78] at H
          refine st_skip (by kernel_rfl) ?_
          refine st_seq (C40 [1, 1, 1, 1, 1, 1, 1, 1, 0]) (C40 [1, 1, 1, 1, 1, 1, 1, 1, 1]) (by kernel_rfl) ?_
          refine st_region 30 (opsOf (C40 [1, 1, 1, 1, 1, 1, 1, 1, 0])) [0, 1, 2, 3] (by kernel_rfl) (by kernel_rfl) ?_
          have h79 : m60.1.length = 65 := by
            by_cases h79 : m60.1.length = 65
            · exact h79
            · rw [if_neg h79] at H; cases H
          rw [if_pos h79] at H
          have h80 : (0 : Int) ≤ m60.2 := by
            by_cases h80 : (0 : Int) ≤ m60.2
            · exact h80
            · rw [if_neg h80] at H; cases H
          rw [if_pos h80] at H
          have h81 : m60.2 ≤ 65 := by
            by_cases h81 : m60.2 ≤ 65
            · exact h81
            · rw [if_neg h81] at H; cases H
          rw [if_pos h81] at H
          refine st_pure tabOK hk [0, 1] [2, 3] [10, 100] [(10, .slice none 0 0), (100, .slice (shA (some (⟨b3, 0, none⟩ : Addr)) 65 (Int.toNat m60.2) 1) (65 - Int.toNat m60.2) (65 - Int.toNat m60.2))] (((0 : Int) ≤ m60.2 ∧ m60.2 ≤ 65) ∧ True) (by kernel_rfl) ⟨⟨h80, h81⟩, trivial⟩ ?_
          clear hk; intro a hk
          have h82 : 65 - Int.toNat m60.2 = (m60.1.drop (Int.toNat m60.2)).length := by have h_1 := h79; simp only [List.length_drop]; omega
          replace hk : Kn 102 a [(10, .slice none 0 0), (100, .slice (shA (some (⟨b3, 0, none⟩ : Addr)) 65 (Int.toNat m60.2) 1) ((m60.1.drop (Int.toNat m60.2)).length) ((m60.1.drop (Int.toNat m60.2)).length))] := by rw [← h82]; exact hk.to [10, 100] _ (by kernel_rfl)
          refine st_string tabOK hk 30 9 5 101 (shA (some (⟨b3, 0, none⟩ : Addr)) 65 (Int.toNat m60.2) 1) ((m60.1.drop (Int.toNat m60.2)).length) ((m60.1.drop (Int.toNat m60.2)).length) (m60.1.drop (Int.toNat m60.2)) (by kernel_rfl) (by kernel_rfl) (by kernel_rfl) (by kernel_rfl) rfl (Rd.drop1 (ho.rd 0 rfl) (ho.le 0 rfl) (Int.toNat m60.2)) ?_
          clear hk; intro a hk
          refine st_pure tabOK hk [3] [] [10, 11] [(10, .slice none 0 0), (11, S (m60.1.drop (Int.toNat m60.2)))] (True) (by kernel_rfl) trivial ?_
          clear hk; intro a hk
          refine st_done ?_
          replace ho := ho.nilRow 0 5 1
          replace ho : Ows [] w0 w [.row 0 5 1 (.slice none 0 0) 0 (([] : List UInt8).map bV)] := ho.erase 1
          refine st_retG hk (by kernel_rfl) [.slice none 0 0, S (m60.1.drop (Int.toNat m60.2))] #[.tmp 10, .tmp 11] (by kernel_rfl) ⟨resT hk (by kernel_rfl), resT hk (by kernel_rfl), trivial⟩ ?_
          obtain rfl := Option.some.inj H
          exact ⟨_, rfl, none, 0, rfl, ho⟩


/-! internal/strconv.FormatInt: function 21 -/
noncomputable def C21 (p : List Nat) : Code := Sub (bodyOf f21) p
def strconv_FormatInt_n21_16.f (K : Nat) (p0 : Int) : Option (Str) := (((strconv_formatBits_16.f K ([]) (IntKind.u64.wrap (p0)) (decide (p0 < 0)) false).bind fun t1 => some t1.2))
abbrev strconv_FormatInt_n21_16.post (w0 : World) (r : Str) (u : Value) (w : World) : Prop := u = S r ∧ Ows [] w0 w []
theorem strconv_FormatInt_n21_16.ok (K : Nat) (p0 : Int) (r : Str) (H : strconv_FormatInt_n21_16.f K p0 = some r) (w0 : World) (hg : Glob w0) : Calls Tryz.prog 21 ⟨[I p0, I 16]⟩ w0 fun e w => ∃ u, e = .returned u ∧ strconv_FormatInt_n21_16.post w0 r u w := by
  unfold strconv_FormatInt_n21_16.f at H
  refine st_start (N := 54) [I p0, I 16] (C21 []) func21 (by kernel_rfl) (by kernel_rfl) (by kernel_rfl) ?_
  intro a w hk ho
  refine st_seq (C21 [0]) (C21 [1]) (by kernel_rfl) ?_
  refine st_region 0 (opsOf (C21 [0])) [0] (by kernel_rfl) (by kernel_rfl) ?_
  refine st_pure tabOK hk [0] [] [0, 1] [(0, I p0), (1, I 16)] (True) (by kernel_rfl) trivial ?_
  clear hk; intro a hk
  refine st_done ?_
  refine st_seq (C21 [1, 0]) (C21 [1, 1]) (by kernel_rfl) ?_
  refine st_seq (C21 [1, 0, 0]) (C21 [1, 0, 1]) (by kernel_rfl) ?_
  refine st_region 1 (opsOf (C21 [1, 0, 0])) [0, 1] (by kernel_rfl) (by kernel_rfl) ?_
  refine st_pure tabOK hk [0, 1] [] [0, 1, 11] [(0, I p0), (1, I 16), (11, .bool false)] (True) (by kernel_rfl) trivial ?_
  clear hk; intro a hk
  refine st_done ?_
  refine st_cond_false hk (C21 [1, 0, 1, 0]) (C21 [1, 0, 1, 1]) (.tmp 11) (by kernel_rfl) (by kernel_rfl) ?_
  refine st_skip (by kernel_rfl) ?_
  refine st_seq (C21 [1, 1, 0]) (C21 [1, 1, 1]) (by kernel_rfl) ?_
  refine st_region 14 (opsOf (C21 [1, 1, 0])) [0, 1, 2, 3, 4, 5, 6, 7, 8, 9, 10] (by kernel_rfl) (by kernel_rfl) ?_
  refine st_pure tabOK hk [0, 1, 2, 3, 4] [5, 6, 7, 8, 9, 10] [46, 47, 49] [(46, .int .u64 (IntKind.u64.wrap (p0))), (47, I 16), (49, .bool (decide (p0 < 0)))] (True) (by kernel_rfl) trivial ?_
  clear hk; intro a hk
  obtain ⟨t1, h2, H⟩ := Option.bind_eq_some_iff.1 H
  refine st_call hk 40 [.slice none 0 0, .int .u64 (IntKind.u64.wrap (p0)), I 16, .bool (decide (p0 < 0)), .bool false] (some 50) enters40 (by kernel_rfl) (strconv_formatBits_16.ok K  ([]) (IntKind.u64.wrap (p0)) (decide (p0 < 0)) false t1 h2 w none 0 (Rd.nil _) (Nat.le_refl 0) (hg.of ho)) ?_
  clear hk; rintro a u w ⟨o3, c4, rfl, ho'⟩ hk
  replace ho : Ows [] w0 w [.row 0 5 1 (.slice o3 t1.1.length c4) t1.1.length (t1.1.map bV)] := ho.call ho'; clear ho'
  refine st_pure tabOK hk [6, 7, 8, 9, 10] [] [9] [(9, S t1.2)] (True) (by kernel_rfl) trivial ?_
  clear hk; intro a hk
  refine st_done ?_
  refine st_seq (C21 [1, 1, 1, 0]) (C21 [1, 1, 1, 1]) (by kernel_rfl) ?_
  refine st_region 15 (opsOf (C21 [1, 1, 1, 0])) [0, 1] (by kernel_rfl) (by kernel_rfl) ?_
  refine st_pure tabOK hk [0, 1] [] [4] [(4, S t1.2)] (True) (by kernel_rfl) trivial ?_
  clear hk; intro a hk
  refine st_done ?_
  replace ho : Ows [] w0 w [] := ho.erase 0
  refine st_retG hk (by kernel_rfl) [S t1.2] #[.tmp 4] (by kernel_rfl) ⟨resT hk (by kernel_rfl), trivial⟩ ?_
  obtain rfl := Option.some.inj H
  exact ⟨_, rfl, rfl, ho⟩


/-! strconv.FormatInt: function 10 -/
noncomputable def C10 (p : List Nat) : Code := Sub (bodyOf f10) p
def strconv_FormatInt_16.f (K : Nat) (p0 : Int) : Option (Str) := (((strconv_FormatInt_n21_16.f K p0).bind fun t1 => some t1))
abbrev strconv_FormatInt_16.post (w0 : World) (r : Str) (u : Value) (w : World) : Prop := u = S r ∧ Ows [] w0 w []
theorem strconv_FormatInt_16.ok (K : Nat) (p0 : Int) (r : Str) (H : strconv_FormatInt_16.f K p0 = some r) (w0 : World) (hg : Glob w0) : Calls Tryz.prog 10 ⟨[I p0, I 16]⟩ w0 fun e w => ∃ u, e = .returned u ∧ strconv_FormatInt_16.post w0 r u w := by
  unfold strconv_FormatInt_16.f at H
  refine st_start (N := 8) [I p0, I 16] (C10 []) func10 (by kernel_rfl) (by kernel_rfl) (by kernel_rfl) ?_
  intro a w hk ho
  refine st_seq (C10 [0]) (C10 [1]) (by kernel_rfl) ?_
  refine st_region 0 (opsOf (C10 [0])) [0] (by kernel_rfl) (by kernel_rfl) ?_
  refine st_pure tabOK hk [0] [] [0, 1] [(0, I p0), (1, I 16)] (True) (by kernel_rfl) trivial ?_
  clear hk; intro a hk
  refine st_done ?_
  refine st_seq (C10 [1, 0]) (C10 [1, 1]) (by kernel_rfl) ?_
  refine st_region 1 (opsOf (C10 [1, 0])) [0, 1, 2, 3] (by kernel_rfl) (by kernel_rfl) ?_
  refine st_pure tabOK hk [0, 1] [2, 3] [5, 6] [(5, I p0), (6, I 16)] (True) (by kernel_rfl) trivial ?_
  clear hk; intro a hk
  obtain ⟨t1, h2, H⟩ := Option.bind_eq_some_iff.1 H
  refine st_call hk 21 [I p0, I 16] (some 7) enters21 (by kernel_rfl) (strconv_FormatInt_n21_16.ok K  p0 t1 h2 w (hg.of ho)) ?_
  clear hk; rintro a u w ⟨rfl, ho'⟩ hk
  replace ho : Ows [] w0 w [] := ho.call ho'; clear ho'
  refine st_pure tabOK hk [3] [] [4] [(4, S t1)] (True) (by kernel_rfl) trivial ?_
  clear hk; intro a hk
  refine st_done ?_
  refine st_retG hk (by kernel_rfl) [S t1] #[.tmp 4] (by kernel_rfl) ⟨resT hk (by kernel_rfl), trivial⟩ ?_
  obtain rfl := Option.some.inj H
  exact ⟨_, rfl, rfl, ho⟩


/-! (*strings.Builder).copyCheck: function 20 -/
noncomputable def C20 (p : List Nat) : Code := Sub (bodyOf f20) p
def strings_Builder_copyCheck_pnsn.f  : Option (Unit) := some ()
abbrev strings_Builder_copyCheck_pnsn.post (b1 : Nat) (w0 : World) (r : Unit) (u : Value) (w : World) : Prop := u = .tuple #[] ∧ Ows [b1] w0 w [.blk b1 (.cells #[.pointer (some ⟨b1, 0, none⟩), .slice none 0 0] 32 (0, 0))]
theorem strings_Builder_copyCheck_pnsn.ok  (r : Unit) (H : strings_Builder_copyCheck_pnsn.f  = some r) (w0 : World) (b1 : Nat) (hh : Has w0 [.blk b1 (.cells #[.pointer none, .slice none 0 0] 32 (0, 0))]) : Calls Tryz.prog 20 ⟨[.pointer (some ⟨b1, 0, none⟩)]⟩ w0 fun e w => ∃ u, e = .returned u ∧ strings_Builder_copyCheck_pnsn.post b1 w0 r u w := by
  unfold strings_Builder_copyCheck_pnsn.f at H
  refine st_startL (N := 20) [.pointer (some ⟨b1, 0, none⟩)] (C20 []) func20 (by kernel_rfl) (by kernel_rfl) (by kernel_rfl) ([.blk b1 (.cells #[.pointer none, .slice none 0 0] 32 (0, 0))]) hh ?_
  intro a w hk ho
  replace ho : Ows [b1] w0 w [.blk b1 (.cells #[.pointer none, .slice none 0 0] 32 (0, 0))] := ho
  refine st_seq (C20 [0]) (C20 [1]) (by kernel_rfl) ?_
  refine st_region 0 (opsOf (C20 [0])) [0, 1, 2, 3, 4] (by kernel_rfl) (by kernel_rfl) ?_
  refine st_pure tabOK hk [0, 1, 2] [3, 4] [0, 4] [(0, .pointer (some ⟨b1, 0, none⟩)), (4, .pointer (some ⟨b1, 0, none⟩))] (((some ⟨b1, 0, none⟩ : Option Addr).isSome = true) ∧ (((some ⟨b1, 0, none⟩ : Option Addr).isSome = true) ∧ True)) (by kernel_rfl) ⟨rfl, ⟨rfl, trivial⟩⟩ ?_
  clear hk; intro a hk
  refine st_load1 tabOK hk 29 (some ⟨b1, 0, none⟩) 5 (by kernel_rfl) (by kernel_rfl) (.pointer none) (ho.cell 0 rfl rfl) ?_
  clear hk; intro a hk
  refine st_pure tabOK hk [4] [] [0, 6] [(0, .pointer (some ⟨b1, 0, none⟩)), (6, .bool true)] (True) (by kernel_rfl) trivial ?_
  clear hk; intro a hk
  refine st_done ?_
  refine st_cond_true hk (C20 [1, 0]) (C20 [1, 1]) (.tmp 6) (by kernel_rfl) (by kernel_rfl) ?_
  refine st_region 1 (opsOf (C20 [1, 0])) [0, 1, 2, 3, 4, 5, 6, 7] (by kernel_rfl) (by kernel_rfl) ?_
  refine st_pure tabOK hk [0, 1] [2, 3, 4, 5, 6, 7] [7, 8] [(7, .pointer (some ⟨b1, 0, none⟩)), (8, .pointer (some ⟨b1, 0, none⟩))] (True) (by kernel_rfl) trivial ?_
  clear hk; intro a hk
  refine st_toU hk ho 0 29 64 32 9 b1 0 32 #[.pointer none, .slice none 0 0] (by kernel_rfl) (by kernel_rfl) (by kernel_rfl) (by rw [show ((Tryz.prog.info? 32).map (·.size)).getD 0 = 2 from by kernel_rfl]; decide) rfl (by kernel_rfl) ?_
  clear hk; intro a hk
  refine st_ext hk 36 [.pointer (some ⟨b1, 0, none⟩)] 10 ext36 (by kernel_rfl) (same_run _ _) ?_
  clear hk; intro a hk
  refine st_fromU hk ho 0 64 29 32 11 b1 0 32 2 #[.pointer none, .slice none 0 0] (by kernel_rfl) (by kernel_rfl) (by kernel_rfl) (by kernel_rfl) rfl (by kernel_rfl) (by kernel_rfl) ?_
  clear hk; intro a hk
  refine st_pure tabOK hk [5, 6] [7] [11, 13] [(11, .pointer (some ⟨b1, 0, none⟩)), (13, .pointer (some ⟨b1, 0, none⟩))] (((some ⟨b1, 0, none⟩ : Option Addr).isSome = true) ∧ (((some ⟨b1, 0, none⟩ : Option Addr).isSome = true) ∧ True)) (by kernel_rfl) ⟨rfl, ⟨rfl, trivial⟩⟩ ?_
  clear hk; intro a hk
  refine st_put1 hk ho 0 29 b1 0 (.pointer (some ⟨b1, 0, none⟩)) #[.pointer none, .slice none 0 0] 32 [.blk b1 (.cells #[.pointer (some ⟨b1, 0, none⟩), .slice none 0 0] 32 (0, 0))] (by kernel_rfl) (by kernel_rfl) (by kernel_rfl) rfl (by kernel_rfl) (by kernel_rfl) rfl ?_
  clear ho; intro w ho
  refine st_done ?_
  refine st_endK hk [] #[] (by kernel_rfl) (by kernel_rfl) ?_
  obtain rfl := Option.some.inj H
  exact ⟨_, rfl, rfl, ho⟩


/-! (*strings.Builder).WriteString: function 9 -/
noncomputable def C9 (p : List Nat) : Code := Sub (bodyOf f9) p
def strings_Builder_WriteString_pnsn.f (p1 : Str) : Option (Int × List UInt8) := (((strings_Builder_copyCheck_pnsn.f ).bind fun t2 => (if ([] : List UInt8).length + p1.length ≤ 4294967296 then some ((p1.length : Int), p1) else none)))
abbrev strings_Builder_WriteString_pnsn.post (b1 : Nat) (w0 : World) (r : Int × List UInt8) (u : Value) (w : World) : Prop := ∃ (o9 : Option Addr), ∃ (c10 : Nat), u = .tuple #[I r.1, .nilIface] ∧ Ows [b1] w0 w [.blk b1 (.cells #[.pointer (some ⟨b1, 0, none⟩), .slice o9 r.2.length c10] 32 (0, 0)), .row 1 5 1 (.slice o9 r.2.length c10) r.2.length (r.2.map bV)]
theorem strings_Builder_WriteString_pnsn.ok (p1 : Str) (r : Int × List UInt8) (H : strings_Builder_WriteString_pnsn.f p1 = some r) (w0 : World) (b1 : Nat) (hh : Has w0 [.blk b1 (.cells #[.pointer none, .slice none 0 0] 32 (0, 0))]) : Calls Tryz.prog 9 ⟨[.pointer (some ⟨b1, 0, none⟩), S p1]⟩ w0 fun e w => ∃ u, e = .returned u ∧ strings_Builder_WriteString_pnsn.post b1 w0 r u w := by
  unfold strings_Builder_WriteString_pnsn.f at H
  refine st_startL (N := 19) [.pointer (some ⟨b1, 0, none⟩), S p1] (C9 []) func9 (by kernel_rfl) (by kernel_rfl) (by kernel_rfl) ([.blk b1 (.cells #[.pointer none, .slice none 0 0] 32 (0, 0))]) hh ?_
  intro a w hk ho
  replace ho : Ows [b1] w0 w [.blk b1 (.cells #[.pointer none, .slice none 0 0] 32 (0, 0))] := ho
  refine st_seq (C9 [0]) (C9 [1]) (by kernel_rfl) ?_
  refine st_region 0 (opsOf (C9 [0])) [0, 1] (by kernel_rfl) (by kernel_rfl) ?_
  refine st_pure tabOK hk [0, 1] [] [0, 1] [(0, .pointer (some ⟨b1, 0, none⟩)), (1, S p1)] (True) (by kernel_rfl) trivial ?_
  clear hk; intro a hk
  refine st_done ?_
  refine st_seq (C9 [1, 0]) (C9 [1, 1]) (by kernel_rfl) ?_
  refine st_region 1 (opsOf (C9 [1, 0])) [0, 1] (by kernel_rfl) (by kernel_rfl) ?_
  refine st_pure tabOK hk [0] [1] [0, 1, 6] [(0, .pointer (some ⟨b1, 0, none⟩)), (1, S p1), (6, .pointer (some ⟨b1, 0, none⟩))] (True) (by kernel_rfl) trivial ?_
  clear hk; intro a hk
  obtain ⟨t2, h3, H⟩ := Option.bind_eq_some_iff.1 H
  refine st_call hk 20 [.pointer (some ⟨b1, 0, none⟩)] (some 7) enters20 (by kernel_rfl) (strings_Builder_copyCheck_pnsn.ok   t2 h3 w b1 (Ows.has (K := [.blk b1 (.cells #[.pointer none, .slice none 0 0] 32 (0, 0))]) (L := []) ho)) ?_
  clear hk; rintro a u w ⟨rfl, ho'⟩ hk
  replace ho : Ows [b1] w0 w [.blk b1 (.cells #[.pointer (some ⟨b1, 0, none⟩), .slice none 0 0] 32 (0, 0))] := Ows.callP (K := [.blk b1 (.cells #[.pointer none, .slice none 0 0] 32 (0, 0))]) (L := []) ho ho' rfl; clear ho'
  refine st_done ?_
  refine st_seq (C9 [1, 1, 0]) (C9 [1, 1, 1]) (by kernel_rfl) ?_
  refine st_region 2 (opsOf (C9 [1, 1, 0])) [0, 1, 2, 3, 4, 5, 6, 7, 8, 9] (by kernel_rfl) (by kernel_rfl) ?_
  refine st_pure tabOK hk [0, 1, 2, 3] [4, 5, 6, 7, 8, 9] [1, 8, 11] [(1, S p1), (8, .pointer (some ⟨b1, 0, none⟩)), (11, .pointer (some ⟨b1, 1, none⟩))] (((some ⟨b1, 0, none⟩ : Option Addr).isSome = true) ∧ (((some ⟨b1, 0, none⟩ : Option Addr).isSome = true) ∧ True)) (by kernel_rfl) ⟨rfl, ⟨rfl, trivial⟩⟩ ?_
  clear hk; intro a hk
  refine st_load1 tabOK hk 30 (some ⟨b1, 1, none⟩) 12 (by kernel_rfl) (by kernel_rfl) (.slice none 0 0) (ho.cell 0 rfl rfl) ?_
  clear hk; intro a hk
  refine st_pure tabOK hk [5] [6, 7, 8, 9] [1, 8, 12, 13] [(1, S p1), (8, .pointer (some ⟨b1, 0, none⟩)), (12, .slice none 0 0), (13, S p1)] (True) (by kernel_rfl) trivial ?_
  clear hk; intro a hk
  replace ho := ho.nilRow 1 5 1
  replace ho : Ows [b1] w0 w [.row 1 5 1 (.slice none 0 0) 0 (([] : List UInt8).map bV), .blk b1 (.cells #[.pointer (some ⟨b1, 0, none⟩), .slice none 0 0] 32 (0, 0))] := ho
  have h5 : ([] : List UInt8).length + p1.length ≤ 4294967296 := by
    by_cases h5 : ([] : List UInt8).length + p1.length ≤ 4294967296
    · exact h5
    · rw [if_neg h5] at H; cases H
  rw [if_pos h5] at H
  refine st_appendS tabOK hk ho 0 30 9 5 14 (.int .u8 0) none 0 0 ([] : List UInt8) p1 (by kernel_rfl) (by kernel_rfl) (by kernel_rfl) (by kernel_rfl) rfl h5 rfl p1.length rfl ?_
  clear hk ho; intro a o6 c7 w h8 hk ho
  replace ho : Ows [b1] w0 w [.row 1 5 1 (.slice o6 p1.length c7) p1.length (p1.map bV), .blk b1 (.cells #[.pointer (some ⟨b1, 0, none⟩), .slice none 0 0] 32 (0, 0))] := ho
  refine st_pure tabOK hk [7, 8] [9] [1, 14, 16] [(1, S p1), (14, .slice o6 p1.length c7), (16, .pointer (some ⟨b1, 1, none⟩))] (((some ⟨b1, 0, none⟩ : Option Addr).isSome = true) ∧ (((some ⟨b1, 0, none⟩ : Option Addr).isSome = true) ∧ True)) (by kernel_rfl) ⟨rfl, ⟨rfl, trivial⟩⟩ ?_
  clear hk; intro a hk
  refine st_put1 hk ho 1 30 b1 1 (.slice o6 p1.length c7) #[.pointer (some ⟨b1, 0, none⟩), .slice none 0 0] 32 [.row 1 5 1 (.slice o6 p1.length c7) p1.length (p1.map bV), .blk b1 (.cells #[.pointer (some ⟨b1, 0, none⟩), .slice o6 p1.length c7] 32 (0, 0))] (by kernel_rfl) (by kernel_rfl) (by kernel_rfl) rfl (by kernel_rfl) (by kernel_rfl) rfl ?_
  clear ho; intro w ho
  refine st_done ?_
  refine st_seq (C9 [1, 1, 1, 0]) (C9 [1, 1, 1, 1]) (by kernel_rfl) ?_
  refine st_region 3 (opsOf (C9 [1, 1, 1, 0])) [0, 1, 2, 3] (by kernel_rfl) (by kernel_rfl) ?_
  refine st_pure tabOK hk [0, 1, 2, 3] [] [4, 5] [(4, I (p1.length : Int)), (5, .nilIface)] (True) (by kernel_rfl) trivial ?_
  clear hk; intro a hk
  refine st_done ?_
  replace ho : Ows [b1] w0 w [.blk b1 (.cells #[.pointer (some ⟨b1, 0, none⟩), .slice o6 p1.length c7] 32 (0, 0)), .row 1 5 1 (.slice o6 p1.length c7) p1.length (p1.map bV)] := ho.front 1 _ _ rfl rfl
  refine st_retG hk (by kernel_rfl) [I (p1.length : Int), .nilIface] #[.tmp 4, .tmp 5] (by kernel_rfl) ⟨resT hk (by kernel_rfl), resT hk (by kernel_rfl), trivial⟩ ?_
  obtain rfl := Option.some.inj H
  exact ⟨_, rfl, o6, c7, rfl, ho⟩


/-! (*strings.Builder).copyCheck: function 20 -/
def strings_Builder_copyCheck_ps0t.f (p0_1 : List UInt8) : Option (List UInt8) := some p0_1
abbrev strings_Builder_copyCheck_ps0t.post (b1 : Nat) (o2 : Option Addr) (p0_1 : List UInt8) (c3 : Nat) (w0 : World) (r : List UInt8) (u : Value) (w : World) : Prop := ∃ (o5 : Option Addr), ∃ (c6 : Nat), u = .tuple #[] ∧ Ows (feet [.blk b1 (.cells #[.pointer (some ⟨b1, 0, none⟩), .slice o2 p0_1.length c3] 32 (0, 0)), .row 1 5 1 (.slice o2 p0_1.length c3) p0_1.length (p0_1.map bV)]) w0 w [.blk b1 (.cells #[.pointer (some ⟨b1, 0, none⟩), .slice o5 r.length c6] 32 (0, 0)), .row 1 5 1 (.slice o5 r.length c6) r.length (r.map bV)]
theorem strings_Builder_copyCheck_ps0t.ok (p0_1 : List UInt8) (r : List UInt8) (H : strings_Builder_copyCheck_ps0t.f p0_1 = some r) (w0 : World) (b1 : Nat) (o2 : Option Addr) (c3 : Nat) (hh : Has w0 [.blk b1 (.cells #[.pointer (some ⟨b1, 0, none⟩), .slice o2 p0_1.length c3] 32 (0, 0)), .row 1 5 1 (.slice o2 p0_1.length c3) p0_1.length (p0_1.map bV)]) : Calls Tryz.prog 20 ⟨[.pointer (some ⟨b1, 0, none⟩)]⟩ w0 fun e w => ∃ u, e = .returned u ∧ strings_Builder_copyCheck_ps0t.post b1 o2 p0_1 c3 w0 r u w := by
  unfold strings_Builder_copyCheck_ps0t.f at H
  refine st_startL (N := 20) [.pointer (some ⟨b1, 0, none⟩)] (C20 []) func20 (by kernel_rfl) (by kernel_rfl) (by kernel_rfl) ([.blk b1 (.cells #[.pointer (some ⟨b1, 0, none⟩), .slice o2 p0_1.length c3] 32 (0, 0)), .row 1 5 1 (.slice o2 p0_1.length c3) p0_1.length (p0_1.map bV)]) hh ?_
  intro a w hk ho
  replace ho : Ows (feet [.blk b1 (.cells #[.pointer (some ⟨b1, 0, none⟩), .slice o2 p0_1.length c3] 32 (0, 0)), .row 1 5 1 (.slice o2 p0_1.length c3) p0_1.length (p0_1.map bV)]) w0 w [.blk b1 (.cells #[.pointer (some ⟨b1, 0, none⟩), .slice o2 p0_1.length c3] 32 (0, 0)), .row 1 5 1 (.slice o2 p0_1.length c3) p0_1.length (p0_1.map bV)] := ho
  refine st_seq (C20 [0]) (C20 [1]) (by kernel_rfl) ?_
  refine st_region 0 (opsOf (C20 [0])) [0, 1, 2, 3, 4] (by kernel_rfl) (by kernel_rfl) ?_
  refine st_pure tabOK hk [0, 1, 2] [3, 4] [0, 4] [(0, .pointer (some ⟨b1, 0, none⟩)), (4, .pointer (some ⟨b1, 0, none⟩))] (((some ⟨b1, 0, none⟩ : Option Addr).isSome = true) ∧ (((some ⟨b1, 0, none⟩ : Option Addr).isSome = true) ∧ True)) (by kernel_rfl) ⟨rfl, ⟨rfl, trivial⟩⟩ ?_
  clear hk; intro a hk
  refine st_load1 tabOK hk 29 (some ⟨b1, 0, none⟩) 5 (by kernel_rfl) (by kernel_rfl) (.pointer (some ⟨b1, 0, none⟩)) (ho.cell 0 rfl rfl) ?_
  clear hk; intro a hk
  refine st_pure tabOK hk [4] [] [0, 6] [(0, .pointer (some ⟨b1, 0, none⟩)), (6, .bool false)] (True) (by kernel_rfl) trivial ?_
  clear hk; intro a hk
  refine st_done ?_
  refine st_cond_false hk (C20 [1, 0]) (C20 [1, 1]) (.tmp 6) (by kernel_rfl) (by kernel_rfl) ?_
  refine st_seq (C20 [1, 1, 0]) (C20 [1, 1, 1]) (by kernel_rfl) ?_
  refine st_region 2 (opsOf (C20 [1, 1, 0])) [0, 1, 2, 3, 4, 5] (by kernel_rfl) (by kernel_rfl) ?_
  refine st_pure tabOK hk [0, 1, 2] [3, 4, 5] [0, 16] [(0, .pointer (some ⟨b1, 0, none⟩)), (16, .pointer (some ⟨b1, 0, none⟩))] (((some ⟨b1, 0, none⟩ : Option Addr).isSome = true) ∧ (((some ⟨b1, 0, none⟩ : Option Addr).isSome = true) ∧ True)) (by kernel_rfl) ⟨rfl, ⟨rfl, trivial⟩⟩ ?_
  clear hk; intro a hk
  refine st_load1 tabOK hk 29 (some ⟨b1, 0, none⟩) 17 (by kernel_rfl) (by kernel_rfl) (.pointer (some ⟨b1, 0, none⟩)) (ho.cell 0 rfl rfl) ?_
  clear hk; intro a hk
  refine st_pure tabOK hk [4] [5] [17, 18] [(17, .pointer (some ⟨b1, 0, none⟩)), (18, .pointer (some ⟨b1, 0, none⟩))] (True) (by kernel_rfl) trivial ?_
  clear hk; intro a hk
  refine st_yield hk 19 (.bool false) (ptrNeY tabOK 29 19 ⟨b1, 0, none⟩ (by kernel_rfl) (by kernel_rfl) (fun e he => by rw [show Tryz.prog.underlying 29 = some (.pointer 32) from by kernel_rfl] at he; cases he; kernel_rfl)) ?_
  clear hk; intro a hk
  refine st_done ?_
  refine st_cond_false hk (C20 [1, 1, 1, 0]) (C20 [1, 1, 1, 1]) (.tmp 19) (by kernel_rfl) (by kernel_rfl) ?_
  refine st_skip (by kernel_rfl) ?_
  refine st_endK hk [] #[] (by kernel_rfl) (by kernel_rfl) ?_
  obtain rfl := Option.some.inj H
  exact ⟨_, rfl, o2, c3, rfl, ho⟩


/-! (*strings.Builder).WriteString: function 9 -/
def strings_Builder_WriteString_ps0t.f (p0_1 : List UInt8) (p1 : Str) : Option (Int × List UInt8) := (((strings_Builder_copyCheck_ps0t.f p0_1).bind fun t5 => (if t5.length + p1.length ≤ 4294967296 then some ((p1.length : Int), t5 ++ p1) else none)))
abbrev strings_Builder_WriteString_ps0t.post (b1 : Nat) (o2 : Option Addr) (p0_1 : List UInt8) (c3 : Nat) (w0 : World) (r : Int × List UInt8) (u : Value) (w : World) : Prop := ∃ (o14 : Option Addr), ∃ (c15 : Nat), u = .tuple #[I r.1, .nilIface] ∧ Ows (feet [.blk b1 (.cells #[.pointer (some ⟨b1, 0, none⟩), .slice o2 p0_1.length c3] 32 (0, 0)), .row 1 5 1 (.slice o2 p0_1.length c3) p0_1.length (p0_1.map bV)]) w0 w [.blk b1 (.cells #[.pointer (some ⟨b1, 0, none⟩), .slice o14 r.2.length c15] 32 (0, 0)), .row 1 5 1 (.slice o14 r.2.length c15) r.2.length (r.2.map bV)]
theorem strings_Builder_WriteString_ps0t.ok (p0_1 : List UInt8) (p1 : Str) (r : Int × List UInt8) (H : strings_Builder_WriteString_ps0t.f p0_1 p1 = some r) (w0 : World) (b1 : Nat) (o2 : Option Addr) (c3 : Nat) (hh : Has w0 [.blk b1 (.cells #[.pointer (some ⟨b1, 0, none⟩), .slice o2 p0_1.length c3] 32 (0, 0)), .row 1 5 1 (.slice o2 p0_1.length c3) p0_1.length (p0_1.map bV)]) : Calls Tryz.prog 9 ⟨[.pointer (some ⟨b1, 0, none⟩), S p1]⟩ w0 fun e w => ∃ u, e = .returned u ∧ strings_Builder_WriteString_ps0t.post b1 o2 p0_1 c3 w0 r u w := by
  unfold strings_Builder_WriteString_ps0t.f at H
  refine st_startL (N := 19) [.pointer (some ⟨b1, 0, none⟩), S p1] (C9 []) func9 (by kernel_rfl) (by kernel_rfl) (by kernel_rfl) ([.blk b1 (.cells #[.pointer (some ⟨b1, 0, none⟩), .slice o2 p0_1.length c3] 32 (0, 0)), .row 1 5 1 (.slice o2 p0_1.length c3) p0_1.length (p0_1.map bV)]) hh ?_
  intro a w hk ho
  replace ho : Ows (feet [.blk b1 (.cells #[.pointer (some ⟨b1, 0, none⟩), .slice o2 p0_1.length c3] 32 (0, 0)), .row 1 5 1 (.slice o2 p0_1.length c3) p0_1.length (p0_1.map bV)]) w0 w [.blk b1 (.cells #[.pointer (some ⟨b1, 0, none⟩), .slice o2 p0_1.length c3] 32 (0, 0)), .row 1 5 1 (.slice o2 p0_1.length c3) p0_1.length (p0_1.map bV)] := ho
  refine st_seq (C9 [0]) (C9 [1]) (by kernel_rfl) ?_
  refine st_region 0 (opsOf (C9 [0])) [0, 1] (by kernel_rfl) (by kernel_rfl) ?_
  refine st_pure tabOK hk [0, 1] [] [0, 1] [(0, .pointer (some ⟨b1, 0, none⟩)), (1, S p1)] (True) (by kernel_rfl) trivial ?_
  clear hk; intro a hk
  refine st_done ?_
  refine st_seq (C9 [1, 0]) (C9 [1, 1]) (by kernel_rfl) ?_
  refine st_region 1 (opsOf (C9 [1, 0])) [0, 1] (by kernel_rfl) (by kernel_rfl) ?_
  refine st_pure tabOK hk [0] [1] [0, 1, 6] [(0, .pointer (some ⟨b1, 0, none⟩)), (1, S p1), (6, .pointer (some ⟨b1, 0, none⟩))] (True) (by kernel_rfl) trivial ?_
  clear hk; intro a hk
  obtain ⟨t5, h6, H⟩ := Option.bind_eq_some_iff.1 H
  refine st_call hk 20 [.pointer (some ⟨b1, 0, none⟩)] (some 7) enters20 (by kernel_rfl) (strings_Builder_copyCheck_ps0t.ok  p0_1 t5 h6 w b1 o2 c3 (Ows.has (K := [.blk b1 (.cells #[.pointer (some ⟨b1, 0, none⟩), .slice o2 p0_1.length c3] 32 (0, 0)), .row 1 5 1 (.slice o2 p0_1.length c3) p0_1.length (p0_1.map bV)]) (L := []) ho)) ?_
  clear hk; rintro a u w ⟨o7, c8, rfl, ho'⟩ hk
  replace ho : Ows (feet [.blk b1 (.cells #[.pointer (some ⟨b1, 0, none⟩), .slice o2 p0_1.length c3] 32 (0, 0)), .row 1 5 1 (.slice o2 p0_1.length c3) p0_1.length (p0_1.map bV)]) w0 w [.blk b1 (.cells #[.pointer (some ⟨b1, 0, none⟩), .slice o7 t5.length c8] 32 (0, 0)), .row 1 5 1 (.slice o7 t5.length c8) t5.length (t5.map bV)] := Ows.callP (K := [.blk b1 (.cells #[.pointer (some ⟨b1, 0, none⟩), .slice o2 p0_1.length c3] 32 (0, 0)), .row 1 5 1 (.slice o2 p0_1.length c3) p0_1.length (p0_1.map bV)]) (L := []) ho ho' rfl; clear ho'
  refine st_done ?_
  refine st_seq (C9 [1, 1, 0]) (C9 [1, 1, 1]) (by kernel_rfl) ?_
  refine st_region 2 (opsOf (C9 [1, 1, 0])) [0, 1, 2, 3, 4, 5, 6, 7, 8, 9] (by kernel_rfl) (by kernel_rfl) ?_
  refine st_pure tabOK hk [0, 1, 2, 3] [4, 5, 6, 7, 8, 9] [1, 8, 11] [(1, S p1), (8, .pointer (some ⟨b1, 0, none⟩)), (11, .pointer (some ⟨b1, 1, none⟩))] (((some ⟨b1, 0, none⟩ : Option Addr).isSome = true) ∧ (((some ⟨b1, 0, none⟩ : Option Addr).isSome = true) ∧ True)) (by kernel_rfl) ⟨rfl, ⟨rfl, trivial⟩⟩ ?_
  clear hk; intro a hk
  refine st_load1 tabOK hk 30 (some ⟨b1, 1, none⟩) 12 (by kernel_rfl) (by kernel_rfl) (.slice o7 t5.length c8) (ho.cell 0 rfl rfl) ?_
  clear hk; intro a hk
  refine st_pure tabOK hk [5] [6, 7, 8, 9] [1, 8, 12, 13] [(1, S p1), (8, .pointer (some ⟨b1, 0, none⟩)), (12, .slice o7 t5.length c8), (13, S p1)] (True) (by kernel_rfl) trivial ?_
  clear hk; intro a hk
  have h10 : t5.length + p1.length ≤ 4294967296 := by
    by_cases h10 : t5.length + p1.length ≤ 4294967296
    · exact h10
    · rw [if_neg h10] at H; cases H
  rw [if_pos h10] at H
  refine st_appendS tabOK hk ho 1 30 9 5 14 (.int .u8 0) o7 t5.length c8 t5 p1 (by kernel_rfl) (by kernel_rfl) (by kernel_rfl) (by kernel_rfl) rfl h10 rfl (t5 ++ p1).length rfl ?_
  clear hk ho; intro a o11 c12 w h13 hk ho
  replace ho : Ows (feet [.blk b1 (.cells #[.pointer (some ⟨b1, 0, none⟩), .slice o2 p0_1.length c3] 32 (0, 0)), .row 1 5 1 (.slice o2 p0_1.length c3) p0_1.length (p0_1.map bV)]) w0 w [.blk b1 (.cells #[.pointer (some ⟨b1, 0, none⟩), .slice o7 t5.length c8] 32 (0, 0)), .row 1 5 1 (.slice o11 ((t5 ++ p1).length) c12) ((t5 ++ p1).length) ((t5 ++ p1).map bV)] := ho
  refine st_pure tabOK hk [7, 8] [9] [1, 14, 16] [(1, S p1), (14, .slice o11 ((t5 ++ p1).length) c12), (16, .pointer (some ⟨b1, 1, none⟩))] (((some ⟨b1, 0, none⟩ : Option Addr).isSome = true) ∧ (((some ⟨b1, 0, none⟩ : Option Addr).isSome = true) ∧ True)) (by kernel_rfl) ⟨rfl, ⟨rfl, trivial⟩⟩ ?_
  clear hk; intro a hk
  refine st_put1 hk ho 0 30 b1 1 (.slice o11 ((t5 ++ p1).length) c12) #[.pointer (some ⟨b1, 0, none⟩), .slice o7 t5.length c8] 32 [.blk b1 (.cells #[.pointer (some ⟨b1, 0, none⟩), .slice o11 ((t5 ++ p1).length) c12] 32 (0, 0)), .row 1 5 1 (.slice o11 ((t5 ++ p1).length) c12) ((t5 ++ p1).length) ((t5 ++ p1).map bV)] (by kernel_rfl) (by kernel_rfl) (by kernel_rfl) rfl (by kernel_rfl) (by kernel_rfl) rfl ?_
  clear ho; intro w ho
  refine st_done ?_
  refine st_seq (C9 [1, 1, 1, 0]) (C9 [1, 1, 1, 1]) (by kernel_rfl) ?_
  refine st_region 3 (opsOf (C9 [1, 1, 1, 0])) [0, 1, 2, 3] (by kernel_rfl) (by kernel_rfl) ?_
  refine st_pure tabOK hk [0, 1, 2, 3] [] [4, 5] [(4, I (p1.length : Int)), (5, .nilIface)] (True) (by kernel_rfl) trivial ?_
  clear hk; intro a hk
  refine st_done ?_
  refine st_retG hk (by kernel_rfl) [I (p1.length : Int), .nilIface] #[.tmp 4, .tmp 5] (by kernel_rfl) ⟨resT hk (by kernel_rfl), resT hk (by kernel_rfl), trivial⟩ ?_
  obtain rfl := Option.some.inj H
  exact ⟨_, rfl, o11, c12, rfl, ho⟩


/-! (*strings.Builder).String: function 11 -/
noncomputable def C11 (p : List Nat) : Code := Sub (bodyOf f11) p
def strings_Builder_String_ps0t.f (p0_1 : List UInt8) : Option (Str) := some p0_1
abbrev strings_Builder_String_ps0t.post (b1 : Nat) (o2 : Option Addr) (p0_1 : List UInt8) (c3 : Nat) (w0 : World) (r : Str) (u : Value) (w : World) : Prop := u = S r ∧ Ows (feet [.blk b1 (.cells #[.pointer (some ⟨b1, 0, none⟩), .slice o2 p0_1.length c3] 32 (0, 0)), .row 1 5 1 (.slice o2 p0_1.length c3) p0_1.length (p0_1.map bV)]) w0 w [.blk b1 (.cells #[.pointer (some ⟨b1, 0, none⟩), .slice o2 p0_1.length c3] 32 (0, 0))]
theorem strings_Builder_String_ps0t.ok (p0_1 : List UInt8) (r : Str) (H : strings_Builder_String_ps0t.f p0_1 = some r) (w0 : World) (b1 : Nat) (o2 : Option Addr) (c3 : Nat) (hh : Has w0 [.blk b1 (.cells #[.pointer (some ⟨b1, 0, none⟩), .slice o2 p0_1.length c3] 32 (0, 0)), .row 1 5 1 (.slice o2 p0_1.length c3) p0_1.length (p0_1.map bV)]) : Calls Tryz.prog 11 ⟨[.pointer (some ⟨b1, 0, none⟩)]⟩ w0 fun e w => ∃ u, e = .returned u ∧ strings_Builder_String_ps0t.post b1 o2 p0_1 c3 w0 r u w := by
  unfold strings_Builder_String_ps0t.f at H
  refine st_startL (N := 14) [.pointer (some ⟨b1, 0, none⟩)] (C11 []) func11 (by kernel_rfl) (by kernel_rfl) (by kernel_rfl) ([.blk b1 (.cells #[.pointer (some ⟨b1, 0, none⟩), .slice o2 p0_1.length c3] 32 (0, 0)), .row 1 5 1 (.slice o2 p0_1.length c3) p0_1.length (p0_1.map bV)]) hh ?_
  intro a w hk ho
  replace ho : Ows (feet [.blk b1 (.cells #[.pointer (some ⟨b1, 0, none⟩), .slice o2 p0_1.length c3] 32 (0, 0)), .row 1 5 1 (.slice o2 p0_1.length c3) p0_1.length (p0_1.map bV)]) w0 w [.blk b1 (.cells #[.pointer (some ⟨b1, 0, none⟩), .slice o2 p0_1.length c3] 32 (0, 0)), .row 1 5 1 (.slice o2 p0_1.length c3) p0_1.length (p0_1.map bV)] := ho
  refine st_seq (C11 [0]) (C11 [1]) (by kernel_rfl) ?_
  refine st_region 0 (opsOf (C11 [0])) [0] (by kernel_rfl) (by kernel_rfl) ?_
  refine st_pure tabOK hk [0] [] [0] [(0, .pointer (some ⟨b1, 0, none⟩))] (True) (by kernel_rfl) trivial ?_
  clear hk; intro a hk
  refine st_done ?_
  refine st_seq (C11 [1, 0]) (C11 [1, 1]) (by kernel_rfl) ?_
  refine cut_code (fun a w => Kn 14 a [(2, S p0_1)] ∧ Ows (feet [.blk b1 (.cells #[.pointer (some ⟨b1, 0, none⟩), .slice o2 p0_1.length c3] 32 (0, 0)), .row 1 5 1 (.slice o2 p0_1.length c3) p0_1.length (p0_1.map bV)]) w0 w [.blk b1 (.cells #[.pointer (some ⟨b1, 0, none⟩), .slice o2 p0_1.length c3] 32 (0, 0))]) ?_ ?_
  · intro J
    refine st_draw ho 1 (opsOf (C11 [1, 0])) [0, 1, 2, 3, 4, 5, 6, 7, 8, 9, 10, 11] (by kernel_rfl) (by kernel_rfl) (by kernel_rfl) ?_
    clear ho; intro w ho
    refine any_pure tabOK hk [0, 1, 2, 5, 6, 7] [0, 1, 2, 3, 4, 5, 6, 7, 8, 9, 10, 11] [3, 4, 8, 9, 10, 11] [5, 10] [(5, .pointer (some ⟨b1, 1, none⟩)), (10, .pointer (some ⟨b1, 1, none⟩))] (((some ⟨b1, 0, none⟩ : Option Addr).isSome = true) ∧ (((some ⟨b1, 0, none⟩ : Option Addr).isSome = true) ∧ (((some ⟨b1, 0, none⟩ : Option Addr).isSome = true) ∧ (((some ⟨b1, 0, none⟩ : Option Addr).isSome = true) ∧ True)))) (by kernel_rfl) (by kernel_rfl) (by kernel_rfl) ⟨rfl, ⟨rfl, ⟨rfl, ⟨rfl, trivial⟩⟩⟩⟩ ?_
    clear hk; intro a hk
    refine any_all [3, 8] (by kernel_rfl) (by decide) ⟨?_, ?_, trivial⟩
    ·
      change wpOps _ _ _ [3] _ _
      refine st_load1 tabOK hk 30 (some ⟨b1, 1, none⟩) 6 (by kernel_rfl) (by kernel_rfl) (.slice o2 p0_1.length c3) (ho.cell 0 rfl rfl) ?_
      clear hk; intro a hk
      refine any_go [4, 8, 9, 10, 11] (by kernel_rfl) ?_
      refine any_yield hk 4 [4, 8, 9, 10, 11] [8, 9, 10, 11] 7 (.pointer o2) (by kernel_rfl) (usdY 30 7 o2 p0_1.length c3 (by kernel_rfl) (ho.nz 1 rfl)) (by kernel_rfl) ?_
      clear hk; intro a hk
      refine any_all [8] (by kernel_rfl) (by decide) ⟨?_, trivial⟩
      change wpOps _ _ _ [8] _ _
      refine st_load1 tabOK hk 30 (some ⟨b1, 1, none⟩) 11 (by kernel_rfl) (by kernel_rfl) (.slice o2 p0_1.length c3) (ho.cell 0 rfl rfl) ?_
      clear hk; intro a hk
      refine any_go [9, 10, 11] (by kernel_rfl) ?_
      refine any_pure tabOK hk [9] [9, 10, 11] [10, 11] [7, 12] [(7, .pointer o2), (12, I (p0_1.length : Int))] (True) (by kernel_rfl) (by kernel_rfl) (by kernel_rfl) trivial ?_
      clear hk; intro a hk
      refine any_all [10] (by kernel_rfl) (by decide) ⟨?_, trivial⟩
      change wpOps _ _ _ [10] _ _
      refine st_ustr tabOK hk ho 1 48 3 5 13 o2 p0_1.length c3 p0_1 [.blk b1 (.cells #[.pointer (some ⟨b1, 0, none⟩), .slice o2 p0_1.length c3] 32 (0, 0))] (by kernel_rfl) (by kernel_rfl) (by kernel_rfl) rfl (by first | rfl | simp) rfl ?_
      clear hk ho; intro a w hk ho
      refine any_go [11] (by kernel_rfl) ?_
      refine any_pure tabOK hk [11] [11] [] [2] [(2, S p0_1)] (True) (by kernel_rfl) (by kernel_rfl) (by kernel_rfl) trivial ?_
      clear hk; intro a hk
      refine any_end ?_
      exact J a w ⟨by exact hk.to [2] _ (by kernel_rfl), by exact ho⟩
    ·
      change wpOps _ _ _ [8] _ _
      refine st_load1 tabOK hk 30 (some ⟨b1, 1, none⟩) 11 (by kernel_rfl) (by kernel_rfl) (.slice o2 p0_1.length c3) (ho.cell 0 rfl rfl) ?_
      clear hk; intro a hk
      refine any_go [3, 4, 9, 10, 11] (by kernel_rfl) ?_
      refine any_pure tabOK hk [9] [3, 4, 9, 10, 11] [3, 4, 10, 11] [5, 12] [(5, .pointer (some ⟨b1, 1, none⟩)), (12, I (p0_1.length : Int))] (True) (by kernel_rfl) (by kernel_rfl) (by kernel_rfl) trivial ?_
      clear hk; intro a hk
      refine any_all [3] (by kernel_rfl) (by decide) ⟨?_, trivial⟩
      change wpOps _ _ _ [3] _ _
      refine st_load1 tabOK hk 30 (some ⟨b1, 1, none⟩) 6 (by kernel_rfl) (by kernel_rfl) (.slice o2 p0_1.length c3) (ho.cell 0 rfl rfl) ?_
      clear hk; intro a hk
      refine any_go [4, 10, 11] (by kernel_rfl) ?_
      refine any_yield hk 4 [4, 10, 11] [10, 11] 7 (.pointer o2) (by kernel_rfl) (usdY 30 7 o2 p0_1.length c3 (by kernel_rfl) (ho.nz 1 rfl)) (by kernel_rfl) ?_
      clear hk; intro a hk
      refine any_all [10] (by kernel_rfl) (by decide) ⟨?_, trivial⟩
      change wpOps _ _ _ [10] _ _
      refine st_ustr tabOK hk ho 1 48 3 5 13 o2 p0_1.length c3 p0_1 [.blk b1 (.cells #[.pointer (some ⟨b1, 0, none⟩), .slice o2 p0_1.length c3] 32 (0, 0))] (by kernel_rfl) (by kernel_rfl) (by kernel_rfl) rfl (by first | rfl | simp) rfl ?_
      clear hk ho; intro a w hk ho
      refine any_go [11] (by kernel_rfl) ?_
      refine any_pure tabOK hk [11] [11] [] [2] [(2, S p0_1)] (True) (by kernel_rfl) (by kernel_rfl) (by kernel_rfl) trivial ?_
      clear hk; intro a hk
      refine any_end ?_
      exact J a w ⟨by exact hk.to [2] _ (by kernel_rfl), by exact ho⟩
  · rintro a w ⟨hk, ho⟩
    refine st_retG hk (by kernel_rfl) [S p0_1] #[.tmp 2] (by kernel_rfl) ⟨resT hk (by kernel_rfl), trivial⟩ ?_
    obtain rfl := Option.some.inj H
    exact ⟨_, rfl, rfl, ho⟩


/-! (*strings.Builder).String: function 11 -/
def strings_Builder_String_pnsn.f  : Option (Str) := some ([] : List UInt8)
abbrev strings_Builder_String_pnsn.post (b1 : Nat) (w0 : World) (r : Str) (u : Value) (w : World) : Prop := u = S r ∧ Ows [b1] w0 w [.blk b1 (.cells #[.pointer none, .slice none 0 0] 32 (0, 0))]
theorem strings_Builder_String_pnsn.ok  (r : Str) (H : strings_Builder_String_pnsn.f  = some r) (w0 : World) (b1 : Nat) (hh : Has w0 [.blk b1 (.cells #[.pointer none, .slice none 0 0] 32 (0, 0))]) : Calls Tryz.prog 11 ⟨[.pointer (some ⟨b1, 0, none⟩)]⟩ w0 fun e w => ∃ u, e = .returned u ∧ strings_Builder_String_pnsn.post b1 w0 r u w := by
  unfold strings_Builder_String_pnsn.f at H
  refine st_startL (N := 14) [.pointer (some ⟨b1, 0, none⟩)] (C11 []) func11 (by kernel_rfl) (by kernel_rfl) (by kernel_rfl) ([.blk b1 (.cells #[.pointer none, .slice none 0 0] 32 (0, 0))]) hh ?_
  intro a w hk ho
  replace ho : Ows [b1] w0 w [.blk b1 (.cells #[.pointer none, .slice none 0 0] 32 (0, 0))] := ho
  refine st_seq (C11 [0]) (C11 [1]) (by kernel_rfl) ?_
  refine st_region 0 (opsOf (C11 [0])) [0] (by kernel_rfl) (by kernel_rfl) ?_
  refine st_pure tabOK hk [0] [] [0] [(0, .pointer (some ⟨b1, 0, none⟩))] (True) (by kernel_rfl) trivial ?_
  clear hk; intro a hk
  refine st_done ?_
  refine st_seq (C11 [1, 0]) (C11 [1, 1]) (by kernel_rfl) ?_
  refine cut_code (fun a w => Kn 14 a [(2, S ([] : List UInt8))] ∧ Ows [b1] w0 w [.blk b1 (.cells #[.pointer none, .slice none 0 0] 32 (0, 0))]) ?_ ?_
  · intro J
    refine st_draw ho 1 (opsOf (C11 [1, 0])) [0, 1, 2, 3, 4, 5, 6, 7, 8, 9, 10, 11] (by kernel_rfl) (by kernel_rfl) (by kernel_rfl) ?_
    clear ho; intro w ho
    refine any_pure tabOK hk [0, 1, 2, 5, 6, 7] [0, 1, 2, 3, 4, 5, 6, 7, 8, 9, 10, 11] [3, 4, 8, 9, 10, 11] [5, 10] [(5, .pointer (some ⟨b1, 1, none⟩)), (10, .pointer (some ⟨b1, 1, none⟩))] (((some ⟨b1, 0, none⟩ : Option Addr).isSome = true) ∧ (((some ⟨b1, 0, none⟩ : Option Addr).isSome = true) ∧ (((some ⟨b1, 0, none⟩ : Option Addr).isSome = true) ∧ (((some ⟨b1, 0, none⟩ : Option Addr).isSome = true) ∧ True)))) (by kernel_rfl) (by kernel_rfl) (by kernel_rfl) ⟨rfl, ⟨rfl, ⟨rfl, ⟨rfl, trivial⟩⟩⟩⟩ ?_
    clear hk; intro a hk
    refine any_all [3, 8] (by kernel_rfl) (by decide) ⟨?_, ?_, trivial⟩
    ·
      change wpOps _ _ _ [3] _ _
      refine st_load1 tabOK hk 30 (some ⟨b1, 1, none⟩) 6 (by kernel_rfl) (by kernel_rfl) (.slice none 0 0) (ho.cell 0 rfl rfl) ?_
      clear hk; intro a hk
      refine any_go [4, 8, 9, 10, 11] (by kernel_rfl) ?_
      refine any_yield hk 4 [4, 8, 9, 10, 11] [8, 9, 10, 11] 7 (.pointer none) (by kernel_rfl) (usdY 30 7 none 0 0 (by kernel_rfl) (.inl rfl)) (by kernel_rfl) ?_
      clear hk; intro a hk
      refine any_all [8] (by kernel_rfl) (by decide) ⟨?_, trivial⟩
      change wpOps _ _ _ [8] _ _
      refine st_load1 tabOK hk 30 (some ⟨b1, 1, none⟩) 11 (by kernel_rfl) (by kernel_rfl) (.slice none 0 0) (ho.cell 0 rfl rfl) ?_
      clear hk; intro a hk
      refine any_go [9, 10, 11] (by kernel_rfl) ?_
      refine any_pure tabOK hk [9] [9, 10, 11] [10, 11] [7, 12] [(7, .pointer none), (12, I 0)] (True) (by kernel_rfl) (by kernel_rfl) (by kernel_rfl) trivial ?_
      clear hk; intro a hk
      refine any_all [10] (by kernel_rfl) (by decide) ⟨?_, trivial⟩
      change wpOps _ _ _ [10] _ _
      replace ho := ho.nilRow 1 5 1
      refine st_ustr tabOK hk ho 0 48 3 5 13 none 0 0 ([] : List UInt8) [.blk b1 (.cells #[.pointer none, .slice none 0 0] 32 (0, 0))] (by kernel_rfl) (by kernel_rfl) (by kernel_rfl) rfl (by first | rfl | simp) rfl ?_
      clear hk ho; intro a w hk ho
      refine any_go [11] (by kernel_rfl) ?_
      refine any_pure tabOK hk [11] [11] [] [2] [(2, S ([] : List UInt8))] (True) (by kernel_rfl) (by kernel_rfl) (by kernel_rfl) trivial ?_
      clear hk; intro a hk
      refine any_end ?_
      exact J a w ⟨by exact hk.to [2] _ (by kernel_rfl), by exact ho⟩
    ·
      change wpOps _ _ _ [8] _ _
      refine st_load1 tabOK hk 30 (some ⟨b1, 1, none⟩) 11 (by kernel_rfl) (by kernel_rfl) (.slice none 0 0) (ho.cell 0 rfl rfl) ?_
      clear hk; intro a hk
      refine any_go [3, 4, 9, 10, 11] (by kernel_rfl) ?_
      refine any_pure tabOK hk [9] [3, 4, 9, 10, 11] [3, 4, 10, 11] [5, 12] [(5, .pointer (some ⟨b1, 1, none⟩)), (12, I 0)] (True) (by kernel_rfl) (by kernel_rfl) (by kernel_rfl) trivial ?_
      clear hk; intro a hk
      refine any_all [3] (by kernel_rfl) (by decide) ⟨?_, trivial⟩
      change wpOps _ _ _ [3] _ _
      refine st_load1 tabOK hk 30 (some ⟨b1, 1, none⟩) 6 (by kernel_rfl) (by kernel_rfl) (.slice none 0 0) (ho.cell 0 rfl rfl) ?_
      clear hk; intro a hk
      refine any_go [4, 10, 11] (by kernel_rfl) ?_
      refine any_yield hk 4 [4, 10, 11] [10, 11] 7 (.pointer none) (by kernel_rfl) (usdY 30 7 none 0 0 (by kernel_rfl) (.inl rfl)) (by kernel_rfl) ?_
      clear hk; intro a hk
      refine any_all [10] (by kernel_rfl) (by decide) ⟨?_, trivial⟩
      change wpOps _ _ _ [10] _ _
      replace ho := ho.nilRow 1 5 1
      refine st_ustr tabOK hk ho 0 48 3 5 13 none 0 0 ([] : List UInt8) [.blk b1 (.cells #[.pointer none, .slice none 0 0] 32 (0, 0))] (by kernel_rfl) (by kernel_rfl) (by kernel_rfl) rfl (by first | rfl | simp) rfl ?_
      clear hk ho; intro a w hk ho
      refine any_go [11] (by kernel_rfl) ?_
      refine any_pure tabOK hk [11] [11] [] [2] [(2, S ([] : List UInt8))] (True) (by kernel_rfl) (by kernel_rfl) (by kernel_rfl) trivial ?_
      clear hk; intro a hk
      refine any_end ?_
      exact J a w ⟨by exact hk.to [2] _ (by kernel_rfl), by exact ho⟩
  · rintro a w ⟨hk, ho⟩
    refine st_retG hk (by kernel_rfl) [S ([] : List UInt8)] #[.tmp 2] (by kernel_rfl) ⟨resT hk (by kernel_rfl), trivial⟩ ?_
    obtain rfl := Option.some.inj H
    exact ⟨_, rfl, rfl, ho⟩


/-! scullery/chunk.Encode: function 5 -/
noncomputable def C5 (p : List Nat) : Code := Sub (bodyOf f5) p
def chunk_Encode.l0 (K : Nat) : Nat → Int → List UInt8 → Str → Option (List UInt8)
  | 0, _, _, _ => none
  | k + 1, p1, v22, v25 => (if (!(v25 == ([]))) = true then (if (0 : Int) ≤ mnI p1 (v25.length : Int) then (if mnI p1 (v25.length : Int) ≤ (v25.length : Int) then ((strconv_FormatInt_16.f K (mnI p1 (v25.length : Int))).bind fun t32 => (if t32.length + ([13, 10]).length ≤ maxI then (if (t32 ++ ([13, 10])).length + (v25.take (mnI p1 (v25.length : Int)).toNat).length ≤ maxI then (if ((t32 ++ ([13, 10])) ++ (v25.take (mnI p1 (v25.length : Int)).toNat)).length + ([13, 10]).length ≤ maxI then ((strings_Builder_WriteString_ps0t.f v22 (((t32 ++ ([13, 10])) ++ (v25.take (mnI p1 (v25.length : Int)).toNat)) ++ ([13, 10]))).bind fun t37 => chunk_Encode.l0 K k p1 t37.2 (v25.drop (mnI p1 (v25.length : Int)).toNat)) else none) else none) else none)) else none) else none) else some v22)
def chunk_Encode.f (K : Nat) (p0 : Str) (p1 : Int) : Option (Str × Int) := (if p1 < 1 then some ([], 1) else (if (p0.length : Int) > 100000 then some ([], 4) else (if (!(p0 == ([]))) = true then (if (0 : Int) ≤ mnI p1 (p0.length : Int) then (if mnI p1 (p0.length : Int) ≤ (p0.length : Int) then ((strconv_FormatInt_16.f K (mnI p1 (p0.length : Int))).bind fun t12 => (if t12.length + ([13, 10]).length ≤ maxI then (if (t12 ++ ([13, 10])).length + (p0.take (mnI p1 (p0.length : Int)).toNat).length ≤ maxI then (if ((t12 ++ ([13, 10])) ++ (p0.take (mnI p1 (p0.length : Int)).toNat)).length + ([13, 10]).length ≤ maxI then ((strings_Builder_WriteString_pnsn.f (((t12 ++ ([13, 10])) ++ (p0.take (mnI p1 (p0.length : Int)).toNat)) ++ ([13, 10]))).bind fun t17 => ((chunk_Encode.l0 K K p1 t17.2 (p0.drop (mnI p1 (p0.length : Int)).toNat)).bind fun s45 => ((strings_Builder_String_ps0t.f s45).bind fun t48 => (if t48.length + ([48]).length ≤ maxI then (if (t48 ++ ([48])).length + ([13, 10]).length ≤ maxI then (if ((t48 ++ ([48])) ++ ([13, 10])).length + ([13, 10]).length ≤ maxI then some (((t48 ++ ([48])) ++ ([13, 10])) ++ ([13, 10]), 0) else none) else none) else none)))) else none) else none) else none)) else none) else none) else ((strings_Builder_String_pnsn.f ).bind fun t54 => (if t54.length + ([48]).length ≤ maxI then (if (t54 ++ ([48])).length + ([13, 10]).length ≤ maxI then (if ((t54 ++ ([48])) ++ ([13, 10])).length + ([13, 10]).length ≤ maxI then some (((t54 ++ ([48])) ++ ([13, 10])) ++ ([13, 10]), 0) else none) else none) else none)))))
abbrev chunk_Encode.post (w0 : World) (r : Str × Int) (u : Value) (w : World) : Prop := u = .tuple #[S r.1, I r.2] ∧ Ows [] w0 w []
theorem chunk_Encode.l0_ok (K : Nat) : ∀ (k : Nat) (p1 : Int) (v22 : List UInt8) (v25 : Str) (out : List UInt8), chunk_Encode.l0 K k p1 v22 v25 = some out → ∀ (b7 : Nat) (o23 : Option Addr) (c24 : Nat) (w0 : World) (hg : Glob w0) (Q : Exit → Act → World → Prop) (rest : List It) (a : Act) (w : World), Kn 37 a [(0, S v25), (1, I p1), (6, .pointer (some ⟨b7, 0, none⟩))] → Ows [] w0 w [.blk b7 (.cells #[.pointer (some ⟨b7, 0, none⟩), .slice o23 v22.length c24] 32 (0, 0)), .row 1 5 1 (.slice o23 v22.length c24) v22.length (v22.map bV)] → (∀ (s : List UInt8) (o26 : Option Addr) (c27 : Nat) (a : Act) (w : World), out = s → Kn 37 a [(6, .pointer (some ⟨b7, 0, none⟩))] → Ows [] w0 w [.blk b7 (.cells #[.pointer (some ⟨b7, 0, none⟩), .slice o26 s.length c27] 32 (0, 0)), .row 1 5 1 (.slice o26 s.length c27) s.length (s.map bV)] → G Tryz.prog Q rest a w) → G Tryz.prog Q (.code (C5 [1, 1, 1, 0, 0, 0]) :: .inl (C5 [1, 1, 1, 0, 0, 0]) :: .endb 1 :: rest) a w := by
  intro k
  induction k with
  | zero => intro p1 v22 v25 out H; simp [chunk_Encode.l0] at H
  | succ k ih =>
    intro p1 v22 v25 out H b7 o23 c24 w0 hg Q rest a w  hk ho J
    simp only [chunk_Encode.l0] at H
    refine st_seq (C5 [1, 1, 1, 0, 0, 0, 0]) (C5 [1, 1, 1, 0, 0, 0, 1]) (by kernel_rfl) ?_
    refine st_seq (C5 [1, 1, 1, 0, 0, 0, 0, 0]) (C5 [1, 1, 1, 0, 0, 0, 0, 1]) (by kernel_rfl) ?_
    refine st_region 6 (opsOf (C5 [1, 1, 1, 0, 0, 0, 0, 0])) [0, 1] (by kernel_rfl) (by kernel_rfl) ?_
    refine st_pure tabOK hk [0, 1] [] [0, 1, 6, 16] [(0, S v25), (1, I p1), (6, .pointer (some ⟨b7, 0, none⟩)), (16, .bool (!(v25 == ([]))))] (True) (by kernel_rfl) trivial ?_
    clear hk; intro a hk
    refine st_done ?_
    refine st_cond hk (C5 [1, 1, 1, 0, 0, 0, 0, 1, 0]) (C5 [1, 1, 1, 0, 0, 0, 0, 1, 1]) (.tmp 16) (!(v25 == ([]))) (by kernel_rfl) (by kernel_rfl) (fun h28 => ?_) (fun h28 => ?_)
    ·
      have h29 : (!(v25 == ([]))) = true := h28
      rw [if_pos h29] at H
      refine st_skip (by kernel_rfl) ?_
      refine st_block 2 (C5 [1, 1, 1, 0, 0, 0, 1, 0]) (by kernel_rfl) ?_
      refine st_seq (C5 [1, 1, 1, 0, 0, 0, 1, 0, 0]) (C5 [1, 1, 1, 0, 0, 0, 1, 0, 1]) (by kernel_rfl) ?_
      refine st_region 7 (opsOf (C5 [1, 1, 1, 0, 0, 0, 1, 0, 0])) [0, 1, 2, 3, 4] (by kernel_rfl) (by kernel_rfl) ?_
      refine st_pure tabOK hk [0, 1, 2, 3, 4] [] [0, 1, 6, 7] [(0, S v25), (1, I p1), (6, .pointer (some ⟨b7, 0, none⟩)), (7, I (mnI p1 (v25.length : Int)))] (True) (by kernel_rfl) trivial ?_
      clear hk; intro a hk
      refine st_done ?_
      refine st_seq (C5 [1, 1, 1, 0, 0, 0, 1, 0, 1, 0]) (C5 [1, 1, 1, 0, 0, 0, 1, 0, 1, 1]) (by kernel_rfl) ?_
      refine st_draw ho 8 (opsOf (C5 [1, 1, 1, 0, 0, 0, 1, 0, 1, 0])) [0, 1, 2, 3, 4, 5, 6, 7, 8] (by kernel_rfl) (by kernel_rfl) (by kernel_rfl) ?_
      clear ho; intro w ho
      have h30 : (0 : Int) ≤ mnI p1 (v25.length : Int) := by
        by_cases h30 : (0 : Int) ≤ mnI p1 (v25.length : Int)
        · exact h30
        · rw [if_neg h30] at H; cases H
      rw [if_pos h30] at H
      have h31 : mnI p1 (v25.length : Int) ≤ (v25.length : Int) := by
        by_cases h31 : mnI p1 (v25.length : Int) ≤ (v25.length : Int)
        · exact h31
        · rw [if_neg h31] at H; cases H
      rw [if_pos h31] at H
      refine any_pure tabOK hk [0, 3, 4, 5] [0, 1, 2, 3, 4, 5, 6, 7, 8] [1, 2, 6, 7, 8] [0, 1, 6, 7, 21, 26] [(0, S v25), (1, I p1), (6, .pointer (some ⟨b7, 0, none⟩)), (7, I (mnI p1 (v25.length : Int))), (21, I (mnI p1 (v25.length : Int))), (26, S (v25.take (mnI p1 (v25.length : Int)).toNat))] (((0 : Int) ≤ mnI p1 (v25.length : Int) ∧ mnI p1 (v25.length : Int) ≤ (v25.length : Int)) ∧ True) (by kernel_rfl) (by kernel_rfl) (by kernel_rfl) ⟨⟨h30, h31⟩, trivial⟩ ?_
      clear hk; intro a hk
      refine any_all [1] (by kernel_rfl) (by decide) ⟨?_, trivial⟩
      change wpOps _ _ _ [1] _ _
      obtain ⟨t32, h33, H⟩ := Option.bind_eq_some_iff.1 H
      refine st_call hk 10 [I (mnI p1 (v25.length : Int)), I 16] (some 22) enters10 (by kernel_rfl) (strconv_FormatInt_16.ok K  (mnI p1 (v25.length : Int)) t32 h33 w (hg.of ho)) ?_
      clear hk; rintro a u w ⟨rfl, ho'⟩ hk
      replace ho : Ows [] w0 w [.blk b7 (.cells #[.pointer (some ⟨b7, 0, none⟩), .slice o23 v22.length c24] 32 (0, 0)), .row 1 5 1 (.slice o23 v22.length c24) v22.length (v22.map bV)] := ho.call ho'; clear ho'
      refine any_go [2, 6, 7, 8] (by kernel_rfl) ?_
      have h34 : t32.length + ([13, 10]).length ≤ maxI := by
        by_cases h34 : t32.length + ([13, 10]).length ≤ maxI
        · exact h34
        · rw [if_neg h34] at H; cases H
      rw [if_pos h34] at H
      have h35 : (t32 ++ ([13, 10])).length + (v25.take (mnI p1 (v25.length : Int)).toNat).length ≤ maxI := by
        by_cases h35 : (t32 ++ ([13, 10])).length + (v25.take (mnI p1 (v25.length : Int)).toNat).length ≤ maxI
        · exact h35
        · rw [if_neg h35] at H; cases H
      rw [if_pos h35] at H
      have h36 : ((t32 ++ ([13, 10])) ++ (v25.take (mnI p1 (v25.length : Int)).toNat)).length + ([13, 10]).length ≤ maxI := by
        by_cases h36 : ((t32 ++ ([13, 10])) ++ (v25.take (mnI p1 (v25.length : Int)).toNat)).length + ([13, 10]).length ≤ maxI
        · exact h36
        · rw [if_neg h36] at H; cases H
      rw [if_pos h36] at H
      refine any_pure tabOK hk [2, 6, 7] [2, 6, 7, 8] [8] [0, 1, 6, 7, 28] [(0, S v25), (1, I p1), (6, .pointer (some ⟨b7, 0, none⟩)), (7, I (mnI p1 (v25.length : Int))), (28, S (((t32 ++ ([13, 10])) ++ (v25.take (mnI p1 (v25.length : Int)).toNat)) ++ ([13, 10])))] (t32.length + ([13, 10]).length ≤ maxI ∧ ((t32 ++ ([13, 10])).length + (v25.take (mnI p1 (v25.length : Int)).toNat).length ≤ maxI ∧ (((t32 ++ ([13, 10])) ++ (v25.take (mnI p1 (v25.length : Int)).toNat)).length + ([13, 10]).length ≤ maxI ∧ True))) (by kernel_rfl) (by kernel_rfl) (by kernel_rfl) ⟨h34, ⟨h35, ⟨h36, trivial⟩⟩⟩ ?_
      clear hk; intro a hk
      refine any_all [8] (by kernel_rfl) (by decide) ⟨?_, trivial⟩
      change wpOps _ _ _ [8] _ _
      obtain ⟨t37, h38, H⟩ := Option.bind_eq_some_iff.1 H
      refine st_call hk 9 [.pointer (some ⟨b7, 0, none⟩), S (((t32 ++ ([13, 10])) ++ (v25.take (mnI p1 (v25.length : Int)).toNat)) ++ ([13, 10]))] (some 29) enters9 (by kernel_rfl) (strings_Builder_WriteString_ps0t.ok  v22 (((t32 ++ ([13, 10])) ++ (v25.take (mnI p1 (v25.length : Int)).toNat)) ++ ([13, 10])) t37 h38 w b7 o23 c24 (Ows.has (K := [.blk b7 (.cells #[.pointer (some ⟨b7, 0, none⟩), .slice o23 v22.length c24] 32 (0, 0)), .row 1 5 1 (.slice o23 v22.length c24) v22.length (v22.map bV)]) (L := []) ho)) ?_
      clear hk; rintro a u w ⟨o39, c40, rfl, ho'⟩ hk
      replace ho : Ows [] w0 w [.blk b7 (.cells #[.pointer (some ⟨b7, 0, none⟩), .slice o39 t37.2.length c40] 32 (0, 0)), .row 1 5 1 (.slice o39 t37.2.length c40) t37.2.length (t37.2.map bV)] := Ows.callP (K := [.blk b7 (.cells #[.pointer (some ⟨b7, 0, none⟩), .slice o23 v22.length c24] 32 (0, 0)), .row 1 5 1 (.slice o23 v22.length c24) v22.length (v22.map bV)]) (L := []) ho ho' rfl; clear ho'
      refine any_go [] (by kernel_rfl) ?_
      refine any_end ?_
      refine st_region 9 (opsOf (C5 [1, 1, 1, 0, 0, 0, 1, 0, 1, 1])) [0, 1, 2, 3] (by kernel_rfl) (by kernel_rfl) ?_
      refine st_pure tabOK hk [0, 1, 2, 3] [] [0, 1, 6] [(0, S (v25.drop (mnI p1 (v25.length : Int)).toNat)), (1, I p1), (6, .pointer (some ⟨b7, 0, none⟩))] (((0 : Int) ≤ mnI p1 (v25.length : Int) ∧ mnI p1 (v25.length : Int) ≤ (v25.length : Int)) ∧ True) (by kernel_rfl) ⟨⟨h30, h31⟩, trivial⟩ ?_
      clear hk; intro a hk
      refine st_done ?_
      refine st_endb 2 ?_
      refine st_inl ?_
      exact ih p1 t37.2 (v25.drop (mnI p1 (v25.length : Int)).toNat) out H b7 o39 c40 w0 hg Q rest a w  (hk.to [0, 1, 6] _ (by kernel_rfl)) ho J
    ·
      have h42 : ¬ ((!(v25 == ([]))) = true) := ne_true_of_eq_false h28
      rw [if_neg h42] at H
      refine st_exit 1 _ (by kernel_rfl) rfl ?_
      obtain rfl := Option.some.inj H
      exact J v22 o23 c24 a w rfl (hk.to [6] _ (by kernel_rfl)) ho

theorem chunk_Encode.ok (K : Nat) (p0 : Str) (p1 : Int) (r : Str × Int) (H : chunk_Encode.f K p0 p1 = some r) (w0 : World) (hg : Glob w0) : Calls Tryz.prog 5 ⟨[S p0, I p1]⟩ w0 fun e w => ∃ u, e = .returned u ∧ chunk_Encode.post w0 r u w := by
  unfold chunk_Encode.f at H
  refine st_start (N := 37) [S p0, I p1] (C5 []) func5 (by kernel_rfl) (by kernel_rfl) (by kernel_rfl) ?_
  intro a w hk ho
  refine st_seq (C5 [0]) (C5 [1]) (by kernel_rfl) ?_
  refine st_region 0 (opsOf (C5 [0])) [0, 1] (by kernel_rfl) (by kernel_rfl) ?_
  refine st_pure tabOK hk [0, 1] [] [0, 1] [(0, S p0), (1, I p1)] (True) (by kernel_rfl) trivial ?_
  clear hk; intro a hk
  refine st_done ?_
  refine st_seq (C5 [1, 0]) (C5 [1, 1]) (by kernel_rfl) ?_
  refine st_block 0 (C5 [1, 0, 0]) (by kernel_rfl) ?_
  refine st_seq (C5 [1, 0, 0, 0]) (C5 [1, 0, 0, 1]) (by kernel_rfl) ?_
  refine st_region 1 (opsOf (C5 [1, 0, 0, 0])) [0, 1, 2] (by kernel_rfl) (by kernel_rfl) ?_
  refine st_pure tabOK hk [0, 1, 2] [] [0, 1, 8] [(0, S p0), (1, I p1), (8, .bool (decide (p1 < 1)))] (True) (by kernel_rfl) trivial ?_
  clear hk; intro a hk
  refine st_done ?_
  refine st_cond hk (C5 [1, 0, 0, 1, 0]) (C5 [1, 0, 0, 1, 1]) (.tmp 8) (decide (p1 < 1)) (by kernel_rfl) (by kernel_rfl) (fun h1 => ?_) (fun h1 => ?_)
  ·
    have h2 : p1 < 1 := of_decide_eq_true h1
    rw [if_pos h2] at H
    refine st_seq (C5 [1, 0, 0, 1, 0, 0]) (C5 [1, 0, 0, 1, 0, 1]) (by kernel_rfl) ?_
    refine st_region 2 (opsOf (C5 [1, 0, 0, 1, 0, 0])) [0, 1] (by kernel_rfl) (by kernel_rfl) ?_
    refine st_pure tabOK hk [0, 1] [] [4, 5] [(4, S ([])), (5, I 1)] (True) (by kernel_rfl) trivial ?_
    clear hk; intro a hk
    refine st_done ?_
    refine st_retG hk (by kernel_rfl) [S ([]), I 1] #[.tmp 4, .tmp 5] (by kernel_rfl) ⟨resT hk (by kernel_rfl), resT hk (by kernel_rfl), trivial⟩ ?_
    obtain rfl := Option.some.inj H
    exact ⟨_, rfl, rfl, ho⟩
  ·
    have h3 : ¬ (p1 < 1) := of_decide_eq_false h1
    rw [if_neg h3] at H
    refine st_seq (C5 [1, 0, 0, 1, 1, 0]) (C5 [1, 0, 0, 1, 1, 1]) (by kernel_rfl) ?_
    refine st_region 3 (opsOf (C5 [1, 0, 0, 1, 1, 0])) [0, 1, 2, 3] (by kernel_rfl) (by kernel_rfl) ?_
    refine st_pure tabOK hk [0, 1, 2, 3] [] [0, 1, 11] [(0, S p0), (1, I p1), (11, .bool (decide ((p0.length : Int) > 100000)))] (True) (by kernel_rfl) trivial ?_
    clear hk; intro a hk
    refine st_done ?_
    refine st_cond hk (C5 [1, 0, 0, 1, 1, 1, 0]) (C5 [1, 0, 0, 1, 1, 1, 1]) (.tmp 11) (decide ((p0.length : Int) > 100000)) (by kernel_rfl) (by kernel_rfl) (fun h4 => ?_) (fun h4 => ?_)
    ·
      have h5 : (p0.length : Int) > 100000 := of_decide_eq_true h4
      rw [if_pos h5] at H
      refine st_seq (C5 [1, 0, 0, 1, 1, 1, 0, 0]) (C5 [1, 0, 0, 1, 1, 1, 0, 1]) (by kernel_rfl) ?_
      refine st_region 4 (opsOf (C5 [1, 0, 0, 1, 1, 1, 0, 0])) [0, 1] (by kernel_rfl) (by kernel_rfl) ?_
      refine st_pure tabOK hk [0, 1] [] [4, 5] [(4, S ([])), (5, I 4)] (True) (by kernel_rfl) trivial ?_
      clear hk; intro a hk
      refine st_done ?_
      refine st_retG hk (by kernel_rfl) [S ([]), I 4] #[.tmp 4, .tmp 5] (by kernel_rfl) ⟨resT hk (by kernel_rfl), resT hk (by kernel_rfl), trivial⟩ ?_
      obtain rfl := Option.some.inj H
      exact ⟨_, rfl, rfl, ho⟩
    ·
      have h6 : ¬ ((p0.length : Int) > 100000) := of_decide_eq_false h4
      rw [if_neg h6] at H
      refine st_skip (by kernel_rfl) ?_
      refine st_endb 0 ?_
      refine st_seq (C5 [1, 1, 0]) (C5 [1, 1, 1]) (by kernel_rfl) ?_
      refine st_region 5 (opsOf (C5 [1, 1, 0])) [0] (by kernel_rfl) (by kernel_rfl) ?_
      refine st_new tabOK hk ho #[.pointer none, .slice none 0 0] 32 6 (by kernel_rfl) ?_
      clear hk ho; intro a b7 w hk ho
      refine st_done ?_
      refine st_seq (C5 [1, 1, 1, 0]) (C5 [1, 1, 1, 1]) (by kernel_rfl) ?_
      refine st_block 1 (C5 [1, 1, 1, 0, 0]) (by kernel_rfl) ?_
      refine st_loop (C5 [1, 1, 1, 0, 0, 0]) (by kernel_rfl) ?_
      refine st_seq (C5 [1, 1, 1, 0, 0, 0, 0]) (C5 [1, 1, 1, 0, 0, 0, 1]) (by kernel_rfl) ?_
      refine st_seq (C5 [1, 1, 1, 0, 0, 0, 0, 0]) (C5 [1, 1, 1, 0, 0, 0, 0, 1]) (by kernel_rfl) ?_
      refine st_region 6 (opsOf (C5 [1, 1, 1, 0, 0, 0, 0, 0])) [0, 1] (by kernel_rfl) (by kernel_rfl) ?_
      refine st_pure tabOK hk [0, 1] [] [0, 1, 6, 16] [(0, S p0), (1, I p1), (6, .pointer (some ⟨b7, 0, none⟩)), (16, .bool (!(p0 == ([]))))] (True) (by kernel_rfl) trivial ?_
      clear hk; intro a hk
      refine st_done ?_
      refine st_cond hk (C5 [1, 1, 1, 0, 0, 0, 0, 1, 0]) (C5 [1, 1, 1, 0, 0, 0, 0, 1, 1]) (.tmp 16) (!(p0 == ([]))) (by kernel_rfl) (by kernel_rfl) (fun h8 => ?_) (fun h8 => ?_)
      ·
        have h9 : (!(p0 == ([]))) = true := h8
        rw [if_pos h9] at H
        refine st_skip (by kernel_rfl) ?_
        refine st_block 2 (C5 [1, 1, 1, 0, 0, 0, 1, 0]) (by kernel_rfl) ?_
        refine st_seq (C5 [1, 1, 1, 0, 0, 0, 1, 0, 0]) (C5 [1, 1, 1, 0, 0, 0, 1, 0, 1]) (by kernel_rfl) ?_
        refine st_region 7 (opsOf (C5 [1, 1, 1, 0, 0, 0, 1, 0, 0])) [0, 1, 2, 3, 4] (by kernel_rfl) (by kernel_rfl) ?_
        refine st_pure tabOK hk [0, 1, 2, 3, 4] [] [0, 1, 6, 7] [(0, S p0), (1, I p1), (6, .pointer (some ⟨b7, 0, none⟩)), (7, I (mnI p1 (p0.length : Int)))] (True) (by kernel_rfl) trivial ?_
        clear hk; intro a hk
        refine st_done ?_
        refine st_seq (C5 [1, 1, 1, 0, 0, 0, 1, 0, 1, 0]) (C5 [1, 1, 1, 0, 0, 0, 1, 0, 1, 1]) (by kernel_rfl) ?_
        refine st_draw ho 8 (opsOf (C5 [1, 1, 1, 0, 0, 0, 1, 0, 1, 0])) [0, 1, 2, 3, 4, 5, 6, 7, 8] (by kernel_rfl) (by kernel_rfl) (by kernel_rfl) ?_
        clear ho; intro w ho
        have h10 : (0 : Int) ≤ mnI p1 (p0.length : Int) := by
          by_cases h10 : (0 : Int) ≤ mnI p1 (p0.length : Int)
          · exact h10
          · rw [if_neg h10] at H; cases H
        rw [if_pos h10] at H
        have h11 : mnI p1 (p0.length : Int) ≤ (p0.length : Int) := by
          by_cases h11 : mnI p1 (p0.length : Int) ≤ (p0.length : Int)
          · exact h11
          · rw [if_neg h11] at H; cases H
        rw [if_pos h11] at H
        refine any_pure tabOK hk [0, 3, 4, 5] [0, 1, 2, 3, 4, 5, 6, 7, 8] [1, 2, 6, 7, 8] [0, 1, 6, 7, 21, 26] [(0, S p0), (1, I p1), (6, .pointer (some ⟨b7, 0, none⟩)), (7, I (mnI p1 (p0.length : Int))), (21, I (mnI p1 (p0.length : Int))), (26, S (p0.take (mnI p1 (p0.length : Int)).toNat))] (((0 : Int) ≤ mnI p1 (p0.length : Int) ∧ mnI p1 (p0.length : Int) ≤ (p0.length : Int)) ∧ True) (by kernel_rfl) (by kernel_rfl) (by kernel_rfl) ⟨⟨h10, h11⟩, trivial⟩ ?_
        clear hk; intro a hk
        refine any_all [1] (by kernel_rfl) (by decide) ⟨?_, trivial⟩
        change wpOps _ _ _ [1] _ _
        obtain ⟨t12, h13, H⟩ := Option.bind_eq_some_iff.1 H
        refine st_call hk 10 [I (mnI p1 (p0.length : Int)), I 16] (some 22) enters10 (by kernel_rfl) (strconv_FormatInt_16.ok K  (mnI p1 (p0.length : Int)) t12 h13 w (hg.of ho)) ?_
        clear hk; rintro a u w ⟨rfl, ho'⟩ hk
        replace ho : Ows [] w0 w [.blk b7 (.cells #[.pointer none, .slice none 0 0] 32 (0, 0))] := ho.call ho'; clear ho'
        refine any_go [2, 6, 7, 8] (by kernel_rfl) ?_
        have h14 : t12.length + ([13, 10]).length ≤ maxI := by
          by_cases h14 : t12.length + ([13, 10]).length ≤ maxI
          · exact h14
          · rw [if_neg h14] at H; cases H
        rw [if_pos h14] at H
        have h15 : (t12 ++ ([13, 10])).length + (p0.take (mnI p1 (p0.length : Int)).toNat).length ≤ maxI := by
          by_cases h15 : (t12 ++ ([13, 10])).length + (p0.take (mnI p1 (p0.length : Int)).toNat).length ≤ maxI
          · exact h15
          · rw [if_neg h15] at H; cases H
        rw [if_pos h15] at H
        have h16 : ((t12 ++ ([13, 10])) ++ (p0.take (mnI p1 (p0.length : Int)).toNat)).length + ([13, 10]).length ≤ maxI := by
          by_cases h16 : ((t12 ++ ([13, 10])) ++ (p0.take (mnI p1 (p0.length : Int)).toNat)).length + ([13, 10]).length ≤ maxI
          · exact h16
          · rw [if_neg h16] at H; cases H
        rw [if_pos h16] at H
        refine any_pure tabOK hk [2, 6, 7] [2, 6, 7, 8] [8] [0, 1, 6, 7, 28] [(0, S p0), (1, I p1), (6, .pointer (some ⟨b7, 0, none⟩)), (7, I (mnI p1 (p0.length : Int))), (28, S (((t12 ++ ([13, 10])) ++ (p0.take (mnI p1 (p0.length : Int)).toNat)) ++ ([13, 10])))] (t12.length + ([13, 10]).length ≤ maxI ∧ ((t12 ++ ([13, 10])).length + (p0.take (mnI p1 (p0.length : Int)).toNat).length ≤ maxI ∧ (((t12 ++ ([13, 10])) ++ (p0.take (mnI p1 (p0.length : Int)).toNat)).length + ([13, 10]).length ≤ maxI ∧ True))) (by kernel_rfl) (by kernel_rfl) (by kernel_rfl) ⟨h14, ⟨h15, ⟨h16, trivial⟩⟩⟩ ?_
        clear hk; intro a hk
        refine any_all [8] (by kernel_rfl) (by decide) ⟨?_, trivial⟩
        change wpOps _ _ _ [8] _ _
        obtain ⟨t17, h18, H⟩ := Option.bind_eq_some_iff.1 H
        refine st_call hk 9 [.pointer (some ⟨b7, 0, none⟩), S (((t12 ++ ([13, 10])) ++ (p0.take (mnI p1 (p0.length : Int)).toNat)) ++ ([13, 10]))] (some 29) enters9 (by kernel_rfl) (strings_Builder_WriteString_pnsn.ok  (((t12 ++ ([13, 10])) ++ (p0.take (mnI p1 (p0.length : Int)).toNat)) ++ ([13, 10])) t17 h18 w b7 (Ows.has (K := [.blk b7 (.cells #[.pointer none, .slice none 0 0] 32 (0, 0))]) (L := []) ho)) ?_
        clear hk; rintro a u w ⟨o19, c20, rfl, ho'⟩ hk
        replace ho : Ows [] w0 w [.blk b7 (.cells #[.pointer (some ⟨b7, 0, none⟩), .slice o19 t17.2.length c20] 32 (0, 0)), .row 1 5 1 (.slice o19 t17.2.length c20) t17.2.length (t17.2.map bV)] := Ows.callP (K := [.blk b7 (.cells #[.pointer none, .slice none 0 0] 32 (0, 0))]) (L := []) ho ho' rfl; clear ho'
        refine any_go [] (by kernel_rfl) ?_
        refine any_end ?_
        refine st_region 9 (opsOf (C5 [1, 1, 1, 0, 0, 0, 1, 0, 1, 1])) [0, 1, 2, 3] (by kernel_rfl) (by kernel_rfl) ?_
        refine st_pure tabOK hk [0, 1, 2, 3] [] [0, 1, 6] [(0, S (p0.drop (mnI p1 (p0.length : Int)).toNat)), (1, I p1), (6, .pointer (some ⟨b7, 0, none⟩))] (((0 : Int) ≤ mnI p1 (p0.length : Int) ∧ mnI p1 (p0.length : Int) ≤ (p0.length : Int)) ∧ True) (by kernel_rfl) ⟨⟨h10, h11⟩, trivial⟩ ?_
        clear hk; intro a hk
        refine st_done ?_
        refine st_endb 2 ?_
        obtain ⟨m43, h44, H⟩ := Option.bind_eq_some_iff.1 H
        refine st_inl ?_
        refine chunk_Encode.l0_ok K K p1 t17.2 (p0.drop (mnI p1 (p0.length : Int)).toNat) m43 h44 b7 o19 c20 w0 hg _ _ a w  (hk.to [0, 1, 6] _ (by kernel_rfl)) ho ?_
        · intro s45 o46 c47 a w e hk ho; have e := e.symm; subst e
          refine st_seq (C5 [1, 1, 1, 1, 0]) (C5 [1, 1, 1, 1, 1]) (by kernel_rfl) ?_
          refine st_region 10 (opsOf (C5 [1, 1, 1, 1, 0])) [0, 1, 2, 3, 4, 5] (by kernel_rfl) (by kernel_rfl) ?_
          obtain ⟨t48, h49, H⟩ := Option.bind_eq_some_iff.1 H
          refine st_call hk 11 [.pointer (some ⟨b7, 0, none⟩)] (some 33) enters11 (by kernel_rfl) (strings_Builder_String_ps0t.ok  s45 t48 h49 w b7 o46 c47 (Ows.has (K := [.blk b7 (.cells #[.pointer (some ⟨b7, 0, none⟩), .slice o46 s45.length c47] 32 (0, 0)), .row 1 5 1 (.slice o46 s45.length c47) s45.length (s45.map bV)]) (L := []) ho)) ?_
          clear hk; rintro a u w ⟨rfl, ho'⟩ hk
          replace ho : Ows [] w0 w [.blk b7 (.cells #[.pointer (some ⟨b7, 0, none⟩), .slice o46 s45.length c47] 32 (0, 0))] := Ows.callP (K := [.blk b7 (.cells #[.pointer (some ⟨b7, 0, none⟩), .slice o46 s45.length c47] 32 (0, 0)), .row 1 5 1 (.slice o46 s45.length c47) s45.length (s45.map bV)]) (L := []) ho ho' rfl; clear ho'
          have h50 : t48.length + ([48]).length ≤ maxI := by
            by_cases h50 : t48.length + ([48]).length ≤ maxI
            · exact h50
            · rw [if_neg h50] at H; cases H
          rw [if_pos h50] at H
          have h51 : (t48 ++ ([48])).length + ([13, 10]).length ≤ maxI := by
            by_cases h51 : (t48 ++ ([48])).length + ([13, 10]).length ≤ maxI
            · exact h51
            · rw [if_neg h51] at H; cases H
          rw [if_pos h51] at H
          have h52 : ((t48 ++ ([48])) ++ ([13, 10])).length + ([13, 10]).length ≤ maxI := by
            by_cases h52 : ((t48 ++ ([48])) ++ ([13, 10])).length + ([13, 10]).length ≤ maxI
            · exact h52
            · rw [if_neg h52] at H; cases H
          rw [if_pos h52] at H
          refine st_pure tabOK hk [1, 2, 3, 4, 5] [] [4, 5] [(4, S (((t48 ++ ([48])) ++ ([13, 10])) ++ ([13, 10]))), (5, I 0)] (t48.length + ([48]).length ≤ maxI ∧ ((t48 ++ ([48])).length + ([13, 10]).length ≤ maxI ∧ (((t48 ++ ([48])) ++ ([13, 10])).length + ([13, 10]).length ≤ maxI ∧ True))) (by kernel_rfl) ⟨h50, ⟨h51, ⟨h52, trivial⟩⟩⟩ ?_
          clear hk; intro a hk
          refine st_done ?_
          replace ho : Ows [] w0 w [] := ho.erase 0
          refine st_retG hk (by kernel_rfl) [S (((t48 ++ ([48])) ++ ([13, 10])) ++ ([13, 10])), I 0] #[.tmp 4, .tmp 5] (by kernel_rfl) ⟨resT hk (by kernel_rfl), resT hk (by kernel_rfl), trivial⟩ ?_
          obtain rfl := Option.some.inj H
          exact ⟨_, rfl, rfl, ho⟩
      ·
        have h53 : ¬ ((!(p0 == ([]))) = true) := ne_true_of_eq_false h8
        rw [if_neg h53] at H
        refine st_exit 1 _ (by kernel_rfl) rfl ?_
        refine st_seq (C5 [1, 1, 1, 1, 0]) (C5 [1, 1, 1, 1, 1]) (by kernel_rfl) ?_
        refine st_region 10 (opsOf (C5 [1, 1, 1, 1, 0])) [0, 1, 2, 3, 4, 5] (by kernel_rfl) (by kernel_rfl) ?_
        obtain ⟨t54, h55, H⟩ := Option.bind_eq_some_iff.1 H
        refine st_call hk 11 [.pointer (some ⟨b7, 0, none⟩)] (some 33) enters11 (by kernel_rfl) (strings_Builder_String_pnsn.ok   t54 h55 w b7 (Ows.has (K := [.blk b7 (.cells #[.pointer none, .slice none 0 0] 32 (0, 0))]) (L := []) ho)) ?_
        clear hk; rintro a u w ⟨rfl, ho'⟩ hk
        replace ho : Ows [] w0 w [.blk b7 (.cells #[.pointer none, .slice none 0 0] 32 (0, 0))] := Ows.callP (K := [.blk b7 (.cells #[.pointer none, .slice none 0 0] 32 (0, 0))]) (L := []) ho ho' rfl; clear ho'
        have h56 : t54.length + ([48]).length ≤ maxI := by
          by_cases h56 : t54.length + ([48]).length ≤ maxI
          · exact h56
          · rw [if_neg h56] at H; cases H
        rw [if_pos h56] at H
        have h57 : (t54 ++ ([48])).length + ([13, 10]).length ≤ maxI := by
          by_cases h57 : (t54 ++ ([48])).length + ([13, 10]).length ≤ maxI
          · exact h57
          · rw [if_neg h57] at H; cases H
        rw [if_pos h57] at H
        have h58 : ((t54 ++ ([48])) ++ ([13, 10])).length + ([13, 10]).length ≤ maxI := by
          by_cases h58 : ((t54 ++ ([48])) ++ ([13, 10])).length + ([13, 10]).length ≤ maxI
          · exact h58
          · rw [if_neg h58] at H; cases H
        rw [if_pos h58] at H
        refine st_pure tabOK hk [1, 2, 3, 4, 5] [] [4, 5] [(4, S (((t54 ++ ([48])) ++ ([13, 10])) ++ ([13, 10]))), (5, I 0)] (t54.length + ([48]).length ≤ maxI ∧ ((t54 ++ ([48])).length + ([13, 10]).length ≤ maxI ∧ (((t54 ++ ([48])) ++ ([13, 10])).length + ([13, 10]).length ≤ maxI ∧ True))) (by kernel_rfl) ⟨h56, ⟨h57, ⟨h58, trivial⟩⟩⟩ ?_
        clear hk; intro a hk
        refine st_done ?_
        replace ho : Ows [] w0 w [] := ho.erase 0
        refine st_retG hk (by kernel_rfl) [S (((t54 ++ ([48])) ++ ([13, 10])) ++ ([13, 10])), I 0] #[.tmp 4, .tmp 5] (by kernel_rfl) ⟨resT hk (by kernel_rfl), resT hk (by kernel_rfl), trivial⟩ ?_
        obtain rfl := Option.some.inj H
        exact ⟨_, rfl, rfl, ho⟩


/-! internal/stringslite.IndexByte: function 84 -/
noncomputable def C84 (p : List Nat) : Code := Sub (bodyOf f84) p
def stringslite_IndexByte.f (p0 : Str) (p1 : Int) : Option (Int) := some (Lib.indexByte p0 p1.toNat.toUInt8)
abbrev stringslite_IndexByte.post (w0 : World) (r : Int) (u : Value) (w : World) : Prop := u = I r ∧ Ows [] w0 w []
theorem stringslite_IndexByte.ok (p0 : Str) (p1 : Int) (r : Int) (H : stringslite_IndexByte.f p0 p1 = some r) (w0 : World)  : Calls Tryz.prog 84 ⟨[S p0, .int .u8 p1]⟩ w0 fun e w => ∃ u, e = .returned u ∧ stringslite_IndexByte.post w0 r u w := by
  unfold stringslite_IndexByte.f at H
  refine st_start (N := 8) [S p0, .int .u8 p1] (C84 []) func84 (by kernel_rfl) (by kernel_rfl) (by kernel_rfl) ?_
  intro a w hk ho
  refine st_seq (C84 [0]) (C84 [1]) (by kernel_rfl) ?_
  refine st_region 0 (opsOf (C84 [0])) [0] (by kernel_rfl) (by kernel_rfl) ?_
  refine st_pure tabOK hk [0] [] [0, 1] [(0, S p0), (1, .int .u8 p1)] (True) (by kernel_rfl) trivial ?_
  clear hk; intro a hk
  refine st_done ?_
  refine st_seq (C84 [1, 0]) (C84 [1, 1]) (by kernel_rfl) ?_
  refine st_region 1 (opsOf (C84 [1, 0])) [0, 1, 2, 3] (by kernel_rfl) (by kernel_rfl) ?_
  refine st_pure tabOK hk [0, 1] [2, 3] [5, 6] [(5, S p0), (6, .int .u8 p1)] (True) (by kernel_rfl) trivial ?_
  clear hk; intro a hk
  refine st_ext hk 97 [S p0, .int .u8 p1] 7 ext97 (by kernel_rfl) (idx_run p0 p1 _) ?_
  clear hk; intro a hk
  refine st_pure tabOK hk [3] [] [4] [(4, I (Lib.indexByte p0 p1.toNat.toUInt8))] (True) (by kernel_rfl) trivial ?_
  clear hk; intro a hk
  refine st_done ?_
  refine st_retG hk (by kernel_rfl) [I (Lib.indexByte p0 p1.toNat.toUInt8)] #[.tmp 4] (by kernel_rfl) ⟨resT hk (by kernel_rfl), trivial⟩ ?_
  obtain rfl := Option.some.inj H
  exact ⟨_, rfl, rfl, ho⟩


/-! internal/stringslite.Index: function 64 -/
noncomputable def C64 (p : List Nat) : Code := Sub (bodyOf f64) p
def stringslite_Index.f (p0 : Str) (p1 : Str) : Option (Int) := (if (((p1.length : Int) == 0) || (p1 == p0)) = true then some 0 else (if ((p1.length : Int) == 1) = true then (if 0 < (p1.length : Int) then ((stringslite_IndexByte.f p0 (bt p1 0)).bind fun t10 => some t10) else none) else (if (p1.length : Int) ≥ (p0.length : Int) then some (-1) else none)))
abbrev stringslite_Index.post (w0 : World) (r : Int) (u : Value) (w : World) : Prop := u = I r ∧ Ows [] w0 w []
theorem stringslite_Index.ok (p0 : Str) (p1 : Str) (r : Int) (H : stringslite_Index.f p0 p1 = some r) (w0 : World)  : Calls Tryz.prog 64 ⟨[S p0, S p1]⟩ w0 fun e w => ∃ u, e = .returned u ∧ stringslite_Index.post w0 r u w := by
  unfold stringslite_Index.f at H
  refine st_start (N := 143) [S p0, S p1] (C64 []) func64 (by kernel_rfl) (by kernel_rfl) (by kernel_rfl) ?_
  intro a w hk ho
  refine st_seq (C64 [0]) (C64 [1]) (by kernel_rfl) ?_
  refine st_region 0 (opsOf (C64 [0])) [0] (by kernel_rfl) (by kernel_rfl) ?_
  refine st_pure tabOK hk [0] [] [0, 1] [(0, S p0), (1, S p1)] (True) (by kernel_rfl) trivial ?_
  clear hk; intro a hk
  refine st_done ?_
  refine st_seq (C64 [1, 0]) (C64 [1, 1]) (by kernel_rfl) ?_
  refine st_region 1 (opsOf (C64 [1, 0])) [0, 1, 2] (by kernel_rfl) (by kernel_rfl) ?_
  refine st_pure tabOK hk [0, 1, 2] [] [0, 1, 5] [(0, S p0), (1, S p1), (5, I (p1.length : Int))] (True) (by kernel_rfl) trivial ?_
  clear hk; intro a hk
  refine st_done ?_
  refine st_seq (C64 [1, 1, 0]) (C64 [1, 1, 1]) (by kernel_rfl) ?_
  refine st_block 0 (C64 [1, 1, 0, 0]) (by kernel_rfl) ?_
  refine st_seq (C64 [1, 1, 0, 0, 0]) (C64 [1, 1, 0, 0, 1]) (by kernel_rfl) ?_
  refine st_region 2 (opsOf (C64 [1, 1, 0, 0, 0])) [0, 1, 2, 3, 4, 5, 6, 7] (by kernel_rfl) (by kernel_rfl) ?_
  refine st_pure tabOK hk [0, 1, 2] [3, 4, 5, 6, 7] [0, 1, 5, 19] [(0, S p0), (1, S p1), (5, I (p1.length : Int)), (19, .bool ((p1.length : Int) == 0))] (True) (by kernel_rfl) trivial ?_
  clear hk; intro a hk
  refine cut_ops (fun a w => Kn 143 a [(0, S p0), (1, S p1), (5, I (p1.length : Int)), (16, .bool (((p1.length : Int) == 0) || (p1 == p0)))] ∧ Ows [] w0 w []) ?_ ?_
  · intro J
    rcases Bool.eq_false_or_eq_true ((p1.length : Int) == 0) with h1 | h1
    ·
      rw [h1] at hk
      have h2 : ((p1.length : Int) == 0) = true := h1
      refine st_pure tabOK hk [3, 4, 5, 6, 7] [] [0, 1, 5, 16] [(0, S p0), (1, S p1), (5, I (p1.length : Int)), (16, .bool true)] (True) (by kernel_rfl) trivial ?_
      clear hk; intro a hk
      refine st_done ?_
      have e : (((p1.length : Int) == 0) || (p1 == p0)) = true := by first | (simp only [h1]; done) | (simp only [h1]; rfl) | rfl | simp [h1]
      exact J a w ⟨by rw [e]; exact hk.to [0, 1, 5, 16] _ (by kernel_rfl), ho⟩
    ·
      rw [h1] at hk
      have h3 : ¬ (((p1.length : Int) == 0) = true) := ne_true_of_eq_false h1
      refine st_pure tabOK hk [3, 4, 5, 6, 7] [] [0, 1, 5, 16] [(0, S p0), (1, S p1), (5, I (p1.length : Int)), (16, .bool (p1 == p0))] (True) (by kernel_rfl) trivial ?_
      clear hk; intro a hk
      refine st_done ?_
      have e : (((p1.length : Int) == 0) || (p1 == p0)) = (p1 == p0) := by first | (simp only [h1]; done) | (simp only [h1]; rfl) | rfl | simp [h1]
      exact J a w ⟨by rw [e]; exact hk.to [0, 1, 5, 16] _ (by kernel_rfl), ho⟩
  · rintro a w ⟨hk, ho⟩
    refine st_cond hk (C64 [1, 1, 0, 0, 1, 0]) (C64 [1, 1, 0, 0, 1, 1]) (.tmp 16) ((((p1.length : Int) == 0) || (p1 == p0))) (by kernel_rfl) (by kernel_rfl) (fun h4 => ?_) (fun h4 => ?_)
    ·
      have h5 : (((p1.length : Int) == 0) || (p1 == p0)) = true := h4
      rw [if_pos h5] at H
      refine st_seq (C64 [1, 1, 0, 0, 1, 0, 0]) (C64 [1, 1, 0, 0, 1, 0, 1]) (by kernel_rfl) ?_
      refine st_region 3 (opsOf (C64 [1, 1, 0, 0, 1, 0, 0])) [0] (by kernel_rfl) (by kernel_rfl) ?_
      refine st_pure tabOK hk [0] [] [4] [(4, I 0)] (True) (by kernel_rfl) trivial ?_
      clear hk; intro a hk
      refine st_done ?_
      refine st_retG hk (by kernel_rfl) [I 0] #[.tmp 4] (by kernel_rfl) ⟨resT hk (by kernel_rfl), trivial⟩ ?_
      obtain rfl := Option.some.inj H
      exact ⟨_, rfl, rfl, ho⟩
    ·
      have h6 : ¬ ((((p1.length : Int) == 0) || (p1 == p0)) = true) := ne_true_of_eq_false h4
      rw [if_neg h6] at H
      refine st_seq (C64 [1, 1, 0, 0, 1, 1, 0]) (C64 [1, 1, 0, 0, 1, 1, 1]) (by kernel_rfl) ?_
      refine st_region 4 (opsOf (C64 [1, 1, 0, 0, 1, 1, 0])) [0, 1, 2] (by kernel_rfl) (by kernel_rfl) ?_
      refine st_pure tabOK hk [0, 1, 2] [] [0, 1, 5, 24] [(0, S p0), (1, S p1), (5, I (p1.length : Int)), (24, .bool ((p1.length : Int) == 1))] (True) (by kernel_rfl) trivial ?_
      clear hk; intro a hk
      refine st_done ?_
      refine st_cond hk (C64 [1, 1, 0, 0, 1, 1, 1, 0]) (C64 [1, 1, 0, 0, 1, 1, 1, 1]) (.tmp 24) ((p1.length : Int) == 1) (by kernel_rfl) (by kernel_rfl) (fun h7 => ?_) (fun h7 => ?_)
      ·
        have h8 : ((p1.length : Int) == 1) = true := h7
        rw [if_pos h8] at H
        refine st_seq (C64 [1, 1, 0, 0, 1, 1, 1, 0, 0]) (C64 [1, 1, 0, 0, 1, 1, 1, 0, 1]) (by kernel_rfl) ?_
        refine st_region 5 (opsOf (C64 [1, 1, 0, 0, 1, 1, 1, 0, 0])) [0, 1, 2, 3, 4] (by kernel_rfl) (by kernel_rfl) ?_
        have h9 : 0 < (p1.length : Int) := by
          by_cases h9 : 0 < (p1.length : Int)
          · exact h9
          · rw [if_neg h9] at H; cases H
        rw [if_pos h9] at H
        refine st_pure tabOK hk [0, 1, 2] [3, 4] [27, 29] [(27, S p0), (29, .int .u8 (bt p1 0))] (((0 : Int) ≤ 0 ∧ 0 < (p1.length : Int)) ∧ True) (by kernel_rfl) ⟨⟨(by decide), h9⟩, trivial⟩ ?_
        clear hk; intro a hk
        obtain ⟨t10, h11, H⟩ := Option.bind_eq_some_iff.1 H
        refine st_call hk 84 [S p0, .int .u8 (bt p1 0)] (some 30) enters84 (by kernel_rfl) (stringslite_IndexByte.ok  p0 (bt p1 0) t10 h11 w ) ?_
        clear hk; rintro a u w ⟨rfl, ho'⟩ hk
        replace ho : Ows [] w0 w [] := ho.call ho'; clear ho'
        refine st_pure tabOK hk [4] [] [4] [(4, I t10)] (True) (by kernel_rfl) trivial ?_
        clear hk; intro a hk
        refine st_done ?_
        refine st_retG hk (by kernel_rfl) [I t10] #[.tmp 4] (by kernel_rfl) ⟨resT hk (by kernel_rfl), trivial⟩ ?_
        obtain rfl := Option.some.inj H
        exact ⟨_, rfl, rfl, ho⟩
      ·
        have h12 : ¬ (((p1.length : Int) == 1) = true) := ne_true_of_eq_false h7
        rw [if_neg h12] at H
        refine st_seq (C64 [1, 1, 0, 0, 1, 1, 1, 1, 0]) (C64 [1, 1, 0, 0, 1, 1, 1, 1, 1]) (by kernel_rfl) ?_
        refine st_region 6 (opsOf (C64 [1, 1, 0, 0, 1, 1, 1, 1, 0])) [0, 1, 2, 3, 4] (by kernel_rfl) (by kernel_rfl) ?_
        refine st_pure tabOK hk [0, 1, 2, 3, 4] [] [0, 1, 5, 31] [(0, S p0), (1, S p1), (5, I (p1.length : Int)), (31, .bool (decide ((p1.length : Int) ≥ (p0.length : Int))))] (True) (by kernel_rfl) trivial ?_
        clear hk; intro a hk
        refine st_done ?_
        refine st_cond hk (C64 [1, 1, 0, 0, 1, 1, 1, 1, 1, 0]) (C64 [1, 1, 0, 0, 1, 1, 1, 1, 1, 1]) (.tmp 31) (decide ((p1.length : Int) ≥ (p0.length : Int))) (by kernel_rfl) (by kernel_rfl) (fun h13 => ?_) (fun h13 => ?_)
        ·
          have h14 : (p1.length : Int) ≥ (p0.length : Int) := of_decide_eq_true h13
          rw [if_pos h14] at H
          refine st_seq (C64 [1, 1, 0, 0, 1, 1, 1, 1, 1, 0, 0]) (C64 [1, 1, 0, 0, 1, 1, 1, 1, 1, 0, 1]) (by kernel_rfl) ?_
          refine st_region 7 (opsOf (C64 [1, 1, 0, 0, 1, 1, 1, 1, 1, 0, 0])) [0] (by kernel_rfl) (by kernel_rfl) ?_
          refine st_pure tabOK hk [0] [] [4] [(4, I (-1))] (True) (by kernel_rfl) trivial ?_
          clear hk; intro a hk
          refine st_done ?_
          refine st_retG hk (by kernel_rfl) [I (-1)] #[.tmp 4] (by kernel_rfl) ⟨resT hk (by kernel_rfl), trivial⟩ ?_
          obtain rfl := Option.some.inj H
          exact ⟨_, rfl, rfl, ho⟩
        ·
          have h15 : ¬ ((p1.length : Int) ≥ (p0.length : Int)) := of_decide_eq_false h13
          rw [if_neg h15] at H
          exact nomatch H


/-! internal/stringslite.Cut: function 41 -/
noncomputable def C41 (p : List Nat) : Code := Sub (bodyOf f41) p
def stringslite_Cut.f (p0 : Str) (p1 : Str) : Option (Str × Str × Bool) := (((stringslite_Index.f p0 p1).bind fun t1 => (if t1 ≥ 0 then (if (0 : Int) ≤ t1 then (if t1 ≤ (p0.length : Int) then (if (0 : Int) ≤ w64 (t1 + (p1.length : Int)) then (if w64 (t1 + (p1.length : Int)) ≤ (p0.length : Int) then some (p0.take t1.toNat, p0.drop (w64 (t1 + (p1.length : Int))).toNat, true) else none) else none) else none) else none) else some (p0, [], false))))
abbrev stringslite_Cut.post (w0 : World) (r : Str × Str × Bool) (u : Value) (w : World) : Prop := u = .tuple #[S r.1, S r.2.1, .bool r.2.2] ∧ Ows [] w0 w []
theorem stringslite_Cut.ok (p0 : Str) (p1 : Str) (r : Str × Str × Bool) (H : stringslite_Cut.f p0 p1 = some r) (w0 : World)  : Calls Tryz.prog 41 ⟨[S p0, S p1]⟩ w0 fun e w => ∃ u, e = .returned u ∧ stringslite_Cut.post w0 r u w := by
  unfold stringslite_Cut.f at H
  refine st_start (N := 23) [S p0, S p1] (C41 []) func41 (by kernel_rfl) (by kernel_rfl) (by kernel_rfl) ?_
  intro a w hk ho
  refine st_seq (C41 [0]) (C41 [1]) (by kernel_rfl) ?_
  refine st_region 0 (opsOf (C41 [0])) [0, 1, 2] (by kernel_rfl) (by kernel_rfl) ?_
  refine st_pure tabOK hk [0, 1, 2] [] [0, 1] [(0, S p0), (1, S p1)] (True) (by kernel_rfl) trivial ?_
  clear hk; intro a hk
  refine st_done ?_
  refine st_seq (C41 [1, 0]) (C41 [1, 1]) (by kernel_rfl) ?_
  refine st_seq (C41 [1, 0, 0]) (C41 [1, 0, 1]) (by kernel_rfl) ?_
  refine st_region 1 (opsOf (C41 [1, 0, 0])) [0, 1, 2, 3] (by kernel_rfl) (by kernel_rfl) ?_
  refine st_pure tabOK hk [0, 1] [2, 3] [0, 1, 8, 9] [(0, S p0), (1, S p1), (8, S p0), (9, S p1)] (True) (by kernel_rfl) trivial ?_
  clear hk; intro a hk
  obtain ⟨t1, h2, H⟩ := Option.bind_eq_some_iff.1 H
  refine st_call hk 64 [S p0, S p1] (some 10) enters64 (by kernel_rfl) (stringslite_Index.ok  p0 p1 t1 h2 w ) ?_
  clear hk; rintro a u w ⟨rfl, ho'⟩ hk
  replace ho : Ows [] w0 w [] := ho.call ho'; clear ho'
  refine st_pure tabOK hk [3] [] [0, 1, 7] [(0, S p0), (1, S p1), (7, I t1)] (True) (by kernel_rfl) trivial ?_
  clear hk; intro a hk
  refine st_done ?_
  refine st_seq (C41 [1, 0, 1, 0]) (C41 [1, 0, 1, 1]) (by kernel_rfl) ?_
  refine st_region 2 (opsOf (C41 [1, 0, 1, 0])) [0, 1] (by kernel_rfl) (by kernel_rfl) ?_
  refine st_pure tabOK hk [0, 1] [] [0, 1, 7, 12] [(0, S p0), (1, S p1), (7, I t1), (12, .bool (decide (t1 ≥ 0)))] (True) (by kernel_rfl) trivial ?_
  clear hk; intro a hk
  refine st_done ?_
  refine st_cond hk (C41 [1, 0, 1, 1, 0]) (C41 [1, 0, 1, 1, 1]) (.tmp 12) (decide (t1 ≥ 0)) (by kernel_rfl) (by kernel_rfl) (fun h3 => ?_) (fun h3 => ?_)
  ·
    have h4 : t1 ≥ 0 := of_decide_eq_true h3
    rw [if_pos h4] at H
    refine st_seq (C41 [1, 0, 1, 1, 0, 0]) (C41 [1, 0, 1, 1, 0, 1]) (by kernel_rfl) ?_
    refine st_draw ho 3 (opsOf (C41 [1, 0, 1, 1, 0, 0])) [0, 1, 2, 3, 4, 5, 6, 7, 8, 9, 10, 11] (by kernel_rfl) (by kernel_rfl) (by kernel_rfl) ?_
    clear ho; intro w ho
    have h5 : (0 : Int) ≤ t1 := by
      by_cases h5 : (0 : Int) ≤ t1
      · exact h5
      · rw [if_neg h5] at H; cases H
    rw [if_pos h5] at H
    have h6 : t1 ≤ (p0.length : Int) := by
      by_cases h6 : t1 ≤ (p0.length : Int)
      · exact h6
      · rw [if_neg h6] at H; cases H
    rw [if_pos h6] at H
    have h7 : (0 : Int) ≤ w64 (t1 + (p1.length : Int)) := by
      by_cases h7 : (0 : Int) ≤ w64 (t1 + (p1.length : Int))
      · exact h7
      · rw [if_neg h7] at H; cases H
    rw [if_pos h7] at H
    have h8 : w64 (t1 + (p1.length : Int)) ≤ (p0.length : Int) := by
      by_cases h8 : w64 (t1 + (p1.length : Int)) ≤ (p0.length : Int)
      · exact h8
      · rw [if_neg h8] at H; cases H
    rw [if_pos h8] at H
    refine any_pure tabOK hk [0, 1, 2, 3, 4, 5, 6, 7, 8, 9, 10, 11] [0, 1, 2, 3, 4, 5, 6, 7, 8, 9, 10, 11] [] [4, 5, 6] [(4, S (p0.take t1.toNat)), (5, S (p0.drop (w64 (t1 + (p1.length : Int))).toNat)), (6, .bool true)] (((0 : Int) ≤ t1 ∧ t1 ≤ (p0.length : Int)) ∧ (((0 : Int) ≤ w64 (t1 + (p1.length : Int)) ∧ w64 (t1 + (p1.length : Int)) ≤ (p0.length : Int)) ∧ True)) (by kernel_rfl) (by kernel_rfl) (by kernel_rfl) ⟨⟨h5, h6⟩, ⟨⟨h7, h8⟩, trivial⟩⟩ ?_
    clear hk; intro a hk
    refine any_end ?_
    refine st_retG hk (by kernel_rfl) [S (p0.take t1.toNat), S (p0.drop (w64 (t1 + (p1.length : Int))).toNat), .bool true] #[.tmp 4, .tmp 5, .tmp 6] (by kernel_rfl) ⟨resT hk (by kernel_rfl), resT hk (by kernel_rfl), resT hk (by kernel_rfl), trivial⟩ ?_
    obtain rfl := Option.some.inj H
    exact ⟨_, rfl, rfl, ho⟩
  ·
    have h9 : ¬ (t1 ≥ 0) := of_decide_eq_false h3
    rw [if_neg h9] at H
    refine st_skip (by kernel_rfl) ?_
    refine st_seq (C41 [1, 1, 0]) (C41 [1, 1, 1]) (by kernel_rfl) ?_
    refine st_region 4 (opsOf (C41 [1, 1, 0])) [0, 1, 2, 3] (by kernel_rfl) (by kernel_rfl) ?_
    refine st_pure tabOK hk [0, 1, 2, 3] [] [4, 5, 6] [(4, S p0), (5, S ([])), (6, .bool false)] (True) (by kernel_rfl) trivial ?_
    clear hk; intro a hk
    refine st_done ?_
    refine st_retG hk (by kernel_rfl) [S p0, S ([]), .bool false] #[.tmp 4, .tmp 5, .tmp 6] (by kernel_rfl) ⟨resT hk (by kernel_rfl), resT hk (by kernel_rfl), resT hk (by kernel_rfl), trivial⟩ ?_
    obtain rfl := Option.some.inj H
    exact ⟨_, rfl, rfl, ho⟩


/-! strings.Cut: function 22 -/
noncomputable def C22 (p : List Nat) : Code := Sub (bodyOf f22) p
def strings_Cut.f (p0 : Str) (p1 : Str) : Option (Str × Str × Bool) := (((stringslite_Cut.f p0 p1).bind fun t1 => some (t1.1, t1.2.1, t1.2.2)))
abbrev strings_Cut.post (w0 : World) (r : Str × Str × Bool) (u : Value) (w : World) : Prop := u = .tuple #[S r.1, S r.2.1, .bool r.2.2] ∧ Ows [] w0 w []
theorem strings_Cut.ok (p0 : Str) (p1 : Str) (r : Str × Str × Bool) (H : strings_Cut.f p0 p1 = some r) (w0 : World)  : Calls Tryz.prog 22 ⟨[S p0, S p1]⟩ w0 fun e w => ∃ u, e = .returned u ∧ strings_Cut.post w0 r u w := by
  unfold strings_Cut.f at H
  refine st_start (N := 13) [S p0, S p1] (C22 []) func22 (by kernel_rfl) (by kernel_rfl) (by kernel_rfl) ?_
  intro a w hk ho
  refine st_seq (C22 [0]) (C22 [1]) (by kernel_rfl) ?_
  refine st_region 0 (opsOf (C22 [0])) [0, 1, 2] (by kernel_rfl) (by kernel_rfl) ?_
  refine st_pure tabOK hk [0, 1, 2] [] [0, 1] [(0, S p0), (1, S p1)] (True) (by kernel_rfl) trivial ?_
  clear hk; intro a hk
  refine st_done ?_
  refine st_seq (C22 [1, 0]) (C22 [1, 1]) (by kernel_rfl) ?_
  refine st_region 1 (opsOf (C22 [1, 0])) [0, 1, 2, 3, 4, 5, 6, 7, 8] (by kernel_rfl) (by kernel_rfl) ?_
  refine st_pure tabOK hk [0, 1] [2, 3, 4, 5, 6, 7, 8] [7, 8] [(7, S p0), (8, S p1)] (True) (by kernel_rfl) trivial ?_
  clear hk; intro a hk
  obtain ⟨t1, h2, H⟩ := Option.bind_eq_some_iff.1 H
  refine st_call hk 41 [S p0, S p1] (some 9) enters41 (by kernel_rfl) (stringslite_Cut.ok  p0 p1 t1 h2 w ) ?_
  clear hk; rintro a u w ⟨rfl, ho'⟩ hk
  replace ho : Ows [] w0 w [] := ho.call ho'; clear ho'
  refine st_pure tabOK hk [3, 4, 5, 6, 7, 8] [] [4, 5, 6] [(4, S t1.1), (5, S t1.2.1), (6, .bool t1.2.2)] (True) (by kernel_rfl) trivial ?_
  clear hk; intro a hk
  refine st_done ?_
  refine st_retG hk (by kernel_rfl) [S t1.1, S t1.2.1, .bool t1.2.2] #[.tmp 4, .tmp 5, .tmp 6] (by kernel_rfl) ⟨resT hk (by kernel_rfl), resT hk (by kernel_rfl), resT hk (by kernel_rfl), trivial⟩ ?_
  obtain rfl := Option.some.inj H
  exact ⟨_, rfl, rfl, ho⟩


/-! internal/stringslite.HasSuffix: function 42 -/
noncomputable def C42 (p : List Nat) : Code := Sub (bodyOf f42) p
def stringslite_HasSuffix.f (p0 : Str) (p1 : Str) : Option (Bool) := ((((if (p0.length : Int) ≥ (p1.length : Int) then (if (0 : Int) ≤ w64 ((p0.length : Int) - (p1.length : Int)) then (if w64 ((p0.length : Int) - (p1.length : Int)) ≤ (p0.length : Int) then some ((p0.drop (w64 ((p0.length : Int) - (p1.length : Int))).toNat) == p1) else none) else none) else some false)).bind fun m1 => some m1))
abbrev stringslite_HasSuffix.post (w0 : World) (r : Bool) (u : Value) (w : World) : Prop := u = .bool r ∧ Ows [] w0 w []
theorem stringslite_HasSuffix.ok (p0 : Str) (p1 : Str) (r : Bool) (H : stringslite_HasSuffix.f p0 p1 = some r) (w0 : World)  : Calls Tryz.prog 42 ⟨[S p0, S p1]⟩ w0 fun e w => ∃ u, e = .returned u ∧ stringslite_HasSuffix.post w0 r u w := by
  unfold stringslite_HasSuffix.f at H
  refine st_start (N := 21) [S p0, S p1] (C42 []) func42 (by kernel_rfl) (by kernel_rfl) (by kernel_rfl) ?_
  intro a w hk ho
  refine st_seq (C42 [0]) (C42 [1]) (by kernel_rfl) ?_
  refine st_region 0 (opsOf (C42 [0])) [0] (by kernel_rfl) (by kernel_rfl) ?_
  refine st_pure tabOK hk [0] [] [0, 1] [(0, S p0), (1, S p1)] (True) (by kernel_rfl) trivial ?_
  clear hk; intro a hk
  refine st_done ?_
  refine st_seq (C42 [1, 0]) (C42 [1, 1]) (by kernel_rfl) ?_
  refine st_region 1 (opsOf (C42 [1, 0])) [0, 1, 2, 3, 4, 5, 6, 7, 8, 9, 10, 11, 12, 13, 14, 15, 16] (by kernel_rfl) (by kernel_rfl) ?_
  refine st_pure tabOK hk [0, 1, 2, 3, 4, 5] [6, 7, 8, 9, 10, 11, 12, 13, 14, 15, 16] [0, 1, 10] [(0, S p0), (1, S p1), (10, .bool (decide ((p0.length : Int) ≥ (p1.length : Int))))] (True) (by kernel_rfl) trivial ?_
  clear hk; intro a hk
  obtain ⟨m1, HX, H⟩ := Option.bind_eq_some_iff.1 H
  refine cut_ops (fun a w => Kn 21 a [(4, .bool m1)] ∧ Ows [] w0 w []) ?_ ?_
  · intro J; clear H; have H := HX; clear HX
    rcases Bool.eq_false_or_eq_true (decide ((p0.length : Int) ≥ (p1.length : Int))) with h2 | h2
    ·
      rw [h2] at hk
      have h3 : (p0.length : Int) ≥ (p1.length : Int) := of_decide_eq_true h2
      rw [if_pos h3] at H
      have h4 : (0 : Int) ≤ w64 ((p0.length : Int) - (p1.length : Int)) := by
        by_cases h4 : (0 : Int) ≤ w64 ((p0.length : Int) - (p1.length : Int))
        · exact h4
        · rw [if_neg h4] at H; cases H
      rw [if_pos h4] at H
      have h5 : w64 ((p0.length : Int) - (p1.length : Int)) ≤ (p0.length : Int) := by
        by_cases h5 : w64 ((p0.length : Int) - (p1.length : Int)) ≤ (p0.length : Int)
        · exact h5
        · rw [if_neg h5] at H; cases H
      rw [if_pos h5] at H
      refine st_pure tabOK hk [6, 7, 8, 9, 10, 11, 12, 13, 14, 15, 16] [] [4] [(4, .bool ((p0.drop (w64 ((p0.length : Int) - (p1.length : Int))).toNat) == p1))] (((0 : Int) ≤ w64 ((p0.length : Int) - (p1.length : Int)) ∧ w64 ((p0.length : Int) - (p1.length : Int)) ≤ (p0.length : Int)) ∧ True) (by kernel_rfl) ⟨⟨h4, h5⟩, trivial⟩ ?_
      clear hk; intro a hk
      refine st_done ?_
      obtain rfl := Option.some.inj H
      exact J a w ⟨hk.to [4] _ (by kernel_rfl), ho⟩
    ·
      rw [h2] at hk
      have h6 : ¬ ((p0.length : Int) ≥ (p1.length : Int)) := of_decide_eq_false h2
      rw [if_neg h6] at H
      refine st_pure tabOK hk [6, 7, 8, 9, 10, 11, 12, 13, 14, 15, 16] [] [4] [(4, .bool false)] (True) (by kernel_rfl) trivial ?_
      clear hk; intro a hk
      refine st_done ?_
      obtain rfl := Option.some.inj H
      exact J a w ⟨hk.to [4] _ (by kernel_rfl), ho⟩
  · clear HX; rintro a w ⟨hk, ho⟩
    refine st_retG hk (by kernel_rfl) [.bool m1] #[.tmp 4] (by kernel_rfl) ⟨resT hk (by kernel_rfl), trivial⟩ ?_
    obtain rfl := Option.some.inj H
    exact ⟨_, rfl, rfl, ho⟩


/-! strings.HasSuffix: function 23 -/
noncomputable def C23 (p : List Nat) : Code := Sub (bodyOf f23) p
def strings_HasSuffix.f (p0 : Str) (p1 : Str) : Option (Bool) := (((stringslite_HasSuffix.f p0 p1).bind fun t1 => some t1))
abbrev strings_HasSuffix.post (w0 : World) (r : Bool) (u : Value) (w : World) : Prop := u = .bool r ∧ Ows [] w0 w []
theorem strings_HasSuffix.ok (p0 : Str) (p1 : Str) (r : Bool) (H : strings_HasSuffix.f p0 p1 = some r) (w0 : World)  : Calls Tryz.prog 23 ⟨[S p0, S p1]⟩ w0 fun e w => ∃ u, e = .returned u ∧ strings_HasSuffix.post w0 r u w := by
  unfold strings_HasSuffix.f at H
  refine st_start (N := 8) [S p0, S p1] (C23 []) func23 (by kernel_rfl) (by kernel_rfl) (by kernel_rfl) ?_
  intro a w hk ho
  refine st_seq (C23 [0]) (C23 [1]) (by kernel_rfl) ?_
  refine st_region 0 (opsOf (C23 [0])) [0] (by kernel_rfl) (by kernel_rfl) ?_
  refine st_pure tabOK hk [0] [] [0, 1] [(0, S p0), (1, S p1)] (True) (by kernel_rfl) trivial ?_
  clear hk; intro a hk
  refine st_done ?_
  refine st_seq (C23 [1, 0]) (C23 [1, 1]) (by kernel_rfl) ?_
  refine st_region 1 (opsOf (C23 [1, 0])) [0, 1, 2, 3] (by kernel_rfl) (by kernel_rfl) ?_
  refine st_pure tabOK hk [0, 1] [2, 3] [5, 6] [(5, S p0), (6, S p1)] (True) (by kernel_rfl) trivial ?_
  clear hk; intro a hk
  obtain ⟨t1, h2, H⟩ := Option.bind_eq_some_iff.1 H
  refine st_call hk 42 [S p0, S p1] (some 7) enters42 (by kernel_rfl) (stringslite_HasSuffix.ok  p0 p1 t1 h2 w ) ?_
  clear hk; rintro a u w ⟨rfl, ho'⟩ hk
  replace ho : Ows [] w0 w [] := ho.call ho'; clear ho'
  refine st_pure tabOK hk [3] [] [4] [(4, .bool t1)] (True) (by kernel_rfl) trivial ?_
  clear hk; intro a hk
  refine st_done ?_
  refine st_retG hk (by kernel_rfl) [.bool t1] #[.tmp 4] (by kernel_rfl) ⟨resT hk (by kernel_rfl), trivial⟩ ?_
  obtain rfl := Option.some.inj H
  exact ⟨_, rfl, rfl, ho⟩


/-! scullery/chunk.line: function 13 -/
noncomputable def C13 (p : List Nat) : Code := Sub (bodyOf f13) p
def chunk_line.f (p0 : Str) : Option (Str × Str × Int) := (((strings_Cut.f p0 ([10])).bind fun t1 => (if ((!t1.2.2) && (decide ((p0.length : Int) > 2002))) = true then some ([], [], 4) else (if (!t1.2.2) = true then some ([], [], 3) else ((strings_HasSuffix.f t1.1 ([13])).bind fun t12 => (if (!t12) = true then some ([], [], 2) else (if (t1.1.length : Int) > 2001 then some ([], [], 4) else (if (0 : Int) ≤ w64 ((t1.1.length : Int) - 1) then (if w64 ((t1.1.length : Int) - 1) ≤ (t1.1.length : Int) then some (t1.1.take (w64 ((t1.1.length : Int) - 1)).toNat, t1.2.1, 0) else none) else none))))))))
abbrev chunk_line.post (w0 : World) (r : Str × Str × Int) (u : Value) (w : World) : Prop := u = .tuple #[S r.1, S r.2.1, I r.2.2] ∧ Ows [] w0 w []
theorem chunk_line.ok (p0 : Str) (r : Str × Str × Int) (H : chunk_line.f p0 = some r) (w0 : World)  : Calls Tryz.prog 13 ⟨[S p0]⟩ w0 fun e w => ∃ u, e = .returned u ∧ chunk_line.post w0 r u w := by
  unfold chunk_line.f at H
  refine st_start (N := 39) [S p0] (C13 []) func13 (by kernel_rfl) (by kernel_rfl) (by kernel_rfl) ?_
  intro a w hk ho
  refine st_seq (C13 [0]) (C13 [1]) (by kernel_rfl) ?_
  refine st_region 0 (opsOf (C13 [0])) [0, 1, 2] (by kernel_rfl) (by kernel_rfl) ?_
  refine st_pure tabOK hk [0, 1, 2] [] [0] [(0, S p0)] (True) (by kernel_rfl) trivial ?_
  clear hk; intro a hk
  refine st_done ?_
  refine st_seq (C13 [1, 0]) (C13 [1, 1]) (by kernel_rfl) ?_
  refine st_region 1 (opsOf (C13 [1, 0])) [0, 1, 2, 3, 4, 5, 6, 7, 8] (by kernel_rfl) (by kernel_rfl) ?_
  refine st_pure tabOK hk [0] [1, 2, 3, 4, 5, 6, 7, 8] [0, 9] [(0, S p0), (9, S p0)] (True) (by kernel_rfl) trivial ?_
  clear hk; intro a hk
  obtain ⟨t1, h2, H⟩ := Option.bind_eq_some_iff.1 H
  refine st_call hk 22 [S p0, S ([10])] (some 10) enters22 (by kernel_rfl) (strings_Cut.ok  p0 ([10]) t1 h2 w ) ?_
  clear hk; rintro a u w ⟨rfl, ho'⟩ hk
  replace ho : Ows [] w0 w [] := ho.call ho'; clear ho'
  refine st_pure tabOK hk [2, 3, 4, 5, 6, 7, 8] [] [0, 5, 6, 7] [(0, S p0), (5, S t1.1), (6, S t1.2.1), (7, .bool t1.2.2)] (True) (by kernel_rfl) trivial ?_
  clear hk; intro a hk
  refine st_done ?_
  refine st_seq (C13 [1, 1, 0]) (C13 [1, 1, 1]) (by kernel_rfl) ?_
  refine st_block 0 (C13 [1, 1, 0, 0]) (by kernel_rfl) ?_
  refine st_seq (C13 [1, 1, 0, 0, 0]) (C13 [1, 1, 0, 0, 1]) (by kernel_rfl) ?_
  refine st_region 2 (opsOf (C13 [1, 1, 0, 0, 0])) [0, 1, 2, 3, 4, 5, 6, 7] (by kernel_rfl) (by kernel_rfl) ?_
  refine st_pure tabOK hk [0, 1, 2] [3, 4, 5, 6, 7] [0, 5, 6, 7, 17] [(0, S p0), (5, S t1.1), (6, S t1.2.1), (7, .bool t1.2.2), (17, .bool (!t1.2.2))] (True) (by kernel_rfl) trivial ?_
  clear hk; intro a hk
  refine cut_ops (fun a w => Kn 39 a [(5, S t1.1), (6, S t1.2.1), (7, .bool t1.2.2), (14, .bool ((!t1.2.2) && (decide ((p0.length : Int) > 2002))))] ∧ Ows [] w0 w []) ?_ ?_
  · intro J
    rcases Bool.eq_false_or_eq_true (!t1.2.2) with h3 | h3
    ·
      rw [h3] at hk
      have h4 : (!t1.2.2) = true := h3
      refine st_pure tabOK hk [3, 4, 5, 6, 7] [] [5, 6, 7, 14] [(5, S t1.1), (6, S t1.2.1), (7, .bool t1.2.2), (14, .bool (decide ((p0.length : Int) > 2002)))] (True) (by kernel_rfl) trivial ?_
      clear hk; intro a hk
      refine st_done ?_
      have e : ((!t1.2.2) && (decide ((p0.length : Int) > 2002))) = (decide ((p0.length : Int) > 2002)) := by first | (simp only [h3]; done) | (simp only [h3]; rfl) | rfl | simp [h3]
      exact J a w ⟨by rw [e]; exact hk.to [5, 6, 7, 14] _ (by kernel_rfl), ho⟩
    ·
      rw [h3] at hk
      have h5 : ¬ ((!t1.2.2) = true) := ne_true_of_eq_false h3
      refine st_pure tabOK hk [3, 4, 5, 6, 7] [] [5, 6, 7, 14] [(5, S t1.1), (6, S t1.2.1), (7, .bool t1.2.2), (14, .bool false)] (True) (by kernel_rfl) trivial ?_
      clear hk; intro a hk
      refine st_done ?_
      have e : ((!t1.2.2) && (decide ((p0.length : Int) > 2002))) = false := by first | (simp only [h3]; done) | (simp only [h3]; rfl) | rfl | simp [h3]
      exact J a w ⟨by rw [e]; exact hk.to [5, 6, 7, 14] _ (by kernel_rfl), ho⟩
  · rintro a w ⟨hk, ho⟩
    refine st_cond hk (C13 [1, 1, 0, 0, 1, 0]) (C13 [1, 1, 0, 0, 1, 1]) (.tmp 14) (((!t1.2.2) && (decide ((p0.length : Int) > 2002)))) (by kernel_rfl) (by kernel_rfl) (fun h6 => ?_) (fun h6 => ?_)
    ·
      have h7 : ((!t1.2.2) && (decide ((p0.length : Int) > 2002))) = true := h6
      rw [if_pos h7] at H
      refine st_seq (C13 [1, 1, 0, 0, 1, 0, 0]) (C13 [1, 1, 0, 0, 1, 0, 1]) (by kernel_rfl) ?_
      refine st_region 3 (opsOf (C13 [1, 1, 0, 0, 1, 0, 0])) [0, 1, 2] (by kernel_rfl) (by kernel_rfl) ?_
      refine st_pure tabOK hk [0, 1, 2] [] [2, 3, 4] [(2, S ([])), (3, S ([])), (4, I 4)] (True) (by kernel_rfl) trivial ?_
      clear hk; intro a hk
      refine st_done ?_
      refine st_retG hk (by kernel_rfl) [S ([]), S ([]), I 4] #[.tmp 2, .tmp 3, .tmp 4] (by kernel_rfl) ⟨resT hk (by kernel_rfl), resT hk (by kernel_rfl), resT hk (by kernel_rfl), trivial⟩ ?_
      obtain rfl := Option.some.inj H
      exact ⟨_, rfl, rfl, ho⟩
    ·
      have h8 : ¬ (((!t1.2.2) && (decide ((p0.length : Int) > 2002))) = true) := ne_true_of_eq_false h6
      rw [if_neg h8] at H
      refine st_seq (C13 [1, 1, 0, 0, 1, 1, 0]) (C13 [1, 1, 0, 0, 1, 1, 1]) (by kernel_rfl) ?_
      refine st_region 4 (opsOf (C13 [1, 1, 0, 0, 1, 1, 0])) [0, 1, 2] (by kernel_rfl) (by kernel_rfl) ?_
      refine st_pure tabOK hk [0, 1, 2] [] [5, 6, 22] [(5, S t1.1), (6, S t1.2.1), (22, .bool (!t1.2.2))] (True) (by kernel_rfl) trivial ?_
      clear hk; intro a hk
      refine st_done ?_
      refine st_cond hk (C13 [1, 1, 0, 0, 1, 1, 1, 0]) (C13 [1, 1, 0, 0, 1, 1, 1, 1]) (.tmp 22) (!t1.2.2) (by kernel_rfl) (by kernel_rfl) (fun h9 => ?_) (fun h9 => ?_)
      ·
        have h10 : (!t1.2.2) = true := h9
        rw [if_pos h10] at H
        refine st_seq (C13 [1, 1, 0, 0, 1, 1, 1, 0, 0]) (C13 [1, 1, 0, 0, 1, 1, 1, 0, 1]) (by kernel_rfl) ?_
        refine st_region 5 (opsOf (C13 [1, 1, 0, 0, 1, 1, 1, 0, 0])) [0, 1, 2] (by kernel_rfl) (by kernel_rfl) ?_
        refine st_pure tabOK hk [0, 1, 2] [] [2, 3, 4] [(2, S ([])), (3, S ([])), (4, I 3)] (True) (by kernel_rfl) trivial ?_
        clear hk; intro a hk
        refine st_done ?_
        refine st_retG hk (by kernel_rfl) [S ([]), S ([]), I 3] #[.tmp 2, .tmp 3, .tmp 4] (by kernel_rfl) ⟨resT hk (by kernel_rfl), resT hk (by kernel_rfl), resT hk (by kernel_rfl), trivial⟩ ?_
        obtain rfl := Option.some.inj H
        exact ⟨_, rfl, rfl, ho⟩
      ·
        have h11 : ¬ ((!t1.2.2) = true) := ne_true_of_eq_false h9
        rw [if_neg h11] at H
        refine st_seq (C13 [1, 1, 0, 0, 1, 1, 1, 1, 0]) (C13 [1, 1, 0, 0, 1, 1, 1, 1, 1]) (by kernel_rfl) ?_
        refine st_region 6 (opsOf (C13 [1, 1, 0, 0, 1, 1, 1, 1, 0])) [0, 1, 2, 3] (by kernel_rfl) (by kernel_rfl) ?_
        refine st_pure tabOK hk [0] [1, 2, 3] [5, 6, 26] [(5, S t1.1), (6, S t1.2.1), (26, S t1.1)] (True) (by kernel_rfl) trivial ?_
        clear hk; intro a hk
        obtain ⟨t12, h13, H⟩ := Option.bind_eq_some_iff.1 H
        refine st_call hk 23 [S t1.1, S ([13])] (some 27) enters23 (by kernel_rfl) (strings_HasSuffix.ok  t1.1 ([13]) t12 h13 w ) ?_
        clear hk; rintro a u w ⟨rfl, ho'⟩ hk
        replace ho : Ows [] w0 w [] := ho.call ho'; clear ho'
        refine st_pure tabOK hk [2, 3] [] [5, 6, 25] [(5, S t1.1), (6, S t1.2.1), (25, .bool (!t12))] (True) (by kernel_rfl) trivial ?_
        clear hk; intro a hk
        refine st_done ?_
        refine st_cond hk (C13 [1, 1, 0, 0, 1, 1, 1, 1, 1, 0]) (C13 [1, 1, 0, 0, 1, 1, 1, 1, 1, 1]) (.tmp 25) (!t12) (by kernel_rfl) (by kernel_rfl) (fun h14 => ?_) (fun h14 => ?_)
        ·
          have h15 : (!t12) = true := h14
          rw [if_pos h15] at H
          refine st_seq (C13 [1, 1, 0, 0, 1, 1, 1, 1, 1, 0, 0]) (C13 [1, 1, 0, 0, 1, 1, 1, 1, 1, 0, 1]) (by kernel_rfl) ?_
          refine st_region 7 (opsOf (C13 [1, 1, 0, 0, 1, 1, 1, 1, 1, 0, 0])) [0, 1, 2] (by kernel_rfl) (by kernel_rfl) ?_
          refine st_pure tabOK hk [0, 1, 2] [] [2, 3, 4] [(2, S ([])), (3, S ([])), (4, I 2)] (True) (by kernel_rfl) trivial ?_
          clear hk; intro a hk
          refine st_done ?_
          refine st_retG hk (by kernel_rfl) [S ([]), S ([]), I 2] #[.tmp 2, .tmp 3, .tmp 4] (by kernel_rfl) ⟨resT hk (by kernel_rfl), resT hk (by kernel_rfl), resT hk (by kernel_rfl), trivial⟩ ?_
          obtain rfl := Option.some.inj H
          exact ⟨_, rfl, rfl, ho⟩
        ·
          have h16 : ¬ ((!t12) = true) := ne_true_of_eq_false h14
          rw [if_neg h16] at H
          refine st_seq (C13 [1, 1, 0, 0, 1, 1, 1, 1, 1, 1, 0]) (C13 [1, 1, 0, 0, 1, 1, 1, 1, 1, 1, 1]) (by kernel_rfl) ?_
          refine st_region 8 (opsOf (C13 [1, 1, 0, 0, 1, 1, 1, 1, 1, 1, 0])) [0, 1, 2, 3] (by kernel_rfl) (by kernel_rfl) ?_
          refine st_pure tabOK hk [0, 1, 2, 3] [] [5, 6, 29] [(5, S t1.1), (6, S t1.2.1), (29, .bool (decide ((t1.1.length : Int) > 2001)))] (True) (by kernel_rfl) trivial ?_
          clear hk; intro a hk
          refine st_done ?_
          refine st_cond hk (C13 [1, 1, 0, 0, 1, 1, 1, 1, 1, 1, 1, 0]) (C13 [1, 1, 0, 0, 1, 1, 1, 1, 1, 1, 1, 1]) (.tmp 29) (decide ((t1.1.length : Int) > 2001)) (by kernel_rfl) (by kernel_rfl) (fun h17 => ?_) (fun h17 => ?_)
          ·
            have h18 : (t1.1.length : Int) > 2001 := of_decide_eq_true h17
            rw [if_pos h18] at H
            refine st_seq (C13 [1, 1, 0, 0, 1, 1, 1, 1, 1, 1, 1, 0, 0]) (C13 [1, 1, 0, 0, 1, 1, 1, 1, 1, 1, 1, 0, 1]) (by kernel_rfl) ?_
            refine st_region 9 (opsOf (C13 [1, 1, 0, 0, 1, 1, 1, 1, 1, 1, 1, 0, 0])) [0, 1, 2] (by kernel_rfl) (by kernel_rfl) ?_
            refine st_pure tabOK hk [0, 1, 2] [] [2, 3, 4] [(2, S ([])), (3, S ([])), (4, I 4)] (True) (by kernel_rfl) trivial ?_
            clear hk; intro a hk
            refine st_done ?_
            refine st_retG hk (by kernel_rfl) [S ([]), S ([]), I 4] #[.tmp 2, .tmp 3, .tmp 4] (by kernel_rfl) ⟨resT hk (by kernel_rfl), resT hk (by kernel_rfl), resT hk (by kernel_rfl), trivial⟩ ?_
            obtain rfl := Option.some.inj H
            exact ⟨_, rfl, rfl, ho⟩
          ·
            have h19 : ¬ ((t1.1.length : Int) > 2001) := of_decide_eq_false h17
            rw [if_neg h19] at H
            refine st_skip (by kernel_rfl) ?_
            refine st_endb 0 ?_
            refine st_seq (C13 [1, 1, 1, 0]) (C13 [1, 1, 1, 1]) (by kernel_rfl) ?_
            refine st_region 10 (opsOf (C13 [1, 1, 1, 0])) [0, 1, 2, 3, 4, 5, 6, 7, 8] (by kernel_rfl) (by kernel_rfl) ?_
            have h20 : (0 : Int) ≤ w64 ((t1.1.length : Int) - 1) := by
              by_cases h20 : (0 : Int) ≤ w64 ((t1.1.length : Int) - 1)
              · exact h20
              · rw [if_neg h20] at H; cases H
            rw [if_pos h20] at H
            have h21 : w64 ((t1.1.length : Int) - 1) ≤ (t1.1.length : Int) := by
              by_cases h21 : w64 ((t1.1.length : Int) - 1) ≤ (t1.1.length : Int)
              · exact h21
              · rw [if_neg h21] at H; cases H
            rw [if_pos h21] at H
            refine st_pure tabOK hk [0, 1, 2, 3, 4, 5, 6, 7, 8] [] [2, 3, 4] [(2, S (t1.1.take (w64 ((t1.1.length : Int) - 1)).toNat)), (3, S t1.2.1), (4, I 0)] (((0 : Int) ≤ w64 ((t1.1.length : Int) - 1) ∧ w64 ((t1.1.length : Int) - 1) ≤ (t1.1.length : Int)) ∧ True) (by kernel_rfl) ⟨⟨h20, h21⟩, trivial⟩ ?_
            clear hk; intro a hk
            refine st_done ?_
            refine st_retG hk (by kernel_rfl) [S (t1.1.take (w64 ((t1.1.length : Int) - 1)).toNat), S t1.2.1, I 0] #[.tmp 2, .tmp 3, .tmp 4] (by kernel_rfl) ⟨resT hk (by kernel_rfl), resT hk (by kernel_rfl), resT hk (by kernel_rfl), trivial⟩ ?_
            obtain rfl := Option.some.inj H
            exact ⟨_, rfl, rfl, ho⟩


/-! internal/strconv.lower: function 90 -/
noncomputable def C90 (p : List Nat) : Code := Sub (bodyOf f90) p
def strconv_lower.f (p0 : Int) : Option (Int) := some (bitI .or .u8 p0 32)
abbrev strconv_lower.post (w0 : World) (r : Int) (u : Value) (w : World) : Prop := u = .int .u8 r ∧ Ows [] w0 w []
theorem strconv_lower.ok (p0 : Int) (r : Int) (H : strconv_lower.f p0 = some r) (w0 : World)  : Calls Tryz.prog 90 ⟨[.int .u8 p0]⟩ w0 fun e w => ∃ u, e = .returned u ∧ strconv_lower.post w0 r u w := by
  unfold strconv_lower.f at H
  refine st_start (N := 5) [.int .u8 p0] (C90 []) func90 (by kernel_rfl) (by kernel_rfl) (by kernel_rfl) ?_
  intro a w hk ho
  refine st_seq (C90 [0]) (C90 [1]) (by kernel_rfl) ?_
  refine st_region 0 (opsOf (C90 [0])) [0] (by kernel_rfl) (by kernel_rfl) ?_
  refine st_pure tabOK hk [0] [] [0] [(0, .int .u8 p0)] (True) (by kernel_rfl) trivial ?_
  clear hk; intro a hk
  refine st_done ?_
  refine st_seq (C90 [1, 0]) (C90 [1, 1]) (by kernel_rfl) ?_
  refine st_region 1 (opsOf (C90 [1, 0])) [0, 1, 2] (by kernel_rfl) (by kernel_rfl) ?_
  refine st_pure tabOK hk [0, 1, 2] [] [2] [(2, .int .u8 (bitI .or .u8 p0 32))] (True) (by kernel_rfl) trivial ?_
  clear hk; intro a hk
  refine st_done ?_
  refine st_retG hk (by kernel_rfl) [.int .u8 (bitI .or .u8 p0 32)] #[.tmp 2] (by kernel_rfl) ⟨resT hk (by kernel_rfl), trivial⟩ ?_
  obtain rfl := Option.some.inj H
  exact ⟨_, rfl, rfl, ho⟩


/-! internal/strconv.underscoreOK: function 91 -/
noncomputable def C91 (p : List Nat) : Code := Sub (bodyOf f91) p
def strconv_underscoreOK.l0 : Nat → Str → Int → Int → Bool → Option ((Int) ⊕ (Bool))
  | 0, _, _, _, _ => none
  | k + 1, m9, v42, v43, v44 => (if v43 < (m9.length : Int) then (if (0 : Int) ≤ v43 then (((if 48 ≤ bt m9 v43 then (if bt m9 v43 ≤ 57 then some (v44, true) else (if v44 = true then ((strconv_lower.f (bt m9 v43)).bind fun t56 => (if 97 ≤ t56 then ((strconv_lower.f (bt m9 v43)).bind fun t60 => some (true, decide (t60 ≤ 102))) else some (true, false))) else some (false, false))) else (if v44 = true then ((strconv_lower.f (bt m9 v43)).bind fun t67 => (if 97 ≤ t67 then ((strconv_lower.f (bt m9 v43)).bind fun t71 => some (true, decide (t71 ≤ 102))) else some (true, false))) else some (false, false)))).bind fun m48 => (if m48.2 = true then strconv_underscoreOK.l0 k m9 48 (w64 (v43 + 1)) m48.1 else (if ((bt m9 v43) == 95) = true then (if (v42 != 48) = true then some (.inr false) else strconv_underscoreOK.l0 k m9 95 (w64 (v43 + 1)) m48.1) else (if (v42 == 95) = true then some (.inr false) else strconv_underscoreOK.l0 k m9 33 (w64 (v43 + 1)) m48.1)))) else none) else some (.inl v42))
def strconv_underscoreOK.f (K : Nat) (p0 : Str) : Option (Bool) := ((((if (p0.length : Int) ≥ 1 then (if 0 < (p0.length : Int) then (if ((bt p0 0) == 45) = true then some true else some ((bt p0 0) == 43)) else none) else some false)).bind fun m1 => (((if m1 = true then (if 1 ≤ (p0.length : Int) then some (p0.drop 1) else none) else some p0)).bind fun m9 => (((if (m9.length : Int) ≥ 2 then (if 0 < (m9.length : Int) then (if ((bt m9 0) == 48) = true then (if 1 < (m9.length : Int) then ((strconv_lower.f (bt m9 1)).bind fun t21 => (if (t21 == 98) = true then some true else ((strconv_lower.f (bt m9 1)).bind fun t26 => (if (t26 == 111) = true then some true else ((strconv_lower.f (bt m9 1)).bind fun t31 => some (t31 == 120)))))) else none) else some false) else none) else some false)).bind fun m14 => (((if m14 = true then (if 1 < (m9.length : Int) then ((strconv_lower.f (bt m9 1)).bind fun t39 => some (48, 2, t39 == 120)) else none) else some (94, 0, false))).bind fun m35 => ((strconv_underscoreOK.l0 K m9 m35.1 m35.2.1 m35.2.2).bind fun m88 => match m88 with | .inl s90 => some (s90 != 95) | .inr r91 => some r91))))))
abbrev strconv_underscoreOK.post (w0 : World) (r : Bool) (u : Value) (w : World) : Prop := u = .bool r ∧ Ows [] w0 w []
theorem strconv_underscoreOK.l0_ok : ∀ (k : Nat) (m9 : Str) (v42 : Int) (v43 : Int) (v44 : Bool) (out : (Int) ⊕ (Bool)), strconv_underscoreOK.l0 k m9 v42 v43 v44 = some out → ∀ (w0 : World) (Q : Exit → Act → World → Prop) (rest : List It) (a : Act) (w : World), Kn 94 a [(0, S m9), (3, .int .i32 v42), (4, I v43), (5, .bool v44)] → Ows [] w0 w [] → (∀ (s : Int) (a : Act) (w : World), out = .inl s → Kn 94 a [(3, .int .i32 s)] → Ows [] w0 w [] → G Tryz.prog Q rest a w) → (∀ (r : Bool) (a : Act) (w : World), out = .inr r → Kn 94 a [(2, .bool r)] → Ows [] w0 w [] → Q .ret a w) → G Tryz.prog Q (.code (C91 [1, 1, 1, 1, 1, 1, 0, 0, 0]) :: .inl (C91 [1, 1, 1, 1, 1, 1, 0, 0, 0]) :: .endb 0 :: rest) a w := by
  intro k
  induction k with
  | zero => intro m9 v42 v43 v44 out H; simp [strconv_underscoreOK.l0] at H
  | succ k ih =>
    intro m9 v42 v43 v44 out H  w0 Q rest a w  hk ho J R
    simp only [strconv_underscoreOK.l0] at H
    refine st_seq (C91 [1, 1, 1, 1, 1, 1, 0, 0, 0, 0]) (C91 [1, 1, 1, 1, 1, 1, 0, 0, 0, 1]) (by kernel_rfl) ?_
    refine st_seq (C91 [1, 1, 1, 1, 1, 1, 0, 0, 0, 0, 0]) (C91 [1, 1, 1, 1, 1, 1, 0, 0, 0, 0, 1]) (by kernel_rfl) ?_
    refine st_region 10 (opsOf (C91 [1, 1, 1, 1, 1, 1, 0, 0, 0, 0, 0])) [0, 1, 2, 3] (by kernel_rfl) (by kernel_rfl) ?_
    refine st_pure tabOK hk [0, 1, 2, 3] [] [0, 3, 4, 5, 54] [(0, S m9), (3, .int .i32 v42), (4, I v43), (5, .bool v44), (54, .bool (decide (v43 < (m9.length : Int))))] (True) (by kernel_rfl) trivial ?_
    clear hk; intro a hk
    refine st_done ?_
    refine st_cond hk (C91 [1, 1, 1, 1, 1, 1, 0, 0, 0, 0, 1, 0]) (C91 [1, 1, 1, 1, 1, 1, 0, 0, 0, 0, 1, 1]) (.tmp 54) (decide (v43 < (m9.length : Int))) (by kernel_rfl) (by kernel_rfl) (fun h45 => ?_) (fun h45 => ?_)
    ·
      have h46 : v43 < (m9.length : Int) := of_decide_eq_true h45
      rw [if_pos h46] at H
      refine st_skip (by kernel_rfl) ?_
      refine st_seq (C91 [1, 1, 1, 1, 1, 1, 0, 0, 0, 1, 0]) (C91 [1, 1, 1, 1, 1, 1, 0, 0, 0, 1, 1]) (by kernel_rfl) ?_
      refine st_block 1 (C91 [1, 1, 1, 1, 1, 1, 0, 0, 0, 1, 0, 0]) (by kernel_rfl) ?_
      refine st_seq (C91 [1, 1, 1, 1, 1, 1, 0, 0, 0, 1, 0, 0, 0]) (C91 [1, 1, 1, 1, 1, 1, 0, 0, 0, 1, 0, 0, 1]) (by kernel_rfl) ?_
      refine st_seq (C91 [1, 1, 1, 1, 1, 1, 0, 0, 0, 1, 0, 0, 0, 0]) (C91 [1, 1, 1, 1, 1, 1, 0, 0, 0, 1, 0, 0, 0, 1]) (by kernel_rfl) ?_
      refine st_region 12 (opsOf (C91 [1, 1, 1, 1, 1, 1, 0, 0, 0, 1, 0, 0, 0, 0])) [0, 1, 2, 3, 4, 5, 6, 7, 8, 9, 10, 11, 12, 13, 14, 15, 16, 17, 18, 19, 20, 21, 22, 23, 24, 25, 26] (by kernel_rfl) (by kernel_rfl) ?_
      have h47 : (0 : Int) ≤ v43 := by
        by_cases h47 : (0 : Int) ≤ v43
        · exact h47
        · rw [if_neg h47] at H; cases H
      rw [if_pos h47] at H
      refine st_pure tabOK hk [0, 1, 2, 3, 4] [5, 6, 7, 8, 9, 10, 11, 12, 13, 14, 15, 16, 17, 18, 19, 20, 21, 22, 23, 24, 25, 26] [0, 3, 4, 5, 61] [(0, S m9), (3, .int .i32 v42), (4, I v43), (5, .bool v44), (61, .bool (decide (48 ≤ bt m9 v43)))] (((0 : Int) ≤ v43 ∧ v43 < (m9.length : Int)) ∧ True) (by kernel_rfl) ⟨⟨h47, h46⟩, trivial⟩ ?_
      clear hk; intro a hk
      obtain ⟨m48, HX, H⟩ := Option.bind_eq_some_iff.1 H
      refine cut_ops (fun a w => Kn 94 a [(0, S m9), (3, .int .i32 v42), (4, I v43), (5, .bool m48.1), (83, .bool m48.2)] ∧ Ows [] w0 w []) ?_ ?_
      · intro J; clear H; have H := HX; clear HX
        rcases Bool.eq_false_or_eq_true (decide (48 ≤ bt m9 v43)) with h49 | h49
        ·
          rw [h49] at hk
          have h50 : 48 ≤ bt m9 v43 := of_decide_eq_true h49
          rw [if_pos h50] at H
          refine st_pure tabOK hk [5, 6, 7, 8, 9, 10] [11, 12, 13, 14, 15, 16, 17, 18, 19, 20, 21, 22, 23, 24, 25, 26] [0, 3, 4, 5, 67] [(0, S m9), (3, .int .i32 v42), (4, I v43), (5, .bool v44), (67, .bool (decide (bt m9 v43 ≤ 57)))] (((0 : Int) ≤ v43 ∧ v43 < (m9.length : Int)) ∧ True) (by kernel_rfl) ⟨⟨h47, h46⟩, trivial⟩ ?_
          clear hk; intro a hk
          rcases Bool.eq_false_or_eq_true (decide (bt m9 v43 ≤ 57)) with h51 | h51
          ·
            rw [h51] at hk
            have h52 : bt m9 v43 ≤ 57 := of_decide_eq_true h51
            rw [if_pos h52] at H
            refine st_pure tabOK hk [11, 12, 13, 14, 15, 16, 17, 18, 19, 20, 21, 22, 23, 24, 25, 26] [] [0, 3, 4, 5, 83] [(0, S m9), (3, .int .i32 v42), (4, I v43), (5, .bool v44), (83, .bool true)] (True) (by kernel_rfl) trivial ?_
            clear hk; intro a hk
            refine st_done ?_
            obtain rfl := Option.some.inj H
            exact J a w ⟨hk.to [0, 3, 4, 5, 83] _ (by kernel_rfl), ho⟩
          ·
            rw [h51] at hk
            have h53 : ¬ (bt m9 v43 ≤ 57) := of_decide_eq_false h51
            rw [if_neg h53] at H
            refine st_pure tabOK hk [11, 12] [13, 14, 15, 16, 17, 18, 19, 20, 21, 22, 23, 24, 25, 26] [0, 3, 4, 5, 67, 69] [(0, S m9), (3, .int .i32 v42), (4, I v43), (5, .bool v44), (67, .bool false), (69, .bool v44)] (True) (by kernel_rfl) trivial ?_
            clear hk; intro a hk
            rcases Bool.eq_false_or_eq_true (v44) with h54 | h54
            ·
              rw [h54] at hk
              have h55 : v44 = true := h54
              rw [if_pos h55] at H
              refine st_pure tabOK hk [13, 14, 15] [16, 17, 18, 19, 20, 21, 22, 23, 24, 25, 26] [0, 3, 4, 5, 67, 69, 72] [(0, S m9), (3, .int .i32 v42), (4, I v43), (5, .bool true), (67, .bool false), (69, .bool true), (72, .int .u8 (bt m9 v43))] (((0 : Int) ≤ v43 ∧ v43 < (m9.length : Int)) ∧ True) (by kernel_rfl) ⟨⟨h47, h46⟩, trivial⟩ ?_
              clear hk; intro a hk
              obtain ⟨t56, h57, H⟩ := Option.bind_eq_some_iff.1 H
              refine st_call hk 90 [.int .u8 (bt m9 v43)] (some 73) enters90 (by kernel_rfl) (strconv_lower.ok  (bt m9 v43) t56 h57 w ) ?_
              clear hk; rintro a u w ⟨rfl, ho'⟩ hk
              replace ho : Ows [] w0 w [] := ho.call ho'; clear ho'
              refine st_pure tabOK hk [17, 18, 19] [20, 21, 22, 23, 24, 25, 26] [0, 3, 4, 5, 67, 76] [(0, S m9), (3, .int .i32 v42), (4, I v43), (5, .bool true), (67, .bool false), (76, .bool (decide (97 ≤ t56)))] (True) (by kernel_rfl) trivial ?_
              clear hk; intro a hk
              rcases Bool.eq_false_or_eq_true (decide (97 ≤ t56)) with h58 | h58
              ·
                rw [h58] at hk
                have h59 : 97 ≤ t56 := of_decide_eq_true h58
                rw [if_pos h59] at H
                refine st_pure tabOK hk [20, 21, 22] [23, 24, 25, 26] [0, 3, 4, 5, 67, 76, 79] [(0, S m9), (3, .int .i32 v42), (4, I v43), (5, .bool true), (67, .bool false), (76, .bool true), (79, .int .u8 (bt m9 v43))] (((0 : Int) ≤ v43 ∧ v43 < (m9.length : Int)) ∧ True) (by kernel_rfl) ⟨⟨h47, h46⟩, trivial⟩ ?_
                clear hk; intro a hk
                obtain ⟨t60, h61, H⟩ := Option.bind_eq_some_iff.1 H
                refine st_call hk 90 [.int .u8 (bt m9 v43)] (some 80) enters90 (by kernel_rfl) (strconv_lower.ok  (bt m9 v43) t60 h61 w ) ?_
                clear hk; rintro a u w ⟨rfl, ho'⟩ hk
                replace ho : Ows [] w0 w [] := ho.call ho'; clear ho'
                refine st_pure tabOK hk [24, 25, 26] [] [0, 3, 4, 5, 83] [(0, S m9), (3, .int .i32 v42), (4, I v43), (5, .bool true), (83, .bool (decide (t60 ≤ 102)))] (True) (by kernel_rfl) trivial ?_
                clear hk; intro a hk
                refine st_done ?_
                obtain rfl := Option.some.inj H
                exact J a w ⟨hk.to [0, 3, 4, 5, 83] _ (by kernel_rfl), ho⟩
              ·
                rw [h58] at hk
                have h62 : ¬ (97 ≤ t56) := of_decide_eq_false h58
                rw [if_neg h62] at H
                refine st_pure tabOK hk [20, 21, 22, 23, 24, 25, 26] [] [0, 3, 4, 5, 83] [(0, S m9), (3, .int .i32 v42), (4, I v43), (5, .bool true), (83, .bool false)] (True) (by kernel_rfl) trivial ?_
                clear hk; intro a hk
                refine st_done ?_
                obtain rfl := Option.some.inj H
                exact J a w ⟨hk.to [0, 3, 4, 5, 83] _ (by kernel_rfl), ho⟩
            ·
              rw [h54] at hk
              have h63 : ¬ (v44 = true) := ne_true_of_eq_false h54
              rw [if_neg h63] at H
              refine st_pure tabOK hk [13, 14, 15, 16, 17, 18, 19, 20, 21, 22, 23, 24, 25, 26] [] [0, 3, 4, 5, 83] [(0, S m9), (3, .int .i32 v42), (4, I v43), (5, .bool false), (83, .bool false)] (True) (by kernel_rfl) trivial ?_
              clear hk; intro a hk
              refine st_done ?_
              obtain rfl := Option.some.inj H
              exact J a w ⟨hk.to [0, 3, 4, 5, 83] _ (by kernel_rfl), ho⟩
        ·
          rw [h49] at hk
          have h64 : ¬ (48 ≤ bt m9 v43) := of_decide_eq_false h49
          rw [if_neg h64] at H
          refine st_pure tabOK hk [5, 6, 7, 8, 9, 10, 11, 12] [13, 14, 15, 16, 17, 18, 19, 20, 21, 22, 23, 24, 25, 26] [0, 3, 4, 5, 67, 69] [(0, S m9), (3, .int .i32 v42), (4, I v43), (5, .bool v44), (67, .bool false), (69, .bool v44)] (True) (by kernel_rfl) trivial ?_
          clear hk; intro a hk
          rcases Bool.eq_false_or_eq_true (v44) with h65 | h65
          ·
            rw [h65] at hk
            have h66 : v44 = true := h65
            rw [if_pos h66] at H
            refine st_pure tabOK hk [13, 14, 15] [16, 17, 18, 19, 20, 21, 22, 23, 24, 25, 26] [0, 3, 4, 5, 67, 69, 72] [(0, S m9), (3, .int .i32 v42), (4, I v43), (5, .bool true), (67, .bool false), (69, .bool true), (72, .int .u8 (bt m9 v43))] (((0 : Int) ≤ v43 ∧ v43 < (m9.length : Int)) ∧ True) (by kernel_rfl) ⟨⟨h47, h46⟩, trivial⟩ ?_
            clear hk; intro a hk
            obtain ⟨t67, h68, H⟩ := Option.bind_eq_some_iff.1 H
            refine st_call hk 90 [.int .u8 (bt m9 v43)] (some 73) enters90 (by kernel_rfl) (strconv_lower.ok  (bt m9 v43) t67 h68 w ) ?_
            clear hk; rintro a u w ⟨rfl, ho'⟩ hk
            replace ho : Ows [] w0 w [] := ho.call ho'; clear ho'
            refine st_pure tabOK hk [17, 18, 19] [20, 21, 22, 23, 24, 25, 26] [0, 3, 4, 5, 67, 76] [(0, S m9), (3, .int .i32 v42), (4, I v43), (5, .bool true), (67, .bool false), (76, .bool (decide (97 ≤ t67)))] (True) (by kernel_rfl) trivial ?_
            clear hk; intro a hk
            rcases Bool.eq_false_or_eq_true (decide (97 ≤ t67)) with h69 | h69
            ·
              rw [h69] at hk
              have h70 : 97 ≤ t67 := of_decide_eq_true h69
              rw [if_pos h70] at H
              refine st_pure tabOK hk [20, 21, 22] [23, 24, 25, 26] [0, 3, 4, 5, 67, 76, 79] [(0, S m9), (3, .int .i32 v42), (4, I v43), (5, .bool true), (67, .bool false), (76, .bool true), (79, .int .u8 (bt m9 v43))] (((0 : Int) ≤ v43 ∧ v43 < (m9.length : Int)) ∧ True) (by kernel_rfl) ⟨⟨h47, h46⟩, trivial⟩ ?_
              clear hk; intro a hk
              obtain ⟨t71, h72, H⟩ := Option.bind_eq_some_iff.1 H
              refine st_call hk 90 [.int .u8 (bt m9 v43)] (some 80) enters90 (by kernel_rfl) (strconv_lower.ok  (bt m9 v43) t71 h72 w ) ?_
              clear hk; rintro a u w ⟨rfl, ho'⟩ hk
              replace ho : Ows [] w0 w [] := ho.call ho'; clear ho'
              refine st_pure tabOK hk [24, 25, 26] [] [0, 3, 4, 5, 83] [(0, S m9), (3, .int .i32 v42), (4, I v43), (5, .bool true), (83, .bool (decide (t71 ≤ 102)))] (True) (by kernel_rfl) trivial ?_
              clear hk; intro a hk
              refine st_done ?_
              obtain rfl := Option.some.inj H
              exact J a w ⟨hk.to [0, 3, 4, 5, 83] _ (by kernel_rfl), ho⟩
            ·
              rw [h69] at hk
              have h73 : ¬ (97 ≤ t67) := of_decide_eq_false h69
              rw [if_neg h73] at H
              refine st_pure tabOK hk [20, 21, 22, 23, 24, 25, 26] [] [0, 3, 4, 5, 83] [(0, S m9), (3, .int .i32 v42), (4, I v43), (5, .bool true), (83, .bool false)] (True) (by kernel_rfl) trivial ?_
              clear hk; intro a hk
              refine st_done ?_
              obtain rfl := Option.some.inj H
              exact J a w ⟨hk.to [0, 3, 4, 5, 83] _ (by kernel_rfl), ho⟩
          ·
            rw [h65] at hk
            have h74 : ¬ (v44 = true) := ne_true_of_eq_false h65
            rw [if_neg h74] at H
            refine st_pure tabOK hk [13, 14, 15, 16, 17, 18, 19, 20, 21, 22, 23, 24, 25, 26] [] [0, 3, 4, 5, 83] [(0, S m9), (3, .int .i32 v42), (4, I v43), (5, .bool false), (83, .bool false)] (True) (by kernel_rfl) trivial ?_
            clear hk; intro a hk
            refine st_done ?_
            obtain rfl := Option.some.inj H
            exact J a w ⟨hk.to [0, 3, 4, 5, 83] _ (by kernel_rfl), ho⟩
      · clear HX; rintro a w ⟨hk, ho⟩
        refine st_cond hk (C91 [1, 1, 1, 1, 1, 1, 0, 0, 0, 1, 0, 0, 0, 1, 0]) (C91 [1, 1, 1, 1, 1, 1, 0, 0, 0, 1, 0, 0, 0, 1, 1]) (.tmp 83) (m48.2) (by kernel_rfl) (by kernel_rfl) (fun h75 => ?_) (fun h75 => ?_)
        ·
          have h76 : m48.2 = true := h75
          rw [if_pos h76] at H
          refine st_seq (C91 [1, 1, 1, 1, 1, 1, 0, 0, 0, 1, 0, 0, 0, 1, 0, 0]) (C91 [1, 1, 1, 1, 1, 1, 0, 0, 0, 1, 0, 0, 0, 1, 0, 1]) (by kernel_rfl) ?_
          refine st_region 13 (opsOf (C91 [1, 1, 1, 1, 1, 1, 0, 0, 0, 1, 0, 0, 0, 1, 0, 0])) [0] (by kernel_rfl) (by kernel_rfl) ?_
          refine st_pure tabOK hk [0] [] [0, 3, 4, 5] [(0, S m9), (3, .int .i32 48), (4, I v43), (5, .bool m48.1)] (True) (by kernel_rfl) trivial ?_
          clear hk; intro a hk
          refine st_done ?_
          refine st_exit 1 _ (by kernel_rfl) rfl ?_
          refine st_region 11 (opsOf (C91 [1, 1, 1, 1, 1, 1, 0, 0, 0, 1, 1])) [0, 1, 2] (by kernel_rfl) (by kernel_rfl) ?_
          refine st_pure tabOK hk [0, 1, 2] [] [0, 3, 4, 5] [(0, S m9), (3, .int .i32 48), (4, I (w64 (v43 + 1))), (5, .bool m48.1)] (True) (by kernel_rfl) trivial ?_
          clear hk; intro a hk
          refine st_done ?_
          refine st_inl ?_
          exact ih m9 48 (w64 (v43 + 1)) m48.1 out H  w0 Q rest a w  (hk.to [0, 3, 4, 5] _ (by kernel_rfl)) ho J R
        ·
          have h77 : ¬ (m48.2 = true) := ne_true_of_eq_false h75
          rw [if_neg h77] at H
          refine st_skip (by kernel_rfl) ?_
          refine st_seq (C91 [1, 1, 1, 1, 1, 1, 0, 0, 0, 1, 0, 0, 1, 0]) (C91 [1, 1, 1, 1, 1, 1, 0, 0, 0, 1, 0, 0, 1, 1]) (by kernel_rfl) ?_
          refine st_seq (C91 [1, 1, 1, 1, 1, 1, 0, 0, 0, 1, 0, 0, 1, 0, 0]) (C91 [1, 1, 1, 1, 1, 1, 0, 0, 0, 1, 0, 0, 1, 0, 1]) (by kernel_rfl) ?_
          refine st_region 14 (opsOf (C91 [1, 1, 1, 1, 1, 1, 0, 0, 0, 1, 0, 0, 1, 0, 0])) [0, 1, 2, 3] (by kernel_rfl) (by kernel_rfl) ?_
          refine st_pure tabOK hk [0, 1, 2, 3] [] [0, 3, 4, 5, 87] [(0, S m9), (3, .int .i32 v42), (4, I v43), (5, .bool m48.1), (87, .bool ((bt m9 v43) == 95))] (((0 : Int) ≤ v43 ∧ v43 < (m9.length : Int)) ∧ True) (by kernel_rfl) ⟨⟨h47, h46⟩, trivial⟩ ?_
          clear hk; intro a hk
          refine st_done ?_
          refine st_cond hk (C91 [1, 1, 1, 1, 1, 1, 0, 0, 0, 1, 0, 0, 1, 0, 1, 0]) (C91 [1, 1, 1, 1, 1, 1, 0, 0, 0, 1, 0, 0, 1, 0, 1, 1]) (.tmp 87) ((bt m9 v43) == 95) (by kernel_rfl) (by kernel_rfl) (fun h78 => ?_) (fun h78 => ?_)
          ·
            have h79 : ((bt m9 v43) == 95) = true := h78
            rw [if_pos h79] at H
            refine st_seq (C91 [1, 1, 1, 1, 1, 1, 0, 0, 0, 1, 0, 0, 1, 0, 1, 0, 0]) (C91 [1, 1, 1, 1, 1, 1, 0, 0, 0, 1, 0, 0, 1, 0, 1, 0, 1]) (by kernel_rfl) ?_
            refine st_seq (C91 [1, 1, 1, 1, 1, 1, 0, 0, 0, 1, 0, 0, 1, 0, 1, 0, 0, 0]) (C91 [1, 1, 1, 1, 1, 1, 0, 0, 0, 1, 0, 0, 1, 0, 1, 0, 0, 1]) (by kernel_rfl) ?_
            refine st_region 15 (opsOf (C91 [1, 1, 1, 1, 1, 1, 0, 0, 0, 1, 0, 0, 1, 0, 1, 0, 0, 0])) [0, 1] (by kernel_rfl) (by kernel_rfl) ?_
            refine st_pure tabOK hk [0, 1] [] [0, 4, 5, 89] [(0, S m9), (4, I v43), (5, .bool m48.1), (89, .bool (v42 != 48))] (True) (by kernel_rfl) trivial ?_
            clear hk; intro a hk
            refine st_done ?_
            refine st_cond hk (C91 [1, 1, 1, 1, 1, 1, 0, 0, 0, 1, 0, 0, 1, 0, 1, 0, 0, 1, 0]) (C91 [1, 1, 1, 1, 1, 1, 0, 0, 0, 1, 0, 0, 1, 0, 1, 0, 0, 1, 1]) (.tmp 89) (v42 != 48) (by kernel_rfl) (by kernel_rfl) (fun h80 => ?_) (fun h80 => ?_)
            ·
              have h81 : (v42 != 48) = true := h80
              rw [if_pos h81] at H
              refine st_seq (C91 [1, 1, 1, 1, 1, 1, 0, 0, 0, 1, 0, 0, 1, 0, 1, 0, 0, 1, 0, 0]) (C91 [1, 1, 1, 1, 1, 1, 0, 0, 0, 1, 0, 0, 1, 0, 1, 0, 0, 1, 0, 1]) (by kernel_rfl) ?_
              refine st_region 16 (opsOf (C91 [1, 1, 1, 1, 1, 1, 0, 0, 0, 1, 0, 0, 1, 0, 1, 0, 0, 1, 0, 0])) [0] (by kernel_rfl) (by kernel_rfl) ?_
              refine st_pure tabOK hk [0] [] [2] [(2, .bool false)] (True) (by kernel_rfl) trivial ?_
              clear hk; intro a hk
              refine st_done ?_
              refine st_ret (by kernel_rfl) ?_
              obtain rfl := Option.some.inj H
              exact R false  a w rfl (hk.to [2] _ (by kernel_rfl)) ho
            ·
              have h82 : ¬ ((v42 != 48) = true) := ne_true_of_eq_false h80
              rw [if_neg h82] at H
              refine st_skip (by kernel_rfl) ?_
              refine st_seq (C91 [1, 1, 1, 1, 1, 1, 0, 0, 0, 1, 0, 0, 1, 0, 1, 0, 1, 0]) (C91 [1, 1, 1, 1, 1, 1, 0, 0, 0, 1, 0, 0, 1, 0, 1, 0, 1, 1]) (by kernel_rfl) ?_
              refine st_region 17 (opsOf (C91 [1, 1, 1, 1, 1, 1, 0, 0, 0, 1, 0, 0, 1, 0, 1, 0, 1, 0])) [0] (by kernel_rfl) (by kernel_rfl) ?_
              refine st_pure tabOK hk [0] [] [0, 3, 4, 5] [(0, S m9), (3, .int .i32 95), (4, I v43), (5, .bool m48.1)] (True) (by kernel_rfl) trivial ?_
              clear hk; intro a hk
              refine st_done ?_
              refine st_exit 1 _ (by kernel_rfl) rfl ?_
              refine st_region 11 (opsOf (C91 [1, 1, 1, 1, 1, 1, 0, 0, 0, 1, 1])) [0, 1, 2] (by kernel_rfl) (by kernel_rfl) ?_
              refine st_pure tabOK hk [0, 1, 2] [] [0, 3, 4, 5] [(0, S m9), (3, .int .i32 95), (4, I (w64 (v43 + 1))), (5, .bool m48.1)] (True) (by kernel_rfl) trivial ?_
              clear hk; intro a hk
              refine st_done ?_
              refine st_inl ?_
              exact ih m9 95 (w64 (v43 + 1)) m48.1 out H  w0 Q rest a w  (hk.to [0, 3, 4, 5] _ (by kernel_rfl)) ho J R
          ·
            have h83 : ¬ (((bt m9 v43) == 95) = true) := ne_true_of_eq_false h78
            rw [if_neg h83] at H
            refine st_skip (by kernel_rfl) ?_
            refine st_seq (C91 [1, 1, 1, 1, 1, 1, 0, 0, 0, 1, 0, 0, 1, 1, 0]) (C91 [1, 1, 1, 1, 1, 1, 0, 0, 0, 1, 0, 0, 1, 1, 1]) (by kernel_rfl) ?_
            refine st_seq (C91 [1, 1, 1, 1, 1, 1, 0, 0, 0, 1, 0, 0, 1, 1, 0, 0]) (C91 [1, 1, 1, 1, 1, 1, 0, 0, 0, 1, 0, 0, 1, 1, 0, 1]) (by kernel_rfl) ?_
            refine st_region 18 (opsOf (C91 [1, 1, 1, 1, 1, 1, 0, 0, 0, 1, 0, 0, 1, 1, 0, 0])) [0, 1] (by kernel_rfl) (by kernel_rfl) ?_
            refine st_pure tabOK hk [0, 1] [] [0, 4, 5, 91] [(0, S m9), (4, I v43), (5, .bool m48.1), (91, .bool (v42 == 95))] (True) (by kernel_rfl) trivial ?_
            clear hk; intro a hk
            refine st_done ?_
            refine st_cond hk (C91 [1, 1, 1, 1, 1, 1, 0, 0, 0, 1, 0, 0, 1, 1, 0, 1, 0]) (C91 [1, 1, 1, 1, 1, 1, 0, 0, 0, 1, 0, 0, 1, 1, 0, 1, 1]) (.tmp 91) (v42 == 95) (by kernel_rfl) (by kernel_rfl) (fun h84 => ?_) (fun h84 => ?_)
            ·
              have h85 : (v42 == 95) = true := h84
              rw [if_pos h85] at H
              refine st_seq (C91 [1, 1, 1, 1, 1, 1, 0, 0, 0, 1, 0, 0, 1, 1, 0, 1, 0, 0]) (C91 [1, 1, 1, 1, 1, 1, 0, 0, 0, 1, 0, 0, 1, 1, 0, 1, 0, 1]) (by kernel_rfl) ?_
              refine st_region 19 (opsOf (C91 [1, 1, 1, 1, 1, 1, 0, 0, 0, 1, 0, 0, 1, 1, 0, 1, 0, 0])) [0] (by kernel_rfl) (by kernel_rfl) ?_
              refine st_pure tabOK hk [0] [] [2] [(2, .bool false)] (True) (by kernel_rfl) trivial ?_
              clear hk; intro a hk
              refine st_done ?_
              refine st_ret (by kernel_rfl) ?_
              obtain rfl := Option.some.inj H
              exact R false  a w rfl (hk.to [2] _ (by kernel_rfl)) ho
            ·
              have h86 : ¬ ((v42 == 95) = true) := ne_true_of_eq_false h84
              rw [if_neg h86] at H
              refine st_skip (by kernel_rfl) ?_
              refine st_region 20 (opsOf (C91 [1, 1, 1, 1, 1, 1, 0, 0, 0, 1, 0, 0, 1, 1, 1])) [0] (by kernel_rfl) (by kernel_rfl) ?_
              refine st_pure tabOK hk [0] [] [0, 3, 4, 5] [(0, S m9), (3, .int .i32 33), (4, I v43), (5, .bool m48.1)] (True) (by kernel_rfl) trivial ?_
              clear hk; intro a hk
              refine st_done ?_
              refine st_endb 1 ?_
              refine st_region 11 (opsOf (C91 [1, 1, 1, 1, 1, 1, 0, 0, 0, 1, 1])) [0, 1, 2] (by kernel_rfl) (by kernel_rfl) ?_
              refine st_pure tabOK hk [0, 1, 2] [] [0, 3, 4, 5] [(0, S m9), (3, .int .i32 33), (4, I (w64 (v43 + 1))), (5, .bool m48.1)] (True) (by kernel_rfl) trivial ?_
              clear hk; intro a hk
              refine st_done ?_
              refine st_inl ?_
              exact ih m9 33 (w64 (v43 + 1)) m48.1 out H  w0 Q rest a w  (hk.to [0, 3, 4, 5] _ (by kernel_rfl)) ho J R
    ·
      have h87 : ¬ (v43 < (m9.length : Int)) := of_decide_eq_false h45
      rw [if_neg h87] at H
      refine st_exit 0 _ (by kernel_rfl) rfl ?_
      obtain rfl := Option.some.inj H
      exact J v42  a w rfl (hk.to [3] _ (by kernel_rfl)) ho

theorem strconv_underscoreOK.ok (K : Nat) (p0 : Str) (r : Bool) (H : strconv_underscoreOK.f K p0 = some r) (w0 : World)  : Calls Tryz.prog 91 ⟨[S p0]⟩ w0 fun e w => ∃ u, e = .returned u ∧ strconv_underscoreOK.post w0 r u w := by
  unfold strconv_underscoreOK.f at H
  refine st_start (N := 94) [S p0] (C91 []) func91 (by kernel_rfl) (by kernel_rfl) (by kernel_rfl) ?_
  intro a w hk ho
  refine st_seq (C91 [0]) (C91 [1]) (by kernel_rfl) ?_
  refine st_region 0 (opsOf (C91 [0])) [0] (by kernel_rfl) (by kernel_rfl) ?_
  refine st_pure tabOK hk [0] [] [0] [(0, S p0)] (True) (by kernel_rfl) trivial ?_
  clear hk; intro a hk
  refine st_done ?_
  refine st_seq (C91 [1, 0]) (C91 [1, 1]) (by kernel_rfl) ?_
  refine st_region 1 (opsOf (C91 [1, 0])) [0] (by kernel_rfl) (by kernel_rfl) ?_
  refine st_pure tabOK hk [0] [] [0, 3] [(0, S p0), (3, .int .i32 94)] (True) (by kernel_rfl) trivial ?_
  clear hk; intro a hk
  refine st_done ?_
  refine st_seq (C91 [1, 1, 0]) (C91 [1, 1, 1]) (by kernel_rfl) ?_
  refine st_region 2 (opsOf (C91 [1, 1, 0])) [0] (by kernel_rfl) (by kernel_rfl) ?_
  refine st_pure tabOK hk [0] [] [0, 3, 4] [(0, S p0), (3, .int .i32 94), (4, I 0)] (True) (by kernel_rfl) trivial ?_
  clear hk; intro a hk
  refine st_done ?_
  refine st_seq (C91 [1, 1, 1, 0]) (C91 [1, 1, 1, 1]) (by kernel_rfl) ?_
  refine st_seq (C91 [1, 1, 1, 0, 0]) (C91 [1, 1, 1, 0, 1]) (by kernel_rfl) ?_
  refine st_region 3 (opsOf (C91 [1, 1, 1, 0, 0])) [0, 1, 2, 3, 4, 5, 6, 7, 8, 9, 10, 11, 12] (by kernel_rfl) (by kernel_rfl) ?_
  refine st_pure tabOK hk [0, 1, 2, 3] [4, 5, 6, 7, 8, 9, 10, 11, 12] [0, 3, 4, 9] [(0, S p0), (3, .int .i32 94), (4, I 0), (9, .bool (decide ((p0.length : Int) ≥ 1)))] (True) (by kernel_rfl) trivial ?_
  clear hk; intro a hk
  obtain ⟨m1, HX, H⟩ := Option.bind_eq_some_iff.1 H
  refine cut_ops (fun a w => Kn 94 a [(0, S p0), (3, .int .i32 94), (4, I 0), (18, .bool m1)] ∧ Ows [] w0 w []) ?_ ?_
  · intro J; clear H; have H := HX; clear HX
    rcases Bool.eq_false_or_eq_true (decide ((p0.length : Int) ≥ 1)) with h2 | h2
    ·
      rw [h2] at hk
      have h3 : (p0.length : Int) ≥ 1 := of_decide_eq_true h2
      rw [if_pos h3] at H
      have h4 : 0 < (p0.length : Int) := by
        by_cases h4 : 0 < (p0.length : Int)
        · exact h4
        · rw [if_neg h4] at H; cases H
      rw [if_pos h4] at H
      refine st_pure tabOK hk [4, 5, 6, 7] [8, 9, 10, 11, 12] [0, 3, 4, 9, 13] [(0, S p0), (3, .int .i32 94), (4, I 0), (9, .bool true), (13, .bool ((bt p0 0) == 45))] (((0 : Int) ≤ 0 ∧ 0 < (p0.length : Int)) ∧ True) (by kernel_rfl) ⟨⟨(by decide), h4⟩, trivial⟩ ?_
      clear hk; intro a hk
      rcases Bool.eq_false_or_eq_true ((bt p0 0) == 45) with h5 | h5
      ·
        rw [h5] at hk
        have h6 : ((bt p0 0) == 45) = true := h5
        rw [if_pos h6] at H
        refine st_pure tabOK hk [8, 9, 10, 11, 12] [] [0, 3, 4, 18] [(0, S p0), (3, .int .i32 94), (4, I 0), (18, .bool true)] (True) (by kernel_rfl) trivial ?_
        clear hk; intro a hk
        refine st_done ?_
        obtain rfl := Option.some.inj H
        exact J a w ⟨hk.to [0, 3, 4, 18] _ (by kernel_rfl), ho⟩
      ·
        rw [h5] at hk
        have h7 : ¬ (((bt p0 0) == 45) = true) := ne_true_of_eq_false h5
        rw [if_neg h7] at H
        refine st_pure tabOK hk [8, 9, 10, 11, 12] [] [0, 3, 4, 18] [(0, S p0), (3, .int .i32 94), (4, I 0), (18, .bool ((bt p0 0) == 43))] (((0 : Int) ≤ 0 ∧ 0 < (p0.length : Int)) ∧ True) (by kernel_rfl) ⟨⟨(by decide), h4⟩, trivial⟩ ?_
        clear hk; intro a hk
        refine st_done ?_
        obtain rfl := Option.some.inj H
        exact J a w ⟨hk.to [0, 3, 4, 18] _ (by kernel_rfl), ho⟩
    ·
      rw [h2] at hk
      have h8 : ¬ ((p0.length : Int) ≥ 1) := of_decide_eq_false h2
      rw [if_neg h8] at H
      refine st_pure tabOK hk [4, 5, 6, 7, 8, 9, 10, 11, 12] [] [0, 3, 4, 18] [(0, S p0), (3, .int .i32 94), (4, I 0), (18, .bool false)] (True) (by kernel_rfl) trivial ?_
      clear hk; intro a hk
      refine st_done ?_
      obtain rfl := Option.some.inj H
      exact J a w ⟨hk.to [0, 3, 4, 18] _ (by kernel_rfl), ho⟩
  · clear HX; rintro a w ⟨hk, ho⟩
    obtain ⟨m9, HX, H⟩ := Option.bind_eq_some_iff.1 H
    refine cut_code (fun a w => Kn 94 a [(0, S m9), (3, .int .i32 94), (4, I 0)] ∧ Ows [] w0 w []) ?_ ?_
    · intro J; clear H; have H := HX; clear HX
      refine st_cond hk (C91 [1, 1, 1, 0, 1, 0]) (C91 [1, 1, 1, 0, 1, 1]) (.tmp 18) (m1) (by kernel_rfl) (by kernel_rfl) (fun h10 => ?_) (fun h10 => ?_)
      ·
        have h11 : m1 = true := h10
        rw [if_pos h11] at H
        refine st_region 4 (opsOf (C91 [1, 1, 1, 0, 1, 0])) [0, 1, 2] (by kernel_rfl) (by kernel_rfl) ?_
        have h12 : 1 ≤ (p0.length : Int) := by
          by_cases h12 : 1 ≤ (p0.length : Int)
          · exact h12
          · rw [if_neg h12] at H; cases H
        rw [if_pos h12] at H
        refine st_pure tabOK hk [0, 1, 2] [] [0, 3, 4] [(0, S (p0.drop 1)), (3, .int .i32 94), (4, I 0)] (((0 : Int) ≤ 1 ∧ 1 ≤ (p0.length : Int)) ∧ True) (by kernel_rfl) ⟨⟨(by decide), h12⟩, trivial⟩ ?_
        clear hk; intro a hk
        refine st_done ?_
        obtain rfl := Option.some.inj H
        exact J a w ⟨hk.to [0, 3, 4] _ (by kernel_rfl), ho⟩
      ·
        have h13 : ¬ (m1 = true) := ne_true_of_eq_false h10
        rw [if_neg h13] at H
        refine st_skip (by kernel_rfl) ?_
        obtain rfl := Option.some.inj H
        exact J a w ⟨hk.to [0, 3, 4] _ (by kernel_rfl), ho⟩
    · clear HX; rintro a w ⟨hk, ho⟩
      refine st_seq (C91 [1, 1, 1, 1, 0]) (C91 [1, 1, 1, 1, 1]) (by kernel_rfl) ?_
      refine st_region 5 (opsOf (C91 [1, 1, 1, 1, 0])) [0] (by kernel_rfl) (by kernel_rfl) ?_
      refine st_pure tabOK hk [0] [] [0, 3, 4, 5] [(0, S m9), (3, .int .i32 94), (4, I 0), (5, .bool false)] (True) (by kernel_rfl) trivial ?_
      clear hk; intro a hk
      refine st_done ?_
      refine st_seq (C91 [1, 1, 1, 1, 1, 0]) (C91 [1, 1, 1, 1, 1, 1]) (by kernel_rfl) ?_
      refine st_seq (C91 [1, 1, 1, 1, 1, 0, 0]) (C91 [1, 1, 1, 1, 1, 0, 1]) (by kernel_rfl) ?_
      refine st_region 6 (opsOf (C91 [1, 1, 1, 1, 1, 0, 0])) [0, 1, 2, 3, 4, 5, 6, 7, 8, 9, 10, 11, 12, 13, 14, 15, 16, 17, 18, 19, 20, 21, 22, 23, 24, 25] (by kernel_rfl) (by kernel_rfl) ?_
      refine st_pure tabOK hk [0, 1, 2, 3] [4, 5, 6, 7, 8, 9, 10, 11, 12, 13, 14, 15, 16, 17, 18, 19, 20, 21, 22, 23, 24, 25] [0, 3, 4, 5, 24] [(0, S m9), (3, .int .i32 94), (4, I 0), (5, .bool false), (24, .bool (decide ((m9.length : Int) ≥ 2)))] (True) (by kernel_rfl) trivial ?_
      clear hk; intro a hk
      obtain ⟨m14, HX, H⟩ := Option.bind_eq_some_iff.1 H
      refine cut_ops (fun a w => Kn 94 a [(0, S m9), (3, .int .i32 94), (4, I 0), (5, .bool false), (46, .bool m14)] ∧ Ows [] w0 w []) ?_ ?_
      · intro J; clear H; have H := HX; clear HX
        rcases Bool.eq_false_or_eq_true (decide ((m9.length : Int) ≥ 2)) with h15 | h15
        ·
          rw [h15] at hk
          have h16 : (m9.length : Int) ≥ 2 := of_decide_eq_true h15
          rw [if_pos h16] at H
          have h17 : 0 < (m9.length : Int) := by
            by_cases h17 : 0 < (m9.length : Int)
            · exact h17
            · rw [if_neg h17] at H; cases H
          rw [if_pos h17] at H
          refine st_pure tabOK hk [4, 5, 6, 7, 8] [9, 10, 11, 12, 13, 14, 15, 16, 17, 18, 19, 20, 21, 22, 23, 24, 25] [0, 3, 4, 5, 29] [(0, S m9), (3, .int .i32 94), (4, I 0), (5, .bool false), (29, .bool ((bt m9 0) == 48))] (((0 : Int) ≤ 0 ∧ 0 < (m9.length : Int)) ∧ True) (by kernel_rfl) ⟨⟨(by decide), h17⟩, trivial⟩ ?_
          clear hk; intro a hk
          rcases Bool.eq_false_or_eq_true ((bt m9 0) == 48) with h18 | h18
          ·
            rw [h18] at hk
            have h19 : ((bt m9 0) == 48) = true := h18
            rw [if_pos h19] at H
            have h20 : 1 < (m9.length : Int) := by
              by_cases h20 : 1 < (m9.length : Int)
              · exact h20
              · rw [if_neg h20] at H; cases H
            rw [if_pos h20] at H
            refine st_pure tabOK hk [9, 10] [11, 12, 13, 14, 15, 16, 17, 18, 19, 20, 21, 22, 23, 24, 25] [0, 3, 4, 5, 29, 31] [(0, S m9), (3, .int .i32 94), (4, I 0), (5, .bool false), (29, .bool true), (31, .int .u8 (bt m9 1))] (((0 : Int) ≤ 1 ∧ 1 < (m9.length : Int)) ∧ True) (by kernel_rfl) ⟨⟨(by decide), h20⟩, trivial⟩ ?_
            clear hk; intro a hk
            obtain ⟨t21, h22, H⟩ := Option.bind_eq_some_iff.1 H
            refine st_call hk 90 [.int .u8 (bt m9 1)] (some 32) enters90 (by kernel_rfl) (strconv_lower.ok  (bt m9 1) t21 h22 w ) ?_
            clear hk; rintro a u w ⟨rfl, ho'⟩ hk
            replace ho : Ows [] w0 w [] := ho.call ho'; clear ho'
            refine st_pure tabOK hk [12, 13] [14, 15, 16, 17, 18, 19, 20, 21, 22, 23, 24, 25] [0, 3, 4, 5, 29, 34] [(0, S m9), (3, .int .i32 94), (4, I 0), (5, .bool false), (29, .bool true), (34, .bool (t21 == 98))] (True) (by kernel_rfl) trivial ?_
            clear hk; intro a hk
            rcases Bool.eq_false_or_eq_true (t21 == 98) with h23 | h23
            ·
              rw [h23] at hk
              have h24 : (t21 == 98) = true := h23
              rw [if_pos h24] at H
              refine st_pure tabOK hk [14, 15, 16, 17, 18, 19, 20, 21, 22, 23, 24, 25] [] [0, 3, 4, 5, 46] [(0, S m9), (3, .int .i32 94), (4, I 0), (5, .bool false), (46, .bool true)] (True) (by kernel_rfl) trivial ?_
              clear hk; intro a hk
              refine st_done ?_
              obtain rfl := Option.some.inj H
              exact J a w ⟨hk.to [0, 3, 4, 5, 46] _ (by kernel_rfl), ho⟩
            ·
              rw [h23] at hk
              have h25 : ¬ ((t21 == 98) = true) := ne_true_of_eq_false h23
              rw [if_neg h25] at H
              refine st_pure tabOK hk [14, 15] [16, 17, 18, 19, 20, 21, 22, 23, 24, 25] [0, 3, 4, 5, 29, 34, 36] [(0, S m9), (3, .int .i32 94), (4, I 0), (5, .bool false), (29, .bool true), (34, .bool false), (36, .int .u8 (bt m9 1))] (((0 : Int) ≤ 1 ∧ 1 < (m9.length : Int)) ∧ True) (by kernel_rfl) ⟨⟨(by decide), h20⟩, trivial⟩ ?_
              clear hk; intro a hk
              obtain ⟨t26, h27, H⟩ := Option.bind_eq_some_iff.1 H
              refine st_call hk 90 [.int .u8 (bt m9 1)] (some 37) enters90 (by kernel_rfl) (strconv_lower.ok  (bt m9 1) t26 h27 w ) ?_
              clear hk; rintro a u w ⟨rfl, ho'⟩ hk
              replace ho : Ows [] w0 w [] := ho.call ho'; clear ho'
              refine st_pure tabOK hk [17, 18, 19] [20, 21, 22, 23, 24, 25] [0, 3, 4, 5, 29, 40] [(0, S m9), (3, .int .i32 94), (4, I 0), (5, .bool false), (29, .bool true), (40, .bool (t26 == 111))] (True) (by kernel_rfl) trivial ?_
              clear hk; intro a hk
              rcases Bool.eq_false_or_eq_true (t26 == 111) with h28 | h28
              ·
                rw [h28] at hk
                have h29 : (t26 == 111) = true := h28
                rw [if_pos h29] at H
                refine st_pure tabOK hk [20, 21, 22, 23, 24, 25] [] [0, 3, 4, 5, 46] [(0, S m9), (3, .int .i32 94), (4, I 0), (5, .bool false), (46, .bool true)] (True) (by kernel_rfl) trivial ?_
                clear hk; intro a hk
                refine st_done ?_
                obtain rfl := Option.some.inj H
                exact J a w ⟨hk.to [0, 3, 4, 5, 46] _ (by kernel_rfl), ho⟩
              ·
                rw [h28] at hk
                have h30 : ¬ ((t26 == 111) = true) := ne_true_of_eq_false h28
                rw [if_neg h30] at H
                refine st_pure tabOK hk [20, 21] [22, 23, 24, 25] [0, 3, 4, 5, 29, 40, 42] [(0, S m9), (3, .int .i32 94), (4, I 0), (5, .bool false), (29, .bool true), (40, .bool false), (42, .int .u8 (bt m9 1))] (((0 : Int) ≤ 1 ∧ 1 < (m9.length : Int)) ∧ True) (by kernel_rfl) ⟨⟨(by decide), h20⟩, trivial⟩ ?_
                clear hk; intro a hk
                obtain ⟨t31, h32, H⟩ := Option.bind_eq_some_iff.1 H
                refine st_call hk 90 [.int .u8 (bt m9 1)] (some 43) enters90 (by kernel_rfl) (strconv_lower.ok  (bt m9 1) t31 h32 w ) ?_
                clear hk; rintro a u w ⟨rfl, ho'⟩ hk
                replace ho : Ows [] w0 w [] := ho.call ho'; clear ho'
                refine st_pure tabOK hk [23, 24, 25] [] [0, 3, 4, 5, 46] [(0, S m9), (3, .int .i32 94), (4, I 0), (5, .bool false), (46, .bool (t31 == 120))] (True) (by kernel_rfl) trivial ?_
                clear hk; intro a hk
                refine st_done ?_
                obtain rfl := Option.some.inj H
                exact J a w ⟨hk.to [0, 3, 4, 5, 46] _ (by kernel_rfl), ho⟩
          ·
            rw [h18] at hk
            have h33 : ¬ (((bt m9 0) == 48) = true) := ne_true_of_eq_false h18
            rw [if_neg h33] at H
            refine st_pure tabOK hk [9, 10, 11, 12, 13, 14, 15, 16, 17, 18, 19, 20, 21, 22, 23, 24, 25] [] [0, 3, 4, 5, 46] [(0, S m9), (3, .int .i32 94), (4, I 0), (5, .bool false), (46, .bool false)] (True) (by kernel_rfl) trivial ?_
            clear hk; intro a hk
            refine st_done ?_
            obtain rfl := Option.some.inj H
            exact J a w ⟨hk.to [0, 3, 4, 5, 46] _ (by kernel_rfl), ho⟩
        ·
          rw [h15] at hk
          have h34 : ¬ ((m9.length : Int) ≥ 2) := of_decide_eq_false h15
          rw [if_neg h34] at H
          refine st_pure tabOK hk [4, 5, 6, 7, 8, 9, 10, 11, 12, 13, 14, 15, 16, 17, 18, 19, 20, 21, 22, 23, 24, 25] [] [0, 3, 4, 5, 46] [(0, S m9), (3, .int .i32 94), (4, I 0), (5, .bool false), (46, .bool false)] (True) (by kernel_rfl) trivial ?_
          clear hk; intro a hk
          refine st_done ?_
          obtain rfl := Option.some.inj H
          exact J a w ⟨hk.to [0, 3, 4, 5, 46] _ (by kernel_rfl), ho⟩
      · clear HX; rintro a w ⟨hk, ho⟩
        obtain ⟨m35, HX, H⟩ := Option.bind_eq_some_iff.1 H
        refine cut_code (fun a w => Kn 94 a [(0, S m9), (3, .int .i32 m35.1), (4, I m35.2.1), (5, .bool m35.2.2)] ∧ Ows [] w0 w []) ?_ ?_
        · intro J; clear H; have H := HX; clear HX
          refine st_cond hk (C91 [1, 1, 1, 1, 1, 0, 1, 0]) (C91 [1, 1, 1, 1, 1, 0, 1, 1]) (.tmp 46) (m14) (by kernel_rfl) (by kernel_rfl) (fun h36 => ?_) (fun h36 => ?_)
          ·
            have h37 : m14 = true := h36
            rw [if_pos h37] at H
            refine st_seq (C91 [1, 1, 1, 1, 1, 0, 1, 0, 0]) (C91 [1, 1, 1, 1, 1, 0, 1, 0, 1]) (by kernel_rfl) ?_
            refine st_region 7 (opsOf (C91 [1, 1, 1, 1, 1, 0, 1, 0, 0])) [0] (by kernel_rfl) (by kernel_rfl) ?_
            refine st_pure tabOK hk [0] [] [0, 4] [(0, S m9), (4, I 2)] (True) (by kernel_rfl) trivial ?_
            clear hk; intro a hk
            refine st_done ?_
            refine st_seq (C91 [1, 1, 1, 1, 1, 0, 1, 0, 1, 0]) (C91 [1, 1, 1, 1, 1, 0, 1, 0, 1, 1]) (by kernel_rfl) ?_
            refine st_region 8 (opsOf (C91 [1, 1, 1, 1, 1, 0, 1, 0, 1, 0])) [0] (by kernel_rfl) (by kernel_rfl) ?_
            refine st_pure tabOK hk [0] [] [0, 3, 4] [(0, S m9), (3, .int .i32 48), (4, I 2)] (True) (by kernel_rfl) trivial ?_
            clear hk; intro a hk
            refine st_done ?_
            refine st_region 9 (opsOf (C91 [1, 1, 1, 1, 1, 0, 1, 0, 1, 1])) [0, 1, 2, 3, 4] (by kernel_rfl) (by kernel_rfl) ?_
            have h38 : 1 < (m9.length : Int) := by
              by_cases h38 : 1 < (m9.length : Int)
              · exact h38
              · rw [if_neg h38] at H; cases H
            rw [if_pos h38] at H
            refine st_pure tabOK hk [0, 1] [2, 3, 4] [0, 3, 4, 48] [(0, S m9), (3, .int .i32 48), (4, I 2), (48, .int .u8 (bt m9 1))] (((0 : Int) ≤ 1 ∧ 1 < (m9.length : Int)) ∧ True) (by kernel_rfl) ⟨⟨(by decide), h38⟩, trivial⟩ ?_
            clear hk; intro a hk
            obtain ⟨t39, h40, H⟩ := Option.bind_eq_some_iff.1 H
            refine st_call hk 90 [.int .u8 (bt m9 1)] (some 49) enters90 (by kernel_rfl) (strconv_lower.ok  (bt m9 1) t39 h40 w ) ?_
            clear hk; rintro a u w ⟨rfl, ho'⟩ hk
            replace ho : Ows [] w0 w [] := ho.call ho'; clear ho'
            refine st_pure tabOK hk [3, 4] [] [0, 3, 4, 5] [(0, S m9), (3, .int .i32 48), (4, I 2), (5, .bool (t39 == 120))] (True) (by kernel_rfl) trivial ?_
            clear hk; intro a hk
            refine st_done ?_
            obtain rfl := Option.some.inj H
            exact J a w ⟨hk.to [0, 3, 4, 5] _ (by kernel_rfl), ho⟩
          ·
            have h41 : ¬ (m14 = true) := ne_true_of_eq_false h36
            rw [if_neg h41] at H
            refine st_skip (by kernel_rfl) ?_
            obtain rfl := Option.some.inj H
            exact J a w ⟨hk.to [0, 3, 4, 5] _ (by kernel_rfl), ho⟩
        · clear HX; rintro a w ⟨hk, ho⟩
          refine st_seq (C91 [1, 1, 1, 1, 1, 1, 0]) (C91 [1, 1, 1, 1, 1, 1, 1]) (by kernel_rfl) ?_
          refine st_block 0 (C91 [1, 1, 1, 1, 1, 1, 0, 0]) (by kernel_rfl) ?_
          obtain ⟨m88, h89, H⟩ := Option.bind_eq_some_iff.1 H
          refine st_loop (C91 [1, 1, 1, 1, 1, 1, 0, 0, 0]) (by kernel_rfl) ?_
          refine strconv_underscoreOK.l0_ok K m9 m35.1 m35.2.1 m35.2.2 m88 h89  w0 _ _ a w  (hk.to [0, 3, 4, 5] _ (by kernel_rfl)) ho ?_ ?_
          · intro s90  a w e hk ho; subst e
            simp only [] at H
            refine st_seq (C91 [1, 1, 1, 1, 1, 1, 1, 0]) (C91 [1, 1, 1, 1, 1, 1, 1, 1]) (by kernel_rfl) ?_
            refine st_region 21 (opsOf (C91 [1, 1, 1, 1, 1, 1, 1, 0])) [0, 1, 2] (by kernel_rfl) (by kernel_rfl) ?_
            refine st_pure tabOK hk [0, 1, 2] [] [2] [(2, .bool (s90 != 95))] (True) (by kernel_rfl) trivial ?_
            clear hk; intro a hk
            refine st_done ?_
            refine st_retG hk (by kernel_rfl) [.bool (s90 != 95)] #[.tmp 2] (by kernel_rfl) ⟨resT hk (by kernel_rfl), trivial⟩ ?_
            obtain rfl := Option.some.inj H
            exact ⟨_, rfl, rfl, ho⟩
          · intro r91  a w e hk ho; subst e
            simp only [] at H
            refine retG hk [.bool r91] #[.tmp 2] (by kernel_rfl) ⟨resT hk (by kernel_rfl), trivial⟩ ?_
            obtain rfl := Option.some.inj H
            exact ⟨_, rfl, rfl, ho⟩

end Go.Proofs.YtkkmbkelkbhecaaGreatDoor
