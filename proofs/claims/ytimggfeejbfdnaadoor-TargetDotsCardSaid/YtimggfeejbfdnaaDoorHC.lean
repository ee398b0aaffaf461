/- strings.Count, strings.Split, out of the library's contracts. -/
import Derived.Test.YtimggfeejbfdnaaDoorT
import Derived.Test.YtimggfeejbfdnaaDoorLay
set_option maxRecDepth 100000
set_option linter.unusedVariables false
namespace Go.Proofs.YtimggfeejbfdnaaDoor
open Go.Ev Go.Proofs.Tryd

open Go.Shelf
def strings_Count.f (p0 p1 : Str) : Option Int := match p1 with
  | [c] => some (p0.count c : Nat)
  | _ => none
abbrev strings_Count.post (w0 : World) (r : Int) (u : Value) (w : World) : Prop := u = I r ∧ Ows [] w0 w []
theorem strings_Count.ok (p0 p1 : Str) (r : Int) (H : strings_Count.f p0 p1 = some r) (w0 : World) : Calls Tryd.prog 17 ⟨[S p0, S p1]⟩ w0 fun e w => ∃ u, e = .returned u ∧ strings_Count.post w0 r u w := by
  unfold strings_Count.f at H
  split at H
  · rename_i c
    obtain rfl := Option.some.inj H
    refine (Any.strings_Count_one Tryd.lays138 ⟨⟨p0⟩⟩ c w0).mono ?_
    rintro e w ⟨rfl, rfl⟩
    exact ⟨_, rfl, rfl, Ows.start _⟩
  · cases H
/-- strings.Split's parts. -/
def splitL (p0 p1 : Str) : List Str := (Lib.splitB ⟨⟨p1⟩⟩ 0 (Lib.countB ⟨⟨p0⟩⟩ ⟨⟨p1⟩⟩) ⟨⟨p0⟩⟩).map (·.data.toList)
theorem splitL_len (p0 p1 : Str) (h : 1 ≤ p1.length) : (splitL p0 p1).length = Lib.countB ⟨⟨p0⟩⟩ ⟨⟨p1⟩⟩ + 1 := by
  unfold splitL
  rw [List.length_map]
  exact Lib.splitB_all ⟨⟨p1⟩⟩ h 0 _ ⟨⟨p0⟩⟩ rfl
def strings_Split.f (p0 p1 : Str) : Option (List Str) := if p0.length < 4294967281 ∧ 1 ≤ p1.length then some (splitL p0 p1) else none
abbrev strings_Split.post (w0 : World) (r : List Str) (u : Value) (w : World) : Prop := ∃ (o : Option Addr), ∃ (c : Nat), u = .slice o r.length c ∧ Ows [] w0 w [.row 0 9 1 (.slice o r.length c) r.length (r.map S)]
theorem strings_Split.ok (p0 p1 : Str) (r : List Str) (H : strings_Split.f p0 p1 = some r) (w0 : World) (hg : Glob w0) : Calls Tryd.prog 33 ⟨[S p0, S p1]⟩ w0 fun e w => ∃ u, e = .returned u ∧ strings_Split.post w0 r u w := by
  unfold strings_Split.f at H
  split at H
  · rename_i h
    obtain ⟨h0, h1⟩ := h
    obtain rfl := Option.some.inj H
    obtain ⟨m, hm⟩ := hg.ml
    obtain ⟨ad, ha, hm⟩ := hm 0 _ rfl
    obtain rfl := Option.some.inj ha
    have hl := splitL_len p0 p1 h1
    have hle := Lib.countB_le ⟨⟨p1⟩⟩ h1 p0.length ⟨⟨p0⟩⟩ (Nat.le_refl _)
    refine (Any.strings_Split Tryd.lays146 (by kernel_rfl) ⟨⟨p0⟩⟩ ⟨⟨p1⟩⟩ m w0 h0 hm h1).mono ?_
    rintro e w ⟨rfl, rfl⟩
    have hs : ((splitL p0 p1).map S) = (Lib.splitB ⟨⟨p1⟩⟩ 0 (Lib.countB ⟨⟨p0⟩⟩ ⟨⟨p1⟩⟩) ⟨⟨p0⟩⟩).map Value.string := by
      unfold splitL
      rw [List.map_map]
      rfl
    have hal := (Ows.start w0).alloc (.cells ((Lib.splitB ⟨⟨p1⟩⟩ 0 (Lib.countB ⟨⟨p0⟩⟩ ⟨⟨p1⟩⟩) ⟨⟨p0⟩⟩).map Value.string).toArray 9)
    rw [← hs] at hal ⊢
    have hcap : Lib.countB ⟨⟨p0⟩⟩ ⟨⟨p1⟩⟩ + 1 ≤ maxLen := by
      have hz : (⟨⟨p0⟩⟩ : ByteArray).size = p0.length := rfl
      have : (4294967296 : Nat) ≤ maxLen := by decide
      omega
    have hr := hal.asRow (size := 1) (n := (splitL p0 p1).length) (cap := (splitL p0 p1).length) (.inl rfl) (by simp) (Nat.le_refl _) (by omega) (xs := (splitL p0 p1).map S) (by rw [Nat.mul_one]; exact List.take_of_length_le (by simp))
    rw [← hl]
    exact ⟨_, rfl, _, _, rfl, hr⟩
  · cases H
end Go.Proofs.YtimggfeejbfdnaaDoor
