/- strings.Trim and its kin at an ASCII cutset, out of the library's contracts. -/
import Derived.Test.YtkkmbkelkbhecaaGreatDoorT
import Derived.Test.YtkkmbkelkbhecaaGreatDoorLay
set_option maxRecDepth 100000
set_option linter.unusedVariables false
namespace Go.Proofs.YtkkmbkelkbhecaaGreatDoor
open Go.Ev Go.Proofs.Tryz

open Go.Shelf
def strings_TrimLeft.f (p0 p1 : Str) : Option Str := if p0.length ≤ maxI ∧ p1.length < 4294967281 ∧ p1.all (fun b => decide (b.toNat < 128)) = true then some (Lib.trimLeftS p0 p1) else none
abbrev strings_TrimLeft.post (w0 : World) (r : Str) (u : Value) (w : World) : Prop := u = S r ∧ Ows [] w0 w []
theorem strings_TrimLeft.ok (p0 p1 : Str) (r : Str) (H : strings_TrimLeft.f p0 p1 = some r) (w0 : World) : Calls Tryz.prog 24 ⟨[S p0, S p1]⟩ w0 fun e w => ∃ u, e = .returned u ∧ strings_TrimLeft.post w0 r u w := by
  unfold strings_TrimLeft.f at H
  split at H
  · rename_i h
    obtain ⟨h1, h2, h3⟩ := h
    obtain rfl := Option.some.inj H
    refine (Any.strings_TrimLeft_laid Tryz.lays161 (by kernel_rfl) ⟨⟨p0⟩⟩ ⟨⟨p1⟩⟩ w0 h2 (ascii_of_all h3)).mono ?_
    rintro e w ⟨rfl, hb⟩
    exact ⟨_, rfl, rfl, ofBelow hb⟩
  · cases H
end Go.Proofs.YtkkmbkelkbhecaaGreatDoor
