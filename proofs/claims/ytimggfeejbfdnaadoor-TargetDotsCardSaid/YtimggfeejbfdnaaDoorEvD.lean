/- An evaluator of the machine's operations, and that it says what the machine does (part EvD). -/
import Derived.Shelf.Unicode.DecodeSlow
import Derived.Test.YtimggfeejbfdnaaDoorEvB
/- Package-level tables; what the library's contracts leave behind. -/
namespace Go.Ev

theorem ofBelow {w0 w : World} (h : RowKit.Below w0.heap.size w0 w) : Ows [] w0 w [] := ⟨h.os, h.tape, h.output, h.size, fun k hk _ => h.block k hk, by simp, by simp [feet], by simp [feet]⟩
theorem toBelow {w0 w : World} {L : List As} (h : Ows [] w0 w L) : RowKit.Below w0.heap.size w0 w := ⟨h.os, h.tape, h.output, h.size, fun k hk => h.block k hk (by simp)⟩

theorem cell_ows {w0 w : World} {L : List As} (ho : Ows [] w0 w L) {a : Addr} {v : Value} (h : w0.cell? a = some v) : w.cell? a = some v := by
  have hlt := World.block_lt_of_cell? w0 _ h
  unfold World.cell? at h ⊢
  rw [ho.block a.block hlt (by simp)]
  exact h

theorem tabs_ows {w0 w : World} {L : List As} {g3 g4 : Nat} (h : Lib.Utf8Tabs g3 g4 w0) (ho : Ows [] w0 w L) : Lib.Utf8Tabs g3 g4 w :=
  ⟨fun c hc => cell_ows ho (h.1 c hc), fun i hi => ⟨cell_ows ho (h.2 i hi).1, cell_ows ho (h.2 i hi).2⟩⟩

theorem rd_ows {w0 w : World} {L : List As} {o : Option Addr} {xs : List Value} (hr : Rd w0 o xs) (h : Ows [] w0 w L) : Rd w o xs := hr.old h (fun _ _ => by simp)

end Go.Ev

