/- head.All: the values of a name's lines, out of a range over a function: the iterator's contract, and the loop that collects. -/
import Derived.RangeFuncBox
import Derived.RangeFuncLeaves
import Derived.Shelf.Abstract
import Derived.WalkKit
import Derived.OwnWalkIn
import Derived.TacticsInMore
import Derived.LoopNIn
import Derived.LoopIn
import Derived.Maps.AppendAt
import Derived.Test.YtifocgljpfaekaaDoorProg
import Derived.Test.YtifocgljpfaekaaDoorT
namespace Go.Proofs.YtifocgljpfaekaaDoor
open Go.RowKit Go.Shelf Go.Ev

attribute [local go_sem] Oper.semAt_some

/-- What has come when k rounds are over. -/
def hall.upto (N V : Nat → ByteArray) (nm : ByteArray) (k : Nat) : List ByteArray := ((List.range k).filter fun j => decide ((N j).toList = nm.toList)).map V
theorem hall.upto_hit (N V : Nat → ByteArray) (nm : ByteArray) (k : Nat) (h : (N k).toList = nm.toList) : hall.upto N V nm (k + 1) = hall.upto N V nm k ++ [V k] := by simp [hall.upto, List.range_succ, h]
theorem hall.upto_miss (N V : Nat → ByteArray) (nm : ByteArray) (k : Nat) (h : ¬ (N k).toList = nm.toList) : hall.upto N V nm (k + 1) = hall.upto N V nm k := by simp [hall.upto, List.range_succ, h]
theorem hall.upto_length (N V : Nat → ByteArray) (nm : ByteArray) (k : Nat) : (hall.upto N V nm k).length ≤ k := by
  rw [hall.upto, List.length_map]
  have := List.length_filter_le (fun j => decide ((N j).toList = nm.toList)) (List.range k)
  rwa [List.length_range] at this

/-- What a round keeps: what lies below n₀, and the name's box. -/
def hall.Kp (n₀ Bn : Nat) (nm : ByteArray) (W W' : World) : Prop := Below n₀ W W' ∧ (Boxed W Bn 9 (.string nm) → Boxed W' Bn 9 (.string nm))
theorem hall.Kp_t {n₀ Bn : Nat} {nm : ByteArray} {A B C : World} (h : hall.Kp n₀ Bn nm A B) (k : hall.Kp n₀ Bn nm B C) : hall.Kp n₀ Bn nm A C := ⟨h.1.trans k.1, fun x => k.2 (h.2 x)⟩
theorem hall.Kp_b {n₀ Bn : Nat} {nm : ByteArray} {w : World} (hn : n₀ ≤ w.heap.size) (W : World) (l : Nat) (o o' : Obj) (hl : w.heap.size ≤ l) (h : W.heap[l]? = some o) (hc : o.isCells = false) (hw : o.isWalk = false) : hall.Kp n₀ Bn nm W (W.putObj l o') :=
  ⟨belowK_b hn W l o o' hl h hc hw, fun x => x.kept (grownBy_putObj' W l o') (by rintro e; cases e; rw [show W.heap[Bn]? = _ from x] at h; cases h; cases hc)⟩
theorem hall.ownsRow_le {W : World} {a b e size n : Nat} {v : Value} {xs : List Value} (h : W.ownsRow b e size v n xs) (hab : a ≤ b) : W.ownsRow a e size v n xs := by
  obtain ⟨h1, h2⟩ := h
  refine ⟨h1, ?_⟩
  rcases h2 with h2 | ⟨g, cap, cur, h3, h4, h5⟩
  · exact .inl h2
  · exact .inr ⟨g, cap, cur, h3, by omega, h5⟩
theorem hall.app {W w1 : World} {B t e size n₀ b₁ k m Bn : Nat} {v v' : Value} {nm : ByteArray} {xs ys : List Value} {tmp : Obj} (hv : Boxed W B t v) (hte : t ≠ e) (hrow : W.ownsRow n₀ e size v k xs) (hb1 : b₁ ≤ W.heap.size) (hb1n : b₁ ≤ n₀) (hB : b₁ ≤ B)
    (hown' : w1.ownsRow n₀ e size v' m ys) (hgrow : (W.alloc tmp).grownBy w1 v.ownBlock) (hne : Bn ≠ B) (hlt : Bn < n₀) :
    Boxed w1 B t v ∧ Boxed (w1.setCell ⟨B, 0, none⟩ v') B t v' ∧ (w1.setCell ⟨B, 0, none⟩ v').ownsRow n₀ e size v' m ys ∧ KeepsOthers W (w1.setCell ⟨B, 0, none⟩ v') ∧ hall.Kp b₁ Bn nm W (w1.setCell ⟨B, 0, none⟩ v') := by
  obtain ⟨h1, h2, _, h4, h5⟩ := hv.appended hte (hall.ownsRow_le hrow hb1n) hb1 hB (hall.ownsRow_le hown' hb1n) hgrow
  refine ⟨h1, h2, hown'.kept (grownBy_setCell' w1 B v') (.inr (h1.not_row hte hown').symm), h4, h5, fun x => ?_⟩
  have x1 : Boxed w1 Bn 9 (.string nm) := (x.alloc tmp).kept hgrow (by
    rcases hrow.2 with ⟨rfl, _⟩ | ⟨g, cap, cur, rfl, hb, _⟩
    · simp [Value.ownBlock]
    · simp only [Value.ownBlock, ne_eq, Option.some.injEq]; omega)
  exact x1.kept (grownBy_setCell' w1 B v') (by simpa using hne)

set_option maxRecDepth 100000 in
set_option maxHeartbeats 2000000 in
theorem hall.closure_in (F : Fence) (n : Nat) (h7 : F.fn 55) (hro : F.round = none) (hn : 1 ≤ n) (l Bs Bn n₀ b off len cap : Nat) (N V : Nat → ByteArray) (nm : ByteArray) (hreach : len ≤ 4294967296) (hb : b < n₀) (J Jx : List ByteArray → World → Prop)
    (hJ : ∀ pre A B, J pre A → A.grownBy B none → J pre B)
    (hY : ∀ pre x W, J pre W → pre.length < len → YieldAt F (n - 1) Tryd.prog l #[.string x] W fun e W' =>
      (e = .returned (.bool true) ∧ J (pre ++ [x]) W' ∧ hall.Kp n₀ Bn nm W W') ∨ (e = .returned (.bool false) ∧ Jx (pre ++ [x]) W'))
    (W : World) (hsz : n₀ ≤ W.heap.size) (hBs : W.cell? ⟨Bs, 0, none⟩ = some (.slice (some ⟨b, off, none⟩) len cap)) (hBn : Boxed W Bn 9 (.string nm))
    (hc : ∀ j, j < len → W.cell? ⟨b, off + j * 2, none⟩ = some (.string (N j))) (hc2 : ∀ j, j < len → W.cell? ⟨b, off + j * 2 + 1, none⟩ = some (.string (V j))) (h0 : J [] W) :
    CallsIn F n Tryd.prog 55 #[.func (.yield l) #[] #[], .pointer (some ⟨Bs, 0, none⟩), .pointer (some ⟨Bn, 0, none⟩)] W fun e W' => (∃ v, e = .returned v) ∧
      ((∃ ys, ys = hall.upto N V nm len ∧ J ys W') ∨ (∃ pre, (∃ k, k ≤ len ∧ pre = hall.upto N V nm k) ∧ Jx pre W')) := by
  refine callsIn_of_wp Tryd.func55 rfl h7 ?_ hro
  simp only [Tryd.ntmps55, List.size_toArray, List.length_cons, List.length_nil, Nat.reduceAdd, Nat.reduceSub, Array.replicate_succ, Array.replicate_zero, List.push_toArray, List.append_toArray, List.nil_append, List.cons_append]
  gi_wp2
  gi_loopw [8] (fun i wr => ∃ k : Nat, k ≤ len ∧ i = .int .i64 k ∧ J (hall.upto N V nm k) wr ∧ hall.Kp n₀ Bn nm W wr)
    (fun i _ => len - (intOf i).toNat)
  case atStart => exact ⟨0, Nat.zero_le _, rfl, h0, Below.refl _ _, id⟩
  case round =>
    obtain ⟨k, hk, rfl, hJs, hnx, hnb⟩ := hrel
    by_cases hlt : k < len
    · have hcx1 : wr.cell? ⟨b, off + k * 2, none⟩ = some (.string (N k)) := (hnx.cell (p := ⟨b, off + k * 2, none⟩) hb).trans (hc k hlt)
      have hcx2 : wr.cell? ⟨b, off + k * 2 + 1, none⟩ = some (.string (V k)) := (hnx.cell (p := ⟨b, off + k * 2 + 1, none⟩) hb).trans (hc2 k hlt)
      have hbn := (hnb hBn).alloc (.cells #[.string (N k), .string (V k)] 31)
      have hcn := hbn.cell
      have hbk : hall.Kp n₀ Bn nm W (wr.alloc (.cells #[.string (N k), .string (V k)] 31)) := ⟨hnx.alloc (Nat.le_trans hsz hnx.size) _, fun _ => hbn⟩
      have hJ1 : J (hall.upto N V nm k) (wr.alloc (.cells #[.string (N k), .string (V k)] 31)) := hJ _ _ _ hJs (World.grownBy_alloc wr _ none)
      by_cases hq : (N k).toList = nm.toList
      rotate_left
      · gi_wp2
        refine ⟨fun _ h => (by cases h), ?_⟩
        gi_wp2
        go_roundw
        case rel => exact ⟨k + 1, by omega, by simp, by rw [hall.upto_miss N V nm k hq]; exact hJ1, hbk⟩
        case measure => simp [intOf]; omega
      · obtain ⟨fn, tmps, assign, body, hy, hR⟩ := hY _ (V k) _ hJ1 (Nat.lt_of_le_of_lt (hall.upto_length N V nm k) hlt)
        gi_wp2
        refine hR.mono ?_
        rintro e W3 (⟨rfl, hJ3, hk3⟩ | ⟨rfl, hJx3⟩)
        · gi_wp2
          go_roundw
          case rel => exact ⟨k + 1, by omega, by simp, by rw [hall.upto_hit N V nm k hq]; exact hJ3, hall.Kp_t hbk hk3⟩
          case measure => simp [intOf]; omega
        · gi_wp2
          refine bodyPost_ret (results_none rfl _ _ _) rfl ?_
          exact ⟨⟨_, rfl⟩, .inr ⟨_, ⟨k + 1, by omega, (hall.upto_hit N V nm k hq).symm⟩, hJx3⟩⟩
    · obtain rfl : k = len := by omega
      gi_wp2
      go_end0
      exact ⟨⟨_, rfl⟩, .inl ⟨_, rfl, hJs⟩⟩

set_option maxRecDepth 100000 in
set_option maxHeartbeats 1000000 in
theorem hall.closure_nil_in (F : Fence) (n : Nat) (h7 : F.fn 55) (hro : F.round = none) (l Bs Bn cap : Nat) (o : Option Addr) (J : List ByteArray → World → Prop) (W : World) (hBs : W.cell? ⟨Bs, 0, none⟩ = some (.slice o 0 cap)) (h0 : J [] W) :
    CallsIn F n Tryd.prog 55 #[.func (.yield l) #[] #[], .pointer (some ⟨Bs, 0, none⟩), .pointer (some ⟨Bn, 0, none⟩)] W fun e W' => (∃ v, e = .returned v) ∧ J [] W' := by
  refine callsIn_of_wp Tryd.func55 rfl h7 ?_ hro
  simp only [Tryd.ntmps55, List.size_toArray, List.length_cons, List.length_nil, Nat.reduceAdd, Nat.reduceSub, Array.replicate_succ, Array.replicate_zero, List.push_toArray, List.append_toArray, List.nil_append, List.cons_append]
  gi_wp2
  gi_loopw [8] (fun i wr => i = .int .i64 0 ∧ J [] wr) (fun _ _ => 0)
  case atStart => exact ⟨rfl, h0⟩
  case round =>
    obtain ⟨rfl, hJs⟩ := hrel
    gi_wp2
    go_end0
    exact ⟨⟨_, rfl⟩, hJs⟩

set_option maxHeartbeats 1000000 in
theorem hall.named_in (F : Fence) (n : Nat) (h5 : F.fn 40) (hro : F.round = none) (a : Option Addr) (len cap : Nat) (nm : ByteArray) (w : World) :
    CallsIn F n Tryd.prog 40 #[.slice a len cap, .string nm] w fun e w' => e = .returned (.func (.func 55) #[] #[.pointer (some ⟨w.heap.size, 0, none⟩), .pointer (some ⟨w.heap.size + 1, 0, none⟩)]) ∧ w' = (w.alloc (.cells #[.slice a len cap] 32)).alloc (.cells #[.string nm] 9) := by
  refine callsIn_of_wp Tryd.func40 rfl h5 ?_ hro
  simp only [Tryd.ntmps40, List.size_toArray, List.length_cons, List.length_nil, Nat.reduceAdd, Nat.reduceSub, Array.replicate_succ, Array.replicate_zero, List.push_toArray, List.append_toArray, List.nil_append, List.cons_append]
  gi_wp2
  go_ret
  exact ⟨rfl, rfl⟩

/-- The slice value holds the fields N j, V j, in a block below n₀; or there are none. -/
def hall.Fields (n₀ : Nat) (W : World) (a : Option Addr) (len : Nat) (N V : Nat → ByteArray) : Prop :=
  len = 0 ∨ ∃ b off, a = some ⟨b, off, none⟩ ∧ b < n₀ ∧ (∀ j, j < len → W.cell? ⟨b, off + j * 2, none⟩ = some (.string (N j))) ∧ ∀ j, j < len → W.cell? ⟨b, off + j * 2 + 1, none⟩ = some (.string (V j))
theorem hall.Fields.below {n₀ : Nat} {A B : World} (h : Below n₀ A B) {a : Option Addr} {len : Nat} {N V : Nat → ByteArray} : hall.Fields n₀ A a len N V → hall.Fields n₀ B a len N V
  | .inl e => .inl e
  | .inr ⟨b, off, e, hb, hc, hc2⟩ => .inr ⟨b, off, e, hb, fun j hj => (h.cell (p := ⟨b, off + j * 2, none⟩) hb).trans (hc j hj), fun j hj => (h.cell (p := ⟨b, off + j * 2 + 1, none⟩) hb).trans (hc2 j hj)⟩

theorem hall.stops (F : Fence) (n : Nat) (h7 : F.fn 55) (hro : F.round = none) (hn : 1 ≤ n) (Bs Bn n₀ : Nat) (a : Option Addr) (len cap : Nat) (N V : Nat → ByteArray) (nm : ByteArray) (hreach : len ≤ 4294967296) (w : World) (hBs : Bs < w.heap.size) (hn₀ : n₀ ≤ w.heap.size)
    (hc : w.cell? ⟨Bs, 0, none⟩ = some (.slice a len cap)) (hcn : Boxed w Bn 9 (.string nm)) (hI : hall.Fields n₀ w a len N V) :
    SeqStopsK F n Tryd.prog 55 #[.pointer (some ⟨Bs, 0, none⟩), .pointer (some ⟨Bn, 0, none⟩)] (fun x : ByteArray => #[Value.string x]) (hall.Kp n₀ Bn nm) (fun ys => ys = hall.upto N V nm len) (fun pre => ∃ k, k ≤ len ∧ pre = hall.upto N V nm k) len w := fun l J Jx W hW hJ _ hY h0 => by
  have hc' := (hW.cell (p := ⟨Bs, 0, none⟩) hBs).trans hc
  have hcn' : Boxed W Bn 9 (.string nm) := (hW.block Bn hcn.lt).trans hcn
  rcases hI.below (hW.mono hn₀) with rfl | ⟨b, off, rfl, hb, hcs, hcs2⟩
  · exact (hall.closure_nil_in F n h7 hro l Bs Bn cap a J W hc' h0).mono fun e W' ⟨he, hj⟩ => ⟨he, .inl ⟨_, rfl, hj⟩⟩
  · exact hall.closure_in F n h7 hro hn l Bs Bn n₀ b off len cap N V nm hreach hb J Jx (fun pre A B h hg => hJ pre A B none h hg (by intro r e; cases e)) hY W (Nat.le_trans hn₀ hW.size) hc' hcn' hcs hcs2 h0

theorem hall.info : (Tryd.prog.info? 9).map (fun i => (i.zero, i.size, i.bytes)) = some (some (.string .empty), 1, 16) := by kernel_rfl

set_option maxRecDepth 100000 in
set_option maxHeartbeats 2000000 in
theorem hall.all_in (F : Fence) (n : Nat) (h3 : F.fn 27) (h4 : F.fn 40) (h5 : F.fn 55) (hro : F.round = none) (hn : 3 ≤ n) (a : Option Addr) (len cap : Nat) (N V : Nat → ByteArray) (nm : ByteArray) (hreach : len ≤ 4294967296) (w : World) (hI : hall.Fields w.heap.size w a len N V) :
    CallsIn F n Tryd.prog 27 #[.slice a len cap, .string nm] w fun e W' => ∃ v, e = .returned v ∧ W'.ownsRow w.heap.size 9 1 v (hall.upto N V nm len).length ((hall.upto N V nm len).map Value.string) ∧ (v = .slice none 0 0 ↔ hall.upto N V nm len = []) ∧ Below w.heap.size w W' := by
  have h1 : 1 ≤ n := by omega
  obtain ⟨i0, hi, hz0, hz1, hz2⟩ := info_parts hall.info
  refine callsIn_of_wp_marks Tryd.func27 rfl h3 ?_ hro
  simp only [Tryd.ntmps27, List.size_toArray, List.length_cons, List.length_nil, Nat.reduceAdd, Nat.reduceSub, Array.replicate_succ, Array.replicate_zero, List.push_toArray, List.append_toArray, List.nil_append, List.cons_append]
  gi_wp2_with (gi_at_call 40; refine (hall.named_in F (n - 1) h4 hro _ _ _ _ _).mono ?_; rintro e w' ⟨rfl, rfl⟩)
  have bO := Boxed.new w 62 (.slice none 0 0)
  have bS := Boxed.new (w.alloc (.cells #[.slice none 0 0] 62)) 32 (.slice a len cap)
  have bN := Boxed.new ((w.alloc (.cells #[.slice none 0 0] 62)).alloc (.cells #[.slice a len cap] 32)) 9 (.string nm)
  rw [World.size_alloc] at bS
  rw [World.size_alloc, World.size_alloc] at bN
  have hB0 : Below w.heap.size w (((w.alloc (.cells #[.slice none 0 0] 62)).alloc (.cells #[.slice a len cap] 32)).alloc (.cells #[.string nm] 9)) := (((Below.refl _ w).alloc (Nat.le_refl _) _).alloc (by simp) _).alloc (by simp; omega) _
  refine wpIn_rangeFunc_ownG hro h1 (gf := 55) (lb := #[.pointer (some ⟨w.heap.size + 1, 0, none⟩), .pointer (some ⟨w.heap.size + 1 + 1, 0, none⟩)]) rfl h5 (enters_of Tryd.func55 (by kernel_rfl) rfl)
    (hall.stops F (n - 1) h5 hro (by omega) (w.heap.size + 1) (w.heap.size + 1 + 1) w.heap.size a len cap N V nm hreach _ (by simp) (by simp; omega) (bS.alloc _).cell bN (hI.below hB0)) hall.Kp_t (hall.Kp_b (by simp; omega)) (Below.refl _ _) (fun _ => rfl)
    (fun pre W => (∃ v, Boxed W w.heap.size 62 v ∧ W.ownsRow (w.heap.size + 3) 9 1 v pre.length (pre.map Value.string) ∧ (v = .slice none 0 0 ↔ pre = [])) ∧ Below w.heap.size w W ∧ w.heap.size + 3 ≤ W.heap.size)
    (fun _ _ _ => False)
    (OwnFrom.and (Own.from (holdsRow_own (w.heap.size + 3) w.heap.size 62 9 1 (fun pre : List ByteArray => pre.length) (fun pre => pre.map Value.string) (fun pre v => v = .slice none 0 0 ↔ pre = [])) _) (OwnFrom.and (ownFrom_below (Nat.le_refl _) (by simp; omega)) (fun _ _ _ _ hs hg _ => Nat.le_trans hs hg.size)))
    (fun _ _ _ _ _ hs _ _ => hs)
    ⟨⟨_, (bO.alloc _).alloc _, World.ownsRow_nil _ _ _ _, by simp⟩, hB0, by simp⟩
    (fun x => { tmps := #[.slice a len cap, .string nm, undef, undef, .slice none 0 0, .pointer (some ⟨w.heap.size, 0, none⟩), .string x, .slice a len cap, .string nm, .func (.func 55) #[] #[.pointer (some ⟨w.heap.size + 1, 0, none⟩), .pointer (some ⟨w.heap.size + 1 + 1, 0, none⟩)], .string x, undef, undef, undef, undef, undef], defers := [] }) ?assign ?body ?done ?stop
  case assign =>
    intro l x W K hK
    gi_wp2
    exact hK
  case body =>
    rintro l pre x W ⟨⟨v, hv, hrow, hnil⟩, hB, hsz3⟩ hlt
    have hc := hv.cell
    gi_wp2_with (gi_at_builtin; refine wpListIn_append_own _ rfl _ _ 62 rfl (w.heap.size + 3) 9 i0 (.string .empty) 1 16 Tryd.underlying62 hi hz0 hz1 hz2 rfl (by decide) _ _ _ rfl (hrow.alloc _) ⟨W.heap.size, 0, none⟩ 1 1 [.string x] rfl rfl (cell_one_new _ _ _) (by simp [Value.oneCell']) (by simp only [maxLen]; omega) (by omega) (by simp; omega) ?_; intro v' w1 hown' hgrow _; obtain ⟨g', cap', rfl⟩ := ownsRow_succ hown'; obtain ⟨hv1, hv2, hr2, hk2, hb2⟩ := hall.app (Bn := w.heap.size + 1 + 1) (nm := nm) (b₁ := w.heap.size) hv (by decide) hrow hB.size (by omega) (Nat.le_refl _) hown' hgrow (by omega) (by omega); have hc1 := hv1.cell; have hf1 := hv1.frozen)
    exact ⟨hk2.from _, hb2, ⟨_, hv2, by simpa using hr2, by simp⟩, hB.trans hb2.1, Nat.le_trans hsz3 hb2.1.size⟩
  case done =>
    rintro D ys W hD rfl ⟨⟨v, hv, hrow, hnil⟩, hB, _⟩ hK
    have hc := hv.cell
    gi_wp2
    refine ⟨by simp, .inl ⟨_, _, rfl, run_takeDeferred hK, ?_⟩⟩
    exact ⟨_, results_tmp rfl _ _ _, v, rfl, ownsRow_putObj (hall.ownsRow_le hrow (by omega)) _ hK rfl, hnil, hB.trans (belowK_b (w := w) (Nat.le_refl _) W D _ _ (by simp at hD; omega) hK rfl rfl)⟩
  case stop =>
    rintro D c pre W _ _ h _
    exact h.elim

/-! the contract in the form of the printed walks -/

theorem hall.revInd {α : Type} {motive : List α → Prop} (nil : motive []) (append_singleton : ∀ (l : List α) (x : α), motive l → motive (l ++ [x])) (l : List α) : motive l := by
  have h : ∀ r : List α, motive r.reverse := by
    intro r
    induction r with
    | nil => exact nil
    | cons x r ih => rw [List.reverse_cons]; exact append_singleton _ _ ih
  have := h l.reverse
  rwa [List.reverse_reverse] at this

/-- The values of a name's lines. -/
def head_All.f (p0 : List (Str × Str)) (p1 : Str) : Option (List Str) := if p0.length ≤ 4294967296 then some ((p0.filter fun x => x.1 == p1).map (·.2)) else none
abbrev head_All.post (w0 : World) (r : List Str) (u : Value) (w : World) : Prop := ∃ (o : Option Addr), ∃ (c : Nat), u = .slice o r.length c ∧ Ows [] w0 w [.row 2 9 1 (.slice o r.length c) r.length (r.map S)]

theorem hall.upto_eq : ∀ (l : List (Str × Str)) (p1 : Str), (hall.upto (fun j => ⟨⟨(Ev.get l (j : Int)).1⟩⟩) (fun j => ⟨⟨(Ev.get l (j : Int)).2⟩⟩) ⟨⟨p1⟩⟩ l.length).map Value.string = ((l.filter fun x => x.1 == p1).map (·.2)).map S := by
  intro l p1
  have key : ∀ (l : List (Str × Str)) (N V : Nat → ByteArray), (∀ j, j < l.length → N j = ⟨⟨(Ev.get l (j : Int)).1⟩⟩ ∧ V j = ⟨⟨(Ev.get l (j : Int)).2⟩⟩) → (hall.upto N V ⟨⟨p1⟩⟩ l.length).map Value.string = ((l.filter fun x => x.1 == p1).map (·.2)).map S := by
    intro l
    induction l using hall.revInd with
    | nil => intro N V _; simp [hall.upto]
    | append_singleton l x ih =>
      intro N V h
      have hx := h l.length (by simp)
      have e1 : Ev.get (l ++ [x]) (l.length : Int) = x := by simp [Ev.get]
      rw [e1] at hx
      have ih' := ih N V (fun j hj => by
        have := h j (by simp; omega)
        have e2 : Ev.get (l ++ [x]) (j : Int) = Ev.get l (j : Int) := by simp [Ev.get, List.getElem?_append_left hj]
        rw [e2] at this
        exact this)
      rw [List.length_append, List.length_singleton, List.filter_append, List.map_append, List.map_append, ← ih']
      by_cases hq : (N l.length).toList = (⟨⟨p1⟩⟩ : ByteArray).toList
      · rw [hall.upto_hit N V _ _ hq, hx.2]
        rw [hx.1] at hq
        simp only [Go.Ev.toList_eq] at hq
        simp [hq]
      · rw [hall.upto_miss N V _ _ hq]
        rw [hx.1] at hq
        simp only [Go.Ev.toList_eq] at hq
        simp [hq]
  exact key l _ _ (fun j _ => ⟨rfl, rfl⟩)

theorem head_All.ok (p0 : List (Str × Str)) (p1 : Str) (r : List Str) (H : head_All.f p0 p1 = some r) (w0 : World) (o : Option Addr) (c : Nat) (hr : Rd w0 o (p0.flatMap encT31)) (hl : p0.length ≤ c) :
    Calls Tryd.prog 27 ⟨[.slice o p0.length c, S p1]⟩ w0 fun e w => ∃ u, e = .returned u ∧ head_All.post w0 r u w := by
  unfold head_All.f at H
  split at H
  · rename_i hlen
    obtain rfl := Option.some.inj H
    have hF : hall.Fields w0.heap.size w0 o p0.length (fun j => ⟨⟨(Ev.get p0 (j : Int)).1⟩⟩) (fun j => ⟨⟨(Ev.get p0 (j : Int)).2⟩⟩) := by
      rcases Nat.eq_zero_or_pos p0.length with h0 | hp
      · exact .inl h0
      · right
        have hat : ∀ j, j < p0.length → ∀ i v, (encT31 (Ev.get p0 (j : Int)))[i]? = some v → ∃ ad, o = some ad ∧ w0.cell? (ad.add (j * 2 + i)) = some v := by
          intro j hj i v hv
          have := flat_cell (enc := encT31) (xs := p0) (i := (j : Int)) encT31_len (by omega) (by omega) hv
          obtain ⟨ad, h1, h2⟩ := hr _ _ this
          exact ⟨ad, h1, by simpa using h2⟩
        obtain ⟨⟨b, off, sp⟩, rfl, hc0⟩ := hat 0 hp 0 _ rfl
        have hsp : sp = none := by
          cases sp with
          | none => rfl
          | some s =>
            simp only [Nat.zero_mul, Nat.add_zero, Addr.add, if_true, World.cell?] at hc0
            split at hc0 <;> simp at hc0
        subst hsp
        have hat' : ∀ j, j < p0.length → ∀ i v, (encT31 (Ev.get p0 (j : Int)))[i]? = some v → w0.cell? ⟨b, off + (j * 2 + i), none⟩ = some v := by
          intro j hj i v hv
          obtain ⟨ad, h1, h2⟩ := hat j hj i v hv
          obtain rfl := Option.some.inj h1
          rw [addr_lit] at h2
          exact h2
        refine ⟨b, off, rfl, ?_, fun j hj => hat' j hj 0 _ rfl, fun j hj => hat' j hj 1 _ rfl⟩
        have := hat' 0 hp 0 _ rfl
        unfold World.cell? at this
        split at this
        · rename_i h
          exact (Array.getElem?_eq_some_iff.1 h).1
        · cases this
    have hc := (callsIn_wide (n := 3)).1 (hall.all_in Fence.wide 3 trivial trivial trivial rfl (Nat.le_refl _) o p0.length c _ _ ⟨⟨p1⟩⟩ hlen w0 hF)
    refine hc.mono ?_
    rintro e w ⟨v, rfl, hrow, hnil, hB⟩
    have hlen2 : (hall.upto (fun j => ⟨⟨(Ev.get p0 (j : Int)).1⟩⟩) (fun j => ⟨⟨(Ev.get p0 (j : Int)).2⟩⟩) ⟨⟨p1⟩⟩ p0.length).length = ((p0.filter fun x => x.1 == p1).map (·.2)).length := by
      have := congrArg List.length (hall.upto_eq p0 p1)
      simpa using this
    rw [hall.upto_eq, hlen2] at hrow
    obtain ⟨h1, h2⟩ := hrow
    have hnil2 : v = .slice none 0 0 ↔ ((p0.filter fun x => x.1 == p1).map (·.2)).length = 0 := by rw [hnil, ← hlen2, List.length_eq_zero_iff]
    refine ⟨v, rfl, ?_⟩
    rcases h2 with ⟨rfl, h3⟩ | ⟨g, cap, cur, rfl, h3, h4, h5, h6, h7, h8⟩
    · refine ⟨none, 0, by rw [h3], ⟨hB.os, hB.tape, hB.output, hB.size, fun k hk _ => hB.block k hk, ?_, by simp [feet, As.foot, obk], by simp [feet, As.foot, obk]⟩⟩
      intro A hA
      simp only [List.mem_singleton] at hA
      subst hA
      exact ⟨h1, .inl ⟨none, by rw [h3], h3, fun _ => rfl⟩⟩
    · have hpos : 0 < ((p0.filter fun x => x.1 == p1).map (·.2)).length := by
        rcases Nat.eq_zero_or_pos ((p0.filter fun x => x.1 == p1).map (·.2)).length with h | h
        · have := hnil2.2 h; cases this
        · exact h
      refine ⟨some ⟨g, 0, none⟩, cap, rfl, ⟨hB.os, hB.tape, hB.output, hB.size, fun k hk _ => hB.block k hk, ?_, ?_, ?_⟩⟩
      · intro A hA
        simp only [List.mem_singleton] at hA
        subst hA
        exact ⟨h1, .inr ⟨g, cap, cur, (0, 0), rfl, h4, .inl rfl, h5, h6, by omega, h7, h8, fun _ => hpos⟩⟩
      · simp only [feet, List.flatMap_cons, List.flatMap_nil, List.append_nil, As.foot]
        cases obk (Value.slice (some ⟨g, 0, none⟩) ((p0.filter fun x => x.1 == p1).map (·.2)).length cap) <;> simp
      · intro k hk
        simp only [feet, List.flatMap_cons, List.flatMap_nil, List.append_nil, As.foot, Option.mem_toList] at hk
        have := obk_some hk
        simp only at this
        subst this
        exact .inl h3
  · cases H
end Go.Proofs.YtifocgljpfaekaaDoor
