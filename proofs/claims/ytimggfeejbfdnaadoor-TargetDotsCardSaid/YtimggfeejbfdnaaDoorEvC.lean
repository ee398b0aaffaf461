/- An evaluator of the machine's operations, and that it says what the machine does (part EvC). -/
import Derived.OpenShut
import Derived.ProofKit
import Derived.WideShapes
import Derived.Test.YtimggfeejbfdnaaDoorEvD
/- What a call is handed, read as data: values of flat types, slices of them; that a call which turns nothing leaves them as they were. -/
namespace Go.Ev
open Go.ChangeShapes Go.WideShapes

/-! ### a list gone through in Option -/

theorem mapM_len {α β : Type} {f : α → Option β} : ∀ {l : List α} {ys : List β}, l.mapM f = some ys → ys.length = l.length
  | [], ys, h => by simp at h; simp [h]
  | a :: l, ys, h => by
    rw [List.mapM_cons] at h
    simp only [bind, Option.bind_eq_some_iff, pure, Option.some.injEq] at h
    obtain ⟨y, _, zs, h2, rfl⟩ := h
    simp [mapM_len h2]

theorem mapM_get {α β : Type} {f : α → Option β} : ∀ {l : List α} {ys : List β}, l.mapM f = some ys → ∀ (i : Nat) (a : α), l[i]? = some a → ∃ y, ys[i]? = some y ∧ f a = some y
  | [], ys, h, i, a, hi => by simp at hi
  | x :: l, ys, h, i, a, hi => by
    rw [List.mapM_cons] at h
    simp only [bind, Option.bind_eq_some_iff, pure, Option.some.injEq] at h
    obtain ⟨y, h1, zs, h2, rfl⟩ := h
    cases i with
    | zero =>
      simp only [List.getElem?_cons_zero, Option.some.injEq] at hi
      subst hi
      exact ⟨y, rfl, h1⟩
    | succ i => exact mapM_get h2 i a (by simpa using hi)

theorem mapM_congr' {α β : Type} {f g : α → Option β} : ∀ {l : List α} {ys : List β}, l.mapM f = some ys → (∀ a ∈ l, ∀ y ∈ ys, f a = some y → g a = some y) → l.mapM g = some ys
  | [], ys, h, _ => by simpa using h
  | a :: l, ys, h, hg => by
    rw [List.mapM_cons] at h ⊢
    simp only [bind, Option.bind_eq_some_iff, pure, Option.some.injEq] at h ⊢
    obtain ⟨y, h1, zs, h2, rfl⟩ := h
    exact ⟨y, hg a (by simp) y (by simp) h1, zs, mapM_congr' h2 (fun b hb z hz => hg b (by simp [hb]) z (by simp [hz])), rfl⟩

/-! ### types whose reading goes through no pointer, map, function or interface -/

def flatT (P : Program) : Nat → TypeId → Bool
  | 0, _ => false
  | m + 1, t => match P.underlying t with
    | some .bool => true
    | some (.int _) => true
    | some .string => true
    | some (.struct fs) => fs.toList.all fun f => flatT P m f.type
    | some (.array _ e) => flatT P m e
    | some (.slice e) => Nat.blt 0 (P.cellsOf e) && flatT P m e
    | _ => false

section
variable {H : Type} {enc : TypeId × Value → H} {P : Program} {w w' : World}

theorem cell_lt {a : Addr} {v : Value} (h : w.cell? a = some v) : a.block < w.heap.size := by
  unfold World.cell? at h
  split at h
  · rename_i h2
    exact (Array.getElem?_eq_some_iff.1 h2).1
  · cases h

theorem cells_lt {a : Addr} {n : Nat} {cs : List Value} (hn : 0 < n) (h : w.cells? 0 a n = some cs) : a.block < w.heap.size := by
  unfold World.cells? at h
  rw [if_pos (Nat.zero_le _)] at h
  obtain ⟨y, _, h2⟩ := mapM_get h 0 0 (by simp [hn])
  have := cell_lt h2
  simpa [Addr.add] using this

theorem cells_kept (hb : ∀ k, k < w.heap.size → w'.heap[k]? = w.heap[k]?) {a : Addr} {n : Nat} {cs : List Value} (hn : 0 < n) (h : w.cells? 0 a n = some cs) : w'.cells? 0 a n = some cs := by
  have hlt := cells_lt hn h
  unfold World.cells? at h ⊢
  rw [if_pos (Nat.zero_le _)] at h ⊢
  refine mapM_congr' h fun i _ y _ hy => ?_
  have hbl : (a.add i).block = a.block := by unfold Addr.add; split <;> rfl
  unfold World.cell? at hy ⊢
  rw [hbl, hb a.block hlt]
  rw [hbl] at hy
  exact hy

theorem trod_kept (hb : ∀ k, k < w.heap.size → w'.heap[k]? = w.heap[k]?) : ∀ (fuel m : Nat) (t : TypeId) (cs : List Value) (x : DataW H × List MemPlace), flatT P m t = true →
    DataW.trod enc P w 0 (fun _ => true) true fuel t cs = some x → ∀ sp : Nat → Bool, (∀ p ∈ x.2, sp p.block = true) → DataW.trod enc P w' 0 sp true fuel t cs = some x := by
  intro fuel
  induction fuel with
  | zero => intro m t cs x _ h; simp [DataW.trod] at h
  | succ fuel ih =>
    intro m t cs x hf h sp hsp
    cases m with
    | zero => simp [flatT] at hf
    | succ m =>
      unfold flatT at hf
      split at hf
      · rename_i hu
        obtain ⟨b, rfl, rfl⟩ := DataW.trod_bool hu h
        rw [DataW.trod_step]; unfold DataW.trodStep; rw [hu]
      · rename_i k hu
        obtain ⟨b, rfl, rfl, hw⟩ := DataW.trod_int hu h
        rw [DataW.trod_step]; unfold DataW.trodStep; rw [hu]
        simp [hw]
      · rename_i hu
        obtain ⟨b, rfl, rfl, hw⟩ := DataW.trod_string hu h
        rw [DataW.trod_step]; unfold DataW.trodStep; rw [hu]
        simp [hw]
      · rename_i fs hu
        rw [DataW.trod_step] at h ⊢
        unfold DataW.trodStep at h ⊢
        rw [hu] at h ⊢
        simp only at h ⊢
        split at h
        · rename_i hl
          rw [if_pos hl]
          simp only [Option.map_eq_some_iff] at h ⊢
          obtain ⟨xs, hx, rfl⟩ := h
          refine ⟨xs, mapM_congr' hx fun f hf' y hy h1 => ?_, rfl⟩
          exact ih m f.type _ y (List.all_eq_true.1 hf f hf') h1 sp fun p hp => hsp p (List.mem_flatMap.2 ⟨y, hy, hp⟩)
        · cases h
      · rename_i n e hu
        rw [DataW.trod_step] at h ⊢
        unfold DataW.trodStep at h ⊢
        rw [hu] at h ⊢
        simp only at h ⊢
        split at h
        · rename_i hl
          rw [if_pos hl]
          simp only [Option.map_eq_some_iff] at h ⊢
          obtain ⟨xs, hx, rfl⟩ := h
          refine ⟨xs, mapM_congr' hx fun i _ y hy h1 => ?_, rfl⟩
          exact ih m e _ y hf h1 sp fun p hp => hsp p (List.mem_flatMap.2 ⟨y, hy, hp⟩)
        · cases h
      · rename_i e hu
        simp only [Bool.and_eq_true, Nat.blt_eq] at hf
        obtain ⟨hpos, hfe⟩ := hf
        have hform : cs = [.slice none 0 0] ∨ ∃ a len cap, cs = [.slice (some a) len cap] := by
          rcases DataW.trod_slice hu h with ⟨rfl, _⟩ | ⟨a, len, cap, _, _, _, _, rfl, _⟩
          · exact .inl rfl
          · exact .inr ⟨_, _, _, rfl⟩
        rw [DataW.trod_step] at h ⊢
        unfold DataW.trodStep at h ⊢
        rw [hu] at h ⊢
        rcases hform with rfl | ⟨a, len, cap, rfl⟩
        · exact h
        · simp only at h ⊢
          split at h
          · rename_i hc
            rw [if_pos hc]
            simp only [Option.bind_eq_some_iff, Option.map_eq_some_iff] at h ⊢
            obtain ⟨elems, h1, rest, h2, rfl⟩ := h
            simp only [if_true] at h2
            have le := mapM_len h1
            have lr := mapM_len h2
            rw [List.length_range] at le lr
            have step : ∀ (i : Nat) (y : DataW H × List MemPlace), (w.cells? 0 (a.add (i * P.cellsOf e)) (P.cellsOf e)).bind (DataW.trod enc P w 0 (fun _ => true) true fuel e) = some y → (∀ p ∈ y.2, sp p.block = true) →
                (w'.cells? 0 (a.add (i * P.cellsOf e)) (P.cellsOf e)).bind (DataW.trod enc P w' 0 sp true fuel e) = some y := by
              intro i y hy hp
              obtain ⟨cs', hc1, hc2⟩ := Option.bind_eq_some_iff.1 hy
              exact Option.bind_eq_some_iff.2 ⟨cs', cells_kept hb hpos hc1, ih m e cs' y hfe hc2 sp hp⟩
            refine ⟨elems, mapM_congr' h1 fun i _ y hy h3 => step i y h3 fun p hp => hsp p ?_, rest, ?_, rfl⟩
            · exact List.mem_append.2 (.inr (List.mem_flatMap.2 ⟨y, List.mem_append.2 (.inl hy), hp⟩))
            · by_cases hsa : sp a.block = true
              · rw [if_pos hsa]
                refine mapM_congr' h2 fun i _ y hy h3 => step _ y h3 fun p hp => hsp p ?_
                exact List.mem_append.2 (.inr (List.mem_flatMap.2 ⟨y, List.mem_append.2 (.inr hy), hp⟩))
              · rw [if_neg hsa]
                have hz : elems.length + rest.length = 0 := by
                  rcases Nat.eq_zero_or_pos (elems.length + rest.length) with hz | hz
                  · exact hz
                  · exfalso
                    refine hsa (hsp (.cell a.block a.off) (List.mem_append.2 (.inl ?_)))
                    have hk : 0 < (elems.length + rest.length) * P.cellsOf e := Nat.mul_pos hz hpos
                    unfold MemPlace.row
                    refine List.mem_map.2 ⟨0, List.mem_range.2 hk, by simp⟩
                have : rest = [] := List.eq_nil_of_length_eq_zero (by omega)
                rw [this]
          · cases h
      · cases hf

theorem trodAll_kept (hb : ∀ k, k < w.heap.size → w'.heap[k]? = w.heap[k]?) (m : Nat) (sp : Nat → Bool) : ∀ {ts : List TypeId} {vs : List Value} {ds : List (DataW H)} {ps : List MemPlace}, ts.all (flatT P m) = true →
    DataW.TrodAll enc P w 0 (fun _ => true) true ts vs ds ps → (∀ p ∈ ps, sp p.block = true) → DataW.TrodAll enc P w' 0 sp true ts vs ds ps
  | [], vs, ds, ps, _, h, _ => by
    obtain ⟨rfl, rfl, rfl⟩ := trodAll_nil h
    exact trodAll_mk0
  | t :: ts, vs, ds, ps, hf, h, hsp => by
    obtain ⟨v, vs1, d, ds1, p, q, rfl, rfl, rfl, ⟨fuel, h1⟩, h2⟩ := trodAll_cons h
    simp only [List.all_cons, Bool.and_eq_true] at hf
    exact trodAll_cons_mk ⟨fuel, trod_kept hb fuel m t _ _ hf.1 h1 sp fun p hp => hsp p (List.mem_append.2 (.inl hp))⟩ (trodAll_kept hb m sp hf.2 h2 fun p hp => hsp p (List.mem_append.2 (.inr hp)))

theorem ows_kept (h : Ows [] w w' []) (may : MemPlace → Prop) : w.keptBut w' may := by
  refine ⟨h.os, h.output, fun i hi => ?_⟩
  rw [h.block i hi (by simp)]
  cases hi' : w.heap[i]? with
  | none => rfl
  | some o => cases o <;> simp

theorem ows_frozen (h : Ows [] w w' []) {a : Addr} (ha : a.block < w.heap.size) : w'.frozen? a = w.frozen? a := by
  unfold World.frozen?
  rw [h.block a.block ha (by simp)]

/-- A law's end: it answers true, and nothing has turned. -/
theorem post_law {f : Func} {s : ChangeSpec} {apart fresh handsOn again : Bool} {args : Array Value} {ds : List (DataW H)} {before : List MemPlace} {m tb : Nat}
    (hvars : s.vars = []) (hW : DataW.Whole enc P f.params.toList s.vars apart w args.toList ds [] before) (hfn : (s.fn H (ds ++ [])).results = [.lit (.bool true)] ∧ (s.fn H (ds ++ [])).args = ds ∧ (s.fn H (ds ++ [])).vars = [])
    (hflat : f.params.toList.all (flatT P m) = true) (hres : f.resultTypes = #[tb]) (htb : P.underlying tb = some .bool) (h : Ows [] w w' []) : s.post enc P f apart fresh handsOn again w args (.bool true) w' := by
  have hW' := hW
  obtain ⟨p, q, hA, hV, rfl, hz, hn⟩ := hW
  rw [hvars] at hV
  have hq : q = [] := by simpa [DataW.TrodVars] using hV
  subst hq
  have hold : ∀ x ∈ p, decide (x.block < w.heap.size) = true := fun x hx => by simpa using hW'.lt x (by simpa using hx)
  have hshut : ∀ (b : Nat) (sp : Nat → Bool) (hd : Bool), DataW.TrodAll enc P w' b sp hd f.resultTypes.toList ((Value.bool true).resultList f.resultTypes.size) [.lit (.bool true)] [] := by
    intro b sp hd
    rw [hres]
    exact trodAll_cons_mk (RowKit.shut_bool htb true) trodAll_mk0
  have hb : ∀ k, k < w.heap.size → w'.heap[k]? = w.heap[k]? := fun k hk => h.block k hk (by simp)
  have hargs : ∀ sp : Nat → Bool, (∀ x ∈ p, sp x.block = true) → DataW.TrodAll enc P w' 0 sp true f.params.toList args.toList ds p := fun sp hsp => trodAll_kept hb m sp hflat hA hsp
  have hv0 : ∀ sp : Nat → Bool, DataW.TrodVars enc P w' sp s.vars [] [] := by
    intro sp; rw [hvars]; rfl
  refine ⟨ds, [], p ++ [], [], p, [], hW', ?_, ?_, ?_, ows_kept h _, fun _ => ?_⟩
  · rw [hfn.1]; exact hshut _ _ _
  · rw [hfn.2.1]; exact hargs _ hold
  · rw [hfn.2.2]; exact hv0 _
  · refine ⟨?_, _, _, ([] ++ p) ++ [], ⟨[] ++ p, [], trodAll_append (hargs _ (fun _ _ => rfl)) (hshut _ _ _), hv0 _, rfl, ?_, ?_⟩, ?_⟩
    · exact RowKit.ok_one hres rfl (RowKit.okWide_bool_mk htb true)
    · intro b off hp
      have hp' : MemPlace.cell b off ∈ p := by simpa using hp
      have hlt : b < w.heap.size := of_decide_eq_true (hold _ hp')
      rw [ows_frozen h hlt]
      exact hz b off (by simpa using hp')
    · intro ha
      have := hn ha
      simpa using this
    · intro x hx _
      simpa using hx

end

/-! ### values of flat types, opened -/

inductive LV where
  | i (k : IntKind) (n : Int)
  | b (x : Bool)
  | s (l : Str)

inductive LK where
  | i (k : IntKind)
  | b
  | s
  deriving DecidableEq

def LV.val : LV → Value
  | .i k n => .int k n
  | .b x => .bool x
  | .s l => S l

def LV.kind : LV → LK
  | .i k _ => .i k
  | .b _ => .b
  | .s _ => .s

def LV.wt : LV → Nat
  | .s l => l.length
  | _ => 0

def LV.wf : LV → Prop
  | .i k n => (Lit.int k n).wf = true
  | .b _ => True
  | .s l => l.length ≤ maxLen

def wts : List LV → Nat
  | [] => 0
  | v :: r => v.wt + 1 + wts r

theorem wts_append : ∀ a b : List LV, wts (a ++ b) = wts a + wts b
  | [], b => by simp [wts]
  | v :: a, b => by simp only [List.cons_append, wts, wts_append a b]; omega

def bulk {H : Type} : DataW H → Nat
  | .lit (.string bytes) => bytes.length + 1
  | .lit _ => 1
  | .agg parts => bulkL parts + 1
  | .slice elems _ => bulkL elems + 1
  | _ => 1
where
  bulkL {H : Type} : List (DataW H) → Nat
    | [] => 0
    | d :: r => bulk d + bulkL r

/-- The leaves of a flat type, where its parts lie one behind another. -/
def scalP (g : TypeId → Option (List LK)) (size : TypeId → Nat) : List (Nat × TypeId) → Nat → Option (List LK)
  | [], _ => some []
  | (o, t) :: r, off => match Nat.beq o off, g t, scalP g size r (off + size t) with
    | true, some a, some b => match Nat.beq a.length (size t) with
      | true => some (a ++ b)
      | false => none
    | _, _, _ => none

def scal (P : Program) : Nat → TypeId → Option (List LK)
  | 0, _ => none
  | m + 1, t => match P.underlying t with
    | some .bool => some [.b]
    | some (.int k) => some [.i k]
    | some .string => some [.s]
    | some (.struct fs) => match scalP (scal P m) P.cellsOf (fs.toList.map fun f => (f.offset, f.type)) 0 with
      | some l => match Nat.beq l.length (P.cellsOf t) with
        | true => some l
        | false => none
      | none => none
    | some (.array n e) => match scalP (scal P m) P.cellsOf ((List.range n).map fun i => (i * P.cellsOf e, e)) 0 with
      | some l => match Nat.beq l.length (P.cellsOf t) with
        | true => some l
        | false => none
      | none => none
    | _ => none

section
variable {H : Type} {enc : TypeId × Value → H} {P : Program} {w : World} {base : Nat} {spare : Nat → Bool} {held : Bool}

def LeafR (cs : List Value) (x : DataW H × List MemPlace) (ls : List LK) : Prop :=
  ∃ vs : List LV, cs = vs.map LV.val ∧ vs.map LV.kind = ls ∧ x.2 = [] ∧ wts vs ≤ bulk x.1 ∧ ∀ v ∈ vs, v.wf

theorem scalP_sound {n : Nat} {g : TypeId → Option (List LK)} (hg : ∀ t ls cs x, g t = some ls → DataW.trod enc P w base spare held n t cs = some x → LeafR cs x ls) (cs : List Value) :
    ∀ (ps : List (Nat × TypeId)) (off : Nat) (ls : List LK) (xs : List (DataW H × List MemPlace)), scalP g P.cellsOf ps off = some ls →
      ps.mapM (fun p => DataW.trod enc P w base spare held n p.2 ((cs.drop p.1).take (P.cellsOf p.2))) = some xs →
      ∃ vs : List LV, (cs.drop off).take ls.length = vs.map LV.val ∧ vs.map LV.kind = ls ∧ xs.flatMap (·.2) = [] ∧ wts vs ≤ bulk.bulkL (xs.map (·.1)) ∧ ∀ v ∈ vs, v.wf := by
  intro ps
  induction ps with
  | nil =>
    intro off ls xs h hx
    simp only [scalP, Option.some.injEq] at h
    simp at hx
    subst h hx
    exact ⟨[], by simp, rfl, rfl, Nat.le_refl _, by simp⟩
  | cons p ps ih =>
    intro off ls xs h hx
    obtain ⟨o, t⟩ := p
    rw [List.mapM_cons] at hx
    simp only [bind, Option.bind_eq_some_iff, pure, Option.some.injEq] at hx
    obtain ⟨y, h1, ys, h2, rfl⟩ := hx
    simp only [scalP] at h
    split at h
    · rename_i a b ho ha hb
      split at h
      · rename_i hl
        obtain rfl := Nat.eq_of_beq_eq_true ho
        have hl := Nat.eq_of_beq_eq_true hl
        obtain rfl := Option.some.inj h
        obtain ⟨vs1, e1, k1, p1, w1, f1⟩ := hg t a _ y ha h1
        obtain ⟨vs2, e2, k2, p2, w2, f2⟩ := ih _ b ys hb h2
        refine ⟨vs1 ++ vs2, ?_, by simp [k1, k2], by simp [p1, p2], ?_, ?_⟩
        · rw [List.map_append, ← e1, ← e2, List.length_append, hl, ← List.drop_drop, List.take_add]
        · rw [wts_append]; simp only [List.map_cons, bulk.bulkL]; omega
        · intro v hv
          rcases List.mem_append.1 hv with hv | hv
          · exact f1 v hv
          · exact f2 v hv
      · cases h
    · cases h

theorem scal_sound : ∀ (fuel m : Nat) (t : TypeId) (ls : List LK) (cs : List Value) (x : DataW H × List MemPlace), scal P m t = some ls → DataW.trod enc P w base spare held fuel t cs = some x → LeafR cs x ls := by
  intro fuel
  induction fuel with
  | zero => intro m t ls cs x _ h; simp [DataW.trod] at h
  | succ fuel ih =>
    intro m t ls cs x hs h
    cases m with
    | zero => simp [scal] at hs
    | succ m =>
      unfold scal at hs
      split at hs
      · rename_i hu
        obtain rfl := Option.some.inj hs
        obtain ⟨b, rfl, rfl⟩ := DataW.trod_bool hu h
        exact ⟨[.b b], rfl, rfl, rfl, by simp [wts, LV.wt, bulk], by simp [LV.wf]⟩
      · rename_i k hu
        obtain rfl := Option.some.inj hs
        obtain ⟨n, rfl, rfl, hw⟩ := DataW.trod_int hu h
        exact ⟨[.i k n], rfl, rfl, rfl, by simp [wts, LV.wt, bulk], by simpa [LV.wf] using hw⟩
      · rename_i hu
        obtain rfl := Option.some.inj hs
        obtain ⟨s, rfl, rfl, hw⟩ := DataW.trod_string hu h
        exact ⟨[.s s.data.toList], rfl, rfl, rfl, by simp [wts, LV.wt, bulk], by simpa [LV.wf] using hw⟩
      · rename_i fs hu
        split at hs
        · rename_i l hl
          split at hs
          · rename_i hc
            obtain rfl := Option.some.inj hs
            have hc := Nat.eq_of_beq_eq_true hc
            rw [DataW.trod_step] at h
            unfold DataW.trodStep at h
            rw [hu] at h
            simp only at h
            split at h
            · rename_i hlen
              simp only [Option.map_eq_some_iff] at h
              obtain ⟨xs, hx, rfl⟩ := h
              obtain ⟨vs, e1, k1, p1, w1, f1⟩ := scalP_sound (fun t ls cs x => ih m t ls cs x) cs _ 0 l xs hl (by rw [List.mapM_map]; exact hx)
              refine ⟨vs, ?_, k1, p1, by simp only [bulk]; omega, f1⟩
              rw [← e1, List.drop_zero, hc, ← hlen, List.take_length]
            · cases h
          · cases hs
        · cases hs
      · rename_i n e hu
        split at hs
        · rename_i l hl
          split at hs
          · rename_i hc
            obtain rfl := Option.some.inj hs
            have hc := Nat.eq_of_beq_eq_true hc
            rw [DataW.trod_step] at h
            unfold DataW.trodStep at h
            rw [hu] at h
            simp only at h
            split at h
            · rename_i hlen
              simp only [Option.map_eq_some_iff] at h
              obtain ⟨xs, hx, rfl⟩ := h
              obtain ⟨vs, e1, k1, p1, w1, f1⟩ := scalP_sound (fun t ls cs x => ih m t ls cs x) cs _ 0 l xs hl (by rw [List.mapM_map]; exact hx)
              refine ⟨vs, ?_, k1, p1, by simp only [bulk]; omega, f1⟩
              rw [← e1, List.drop_zero, hc, ← hlen, List.take_length]
            · cases h
          · cases hs
        · cases hs
      · cases hs

theorem kind_b {v : LV} (h : v.kind = .b) : ∃ x, v = .b x := by cases v <;> simp_all [LV.kind]
theorem kind_s {v : LV} (h : v.kind = .s) : ∃ x, v = .s x := by cases v <;> simp_all [LV.kind]
theorem kind_i {v : LV} {k : IntKind} (h : v.kind = .i k) : ∃ n, v = .i k n := by cases v <;> simp_all [LV.kind]
theorem kinds_cons {vs : List LV} {k : LK} {ks : List LK} (h : vs.map LV.kind = k :: ks) : ∃ v r, vs = v :: r ∧ v.kind = k ∧ r.map LV.kind = ks := by
  cases vs with
  | nil => cases h
  | cons v r => simp only [List.map_cons, List.cons.injEq] at h; exact ⟨v, r, rfl, h.1, h.2⟩
theorem kinds_nil {vs : List LV} (h : vs.map LV.kind = []) : vs = [] := by simpa using h
theorem kinds_b {vs : List LV} {ks : List LK} (h : vs.map LV.kind = .b :: ks) : ∃ x r, vs = .b x :: r ∧ r.map LV.kind = ks := by
  obtain ⟨v, r, rfl, h1, h2⟩ := kinds_cons h
  obtain ⟨x, rfl⟩ := kind_b h1
  exact ⟨x, r, rfl, h2⟩
theorem kinds_s {vs : List LV} {ks : List LK} (h : vs.map LV.kind = .s :: ks) : ∃ x r, vs = .s x :: r ∧ r.map LV.kind = ks := by
  obtain ⟨v, r, rfl, h1, h2⟩ := kinds_cons h
  obtain ⟨x, rfl⟩ := kind_s h1
  exact ⟨x, r, rfl, h2⟩
theorem kinds_i {vs : List LV} {k : IntKind} {ks : List LK} (h : vs.map LV.kind = .i k :: ks) : ∃ x r, vs = .i k x :: r ∧ r.map LV.kind = ks := by
  obtain ⟨v, r, rfl, h1, h2⟩ := kinds_cons h
  obtain ⟨x, rfl⟩ := kind_i h1
  exact ⟨x, r, rfl, h2⟩

/-- A value of a struct's or an array's type. -/
theorem open_flat {r : Reach} {b0 m : Nat} {t : TypeId} {v : Value} {d : DataW H} {ps : List MemPlace} {ls : List LK} (hs : scal P m t = some ls) (hg : aggB P t = true) (hval : Value.okWide P w r b0 t v) (hd : DataW.Trod enc P w base spare held t v d ps) :
    ∃ vs : List LV, v = .agg ⟨vs.map LV.val⟩ ∧ vs.map LV.kind = ls ∧ ps = [] ∧ wts vs ≤ bulk d ∧ ∀ x ∈ vs, x.wf := by
  obtain ⟨fuel, h⟩ := hd
  obtain ⟨vs, e1, k1, p1, w1, f1⟩ := scal_sound fuel m t ls _ _ hs h
  refine ⟨vs, ?_, k1, p1, w1, f1⟩
  have hagg : ∃ cs, v = .agg cs := by
    unfold aggB at hg
    unfold Value.okWide at hval
    split at hg
    · rename_i hu
      rw [hu] at hval
      simp only at hval
      obtain ⟨cs, h, _⟩ := hval
      exact ⟨cs, h⟩
    · rename_i hu
      rw [hu] at hval
      simp only at hval
      obtain ⟨cs, h, _⟩ := hval
      exact ⟨cs, h⟩
    · cases hg
  obtain ⟨cs, rfl⟩ := hagg
  simp only [Value.cells] at e1
  congr 1
  apply Array.toList_inj.1
  exact e1

/-- A value of one cell. -/
theorem open_leaf {m : Nat} {t : TypeId} {v : Value} {d : DataW H} {ps : List MemPlace} {k : LK} (hs : scal P m t = some [k]) (hv : ∀ cs, v ≠ .agg cs) (hd : DataW.Trod enc P w base spare held t v d ps) :
    ∃ x : LV, v = x.val ∧ x.kind = k ∧ ps = [] ∧ x.wt + 1 ≤ bulk d ∧ x.wf := by
  obtain ⟨fuel, h⟩ := hd
  obtain ⟨vs, e1, k1, p1, w1, f1⟩ := scal_sound fuel m t [k] _ _ hs h
  match vs, k1 with
  | [x], k1 =>
    have hc : v.cells = #[v] := by
      cases v <;> first | rfl | exact absurd rfl (hv _)
    rw [hc] at e1
    refine ⟨x, by simpa using e1, by simpa using k1, p1, by simpa [wts] using w1, f1 x (by simp)⟩

end

end Go.Ev

