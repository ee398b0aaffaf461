/- An evaluator of the machine's operations, and that it says what the machine does (part EvB). -/
import Derived.Orders
import Derived.Laws.Externs
import Derived.Lib.Builder
import Derived.Lib.UnsafeStr
import Derived.Room.MakeNoZero
import Derived.Deep.AppendSrc
import Derived.Lib.Bytealg
import Derived.Test.YtimggfeejbfdnaaDoorEvA
/- Operations that make memory, over what is owned: boxes, literals, make, append, strings and bytes. -/
namespace Go.Ev

variable {P : Program} {T : Tab}
variable {zz : Nat}

/-! ### several cells at once -/

def putL (cs : Array Value) (k : Nat) (vs : List Value) : Array Value := ⟨cs.toList.take k ++ vs ++ cs.toList.drop (k + vs.length)⟩

theorem putL_nil (cs : Array Value) (k : Nat) : putL cs k [] = cs := by simp [putL]

theorem putL_cons (cs : Array Value) (k : Nat) (v : Value) (vs : List Value) (h : k + (vs.length + 1) ≤ cs.size) : putL (cs.setIfInBounds k v) (k + 1) vs = putL cs k (v :: vs) := by
  obtain ⟨l⟩ := cs
  simp only [List.size_toArray] at h
  apply Array.toList_inj.1
  simp only [putL, List.setIfInBounds_toArray, List.length_cons]
  apply List.ext_getElem?
  intro j
  simp only [List.getElem?_append, List.getElem?_take, List.getElem?_drop, List.length_append, List.length_take, List.length_set, List.getElem?_set, List.length_cons, List.getElem?_cons]
  rcases Nat.lt_trichotomy j k with hj | rfl | hj
  · have h1 : j < min (k + 1) l.length + vs.length := by omega
    have h2 : j < min (k + 1) l.length := by omega
    have h3 : j < min k l.length := by omega
    have h4 : j < k + 1 := by omega
    have h5 : ¬ k = j := by omega
    have h6 : j < min k l.length + (vs.length + 1) := by omega
    simp only [h1, h2, h3, h4, h5, h6, hj, if_true, if_false]
  · have h1 : j < min (j + 1) l.length + vs.length := by omega
    have h2 : j < min (j + 1) l.length := by omega
    have h3 : ¬ j < min j l.length := by omega
    have h6 : j < min j l.length + (vs.length + 1) := by omega
    have h7 : j - min j l.length = 0 := by omega
    have h8 : j < l.length := by omega
    simp only [h1, h2, h3, h6, h7, h8, Nat.lt_succ_self, if_true, if_false]
  · have h2 : ¬ j < min (k + 1) l.length := by omega
    have h3 : ¬ j < min k l.length := by omega
    have h7 : ¬ j - min k l.length = 0 := by omega
    simp only [h2, h3, h7, if_false]
    by_cases h1 : j < min (k + 1) l.length + vs.length
    · have h6 : j < min k l.length + (vs.length + 1) := by omega
      have e1 : j - min k l.length - 1 = j - min (k + 1) l.length := by omega
      simp only [h1, h6, if_true, e1]
    · have h6 : ¬ j < min k l.length + (vs.length + 1) := by omega
      have e1 : k + 1 + vs.length + (j - (min (k + 1) l.length + vs.length)) = k + (vs.length + 1) + (j - (min k l.length + (vs.length + 1))) := by omega
      have e2 : ¬ k = k + (vs.length + 1) + (j - (min k l.length + (vs.length + 1))) := by omega
      simp only [h1, h6, if_false, e1, e2]

theorem run_stores {b e : Nat} {fz : Nat × Nat} (off : Nat) : ∀ (vs : List Value) (i : Nat) (cs : Array Value) (w : World), w.heap[b]? = some (.cells cs e fz) → off + i + vs.length ≤ cs.size →
    (∀ k, off + i ≤ k → k < off + i + vs.length → freeAt fz k = true) → (∀ v ∈ vs, v.oneCell' = true) → (storeCells ⟨b, off, none⟩ vs i).run P w = .ok () (w.setRow b (putL cs (off + i) vs))
  | [], i, cs, w, hb, _, _, _ => by
    rw [putL_nil, setRow_self w b cs e fz hb]
    rfl
  | v :: vs, i, cs, w, hb, hl, hf, h1 => by
    simp only [List.length_cons] at hl hf
    have hs := run_store_blk (P := P) (off := off + i) hb (by omega) (hf _ (Nat.le_refl _) (by omega)) (h1 v (by simp))
    rw [setCell_eq_setRow w b (off + i) cs e fz v hb] at hs
    have ih := run_stores off vs (i + 1) (cs.setIfInBounds (off + i) v) (w.setRow b (cs.setIfInBounds (off + i) v)) (setRow_heap w b cs _ e fz hb) (by simp; omega)
      (fun k hk hk' => hf k (by omega) (by omega)) (fun x hx => h1 x (by simp [hx]))
    rw [show off + (i + 1) = off + i + 1 from rfl, putL_cons _ _ _ _ (by omega), setRow_setRow] at ih
    simp only [storeCells, addr_lit, Sem.run_bind, hs, Result.andThen_ok, ih]

theorem Ows.setRow {ex : List Nat} {w0 w : World} {L : List As} {b e : Nat} {cs : Array Value} {fz : Nat × Nat} (h : Ows ex w0 w (.blk b (.cells cs e fz) :: L)) (cs' : Array Value) :
    Ows ex w0 (w.setRow b cs') (.blk b (.cells cs' e fz) :: L) := by
  have hb := h.sat _ (List.mem_cons_self ..)
  simp only [As.sat] at hb
  have hnd := h.nodup
  simp only [feet, List.flatMap_cons, As.foot, List.singleton_append, List.nodup_cons] at hnd
  refine h.step rfl rfl rfl (by simp [World.setRow]) [b] (fun k _ hk => setRow_other w b k cs' (by simpa using hk)) ?_ ?_ ?_ ?_
  · intro k hk hlt
    simp only [List.mem_singleton] at hk
    subst hk
    exact (h.fresh k (by simp [feet, As.foot])).resolve_left (by omega)
  · intro A hA
    rcases List.mem_cons.1 hA with rfl | hA'
    · exact setRow_heap w b cs _ e fz hb
    · refine As.sat_of (h.sat A (List.mem_cons_of_mem _ hA')) fun k hk => setRow_other w b k cs' ?_
      intro e'
      subst e'
      exact hnd.1 (List.mem_flatMap.2 ⟨A, hA', hk⟩)
  · simp only [feet, List.flatMap_cons, As.foot, List.singleton_append, List.nodup_cons]
    exact hnd
  · intro k hk
    exact h.fresh k (by simpa [feet, As.foot] using hk)

section
variable {N : Nat} {ops : Array Oper} {Q : Exit → Act → World → Prop} {i : Nat} {rest : List Nat} {a : Act} {kn : KN} {w w0 : World} {ex : List Nat} {L : List As}

/-- A variable of several cells, written whole: in a block that is known whole. -/
theorem st_storeA (hk : Kn N a kn) (ho : Ows ex w0 w L) (j : Nat) (t b off : Nat) (vs : List Value) (cs : Array Value) (e : Nat) (fz : Nat × Nat) (L' : List As) (h : stOp ops kn i = some (t, some ⟨b, off, none⟩, .agg ⟨vs⟩))
    (hsz : P.cellsOf t = vs.length) (hinf : (P.info? t).isSome = true) (hj : L[j]? = some (.blk b (.cells cs e fz))) (hoff : off + vs.length ≤ cs.size) (hf : ∀ k, off ≤ k → k < off + vs.length → freeAt fz k = true) (h1 : ∀ v ∈ vs, v.oneCell' = true)
    (hL : L.set j (.blk b (.cells (putL cs off vs) e fz)) = L') (next : ∀ w', Ows ex w0 w' L' → wpOps P ops Q rest a w') : wpOps P ops Q (i :: rest) a w := by
  obtain ⟨o, x, y, hop, hw, hd, hst, hx, hy⟩ := stOp_sound hk h
  obtain ⟨inf, hi⟩ := Option.isSome_iff_exists.1 hinf
  have hs1 : inf.size = vs.length := by simpa [Program.cellsOf, hi] using hsz
  have hst1 := run_stores (P := P) off vs 0 cs w (ho.get hj) (by simpa using hoff) (by simpa using hf) h1
  refine wpOps_skipped (w' := w.setRow b (putL cs off vs)) hop hw hd ?_ (next _ ?_)
  · simp only [execOp, hst, hx, hy, Instr.storeAt, Instr.sureAddr, Sem.run_bind, Sem.run_pure, Result.andThen_ok, storeVar, sizeOf, typeInfo, run_program, hi, hs1, Value.cells]
    rw [show (⟨vs⟩ : Array Value).size = vs.length from rfl]
    simp only [ne_eq, not_true_eq_false, if_false, hst1, Result.andThen_ok, Nat.add_zero]
  · subst hL
    exact ((ho.front j _ _ hj rfl).setRow (putL cs off vs)).back hj

theorem take_set_lt {α : Type} (l : List α) (n i : Nat) (x : α) : (l.set i x).take n = (l.take n).set i x := by
  rw [List.take_set]

/-- A cell of an owned row, written. -/
theorem st_storeRow (hk : Kn N a kn) (ho : Ows ex w0 w L) (j : Nat) (t idx : Nat) (v : Value) (e size : Nat) (o : Option Addr) (n c : Nat) (xs : List Value) (L' : List As) (h : stOp ops kn i = some (t, o.map (·.add idx), v))
    (hsz : P.cellsOf t = 1) (hinf : (P.info? t).isSome = true) (hj : L[j]? = some (.row zz e size (.slice o n c) n xs)) (hidx : idx < xs.length) (h1 : v.oneCell' = true)
    (hL : L.set j (.row zz e size (.slice o n c) n (xs.set idx v)) = L') (next : ∀ w', Ows ex w0 w' L' → wpOps P ops Q rest a w') : wpOps P ops Q (i :: rest) a w := by
  have hrow := ho.get hj
  obtain ⟨hlen, hr⟩ := hrow
  rcases hr with ⟨_, _, h0, _⟩ | ⟨g, cap, cur, fz, hv, hh, hfz, hnc, hcm, hcp, hcs, ht, hgr⟩
  · rw [hlen, h0] at hidx; omega
  simp only [Value.slice.injEq] at hv
  obtain ⟨rfl, _, rfl⟩ := hv
  have hlt : idx < cur.size := by
    rw [hlen] at hidx
    rw [hcs]
    exact Nat.lt_of_lt_of_le hidx (Nat.mul_le_mul_right _ hnc)
  have hfree : freeAt fz idx = true := by
    obtain ⟨lo, hi⟩ := fz
    rcases hfz with hfz | hfz
    · simp only [Prod.mk.injEq] at hfz
      obtain ⟨rfl, rfl⟩ := hfz
      simp [freeAt, Nat.blt, Nat.ble]
    · simp only at hfz
      subst hfz
      have : Nat.ble cur.size idx = false := by
        cases hb : Nat.ble cur.size idx with
        | true => have := Nat.le_of_ble_eq_true hb; omega
        | false => rfl
      simp [freeAt, this]
  have hst1 := run_store_blk (P := P) hh hlt hfree h1
  simp only [Option.map_some, addr_lit, Nat.zero_add] at h
  obtain ⟨op, x, y, hop, hw, hd, hst, hx, hy⟩ := stOp_sound hk h
  obtain ⟨inf, hi⟩ := Option.isSome_iff_exists.1 hinf
  have hs1 : inf.size = 1 := by simpa [Program.cellsOf, hi] using hsz
  have hcells : v.cells = #[v] := by cases v <;> simp_all [Value.cells, Value.oneCell']
  refine wpOps_skipped (w' := w.setCell ⟨g, idx, none⟩ v) hop hw hd ?_ (next _ ?_)
  · simp only [execOp, hst, hx, hy, Instr.storeAt, Instr.sureAddr, Sem.run_bind, Sem.run_pure, Result.andThen_ok, storeVar, sizeOf, typeInfo, run_program, hi, hs1, hcells, storeCells, Addr_add_zero]
    rw [show (#[v] : Array Value).size = 1 from rfl]
    simp only [ne_eq, not_true_eq_false, if_false, Sem.run_bind, hst1, Result.andThen_ok, Sem.run_pure]
  · subst hL
    refine Ows.back hj ?_
    refine (ho.front j _ _ hj rfl).turned (w' := w.setCell ⟨g, idx, none⟩ v) ⟨rfl, rfl, rfl, by simp [World.setCell], fun k _ hk => RowKit.Below.heap_setCell w _ v k (by simpa [obk_pos hcp] using hk)⟩ ?_ (.inl rfl)
    refine ⟨by simpa using hlen, .inr ⟨g, c, cur.setIfInBounds idx v, fz, rfl, ?_, ?_, hnc, hcm, hcp, by simpa using hcs, ?_, hgr⟩⟩
    · simp only [World.setCell, Array.getElem?_modify, if_true, hh, Option.map_some]
      rfl
    · simpa using hfz
    · rw [Array.toList_setIfInBounds, take_set_lt, ht]

end

end Go.Ev

/- Operations that make memory, over what is owned: boxes, literals, make, append, strings and bytes. -/
namespace Go.Ev

variable {P : Program} {T : Tab}
variable {zz : Nat}

section
variable {N : Nat} {ops : Array Oper} {Q : Exit → Act → World → Prop} {i : Nat} {rest : List Nat} {a : Act} {kn : KN} {w w0 : World} {ex : List Nat} {L : List As}

/-! ### a new block -/

/-- An operation that lays one new block: its cells, their type, where its address goes. -/
def nwOp (T : Tab) (N : Nat) (ops : Array Oper) (kn : KN) (i : Nat) : Option (Array Value × Nat × Nat) :=
  match ops[i]? with
  | none => none
  | some o => match gd ops kn o, o.dst, o.op with
    | some true, some d, .box e x => match opd kn x, Nat.blt d N with
      | some v, true => some (v.cells, e, d)
      | _, _ => none
    | some true, some d, .alloc e => match look T.zero e, Nat.blt d N with
      | some z, true => some (z.cells, e, d)
      | _, _ => none
    | _, _, _ => none

theorem run_newVar (e : Nat) (v : Value) : (newVar e v).run P w = .ok ⟨w.heap.size, 0, none⟩ (w.alloc (.cells v.cells e)) := rfl

theorem st_new (hT : TabOK P T) (hk : Kn N a kn) (ho : Ows ex w0 w L) (cs : Array Value) (e d : Nat) (h : nwOp T N ops kn i = some (cs, e, d))
    (next : ∀ a' b w', Kn N a' ((d, .pointer (some ⟨b, 0, none⟩)) :: kn) → Ows ex w0 w' (.blk b (.cells cs e (0, 0)) :: L) → wpOps P ops Q rest a' w') : wpOps P ops Q (i :: rest) a w := by
  unfold nwOp at h
  split at h
  · simp at h
  · rename_i o hop
    split at h
    · rename_i d' e' x hg hd hop2
      split at h
      · rename_i v hx hb
        simp only [Option.some.injEq, Prod.mk.injEq] at h
        obtain ⟨rfl, rfl, rfl⟩ := h
        refine wpOps_value (v := .pointer (some ⟨w.heap.size, 0, none⟩)) (w' := w.alloc (.cells v.cells e')) hop (gd_sound hk hg) ?_ ?_
        · simp only [execOp, hop2, Instr.box, opd_sound hk hx, Sem.run_bind, run_newVar, Result.andThen_ok, Sem.run_pure]
        · rw [hd]
          exact next _ _ _ (hk.put' hb _) (ho.alloc _)
      · simp at h
    · rename_i d' e' hg hd hop2
      split at h
      · rename_i z hz hb
        simp only [Option.some.injEq, Prod.mk.injEq] at h
        obtain ⟨rfl, rfl, rfl⟩ := h
        obtain ⟨inf, hi, hzero, _⟩ := hT.zero _ _ hz
        refine wpOps_value (v := .pointer (some ⟨w.heap.size, 0, none⟩)) (w' := w.alloc (.cells z.cells e')) hop (gd_sound hk hg) ?_ ?_
        · simp only [execOp, hop2, Instr.alloc, zeroValue, typeInfo, Sem.run_bind, run_program, Result.andThen_ok, hi, hzero, Sem.run_pure, run_newVar]
        · rw [hd]
          exact next _ _ _ (hk.put' hb _) (ho.alloc _)
      · simp at h
    · simp at h

/-! ### a slice's literal -/

def bsCells (z : Value) (len k : Nat) (ps : List (Nat × Value)) : Option (Array Value) :=
  Instr.fill (fun i => some (i * k, k)) ((Array.range (len * k)).map fun j => (if len * k = 0 then #[] else z.cells)[j % (if len * k = 0 then (#[] : Array Value) else z.cells).size]!) ps

def bsOp (T : Tab) (N : Nat) (ops : Array Oper) (kn : KN) (i : Nat) : Option (Array Value × Nat × Nat × Nat × Nat) :=
  match ops[i]? with
  | none => none
  | some o => match gd ops kn o, o.dst, o.op with
    | some true, some d, .buildSlice t len ps => match tlook T.ty t, ipairs kn ps.toList, Nat.blt d N with
      | some (.slice e k), some vs, true => match look T.zero e with
        | some z => match bsCells z len k vs, Nat.ble (len * k) 65536, Nat.ble len 65536 with
          | some cs, true, true => match Nat.beq cs.size (len * k) with
            | true => some (cs, e, k, len, d)
            | false => none
          | _, _, _ => none
        | none => none
      | _, _, _ => none
    | _, _, _ => none

theorem st_lit (hT : TabOK P T) (hk : Kn N a kn) (ho : Ows ex w0 w L) (cs : Array Value) (e k n d : Nat) (h : bsOp T N ops kn i = some (cs, e, k, n, d))
    (next : ∀ a' o w', o.isSome = true → Kn N a' ((d, .slice o n n) :: kn) → Ows ex w0 w' (.row 0 e k (.slice o n n) n cs.toList :: L) → wpOps P ops Q rest a' w') : wpOps P ops Q (i :: rest) a w := by
  unfold bsOp at h
  split at h
  · simp at h
  · rename_i o hop
    split at h
    · rename_i d' t len ps hg hd hop2
      split at h
      · rename_i e' k' vs ht hps hb
        split at h
        · rename_i z hz
          split at h
          · rename_i cs' hcs hsm hlen
            split at h
            · rename_i hsz
              simp only [Option.some.injEq, Prod.mk.injEq] at h
              obtain ⟨rfl, rfl, rfl, rfl, rfl⟩ := h
              obtain ⟨inf, hi, hzero, _⟩ := hT.zero _ _ hz
              obtain ⟨hu, inf', hi', hks⟩ := hT.ty _ _ ht
              obtain rfl : inf = inf' := by rw [hi] at hi'; exact Option.some.inj hi'
              have hsm' : len * k' ≤ 65536 := Nat.le_of_ble_eq_true hsm
              have hlen' : len ≤ 65536 := Nat.le_of_ble_eq_true hlen
              have hsz' : cs'.size = len * k' := Nat.eq_of_beq_eq_true hsz
              have hps' : ps.map (fun p => (p.1, a.eval p.2)) = vs.toArray := by
                apply Array.toList_inj.1
                simpa using ipairs_sound hk hps
              have hbig : ¬ (len * k' > 2 ^ 24) := by omega
              have hcs2 : Instr.fill (fun i => some (i * k', k')) ((Array.range (len * k')).map fun x => (if len * k' = 0 then #[] else z.cells)[x % (if len * k' = 0 then (#[] : Array Value) else z.cells).size]!) vs = some cs' := hcs
              refine wpOps_value (v := .slice (some ⟨w.heap.size, 0, none⟩) len len) (w' := w.alloc (.cells cs' e')) hop (gd_sound hk hg) ?_ ?_
              · simp only [execOp, hop2]
                rw [show (fun (x : Nat × Operand) => match x with | (i, x) => (i, a.eval x)) = fun p => (p.1, a.eval p.2) from rfl, hps']
                refine run_value' ?_
                simp only [Instr.buildSlice, Sem.run_bind, run_underlying hu, Result.andThen_ok, sizeOf, typeInfo, run_program, hi, hks, Sem.run_pure, if_neg hbig]
                by_cases h0 : len * k' = 0
                · simp only [if_pos h0] at hcs2
                  rw [if_pos h0]
                  simp only [Sem.run_bind, Sem.run_pure, Result.andThen_ok, hcs2, newRow, run_newObj_alloc]
                · simp only [if_neg h0] at hcs2
                  rw [if_neg h0]
                  simp only [zeroValue, typeInfo, run_program, hi, hzero, Sem.run_bind, Sem.run_pure, Result.andThen_ok, hcs2, newRow, run_newObj_alloc]
              · rw [hd]
                refine next _ (some ⟨w.heap.size, 0, none⟩) _ rfl (hk.put' hb _) ?_
                exact (ho.alloc _).asRow (.inl rfl) hsz' (Nat.le_refl _) (by simp only [maxLen]; omega) (by rw [← hsz']; simp [← Array.length_toList])
            · simp at h
          · simp at h
        · simp at h
      · simp at h
    · simp at h
where
  run_value' {s : Sem Value} {v : Value} {w w' : World} (h : s.run P w = .ok v w') : (do pure (.value (← s)) : Sem Next).run P w = .ok (.value v) w' := by
    simp only [Sem.run_bind, h, Result.andThen_ok, Sem.run_pure]

end

end Go.Ev

/- Operations that make memory, over what is owned: append, make, strings and bytes. -/
namespace Go.Ev

variable {P : Program} {T : Tab}
variable {zz : Nat}

theorem run_value' {s : Sem Value} {v : Value} {w w' : World} (h : s.run P w = .ok v w') : (do pure (.value (← s)) : Sem Next).run P w = .ok (.value v) w' := by
  simp only [Sem.run_bind, h, Result.andThen_ok, Sem.run_pure]

/-! ### ways that meet again -/

theorem cut_ops {ops : Array Oper} {Q : Exit → Act → World → Prop} {r : List It} {l : List Nat} {a : Act} {w : World} (M : Act → World → Prop) (h : (∀ a w, M a w → G P Q r a w) → wpOps P ops (Kont P Q r) l a w)
    (h2 : ∀ a w, M a w → G P Q r a w) : wpOps P ops (Kont P Q r) l a w := h h2

theorem cut_code {Q : Exit → Act → World → Prop} {r : List It} {c : Code} {a : Act} {w : World} (M : Act → World → Prop) (h : (∀ a w, M a w → G P Q r a w) → G P Q (.code c :: r) a w)
    (h2 : ∀ a w, M a w → G P Q r a w) : G P Q (.code c :: r) a w := h h2

/-! ### append -/

theorem run_append_to (w : World) (t ty e : Nat) (inf : TypeInfo) (z : Value) (ht : P.underlying t = some (.slice e)) (hi : P.info? e = some inf) (hz : inf.zero = some z) (hzs : inf.size = z.cells.size) (hby : inf.bytes ≤ 4096) (hpos : 0 < inf.size)
    (o : Option Addr) (n c : Nat) (xs : List Value) (hown : ORow zz w e inf.size (.slice o n c) n xs) (ox : Option Addr) (m mc : Nat) (news : List Value) (hl : news.length = m * inf.size) (hrd : Rd w ox news) (h1 : ∀ u ∈ news, u.oneCell' = true)
    (hb : n + m ≤ 4294967296) : ∃ o' c' w', (Builtin.append_ #[t, t] ty #[.slice o n c, .slice ox m mc]).run P w = .ok (.slice o' (n + m) c') w' ∧ ORow zz w' e inf.size (.slice o' (n + m) c') (n + m) (xs ++ news) ∧
      w.grownBy w' (obk (Value.slice o n c)) ∧ (obk (Value.slice o' (n + m) c') = obk (Value.slice o n c) ∨ ∀ k, obk (Value.slice o' (n + m) c') = some k → w.heap.size ≤ k) ∧ (o' = none ↔ o = none ∧ m = 0) := by
  have hbytes : (n + m) * inf.bytes ≤ 140737488355328 := Nat.le_trans (Nat.mul_le_mul hb hby) (by decide)
  have hlen : (xs ++ news).length = (n + m) * inf.size := by rw [List.length_append, hown.1, hl, Nat.add_mul]
  have hself : w.grownBy w (obk (Value.slice o n c)) := ⟨rfl, rfl, rfl, Nat.le_refl _, fun _ _ _ => rfl⟩
  -- nothing is appended from nowhere
  by_cases hm : m = 0
  · subst hm
    have hn : news = [] := List.eq_nil_of_length_eq_zero (by simpa using hl)
    subst hn
    have hnc : n ≤ c := by
      rcases hown.2 with ⟨_, h1, h2, _⟩ | ⟨g, cap, cur, fz, h1, _, _, h2, _⟩
      · simp only [Value.slice.injEq] at h1; omega
      · simp only [Value.slice.injEq] at h1; omega
    have hst : ∀ ad : Addr, (storeCells ad []).run P w = .ok () w := fun _ => rfl
    have hfc : (Builtin.firstCells inf.size 0 (.slice ox 0 mc)).run P w = .ok #[] w := by
      cases ox <;> simp [Builtin.firstCells, loadCells, loadCellsFrom]
    refine ⟨o, c, w, ?_, by simpa using hown, hself, .inl rfl, by simp⟩
    have hnc' : n + 0 ≤ c := hnc
    cases o <;> simp [Builtin.append_, run_underlying ht, sizeOf, typeInfo, hi, Builtin.lenOf, hnc, hfc, storeCells]
  · have hox : ∃ ad, ox = some ad := by
      obtain ⟨ad, h, _⟩ := hrd 0 (news[0]'(by rw [hl]; exact Nat.mul_pos (by omega) hpos)) (by simp)
      exact ⟨ad, h⟩
    obtain ⟨ad, rfl⟩ := hox
    have hnews : ∀ j u, news[j]? = some u → w.cell? (ad.add j) = some u := by
      intro j u hu
      obtain ⟨ad', h, h2⟩ := hrd j u hu
      obtain rfl := Option.some.inj h
      exact h2
    have grown : ∀ (old : Nat) (cs : Array Value), cs.size = (n + m) * inf.size → cs.toList = xs ++ news →
        ORow zz (w.drew.alloc (.cells (cs ++ Builtin.zeroCells z.cells (grownCap w (n + m) old e - (n + m))) e)) e inf.size (.slice (some ⟨w.heap.size, 0, none⟩) (n + m) (grownCap w (n + m) old e)) (n + m) (xs ++ news) ∧
        w.grownBy (w.drew.alloc (.cells (cs ++ Builtin.zeroCells z.cells (grownCap w (n + m) old e - (n + m))) e)) (obk (Value.slice o n c)) := by
      intro old cs hcs hcl
      have hge := grownCap_ge w (n + m) old e
      have hcm : grownCap w (n + m) old e ≤ maxLen := grownCap_le_maxLen w (n + m) old e (by simp only [maxLen]; omega)
      refine ⟨⟨hlen, .inr ⟨w.heap.size, _, _, (0, 0), rfl, heap_alloc_new w.drew _, .inl rfl, hge, hcm, by omega, ?_, ?_, fun _ => by omega⟩⟩, ⟨rfl, rfl, rfl, by simp, fun k hk _ => RowKit.Below.heap_alloc w.drew _ k hk⟩⟩
      · simp only [Array.size_append, hcs, size_zeroCells, ← hzs, ← Nat.add_mul]
        congr 1
        omega
      · simp only [Array.toList_append, hcl]
        rw [← hlen]
        exact List.take_left
    rcases hown.2 with ⟨o1, hv, h0, _⟩ | ⟨g, cap, cur, fz, hv, hh, hfz, hnc, hcm, hcp, hcs, htake, hgr⟩
    · simp only [Value.slice.injEq] at hv
      obtain ⟨rfl, rfl, rfl⟩ := hv
      have hx : xs = [] := List.eq_nil_of_length_eq_zero (by simpa using hown.1)
      subst hx
      have hgr := grown 0 news.toArray (by simpa using hl) (by simp)
      cases o with
      | some ad0 =>
        have hr := run_append_grow (P := P) w t ty e inf z ht hi hz ad0 0 0 [] (by simp) (by simp) ad m mc news hl hnews (by omega) (by omega) (growslice_fits (by omega) hbytes)
        exact ⟨_, _, _, hr, by simpa using hgr.1, by simpa using hgr.2, .inr (fun k hk => by have := obk_some hk; simp only at this; omega), by simp⟩
      | none =>
      have hr := run_append_nil (P := P) w t ty e inf z ht hi hz ad m mc news hl hnews (by omega) (by omega) (by have hb := hbytes; simp only [Nat.zero_add] at hb; omega)
      simp only [Nat.zero_add, List.nil_append] at hgr ⊢
      exact ⟨_, _, _, hr, hgr.1, hgr.2, .inr (fun k hk => by have := obk_some hk; simp only at this; omega), by simp [hm]⟩
    · simp only [Value.slice.injEq] at hv
      obtain ⟨rfl, _, rfl⟩ := hv
      by_cases hroom : n + m ≤ c
      · have hfit : n * inf.size + news.length ≤ cur.size := by rw [hl, hcs, ← Nat.add_mul]; exact Nat.mul_le_mul_right _ hroom
        have hfree : ∀ k, n * inf.size + 0 ≤ k → k < n * inf.size + 0 + news.length → freeAt fz k = true := by
          intro k _ hk
          obtain ⟨lo, hi⟩ := fz
          rcases hfz with hfz | hfz
          · simp only [Prod.mk.injEq] at hfz
            obtain ⟨rfl, rfl⟩ := hfz
            simp [freeAt, Nat.blt, Nat.ble]
          · simp only at hfz
            subst hfz
            have : Nat.ble cur.size k = false := by
              cases hb : Nat.ble cur.size k with
              | true => have := Nat.le_of_ble_eq_true hb; omega
              | false => rfl
            simp [freeAt, this]
        have hst := run_stores (P := P) (n * inf.size) news 0 cur w hh (by simpa using hfit) hfree h1
        have hfc := run_firstCells_some (P := P) w inf.size m ad m mc news hl hnews
        refine ⟨some ⟨g, 0, none⟩, c, w.setRow g (putL cur (n * inf.size) news), ?_, ⟨hlen, .inr ⟨g, c, putL cur (n * inf.size) news, fz, rfl, setRow_heap w g cur _ e _ hh, ?_, hroom, hcm, hcp, ?_, ?_, fun h => by have := hgr h; omega⟩⟩,
          ⟨rfl, rfl, rfl, by simp [World.setRow], fun k _ hk => setRow_other w g k _ (fun e => hk (by simp [obk_pos hcp, e]))⟩, .inl (by rw [obk_pos hcp, obk_pos hcp]), by simp⟩
        · simp only [Nat.add_zero] at hst
          simp [Builtin.append_, run_underlying ht, sizeOf, typeInfo, hi, Builtin.lenOf, hroom, hfc, addr_lit, hst]
        · rcases hfz with hfz | hfz
          · exact .inl hfz
          · right
            rw [hfz]
            simp only [putL, List.size_toArray, List.length_append, List.length_take, List.length_drop, Array.length_toList]
            omega
        · simp only [putL, List.size_toArray, List.length_append, List.length_take, List.length_drop, Array.length_toList]
          omega
        · simp only [putL]
          rw [htake, ← hlen]
          exact List.take_left
      · have holds : ∀ j u, xs[j]? = some u → w.cell? ((⟨g, 0, none⟩ : Addr).add j) = some u := by
          intro j u hu
          obtain ⟨ad', h, h2⟩ := ORow.rd hown rfl j u hu
          obtain rfl := Option.some.inj h
          exact h2
        have hr := run_append_grow (P := P) w t ty e inf z ht hi hz ⟨g, 0, none⟩ n c xs hown.1 holds ad m mc news hl hnews (by omega) (by omega) (growslice_fits (by omega) hbytes)
        have hgr := grown c (xs.toArray ++ news.toArray) (by simpa using hlen) (by simp)
        exact ⟨_, _, _, hr, hgr.1, hgr.2, .inr (fun k hk => by have := obk_some hk; simp only at this; omega), by simp⟩

section
variable {N : Nat} {ops : Array Oper} {Q : Exit → Act → World → Prop} {i : Nat} {rest : List Nat} {a : Act} {kn : KN} {w w0 : World} {ex : List Nat} {L : List As}

/-- An append of one slice to another: their type, the two slices, where the result goes. -/
def apOp (N : Nat) (ops : Array Oper) (kn : KN) (i : Nat) : Option (Nat × Value × Value × Nat) :=
  match ops[i]? with
  | none => none
  | some o => match gd ops kn o, o.dst, o.op with
    | some true, some d, .call { callee := .builtin .append, args := xs, argTypes := ts } => match opds kn xs.toList, ts.toList, Nat.blt d N with
      | some [s, x], [t, t'], true => match Nat.beq t t' with
        | true => some (t, s, x, d)
        | false => none
      | _, _, _ => none
    | _, _, _ => none

theorem apOp_sound (hk : Kn N a kn) {t d : Nat} {s x : Value} (h : apOp N ops kn i = some (t, s, x, d)) {v : Value} {w' : World} (hr : ∀ ty, (Builtin.append_ #[t, t] ty #[s, x]).run P w = .ok v w')
    (next : ∀ a', Kn N a' ((d, v) :: kn) → wpOps P ops Q rest a' w') : wpOps P ops Q (i :: rest) a w := by
  unfold apOp at h
  split at h
  · simp at h
  · rename_i o hop
    split at h
    · rename_i d' xs ts hg hd hop2
      split at h
      · rename_i s' x' t' t'' hxs hts hb
        split at h
        · rename_i htt
          simp only [Option.some.injEq, Prod.mk.injEq] at h
          obtain ⟨rfl, rfl, rfl, rfl⟩ := h
          obtain rfl := Nat.eq_of_beq_eq_true htt
          have hts' : ts = #[t', t'] := Array.toList_inj.1 (by simpa using hts)
          refine wpOps_value (v := v) (w' := w') hop (gd_sound hk hg) ?_ (by rw [hd]; exact next _ (hk.put' hb v))
          simp only [execOp, hop2, resolve, opds_sound_arr hk hxs, Sem.run_bind, Sem.run_pure, Result.andThen_ok, invoke, builtin, hts', hr]
        · simp at h
      · simp at h
    · simp at h

theorem st_append (hT : TabOK P T) (hk : Kn N a kn) (ho : Ows ex w0 w L) (j : Nat) (t e k d : Nat) (z : Value) (o : Option Addr) (n c : Nat) (xs : List Value) (ox : Option Addr) (m mc : Nat) (news : List Value)
    (h : apOp N ops kn i = some (t, .slice o n c, .slice ox m mc, d)) (ht : tlook T.ty t = some (.slice e k)) (hz : look T.zero e = some z) (hpos : 0 < k) (hj : L[j]? = some (.row zz e k (.slice o n c) n xs))
    (hl : news.length = m * k) (hrd : Rd w ox news) (h1 : ∀ u ∈ news, u.oneCell' = true) (hb : n + m ≤ 4294967296) (n' : Nat) (xs' : List Value) (hn' : n + m = n') (hxs' : xs ++ news = xs')
    (next : ∀ a' o' c' w', (o' = none ↔ o = none ∧ m = 0) → Kn N a' ((d, .slice o' n' c') :: kn) → Ows ex w0 w' (L.set j (.row zz e k (.slice o' n' c') n' xs')) → wpOps P ops Q rest a' w') : wpOps P ops Q (i :: rest) a w := by
  subst hn' hxs'
  obtain ⟨hu, inf, hi, rfl⟩ := hT.ty _ _ ht
  obtain ⟨inf', hi', hzero, hzs, hby⟩ := hT.zero _ _ hz
  obtain rfl : inf = inf' := by rw [hi] at hi'; exact Option.some.inj hi'
  have hrow : ORow zz w e inf.size (.slice o n c) n xs := ho.get hj
  have key := fun ty => run_append_to w t ty e inf z hu hi hzero hzs hby hpos o n c xs hrow ox m mc news hl hrd h1 hb
  obtain ⟨o', c', w', hr, h2, h3, h4, h5⟩ := key 0
  have hr' : ∀ ty, (Builtin.append_ #[t, t] ty #[.slice o n c, .slice ox m mc]).run P w = .ok (.slice o' (n + m) c') w' := fun ty => hr
  refine apOp_sound hk h hr' fun a' hk' => next a' o' c' w' h5 hk' ?_
  exact ((ho.front j _ _ hj rfl).turned h3 h2 h4).back hj

/-! ### strings and bytes -/

def bV (b : UInt8) : Value := .int .u8 (b.toNat : Int)

def cvOp (N : Nat) (ops : Array Oper) (kn : KN) (i : Nat) : Option (Nat × Nat × Value × Nat) :=
  match ops[i]? with
  | none => none
  | some o => match gd ops kn o, o.dst, o.op with
    | some true, some d, .convert s t x => match opd kn x, Nat.blt d N with
      | some v, true => some (s, t, v, d)
      | _, _ => none
    | _, _, _ => none

theorem cvOp_sound (hk : Kn N a kn) {s t d : Nat} {x : Value} (h : cvOp N ops kn i = some (s, t, x, d)) {v : Value} {w' : World} (hr : (convert s t x).run P w = .ok v w')
    (next : ∀ a', Kn N a' ((d, v) :: kn) → wpOps P ops Q rest a' w') : wpOps P ops Q (i :: rest) a w := by
  unfold cvOp at h
  split at h
  · simp at h
  · rename_i o hop
    split at h
    · rename_i d' s' t' y hg hd hop2
      split at h
      · rename_i v' hy hb
        simp only [Option.some.injEq, Prod.mk.injEq] at h
        obtain ⟨rfl, rfl, rfl, rfl⟩ := h
        refine wpOps_value (v := v) (w' := w') hop (gd_sound hk hg) ?_ (by rw [hd]; exact next _ (hk.put' hb v))
        simp only [execOp, hop2, opd_sound hk hy]
        exact run_value' hr
      · simp at h
    · simp at h

/-- '[]byte(s)' -/
theorem st_bytes (hT : TabOK P T) (hk : Kn N a kn) (ho : Ows ex w0 w L) (s t e d : Nat) (l : List UInt8) (h : cvOp N ops kn i = some (s, t, S l, d)) (hs : tlook T.ty s = some .str) (ht : tlook T.ty t = some (.slice e 1)) (he : tlook T.ty e = some (.int .u8))
    (hb : l.length ≤ 4294967296) (next : ∀ a' o c w', o.isSome = true → Kn N a' ((d, .slice o l.length c) :: kn) → Ows ex w0 w' (.row 0 e 1 (.slice o l.length c) l.length (l.map bV) :: L) → wpOps P ops Q rest a' w') : wpOps P ops Q (i :: rest) a w := by
  have hs' := hT.ty _ _ hs
  have ht' := (hT.ty _ _ ht).1
  have he' := hT.ty _ _ he
  simp only [TD.ok] at hs' he'
  have hr := run_bytes_of_string (P := P) w s t e ⟨⟨l⟩⟩ hs' ht' he'
  have hge := grownCap_ge w (⟨⟨l⟩⟩ : ByteArray).size 0 e
  have hcm : grownCap w (⟨⟨l⟩⟩ : ByteArray).size 0 e ≤ maxLen := grownCap_le_maxLen w _ 0 e (by show l.length ≤ maxLen; simp only [maxLen]; omega)
  have hsz : (⟨⟨l⟩⟩ : ByteArray).size = l.length := rfl
  rw [hsz] at hr hge hcm
  refine cvOp_sound hk h hr fun a' hk' => next a' (some ⟨w.heap.size, 0, none⟩) (grownCap w l.length 0 e) _ rfl hk' ?_
  refine (ho.drew.alloc _).asRow (.inr rfl) ?_ hge hcm ?_
  · simp only [bytesRow, Array.size_append, Array.size_map, Array.size_replicate, List.size_toArray, hsz]
    omega
  · simp only [bytesRow, Array.toList_append, Array.toList_map, Nat.mul_one]
    rw [List.take_left' (by simp)]
    rfl

/-- 'string(b)' -/
theorem st_string (hT : TabOK P T) (hk : Kn N a kn) (s t e d : Nat) (o : Option Addr) (n c : Nat) (l : List UInt8) (h : cvOp N ops kn i = some (s, t, .slice o n c, d)) (hs : tlook T.ty s = some (.slice e 1)) (ht : tlook T.ty t = some .str) (he : tlook T.ty e = some (.int .u8))
    (hn : l.length = n) (hrd : Rd w o (l.map bV)) (next : ∀ a', Kn N a' ((d, S l) :: kn) → wpOps P ops Q rest a' w) : wpOps P ops Q (i :: rest) a w := by
  have hs' := (hT.ty _ _ hs).1
  have ht' := hT.ty _ _ ht
  have he' := hT.ty _ _ he
  simp only [TD.ok] at ht' he'
  subst hn
  refine cvOp_sound (v := S l) (w' := w) hk h ?_ next
  cases o with
  | none =>
    have hl : l = [] := by
      cases l with
      | nil => rfl
      | cons x l =>
        obtain ⟨ad, h, _⟩ := hrd 0 (bV x) (by simp)
        cases h
    subst hl
    rw [run_convert_bytes_string w s t e none _ c hs' he' ht']
    simp [Conv.bytesToString, S]
    rfl
  | some ad =>
    exact run_convert_bytes_back (P := P) w s t e ad c l hs' he' ht' (fun j hj => by
      obtain ⟨ad', h, h2⟩ := hrd j (bV l[j]) (by simp [hj])
      obtain rfl := Option.some.inj h
      exact h2)

end

end Go.Ev

/- The table of types: held against the program by one run of the kernel. -/
namespace Go.Ev

variable {P : Program} {T : Tab}
variable {zz : Nat}

def fieldsCheck (P : Program) : List Field → List (Nat × Nat × Bool × Nat × Bool) → Bool
  | [], [] => true
  | f :: l, (o, s, g, u, b) :: r => Nat.beq f.offset o && Nat.beq f.type u && ((f.name != "_") == b) && (match P.info? u with | some i => Nat.beq i.size s | none => false) && (aggB P u == g) && (P.underlying u).isSome && fieldsCheck P l r
  | _, _ => false

def tdCheck (P : Program) (t : Nat) : TD → Bool
  | .int k => match P.underlying t with
    | some (.int k') => decide (k = k')
    | _ => false
  | .bool => match P.underlying t with
    | some .bool => true
    | _ => false
  | .str => match P.underlying t with
    | some .string => true
    | _ => false
  | .slice e s => match P.underlying t, P.info? e with
    | some (.slice e'), some i => Nat.beq e' e && Nat.beq i.size s
    | _, _ => false
  | .arr n e s g => match P.underlying t, P.info? e with
    | some (.array n' e'), some i => Nat.beq n' n && Nat.beq e' e && Nat.beq i.size s && (aggB P e == g) && (P.underlying e).isSome
    | _, _ => false
  | .struct fs => match P.underlying t with
    | some (.struct fields) => !(P.stoodInHeld t) && !(P.eqGuardType P.depth t) && fieldsCheck P fields.toList fs
    | _ => false
  | .ptr => match P.underlying t with
    | some (.pointer _) => true
    | _ => false
  | .func => match P.underlying t with
    | some (.func _ _ _) => true
    | _ => false
  | .iface => match P.underlying t with
    | some (.interface _) => true
    | _ => false
  | .map k e => match P.underlying t with
    | some (.map k' e') => Nat.beq k' k && Nat.beq e' e
    | _ => false

theorem fieldsCheck_len : ∀ {l : List Field} {fs : List (Nat × Nat × Bool × Nat × Bool)}, fieldsCheck P l fs = true → l.length = fs.length
  | [], [], _ => rfl
  | [], _ :: _, h => by simp [fieldsCheck] at h
  | _ :: _, [], h => by simp [fieldsCheck] at h
  | f :: l, (o, s, g, u, b) :: r, h => by
    simp only [fieldsCheck, Bool.and_eq_true] at h
    simp [fieldsCheck_len h.2]

theorem fieldsCheck_get : ∀ {l : List Field} {fs : List (Nat × Nat × Bool × Nat × Bool)}, fieldsCheck P l fs = true → ∀ (j o s : Nat) (g : Bool) (u : Nat) (b : Bool), fs[j]? = some (o, s, g, u, b) →
    ∃ (f : Field) (i : TypeInfo), l[j]? = some f ∧ f.offset = o ∧ f.type = u ∧ (f.name != "_") = b ∧ P.info? u = some i ∧ i.size = s ∧ aggB P u = g ∧ (P.underlying u).isSome = true
  | [], [], _, j, o, s, g, u, b, hj => by simp at hj
  | [], _ :: _, h, _, _, _, _, _, _, _ => by simp [fieldsCheck] at h
  | _ :: _, [], h, _, _, _, _, _, _, _ => by simp [fieldsCheck] at h
  | f :: l, (o', s', g', u', b') :: r, h, j, o, s, g, u, b, hj => by
    simp only [fieldsCheck, Bool.and_eq_true] at h
    obtain ⟨⟨⟨⟨⟨⟨h1, h2⟩, h3⟩, h4⟩, h5⟩, h6⟩, h7⟩ := h
    cases j with
    | zero =>
      simp only [List.getElem?_cons_zero, Option.some.injEq, Prod.mk.injEq] at hj
      obtain ⟨rfl, rfl, rfl, rfl, rfl⟩ := hj
      split at h4
      · rename_i i hi
        exact ⟨f, i, rfl, Nat.eq_of_beq_eq_true h1, Nat.eq_of_beq_eq_true h2, by simpa using h3, hi, Nat.eq_of_beq_eq_true h4, by simpa using h5, h6⟩
      · cases h4
    | succ j =>
      obtain ⟨f', i, hl, rest⟩ := fieldsCheck_get h7 j o s g u b (by simpa using hj)
      exact ⟨f', i, by simpa using hl, rest⟩

theorem tdCheck_sound {t : Nat} {d : TD} (h : tdCheck P t d = true) : d.ok P t ∧ ∀ fs, d = .struct fs → P.eqGuardType P.depth t = false := by
  cases d with
  | int k =>
    simp only [tdCheck] at h
    split at h
    · rename_i k' hu
      have := of_decide_eq_true h
      subst this
      exact ⟨hu, by simp⟩
    · cases h
  | bool => simp only [tdCheck] at h; split at h; · rename_i hu; exact ⟨hu, by simp⟩
            · cases h
  | str => simp only [tdCheck] at h; split at h; · rename_i hu; exact ⟨hu, by simp⟩
           · cases h
  | slice e s =>
    simp only [tdCheck] at h
    split at h
    · rename_i e' i hu hi
      simp only [Bool.and_eq_true] at h
      obtain rfl := Nat.eq_of_beq_eq_true h.1
      exact ⟨⟨hu, i, hi, Nat.eq_of_beq_eq_true h.2⟩, by simp⟩
    · cases h
  | arr n e s g =>
    simp only [tdCheck] at h
    split at h
    · rename_i n' e' i hu hi
      simp only [Bool.and_eq_true] at h
      obtain ⟨⟨⟨⟨h1, h2⟩, h3⟩, h4⟩, h5⟩ := h
      obtain rfl := Nat.eq_of_beq_eq_true h1
      obtain rfl := Nat.eq_of_beq_eq_true h2
      exact ⟨⟨hu, ⟨i, hi, Nat.eq_of_beq_eq_true h3⟩, by simpa using h4, h5⟩, by simp⟩
    · cases h
  | struct fs =>
    simp only [tdCheck] at h
    split at h
    · rename_i fields hu
      simp only [Bool.and_eq_true, Bool.not_eq_true'] at h
      obtain ⟨⟨h1, h2⟩, h3⟩ := h
      refine ⟨⟨h1, fields, hu, by simpa using fieldsCheck_len h3, ?_⟩, fun _ _ => h2⟩
      intro j o s g u b hj
      obtain ⟨f, i, hl, rest⟩ := fieldsCheck_get h3 j o s g u b hj
      exact ⟨f, i, by simpa using hl, rest⟩
    · cases h
  | ptr => simp only [tdCheck] at h; split at h; · rename_i e hu; exact ⟨⟨e, hu⟩, by simp⟩
           · cases h
  | func => simp only [tdCheck] at h; split at h; · rename_i x y z hu; exact ⟨⟨x, y, z, hu⟩, by simp⟩
            · cases h
  | iface => simp only [tdCheck] at h; split at h; · rename_i e hu; exact ⟨⟨e, hu⟩, by simp⟩
             · cases h
  | map k e =>
    simp only [tdCheck] at h
    split at h
    · rename_i k' e' hu
      simp only [Bool.and_eq_true] at h
      obtain rfl := Nat.eq_of_beq_eq_true h.1
      obtain rfl := Nat.eq_of_beq_eq_true h.2
      exact ⟨hu, by simp⟩
    · cases h

def tyCheck (P : Program) : TT → Bool
  | [] => true
  | (t, d) :: r => tdCheck P t d && tyCheck P r

theorem tyCheck_sound : ∀ {T : TT}, tyCheck P T = true → ∀ t d, tlook T t = some d → d.ok P t ∧ ∀ fs, d = .struct fs → P.eqGuardType P.depth t = false
  | [], _, t, d, h => by simp [tlook] at h
  | (i, d') :: r, hc, t, d, h => by
    simp only [tyCheck, Bool.and_eq_true] at hc
    unfold tlook at h
    split at h
    · rename_i hb
      obtain rfl := Nat.eq_of_beq_eq_true hb
      obtain rfl := Option.some.inj h
      exact tdCheck_sound hc.1
    · exact tyCheck_sound hc.2 t d h

/-- The zero values, told by the program itself. -/
def zeroOf (P : Program) (t : Nat) : Option Value :=
  match P.info? t with
  | some i => i.zero
  | none => none

def zeroCheck1 (P : Program) (t : Nat) : Bool :=
  match P.info? t with
  | some i => match i.zero with
    | some z => Nat.beq i.size z.cells.size && Nat.ble i.bytes 4096
    | none => false
  | none => false

structure ZeroOK (P : Program) (t : Nat) (z : Value) : Prop where
  ok : ∃ i, P.info? t = some i ∧ i.zero = some z ∧ i.size = z.cells.size ∧ i.bytes ≤ 4096

theorem zero_ok {t : Nat} {z : Value} (hz : zeroOf P t = some z) (h : zeroCheck1 P t = true) : ZeroOK P t z := by
  unfold zeroOf at hz
  unfold zeroCheck1 at h
  split at hz
  · rename_i i hi
    rw [hi] at h
    simp only [hz, Bool.and_eq_true] at h
    exact ⟨i, hi, hz, Nat.eq_of_beq_eq_true h.1, Nat.le_of_ble_eq_true h.2⟩
  · cases hz

def ZerosOK (P : Program) : KN → Prop
  | [] => True
  | (t, z) :: r => ZeroOK P t z ∧ ZerosOK P r

theorem zerosOK_get : ∀ {Z : KN}, ZerosOK P Z → ∀ t z, look Z t = some z → ∃ i, P.info? t = some i ∧ i.zero = some z ∧ i.size = z.cells.size ∧ i.bytes ≤ 4096
  | [], _, t, z, h => by simp [look] at h
  | (i, v) :: r, hc, t, z, h => by
    by_cases e : i = t
    · subst e
      rw [look_cons_eq] at h
      obtain rfl := Option.some.inj h
      exact hc.1.ok
    · rw [look_cons_ne e] at h
      exact zerosOK_get hc.2 t z h

theorem tabOK_of {T : Tab} (h1 : tyCheck P T.ty = true) (h2 : ZerosOK P T.zero) : TabOK P T :=
  ⟨fun t d h => (tyCheck_sound h1 t d h).1, zerosOK_get h2, fun t fs h => (tyCheck_sound h1 t _ h).2 fs rfl⟩

end Go.Ev

/- Small words that the printed walks use. -/
namespace Go.Ev

abbrev w64 (n : Int) : Int := IntKind.i64.wrap n
abbrev w8 (n : Int) : Int := IntKind.u8.wrap n

/-- A byte out of a number. -/
def u8 (e : Int) : UInt8 := UInt8.ofNat e.toNat

theorem u8_bV (e : Int) (h0 : 0 ≤ e) (h : e < 256) : Value.int .u8 e = bV (u8 e) := by
  unfold bV u8
  congr 1
  rw [UInt8.toNat_ofNat_of_lt' (by show e.toNat < 256; omega)]
  omega

theorem bt_lo (l : List UInt8) (i : Int) : 0 ≤ bt l i := by unfold bt; omega
theorem bt_hi (l : List UInt8) (i : Int) : bt l i < 256 := by unfold bt; have := (l[i.toNat]?.getD 0).toNat_lt; omega

theorem w8_range (n : Int) : 0 ≤ w8 n ∧ w8 n < 256 := by
  show 0 ≤ IntKind.u8.wrap n ∧ IntKind.u8.wrap n < 256
  have hb : (2 ^ IntKind.u8.bits : Int) = 256 := by decide
  have hs : IntKind.u8.signed = false := by decide
  unfold IntKind.wrap
  simp only [hb, hs, Bool.false_and, Bool.false_eq_true, if_false]
  omega

theorem at_bytes (l : List UInt8) (i : Int) (h0 : 0 ≤ i) (h : i < l.length) : (l.map bV)[i.toNat]? = some (.int .u8 (bt l i)) := by
  have : i.toNat < l.length := by omega
  simp [this, bV, bt]

theorem oneCell_bytes (l : List UInt8) : ∀ u ∈ l.map bV, u.oneCell' = true := by
  intro u hu
  obtain ⟨b, _, rfl⟩ := List.mem_map.1 hu
  rfl

theorem Kn.to {N : Nat} {a : Act} {kn : KN} (h : Kn N a kn) (l : List Nat) (kn' : KN) (e : Ev.keep kn l = kn') : Kn N a kn' := e ▸ h.keep l

theorem st_start {P : Program} {f : FuncId} {fn : Func} {N : Nat} {R : Ending → World → Prop} {w0 : World} (args : List Value) (c : Code) (hf : P.funcs[f]? = some fn) (hb : fn.body = some c) (hn : fn.ntmps = N)
    (hl : Nat.ble args.length N = true) (h : ∀ a w, Kn N a (zipK 0 args) → Ows [] w0 w [] → G P (bodyPost P fn R) [.code c] a w) : Calls P f ⟨args⟩ w0 R :=
  st_enter args c hf hb hn hl fun a hk => h a w0 hk (Ows.start w0)

theorem st_start1 {P : Program} {f : FuncId} {fn : Func} {N : Nat} {R : Ending → World → Prop} {w0 : World} (args : List Value) (c : Code) (hf : P.funcs[f]? = some fn) (hb : fn.body = some c) (hn : fn.ntmps = N)
    (hl : Nat.ble args.length N = true) (b : Nat) (o : Obj) (h0 : w0.heap[b]? = some o) (h : ∀ a w, Kn N a (zipK 0 args) → Ows [b] w0 w [.blk b o] → G P (bodyPost P fn R) [.code c] a w) : Calls P f ⟨args⟩ w0 R :=
  st_enter args c hf hb hn hl fun a hk => h a w0 hk ⟨rfl, rfl, rfl, Nat.le_refl _, fun _ _ _ => rfl, by simpa [As.sat] using h0, by simp [feet, As.foot], by simp [feet, As.foot]⟩

theorem st_start2 {P : Program} {f : FuncId} {fn : Func} {N : Nat} {R : Ending → World → Prop} {w0 : World} (args : List Value) (c : Code) (hf : P.funcs[f]? = some fn) (hb : fn.body = some c) (hn : fn.ntmps = N)
    (hl : Nat.ble args.length N = true) (b b' : Nat) (o o' : Obj) (h0 : w0.heap[b]? = some o) (h0' : w0.heap[b']? = some o') (hne : b ≠ b') (h : ∀ a w, Kn N a (zipK 0 args) → Ows [b, b'] w0 w [.blk b o, .blk b' o'] → G P (bodyPost P fn R) [.code c] a w) : Calls P f ⟨args⟩ w0 R :=
  st_enter args c hf hb hn hl fun a hk => h a w0 hk ⟨rfl, rfl, rfl, Nat.le_refl _, fun _ _ _ => rfl, by
    intro A hA
    simp only [List.mem_cons, List.not_mem_nil, or_false] at hA
    rcases hA with rfl | rfl
    · exact h0
    · exact h0', by simpa [feet, As.foot] using hne, by simp [feet, As.foot]⟩

theorem Ows.callP {ex exc : List Nat} {w0 w w' : World} {K L K' : List As} (h : Ows ex w0 w (K ++ L)) (h' : Ows exc w w' K') (hexc : exc = feet K) : Ows ex w0 w' (K' ++ L) :=
  h.callX hexc h' fun k hk => (h'.fresh k hk).symm

theorem Ows.blkAt {ex : List Nat} {w0 w : World} {L : List As} (h : Ows ex w0 w L) (j : Nat) {b : Nat} {o : Obj} (hj : L[j]? = some (.blk b o)) : w.heap[b]? = some o := h.get hj

theorem Ows.blkNe {ex : List Nat} {w0 w : World} {b b' : Nat} {o o' : Obj} {L : List As} (h : Ows ex w0 w (.blk b o :: .blk b' o' :: L)) : b ≠ b' := by
  have := h.nodup
  simp only [feet, List.flatMap_cons, As.foot, List.singleton_append, List.nodup_cons, List.mem_cons, not_or] at this
  exact this.1.1

/-! ### results that lie in memory -/

theorem resT {P : Program} {N : Nat} {a : Act} {kn : KN} {w : World} (hk : Kn N a kn) {t : Nat} {v : Value} (h : look kn t = some v) : ResOK P a w (.tmp t) v := opd_sound hk (x := .tmp t) h

theorem resC {P : Program} {T : Tab} (hT : TabOK P T) {N : Nat} {a : Act} {kn : KN} {w : World} (hk : Kn N a kn) {p t : Nat} {b : Nat} (h : look kn p = some (.pointer (some ⟨b, 0, none⟩))) {o : Obj} (hb : w.heap[b]? = some o) {cs : List Value} {e : Nat} {fz : Nat × Nat}
    (ho : o = .cells ⟨cs⟩ e fz) (hg : aggT (tlook T.ty t) = true) {z : Value} (hz : look T.zero t = some z) (hl : Nat.beq cs.length z.cells.size = true) : ResOK P a w (.cell p t) (.agg ⟨cs⟩) := by
  subst ho
  refine ⟨⟨b, 0, none⟩, opd_sound hk (x := .tmp p) h, run_loadAgg hT hg hz (Nat.eq_of_beq_eq_true hl) fun j u hu => ?_⟩
  rw [addr_lit, Nat.zero_add]
  exact cell_blk hb hu

theorem resC1 {P : Program} {T : Tab} (hT : TabOK P T) {N : Nat} {a : Act} {kn : KN} {w : World} (hk : Kn N a kn) {p t : Nat} {b : Nat} (h : look kn p = some (.pointer (some ⟨b, 0, none⟩))) {o : Obj} (hb : w.heap[b]? = some o) {v : Value} {e : Nat} {fz : Nat × Nat}
    (ho : o = .cells ⟨[v]⟩ e fz) (hg : scalarT (tlook T.ty t) = true) : ResOK P a w (.cell p t) v := by
  subst ho
  refine ⟨⟨b, 0, none⟩, opd_sound hk (x := .tmp p) h, ?_⟩
  have hc : w.cell? ⟨b, 0, none⟩ = some v := cell_blk hb rfl
  simp [loadVar, run_isAgg_scalar hT hg, hc]

theorem st_retG {P : Program} {fn : Func} {N : Nat} {R : Ending → World → Prop} {a : Act} {kn : KN} {w : World} {c : Code} {r : List It} (hk : Kn N a kn) (hc : c = .ret) (vs : List Value) (rs : Array ResultVar) (hrs : fn.results = rs) (h : ResAll P a w rs.toList vs)
    (hR : R (.returned (packV vs)) w) : G P (bodyPost P fn R) (.code c :: r) a w := st_ret hc (post_ret hk (hrs ▸ h) hR)

theorem retG {P : Program} {fn : Func} {N : Nat} {R : Ending → World → Prop} {a : Act} {kn : KN} {w : World} (hk : Kn N a kn) (vs : List Value) (rs : Array ResultVar) (hrs : fn.results = rs) (h : ResAll P a w rs.toList vs)
    (hR : R (.returned (packV vs)) w) : bodyPost P fn R .ret a w := post_ret hk (hrs ▸ h) hR

theorem retQ {P : Program} {fn : Func} {N : Nat} {R : Ending → World → Prop} {a : Act} {kn : KN} {w : World} (hk : Kn N a kn) (vs : List Value) (rs : Array ResultVar) (hrs : fn.results = rs) (h : resK kn rs.toList = some vs)
    (hR : R (.returned (packV vs)) w) : bodyPost P fn R .ret a w := post_ret hk (hrs ▸ resK_sound hk h) hR

/-- An element of a list at a place that is a number. -/
def get {α : Type} [Inhabited α] (l : List α) (i : Int) : α := l[i.toNat]?.getD default

theorem get_eq {α : Type} [Inhabited α] (l : List α) (i : Int) (h0 : 0 ≤ i) (h : i < l.length) : l[i.toNat]? = some (get l i) := by
  have : i.toNat < l.length := by omega
  simp [get, this]

theorem isSome_map {o : Option Addr} {f : Addr → Addr} (h : o.isSome = true) : (o.map f).isSome = true := by simpa using h

theorem Rd.nil {w : World} (o : Option Addr) : Rd w o [] := by intro j u h; simp at h

section
set_option linter.unusedSectionVars false
variable {α : Type} [Inhabited α] {w : World} {o : Option Addr} {xs : List α} {i : Int}

theorem Rd.some1 {f : α → Value} (h : Rd w o (xs.map f)) (h0 : 0 ≤ i) (h1 : i < (xs.length : Int)) : o.isSome = true := h.isSome (j := i.toNat) (by simp; omega)

theorem flat_len {β : Type} {enc : α → List β} {k : Nat} (hk : ∀ x, (enc x).length = k) : ∀ l : List α, (l.flatMap enc).length = l.length * k
  | [] => by simp
  | x :: l => by simp [List.flatMap_cons, hk, flat_len hk l, Nat.add_mul, Nat.add_comm]

theorem flat_at {β : Type} {enc : α → List β} {k : Nat} (hk : ∀ x, (enc x).length = k) : ∀ (l : List α) (n : Nat) (x : α), l[n]? = some x → ((l.flatMap enc).drop (n * k)).take k = enc x
  | [], n, x, h => by simp at h
  | y :: l, 0, x, h => by
    simp only [List.getElem?_cons_zero, Option.some.injEq] at h
    subst h
    simp only [Nat.zero_mul, List.drop_zero, List.flatMap_cons]
    rw [List.take_left' (hk y)]
  | y :: l, n + 1, x, h => by
    simp only [List.getElem?_cons_succ] at h
    have := flat_at hk l n x h
    simp only [List.flatMap_cons, Nat.add_mul, Nat.one_mul]
    rw [Nat.add_comm, ← List.drop_drop, List.drop_left' (hk y)]
    exact this

theorem Rd.someK {enc : α → List Value} {k : Nat} (h : Rd w o (xs.flatMap enc)) (hk : ∀ x, (enc x).length = k + 1) (h0 : 0 ≤ i) (h1 : i < (xs.length : Int)) : o.isSome = true := by
  refine h.isSome (j := 0) ?_
  rw [flat_len hk]
  have : 0 < xs.length := by omega
  exact Nat.mul_pos this (by omega)

theorem Rd.elem1 {f : α → Value} (h : Rd w o (xs.map f)) (h0 : 0 ≤ i) (h1 : i < (xs.length : Int)) : ∃ ad, o.map (·.add (i.toNat * 1)) = some ad ∧ w.cell? ad = some (f (get xs i)) := by
  rw [Nat.mul_one]
  exact h.at _ _ (by simp [get_eq xs i h0 h1])

theorem Rd.elemB {xs : List UInt8} (h : Rd w o (xs.map bV)) (h0 : 0 ≤ i) (h1 : i < (xs.length : Int)) : ∃ ad, o.map (·.add (i.toNat * 1)) = some ad ∧ w.cell? ad = some (.int .u8 (bt xs i)) := by
  rw [Nat.mul_one]
  exact h.at _ _ (at_bytes xs i h0 h1)

theorem flat_cell {β : Type} {enc : α → List β} {k : Nat} (hk : ∀ x, (enc x).length = k) (h0 : 0 ≤ i) (h1 : i < (xs.length : Int)) {off : Nat} {v : β} (hv : (enc (get xs i))[off]? = some v) : (xs.flatMap enc)[i.toNat * k + off]? = some v := by
  have hf := flat_at hk xs i.toNat (get xs i) (get_eq xs i h0 h1)
  have hoff : off < k := by
    rcases Nat.lt_or_ge off (enc (get xs i)).length with h | h
    · rw [hk] at h; exact h
    · rw [List.getElem?_eq_none h] at hv; cases hv
  rw [← hf, List.getElem?_take, if_pos hoff, List.getElem?_drop] at hv
  exact hv

theorem Rd.elemK {enc : α → List Value} {k : Nat} (h : Rd w o (xs.flatMap enc)) (hk : ∀ x, (enc x).length = k) (h0 : 0 ≤ i) (h1 : i < (xs.length : Int)) {off : Nat} {v : Value} (hv : (enc (get xs i))[off]? = some v) :
    ∃ ad, (o.map (·.add (i.toNat * k))).map (·.add off) = some ad ∧ w.cell? ad = some v := h.at2 _ _ _ (flat_cell hk h0 h1 hv)

theorem Rd.elemA {enc : α → List Value} {k : Nat} (h : Rd w o (xs.flatMap enc)) (hk : ∀ x, (enc x).length = k + 1) (h0 : 0 ≤ i) (h1 : i < (xs.length : Int)) :
    ∃ ad, o.map (·.add (i.toNat * (k + 1))) = some ad ∧ ∀ j u, (enc (get xs i))[j]? = some u → w.cell? (ad.add j) = some u := by
  have hf := flat_at hk xs i.toNat (get xs i) (get_eq xs i h0 h1)
  refine h.sub _ _ (by rw [hk]; exact hf) ?_
  rw [flat_len hk]
  have : i.toNat + 1 ≤ xs.length := by omega
  have := Nat.mul_le_mul_right (k + 1) this
  rw [Nat.add_mul] at this
  omega

end

def allOne : List Value → Bool
  | [] => true
  | v :: r => v.oneCell' && allOne r

theorem allOne_mem : ∀ {l : List Value}, allOne l = true → ∀ v ∈ l, v.oneCell' = true
  | [], _, v, h => by cases h
  | x :: l, h, v, hv => by
    simp only [allOne, Bool.and_eq_true] at h
    rcases List.mem_cons.1 hv with rfl | hv
    · exact h.1
    · exact allOne_mem h.2 v hv

theorem free00 (k : Nat) : freeAt (0, 0) k = true := by simp [freeAt, Nat.blt, Nat.ble]


section
variable {P : Program} {T : Tab} {N : Nat} {ops : Array Oper} {Q : Exit → Act → World → Prop} {i : Nat} {rest : List Nat} {a : Act} {kn : KN} {w w0 : World} {ex : List Nat} {L : List As}
variable {zz : Nat}

theorem st_put1 (hk : Kn N a kn) (ho : Ows ex w0 w L) (j t b off : Nat) (v : Value) (cs : Array Value) (e : Nat) (L' : List As) (h : stOp ops kn i = some (t, some ⟨b, off, none⟩, v))
    (hsz : P.cellsOf t = 1) (hinf : (P.info? t).isSome = true) (hj : L[j]? = some (.blk b (.cells cs e (0, 0)))) (hoff : Nat.blt off cs.size = true) (h1 : v.oneCell' = true) (hL : L.set j (.blk b (.cells (cs.setIfInBounds off v) e (0, 0))) = L')
    (next : ∀ w', Ows ex w0 w' L' → wpOps P ops Q rest a w') : wpOps P ops Q (i :: rest) a w :=
  st_store1 hk ho j t b off v cs e (0, 0) L' h hsz hinf hj (by simpa [Nat.blt_eq] using hoff) (free00 off) h1 hL next

theorem st_putA (hk : Kn N a kn) (ho : Ows ex w0 w L) (j t b off : Nat) (vs : List Value) (cs : Array Value) (e : Nat) (L' : List As) (h : stOp ops kn i = some (t, some ⟨b, off, none⟩, .agg ⟨vs⟩))
    (hsz : P.cellsOf t = vs.length) (hinf : (P.info? t).isSome = true) (hj : L[j]? = some (.blk b (.cells cs e (0, 0)))) (hoff : Nat.ble (off + vs.length) cs.size = true) (h1 : allOne vs = true) (hL : L.set j (.blk b (.cells (putL cs off vs) e (0, 0))) = L')
    (next : ∀ w', Ows ex w0 w' L' → wpOps P ops Q rest a w') : wpOps P ops Q (i :: rest) a w :=
  st_storeA hk ho j t b off vs cs e (0, 0) L' h hsz hinf hj (Nat.le_of_ble_eq_true hoff) (fun k _ _ => free00 k) (allOne_mem h1) hL next

/-- A byte of an owned row, written. -/
theorem st_putB (hk : Kn N a kn) (ho : Ows ex w0 w L) (j t : Nat) (idx : Int) (v : UInt8) (e : Nat) (o : Option Addr) (c : Nat) (xs : List UInt8) (L' : List As) (h : stOp ops kn i = some (t, o.map (·.add (idx.toNat * 1)), bV v))
    (hsz : P.cellsOf t = 1) (hinf : (P.info? t).isSome = true) (hj : L[j]? = some (.row zz e 1 (.slice o xs.length c) xs.length (xs.map bV))) (h0 : 0 ≤ idx) (h1 : idx < (xs.length : Int))
    (hL : L.set j (.row zz e 1 (.slice o (xs.set idx.toNat v).length c) (xs.set idx.toNat v).length ((xs.set idx.toNat v).map bV)) = L') (next : ∀ w', Ows ex w0 w' L' → wpOps P ops Q rest a w') : wpOps P ops Q (i :: rest) a w := by
  rw [Nat.mul_one] at h
  refine st_storeRow hk ho j t idx.toNat (bV v) e 1 o xs.length c (xs.map bV) L' h hsz hinf hj (by simp; omega) rfl ?_ next
  rw [← hL]
  simp [List.map_set]

/-! ### make, of elements of one cell -/

def mkOp (N : Nat) (ops : Array Oper) (kn : KN) (i : Nat) : Option (Nat × Int × Int × Nat) :=
  match ops[i]? with
  | none => none
  | some o => match gd ops kn o, o.dst, o.op with
    | some true, some d, .makeSlice t l c => match opd kn l, opd kn c, Nat.blt d N with
      | some (.int .i64 l), some (.int .i64 c), true => some (t, l, c, d)
      | _, _, _ => none
    | _, _, _ => none

theorem wrap64_small {n : Int} (h0 : 0 ≤ n) (h : n ≤ 4294967296) : IntKind.i64.wrap n = n := by
  have hb : (2 ^ IntKind.i64.bits : Int) = 18446744073709551616 := by decide
  have hb' : (2 ^ (IntKind.i64.bits - 1) : Int) = 9223372036854775808 := by decide
  unfold IntKind.wrap
  simp only [hb, hb']
  rw [Int.emod_eq_of_lt h0 (by omega), if_neg]
  simp
  omega

theorem range_const {n : Nat} {z : Value} : (Array.range n).map (fun x => (#[z] : Array Value)[x % (#[z] : Array Value).size]!) = (List.replicate n z).toArray := by
  apply Array.ext
  · simp
  · intro j h1 h2
    simp [Nat.mod_one]

theorem st_make (hT : TabOK P T) (hk : Kn N a kn) (ho : Ows ex w0 w L) (t e d : Nat) (l c : Int) (z : Value) (h : mkOp N ops kn i = some (t, l, c, d)) (ht : tlook T.ty t = some (.slice e 1)) (hz : look T.zero e = some z) (hz1 : z.cells = #[z])
    (h0 : 0 ≤ l) (h1 : l ≤ c) (h2 : c ≤ 4294967296)
    (next : ∀ a' o w', o.isSome = true → Kn N a' ((d, .slice o l.toNat c.toNat) :: kn) → Ows ex w0 w' (.row 0 e 1 (.slice o l.toNat c.toNat) l.toNat (List.replicate l.toNat z) :: L) → wpOps P ops Q rest a' w') : wpOps P ops Q (i :: rest) a w := by
  unfold mkOp at h
  split at h
  · simp at h
  · rename_i o hop
    split at h
    · rename_i d' t' lo co hg hd hop2
      split at h
      · rename_i l' c' hl hc hb
        simp only [Option.some.injEq, Prod.mk.injEq] at h
        obtain ⟨rfl, rfl, rfl, rfl⟩ := h
        obtain ⟨hu, inf, hi, hs⟩ := hT.ty _ _ ht
        obtain ⟨inf', hi', hzero, hzs, hby⟩ := hT.zero _ _ hz
        obtain rfl : inf = inf' := by rw [hi] at hi'; exact Option.some.inj hi'
        have hwl := wrap64_small h0 (by omega : l' ≤ 4294967296)
        have hwc := wrap64_small (by omega : 0 ≤ c') h2
        have hmul : (inf.bytes : Int) * c' ≤ 4096 * 4294967296 := by
          have e1 : (inf.bytes : Int) * c' ≤ 4096 * c' := Int.mul_le_mul_of_nonneg_right (by omega) (by omega)
          omega
        refine wpOps_value (v := .slice (some ⟨w.heap.size, 0, none⟩) l'.toNat c'.toNat) (w' := w.alloc (.cells (List.replicate c'.toNat z).toArray e)) hop (gd_sound hk hg) ?_ ?_
        · simp only [execOp, hop2, opd_sound hk hl, opd_sound hk hc]
          refine run_value' ?_
          have hlc : ¬ (l' < 0) := by omega
          have hcc : ¬ (c' < 0) := by omega
          have hlc2 : ¬ (l' > c') := by omega
          have hbig : ¬ ((inf.bytes : Int) * c' > 2 ^ 48) := by
            have : (2 : Int) ^ 48 = 281474976710656 := by decide
            omega
          have hbytes : (typeInfo e).run P w = .ok inf w := by simp only [typeInfo, Sem.run_bind, run_program, Result.andThen_ok, hi, Sem.run_pure]
          have hszr : (sizeOf e).run P w = .ok 1 w := by simp only [sizeOf, typeInfo, Sem.run_bind, run_program, Result.andThen_ok, hi, Sem.run_pure, hs]
          have hzr : (zeroValue e).run P w = .ok z w := by simp only [zeroValue, typeInfo, Sem.run_bind, run_program, Result.andThen_ok, hi, hzero, Sem.run_pure]
          simp only [Instr.makeSlice, Sem.run_bind, run_underlying hu, Result.andThen_ok, asInt, asIntOf, Sem.run_pure, hbytes, hwl, hwc]
          rw [if_neg (by
            simp only [Bool.or_eq_true, decide_eq_true_eq, not_or]
            exact ⟨⟨⟨hcc, hbig⟩, hlc⟩, hlc2⟩)]
          simp only [Sem.run_bind, run_askRoom, Result.andThen_ok, hszr, Nat.mul_one]
          by_cases hc0 : c'.toNat = 0
          · rw [if_pos hc0]
            simp only [hc0, newRow, run_newObj_alloc]
            have he : ∀ g : Unit → Value, (Array.map (fun _ => g ()) (Array.range 0) : Array Value) = #[] := fun g => Array.eq_empty_of_size_eq_zero (by simp)
            first | rfl | (simp; done) | (simp; exact congrArg (fun x => w.alloc (Obj.cells x e)) (Array.eq_empty_of_size_eq_zero (by simp)))
          · rw [if_neg hc0]
            simp only [Sem.run_bind, hzr, Result.andThen_ok, Sem.run_pure, newRow, run_newObj_alloc, hz1]
            rw [range_const]
        · rw [hd]
          refine next _ (some ⟨w.heap.size, 0, none⟩) _ rfl (hk.put' hb _) ?_
          refine (ho.alloc _).asRow (.inl rfl) (by simp) (by omega) (by simp only [maxLen]; omega) ?_
          simp only [List.toList_toArray, Nat.mul_one, List.take_replicate]
          congr 1
          omega
      · simp at h
    · simp at h

end

theorem rep_bytes (n : Nat) : List.replicate n (Value.int .u8 0) = (List.replicate n (0 : UInt8)).map bV := by simp [bV]

end Go.Ev

/- Regions that draw the order of their operations. -/
namespace Go.Ev
variable {P : Program} {T : Tab}
variable {zz : Nat}

def nmem (i : Nat) : List Nat → Bool
  | [] => false
  | j :: r => match Nat.beq i j with
    | true => true
    | false => nmem i r

def del (i : Nat) : List Nat → List Nat
  | [] => []
  | j :: r => match Nat.beq i j with
    | true => r
    | false => j :: del i r

theorem nmem_iff {i : Nat} {l : List Nat} : nmem i l = true ↔ i ∈ l := by
  induction l with
  | nil => simp [nmem]
  | cons j r ih =>
    unfold nmem
    cases h : Nat.beq i j with
    | true => simp [Nat.eq_of_beq_eq_true h]
    | false =>
      have : i ≠ j := fun e => by subst e; simp [Nat.beq_refl] at h
      simp [this, ih]

theorem del_erase (i : Nat) (l : List Nat) : del i l = l.erase i := by
  induction l with
  | nil => rfl
  | cons j r ih =>
    unfold del
    cases h : Nat.beq i j with
    | true => obtain rfl := Nat.eq_of_beq_eq_true h; simp
    | false =>
      have : j ≠ i := fun e => by subst e; simp [Nat.beq_refl] at h
      rw [List.erase_cons_tail (by simpa using this), ih]

def bnd (ops : Array Oper) (rem : List Nat) (o : Oper) : Bool := o.after.all fun e => !Region.binds .any e || (Nat.blt e.on ops.size && !nmem e.on rem)

/-- Which of the operations that are left may come next. -/
def rdys (ops : Array Oper) (rem : List Nat) : List Nat → List Nat
  | [] => []
  | i :: r => match ops[i]? with
    | none => rdys ops rem r
    | some o => match bnd ops rem o with
      | true => i :: rdys ops rem r
      | false => rdys ops rem r

def frees (ops : Array Oper) (i : Nat) (oi : Oper) : List Nat → Bool
  | [] => true
  | j :: r => match Nat.beq j i with
    | true => frees ops i oi r
    | false => match ops[j]? with
      | none => frees ops i oi r
      | some oj => match oj.after.any (fun e => Region.binds .any e && e.on == i) || oi.apart ops oj with
        | true => frees ops i oi r
        | false => false

/-- A run of operations that may come ahead of all that are left. -/
def takes (ops : Array Oper) : List Nat → List Nat → Option (List Nat)
  | [], rem => some rem
  | i :: r, rem => match ops[i]? with
    | none => none
    | some o => match nmem i rem, bnd ops rem o, frees ops i o rem with
      | true, true, true => takes ops r (del i rem)
      | _, _, _ => none

def Nq (K : Act → World → Prop) (e : Exit) (a : Act) (w : World) : Prop :=
  match e with
  | .normal => K a w
  | _ => False

/-- All orders of the operations that are left come to Q. -/
def Any (P : Program) (ops : Array Oper) (M : Act → World → Prop) (rem : List Nat) (a : Act) (w : World) : Prop :=
  ∀ listed : Array Bool, listed.size = ops.size → (∀ j, j < ops.size → listed.getD j true = !nmem j rem) → (∀ j ∈ rem, j < ops.size) → rem.Nodup →
    wpAny P .any ops (Nq M) rem.length listed a w

theorem getDs {listed : Array Bool} {j : Nat} (h : j < listed.size) : listed.getD j false = listed.getD j true := by
  simp [h]

theorem ready_sub {ops : Array Oper} {listed : Array Bool} {rem : List Nat} (hs : listed.size = ops.size) (hl : ∀ j, j < ops.size → listed.getD j true = !nmem j rem) {i : Nat} :
    i ∈ Region.ready .any ops listed ↔ i < ops.size ∧ i ∈ rem ∧ ∃ o, ops[i]? = some o ∧ bnd ops rem o = true := by
  rw [mem_ready]
  constructor
  · rintro ⟨h0, o, ho, h⟩
    have hi : i < ops.size := (Array.getElem?_eq_some_iff.1 ho).1
    refine ⟨hi, ?_, o, ho, ?_⟩
    · rw [hl i hi] at h0
      exact nmem_iff.1 (by simpa using h0)
    · unfold bnd
      rw [Array.all_eq_true_iff_forall_mem]
      intro e he
      cases hb : Region.binds .any e with
      | false => simp
      | true =>
        have h1 := h e he hb
        have h2 : e.on < ops.size := by
          rcases Nat.lt_or_ge e.on ops.size with h' | h'
          · exact h'
          · simp [hs, h', Nat.not_lt.2 h'] at h1
        rw [getDs (by rw [hs]; exact h2), hl _ h2] at h1
        simpa [Nat.blt_eq, h2] using h1
  · rintro ⟨hi, hm, o, ho, h⟩
    refine ⟨by rw [hl i hi]; simp [nmem_iff.2 hm], o, ho, fun e he hb => ?_⟩
    unfold bnd at h
    rw [Array.all_eq_true_iff_forall_mem] at h
    have h1 := h e he
    simp only [hb, Bool.not_true, Bool.false_or, Bool.and_eq_true, Nat.blt_eq] at h1
    rw [getDs (by rw [hs]; exact h1.1), hl _ h1.1]
    exact h1.2

theorem listed_set {ops : Array Oper} {listed : Array Bool} {rem : List Nat} (hs : listed.size = ops.size) (hl : ∀ j, j < ops.size → listed.getD j true = !nmem j rem) (hn : rem.Nodup) {i : Nat} (hi : i < ops.size) :
    ∀ j, j < ops.size → (listed.setIfInBounds i true).getD j true = !nmem j (del i rem) := by
  intro j hj
  by_cases hij : i = j
  · subst hij
    have : nmem i (del i rem) = false := by
      rw [Bool.eq_false_iff]
      intro h
      rw [nmem_iff, del_erase] at h
      exact (List.Nodup.not_mem_erase hn) h
    rw [this]
    simp [hs, hi]
  · rw [getD_set_ne true hij, hl j hj]
    congr 1
    rw [Bool.eq_iff_iff, nmem_iff, nmem_iff, del_erase]
    exact (List.mem_erase_of_ne (Ne.symm hij)).symm

theorem Any.next {ops : Array Oper} {M : Act → World → Prop} {rem : List Nat} {a : Act} {w : World} {i : Nat} (h : Any P ops M (del i rem) a w) {listed : Array Bool}
    (hs : listed.size = ops.size) (hl : ∀ j, j < ops.size → listed.getD j true = !nmem j rem) (hb : ∀ j ∈ rem, j < ops.size) (hn : rem.Nodup) (hm : i ∈ rem) :
    wpAny P .any ops (Nq M) (rem.length - 1) (listed.setIfInBounds i true) a w := by
  have h1 := h (listed.setIfInBounds i true) (by simpa using hs) (listed_set hs hl hn (hb i hm)) (fun j hj => hb j (by rw [del_erase] at hj; exact List.mem_of_mem_erase hj)) (by rw [del_erase]; exact hn.erase i)
  rw [del_erase, List.length_erase_of_mem hm] at h1
  exact h1

theorem Any.take {ops : Array Oper} {M : Act → World → Prop} {rem : List Nat} {a : Act} {w : World} {i : Nat} {o : Oper} {v : Value} (hsel : Region.noSelect ops = true) (ho : ops[i]? = some o)
    (hm : nmem i rem = true) (hbnd : bnd ops rem o = true) (hf : frees ops i o rem = true) (hy : Yields P ops o v a) (h : Any P ops M (del i rem) (a.put o.dst v) w) : Any P ops M rem a w := by
  intro listed hs hl hb hn
  have hmem := nmem_iff.1 hm
  have hlen : rem.length = (rem.length - 1) + 1 := by
    have := List.length_pos_of_mem hmem
    omega
  rw [hlen]
  refine wpAny_first ho (Region.noSelect_spec hsel) (fun c a w hq => hq.elim) _ listed a w ?_ ?_ hy (h.next hs hl hb hn hmem)
  · intro j oj hoj hne hun hno
    have hj : j < ops.size := (Array.getElem?_eq_some_iff.1 hoj).1
    have hjr : j ∈ rem := nmem_iff.1 (by rw [hl j hj] at hun; simpa using hun)
    have key : ∀ l : List Nat, frees ops i o l = true → j ∈ l → oj.after.any (fun e => Region.binds .any e && e.on == i) || o.apart ops oj := by
      intro l
      induction l with
      | nil => intro _ h; simp at h
      | cons k r ih =>
        intro hf hjl
        unfold frees at hf
        by_cases hkj : k = j
        · subst hkj
          have : Nat.beq k i = false := by
            rw [Bool.eq_false_iff]
            intro hb
            exact hne (Nat.eq_of_beq_eq_true hb)
          rw [this] at hf
          simp only [hoj] at hf
          split at hf
          · assumption
          · simp at hf
        · have hjr' : j ∈ r := by
            rcases List.mem_cons.1 hjl with h | h
            · exact absurd h.symm hkj
            · exact h
          split at hf
          · exact ih hf hjr'
          · split at hf
            · exact ih hf hjr'
            · split at hf
              · exact ih hf hjr'
              · simp at hf
    have h1 := key rem hf hjr
    rw [Bool.or_eq_true] at h1
    rcases h1 with h1 | h1
    · obtain ⟨e, he, hb⟩ := Array.any_eq_true'.1 h1
      simp only [Bool.and_eq_true, beq_iff_eq] at hb
      exact absurd hb.2 (hno e he hb.1)
    · exact h1
  · exact (ready_sub hs hl).2 ⟨hb i hmem, hmem, o, ho, hbnd⟩

theorem Any.takes_sound (hT : TabOK P T) {N : Nat} {ops : Array Oper} {M : Act → World → Prop} (hsel : Region.noSelect ops = true) {rem' : List Nat} {w : World} :
    ∀ {pre rem : List Nat} {kn kn' : KN} {obs : Prop} {a : Act}, evs T N ops pre kn = some (kn', obs) → takes ops pre rem = some rem' → obs → Kn N a kn → (∀ a', Kn N a' kn' → Any P ops M rem' a' w) → Any P ops M rem a w := by
  intro pre
  induction pre with
  | nil =>
    intro rem kn kn' obs a h ht hobs hk next
    simp only [evs, Option.some.injEq, Prod.mk.injEq] at h
    simp only [takes, Option.some.injEq] at ht
    obtain ⟨rfl, rfl⟩ := h
    subst ht
    exact next a hk
  | cons i r ih =>
    intro rem kn kn' obs a h ht hobs hk next
    simp only [evs] at h
    simp only [takes] at ht
    split at h
    · simp at h
    · rename_i o ho
      simp only [ho] at ht
      split at ht
      · rename_i hm hb hf
        split at h
        · rename_i hft hg
          exact Any.take hsel ho hm hb hf (.inr ⟨gd_sound hk hg, rfl⟩) (ih h ht hobs (hk.putK hft undef) next)
        · rename_i hft hg
          split at h
          · simp at h
          · rename_i v hv
            exact Any.take hsel ho hm hb hf (.inl ⟨gd_sound hk hg, fun w => pureOp_sound hT hk hv (by simp)⟩) (ih h ht hobs (hk.putK hft v) next)
          · rename_i v p hv
            split at h
            · simp at h
            · rename_i kn2 obs2 h2
              simp only [Option.some.injEq, Prod.mk.injEq] at h
              obtain ⟨rfl, rfl⟩ := h
              exact Any.take hsel ho hm hb hf (.inl ⟨gd_sound hk hg, fun w => pureOp_sound hT hk hv (fun q hq => by obtain rfl := Option.some.inj hq; exact hobs.1)⟩) (ih h2 ht hobs.2 (hk.putK hft v) next)
        · simp at h
      · simp at ht

theorem any_pure (hT : TabOK P T) {N : Nat} {ops : Array Oper} {M : Act → World → Prop} {kn : KN} {a : Act} {w : World} (hk : Kn N a kn) (pre rem rem' live : List Nat) (kn' : KN) (obs : Prop) (hsel : Region.noSelect ops = true)
    (h : evk T N ops pre live kn = some (kn', obs)) (ht : takes ops pre rem = some rem') (hobs : obs) (next : ∀ a', Kn N a' kn' → Any P ops M rem' a' w) : Any P ops M rem a w := by
  unfold evk at h
  split at h
  · simp at h
  · rename_i kn2 obs2 h2
    simp only [Option.some.injEq, Prod.mk.injEq] at h
    obtain ⟨rfl, rfl⟩ := h
    exact Any.takes_sound hT hsel h2 ht hobs hk fun a' h' => next a' (h'.keep live)

def AllR (p : Nat → Prop) : List Nat → Prop
  | [] => True
  | i :: r => p i ∧ AllR p r

theorem AllR.mem {p : Nat → Prop} {l : List Nat} (h : AllR p l) {i : Nat} (hi : i ∈ l) : p i := by
  induction l with
  | nil => simp at hi
  | cons j r ih =>
    rcases List.mem_cons.1 hi with rfl | hi
    · exact h.1
    · exact ih h.2 hi

theorem wpOps_Nq {ops : Array Oper} {K : Act → World → Prop} {M : Act → World → Prop} {i : Nat} {a : Act} {w : World}
    (h : wpOps P ops (Nq K) [i] a w) : wpOp P ops (Nq M) i K a w := by
  rw [wpOps_cons] at h
  unfold wpOp at *
  have e : wpOps P ops (Nq K) [] = K := rfl
  rw [e] at h
  split
  · simpa [*] using h
  · rename_i o ho
    simp only [ho] at h
    split
    · rename_i hw
      simp only [hw, if_true] at h
      rcases h with h | ⟨_, a0, w0, hq⟩
      · left
        unfold Oper.wp at *
        generalize (execOp a.eval o).run P w = r at *
        cases r with
        | ok n w' =>
          cases n <;> simp only [Oper.upon] at h ⊢ <;>
            first
              | exact h
              | exact Calls.mono h (fun e w'' he => by
                  cases e with
                  | returned u => exact he
                  | panicked c => exact he.elim
                  | outgrown => obtain ⟨_, _, hq⟩ := he; exact hq.elim)
        | halt x w' => cases x <;> simp only [Oper.upon] at h ⊢ <;> exact h
      · exact hq.elim
    · rename_i hw
      simp only [hw] at h
      exact h

/-- Each of those that may come next. -/
theorem any_all {ops : Array Oper} {M : Act → World → Prop} {rem : List Nat} {a : Act} {w : World} (rs : List Nat) (hr : rdys ops rem rem = rs) (hne : rs ≠ [])
    (h : AllR (fun i => wpOps P ops (Nq (Any P ops M (del i rem))) [i] a w) rs) : Any P ops M rem a w := by
  intro listed hs hl hb hn
  have hsub : ∀ l : List Nat, ∀ i, i ∈ rdys ops rem l ↔ i ∈ l ∧ ∃ o, ops[i]? = some o ∧ bnd ops rem o = true := by
    intro l
    induction l with
    | nil => simp [rdys]
    | cons j r ih =>
      intro i
      unfold rdys
      cases ho : ops[j]? with
      | none =>
        rw [ih i]
        constructor
        · rintro ⟨h1, h2⟩; exact ⟨List.mem_cons_of_mem _ h1, h2⟩
        · rintro ⟨h1, o, h2, h3⟩
          rcases List.mem_cons.1 h1 with rfl | h1
          · rw [ho] at h2; simp at h2
          · exact ⟨h1, o, h2, h3⟩
      | some o =>
        simp only []
        cases hbo : bnd ops rem o with
        | true =>
          simp only [List.mem_cons, ih i]
          constructor
          · rintro (rfl | ⟨h1, h2⟩)
            · exact ⟨.inl rfl, o, ho, hbo⟩
            · exact ⟨.inr h1, h2⟩
          · rintro ⟨rfl | h1, h2⟩
            · exact .inl rfl
            · exact .inr ⟨h1, h2⟩
        | false =>
          simp only [List.mem_cons, ih i]
          constructor
          · rintro ⟨h1, h2⟩; exact ⟨.inr h1, h2⟩
          · rintro ⟨rfl | h1, o', h2, h3⟩
            · rw [ho] at h2; obtain rfl := Option.some.inj h2; rw [hbo] at h3; simp at h3
            · exact ⟨h1, o', h2, h3⟩
  have hmem : ∀ i, i ∈ Region.ready .any ops listed ↔ i ∈ rs := by
    intro i
    rw [ready_sub hs hl, ← hr, hsub rem i]
    exact ⟨fun ⟨_, h⟩ => h, fun h => ⟨hb i h.1, h⟩⟩
  obtain ⟨i0, hi0⟩ := List.exists_mem_of_ne_nil rs hne
  have hi0r : i0 ∈ rem := by rw [← hr, hsub rem i0] at hi0; exact hi0.1
  have hlen : rem.length = (rem.length - 1) + 1 := by
    have := List.length_pos_of_mem hi0r
    omega
  rw [hlen]
  refine ⟨fun h0 => ?_, fun i hi => ?_⟩
  · have := (hmem i0).2 hi0
    rw [h0] at this
    simp at this
  · have hi' := (hmem i).1 hi
    have hir : i ∈ rem := by rw [← hr, hsub rem i] at hi'; exact hi'.1
    exact wpOp_mono (fun a w hh => hh.next hs hl hb hn hir) (wpOps_Nq (h.mem hi'))

theorem any_back {ops : Array Oper} {K : Act → World → Prop} {a : Act} {w : World} (h : K a w) : wpOps P ops (Nq K) [] a w := h

theorem any_go {ops : Array Oper} {M : Act → World → Prop} {i : Nat} {rem : List Nat} {a : Act} {w : World} (rem' : List Nat) (hd : del i rem = rem') (h : Any P ops M rem' a w) : wpOps P ops (Nq (Any P ops M (del i rem))) [] a w := by
  subst hd
  exact h

theorem any_end {ops : Array Oper} {M : Act → World → Prop} {a : Act} {w : World} (h : M a w) : Any P ops M [] a w := by
  intro listed hs hl _ _
  refine ⟨?_, h⟩
  rw [List.eq_nil_iff_forall_not_mem]
  intro i hi
  have := ((ready_sub hs hl).1 hi).2.1
  simp at this

theorem wpOps_Q {ops : Array Oper} {Q : Exit → Act → World → Prop} {K : Act → World → Prop} (hK : ∀ a w, K a w → Q .normal a w) : ∀ {l : List Nat} {a : Act} {w : World}, wpOps P ops (Nq K) l a w → wpOps P ops Q l a w := by
  intro l
  induction l with
  | nil => intro a w h; exact hK a w h
  | cons i r ih =>
    intro a w h
    rw [wpOps_cons] at *
    unfold wpOp at *
    split
    · rename_i ho
      simp only [ho] at h
      exact ih h
    · rename_i o ho
      simp only [ho] at h
      split
      · rename_i hw
        simp only [hw, if_true] at h
        rcases h with h | ⟨_, a0, w0, hq⟩
        · left
          unfold Oper.wp at *
          generalize (execOp a.eval o).run P w = x at *
          cases x with
          | ok n w' =>
            cases n <;> simp only [Oper.upon] at h ⊢ <;>
              first
                | exact ih h
                | exact Calls.mono h (fun e w'' he => by
                    cases e with
                    | returned u => exact ih he
                    | panicked c => exact he.elim
                    | outgrown => obtain ⟨_, _, hq⟩ := he; exact hq.elim)
                | exact Rows.mono h (fun _ _ he => ih he)
          | halt x w' => cases x <;> simp only [Oper.upon] at h ⊢ <;> exact h.elim
        · exact hq.elim
      · rename_i hw
        simp only [hw] at h
        exact ih h

/-- A region that draws its order. -/
theorem st_draw {Q : Exit → Act → World → Prop} {r : List It} {c : Code} {a : Act} {w w0 : World} {ex : List Nat} {L : List As} (ho : Ows ex w0 w L) (id : Nat) (ops : Array Oper) (l : List Nat) (hc : c = .region id ops true) (hm : P.follows .mixedOrders = true)
    (hl : List.range ops.size = l) (h : ∀ w, Ows ex w0 w L → Any P ops (G P Q r) l a w) : G P Q (.code c :: r) a w := by
  subst hc
  subst hl
  refine wp_region_draw fun t => ?_
  have h1 := h { w with drawn := w.drawn + 1 } ⟨ho.os, ho.tape, ho.output, ho.size, ho.block, fun A hA => by
    have := ho.sat A hA
    cases A <;> exact this, ho.nodup, ho.fresh⟩
  have h2 : wpAny P .any ops (Nq (G P Q r)) ops.size (Array.replicate ops.size false) a { w with drawn := w.drawn + 1 } := by
    have h3 := h1 (Array.replicate ops.size false) (by simp) (fun j hj => by
      rw [nmem_iff.2 (List.mem_range.2 hj)]
      simp [hj]) (fun j hj => List.mem_range.1 hj) List.nodup_range
    rw [List.length_range] at h3
    exact h3
  simp only [Region.schedule, hm, Bool.true_or, if_true]
  exact wpOps_Q (fun a w h => h) (wpAny_sound ops.size t _ a _ h2)

end Go.Ev

/- Cuts of slices, appends to what is not owned, arrays by a variable. -/
namespace Go.Ev
variable {P : Program} {T : Tab}
variable {zz : Nat}

section
variable {N : Nat} {ops : Array Oper} {Q : Exit → Act → World → Prop} {i : Nat} {rest : List Nat} {a : Act} {kn : KN} {w w0 : World} {ex : List Nat} {L : List As}

theorem st_appendF (hT : TabOK P T) (hk : Kn N a kn) (ho : Ows ex w0 w L) (t e k d : Nat) (z : Value) (o : Option Addr) (n c : Nat) (xs : List Value) (ox : Option Addr) (m mc : Nat) (news : List Value)
    (h : apOp N ops kn i = some (t, .slice o n c, .slice ox m mc, d)) (ht : tlook T.ty t = some (.slice e k)) (hz : look T.zero e = some z) (hpos : 0 < k) (hlx : xs.length = n * k) (hrx : Rd w o xs) (hc : n = c) (hmn : 0 < m ∨ n = 0)
    (hl : news.length = m * k) (hrd : Rd w ox news) (h1 : ∀ u ∈ news, u.oneCell' = true) (hb : n + m ≤ 4294967296) (n' : Nat) (xs' : List Value) (hn' : n + m = n') (hxs' : xs ++ news = xs')
    (next : ∀ a' o' c' w', (m = 0 → o' = o) → Kn N a' ((d, .slice o' n' c') :: kn) → Ows ex w0 w' (.row 0 e k (.slice o' n' c') n' xs' :: L) → wpOps P ops Q rest a' w') : wpOps P ops Q (i :: rest) a w := by
  subst hn' hxs' hc
  obtain ⟨hu, inf, hi, rfl⟩ := hT.ty _ _ ht
  obtain ⟨inf', hi', hzero, hzs, hby⟩ := hT.zero _ _ hz
  obtain rfl : inf = inf' := by rw [hi] at hi'; exact Option.some.inj hi'
  have hbytes : (n + m) * inf.bytes ≤ 140737488355328 := Nat.le_trans (Nat.mul_le_mul hb hby) (by decide)
  rcases Nat.eq_zero_or_pos m with h0 | hm
  · subst h0
    have hn : n = 0 := hmn.resolve_left (by omega)
    subst hn
    have hx0 : xs = [] := List.eq_nil_of_length_eq_zero (by simpa using hlx)
    have hnw : news = [] := List.eq_nil_of_length_eq_zero (by simpa using hl)
    subst hx0 hnw
    have hr2 : ∀ ty, (Builtin.append_ #[t, t] ty #[.slice o 0 0, .slice ox 0 mc]).run P w = .ok (.slice o 0 0) w := by
      intro ty
      have hfc : (Builtin.firstCells inf.size 0 (.slice ox 0 mc)).run P w = .ok #[] w := by
        cases ox <;> simp [Builtin.firstCells, loadCells, loadCellsFrom]
      cases o <;> simp [Builtin.append_, run_underlying hu, sizeOf, typeInfo, hi, Builtin.lenOf, hfc, storeCells]
    exact apOp_sound hk h hr2 fun a' hk' => next a' o 0 w (fun _ => rfl) hk' (ho.noRow e inf.size o)
  · have hox : ∃ ad, ox = some ad := by
      obtain ⟨ad, h, _⟩ := hrd 0 (news[0]'(by rw [hl]; exact Nat.mul_pos (by omega) hpos)) (by simp)
      exact ⟨ad, h⟩
    obtain ⟨ad, rfl⟩ := hox
    have hnews : ∀ j u, news[j]? = some u → w.cell? (ad.add j) = some u := by
      intro j u hu
      obtain ⟨ad', h, h2⟩ := hrd j u hu
      obtain rfl := Option.some.inj h
      exact h2
    have grown : ∀ (old : Nat) (cs : Array Value), cs.size = (n + m) * inf.size → cs.toList = xs ++ news →
        Ows ex w0 (w.drew.alloc (.cells (cs ++ Builtin.zeroCells z.cells (grownCap w (n + m) old e - (n + m))) e)) (.row 0 e inf.size (.slice (some ⟨w.heap.size, 0, none⟩) (n + m) (grownCap w (n + m) old e)) (n + m) (xs ++ news) :: L) := by
      intro old cs hcs hcl
      have hge := grownCap_ge w (n + m) old e
      have hcm : grownCap w (n + m) old e ≤ maxLen := grownCap_le_maxLen w (n + m) old e (by simp only [maxLen]; omega)
      have hal := ho.drew.alloc (.cells (cs ++ Builtin.zeroCells z.cells (grownCap w (n + m) old e - (n + m))) e)
      refine hal.asRow (.inl rfl) ?_ hge hcm ?_
      · simp only [Array.size_append, hcs, size_zeroCells, ← hzs, ← Nat.add_mul]
        congr 1
        omega
      · simp only [Array.toList_append, hcl]
        rw [show (n + m) * inf.size = (xs ++ news).length by rw [List.length_append, hlx, hl, Nat.add_mul]]
        exact List.take_left
    cases o with
    | none =>
      have hn : n = 0 := by
        rcases Nat.eq_zero_or_pos n with h | h
        · exact h
        · obtain ⟨ad', h2, _⟩ := hrx 0 (xs[0]'(by rw [hlx]; exact Nat.mul_pos h hpos)) (by simp)
          simp at h2
      subst hn
      have hx0 : xs = [] := List.eq_nil_of_length_eq_zero (by simpa using hlx)
      subst hx0
      have hr := fun ty => run_append_nil (P := P) w t ty e inf z hu hi hzero ad m mc news hl hnews (by omega) (by omega) (by have hb := hbytes; simp only [Nat.zero_add] at hb; omega)
      have hgr := grown 0 news.toArray (by simpa using hl) (by simp)
      simp only [Nat.zero_add, List.nil_append] at hgr next
      exact apOp_sound hk h hr fun a' hk' => next a' _ _ _ (fun h => by omega) hk' hgr
    | some b =>
      have holds : ∀ j u, xs[j]? = some u → w.cell? (b.add j) = some u := by
        intro j u hu
        obtain ⟨ad', h, h2⟩ := hrx j u hu
        obtain rfl := Option.some.inj h
        exact h2
      have hr := fun ty => run_append_grow (P := P) w t ty e inf z hu hi hzero b n n xs hlx holds ad m mc news hl hnews (by omega) (by omega) (growslice_fits (by omega) hbytes)
      have hgr := grown n (xs.toArray ++ news.toArray) (by simp [hlx, hl, Nat.add_mul]) (by simp)
      exact apOp_sound hk h hr fun a' hk' => next a' _ _ _ (fun h => by omega) hk' hgr

theorem Ows.le (ho : Ows ex w0 w L) (j : Nat) {e k n c n' : Nat} {o : Option Addr} {xs : List Value} (hj : L[j]? = some (.row zz e k (.slice o n c) n' xs)) : n' ≤ c := by
  obtain ⟨_, h⟩ := (show ORow zz w e k (.slice o n c) n' xs from ho.get hj)
  rcases h with ⟨_, _, h, _⟩ | ⟨g, cap, cur, fz, hv, _, _, h, _⟩
  · omega
  · simp only [Value.slice.injEq] at hv; omega

theorem ORow.shrink {e k n c : Nat} {o : Option Addr} {xs : List Value} (h : ORow zz w e k (.slice o n c) n xs) {m : Nat} (hm : m ≤ n) (hz2 : zz ≠ 2) : ORow zz w e k (.slice o m c) m (xs.take (m * k)) := by
  obtain ⟨h1, h2⟩ := h
  refine ⟨?_, ?_⟩
  · rw [List.length_take, h1]
    exact Nat.min_eq_left (Nat.mul_le_mul_right _ hm)
  · rcases h2 with ⟨o', hv, h, hz⟩ | ⟨g, cap, cur, fz, hv, hh, hfz, hn, hc, hp, hs, ht, hgr⟩
    · simp only [Value.slice.injEq] at hv
      obtain ⟨rfl, _, rfl⟩ := hv
      exact .inl ⟨_, by rw [show m = 0 by omega], by omega, hz⟩
    · simp only [Value.slice.injEq] at hv
      obtain ⟨rfl, _, rfl⟩ := hv
      refine .inr ⟨g, c, cur, fz, rfl, hh, hfz, by omega, hc, hp, hs, ?_, fun h => absurd h hz2⟩
      rw [← ht, List.take_take, Nat.min_eq_left (Nat.mul_le_mul_right _ hm)]

theorem Ows.shrink (ho : Ows ex w0 w L) (j : Nat) {e k n c : Nat} {o : Option Addr} {xs : List Value} (hj : L[j]? = some (.row zz e k (.slice o n c) n xs)) (m : Nat) (hm : m ≤ n) (hz2 : zz ≠ 2) (xs' : List Value) (hx : xs.take (m * k) = xs') (L' : List As) (hL : L.set j (.row zz e k (.slice o m c) m xs') = L') : Ows ex w0 w L' := by
  subst hx hL
  have hr := ORow.shrink (show ORow zz w e k (.slice o n c) n xs from ho.get hj) hm hz2
  refine Ows.back hj ((ho.front j _ _ hj rfl).turned (w' := w) ⟨rfl, rfl, rfl, Nat.le_refl _, fun _ _ _ => rfl⟩ hr (.inl ?_))
  cases c <;> cases o <;> rfl

/-! ### the reading of a cut -/

theorem Rd.take {o : Option Addr} {xs : List Value} (h : Rd w o xs) (n : Nat) : Rd w o (xs.take n) := by
  intro j u hu
  rw [List.getElem?_take] at hu
  split at hu
  · exact h j u hu
  · simp at hu

theorem Rd.drop {o : Option Addr} {xs : List Value} (h : Rd w o xs) (c a k : Nat) (hc : xs.length ≤ c * k) : Rd w (shA o c a k) (xs.drop (a * k)) := by
  unfold shA
  split
  · rename_i he
    subst he
    rw [List.drop_eq_nil_of_le hc]
    exact Rd.nil _
  · intro j u hu
    rw [List.getElem?_drop] at hu
    obtain ⟨ad, rfl, h2⟩ := h _ u hu
    exact ⟨_, rfl, by rw [addr_add_add]; exact h2⟩

theorem Rd.take1 {α : Type} {f : α → Value} {o : Option Addr} {xs : List α} (h : Rd w o (xs.map f)) (n : Nat) : Rd w o ((xs.take n).map f) := by
  rw [List.map_take]; exact h.take n

theorem Rd.drop1 {α : Type} {f : α → Value} {o : Option Addr} {xs : List α} {c : Nat} (h : Rd w o (xs.map f)) (hc : xs.length ≤ c) (a : Nat) : Rd w (shA o c a 1) ((xs.drop a).map f) := by
  have := h.drop c a 1 (by simpa using hc)
  rwa [Nat.mul_one, ← List.map_drop] at this

theorem flat_take {α : Type} {enc : α → List Value} {k : Nat} (hk : ∀ x, (enc x).length = k) : ∀ (xs : List α) (n : Nat), (xs.flatMap enc).take (n * k) = (xs.take n).flatMap enc := by
  intro xs
  induction xs with
  | nil => intro n; simp
  | cons x r ih =>
    intro n
    cases n with
    | zero => simp
    | succ n =>
      have h1 : (n + 1) * k = (enc x).length + n * k := by rw [hk, Nat.succ_mul, Nat.add_comm]
      rw [List.flatMap_cons, h1, List.take_length_add_append, ih, List.take_succ_cons, List.flatMap_cons]

theorem flat_drop {α : Type} {enc : α → List Value} {k : Nat} (hk : ∀ x, (enc x).length = k) : ∀ (xs : List α) (n : Nat), (xs.flatMap enc).drop (n * k) = (xs.drop n).flatMap enc := by
  intro xs
  induction xs with
  | nil => intro n; simp
  | cons x r ih =>
    intro n
    cases n with
    | zero => simp
    | succ n =>
      have h1 : (n + 1) * k = (enc x).length + n * k := by rw [hk, Nat.succ_mul, Nat.add_comm]
      rw [List.flatMap_cons, h1, List.drop_length_add_append, ih, List.drop_succ_cons]

theorem Rd.takeK {α : Type} {enc : α → List Value} {o : Option Addr} {xs : List α} (h : Rd w o (xs.flatMap enc)) {k : Nat} (hk : ∀ x, (enc x).length = k) (n : Nat) : Rd w o ((xs.take n).flatMap enc) := by
  rw [← flat_take hk]; exact h.take _

theorem Rd.dropK {α : Type} {enc : α → List Value} {o : Option Addr} {xs : List α} {c : Nat} (h : Rd w o (xs.flatMap enc)) {k : Nat} (hk : ∀ x, (enc x).length = k) (hc : xs.length ≤ c) (a : Nat) : Rd w (shA o c a k) ((xs.drop a).flatMap enc) := by
  rw [← flat_drop hk]
  refine h.drop c a k ?_
  have : (xs.flatMap enc).length = xs.length * k := by
    clear h hc
    induction xs with
    | nil => simp
    | cons x r ih => rw [List.flatMap_cons, List.length_append, ih, hk, List.length_cons, Nat.succ_mul, Nat.add_comm]
  rw [this]
  exact Nat.mul_le_mul_right _ hc

theorem one_map {α : Type} {f : α → Value} (h : ∀ x, (f x).oneCell' = true) (l : List α) : ∀ u ∈ l.map f, u.oneCell' = true := by
  intro u hu
  obtain ⟨x, _, rfl⟩ := List.mem_map.1 hu
  exact h x

theorem one_flat {α : Type} {enc : α → List Value} (h : ∀ x, allOne (enc x) = true) (l : List α) : ∀ u ∈ l.flatMap enc, u.oneCell' = true := by
  intro u hu
  obtain ⟨x, _, hx⟩ := List.mem_flatMap.1 hu
  exact allOne_mem (h x) u hx

/-! ### an operation whose value is told -/

def YK (P : Program) (N : Nat) (ops : Array Oper) (kn : KN) (i d : Nat) (v : Value) : Prop :=
  ∀ a, Kn N a kn → ∃ o, ops[i]? = some o ∧ o.dst = some d ∧ Region.wanted o (yielded ops a.tmps) = true ∧ Nat.blt d N = true ∧ ∀ w, (execOp a.eval o).run P w = .ok (.value v) w

theorem st_yield (hk : Kn N a kn) (d : Nat) (v : Value) (h : YK P N ops kn i d v) (next : ∀ a', Kn N a' ((d, v) :: kn) → wpOps P ops Q rest a' w) : wpOps P ops Q (i :: rest) a w := by
  obtain ⟨o, ho, hd, hw, hb, hr⟩ := h a hk
  refine wpOps_value (w' := w) ho hw (hr w) ?_
  rw [hd]
  exact next _ (hk.put' hb v)

theorem any_yield {M : Act → World → Prop} (hk : Kn N a kn) (i : Nat) (rem rem' : List Nat) (d : Nat) (v : Value) (hsel : Region.noSelect ops = true) (h : YK P N ops kn i d v) (ht : takes ops [i] rem = some rem') (next : ∀ a', Kn N a' ((d, v) :: kn) → Any P ops M rem' a' w) : Any P ops M rem a w := by
  obtain ⟨o, ho, hd, hw, hb, hr⟩ := h a hk
  simp only [takes, ho] at ht
  split at ht
  · rename_i hm hbn hf
    obtain rfl := Option.some.inj ht
    refine Any.take hsel ho hm hbn hf (.inl ⟨hw, hr⟩) ?_
    rw [hd]
    exact next _ (hk.put' hb v)
  · simp at ht

def ixOp (N : Nat) (ops : Array Oper) (kn : KN) (i : Nat) : Option (Nat × Value × Value × Nat) :=
  match ops[i]? with
  | none => none
  | some o => match gd ops kn o, o.dst, o.op with
    | some true, some d, .index t x j => match opd kn x, opd kn j, Nat.blt d N with
      | some u, some v, true => some (t, u, v, d)
      | _, _, _ => none
    | _, _, _ => none

/-- An array's element, by a variable. -/
theorem ix1 (hT : TabOK P T) (t e d : Nat) (k : IntKind) {α : Type} [Inhabited α] (f : α → Value) (xs : List α) (j : Int) (n : Nat) (h : ixOp N ops kn i = some (t, .agg ⟨xs.map f⟩, .int k j, d)) (ht : tlook T.ty t = some (.arr n e 1 false)) (hn : xs.length = n)
    (h0 : 0 ≤ j) (h1 : j < (n : Int)) : YK P N ops kn i d (f (get xs j)) := by
  intro a hk
  unfold ixOp at h
  split at h
  · simp at h
  · rename_i o hop
    split at h
    · rename_i d' t' x' j' hg hd hop2
      split at h
      · rename_i u v hu hv hb
        simp only [Option.some.injEq, Prod.mk.injEq] at h
        obtain ⟨rfl, rfl, rfl, rfl⟩ := h
        refine ⟨o, hop, hd, gd_sound hk hg, hb, fun w => ?_⟩
        simp only [execOp, hop2, opd_sound hk hu, opd_sound hk hv]
        refine run_value (indexV_sound hT (ob := some (0 ≤ j ∧ j < (n : Int))) ?_ (fun p hp => by obtain rfl := Option.some.inj hp; exact ⟨h0, h1⟩))
        have hp : partV false 1 ⟨xs.map f⟩ (j.toNat * 1) = some (f (get xs j)) := by
          simp only [partV, Nat.mul_one, List.getElem?_map]
          rw [get_eq xs j h0 (by omega)]
          rfl
        simp only [indexV, ht, hp]
      · simp at h
    · simp at h

/-- The same, for elements of several cells. -/
theorem ixK (hT : TabOK P T) (t e d s : Nat) (k : IntKind) {α : Type} [Inhabited α] (enc : α → List Value) (henc : ∀ x, (enc x).length = s) (xs : List α) (j : Int) (n : Nat) (h : ixOp N ops kn i = some (t, .agg ⟨xs.flatMap enc⟩, .int k j, d)) (ht : tlook T.ty t = some (.arr n e s true)) (hn : xs.length = n)
    (h0 : 0 ≤ j) (h1 : j < (n : Int)) : YK P N ops kn i d (.agg ⟨enc (get xs j)⟩) := by
  intro a hk
  unfold ixOp at h
  split at h
  · simp at h
  · rename_i o hop
    split at h
    · rename_i d' t' x' j' hg hd hop2
      split at h
      · rename_i u v hu hv hb
        simp only [Option.some.injEq, Prod.mk.injEq] at h
        obtain ⟨rfl, rfl, rfl, rfl⟩ := h
        refine ⟨o, hop, hd, gd_sound hk hg, hb, fun w => ?_⟩
        simp only [execOp, hop2, opd_sound hk hu, opd_sound hk hv]
        refine run_value (indexV_sound hT (ob := some (0 ≤ j ∧ j < (n : Int))) ?_ (fun p hp => by obtain rfl := Option.some.inj hp; exact ⟨h0, h1⟩))
        have hp : partV true s ⟨xs.flatMap enc⟩ (j.toNat * s) = some (.agg ⟨enc (get xs j)⟩) := by
          simp only [partV]
          rw [flat_drop henc]
          have h2 := get_eq xs j h0 (by omega)
          obtain ⟨hlt, hx⟩ := List.getElem?_eq_some_iff.1 h2
          rw [List.drop_eq_getElem_cons hlt, hx, List.flatMap_cons, List.take_left' (henc _)]
        simp only [indexV, ht, hp]
      · simp at h
    · simp at h

end

end Go.Ev

/- What a call is handed to own; externs; builders of texts. -/
namespace Go.Ev
variable {P : Program} {T : Tab} {zz : Nat}

/-- What lies there, apart from one another. -/
structure Has (w : World) (L : List As) : Prop where
  sat : ∀ A ∈ L, A.sat w
  nodup : (feet L).Nodup

theorem Ows.has {ex : List Nat} {w0 w : World} {K L : List As} (h : Ows ex w0 w (K ++ L)) : Has w K :=
  ⟨fun A hA => h.sat A (List.mem_append.2 (.inl hA)), by
    have := h.nodup
    simp only [feet, List.flatMap_append] at this
    exact (List.nodup_append.1 this).1⟩

theorem st_startL {f : FuncId} {fn : Func} {N : Nat} {R : Ending → World → Prop} {w0 : World} (args : List Value) (c : Code) (hf : P.funcs[f]? = some fn) (hb : fn.body = some c) (hn : fn.ntmps = N)
    (hl : Nat.ble args.length N = true) (L0 : List As) (hh : Has w0 L0) (h : ∀ a w, Kn N a (zipK 0 args) → Ows (feet L0) w0 w L0 → G P (bodyPost P fn R) [.code c] a w) : Calls P f ⟨args⟩ w0 R :=
  st_enter args c hf hb hn hl fun a hk => h a w0 hk ⟨rfl, rfl, rfl, Nat.le_refl _, fun _ _ _ => rfl, hh.sat, hh.nodup, fun _ hk => .inr hk⟩

/-! ### functions without a body -/

def Ext (P : Program) (f : FuncId) (e : Array Value → Sem Value) : Prop := ∀ args w, (callFunc f args).run P w = ((e args).run P w).andThen fun v w' => .ok (.value v) w'

theorem ext_of {f : FuncId} {fn : Func} {e : Array Value → Sem Value} (hf : P.funcs[f]? = some fn) (hname : (fn.name == "runtime.NumGoroutine") = false) (hb : fn.body.isNone = true) (hn : Extern.findNext fn = none) (he : Extern.find fn = some e) : Ext P f e :=
  fun args w => run_callFunc_extern hf hname hb hn he args w

section
variable {N : Nat} {ops : Array Oper} {Q : Exit → Act → World → Prop} {i : Nat} {rest : List Nat} {a : Act} {kn : KN} {w w0 : World} {ex : List Nat} {L : List As}

theorem st_ext (hk : Kn N a kn) (f : FuncId) (args : List Value) (d : Nat) {e : Array Value → Sem Value} (hE : Ext P f e) (h : callOp N ops kn i = some (f, args, some d)) {v : Value} {w' : World} (hr : (e ⟨args⟩).run P w = .ok v w')
    (next : ∀ a', Kn N a' ((d, v) :: kn) → wpOps P ops Q rest a' w') : wpOps P ops Q (i :: rest) a w := by
  unfold callOp at h
  split at h
  · simp at h
  · rename_i o ho
    split at h
    · rename_i x xs ts hg hf hop
      split at h
      · rename_i f' first captured vs hx hxs
        simp only [Option.some.injEq, Prod.mk.injEq] at h
        obtain ⟨rfl, rfl, hd⟩ := h
        have he : first ++ xs.map a.eval ++ captured = ⟨first.toList ++ vs ++ captured.toList⟩ := by
          rw [opds_sound_arr hk hxs]
          apply Array.toList_inj.1
          simp
        refine wpOps_value (v := v) (w' := w') ho (gd_sound hk hg) ?_ ?_
        · simp only [execOp, hop, resolve, opd_sound hk hx, Deferred.ofValue, Sem.run_bind, Sem.run_pure, Result.andThen_ok, invoke, he]
          rw [hE, hr]
          rfl
        · rw [hd] at hf ⊢
          exact next _ (hk.putK hf v)
      · simp at h
    · simp at h

theorem same_run (v : Value) (w : World) : (Extern.AbiNoEscape.same ⟨[v]⟩).run P w = .ok v w := rfl

/-- bytealg.MakeNoZero -/
theorem st_make0 (hT : TabOK P T) (hk : Kn N a kn) (ho : Ows ex w0 w L) (f t e d : Nat) (m : Int) (ps : Array TypeId) (hE : Ext P f (Extern.BytealgMakeNoZero.makeNoZero ps #[t])) (h : callOp N ops kn i = some (f, [.int .i64 m], some d))
    (ht : tlook T.ty t = some (.slice e 1)) (h0 : 0 < m) (hm : m ≤ 4294967296)
    (next : ∀ a' o c vs w', o.isSome = true → Kn N a' ((d, .slice o m.toNat c) :: kn) → Ows ex w0 w' (.row 1 e 1 (.slice o m.toNat c) m.toNat vs :: L) → wpOps P ops Q rest a' w') : wpOps P ops Q (i :: rest) a w := by
  obtain ⟨n, rfl⟩ := Int.eq_ofNat_of_zero_le (Int.le_of_lt h0)
  have ht' := (hT.ty _ _ ht).1
  obtain ⟨cs, hr, h1, h2, _⟩ := Lib.run_makeNoZero_cap (P := P) w ps t e ht' n (by omega)
  rw [Int.toNat_natCast] at next
  refine st_ext hk f _ d hE h hr fun a' hk' => next a' _ _ (cs.toList.take n) _ rfl hk' ?_
  have hal := ho.drew.drew.alloc (.cells cs e)
  have hrow := hal.asRow (cap := cs.size) (n := n) (size := 1) (xs := cs.toList.take n) (.inl rfl) (by simp) h1 (h2 (by simp only [maxLen]; omega)) (by rw [Nat.mul_one])
  refine ⟨hrow.os, hrow.tape, hrow.output, hrow.size, hrow.block, ?_, hrow.nodup, hrow.fresh⟩
  intro A hA
  rcases List.mem_cons.1 hA with rfl | hA
  · obtain ⟨hl, hh⟩ := hrow.sat _ (List.mem_cons_self ..)
    refine ⟨hl, ?_⟩
    rcases hh with ⟨o, hv, hz, _⟩ | hh
    · omega
    · obtain ⟨g, cap, cur, fz, q1, q2, q3, q4, q5, q6, q7, q8, _⟩ := hh
      exact .inr ⟨g, cap, cur, fz, q1, q2, q3, q4, q5, q6, q7, q8, by simp⟩
  · exact hrow.sat A (List.mem_cons_of_mem _ hA)

/-! ### pointers of no type -/

theorem st_toU (hk : Kn N a kn) (ho : Ows ex w0 w L) (j : Nat) (s t u d b off e : Nat) (cs : Array Value) (h : cvOp N ops kn i = some (s, t, .pointer (some ⟨b, off, none⟩), d)) (hs : P.underlying s = some (.pointer u)) (ht : P.underlying t = some .unsafePointer)
    (hu : ((P.info? u).map (·.size)).getD 0 ≠ 0) (hj : L[j]? = some (.blk b (.cells cs e (0, 0)))) (hoff : Nat.blt off cs.size = true)
    (next : ∀ a', Kn N a' ((d, .pointer (some ⟨b, off, none⟩)) :: kn) → wpOps P ops Q rest a' w) : wpOps P ops Q (i :: rest) a w := by
  have hb : w.heap[b]? = some (.cells cs e (0, 0)) := ho.get hj
  obtain ⟨inf, hi⟩ : ∃ inf, P.info? u = some inf := by
    cases hi : P.info? u with
    | none => simp [hi] at hu
    | some inf => exact ⟨inf, rfl⟩
  refine cvOp_sound hk h (Lib.run_to_unsafe (e := e) (cells := cs.size) w ⟨b, off, none⟩ hs ht hi (by simpa [hi] using hu) (by simp [World.shape?, hb]) (by simpa [Nat.blt_eq] using hoff)) next

theorem st_fromU (hk : Kn N a kn) (ho : Ows ex w0 w L) (j : Nat) (s t u d b off e n : Nat) (cs : Array Value) (h : cvOp N ops kn i = some (s, t, .pointer (some ⟨b, off, none⟩), d)) (hs : P.underlying s = some .unsafePointer) (ht : P.underlying t = some (.pointer u))
    (hu : (P.info? u).isSome = true) (hj : L[j]? = some (.blk b (.cells cs e (0, 0)))) (hn : cs.size = n) (hl : liesAt P P.depth e (n / P.cellsOf e) off u 1 = true)
    (next : ∀ a', Kn N a' ((d, .pointer (some ⟨b, off, none⟩)) :: kn) → wpOps P ops Q rest a' w) : wpOps P ops Q (i :: rest) a w := by
  subst hn
  have hb : w.heap[b]? = some (.cells cs e (0, 0)) := ho.get hj
  obtain ⟨inf, hi⟩ := Option.isSome_iff_exists.1 hu
  exact cvOp_sound hk h (Lib.run_from_unsafe (e := e) (cells := cs.size) w ⟨b, off, none⟩ hs ht hi (by simp [World.shape?, hb]) hl) next

/-! ### builtins -/

def bcOp (N : Nat) (ops : Array Oper) (kn : KN) (i : Nat) : Option (Builtin × List Value × List TypeId × Nat) :=
  match ops[i]? with
  | none => none
  | some o => match gd ops kn o, o.dst, o.op with
    | some true, some d, .call { callee := .builtin b, args := xs, argTypes := ts } => match opds kn xs.toList, Nat.blt d N with
      | some vs, true => some (b, vs, ts.toList, d)
      | _, _ => none
    | _, _, _ => none

theorem bcOp_inv {b : Builtin} {vs : List Value} {tl : List TypeId} {d : Nat} (h : bcOp N ops kn i = some (b, vs, tl, d)) :
    ∃ o xs, ops[i]? = some o ∧ gd ops kn o = some true ∧ o.dst = some d ∧ o.op = .call { callee := .builtin b, args := xs, argTypes := ⟨tl⟩ } ∧ opds kn xs.toList = some vs ∧ Nat.blt d N = true := by
  unfold bcOp at h
  split at h
  · simp at h
  · rename_i o hop
    split at h
    · rename_i d' b' xs ts hg hd hop2
      split at h
      · rename_i vs' hxs hb
        simp only [Option.some.injEq, Prod.mk.injEq] at h
        obtain ⟨rfl, rfl, rfl, rfl⟩ := h
        exact ⟨o, xs, hop, hg, hd, by rw [hop2], hxs, hb⟩
      · simp at h
    · simp at h

/-- unsafe.SliceData of a slice that is nil, or has room. -/
theorem usdY (t d : Nat) (o : Option Addr) (n c : Nat) (h : bcOp N ops kn i = some (.unsafeSliceData, [.slice o n c], [t], d)) (hz : o = none ∨ 0 < c) : YK P N ops kn i d (.pointer o) := by
  intro a hk
  obtain ⟨op, xs, hop, hg, hd, hop2, hxs, hb⟩ := bcOp_inv h
  refine ⟨op, hop, hd, gd_sound hk hg, hb, fun w => ?_⟩
  have hr : ∀ ty, (Builtin.unsafeSliceData_ ⟨[t]⟩ ty ⟨[.slice o n c]⟩).run P w = .ok (.pointer o) w := by
    intro ty
    cases o with
    | none => rfl
    | some ad => exact Lib.run_unsafeSliceData_row w _ ty ad n c (by
      rcases hz with h | h
      · cases h
      · omega)
  simp only [execOp, hop2, resolve, opds_sound_arr hk hxs, Sem.run_bind, Sem.run_pure, Result.andThen_ok, invoke, builtin, hr]

/-- A copy of nothing. -/
theorem copyY (hT : TabOK P T) (t t' e d : Nat) (o : Option Addr) (n c : Nat) (h : bcOp N ops kn i = some (.copy, [.slice o n c, .slice none 0 0], [t, t'], d)) (ht : tlook T.ty t = some (.slice e 1)) : YK P N ops kn i d (I 0) := by
  intro a hk
  obtain ⟨op, xs, hop, hg, hd, hop2, hxs, hb⟩ := bcOp_inv h
  refine ⟨op, hop, hd, gd_sound hk hg, hb, fun w => ?_⟩
  obtain ⟨hu, inf, hi, hs⟩ := hT.ty _ _ ht
  have hr : ∀ ty, (Builtin.copy_ ⟨[t, t']⟩ ty ⟨[.slice o n c, .slice none 0 0]⟩).run P w = .ok (I 0) w := by
    intro ty
    cases o <;> simp [Builtin.copy_, run_underlying hu, Builtin.lenOf, sizeOf, typeInfo, hi, Builtin.firstCells, storeCells, goInt, Nat.min]
  simp only [execOp, hop2, resolve, opds_sound_arr hk hxs, Sem.run_bind, Sem.run_pure, Result.andThen_ok, invoke, builtin, hr]

theorem Ows.nz (ho : Ows ex w0 w L) (j : Nat) {e k n c n' : Nat} {o : Option Addr} {xs : List Value} (hj : L[j]? = some (.row 1 e k (.slice o n c) n' xs)) : o = none ∨ 0 < c := by
  obtain ⟨_, h⟩ := (show ORow 1 w e k (.slice o n c) n' xs from ho.get hj)
  rcases h with ⟨o', hv, _, hz⟩ | ⟨g, cap, cur, fz, hv, _, _, _, _, h, _⟩
  · simp only [Value.slice.injEq] at hv; exact .inl (by rw [hv.1]; exact hz (by decide))
  · simp only [Value.slice.injEq] at hv; exact .inr (by omega)

theorem Ows.exact (ho : Ows ex w0 w L) (j : Nat) {e k n c n' : Nat} {o : Option Addr} {xs : List Value} (hj : L[j]? = some (.row 2 e k (.slice o n c) n' xs)) : o.isNone = decide (n' = 0) := by
  obtain ⟨_, h⟩ := (show ORow 2 w e k (.slice o n c) n' xs from ho.get hj)
  rcases h with ⟨o', hv, h0, hz⟩ | ⟨g, cap, cur, fz, hv, _, _, _, _, _, _, _, h⟩
  · simp only [Value.slice.injEq] at hv
    rw [hv.1, hz (by decide), h0]
    rfl
  · simp only [Value.slice.injEq] at hv
    have := h rfl
    rw [hv.1]
    simp; omega

theorem Ows.weak (ho : Ows ex w0 w L) (j : Nat) {e k n' : Nat} {v : Value} {xs : List Value} (hj : L[j]? = some (.row zz e k v n' xs)) (L' : List As) (hL : L.set j (.row 0 e k v n' xs) = L') : Ows ex w0 w L' := by
  subst hL
  refine Ows.back hj ((ho.front j _ _ hj rfl).turned (w' := w) ⟨rfl, rfl, rfl, Nat.le_refl _, fun _ _ _ => rfl⟩ ?_ (.inl rfl))
  obtain ⟨h1, h2⟩ := (show ORow zz w e k v n' xs from ho.get hj)
  refine ⟨h1, ?_⟩
  rcases h2 with ⟨o, hv, h0, _⟩ | ⟨g, cap, cur, fz, q1, q2, q3, q4, q5, q6, q7, q8, _⟩
  · exact .inl ⟨o, hv, h0, by simp⟩
  · exact .inr ⟨g, cap, cur, fz, q1, q2, q3, q4, q5, q6, q7, q8, by simp⟩

theorem freeze_other (w : World) (g n k : Nat) (h : k ≠ g) : (w.freeze ⟨g, 0, none⟩ n).heap[k]? = w.heap[k]? := by
  unfold World.freeze
  split
  · rfl
  · simp [Array.getElem?_modify, Ne.symm h]

/-- unsafe.String of a row's cells: the row is frozen, and let go. -/
theorem st_ustr (hT : TabOK P T) (hk : Kn N a kn) (ho : Ows ex w0 w L) (j : Nat) (pt it e d : Nat) (o : Option Addr) (n c : Nat) (l : List UInt8) (L' : List As) (h : bcOp N ops kn i = some (.unsafeString, [.pointer o, .int .i64 n], [pt, it], d))
    (hp : P.underlying pt = some (.pointer e)) (hce : P.cellsOf e = 1) (hj : L[j]? = some (.row zz e 1 (.slice o n c) n (l.map bV))) (hl : l.length = n) (hL : L.eraseIdx j = L')
    (next : ∀ a' w', Kn N a' ((d, S l) :: kn) → Ows ex w0 w' L' → wpOps P ops Q rest a' w') : wpOps P ops Q (i :: rest) a w := by
  subst hL hl
  obtain ⟨op, xs, hop, hg, hd, hop2, hxs, hb⟩ := bcOp_inv h
  have fin : ∀ w', (∀ ty, (Builtin.unsafeString_ ⟨[pt, it]⟩ ty ⟨[.pointer o, .int .i64 l.length]⟩).run P w = .ok (S l) w') → Ows ex w0 w' (L.eraseIdx j) → wpOps P ops Q (i :: rest) a w := by
    intro w' hr ho'
    refine wpOps_value (v := S l) (w' := w') hop (gd_sound hk hg) ?_ (by rw [hd]; exact next _ _ (hk.put' hb _) ho')
    simp only [execOp, hop2, resolve, opds_sound_arr hk hxs, Sem.run_bind, Sem.run_pure, Result.andThen_ok, invoke, builtin, hr]
  have hof := ho.front j _ _ hj rfl
  cases hl0 : l with
  | nil =>
    rw [hl0] at fin
    refine fin w (fun ty => Lib.run_unsafeString_none w pt it ty o) ?_
    exact hof.drop (List.sublist_cons_self ..)
  | cons x r =>
    have hrow : ORow zz w e 1 (.slice o l.length c) l.length (l.map bV) := ho.get hj
    rcases hrow.2 with ⟨_, _, h0, _⟩ | ⟨g, cap, cur, fz, hv, hh, hfz, hn, hc, hp0, hs, ht, _⟩
    · rw [hl0] at h0; simp at h0
    · simp only [Value.slice.injEq] at hv
      obtain ⟨rfl, _, rfl⟩ := hv
      have hcell : ∀ k x, l[k]? = some x → w.cell? ((⟨g, 0, none⟩ : Addr).add k) = some (.int .u8 x.toNat) := by
        intro k x hx
        obtain ⟨ad, h1, h2⟩ := ORow.rd hrow rfl k (bV x) (by simp [hx])
        obtain rfl := Option.some.inj h1
        exact h2
      have hr := fun ty => Lib.run_unsafeString_row (P := P) w pt it ty e hp hce g cur.size (by simp [World.shape?, hh]) l (by simp [hl0]) (by omega) (by simp only [maxLen] at hc; omega) hcell
      refine fin _ hr ?_
      -- the world behind a freeze
      have hfoot : feet (As.row zz e 1 (.slice (some ⟨g, 0, none⟩) l.length c) l.length (l.map bV) :: L.eraseIdx j) = g :: feet (L.eraseIdx j) := by
        simp only [feet, List.flatMap_cons, As.foot, obk_pos hp0, Option.toList, List.singleton_append]
      have hnd := hof.nodup
      rw [hfoot] at hnd
      have hfr := hof.fresh
      rw [hfoot] at hfr
      have hd := hof.drop (List.sublist_cons_self _ (L.eraseIdx j))
      have hsz : (w.freeze ⟨g, 0, none⟩ l.length).heap.size = w.heap.size := by
        unfold World.freeze
        split <;> simp
      have hos : (w.freeze ⟨g, 0, none⟩ l.length).os = w.os ∧ (w.freeze ⟨g, 0, none⟩ l.length).tape = w.tape ∧ (w.freeze ⟨g, 0, none⟩ l.length).output = w.output := by
        unfold World.freeze
        split <;> simp
      refine ⟨hos.1.trans hd.os, hos.2.1.trans hd.tape, hos.2.2.trans hd.output, by rw [hsz]; exact hd.size, ?_, ?_, hd.nodup, hd.fresh⟩
      · intro k hk hx
        rw [freeze_other]
        · exact hd.block k hk hx
        · rintro rfl
          rcases hfr k (by simp) with h | h
          · omega
          · exact hx h
      · intro A hA
        refine As.sat_of (hd.sat A hA) fun k hk => freeze_other w g _ k ?_
        rintro rfl
        exact (List.nodup_cons.1 hnd).1 (List.mem_flatMap.2 ⟨A, hA, hk⟩)

end

end Go.Ev

/- Appends of texts to bytes. -/
namespace Go.Ev
variable {P : Program} {T : Tab} {zz : Nat}

theorem bytes_S (l : List UInt8) : byteCells ⟨⟨l⟩⟩ = l.map bV := rfl

theorem run_appendS_to (w : World) (t tx ty e : Nat) (inf : TypeInfo) (z : Value) (ht : P.underlying t = some (.slice e)) (hx : P.underlying tx = some .string) (hi : P.info? e = some inf) (hz : inf.zero = some z) (hzs : inf.size = z.cells.size) (hby : inf.bytes ≤ 4096) (hsz : inf.size = 1)
    (o : Option Addr) (n c : Nat) (xs : List Value) (hown : ORow zz w e 1 (.slice o n c) n xs) (l : List UInt8)
    (hb : n + l.length ≤ 4294967296) : ∃ o' c' w', (Builtin.append_ #[t, tx] ty #[.slice o n c, S l]).run P w = .ok (.slice o' (n + l.length) c') w' ∧ ORow zz w' e 1 (.slice o' (n + l.length) c') (n + l.length) (xs ++ l.map bV) ∧
      w.grownBy w' (obk (Value.slice o n c)) ∧ (obk (Value.slice o' (n + l.length) c') = obk (Value.slice o n c) ∨ ∀ k, obk (Value.slice o' (n + l.length) c') = some k → w.heap.size ≤ k) ∧ (o' = none ↔ o = none ∧ l.length = 0) := by
  have hbytes : (n + l.length) * inf.bytes ≤ 140737488355328 := Nat.le_trans (Nat.mul_le_mul hb hby) (by decide)
  have hself : w.grownBy w (obk (Value.slice o n c)) := ⟨rfl, rfl, rfl, Nat.le_refl _, fun _ _ _ => rfl⟩
  have hlen : (xs ++ l.map bV).length = (n + l.length) * 1 := by rw [List.length_append, hown.1, List.length_map, Nat.add_mul, Nat.mul_one l.length]
  have src : Src P inf.size tx (S l) l.length (l.map bV) w := by
    have := Src.ofString (P := P) w hx ⟨⟨l⟩⟩
    rw [hsz]
    exact this
  have hnc : n ≤ c := by
    rcases hown.2 with ⟨_, h1, h2, _⟩ | ⟨g, cap, cur, fz, h1, _, _, h2, _⟩
    · simp only [Value.slice.injEq] at h1; omega
    · simp only [Value.slice.injEq] at h1; omega
  have hfc0 : ∀ w', (Builtin.firstCells 1 l.length (S l)).run P w' = .ok (l.map bV).toArray w' := by
    intro w'
    have := firstCells_string (P := P) ⟨⟨l⟩⟩ w'
    exact this
  by_cases hm : l.length = 0
  · have hl : l = [] := List.eq_nil_of_length_eq_zero hm
    subst hl
    refine ⟨o, c, w, ?_, by simpa using hown, hself, .inl rfl, by simp⟩
    have hfc := hfc0 w
    simp only [List.length_nil, List.map_nil] at hfc
    cases o <;> simp [Builtin.append_, run_underlying ht, run_underlying hx, sizeOf, typeInfo, hi, hsz, S, Builtin.lenOf, hnc, Builtin.firstCells, storeCells, ByteArray.size]
  · have grown : ∀ (old : Nat) (cs : Array Value), cs.size = (n + l.length) * 1 → cs.toList = xs ++ l.map bV →
        ORow zz (w.drew.alloc (.cells (cs ++ Builtin.zeroCells z.cells (grownCap w (n + l.length) old e - (n + l.length))) e)) e 1 (.slice (some ⟨w.heap.size, 0, none⟩) (n + l.length) (grownCap w (n + l.length) old e)) (n + l.length) (xs ++ l.map bV) ∧
        w.grownBy (w.drew.alloc (.cells (cs ++ Builtin.zeroCells z.cells (grownCap w (n + l.length) old e - (n + l.length))) e)) (obk (Value.slice o n c)) := by
      intro old cs hcs hcl
      have hge := grownCap_ge w (n + l.length) old e
      have hcm : grownCap w (n + l.length) old e ≤ maxLen := grownCap_le_maxLen w (n + l.length) old e (by simp only [maxLen]; omega)
      refine ⟨⟨hlen, .inr ⟨w.heap.size, _, _, (0, 0), rfl, heap_alloc_new w.drew _, .inl rfl, hge, hcm, by omega, ?_, ?_, fun _ => by omega⟩⟩, ⟨rfl, rfl, rfl, by simp, fun k hk _ => RowKit.Below.heap_alloc w.drew _ k hk⟩⟩
      · simp only [Array.size_append, hcs, size_zeroCells, ← hzs, hsz]
        omega
      · simp only [Array.toList_append, hcl]
        rw [← hlen]
        exact List.take_left
    have go : ∀ olds : List Value, (Builtin.firstCells inf.size n (.slice o n c)).run P w.drew = .ok olds.toArray w.drew → olds = xs → c < n + l.length →
        ∃ o' c' w', (Builtin.append_ #[t, tx] ty #[.slice o n c, S l]).run P w = .ok (.slice o' (n + l.length) c') w' ∧ ORow zz w' e 1 (.slice o' (n + l.length) c') (n + l.length) (xs ++ l.map bV) ∧
      w.grownBy w' (obk (Value.slice o n c)) ∧ (obk (Value.slice o' (n + l.length) c') = obk (Value.slice o n c) ∨ ∀ k, obk (Value.slice o' (n + l.length) c') = some k → w.heap.size ≤ k) ∧ (o' = none ↔ o = none ∧ l.length = 0) := by
      intro olds hold he hg
      subst he
      have hr := run_append_grow_src (P := P) w t tx ty e inf z ht hi hz o n c olds hold (S l) l.length (l.map bV) src hg (by omega) (growslice_fits (by omega) hbytes)
      have hgr := grown c (olds ++ l.map bV).toArray (by simpa using hlen) (by simp)
      exact ⟨_, _, _, hr, hgr.1, hgr.2, .inr (fun k hk => by have := obk_some hk; simp only at this; omega), by simp [hm]⟩
    rcases hown.2 with ⟨o1, hv, h0, _⟩ | ⟨g, cap, cur, fz, hv, hh, hfz, hnc, hcm, hcp, hcs, htake, hgr⟩
    · simp only [Value.slice.injEq] at hv
      obtain ⟨rfl, rfl, rfl⟩ := hv
      have hx0 : xs = [] := List.eq_nil_of_length_eq_zero (by simpa using hown.1)
      exact go [] (by cases o <;> simp [Builtin.firstCells, loadCells, loadCellsFrom]) hx0.symm (by omega)
    · simp only [Value.slice.injEq] at hv
      obtain ⟨rfl, _, rfl⟩ := hv
      by_cases hroom : n + l.length ≤ c
      · have hfit : n * 1 + (l.map bV).length ≤ cur.size := by rw [List.length_map, hcs]; omega
        have hfree : ∀ k, n * 1 + 0 ≤ k → k < n * 1 + 0 + (l.map bV).length → freeAt fz k = true := by
          intro k _ hk
          obtain ⟨lo, hi⟩ := fz
          rcases hfz with hfz | hfz
          · simp only [Prod.mk.injEq] at hfz
            obtain ⟨rfl, rfl⟩ := hfz
            simp [freeAt, Nat.blt, Nat.ble]
          · simp only at hfz
            subst hfz
            have : Nat.ble cur.size k = false := by
              cases hb : Nat.ble cur.size k with
              | true => have := Nat.le_of_ble_eq_true hb; omega
              | false => rfl
            simp [freeAt, this]
        have hst := run_stores (P := P) (n * 1) (l.map bV) 0 cur w hh (by simpa using hfit) hfree (oneCell_bytes l)
        have hfc := hfc0 w
        refine ⟨some ⟨g, 0, none⟩, c, w.setRow g (putL cur (n * 1) (l.map bV)), ?_, ⟨hlen, .inr ⟨g, c, putL cur (n * 1) (l.map bV), fz, rfl, setRow_heap w g cur _ e _ hh, ?_, hroom, hcm, hcp, ?_, ?_, fun h => by have := hgr h; omega⟩⟩,
          ⟨rfl, rfl, rfl, by simp [World.setRow], fun k _ hk => setRow_other w g k _ (fun e => hk (by simp [obk_pos hcp, e]))⟩, .inl (by rw [obk_pos hcp, obk_pos hcp]), by simp⟩
        · simp only [Nat.add_zero] at hst
          have hlS : ∀ w', (Builtin.lenOf (S l)).run P w' = .ok l.length w' := fun _ => rfl
          simp [Builtin.append_, run_underlying ht, run_underlying hx, sizeOf, typeInfo, hi, hsz, hlS, hroom, hfc, addr_lit]
          simp at hst
          simp [hst]
        · rcases hfz with hfz | hfz
          · exact .inl hfz
          · right
            rw [hfz]
            simp only [putL, List.size_toArray, List.length_append, List.length_take, List.length_drop, Array.length_toList]
            omega
        · simp only [putL, List.size_toArray, List.length_append, List.length_take, List.length_drop, Array.length_toList]
          omega
        · simp only [putL]
          rw [htake, ← hlen]
          exact List.take_left
      · have holds : ∀ j u, xs[j]? = some u → w.drew.cell? ((⟨g, 0, none⟩ : Addr).add j) = some u := by
          intro j u hu
          obtain ⟨ad', h, h2⟩ := ORow.rd hown rfl j u hu
          obtain rfl := Option.some.inj h
          exact h2
        exact go xs (run_firstCells_some w.drew inf.size n _ n c xs (by rw [hsz]; exact hown.1) holds) rfl (by omega)

section
variable {N : Nat} {ops : Array Oper} {Q : Exit → Act → World → Prop} {i : Nat} {rest : List Nat} {a : Act} {kn : KN} {w w0 : World} {ex : List Nat} {L : List As}

theorem st_appendS (hT : TabOK P T) (hk : Kn N a kn) (ho : Ows ex w0 w L) (j : Nat) (t tx e d : Nat) (z : Value) (o : Option Addr) (n c : Nat) (xs l : List UInt8)
    (h : bcOp N ops kn i = some (.append, [.slice o n c, S l], [t, tx], d)) (ht : tlook T.ty t = some (.slice e 1)) (htx : tlook T.ty tx = some .str) (hz : look T.zero e = some z) (hj : L[j]? = some (.row zz e 1 (.slice o n c) n (xs.map bV)))
    (hb : xs.length + l.length ≤ 4294967296) (hn : xs.length = n) (n' : Nat) (hn' : (xs ++ l).length = n')
    (next : ∀ a' o' c' w', (o' = none ↔ o = none ∧ l.length = 0) → Kn N a' ((d, .slice o' n' c') :: kn) → Ows ex w0 w' (L.set j (.row zz e 1 (.slice o' n' c') n' ((xs ++ l).map bV))) → wpOps P ops Q rest a' w') : wpOps P ops Q (i :: rest) a w := by
  subst hn hn'
  obtain ⟨hu, inf, hi, hs⟩ := hT.ty _ _ ht
  have hx := hT.ty _ _ htx
  simp only [TD.ok] at hx
  obtain ⟨inf', hi', hzero, hzs, hby⟩ := hT.zero _ _ hz
  obtain rfl : inf = inf' := by rw [hi] at hi'; exact Option.some.inj hi'
  have hrow : ORow zz w e 1 (.slice o xs.length c) xs.length (xs.map bV) := ho.get hj
  obtain ⟨o', c', w', hr, h2, h3, h4, h5⟩ := run_appendS_to (P := P) w t tx 0 e inf z hu hx hi hzero hzs hby hs o xs.length c _ hrow l (by omega)
  have hr' : ∀ ty, (Builtin.append_ #[t, tx] ty #[.slice o xs.length c, S l]).run P w = .ok (.slice o' (xs.length + l.length) c') w' := fun ty => hr
  obtain ⟨op, ys, hop, hg, hd, hop2, hxs, hbl⟩ := bcOp_inv h
  refine wpOps_value (v := .slice o' (xs.length + l.length) c') (w' := w') hop (gd_sound hk hg) ?_ ?_
  · simp only [execOp, hop2, resolve, opds_sound_arr hk hxs, Sem.run_bind, Sem.run_pure, Result.andThen_ok, invoke, builtin]
    rw [show (⟨[t, tx]⟩ : Array TypeId) = #[t, tx] from rfl, hr']
    rfl
  · rw [hd, ← List.length_append]
    refine next _ o' c' w' h5 ?_ ?_
    · exact hk.put' hbl _
    · rw [List.map_append, List.length_append]
      exact ((ho.front j _ _ hj rfl).turned h3 h2 h4).back hj

theorem idx_run (l : List UInt8) (c : Int) (w : World) : (Extern.BytealgIndexByte.indexByte ⟨[S l, .int .u8 c]⟩).run P w = .ok (I (Lib.indexByte l c.toNat.toUInt8)) w := Lib.run_indexByteString ⟨⟨l⟩⟩ c w

def pnOp (N : Nat) (ops : Array Oper) (kn : KN) (i : Nat) : Option (Nat × Value × Value × Nat) :=
  match ops[i]? with
  | none => none
  | some o => match gd ops kn o, o.dst, o.op with
    | some true, some d, .binOp .neq t x y _ => match opd kn x, opd kn y, Nat.blt d N with
      | some u, some v, true => some (t, u, v, d)
      | _, _, _ => none
    | _, _, _ => none

/-- A pointer held against itself. -/
theorem ptrNeY (hT : TabOK P T) (t d : Nat) (p : Addr) (h : pnOp N ops kn i = some (t, .pointer (some p), .pointer (some p), d)) (ht : tlook T.ty t = some .ptr) (hinf : ∀ e, P.underlying t = some (.pointer e) → (P.info? e).isSome = true) : YK P N ops kn i d (.bool false) := by
  intro a hk
  unfold pnOp at h
  split at h
  · simp at h
  · rename_i o hop
    split at h
    · rename_i d' t' x' y' ty' hg hd hop2
      split at h
      · rename_i u v hu hv hb
        simp only [Option.some.injEq, Prod.mk.injEq] at h
        obtain ⟨rfl, rfl, rfl, rfl⟩ := h
        refine ⟨o, hop, hd, gd_sound hk hg, hb, fun w => ?_⟩
        obtain ⟨e, hue⟩ := hT.ty _ _ ht
        have hgd : (eqGuard .neq t' x' y' (.pointer (some p)) (.pointer (some p))).run P w = .ok () w := eqGuard_plain _ _ _ _ _ _ (by simp) (by simp)
        have hbo : (binOp .neq t' (.pointer (some p)) (.pointer (some p))).run P w = .ok (.bool false) w := by
          obtain ⟨inf, hi⟩ := Option.isSome_iff_exists.1 (hinf e hue)
          exact Lib.run_neq_ptr_same w p hue hi
        simp only [execOp, hop2, opd_sound hk hu, opd_sound hk hv]
        refine run_value ?_
        simp only [Sem.run_bind, hgd, Result.andThen_ok, hbo]
      · simp at h
    · simp at h

end

end Go.Ev

