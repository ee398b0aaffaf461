/- An evaluator of the machine's operations, and that it says what the machine does (part EvA). -/
import Derived.WalkKit
import Derived.KernelRfl
import Derived.Laws.StructEq
import Derived.Scope
import Derived.Laws.IdiomStrings
/- The evaluator of operations that touch no memory, and that it says what the machine does. -/
namespace Go.Ev

abbrev KN := List (Nat × Value)
abbrev Str := List UInt8

/-- A string's value by its bytes. -/
abbrev S (l : List UInt8) : Value := .string ⟨⟨l⟩⟩
abbrev I (n : Int) : Value := .int .i64 n

def look : KN → Nat → Option Value
  | [], _ => none
  | (i, v) :: r, t => match Nat.beq i t with
    | true => some v
    | false => look r t

theorem look_cons_eq (i : Nat) (v : Value) (r : KN) : look ((i, v) :: r) i = some v := by
  simp [look, Nat.beq_refl]

theorem look_cons_ne {i t : Nat} (h : i ≠ t) (v : Value) (r : KN) : look ((i, v) :: r) t = look r t := by
  have : Nat.beq i t = false := by
    cases hb : Nat.beq i t with
    | true => exact absurd (Nat.eq_of_beq_eq_true hb) h
    | false => rfl
  simp [look, this]

structure Kn (N : Nat) (a : Act) (kn : KN) : Prop where
  size : a.tmps.size = N
  defers : a.defers = []
  val : ∀ t v, look kn t = some v → a.tmps[t]? = some v

theorem Kn.put {N : Nat} {a : Act} {kn : KN} (h : Kn N a kn) {d : Nat} (hd : d < N) (v : Value) : Kn N (a.put (some d) v) ((d, v) :: kn) := by
  refine ⟨by simp [Act.put, h.size], by simp [Act.put, h.defers], ?_⟩
  intro t u hu
  by_cases e : d = t
  · subst e
    rw [look_cons_eq] at hu
    obtain rfl := Option.some.inj hu
    simp [Act.put, h.size, hd]
  · rw [look_cons_ne e] at hu
    simp only [Act.put, Array.getElem?_setIfInBounds, if_neg e]
    exact h.val t u hu

theorem Kn.sub {N : Nat} {a : Act} {kn kn' : KN} (h : Kn N a kn) (hs : ∀ t v, look kn' t = some v → look kn t = some v) : Kn N a kn' :=
  ⟨h.size, h.defers, fun t v hv => h.val t v (hs t v hv)⟩

/-- What is kept of a frame's knowledge: the temporaries of a list, in its order. -/
def keep (kn : KN) : List Nat → KN
  | [] => []
  | t :: r => match look kn t with
    | some v => (t, v) :: keep kn r
    | none => keep kn r

theorem look_keep (kn : KN) (l : List Nat) (t : Nat) (v : Value) : look (keep kn l) t = some v → look kn t = some v := by
  induction l with
  | nil => intro h; simp [keep, look] at h
  | cons x l ih =>
    intro h
    unfold keep at h
    cases hx : look kn x with
    | none => rw [hx] at h; exact ih h
    | some u =>
      rw [hx] at h
      by_cases e : x = t
      · subst e
        rw [look_cons_eq] at h
        rw [hx]; exact h
      · rw [look_cons_ne e] at h
        exact ih h

theorem Kn.keep {N : Nat} {a : Act} {kn : KN} (h : Kn N a kn) (l : List Nat) : Kn N a (keep kn l) := h.sub (look_keep kn l)

def opd (kn : KN) : Operand → Option Value
  | .tmp t => look kn t
  | .const v => some v
  | .global g => some (.pointer (some ⟨g, 0, none⟩))
  | .func f => some (.func (.func f) #[] #[])

theorem opd_sound {N : Nat} {a : Act} {kn : KN} (h : Kn N a kn) {x : Operand} {v : Value} (hx : opd kn x = some v) : a.eval x = v := by
  cases x with
  | tmp t =>
    have := h.val t v hx
    simp [Act.eval, Array.getD_eq_getD_getElem?, this]
  | const u => simpa [opd, Act.eval] using hx
  | global g => simpa [opd, Act.eval] using hx
  | func f => simpa [opd, Act.eval] using hx

def opds (kn : KN) : List Operand → Option (List Value)
  | [] => some []
  | x :: r => match opd kn x, opds kn r with
    | some v, some vs => some (v :: vs)
    | _, _ => none

theorem opds_sound {N : Nat} {a : Act} {kn : KN} (h : Kn N a kn) : ∀ {l : List Operand} {vs : List Value}, opds kn l = some vs → l.map a.eval = vs := by
  intro l
  induction l with
  | nil => intro vs hv; simp [opds] at hv; simp [hv]
  | cons x l ih =>
    intro vs hv
    unfold opds at hv
    split at hv
    · rename_i v vs' h1 h2
      obtain rfl := Option.some.inj hv
      simp [opd_sound h h1, ih h2]
    · exact absurd hv (by simp)

theorem opds_sound_arr {N : Nat} {a : Act} {kn : KN} (h : Kn N a kn) {l : Array Operand} {vs : List Value} (hv : opds kn l.toList = some vs) : l.map a.eval = vs.toArray := by
  apply Array.toList_inj.1
  simp [Array.toList_map, opds_sound h hv]

/-! ### types -/

inductive TD where
  | int (k : IntKind)
  | bool
  | str
  | slice (e esz : Nat)
  | arr (n e esz : Nat) (eagg : Bool)
  /-- offset, size, is it an aggregate, its type, does it count in a comparison -/
  | struct (fs : List (Nat × Nat × Bool × Nat × Bool))
  | ptr
  | func
  | iface
  | map (k e : Nat)

def aggB (P : Program) (t : Nat) : Bool :=
  match P.underlying t with
  | some (.struct _) => true
  | some (.array _ _) => true
  | _ => false

def TD.ok (P : Program) (t : Nat) : TD → Prop
  | .int k => P.underlying t = some (.int k)
  | .bool => P.underlying t = some .bool
  | .str => P.underlying t = some .string
  | .slice e esz => P.underlying t = some (.slice e) ∧ ∃ i, P.info? e = some i ∧ i.size = esz
  | .arr n e esz g => P.underlying t = some (.array n e) ∧ (∃ i, P.info? e = some i ∧ i.size = esz) ∧ aggB P e = g ∧ (P.underlying e).isSome = true
  | .struct fs => P.stoodInHeld t = false ∧ ∃ fields : Array Field, P.underlying t = some (.struct fields) ∧ fields.size = fs.length ∧
      ∀ (j o s : Nat) (g : Bool) (u : Nat) (b : Bool), fs[j]? = some (o, s, g, u, b) → ∃ (f : Field) (i : TypeInfo), fields[j]? = some f ∧ f.offset = o ∧ f.type = u ∧ (f.name != "_") = b ∧ P.info? u = some i ∧ i.size = s ∧ aggB P u = g ∧ (P.underlying u).isSome = true
  | .ptr => ∃ e, P.underlying t = some (.pointer e)
  | .func => ∃ a b c, P.underlying t = some (.func a b c)
  | .iface => ∃ ms, P.underlying t = some (.interface ms)
  | .map k e => P.underlying t = some (.map k e)

abbrev TT := List (Nat × TD)

def tlook : TT → Nat → Option TD
  | [], _ => none
  | (i, v) :: r, t => match Nat.beq i t with
    | true => some v
    | false => tlook r t

def TyOK (P : Program) (T : TT) : Prop := ∀ t d, tlook T t = some d → d.ok P t


/-! ### what an operation that touches no memory comes to: its value, and what must hold -/

abbrev PV := Option (Value × Option Prop)

def bitI (op : BinOp) (k : IntKind) (x y : Int) : Int :=
  match op with
  | .and => k.wrap ((BitVec.ofInt k.bits x &&& BitVec.ofInt k.bits y).toNat)
  | .or => k.wrap ((BitVec.ofInt k.bits x ||| BitVec.ofInt k.bits y).toNat)
  | .xor => k.wrap ((BitVec.ofInt k.bits x ^^^ BitVec.ofInt k.bits y).toNat)
  | _ => k.wrap ((BitVec.ofInt k.bits x &&& ~~~BitVec.ofInt k.bits y).toNat)

def shI (op : BinOp) (k : IntKind) (x y : Int) : Int :=
  match op with
  | .shl => k.wrap (x * 2 ^ (min y.toNat k.bits))
  | _ => x.fdiv (2 ^ (min y.toNat k.bits))

def binI (op : BinOp) (k : IntKind) (x y : Int) : PV :=
  match op with
  | .add => some (.int k (k.wrap (x + y)), none)
  | .sub => some (.int k (k.wrap (x - y)), none)
  | .mul => some (.int k (k.wrap (x * y)), none)
  | .quo => some (.int k (k.wrap (x.tdiv y)), some (y ≠ 0))
  | .rem => some (.int k (x.tmod y), some (y ≠ 0))
  | .and => some (.int k (bitI .and k x y), none)
  | .or => some (.int k (bitI .or k x y), none)
  | .xor => some (.int k (bitI .xor k x y), none)
  | .andNot => some (.int k (bitI .andNot k x y), none)
  | .eql => some (.bool (x == y), none)
  | .neq => some (.bool (x != y), none)
  | .lss => some (.bool (decide (x < y)), none)
  | .leq => some (.bool (decide (x ≤ y)), none)
  | .gtr => some (.bool (decide (x > y)), none)
  | .geq => some (.bool (decide (x ≥ y)), none)
  | _ => none

abbrev maxI : Nat := 9223372036854775807

def binS (op : BinOp) (x y : List UInt8) : PV :=
  match op with
  | .add => some (.string ⟨⟨x ++ y⟩⟩, some (x.length + y.length ≤ maxI))
  | .eql => some (.bool (x == y), none)
  | .neq => some (.bool (!(x == y)), none)
  | .lss => some (.bool (Op.bytesLess x y), none)
  | .leq => some (.bool (Op.bytesLess x y || x == y), none)
  | .gtr => some (.bool (!(Op.bytesLess x y || x == y)), none)
  | .geq => some (.bool (!Op.bytesLess x y), none)
  | _ => none

theorem toList_eq (s : ByteArray) : s.toList = s.data.toList := ByteArray.toList_eq s

theorem beq_bytes (x y : ByteArray) : (x == y) = (x.data.toList == y.data.toList) := by
  show (x.data == y.data) = _
  rw [Bool.eq_iff_iff, beq_iff_eq, beq_iff_eq, Array.toList_inj]

theorem binI_sound (P : Program) (w : World) (t : Nat) {op : BinOp} {k : IntKind} {x y : Int} {v : Value} {ob : Option Prop}
    (h : binI op k x y = some (v, ob)) (hob : ∀ p, ob = some p → p) : (binOp op t (.int k x) (.int k y)).run P w = .ok v w := by
  cases op <;> simp only [binI, Option.some.injEq, Prod.mk.injEq, reduceCtorEq] at h <;> (try obtain ⟨rfl, rfl⟩ := h) <;>
    first
    | (simp [binOp, Op.intArith, Op.intBits, Op.intCmp, bitI]; done)
    | (have hy : y ≠ 0 := hob _ rfl
       simp [binOp, Op.intDiv, hy])

theorem shI_sound (P : Program) (w : World) (t : Nat) {op : BinOp} (hop : op = .shl ∨ op = .shr) (k k' : IntKind) (x y : Int) (hy : 0 ≤ y) :
    (binOp op t (.int k x) (.int k' y)).run P w = .ok (.int k (shI op k x y)) w := by
  have : ¬ y < 0 := by omega
  rcases hop with rfl | rfl <;> simp [binOp, Op.shift, shI, this]

theorem binS_sound (P : Program) (w : World) (t : Nat) {op : BinOp} {x y : ByteArray} {v : Value} {ob : Option Prop}
    (h : binS op x.data.toList y.data.toList = some (v, ob)) (hob : ∀ p, ob = some p → p) : (binOp op t (.string x) (.string y)).run P w = .ok v w := by
  cases op <;> simp only [binS, Option.some.injEq, Prod.mk.injEq, reduceCtorEq] at h <;> (try obtain ⟨rfl, rfl⟩ := h) <;>
    first
    | (simp [binOp, Op.stringOp, toList_eq]; done)
    | (have hy : _ ≤ maxI := hob _ rfl
       have hs : ¬ (((x.size + y.size : Nat) : Int) > IntKind.i64.max) := by
         have hx : x.size = x.data.toList.length := rfl
         have hy' : y.size = y.data.toList.length := rfl
         have : IntKind.i64.max = 9223372036854775807 := by decide
         rw [this, hx, hy']; simp only [maxI] at hy; omega
       have he : (⟨⟨x.data.toList ++ y.data.toList⟩⟩ : ByteArray) = x ++ y := by
         apply ByteArray.ext
         rw [ByteArray.data_append]
         apply Array.toList_inj.1
         simp
       simp only [binOp, Op.stringOp, if_neg hs, he]
       simp)

end Go.Ev

/- The evaluator of operations that touch no memory: equality, parts, indexes, cuts; and that it says what the machine does. -/
namespace Go.Ev

def partV (g : Bool) (s : Nat) (xs : Array Value) (o : Nat) : Option Value :=
  match g with
  | true => some (.agg ⟨(xs.toList.drop o).take s⟩)
  | false => xs.toList[o]?

theorem partV_sound (P : Program) (w : World) {u : Nat} {i : TypeInfo} {g : Bool} {s : Nat} (hi : P.info? u = some i) (hs : i.size = s) (hg : aggB P u = g)
    (hu : (P.underlying u).isSome = true) {xs : Array Value} {o : Nat} {v : Value} (h : partV g s xs o = some v) : (part u xs o).run P w = .ok v w := by
  obtain ⟨d, hd⟩ := Option.isSome_iff_exists.1 hu
  have hagg : (isAgg u).run P w = .ok g w := by
    unfold aggB at hg
    rw [hd] at hg
    simp only [isAgg, Sem.run_bind, run_underlying hd, Result.andThen_ok]
    cases d <;> simp_all
  cases g with
  | true =>
    simp only [partV, Option.some.injEq] at h
    subst h
    have he : xs.extract o (o + s) = ⟨(xs.toList.drop o).take s⟩ := by
      apply Array.toList_inj.1
      simp
    simp [part, hagg, sizeOf, typeInfo, hi, hs, he]
  | false =>
    simp only [partV] at h
    have h' : xs[o]? = some v := by simpa using h
    simp [part, hagg, h']

/-- '==' of two values of a type. -/
def eqFs (f : Nat → Value → Value → Option Bool) (xs ys : Array Value) : List (Nat × Nat × Bool × Nat × Bool) → Option Bool
  | [] => some true
  | (o, s, g, u, b) :: r => match b with
    | false => eqFs f xs ys r
    | true => match partV g s xs o, partV g s ys o with
      | some x, some y => match f u x y, eqFs f xs ys r with
        | some p, some q => some (p && q)
        | _, _ => none
      | _, _ => none

def eqv (T : TT) : Nat → Nat → Value → Value → Option Bool
  | 0, _, _, _ => none
  | d + 1, t, x, y => match tlook T t, x, y with
    | some .bool, .bool a, .bool b => some (a == b)
    | some (.int _), .int k a, .int k' b => if k = k' then some (a == b) else none
    | some .str, .string a, .string b => some (a.data.toList == b.data.toList)
    | some .iface, .nilIface, .nilIface => some true
    | some .iface, .nilIface, .iface _ _ => some false
    | some .iface, .iface _ _, .nilIface => some false
    | some .ptr, .pointer a, .pointer none => some a.isNone
    | some (.slice _ _), .slice a _ _, .slice none _ _ => some a.isNone
    | some (.map _ _), .map a, .map none => some a.isNone
    | some (.struct fs), .agg xs, .agg ys => eqFs (eqv T d) xs ys fs
    | _, _, _ => none

theorem eqFs_sound {P : Program} {f : Nat → Value → Value → Option Bool} {d : Nat}
    (hf : ∀ u x y b w, f u x y = some b → (Op.equalIn d u x y).run P w = .ok b w) (xs ys : Array Value) :
    ∀ (fs : List (Nat × Nat × Bool × Nat × Bool)) (l : List Field) (b : Bool) (w : World), fs.length = l.length →
      (∀ (j o s : Nat) (g : Bool) (u : Nat) (b : Bool), fs[j]? = some (o, s, g, u, b) → ∃ (f : Field) (i : TypeInfo), l[j]? = some f ∧ f.offset = o ∧ f.type = u ∧ (f.name != "_") = b ∧ P.info? u = some i ∧ i.size = s ∧ aggB P u = g ∧ (P.underlying u).isSome = true) →
      eqFs f xs ys fs = some b → (Op.eqFields d xs ys l).run P w = .ok b w := by
  intro fs
  induction fs with
  | nil =>
    intro l b w hl _ h
    have : l = [] := List.eq_nil_of_length_eq_zero (by simpa using hl.symm)
    subst this
    simp only [eqFs, Option.some.injEq] at h
    subst h
    simp [Op.eqFields]
  | cons p fs ih =>
    intro l b w hl hfs h
    obtain ⟨o, s, g, u, c⟩ := p
    cases l with
    | nil => simp at hl
    | cons fd l =>
      obtain ⟨fd', i, h1, h2, h3, h4, h5, h6, h7, h8⟩ := hfs 0 o s g u c rfl
      simp only [List.getElem?_cons_zero, Option.some.injEq] at h1
      subst h1
      have ih' := ih l
      have hl' : fs.length = l.length := by simpa using hl
      have hrest := fun b w => ih' b w hl' (fun j o s g u b hj => by simpa using hfs (j + 1) o s g u b (by simpa using hj))
      cases c with
      | false =>
        simp only [eqFs] at h
        have hn : fd.name = "_" := by simpa using h4
        simp only [Op.eqFields, hn, ne_eq, not_true_eq_false, if_false]
        exact hrest b w h
      | true =>
        have hn : fd.name ≠ "_" := by simpa using h4
        simp only [eqFs] at h
        split at h
        · rename_i x y hx hy
          split at h
          · rename_i p q hp hq
            obtain rfl := Option.some.inj h
            have hpx := partV_sound P w h5 h6 h7 h8 hx
            have hpy := partV_sound P w h5 h6 h7 h8 hy
            have he := hf u x y p w hp
            subst h2 h3
            simp only [Op.eqFields, ne_eq, hn, not_false_eq_true, if_true, Sem.run_bind, hpx, hpy, he, Result.andThen_ok]
            cases p with
            | true => simpa using hrest q w hq
            | false => simp
          · exact absurd h (by simp)
        · exact absurd h (by simp)

theorem eqv_sound {P : Program} {T : TT} (hT : TyOK P T) : ∀ (n t : Nat) (x y : Value) (b : Bool) (w : World), eqv T n t x y = some b → ∀ d, n ≤ d → (Op.equalIn d t x y).run P w = .ok b w := by
  intro n
  induction n with
  | zero => intro t x y b w h; exact absurd h (by simp [eqv])
  | succ n ih =>
    intro t x y b w h d hd
    obtain ⟨d, rfl⟩ : ∃ e, d = e + 1 := ⟨d - 1, by omega⟩
    unfold eqv at h
    split at h
    case h_10 fs xs ys ht =>
      obtain ⟨hst, fields, hu, hlen, hfs⟩ := hT _ _ ht
      have hfo : P.fieldsOf t = fields := by simp [Program.fieldsOf, hu]
      rw [run_equalIn_struct w d t xs ys (by rw [hu, hfo]) hst, hfo]
      refine eqFs_sound (f := eqv T n) (fun u x y b w hb => ih u x y b w hb d (by omega)) xs ys fs fields.toList b w (by simp [hlen]) ?_ h
      intro j o s g u b hj
      obtain ⟨f, i, h1, h2⟩ := hfs j o s g u b hj
      exact ⟨f, i, by simpa using h1, h2⟩
    case h_11 => simp at h
    case h_1 a b' ht =>
      have hu : P.underlying t = some .bool := hT _ _ ht
      obtain rfl := Option.some.inj h
      simp [Op.equalIn, run_underlying hu]
    case h_2 k a k' b' ht =>
      have hu := hT _ _ ht
      simp only [TD.ok] at hu
      split at h
      · obtain rfl := Option.some.inj h
        rename_i hk
        subst hk
        simp [Op.equalIn, run_underlying hu]
      · exact absurd h (by simp)
    case h_3 a b' ht =>
      have hu : P.underlying t = some .string := hT _ _ ht
      obtain rfl := Option.some.inj h
      simp only [Op.equalIn, Sem.run_bind, run_underlying hu, Result.andThen_ok, beq_bytes]
      rfl
    case h_4 ht | h_5 ht | h_6 ht =>
      obtain ⟨ms, hu⟩ := hT _ _ ht
      obtain rfl := Option.some.inj h
      simp [Op.equalIn, run_underlying hu]
    case h_7 a ht =>
      obtain ⟨e, hu⟩ := hT _ _ ht
      obtain rfl := Option.some.inj h
      cases a <;> simp [Op.equalIn, run_underlying hu]
    case h_8 a _ _ _ _ ht =>
      have hu := (hT _ _ ht).1
      obtain rfl := Option.some.inj h
      cases a <;> simp [Op.equalIn, run_underlying hu]
    case h_9 a ht =>
      have hu : P.underlying t = _ := hT _ _ ht
      obtain rfl := Option.some.inj h
      cases a <;> simp [Op.equalIn, run_underlying hu]

end Go.Ev

/- The evaluator of operations that touch no memory: all of them, and that it says what the machine does. -/
namespace Go.Ev

structure Tab where
  ty : TT
  zero : KN

structure TabOK (P : Program) (T : Tab) : Prop where
  ty : TyOK P T.ty
  zero : ∀ t z, look T.zero t = some z → ∃ i, P.info? t = some i ∧ i.zero = some z ∧ i.size = z.cells.size ∧ i.bytes ≤ 4096
  guard : ∀ t fs, tlook T.ty t = some (.struct fs) → P.eqGuardType P.depth t = false

def mergeV (p : Bool) (x y : Value) : Value :=
  match x, y with
  | .bool q, .bool r => .bool (bif p then q else r)
  | .string a, .string b => .string ⟨⟨bif p then a.data.toList else b.data.toList⟩⟩
  | x, y => bif p then x else y

theorem mergeV_eq (p : Bool) (x y : Value) : mergeV p x y = if p = true then x else y := by
  unfold mergeV
  split <;> cases p <;> rfl

/-- The byte at a place. -/
def bt (l : List UInt8) (i : Int) : Int := ((l[i.toNat]?.getD 0).toNat : Int)

def isNilC : Operand → Bool
  | .const .nilIface => true
  | _ => false

def binV (T : Tab) (op : BinOp) (t : Nat) (xo yo : Operand) (x y : Value) : PV :=
  match x, y with
  | .int k a, .int k' b => match op with
    | .shl => some (.int k (shI .shl k a b), some (0 ≤ b))
    | .shr => some (.int k (shI .shr k a b), some (0 ≤ b))
    | op => if k = k' then binI op k a b else none
  | .string a, .string b => binS op a.data.toList b.data.toList
  | .nilIface, .nilIface => match isNilC xo || isNilC yo, op, tlook T.ty t with
    | true, .eql, some .iface => some (.bool true, none)
    | true, .neq, some .iface => some (.bool false, none)
    | _, _, _ => none
  | x, y => match op with
    | .eql => (eqv T.ty 8 t x y).map fun b => (.bool b, none)
    | .neq => (eqv T.ty 8 t x y).map fun b => (.bool !b, none)
    | _ => none

def unV (op : UnOp) (x : Value) : PV :=
  match op, x with
  | .neg, .int k n => some (.int k (k.wrap (0 - n)), none)
  | .xor, .int k n => some (.int k (bitI .xor k (if k.signed then -1 else k.max) n), none)
  | .not, .bool b => some (.bool !b, none)
  | _, _ => none

def convV (T : Tab) (src dst : Nat) (x : Value) : PV :=
  match tlook T.ty src, tlook T.ty dst, x with
  | some _, some (.int k), .int _ n => some (.int k (k.wrap n), none)
  | some _, some .str, .string s => some (.string s, none)
  | _, _, _ => none

def extractV (x : Value) (i : Nat) : PV :=
  match x with
  | .tuple vs => match vs.toList[i]? with
    | some v => some (v, none)
    | none => none
  | _ => none

def fieldV (T : Tab) (t : Nat) (x : Value) (f : Nat) : PV :=
  match tlook T.ty t, x with
  | some (.struct fs), .agg cs => match fs[f]? with
    | some (o, s, g, _, _) => match partV g s cs o with
      | some v => some (v, none)
      | none => none
    | none => none
  | _, _ => none

def indexV (T : Tab) (t : Nat) (x ix : Value) : PV :=
  match tlook T.ty t, x, ix with
  | some .str, .string s, .int _ i => some (.int .u8 (bt s.data.toList i), some (0 ≤ i ∧ i < s.data.toList.length))
  | some (.arr n _ sz g), .agg cs, .int _ i => match partV g sz cs (i.toNat * sz) with
    | some v => some (v, some (0 ≤ i ∧ i < n))
    | none => none
  | _, _, _ => none

def cutS (l : List UInt8) : Option Value → Option Value → PV
  | none, none => some (S l, none)
  | none, some (.int _ h) => some (S (l.take h.toNat), some (0 ≤ h ∧ h ≤ l.length))
  | some (.int _ a), none => some (S (l.drop a.toNat), some (0 ≤ a ∧ a ≤ l.length))
  | some (.int _ a), some (.int _ h) => some (S ((l.take h.toNat).drop a.toNat), some ((0 ≤ h ∧ h ≤ l.length) ∧ (0 ≤ a ∧ a ≤ h)))
  | _, _ => none

def shA (o : Option Addr) (m l k : Nat) : Option Addr := if m = l then o else o.map (·.add (l * k))

def cutL (o : Option Addr) (n c k : Nat) : Option Value → Option Value → Option Value → PV
  | none, none, none => some (.slice o n c, none)
  | none, some (.int _ h), none => some (.slice o h.toNat c, some (0 ≤ h ∧ h ≤ c))
  | some (.int _ a), none, none => some (.slice (shA o c a.toNat k) (n - a.toNat) (c - a.toNat), some (0 ≤ a ∧ a ≤ n))
  | some (.int _ a), some (.int _ h), none => some (.slice (shA o c a.toNat k) (h.toNat - a.toNat) (c - a.toNat), some ((0 ≤ h ∧ h ≤ c) ∧ (0 ≤ a ∧ a ≤ h)))
  | none, some (.int _ h), some (.int _ m) => some (.slice o h.toNat m.toNat, some ((0 ≤ m ∧ m ≤ c) ∧ (0 ≤ h ∧ h ≤ m)))
  | _, _, _ => none

def sliceV (T : Tab) (t : Nat) (x : Value) (lo hi mx : Option Value) : PV :=
  match tlook T.ty t, x with
  | some .str, .string s => match mx with
    | none => cutS s.data.toList lo hi
    | some _ => none
  | some (.slice _ k), .slice o n c => cutL o n c k lo hi mx
  | some (.arr n _ k _), .pointer (some a) => match mx with
    | none => cutL (some a) n n k lo hi none
    | some _ => none
  | _, _ => none

def indexAddrV (T : Tab) (t : Nat) (x ix : Value) : PV :=
  match tlook T.ty t, x, ix with
  | some (.slice _ k), .slice o n _, .int _ i => some (.pointer (o.map (·.add (i.toNat * k))), some (o.isSome = true ∧ 0 ≤ i ∧ i < n))
  | some (.arr n _ k _), .pointer (some a), .int _ i => some (.pointer (some (a.add (i.toNat * k))), some (0 ≤ i ∧ i < n))
  | _, _, _ => none

def fieldAddrV (T : Tab) (t : Nat) (x : Value) (f : Nat) : PV :=
  match tlook T.ty t, x with
  | some (.struct fs), .pointer p => match fs[f]? with
    | some (o, _ + 1, _, _, _) => some (.pointer (p.map (·.add o)), some (p.isSome = true))
    | _ => none
  | _, _ => none

def nilCheckV (x : Value) : PV :=
  match x with
  | .pointer p => some (.pointer p, some (p.isSome = true))
  | .func (.func f) a b => some (.func (.func f) a b, none)
  | _ => none

def ipairs (kn : KN) : List (Nat × Operand) → Option (List (Nat × Value))
  | [] => some []
  | (i, x) :: r => match opd kn x, ipairs kn r with
    | some v, some vs => some ((i, v) :: vs)
    | _, _ => none

def buildV (T : Tab) (t : Nat) (parts : List (Nat × Value)) : PV :=
  match tlook T.ty t, look T.zero t with
  | some (.struct fs), some z => match Instr.fill (fun i => (fs[i]?).map fun p => (p.1, p.2.1)) z.cells parts with
    | some cs => some (.agg cs, none)
    | none => none
  | some (.arr _ _ k _), some z => match Instr.fill (fun i => some (i * k, k)) z.cells parts with
    | some cs => some (.agg cs, none)
    | none => none
  | _, _ => none

def mnI (x y : Int) : Int := if y < x then y else x
def mxI (x y : Int) : Int := if y > x then y else x

def builtV (T : Tab) (b : Builtin) (ts : List Nat) (xs : List Value) : PV :=
  match b, ts, xs with
  | .len, [t], [x] => match tlook T.ty t, x with
    | some .str, .string s => some (I s.data.toList.length, none)
    | some (.slice _ _), .slice _ n _ => some (I n, none)
    | some (.arr n _ _ _), _ => some (I n, none)
    | _, _ => none
  | .cap, [t], [x] => match tlook T.ty t, x with
    | some (.slice _ _), .slice _ _ c => some (I c, none)
    | _, _ => none
  | .min, _, [.int k x, .int _ y] => some (.int k (mnI x y), none)
  | .max, _, [.int k x, .int _ y] => some (.int k (mxI x y), none)
  | _, _, _ => none

def plainT : Option TD → Bool
  | none => false
  | some .iface => false
  | some _ => true

def pureOp (T : Tab) (kn : KN) (o : Oper) : PV :=
  match o.op with
  | .move x => (opd kn x).map fun v => (v, none)
  | .assign x => (opd kn x).map fun v => (v, none)
  | .pick c a b => match opd kn c, opd kn a, opd kn b with
    | some (.bool p), some x, some y => some (mergeV p x y, none)
    | _, _, _ => none
  | .binOp op t x y _ => match opd kn x, opd kn y with
    | some a, some b => binV T op t x y a b
    | _, _ => none
  | .unOp op _ x => match opd kn x with
    | some a => unV op a
    | none => none
  | .convert s d x => match opd kn x with
    | some a => convV T s d a
    | none => none
  | .extract x i => match opd kn x with
    | some a => extractV a i
    | none => none
  | .field t x f => match opd kn x with
    | some a => fieldV T t a f
    | none => none
  | .index t x i => match opd kn x, opd kn i with
    | some a, some b => indexV T t a b
    | _, _ => none
  | .slice t x lo hi mx => match opd kn x, lo.map (opd kn), hi.map (opd kn), mx.map (opd kn) with
    | _, some none, _, _ => none
    | _, _, some none, _ => none
    | _, _, _, some none => none
    | some a, l, h, m => sliceV T t a (l.bind id) (h.bind id) (m.bind id)
    | none, _, _, _ => none
  | .indexAddr t x i => match opd kn x, opd kn i with
    | some a, some b => indexAddrV T t a b
    | _, _ => none
  | .fieldAddr t x f => match opd kn x with
    | some a => fieldAddrV T t a f
    | none => none
  | .nilCheck x => match opd kn x with
    | some a => nilCheckV a
    | none => none
  | .build t ps => match ipairs kn ps.toList with
    | some vs => buildV T t vs
    | none => none
  | .makeFunc fn fs cs => match opds kn fs.toList, opds kn cs.toList with
    | some f, some c => some (.func fn ⟨f⟩ ⟨c⟩, none)
    | _, _ => none
  | .makeInterface t x => match opd kn x, plainT (tlook T.ty t) with
    | some a, true => some (.iface t a, none)
    | _, _ => none
  | .call { callee := .builtin b, args := xs, argTypes := ts } => match opds kn xs.toList with
    | some vs => builtV T b ts.toList vs
    | none => none
  | _ => none

end Go.Ev

/- That the evaluator of operations that touch no memory says what the machine does. -/
namespace Go.Ev

variable {P : Program} {T : Tab} {w : World}

theorem underlying_some {T : Tab} (hT : TabOK P T) {t : Nat} {d : TD} (h : tlook T.ty t = some d) : ∃ u, P.underlying t = some u := by
  have := hT.ty t d h
  cases d <;> simp only [TD.ok] at this
  all_goals first
    | exact ⟨_, this⟩
    | exact ⟨_, this.1⟩
    | (obtain ⟨_, h⟩ := this; exact ⟨_, h⟩)
    | (obtain ⟨_, _, _, h⟩ := this; exact ⟨_, h⟩)
    | (obtain ⟨_, _, h, _⟩ := this; exact ⟨_, h⟩)

theorem eqGuard_plain (op : BinOp) (t : Nat) (xo yo : Operand) (x y : Value) (h1 : x = .nilIface → y = .nilIface → False)
    (h2 : ∀ a b, x = .agg a → y = .agg b → P.eqGuardType P.depth t = false) : (eqGuard op t xo yo x y).run P w = .ok () w := by
  have main : ∀ op, op = .eql ∨ op = .neq → (eqGuard op t xo yo x y).run P w = .ok () w := by
    intro op hop
    rcases hop with rfl | rfl <;>
    · unfold eqGuard
      simp only [Bool.not_true, Bool.false_eq_true, if_false]
      split
      · exact (h1 rfl rfl).elim
      · have := h2 _ _ rfl rfl
        simp [program, Sem.run, bind, Sem.bind, this, pure]
      · simp
  cases op <;> first
    | exact main _ (.inl rfl)
    | exact main _ (.inr rfl)
    | simp [eqGuard]

theorem eqGuard_nil (op : BinOp) (t : Nat) (xo yo : Operand) (h : (isNilC xo || isNilC yo) = true) : (eqGuard op t xo yo .nilIface .nilIface).run P w = .ok () w := by
  have hx : (∃ v, xo = .const v) ∨ (∃ v, yo = .const v) := by
    rw [Bool.or_eq_true] at h
    rcases h with h | h
    · left; cases xo <;> simp_all [isNilC]
    · right; cases yo <;> simp_all [isNilC]
  have main : ∀ op, op = .eql ∨ op = .neq → (eqGuard op t xo yo .nilIface .nilIface).run P w = .ok () w := by
    intro op hop
    rcases hop with rfl | rfl <;> rcases hx with ⟨u, rfl⟩ | ⟨u, rfl⟩ <;> simp [eqGuard]
  cases op <;> first
    | exact main _ (.inl rfl)
    | exact main _ (.inr rfl)
    | simp [eqGuard]

theorem binV_sound (hT : TabOK P T) {op : BinOp} {t : Nat} {xo yo : Operand} {x y v : Value} {ob : Option Prop}
    (h : binV T op t xo yo x y = some (v, ob)) (hob : ∀ p, ob = some p → p) :
    (do eqGuard op t xo yo x y; binOp op t x y : Sem Value).run P w = .ok v w := by
  have step : ∀ (hg : (eqGuard op t xo yo x y).run P w = .ok () w) (hb : (binOp op t x y).run P w = .ok v w),
      (do eqGuard op t xo yo x y; binOp op t x y : Sem Value).run P w = .ok v w := by
    intro hg hb
    simp only [Sem.run_bind, hg, Result.andThen_ok, hb]
  unfold binV at h
  split at h
  · refine step (eqGuard_plain _ _ _ _ _ _ (by simp) (by simp)) ?_
    rename_i k a k' b
    split at h
    · simp only [Option.some.injEq, Prod.mk.injEq] at h
      obtain ⟨rfl, rfl⟩ := h
      exact shI_sound P w t (.inl rfl) k k' a b (hob _ rfl)
    · simp only [Option.some.injEq, Prod.mk.injEq] at h
      obtain ⟨rfl, rfl⟩ := h
      exact shI_sound P w t (.inr rfl) k k' a b (hob _ rfl)
    · split at h
      · rename_i hk
        subst hk
        exact binI_sound P w t h hob
      · exact absurd h (by simp)
  · exact step (eqGuard_plain _ _ _ _ _ _ (by simp) (by simp)) (binS_sound P w t h hob)
  · split at h
    · rename_i hn ht
      simp only [Option.some.injEq, Prod.mk.injEq] at h
      obtain ⟨rfl, rfl⟩ := h
      refine step (eqGuard_nil _ _ _ _ hn) ?_
      have he : (Op.equal t .nilIface .nilIface).run P w = .ok true w := eqv_sound hT.ty 1 t _ _ true w (by simp only [eqv, ht]) _ (by decide)
      simp only [binOp, Sem.run_bind, he, Result.andThen_ok]
      rfl
    · rename_i hn ht
      simp only [Option.some.injEq, Prod.mk.injEq] at h
      obtain ⟨rfl, rfl⟩ := h
      refine step (eqGuard_nil _ _ _ _ hn) ?_
      have he : (Op.equal t .nilIface .nilIface).run P w = .ok true w := eqv_sound hT.ty 1 t _ _ true w (by simp only [eqv, ht]) _ (by decide)
      simp only [binOp, Sem.run_bind, he, Result.andThen_ok]
      rfl
    · exact absurd h (by simp)
  · rename_i n1 n2 n3
    have key : ∀ b, eqv T.ty 8 t x y = some b → (eqGuard op t xo yo x y).run P w = .ok () w ∧ (Op.equal t x y).run P w = .ok b w := by
      intro b hb
      refine ⟨eqGuard_plain _ _ _ _ _ _ (fun hx hy => n3 hx hy) ?_, eqv_sound hT.ty 8 t x y b w hb _ (by decide)⟩
      intro p q hx hy
      subst hx hy
      unfold eqv at hb
      split at hb <;> simp_all
      rename_i fs _ _ ht _ _
      exact hT.guard t fs ht
    split at h
    · simp only [Option.map_eq_some_iff, Prod.mk.injEq] at h
      obtain ⟨b, hb, rfl, rfl⟩ := h
      refine step (key b hb).1 ?_
      have hk := (key b hb).2
      unfold eqv at hb
      split at hb <;> first
        | exact (n1 _ _ _ _ rfl rfl).elim
        | exact (n2 _ _ rfl rfl).elim
        | exact (n3 rfl rfl).elim
        | (simp only [binOp, Sem.run_bind, hk, Result.andThen_ok]; rfl)
        | (simp at hb; done)
    · simp only [Option.map_eq_some_iff, Prod.mk.injEq] at h
      obtain ⟨b, hb, rfl, rfl⟩ := h
      refine step (key b hb).1 ?_
      have hk := (key b hb).2
      unfold eqv at hb
      split at hb <;> first
        | exact (n1 _ _ _ _ rfl rfl).elim
        | exact (n2 _ _ rfl rfl).elim
        | exact (n3 rfl rfl).elim
        | (simp only [binOp, Sem.run_bind, hk, Result.andThen_ok]; rfl)
        | (simp at hb; done)
    · exact absurd h (by simp)

end Go.Ev

/- That the evaluator of operations that touch no memory says what the machine does: each form of operation. -/
namespace Go.Ev

variable {P : Program} {T : Tab} {w : World}

theorem unV_sound {op : UnOp} {x v : Value} {ob : Option Prop} (h : unV op x = some (v, ob)) : (Op.unary op x).run P w = .ok v w := by
  unfold unV at h
  split at h
  · simp only [Option.some.injEq, Prod.mk.injEq] at h; obtain ⟨rfl, rfl⟩ := h; simp [Op.unary, Op.intArith]
  · simp only [Option.some.injEq, Prod.mk.injEq] at h; obtain ⟨rfl, rfl⟩ := h; simp [Op.unary, Op.intBits, bitI]
  · simp only [Option.some.injEq, Prod.mk.injEq] at h; obtain ⟨rfl, rfl⟩ := h; simp [Op.unary]
  · simp at h

theorem convV_sound (hT : TabOK P T) {s d : Nat} {x v : Value} {ob : Option Prop} (h : convV T s d x = some (v, ob)) : (convert s d x).run P w = .ok v w := by
  unfold convV at h
  split at h
  · rename_i hs hd
    simp only [Option.some.injEq, Prod.mk.injEq] at h; obtain ⟨rfl, rfl⟩ := h
    obtain ⟨u, hu⟩ := underlying_some hT hs
    have hd' := hT.ty _ _ hd
    simp only [TD.ok] at hd'
    simp [convert, run_underlying hu, run_underlying hd', Conv.intToInt]
  · rename_i hs hd
    simp only [Option.some.injEq, Prod.mk.injEq] at h; obtain ⟨rfl, rfl⟩ := h
    obtain ⟨u, hu⟩ := underlying_some hT hs
    have hd' := hT.ty _ _ hd
    simp only [TD.ok] at hd'
    simp [convert, run_underlying hu, run_underlying hd']
  · simp at h

theorem extractV_sound {x v : Value} {i : Nat} {ob : Option Prop} (h : extractV x i = some (v, ob)) : (Instr.extract x i).run P w = .ok v w := by
  unfold extractV at h
  split at h
  · split at h
    · rename_i hv
      simp only [Option.some.injEq, Prod.mk.injEq] at h; obtain ⟨rfl, rfl⟩ := h
      simp only [Array.getElem?_toList] at hv
      simp [Instr.extract, hv]
    · simp at h
  · simp at h

theorem fieldV_sound (hT : TabOK P T) {t f : Nat} {x v : Value} {ob : Option Prop} (h : fieldV T t x f = some (v, ob)) : (Instr.field t x f).run P w = .ok v w := by
  unfold fieldV at h
  split at h
  · rename_i fs cs ht
    split at h
    · rename_i o s g u b hf
      split at h
      · rename_i r hr
        simp only [Option.some.injEq, Prod.mk.injEq] at h; obtain ⟨rfl, rfl⟩ := h
        obtain ⟨_, fields, hu, hlen, hfs⟩ := hT.ty _ _ ht
        obtain ⟨fd, i, h1, h2, h3, _, h5, h6, h7, h8⟩ := hfs _ _ _ _ _ _ hf
        subst h2 h3
        have := partV_sound P w h5 h6 h7 h8 hr
        simp [Instr.field, run_underlying hu, h1, asAgg, this]
      · simp at h
    · simp at h
  · simp at h

theorem getElem_bt {s : ByteArray} {i : Int} (h0 : 0 ≤ i) (h : i < s.data.toList.length) : (if 0 ≤ i then s[i.toNat]? else none) = some (s.data.toList[i.toNat]?.getD 0) := by
  rw [if_pos h0]
  have hlt : i.toNat < s.data.toList.length := by omega
  have hlt' : i.toNat < s.size := hlt
  rw [getElem?_pos s i.toNat hlt', List.getElem?_eq_getElem hlt]
  rfl

theorem indexV_sound (hT : TabOK P T) {t : Nat} {x ix v : Value} {ob : Option Prop} (h : indexV T t x ix = some (v, ob)) (hob : ∀ p, ob = some p → p) : (Instr.index t x ix).run P w = .ok v w := by
  unfold indexV at h
  split at h
  · rename_i s k i ht
    simp only [Option.some.injEq, Prod.mk.injEq] at h; obtain ⟨rfl, rfl⟩ := h
    obtain ⟨h0, h1⟩ := hob _ rfl
    have hu := hT.ty _ _ ht
    simp only [TD.ok] at hu
    simp only [Instr.index, asIntOf, Sem.run_bind, Sem.run_pure, Result.andThen_ok, run_underlying hu, getElem_bt h0 h1, bt]
  · rename_i n e sz g cs k i ht
    split at h
    · rename_i r hr
      simp only [Option.some.injEq, Prod.mk.injEq] at h; obtain ⟨rfl, rfl⟩ := h
      obtain ⟨hu, ⟨inf, hi, hs⟩, hg, hun⟩ := hT.ty _ _ ht
      have hb := hob _ rfl
      have := partV_sound P w hi hs hg hun hr
      simp [Instr.index, asIntOf, run_underlying hu, hb, sizeOf, typeInfo, hi, hs, this]
    · simp at h
  · simp at h

theorem Addr_add_zero (a : Addr) : a.add 0 = a := by simp [Addr.add]

theorem extract_cut (s : ByteArray) (l h : Nat) : s.extract l h = ⟨⟨(s.data.toList.take h).drop l⟩⟩ := by
  apply ByteArray.ext
  rw [ByteArray.data_extract]
  apply Array.toList_inj.1
  simp [List.drop_take]

theorem sb1 (b : Bool) (n c : Nat) : (Instr.sliceBounds b n c none none none).run P w = .ok (0, n, c) w := by
  simp [Instr.sliceBounds]
theorem sb2 (b : Bool) (n c : Nat) (k : IntKind) (h : Int) (hh : 0 ≤ h ∧ h ≤ c) : (Instr.sliceBounds b n c none (some (.int k h)) none).run P w = .ok (0, h.toNat, c) w := by
  simp [Instr.sliceBounds, Instr.sliceBound, asIntOf, hh]
theorem sb3 (b : Bool) (n c : Nat) (k : IntKind) (l : Int) (hl : 0 ≤ l ∧ l ≤ n) : (Instr.sliceBounds b n c (some (.int k l)) none none).run P w = .ok (l.toNat, n, c) w := by
  simp [Instr.sliceBounds, Instr.sliceBound, asIntOf, hl]
theorem sb4 (b : Bool) (n c : Nat) (k k' : IntKind) (l h : Int) (hh : 0 ≤ h ∧ h ≤ c) (hl : 0 ≤ l ∧ l ≤ h) : (Instr.sliceBounds b n c (some (.int k l)) (some (.int k' h)) none).run P w = .ok (l.toNat, h.toNat, c) w := by
  have : l ≤ (h.toNat : Int) := by omega
  simp only [Instr.sliceBounds, Instr.sliceBound, asIntOf, Sem.run_bind, Sem.run_pure, Result.andThen_ok, hh, hl, this, and_self, if_true]
theorem sb5 (b : Bool) (n c : Nat) (k k' : IntKind) (h m : Int) (hm : 0 ≤ m ∧ m ≤ c) (hh : 0 ≤ h ∧ h ≤ m) : (Instr.sliceBounds b n c none (some (.int k h)) (some (.int k' m))).run P w = .ok (0, h.toNat, m.toNat) w := by
  have : h ≤ (m.toNat : Int) := by omega
  simp only [Instr.sliceBounds, Instr.sliceBound, asIntOf, Sem.run_bind, Sem.run_pure, Result.andThen_ok, hm, hh, this, and_self, if_true]

theorem cutS_sound (hT : TabOK P T) {t : Nat} (ht : tlook T.ty t = some .str) {s : ByteArray} {lo hi : Option Value} {v : Value} {ob : Option Prop} (h : cutS s.data.toList lo hi = some (v, ob))
    (hob : ∀ p, ob = some p → p) : (Instr.sliceAt t (.string s) lo hi none).run P w = .ok v w := by
  have hu := hT.ty _ _ ht
  simp only [TD.ok] at hu
  have hsz : s.data.toList.length = s.size := rfl
  have base : ∀ {lo hi : Option Value} {l h m : Nat}, (Instr.sliceBounds false s.size s.size lo hi none).run P w = .ok (l, h, m) w →
      (Instr.sliceAt t (.string s) lo hi none).run P w = .ok (.string ⟨⟨(s.data.toList.take h).drop l⟩⟩) w := by
    intro lo hi l h m hb
    simp only [Instr.sliceAt, Sem.run_bind, run_underlying hu, Result.andThen_ok, Instr.slice, Option.isSome_none, Bool.false_eq_true, if_false, hb, extract_cut, Sem.run_pure]
  unfold cutS at h
  rw [hsz] at h
  split at h
  · simp only [Option.some.injEq, Prod.mk.injEq] at h; obtain ⟨rfl, rfl⟩ := h
    rw [base (sb1 _ _ _), ← hsz, List.take_length]
    rfl
  · simp only [Option.some.injEq, Prod.mk.injEq] at h; obtain ⟨rfl, rfl⟩ := h
    rw [base (sb2 _ _ _ _ _ (hob _ rfl))]
    rfl
  · simp only [Option.some.injEq, Prod.mk.injEq] at h; obtain ⟨rfl, rfl⟩ := h
    rw [base (sb3 _ _ _ _ _ (hob _ rfl)), ← hsz, List.take_length]
  · simp only [Option.some.injEq, Prod.mk.injEq] at h; obtain ⟨rfl, rfl⟩ := h
    rw [base (sb4 _ _ _ _ _ _ _ (hob _ rfl).1 (hob _ rfl).2)]
  · simp at h

theorem shA_zero (o : Option Addr) (m k : Nat) : (if m = 0 then o else o.map (·.add (0 * k))) = o := by
  split
  · rfl
  · cases o <;> simp [Addr_add_zero]

theorem cutL_sound {o : Option Addr} {n c k : Nat} {lo hi mx : Option Value} {v : Value} {ob : Option Prop} (h : cutL o n c k lo hi mx = some (v, ob)) (hob : ∀ p, ob = some p → p) (b : Bool) :
    ∃ l h m, (Instr.sliceBounds b n c lo hi mx).run P w = .ok (l, h, m) w ∧ v = .slice (if m = l then o else o.map (·.add (l * k))) (h - l) (m - l) := by
  unfold cutL at h
  split at h
  · simp only [Option.some.injEq, Prod.mk.injEq] at h; obtain ⟨rfl, rfl⟩ := h
    exact ⟨_, _, _, sb1 _ _ _, by rw [shA_zero]; rfl⟩
  · simp only [Option.some.injEq, Prod.mk.injEq] at h; obtain ⟨rfl, rfl⟩ := h
    exact ⟨_, _, _, sb2 _ _ _ _ _ (hob _ rfl), by rw [shA_zero]; rfl⟩
  · simp only [Option.some.injEq, Prod.mk.injEq] at h; obtain ⟨rfl, rfl⟩ := h
    exact ⟨_, _, _, sb3 _ _ _ _ _ (hob _ rfl), rfl⟩
  · simp only [Option.some.injEq, Prod.mk.injEq] at h; obtain ⟨rfl, rfl⟩ := h
    exact ⟨_, _, _, sb4 _ _ _ _ _ _ _ (hob _ rfl).1 (hob _ rfl).2, rfl⟩
  · simp only [Option.some.injEq, Prod.mk.injEq] at h; obtain ⟨rfl, rfl⟩ := h
    exact ⟨_, _, _, sb5 _ _ _ _ _ _ _ (hob _ rfl).1 (hob _ rfl).2, by rw [shA_zero]; rfl⟩
  · simp at h

theorem sliceV_sound (hT : TabOK P T) {t : Nat} {x : Value} {lo hi mx : Option Value} {v : Value} {ob : Option Prop} (h : sliceV T t x lo hi mx = some (v, ob))
    (hob : ∀ p, ob = some p → p) : (Instr.sliceAt t x lo hi mx).run P w = .ok v w := by
  unfold sliceV at h
  split at h
  · rename_i ht
    split at h
    · exact cutS_sound hT ht h hob
    · simp at h
  · rename_i e k o n c ht
    obtain ⟨hu, i, hi, hs⟩ := hT.ty _ _ ht
    obtain ⟨l, hh, m, hr, rfl⟩ := cutL_sound (P := P) (w := w) h hob true
    simp only [Instr.sliceAt, Sem.run_bind, run_underlying hu, Result.andThen_ok, Instr.slice, hr, sizeOf, typeInfo, run_program, hi, Sem.run_pure, hs]
  · rename_i n e k g a ht
    split at h
    · obtain ⟨hu, ⟨i, hi, hs⟩, _⟩ := hT.ty _ _ ht
      obtain ⟨l, hh, m, hr, rfl⟩ := cutL_sound (P := P) (w := w) h hob false
      simp only [Instr.sliceAt, Sem.run_bind, run_underlying hu, Result.andThen_ok, Instr.sureAddr, hr, sizeOf, typeInfo, run_program, hi, Sem.run_pure, hs]
      congr 2
      split <;> rfl
    · simp at h
  · simp at h

theorem indexAddrV_sound (hT : TabOK P T) {t : Nat} {x ix v : Value} {ob : Option Prop} (h : indexAddrV T t x ix = some (v, ob)) (hob : ∀ p, ob = some p → p) : (Instr.indexAt t x ix).run P w = .ok v w := by
  unfold indexAddrV at h
  split at h
  · rename_i e k o n c kk i ht
    simp only [Option.some.injEq, Prod.mk.injEq] at h; obtain ⟨rfl, rfl⟩ := h
    obtain ⟨hu, inf, hi, hs⟩ := hT.ty _ _ ht
    obtain ⟨h1, h2⟩ := hob _ rfl
    obtain ⟨a, rfl⟩ := Option.isSome_iff_exists.1 h1
    simp only [Instr.indexAt, asIntOf, Sem.run_bind, Sem.run_pure, run_underlying hu, Result.andThen_ok, Bool.and_false, h2, and_self, if_true, sizeOf, typeInfo, run_program, hi, hs, Option.map_some]
  · rename_i n e k g a kk i ht
    simp only [Option.some.injEq, Prod.mk.injEq] at h; obtain ⟨rfl, rfl⟩ := h
    obtain ⟨hu, ⟨inf, hi, hs⟩, _⟩ := hT.ty _ _ ht
    have h2 := hob _ rfl
    simp only [Instr.indexAt, asIntOf, Sem.run_bind, Sem.run_pure, run_underlying hu, Result.andThen_ok, Instr.sureAddr, h2, and_self, if_true, sizeOf, typeInfo, run_program, hi, hs]
  · simp at h

theorem fieldAddrV_sound (hT : TabOK P T) {t f : Nat} {x v : Value} {ob : Option Prop} (h : fieldAddrV T t x f = some (v, ob)) (hob : ∀ p, ob = some p → p) : (Instr.fieldAt t x f).run P w = .ok v w := by
  unfold fieldAddrV at h
  split at h
  · rename_i fs p ht
    split at h
    · rename_i o s g u b hf
      simp only [Option.some.injEq, Prod.mk.injEq] at h; obtain ⟨rfl, rfl⟩ := h
      obtain ⟨a, rfl⟩ := Option.isSome_iff_exists.1 (hob _ rfl)
      obtain ⟨_, fields, hu, hlen, hfs⟩ := hT.ty _ _ ht
      obtain ⟨fd, i, h1, h2, h3, _, h5, h6, h7, h8⟩ := hfs _ _ _ _ _ _ hf
      subst h2 h3
      have hne : i.size ≠ 0 := by omega
      simp only [Instr.fieldAt, Sem.run_bind, run_underlying hu, Result.andThen_ok, h1, Instr.sureAddr, Sem.run_pure, fieldPlace, sizeOf, typeInfo, run_program, h5, hne, if_false, Option.map_some]
    · simp at h
  · simp at h

end Go.Ev

/- That the evaluator of operations that touch no memory says what the machine does: all of them in one theorem; runs of such operations. -/
namespace Go.Ev

variable {P : Program} {T : Tab} {w : World}

theorem ipairs_sound {N : Nat} {a : Act} {kn : KN} (hk : Kn N a kn) : ∀ {l : List (Nat × Operand)} {vs : List (Nat × Value)}, ipairs kn l = some vs → l.map (fun p => (p.1, a.eval p.2)) = vs := by
  intro l
  induction l with
  | nil => intro vs h; simp [ipairs] at h; simp [h]
  | cons p l ih =>
    intro vs h
    obtain ⟨i, x⟩ := p
    unfold ipairs at h
    split at h
    · rename_i v vs' h1 h2
      obtain rfl := Option.some.inj h
      simp [opd_sound hk h1, ih h2]
    · simp at h

theorem run_placesList (l : List Field) (fs : List (Nat × Nat × Bool × Nat × Bool))
    (hfs : ∀ (j o s : Nat) (g : Bool) (u : Nat) (b : Bool), fs[j]? = some (o, s, g, u, b) → ∃ (f : Field) (i : TypeInfo), l[j]? = some f ∧ f.offset = o ∧ f.type = u ∧ (f.name != "_") = b ∧ P.info? u = some i ∧ i.size = s ∧ aggB P u = g ∧ (P.underlying u).isSome = true)
    (hl : l.length = fs.length) : (l.mapM (fun f => do pure (f.offset, ← sizeOf f.type) : Field → Sem (Nat × Nat))).run P w = .ok (fs.map fun p => (p.1, p.2.1)) w := by
  induction l generalizing fs with
  | nil =>
    have : fs = [] := List.eq_nil_of_length_eq_zero (by simpa using hl.symm)
    subst this
    simp
  | cons f l ih =>
    cases fs with
    | nil => simp at hl
    | cons p fs =>
      obtain ⟨o, s, g, u, b⟩ := p
      obtain ⟨fd, i, h1, h2, h3, _, h5, h6, _⟩ := hfs 0 o s g u b rfl
      simp only [List.getElem?_cons_zero, Option.some.injEq] at h1
      subst h1 h2 h3
      have := ih fs (fun j o s g u b hj => by simpa using hfs (j + 1) o s g u b (by simpa using hj)) (by simpa using hl)
      simp only [List.mapM_cons, Sem.run_bind, sizeOf, typeInfo, run_program, Result.andThen_ok, h5, Sem.run_pure, this, h6, List.map_cons] at this ⊢

theorem buildV_sound (hT : TabOK P T) {t : Nat} {ps : List (Nat × Value)} {v : Value} {ob : Option Prop} (h : buildV T t ps = some (v, ob)) : (Instr.build t ps.toArray).run P w = .ok v w := by
  unfold buildV at h
  split at h
  · rename_i fs z ht hz
    split at h
    · rename_i cs hc
      simp only [Option.some.injEq, Prod.mk.injEq] at h; obtain ⟨rfl, rfl⟩ := h
      obtain ⟨_, fields, hu, hlen, hfs⟩ := hT.ty _ _ ht
      obtain ⟨i, hi, hz', _⟩ := hT.zero _ _ hz
      have hp := run_placesList (P := P) (w := w) fields.toList fs (fun j o s g u b hj => by
        obtain ⟨f, i, h1, h2⟩ := hfs j o s g u b hj
        exact ⟨f, i, by simpa using h1, h2⟩) (by simpa using hlen)
      have hpl : (fields.mapM (fun f => do pure (f.offset, ← sizeOf f.type) : Field → Sem (Nat × Nat))).run P w = .ok (fs.map fun p => (p.1, p.2.1)).toArray w := by
        rw [Array.mapM_eq_mapM_toList]
        change (fields.toList.mapM (fun f => do pure (f.offset, ← sizeOf f.type) : Field → Sem (Nat × Nat)) >>= fun l => pure l.toArray : Sem _).run P w = _
        rw [Sem.run_bind, hp]
        rfl
      have hfill : ∀ (g : Nat → Option (Nat × Nat)) (_ : ∀ i, g i = (fs[i]?).map fun p => (p.1, p.2.1)), Instr.fill g z.cells ps = some cs := by
        intro g hg
        rw [show g = fun i => (fs[i]?).map fun p => (p.1, p.2.1) from funext hg]
        exact hc
      simp only [Instr.build, Sem.run_bind, zeroValue, typeInfo, run_program, hi, hz', Sem.run_pure, Result.andThen_ok, run_underlying hu, hpl]
      rw [hfill _ (by intro i; simp)]
      rfl
    · simp at h
  · rename_i n e k g z ht hz
    split at h
    · rename_i cs hc
      simp only [Option.some.injEq, Prod.mk.injEq] at h; obtain ⟨rfl, rfl⟩ := h
      obtain ⟨hu, ⟨inf, hie, hs⟩, _⟩ := hT.ty _ _ ht
      obtain ⟨i, hi, hz', _⟩ := hT.zero _ _ hz
      simp only [Instr.build, Sem.run_bind, zeroValue, typeInfo, run_program, hi, hz', Sem.run_pure, Result.andThen_ok, run_underlying hu, sizeOf, hie, hs, hc]
    · simp at h
  · simp at h

theorem builtV_sound (hT : TabOK P T) {b : Builtin} {ts : Array Nat} {xs : Array Value} {v : Value} {ob : Option Prop} (h : builtV T b ts.toList xs.toList = some (v, ob)) (ty : Nat) (cs : Array Bool) :
    (builtin b ts ty cs xs).run P w = .ok (.value v) w := by
  obtain ⟨ts⟩ := ts
  obtain ⟨xs⟩ := xs
  simp only at h
  unfold builtV at h
  split at h
  · rename_i t x
    split at h
    · rename_i ht
      simp only [Option.some.injEq, Prod.mk.injEq] at h; obtain ⟨rfl, rfl⟩ := h
      have hu := hT.ty _ _ ht
      simp only [TD.ok] at hu
      simp only [builtin, Builtin.len_, List.getElem?_toArray, List.getElem?_cons_zero, Sem.run_bind, run_underlying hu, Result.andThen_ok, goInt, Sem.run_pure]
      rfl
    · rename_i ht
      simp only [Option.some.injEq, Prod.mk.injEq] at h; obtain ⟨rfl, rfl⟩ := h
      have hu := (hT.ty _ _ ht).1
      simp [builtin, Builtin.len_, run_underlying hu, goInt]
    · rename_i ht
      simp only [Option.some.injEq, Prod.mk.injEq] at h; obtain ⟨rfl, rfl⟩ := h
      have hu := (hT.ty _ _ ht).1
      simp [builtin, Builtin.len_, run_underlying hu, goInt]
    · simp at h
  · split at h
    · rename_i ht
      simp only [Option.some.injEq, Prod.mk.injEq] at h; obtain ⟨rfl, rfl⟩ := h
      have hu := (hT.ty _ _ ht).1
      simp [builtin, Builtin.cap_, run_underlying hu, goInt]
    · simp at h
  · simp only [Option.some.injEq, Prod.mk.injEq] at h; obtain ⟨rfl, rfl⟩ := h
    simp [builtin, Builtin.min_, Builtin.min2, mnI]
  · simp only [Option.some.injEq, Prod.mk.injEq] at h; obtain ⟨rfl, rfl⟩ := h
    simp [builtin, Builtin.max_, Builtin.max2, mxI]
  · simp at h

theorem plainT_sound (hT : TabOK P T) {t : Nat} (h : plainT (tlook T.ty t) = true) (x : Value) : (Instr.makeInterface t x).run P w = .ok (.iface t x) w := by
  cases ht : tlook T.ty t with
  | none => rw [ht] at h; simp [plainT] at h
  | some d =>
    rw [ht] at h
    have hd := hT.ty t d ht
    cases d <;> simp only [TD.ok, plainT, Bool.false_eq_true] at hd h
    all_goals first
      | (simp [Instr.makeInterface, run_underlying hd]; done)
      | (simp [Instr.makeInterface, run_underlying hd.1]; done)
      | (obtain ⟨_, hd⟩ := hd; simp [Instr.makeInterface, run_underlying hd]; done)
      | (obtain ⟨_, _, _, hd⟩ := hd; simp [Instr.makeInterface, run_underlying hd]; done)
      | (obtain ⟨_, _, hd, _⟩ := hd; simp [Instr.makeInterface, run_underlying hd]; done)

theorem run_value {s : Sem Value} {v : Value} (h : s.run P w = .ok v w) : (do pure (.value (← s)) : Sem Next).run P w = .ok (.value v) w := by
  simp only [Sem.run_bind, h, Result.andThen_ok, Sem.run_pure]

theorem pureOp_sound (hT : TabOK P T) {N : Nat} {a : Act} {kn : KN} (hk : Kn N a kn) {o : Oper} {v : Value} {ob : Option Prop} (h : pureOp T kn o = some (v, ob))
    (hob : ∀ p, ob = some p → p) : (execOp a.eval o).run P w = .ok (.value v) w := by
  unfold pureOp at h
  split at h
  case h_1 x ho =>
    simp only [Option.map_eq_some_iff, Prod.mk.injEq] at h
    obtain ⟨u, hu, rfl, rfl⟩ := h
    simp [execOp, ho, opd_sound hk hu]
  case h_2 x ho =>
    simp only [Option.map_eq_some_iff, Prod.mk.injEq] at h
    obtain ⟨u, hu, rfl, rfl⟩ := h
    simp [execOp, ho, opd_sound hk hu]
  case h_3 c x y ho =>
    split at h
    · rename_i p u1 u2 hc hx hy
      simp only [Option.some.injEq, Prod.mk.injEq] at h; obtain ⟨rfl, rfl⟩ := h
      simp [execOp, ho, opd_sound hk hc, opd_sound hk hx, opd_sound hk hy, asBool, mergeV_eq]
    · simp at h
  case h_4 op t x y _ ho =>
    split at h
    · rename_i u1 u2 hx hy
      simp only [execOp, ho, opd_sound hk hx, opd_sound hk hy]
      exact run_value (binV_sound hT h hob)
    · simp at h
  case h_5 op _ x ho =>
    split at h
    · rename_i u hx
      simp only [execOp, ho, opd_sound hk hx]
      exact run_value (unV_sound h)
    · simp at h
  case h_6 s d x ho =>
    split at h
    · rename_i u hx
      simp only [execOp, ho, opd_sound hk hx]
      exact run_value (convV_sound hT h)
    · simp at h
  case h_7 x i ho =>
    split at h
    · rename_i u hx
      simp only [execOp, ho, opd_sound hk hx]
      exact run_value (extractV_sound h)
    · simp at h
  case h_8 t x f ho =>
    split at h
    · rename_i u hx
      simp only [execOp, ho, opd_sound hk hx]
      exact run_value (fieldV_sound hT h)
    · simp at h
  case h_9 t x i ho =>
    split at h
    · rename_i u1 u2 hx hy
      simp only [execOp, ho, opd_sound hk hx, opd_sound hk hy]
      exact run_value (indexV_sound hT h hob)
    · simp at h
  case h_10 t x lo hi mx ho =>
    have conv : ∀ (z : Option Operand) , (z.map (opd kn) ≠ some none) → z.map a.eval = (z.map (opd kn)).bind id := by
      intro z hz
      cases z with
      | none => rfl
      | some q =>
        simp only [Option.map_some, ne_eq, Option.some.injEq] at hz ⊢
        obtain ⟨u, hu⟩ := Option.ne_none_iff_exists'.1 hz
        rw [hu, opd_sound hk hu]
        rfl
    split at h
    · simp at h
    · simp at h
    · simp at h
    · have hx := opd_sound hk (show opd kn x = some _ by assumption)
      simp only [execOp, ho, hx]
      rw [conv lo (by assumption), conv hi (by assumption), conv mx (by assumption)]
      exact run_value (sliceV_sound hT h hob)
    · simp at h
  case h_11 t x i ho =>
    split at h
    · rename_i u1 u2 hx hy
      simp only [execOp, ho, opd_sound hk hx, opd_sound hk hy]
      exact run_value (indexAddrV_sound hT h hob)
    · simp at h
  case h_12 t x f ho =>
    split at h
    · rename_i u hx
      simp only [execOp, ho, opd_sound hk hx]
      exact run_value (fieldAddrV_sound hT h hob)
    · simp at h
  case h_13 x ho =>
    split at h
    · rename_i u hx
      unfold nilCheckV at h
      split at h
      · simp only [Option.some.injEq, Prod.mk.injEq] at h; obtain ⟨rfl, rfl⟩ := h
        obtain ⟨a, rfl⟩ := Option.isSome_iff_exists.1 (hob _ rfl)
        simp [execOp, ho, opd_sound hk hx]
      · simp only [Option.some.injEq, Prod.mk.injEq] at h; obtain ⟨rfl, rfl⟩ := h
        simp [execOp, ho, opd_sound hk hx]
      · simp at h
    · simp at h
  case h_14 t ps ho =>
    split at h
    · rename_i vs hv
      have : ps.map (fun p => (p.1, a.eval p.2)) = vs.toArray := by
        apply Array.toList_inj.1
        simpa using ipairs_sound hk hv
      simp only [execOp, ho]
      rw [show (fun (x : Nat × Operand) => match x with | (i, x) => (i, a.eval x)) = fun p => (p.1, a.eval p.2) from rfl, this]
      exact run_value (buildV_sound hT h)
    · simp at h
  case h_15 fn fs cs ho =>
    split at h
    · rename_i f c hf hc
      simp only [Option.some.injEq, Prod.mk.injEq] at h; obtain ⟨rfl, rfl⟩ := h
      simp [execOp, ho, Instr.makeFunc, opds_sound_arr hk hf, opds_sound_arr hk hc]
    · simp at h
  case h_16 t x ho =>
    split at h
    · rename_i u hx ht
      simp only [Option.some.injEq, Prod.mk.injEq] at h; obtain ⟨rfl, rfl⟩ := h
      simp only [execOp, ho, opd_sound hk hx]
      exact run_value (plainT_sound hT ht _)
    · simp at h
  case h_17 b xs ts ho =>
    split at h
    · rename_i vs hv
      simp only [execOp, ho, resolve, Sem.run_bind, Sem.run_pure, Result.andThen_ok, invoke, opds_sound_arr hk hv]
      exact builtV_sound hT (by simpa using h) _ _
    · simp at h
  case h_18 => simp at h

end Go.Ev

/- Runs of operations that touch no memory; what stands in a function's code, by its place; the stack of what is still to be done. -/
namespace Go.Ev

variable {P : Program} {T : Tab} {w : World}

/-! ### guards -/

def gd (ops : Array Oper) (kn : KN) (o : Oper) : Option Bool :=
  match o.guard with
  | none => some true
  | some (j, want) => match ops[j]? with
    | none => some false
    | some q => match q.dst with
      | none => some false
      | some d => match look kn d with
        | some (.bool b) => some (b == want)
        | some _ => some false
        | none => none

theorem gd_sound {N : Nat} {a : Act} {kn : KN} (hk : Kn N a kn) {ops : Array Oper} {o : Oper} {b : Bool} (h : gd ops kn o = some b) : Region.wanted o (yielded ops a.tmps) = b := by
  unfold gd at h
  unfold Region.wanted
  split at h
  · rename_i hg
    simp only [Option.some.injEq] at h
    simp [hg, h]
  · rename_i j want hg
    simp only [hg]
    split at h
    · rename_i hj
      simp only [Option.some.injEq] at h
      simp [yielded, hj, ← h]
    · rename_i q hj
      split at h
      · rename_i hd
        simp only [Option.some.injEq] at h
        simp [yielded, hj, hd, ← h]
      · rename_i d hd
        split at h
        · rename_i b' hb
          simp only [Option.some.injEq] at h
          have := hk.val _ _ hb
          subst h
          simp [yielded, hj, hd, this]
        · rename_i v hne hv
          simp only [Option.some.injEq] at h
          have := hk.val _ _ hv
          subst h
          simp only [yielded, hj, hd, Option.bind_some, this]
          split
          · rename_i b e
            simp only [Option.some.injEq] at e
            exact (hne b e).elim
          · rfl
        · simp at h

def putK (kn : KN) (d : Option Nat) (v : Value) : KN :=
  match d with
  | none => kn
  | some d => (d, v) :: kn

def fits (N : Nat) (d : Option Nat) : Bool :=
  match d with
  | none => true
  | some d => Nat.blt d N

theorem Kn.putK {N : Nat} {a : Act} {kn : KN} (h : Kn N a kn) {d : Option Nat} (hd : fits N d = true) (v : Value) : Kn N (a.put d v) (putK kn d v) := by
  cases d with
  | none => exact h
  | some d => exact h.put (by simpa [fits, Nat.blt_eq] using hd) v

theorem Kn.put' {N : Nat} {a : Act} {kn : KN} (h : Kn N a kn) {d : Nat} (hd : Nat.blt d N = true) (v : Value) : Kn N (a.put (some d) v) ((d, v) :: kn) := h.put (by simpa [Nat.blt_eq] using hd) v

/-- A run of operations that touch no memory: what is known of the frame behind it, and what must hold for it. -/
def evs (T : Tab) (N : Nat) (ops : Array Oper) : List Nat → KN → Option (KN × Prop)
  | [], kn => some (kn, True)
  | i :: r, kn => match ops[i]? with
    | none => none
    | some o => match fits N o.dst, gd ops kn o with
      | true, some false => evs T N ops r (putK kn o.dst undef)
      | true, some true => match pureOp T kn o with
        | none => none
        | some (v, none) => evs T N ops r (putK kn o.dst v)
        | some (v, some p) => match evs T N ops r (putK kn o.dst v) with
          | none => none
          | some (kn', obs) => some (kn', p ∧ obs)
      | _, _ => none

theorem wpOps_value {ops : Array Oper} {Q : Exit → Act → World → Prop} {i : Nat} {rest : List Nat} {a : Act} {o : Oper} {v : Value} {w' : World} (ho : ops[i]? = some o)
    (hw : Region.wanted o (yielded ops a.tmps) = true) (hv : (execOp a.eval o).run P w = .ok (.value v) w') (h : wpOps P ops Q rest (a.put o.dst v) w') : wpOps P ops Q (i :: rest) a w := by
  simp only [wpOps, ho, hw, if_true]
  left
  simp only [Oper.wp, hv, Oper.upon_value]
  exact h

theorem wpOps_skip {ops : Array Oper} {Q : Exit → Act → World → Prop} {i : Nat} {rest : List Nat} {a : Act} {o : Oper} (ho : ops[i]? = some o)
    (hw : Region.wanted o (yielded ops a.tmps) = false) (h : wpOps P ops Q rest (a.put o.dst undef) w) : wpOps P ops Q (i :: rest) a w := by
  simp only [wpOps, ho, hw, Bool.false_eq_true, if_false]
  exact h

theorem evs_sound (hT : TabOK P T) {N : Nat} {ops : Array Oper} {Q : Exit → Act → World → Prop} {rest : List Nat} :
    ∀ {pre : List Nat} {kn kn' : KN} {obs : Prop} {a : Act}, evs T N ops pre kn = some (kn', obs) → obs → Kn N a kn → (∀ a', Kn N a' kn' → wpOps P ops Q rest a' w) → wpOps P ops Q (pre ++ rest) a w := by
  intro pre
  induction pre with
  | nil =>
    intro kn kn' obs a h hobs hk next
    simp only [evs, Option.some.injEq, Prod.mk.injEq] at h
    obtain ⟨rfl, rfl⟩ := h
    exact next a hk
  | cons i r ih =>
    intro kn kn' obs a h hobs hk next
    simp only [evs] at h
    split at h
    · simp at h
    · rename_i o ho
      split at h
      · rename_i hf hg
        exact wpOps_skip ho (gd_sound hk hg) (ih h hobs (hk.putK hf undef) next)
      · rename_i hf hg
        split at h
        · simp at h
        · rename_i v hv
          exact wpOps_value ho (gd_sound hk hg) (pureOp_sound hT hk hv (by simp)) (ih h hobs (hk.putK hf v) next)
        · rename_i v p hv
          split at h
          · simp at h
          · rename_i kn2 obs2 h2
            simp only [Option.some.injEq, Prod.mk.injEq] at h
            obtain ⟨rfl, rfl⟩ := h
            exact wpOps_value ho (gd_sound hk hg) (pureOp_sound hT hk hv (fun q hq => by obtain rfl := Option.some.inj hq; exact hobs.1)) (ih h2 hobs.2 (hk.putK hf v) next)
      · simp at h

/-- The same, told in one equation: what is kept of the frame is told by the list of live temporaries. -/
def evk (T : Tab) (N : Nat) (ops : Array Oper) (pre : List Nat) (live : List Nat) (kn : KN) : Option (KN × Prop) :=
  match evs T N ops pre kn with
  | none => none
  | some (kn', obs) => some (keep kn' live, obs)

theorem st_pure (hT : TabOK P T) {N : Nat} {ops : Array Oper} {Q : Exit → Act → World → Prop} {kn : KN} {a : Act} (hk : Kn N a kn) (pre rest live : List Nat) (kn' : KN) (obs : Prop)
    (h : evk T N ops pre live kn = some (kn', obs)) (hobs : obs) (next : ∀ a', Kn N a' kn' → wpOps P ops Q rest a' w) : wpOps P ops Q (pre ++ rest) a w := by
  unfold evk at h
  split at h
  · simp at h
  · rename_i kn2 obs2 h2
    simp only [Option.some.injEq, Prod.mk.injEq] at h
    obtain ⟨rfl, rfl⟩ := h
    exact evs_sound hT h2 hobs hk fun a' h' => next a' (h'.keep live)

/-! ### code by its place -/

def Sub : Code → List Nat → Code
  | c, [] => c
  | .seq x y, i :: p => match i with
    | 0 => Sub x p
    | _ => Sub y p
  | .cond _ x y, i :: p => match i with
    | 0 => Sub x p
    | _ => Sub y p
  | .block _ x, _ :: p => Sub x p
  | .loop x, _ :: p => Sub x p
  | .scope x, _ :: p => Sub x p
  | .rangeFunc _ _ x y, i :: p => match i with
    | 0 => Sub x p
    | _ => Sub y p
  | c, _ :: _ => c

def bodyOf (f : Func) : Code := f.body.getD .skip

def opsOf : Code → Array Oper
  | .region _ ops _ => ops
  | _ => #[]

/-! ### what is still to be done -/

/-- What a loop's next round comes to. -/
def LoopAt (P : Program) (c : Code) (Q : Exit → Act → World → Prop) (a : Act) (w : World) : Prop :=
  ∀ (b : Frame) (k : List Item) (cs : List Frame), ∃ e a' w', Q e a' w' ∧ Arrives P (lone (b.at a (.inLoop c :: k)) cs w) b k cs e a' w'

inductive It where
  | code (c : Code)
  | endb (id : Nat)
  | inl (c : Code)
  | scp

def Kont (P : Program) (Q : Exit → Act → World → Prop) : List It → Exit → Act → World → Prop
  | [] => Q
  | .code c :: r => Exit.then (c.wp P (Kont P Q r)) (Kont P Q r)
  | .endb id :: r => Exit.inBlock id (Kont P Q r)
  | .inl c :: r => Exit.then (LoopAt P c (Kont P Q r)) (Kont P Q r)
  | .scp :: r => Exit.noGoto (Kont P Q r)

def G (P : Program) (Q : Exit → Act → World → Prop) (its : List It) (a : Act) (w : World) : Prop := Kont P Q its .normal a w

variable {Q : Exit → Act → World → Prop} {r : List It} {a : Act} {c : Code}

theorem st_seq (c0 c1 : Code) (hc : c = .seq c0 c1) (h : G P Q (.code c0 :: .code c1 :: r) a w) : G P Q (.code c :: r) a w := by
  subst hc
  exact wp_seq h

theorem st_block (id : Nat) (c0 : Code) (hc : c = .block id c0) (h : G P Q (.code c0 :: .endb id :: r) a w) : G P Q (.code c :: r) a w := by
  subst hc
  exact wp_block h

theorem st_endb (id : Nat) (h : G P Q r a w) : G P Q (.endb id :: r) a w := h

theorem st_scope (c0 : Code) (hc : c = .scope c0) (h : G P Q (.code c0 :: .scp :: r) a w) : G P Q (.code c :: r) a w := by
  subst hc
  exact wp_scope_straight h

theorem st_scp (h : G P Q r a w) : G P Q (.scp :: r) a w := h

theorem st_label (l : Nat) (hc : c = .label l) (h : G P Q r a w) : G P Q (.code c :: r) a w := by
  subst hc
  exact wp_label h

theorem st_skip (hc : c = .skip) (h : G P Q r a w) : G P Q (.code c :: r) a w := by
  subst hc
  exact wp_skip h

/-- Where a jump out of a block goes. -/
def after (id : Nat) : List It → Option (List It)
  | [] => none
  | .code _ :: r => after id r
  | .inl _ :: r => after id r
  | .scp :: r => after id r
  | .endb i :: r => match Nat.beq id i with
    | true => some r
    | false => after id r

theorem Kont_exit {id : Nat} : ∀ {its its' : List It}, after id its = some its' → Kont P Q its (.exit id) a w = Kont P Q its' .normal a w := by
  intro its
  induction its with
  | nil => intro its' h; simp [after] at h
  | cons x r ih =>
    intro its' h
    cases x with
    | code c => exact ih h
    | inl c => exact ih h
    | scp => exact ih h
    | endb i =>
      unfold after at h
      cases hb : Nat.beq id i with
      | true =>
        rw [hb] at h
        obtain rfl := Option.some.inj h
        have : id = i := Nat.eq_of_beq_eq_true hb
        simp [Kont, Exit.inBlock, this]
      | false =>
        rw [hb] at h
        have : id ≠ i := by
          intro e
          subst e
          simp [Nat.beq_refl] at hb
        simp only [Kont, Exit.inBlock, if_neg this]
        exact ih h

theorem st_exit (id : Nat) (its' : List It) (hc : c = .exit id) (hx : after id r = some its') (h : G P Q its' a w) : G P Q (.code c :: r) a w := by
  subst hc
  exact wp_exit (by rw [Kont_exit hx]; exact h)

theorem Kont_ret : ∀ {its : List It}, Kont P Q its .ret a w = Q .ret a w := by
  intro its
  induction its with
  | nil => rfl
  | cons x r ih => cases x <;> exact ih

theorem st_ret (hc : c = .ret) (h : Q .ret a w) : G P Q (.code c :: r) a w := by
  subst hc
  exact wp_ret (by rw [Kont_ret]; exact h)

theorem st_end (h : Q .normal a w) : G P Q [] a w := h

/-- The condition that stands at a test. -/
def condOf (kn : KN) : Code → Option Bool
  | .cond c _ _ => match opd kn c with
    | some (.bool b) => some b
    | _ => none
  | _ => none

theorem st_cond {N : Nat} {kn : KN} (hk : Kn N a kn) (c0 c1 : Code) (x : Operand) (b : Bool) (hc : c = .cond x c0 c1) (hx : opd kn x = some (.bool b))
    (ht : b = true → G P Q (.code c0 :: r) a w) (hf : b = false → G P Q (.code c1 :: r) a w) : G P Q (.code c :: r) a w := by
  subst hc
  exact wp_cond_split (opd_sound hk hx) ht hf

theorem st_cond_true {N : Nat} {kn : KN} (hk : Kn N a kn) (c0 c1 : Code) (x : Operand) (hc : c = .cond x c0 c1) (hx : opd kn x = some (.bool true))
    (h : G P Q (.code c0 :: r) a w) : G P Q (.code c :: r) a w := by
  subst hc
  exact wp_cond_true (opd_sound hk hx) h

theorem st_cond_false {N : Nat} {kn : KN} (hk : Kn N a kn) (c0 c1 : Code) (x : Operand) (hc : c = .cond x c0 c1) (hx : opd kn x = some (.bool false))
    (h : G P Q (.code c1 :: r) a w) : G P Q (.code c :: r) a w := by
  subst hc
  exact wp_cond_false (opd_sound hk hx) h

def condX : Code → Operand
  | .cond x _ _ => x
  | _ => .const .nilFunc

theorem st_region (id : Nat) (ops : Array Oper) (l : List Nat) (hc : c = .region id ops false) (hl : List.range ops.size = l) (h : wpOps P ops (Kont P Q r) l a w) : G P Q (.code c :: r) a w := by
  subst hc
  subst hl
  exact wp_region h

/-- Behind a region's last operation. -/
theorem st_done {ops : Array Oper} (h : G P Q r a w) : wpOps P ops (Kont P Q r) [] a w := h

theorem loop_round {c0 : Code} {K : Exit → Act → World → Prop} {m : Machine} {b : Frame} {k : List Item} {cs : List Frame} (hs : step P m = .next (lone (b.at a (.code c0 :: .inLoop c0 :: k)) cs w))
    (h : c0.wp P (Exit.then (LoopAt P c0 K) K) a w) : ∃ e a' w', K e a' w' ∧ Arrives P m b k cs e a' w' := by
  obtain ⟨e, a1, w1, hq, harr⟩ := h b (.inLoop c0 :: k) cs
  cases e with
  | normal =>
    obtain ⟨e2, a2, w2, hq2, harr2⟩ := hq b k cs
    exact ⟨e2, a2, w2, hq2, .of_steps (.head hs harr) harr2⟩
  | exit id => exact ⟨_, a1, w1, hq, .of_steps (.one hs) (.pass (x := .inLoop c0) rfl (fun _ _ => .inl (by simp)) harr)⟩
  | goto l => exact ⟨_, a1, w1, hq, .of_steps (.one hs) (.pass (x := .inLoop c0) rfl (fun _ _ => .inl (by simp)) harr)⟩
  | ret => exact ⟨_, a1, w1, hq, .of_steps (.one hs) (.pass (x := .inLoop c0) rfl (fun _ _ => .inl (by simp)) harr)⟩
  | panic ch => exact ⟨_, a1, w1, hq, .of_steps (.one hs) (.pass (x := .inLoop c0) rfl (fun _ _ => .inl (by simp)) harr)⟩
  | outgrown => exact ⟨_, a1, w1, hq, .of_steps (.one hs) (.pass (x := .inLoop c0) rfl (fun _ _ => .inl (by simp)) harr)⟩

theorem st_loop (c0 : Code) (hc : c = .loop c0) (h : G P Q (.code c0 :: .inl c0 :: r) a w) : G P Q (.code c :: r) a w := by
  subst hc
  exact fun b k cs => loop_round step_loop h

theorem st_inl {c0 : Code} (h : G P Q (.code c0 :: .inl c0 :: r) a w) : G P Q (.inl c0 :: r) a w := by
  intro _ _ _
  exact loop_round step_inLoop h

end Go.Ev

/- What a call owns: blocks of its own, known whole or as rows; entering and leaving a function. -/
namespace Go.Ev

variable {P : Program} {T : Tab} {zz : Nat}

/-! ### what is owned -/

/-- The block that a slice owns: none, where it has no room. -/
def obk : Value → Option Nat
  | .slice (some a) _ (_ + 1) => some a.block
  | _ => none

theorem obk_zero (o : Option Addr) (n : Nat) : obk (.slice o n 0) = none := by cases o <;> rfl

theorem obk_some {a : Addr} {n c k : Nat} (h : obk (.slice (some a) n c) = some k) : k = a.block := by
  cases c with
  | zero => simp [obk] at h
  | succ c => exact (Option.some.inj h).symm

theorem obk_pos {a : Addr} {n c : Nat} (h : 0 < c) : obk (.slice (some a) n c) = some a.block := by
  cases c with
  | zero => simp at h
  | succ c => rfl

/-- A slice that owns its row: nil, or it begins at the head of a block of its element type, whose cells may be written, and whose first cells are xs. -/
def ORow (zz : Nat) (w : World) (e size : Nat) (v : Value) (n : Nat) (xs : List Value) : Prop :=
  xs.length = n * size ∧ ((∃ o, v = .slice o 0 0 ∧ n = 0 ∧ (0 < zz → o = none)) ∨
    ∃ g cap cur fz, v = .slice (some ⟨g, 0, none⟩) n cap ∧ w.heap[g]? = some (.cells cur e fz) ∧ (fz = (0, 0) ∨ fz.1 = cur.size) ∧ n ≤ cap ∧ cap ≤ maxLen ∧ 0 < cap ∧ cur.size = cap * size ∧ cur.toList.take (n * size) = xs ∧ (zz = 2 → 0 < n))

theorem ORow.lt {w : World} {e size n : Nat} {v : Value} {xs : List Value} (h : ORow zz w e size v n xs) : ∀ k, obk v = some k → k < w.heap.size := by
  intro k hk
  rcases h.2 with ⟨o, rfl, _, _⟩ | ⟨g, cap, cur, fz, rfl, hh, _, _, _, hp, _⟩
  · simp [obk_zero] at hk
  · simp only [obk_pos hp, Option.some.injEq] at hk
    subst hk
    exact (Array.getElem?_eq_some_iff.1 hh).1

inductive As where
  /-- a block, known whole -/
  | blk (b : Nat) (o : Obj)
  /-- a slice that owns its row -/
  | row (zz : Nat) (e size : Nat) (v : Value) (n : Nat) (xs : List Value)

def As.foot : As → List Nat
  | .blk b _ => [b]
  | .row _ _ _ v _ _ => (obk v).toList

def As.sat (w : World) : As → Prop
  | .blk b o => w.heap[b]? = some o
  | .row zz e s v n xs => ORow zz w e s v n xs

def feet (L : List As) : List Nat := L.flatMap As.foot

theorem As.sat_lt {w : World} {A : As} (h : A.sat w) : ∀ k ∈ A.foot, k < w.heap.size := by
  intro k hk
  cases A with
  | blk b o =>
    simp only [As.foot, List.mem_singleton] at hk
    subst hk
    exact (Array.getElem?_eq_some_iff.1 h).1
  | row zz e s v n xs =>
    simp only [As.foot, Option.mem_toList] at hk
    exact ORow.lt h k hk

theorem As.sat_of {w w' : World} {A : As} (h : A.sat w) (hw : ∀ k ∈ A.foot, w'.heap[k]? = w.heap[k]?) : A.sat w' := by
  cases A with
  | blk b o => exact (hw b (by simp [As.foot])).trans h
  | row zz e s v n xs =>
    obtain ⟨h1, h2⟩ := h
    refine ⟨h1, ?_⟩
    rcases h2 with h2 | ⟨g, cap, cur, fz, hv, hh, r⟩
    · exact .inl h2
    · exact .inr ⟨g, cap, cur, fz, hv, (hw g (by simp [As.foot, hv, obk_pos r.2.2.2.1])).trans hh, r⟩

/-- From the world w0 on, a call has changed nothing that was there but what 'ex' names; it owns L. -/
structure Ows (ex : List Nat) (w0 w : World) (L : List As) : Prop where
  os : w.os = w0.os
  tape : w.tape = w0.tape
  output : w.output = w0.output
  size : w0.heap.size ≤ w.heap.size
  block : ∀ k, k < w0.heap.size → k ∉ ex → w.heap[k]? = w0.heap[k]?
  sat : ∀ A ∈ L, A.sat w
  nodup : (feet L).Nodup
  fresh : ∀ k ∈ feet L, w0.heap.size ≤ k ∨ k ∈ ex

theorem Ows.start (w : World) : Ows [] w w [] :=
  ⟨rfl, rfl, rfl, Nat.le_refl _, fun _ _ _ => rfl, by simp, by simp [feet], by simp [feet]⟩

theorem Ows.below {w0 w : World} {L : List As} (h : Ows [] w0 w L) : RowKit.Below w0.heap.size w0 w :=
  ⟨h.os, h.tape, h.output, h.size, fun k hk => h.block k hk (by simp)⟩

theorem Ows.drop {ex : List Nat} {w0 w : World} {L L' : List As} (h : Ows ex w0 w L) (hs : L'.Sublist L) : Ows ex w0 w L' := by
  have hf : (feet L').Sublist (feet L) := by
    unfold feet
    induction hs with
    | slnil => exact List.Sublist.refl _
    | cons a _ ih => exact (ih ⟨h.os, h.tape, h.output, h.size, h.block, fun A hA => h.sat A (List.mem_cons_of_mem _ hA), by
        have := h.nodup
        simp only [feet, List.flatMap_cons] at this
        exact (List.nodup_append.1 this).2.1, fun k hk => h.fresh k (by simp only [feet, List.flatMap_cons]; exact List.mem_append.2 (.inr hk))⟩).trans (by simp only [List.flatMap_cons]; exact List.sublist_append_right _ _)
    | cons_cons a _ ih =>
      simp only [List.flatMap_cons]
      refine List.Sublist.append (List.Sublist.refl _) (ih ⟨h.os, h.tape, h.output, h.size, h.block, fun A hA => h.sat A (List.mem_cons_of_mem _ hA), ?_, fun k hk => h.fresh k (by simp only [feet, List.flatMap_cons]; exact List.mem_append.2 (.inr hk))⟩)
      have := h.nodup
      simp only [feet, List.flatMap_cons] at this
      exact (List.nodup_append.1 this).2.1
  exact ⟨h.os, h.tape, h.output, h.size, h.block, fun A hA => h.sat A (hs.subset hA), h.nodup.sublist hf, fun k hk => h.fresh k (hf.subset hk)⟩

theorem Ows.erase {ex : List Nat} {w0 w : World} {L : List As} (h : Ows ex w0 w L) (j : Nat) : Ows ex w0 w (L.eraseIdx j) := h.drop (List.eraseIdx_sublist L j)

theorem Ows.perm {ex : List Nat} {w0 w : World} {L L' : List As} (h : Ows ex w0 w L) (hp : L.Perm L') : Ows ex w0 w L' := by
  have hf : (feet L).Perm (feet L') := hp.flatMap_right As.foot
  exact ⟨h.os, h.tape, h.output, h.size, h.block, fun A hA => h.sat A (hp.mem_iff.2 hA), hf.nodup_iff.1 h.nodup, fun k hk => h.fresh k (hf.mem_iff.2 hk)⟩

/-- A step that turns only blocks that the new list owns, or new ones. -/
theorem Ows.step {ex : List Nat} {w0 w w' : World} {L L' : List As} (h : Ows ex w0 w L) (hos : w'.os = w.os) (htape : w'.tape = w.tape) (hout : w'.output = w.output) (hsize : w.heap.size ≤ w'.heap.size)
    (tch : List Nat) (hblock : ∀ k, k < w.heap.size → k ∉ tch → w'.heap[k]? = w.heap[k]?) (htch : ∀ k ∈ tch, k < w0.heap.size → k ∈ ex)
    (hsat : ∀ A ∈ L', A.sat w') (hnodup : (feet L').Nodup) (hfresh : ∀ k ∈ feet L', w0.heap.size ≤ k ∨ k ∈ ex) : Ows ex w0 w' L' :=
  ⟨hos.trans h.os, htape.trans h.tape, hout.trans h.output, Nat.le_trans h.size hsize,
    fun k hk hex => (hblock k (Nat.lt_of_lt_of_le hk h.size) (fun ht => hex (htch k ht hk))).trans (h.block k hk hex), hsat, hnodup, hfresh⟩

theorem Ows.lt {ex : List Nat} {w0 w : World} {L : List As} (h : Ows ex w0 w L) : ∀ k ∈ feet L, k < w.heap.size := by
  intro k hk
  obtain ⟨A, hA, hkA⟩ := List.mem_flatMap.1 hk
  exact As.sat_lt (h.sat A hA) k hkA

/-- Behind a call that owns what it made. -/
theorem Ows.call {ex : List Nat} {w0 w w' : World} {L L' : List As} (h : Ows ex w0 w L) (h' : Ows [] w w' L') : Ows ex w0 w' (L' ++ L) := by
  have hfr : ∀ k ∈ feet L', w.heap.size ≤ k := fun k hk => (h'.fresh k hk).resolve_right (by simp)
  refine h.step h'.os h'.tape h'.output h'.size [] (fun k hk _ => h'.block k hk (by simp)) (by simp) ?_ ?_ ?_
  · intro A hA
    rcases List.mem_append.1 hA with hA | hA
    · exact h'.sat A hA
    · exact As.sat_of (h.sat A hA) fun k hk => h'.block k (As.sat_lt (h.sat A hA) k hk) (by simp)
  · unfold feet
    rw [List.flatMap_append]
    refine List.nodup_append.2 ⟨h'.nodup, h.nodup, fun a ha b hb e => ?_⟩
    have h1 := hfr a ha
    have h2 := h.lt b hb
    omega
  · intro k hk
    unfold feet at hk
    rw [List.flatMap_append] at hk
    rcases List.mem_append.1 hk with hk | hk
    · exact .inl (Nat.le_trans h.size (hfr k hk))
    · exact h.fresh k hk

/-- Behind a call that was handed some of what is owned (K), and gives it back turned (K'), and owns what it made (M). -/
theorem Ows.callX {ex exc : List Nat} {w0 w w' : World} {K L K' : List As} (h : Ows ex w0 w (K ++ L)) (hexc : exc = feet K) (h' : Ows exc w w' K') (hK : ∀ k ∈ feet K', k ∈ exc ∨ w.heap.size ≤ k) : Ows ex w0 w' (K' ++ L) := by
  have hnd := h.nodup
  unfold feet at hnd
  rw [List.flatMap_append] at hnd
  obtain ⟨hn1, hn2, hdis⟩ := List.nodup_append.1 hnd
  have hmemL : ∀ A ∈ L, A ∈ K ++ L := fun A hA => List.mem_append.2 (.inr hA)
  have hLlt : ∀ k ∈ feet L, k < w.heap.size := fun k hk => h.lt k (by unfold feet at *; rw [List.flatMap_append]; exact List.mem_append.2 (.inr hk))
  have hnotin : ∀ k ∈ feet L, k ∉ exc := by
    intro k hk hx
    rw [hexc] at hx
    exact hdis k hx k hk rfl
  refine h.step h'.os h'.tape h'.output h'.size exc (fun k hk hx => h'.block k hk hx) ?_ ?_ ?_ ?_
  · intro k hk hlt
    rw [hexc] at hk
    exact (h.fresh k (by unfold feet at *; rw [List.flatMap_append]; exact List.mem_append.2 (.inl hk))).resolve_left (by omega)
  · intro A hA
    rcases List.mem_append.1 hA with hA | hA
    · exact h'.sat A hA
    · exact As.sat_of (h.sat A (hmemL A hA)) fun k hk => h'.block k (hLlt k (List.mem_flatMap.2 ⟨A, hA, hk⟩)) (hnotin k (List.mem_flatMap.2 ⟨A, hA, hk⟩))
  · unfold feet
    rw [List.flatMap_append]
    refine List.nodup_append.2 ⟨h'.nodup, hn2, fun a ha b hb e => ?_⟩
    subst e
    rcases hK a ha with hx | hx
    · exact hnotin a hb hx
    · have := hLlt a hb; omega
  · intro k hk
    unfold feet at hk
    rw [List.flatMap_append] at hk
    rcases List.mem_append.1 hk with hk | hk
    · rcases hK k hk with hx | hx
      · rw [hexc] at hx
        exact h.fresh k (by unfold feet at *; rw [List.flatMap_append]; exact List.mem_append.2 (.inl hx))
      · exact .inl (Nat.le_trans h.size hx)
    · exact h.fresh k (by unfold feet; rw [List.flatMap_append]; exact List.mem_append.2 (.inr hk))

/-- A new block. -/
theorem Ows.alloc {ex : List Nat} {w0 w : World} {L : List As} (h : Ows ex w0 w L) (o : Obj) : Ows ex w0 (w.alloc o) (.blk w.heap.size o :: L) := by
  refine h.step rfl rfl rfl (by simp) [] (fun k hk _ => RowKit.Below.heap_alloc w o k hk) (by simp) ?_ ?_ ?_
  · intro A hA
    rcases List.mem_cons.1 hA with rfl | hA
    · exact heap_alloc_new w o
    · exact As.sat_of (h.sat A hA) fun k hk => RowKit.Below.heap_alloc w o k (As.sat_lt (h.sat A hA) k hk)
  · simp only [feet, List.flatMap_cons, As.foot, List.singleton_append, List.nodup_cons]
    exact ⟨fun hm => Nat.lt_irrefl _ (h.lt _ hm), h.nodup⟩
  · intro k hk
    simp only [feet, List.flatMap_cons, As.foot, List.singleton_append, List.mem_cons] at hk
    rcases hk with rfl | hk
    · exact .inl h.size
    · exact h.fresh k hk

/-- A new block that is a whole row. -/
theorem Ows.asRow {ex : List Nat} {w0 w : World} {L : List As} {b e size n cap : Nat} {cs : Array Value} {fz : Nat × Nat} (h : Ows ex w0 w (.blk b (.cells cs e fz) :: L)) (hfz : fz = (0, 0) ∨ fz.1 = cs.size)
    (hs : cs.size = cap * size) (hn : n ≤ cap) (hc : cap ≤ maxLen) {xs : List Value} (hx : cs.toList.take (n * size) = xs) :
    Ows ex w0 w (.row 0 e size (.slice (some ⟨b, 0, none⟩) n cap) n xs :: L) := by
  rcases Nat.eq_zero_or_pos cap with h0 | hp
  · subst h0
    obtain rfl : n = 0 := by omega
    have hd : Ows ex w0 w L := h.drop (List.sublist_cons_self ..)
    obtain rfl : xs = [] := by rw [← hx]; simp
    exact ⟨hd.os, hd.tape, hd.output, hd.size, hd.block, fun A hA => (List.mem_cons.1 hA).elim (fun e' => e' ▸ ⟨by simp, .inl ⟨_, rfl, rfl, by simp⟩⟩) (hd.sat A), by simpa [feet, As.foot, obk_zero] using hd.nodup, fun k hk => hd.fresh k (by simpa [feet, As.foot, obk_zero] using hk)⟩
  have hf : feet (.row 0 e size (.slice (some ⟨b, 0, none⟩) n cap) n xs :: L) = feet (.blk b (.cells cs e fz) :: L) := by simp only [feet, List.flatMap_cons, As.foot, obk_pos hp, Option.toList]
  refine ⟨h.os, h.tape, h.output, h.size, h.block, ?_, hf ▸ h.nodup, fun k hk => h.fresh k (hf ▸ hk)⟩
  intro A hA
  rcases List.mem_cons.1 hA with rfl | hA
  · refine ⟨?_, .inr ⟨b, cap, cs, fz, rfl, h.sat _ (List.mem_cons_self ..), hfz, hn, hc, hp, hs, hx, by simp⟩⟩
    rw [← hx, List.length_take, Array.length_toList, hs]
    exact Nat.min_eq_left (Nat.mul_le_mul_right _ hn)
  · exact h.sat A (List.mem_cons_of_mem _ hA)

/-- A store into a block that is known whole. -/
theorem Ows.store {ex : List Nat} {w0 w : World} {L : List As} {b e : Nat} {cs : Array Value} {fz : Nat × Nat} (h : Ows ex w0 w (.blk b (.cells cs e fz) :: L)) (off : Nat) (v : Value) :
    Ows ex w0 (w.setCell ⟨b, off, none⟩ v) (.blk b (.cells (cs.setIfInBounds off v) e fz) :: L) := by
  have hb := h.sat _ (List.mem_cons_self ..)
  simp only [As.sat] at hb
  have hnd := h.nodup
  simp only [feet, List.flatMap_cons, As.foot, List.singleton_append, List.nodup_cons] at hnd
  refine h.step rfl rfl rfl (by simp [World.setCell]) [b] (fun k _ hk => RowKit.Below.heap_setCell w ⟨b, off, none⟩ v k (by simpa using hk)) ?_ ?_ ?_ ?_
  · intro k hk hlt
    simp only [List.mem_singleton] at hk
    subst hk
    exact (h.fresh k (by simp [feet, As.foot])).resolve_left (by omega)
  · intro A hA
    rcases List.mem_cons.1 hA with rfl | hA'
    · simp only [As.sat, World.setCell, Array.getElem?_modify, if_true, hb, Option.map_some]
      rfl
    · refine As.sat_of (h.sat A (List.mem_cons_of_mem _ hA')) fun k hk => RowKit.Below.heap_setCell w ⟨b, off, none⟩ v k ?_
      intro e
      have e : k = b := e
      subst e
      exact hnd.1 (List.mem_flatMap.2 ⟨A, hA', hk⟩)
  · simp only [feet, List.flatMap_cons, As.foot, List.singleton_append, List.nodup_cons]
    exact hnd
  · intro k hk
    exact h.fresh k (by simpa [feet, As.foot] using hk)

/-- A draw turns nothing. -/
theorem Ows.drew {ex : List Nat} {w0 w : World} {L : List As} (h : Ows ex w0 w L) : Ows ex w0 w.drew L :=
  ⟨h.os, h.tape, h.output, h.size, h.block, fun A hA => As.sat_of (w := w) (h.sat A hA) fun _ _ => rfl, h.nodup, h.fresh⟩

/-- Behind a step that turns one owned row alone, which may have moved to a new block. -/
theorem Ows.turned {zz' : Nat} {ex : List Nat} {w0 w w' : World} {L : List As} {e size n n' : Nat} {v v' : Value} {xs xs' : List Value} (h : Ows ex w0 w (.row zz e size v n xs :: L)) (hg : w.grownBy w' (obk v))
    (hr : ORow zz' w' e size v' n' xs') (hb : obk v' = obk v ∨ ∀ k, obk v' = some k → w.heap.size ≤ k) : Ows ex w0 w' (.row zz' e size v' n' xs' :: L) := by
  have hnd := h.nodup
  simp only [feet, List.flatMap_cons, As.foot] at hnd
  obtain ⟨_, hn2, hdis⟩ := List.nodup_append.1 hnd
  have hfoot : ∀ k ∈ (obk v').toList, w.heap.size ≤ k ∨ k ∈ (obk v).toList := by
    intro k hk
    rcases hb with hb | hb
    · right; rw [← hb]; exact hk
    · exact .inl (hb k (by simpa using hk))
  refine h.step hg.os hg.tape hg.output hg.size (obk v).toList (fun k hk hx => hg.block k hk (by intro e; exact hx (by simp [← e]))) ?_ ?_ ?_ ?_
  · intro k hk hlt
    exact (h.fresh k (by simp only [feet, List.flatMap_cons, As.foot]; exact List.mem_append.2 (.inl hk))).resolve_left (by omega)
  · intro A hA
    rcases List.mem_cons.1 hA with rfl | hA
    · exact hr
    · have hAs := h.sat A (List.mem_cons_of_mem _ hA)
      refine As.sat_of hAs fun k hk => hg.block k (As.sat_lt hAs k hk) ?_
      intro e
      exact hdis k (by simp [← e]) k (List.mem_flatMap.2 ⟨A, hA, hk⟩) rfl
  · simp only [feet, List.flatMap_cons, As.foot]
    refine List.nodup_append.2 ⟨?_, hn2, ?_⟩
    · cases obk v' <;> simp
    · intro a ha b hb e'
      subst e'
      rcases hfoot a ha with hx | hx
      · have := h.lt a (by simp only [feet, List.flatMap_cons]; exact List.mem_append.2 (.inr hb)); omega
      · exact hdis a hx a hb rfl
  · intro k hk
    simp only [feet, List.flatMap_cons, As.foot] at hk
    rcases List.mem_append.1 hk with hk | hk
    · rcases hfoot k hk with hx | hx
      · exact .inl (Nat.le_trans h.size hx)
      · exact h.fresh k (by simp only [feet, List.flatMap_cons, As.foot]; exact List.mem_append.2 (.inl hx))
    · exact h.fresh k (by simp only [feet, List.flatMap_cons]; exact List.mem_append.2 (.inr hk))

/-- A nil slice owns its row, of nothing. -/
theorem Ows.nilRow {ex : List Nat} {w0 w : World} {L : List As} (h : Ows ex w0 w L) (zz : Nat) (e size : Nat) : Ows ex w0 w (.row zz e size (.slice none 0 0) 0 [] :: L) :=
  ⟨h.os, h.tape, h.output, h.size, h.block, fun A hA => (List.mem_cons.1 hA).elim (fun e' => e' ▸ ⟨by simp, .inl ⟨none, rfl, rfl, fun _ => rfl⟩⟩) (h.sat A), by simpa [feet, As.foot, obk] using h.nodup, fun k hk => h.fresh k (by simpa [feet, As.foot, obk] using hk)⟩

/-- An empty slice without room owns its row, of nothing. -/
theorem Ows.noRow {ex : List Nat} {w0 w : World} {L : List As} (h : Ows ex w0 w L) (e size : Nat) (o : Option Addr) : Ows ex w0 w (.row 0 e size (.slice o 0 0) 0 [] :: L) :=
  ⟨h.os, h.tape, h.output, h.size, h.block, fun A hA => (List.mem_cons.1 hA).elim (fun e' => e' ▸ ⟨by simp, .inl ⟨o, rfl, rfl, by simp⟩⟩) (h.sat A), by simpa [feet, As.foot, obk_zero] using h.nodup, fun k hk => h.fresh k (by simpa [feet, As.foot, obk_zero] using hk)⟩

end Go.Ev

/- Entering, leaving, calls, and operations that touch memory: one rule each. -/
namespace Go.Ev

variable {P : Program} {T : Tab}
variable {zz : Nat}

/-! ### entering and leaving -/

def zipK : Nat → List Value → KN
  | _, [] => []
  | i, v :: r => (i, v) :: zipK (i + 1) r

theorem look_zipK : ∀ (l : List Value) (i t : Nat) (v : Value), look (zipK i l) t = some v → i ≤ t ∧ l[t - i]? = some v := by
  intro l
  induction l with
  | nil => intro i t v h; simp [zipK, look] at h
  | cons x l ih =>
    intro i t v h
    by_cases e : i = t
    · subst e
      rw [zipK, look_cons_eq] at h
      exact ⟨Nat.le_refl _, by simpa using h⟩
    · rw [zipK, look_cons_ne e] at h
      obtain ⟨h1, h2⟩ := ih _ _ _ h
      refine ⟨by omega, ?_⟩
      obtain ⟨k, rfl⟩ : ∃ k, t = i + 1 + k := ⟨t - (i + 1), by omega⟩
      have e1 : i + 1 + k - i = k + 1 := by omega
      have e2 : i + 1 + k - (i + 1) = k := by omega
      rw [e1]
      rw [e2] at h2
      simpa using h2

theorem st_enter {f : FuncId} {fn : Func} {N : Nat} {R : Ending → World → Prop} {w : World} (args : List Value) (c : Code) (hf : P.funcs[f]? = some fn) (hb : fn.body = some c) (hn : fn.ntmps = N)
    (hl : Nat.ble args.length N = true) (h : ∀ a, Kn N a (zipK 0 args) → G P (bodyPost P fn R) [.code c] a w) : Calls P f ⟨args⟩ w R := by
  have hl' : args.length ≤ N := by simpa using hl
  refine calls_of_wp hf hb ?_
  have hstart : Kn N { tmps := (⟨args⟩ : Array Value) ++ Array.replicate (fn.ntmps - (⟨args⟩ : Array Value).size) undef, defers := [] } (zipK 0 args) := by
     refine ⟨?_, rfl, ?_⟩
     · simp [hn]; omega
     · intro t v ht
       obtain ⟨_, h2⟩ := look_zipK _ _ _ _ ht
       simp only [Nat.sub_zero] at h2
       have hlt : t < args.length := by
         rcases Nat.lt_or_ge t args.length with h | h
         · exact h
         · rw [List.getElem?_eq_none h] at h2; cases h2
       rw [Array.getElem?_append_left (by simpa using hlt)]
       simpa using h2
  exact h _ hstart

/-- What a result's variable holds. -/
def ResOK (P : Program) (a : Act) (w : World) : ResultVar → Value → Prop
  | .tmp t, v => a.tmps.getD t undef = v
  | .cell p t, v => ∃ ad, a.tmps.getD p undef = .pointer (some ad) ∧ (loadVar t ad).run P w = .ok v w

/-- What a function's results hold. -/
def ResAll (P : Program) (a : Act) (w : World) : List ResultVar → List Value → Prop
  | [], [] => True
  | r :: l, v :: vs => ResOK P a w r v ∧ ResAll P a w l vs
  | _, _ => False

def packV : List Value → Value
  | [v] => v
  | l => .tuple ⟨l⟩

def resStep (a : Act) : ResultVar → Sem Value
  | .tmp t => pure (a.tmps.getD t undef)
  | .cell p t => do loadVar t (← asAddr (a.tmps.getD p undef))

theorem run_resSteps {a : Act} {w : World} : ∀ {l : List ResultVar} {vs : List Value}, ResAll P a w l vs → (l.mapM (resStep a)).run P w = .ok vs w := by
  intro l
  induction l with
  | nil =>
    intro vs hl
    cases vs with
    | nil => simp
    | cons v vs => exact hl.elim
  | cons r l ih =>
    intro vs hl
    cases vs with
    | nil => exact hl.elim
    | cons v vs =>
      obtain ⟨h1, hrest⟩ := hl
      have hr : (resStep a r).run P w = .ok v w := by
        cases r with
        | tmp t => simp only [resStep, Sem.run_pure]; rw [show a.tmps.getD t undef = v from h1]
        | cell p t =>
          obtain ⟨ad, h2, h3⟩ := h1
          have ha : asAddr (a.tmps.getD p undef) = pure ad := by rw [h2]; rfl
          simp only [resStep, ha, Sem.run_bind, Sem.run_pure, Result.andThen_ok, h3]
      simp only [List.mapM_cons, Sem.run_bind, hr, Result.andThen_ok, ih hrest, Sem.run_pure]

theorem run_results {fn : Func} {a : Act} {w : World} {vs : List Value} (h : ResAll P a w fn.results.toList vs) : (results fn a.tmps).run P w = .ok (packV vs) w := by
  have k2 := run_resSteps h
  have hm : (fn.results.mapM (resStep a)).run P w = .ok ⟨vs⟩ w := by
    rw [Array.mapM_eq_mapM_toList]
    change ((fn.results.toList.mapM (resStep a) >>= fun l => pure l.toArray : Sem _)).run P w = _
    rw [Sem.run_bind, k2]
    rfl
  have hfun : results fn a.tmps = (do let vs ← fn.results.mapM (resStep a); pure (if h : vs.size = 1 then vs[0] else .tuple vs)) := by
    unfold results
    congr 2
  rw [hfun, Sem.run_bind, hm]
  simp only [Result.andThen_ok, Sem.run_pure]
  congr 1
  match vs with
  | [] => rfl
  | [v] => rfl
  | x :: y :: l => simp [packV]

theorem post_ret {fn : Func} {N : Nat} {R : Ending → World → Prop} {a : Act} {kn : KN} {w : World} {vs : List Value} (hk : Kn N a kn) (h : ResAll P a w fn.results.toList vs)
    (hR : R (.returned (packV vs)) w) : bodyPost P fn R .ret a w := ⟨hk.defers, _, run_results h, hR⟩

theorem post_end {fn : Func} {N : Nat} {R : Ending → World → Prop} {a : Act} {kn : KN} {w : World} {vs : List Value} (hk : Kn N a kn) (h : ResAll P a w fn.results.toList vs)
    (hR : R (.returned (packV vs)) w) : bodyPost P fn R .normal a w := ⟨hk.defers, _, run_results h, hR⟩

/-- Results that all lie in temporaries. -/
def resK (kn : KN) : List ResultVar → Option (List Value)
  | [] => some []
  | .tmp t :: r => match look kn t, resK kn r with
    | some v, some vs => some (v :: vs)
    | _, _ => none
  | .cell _ _ :: _ => none

theorem resK_sound {N : Nat} {a : Act} {kn : KN} {w : World} (hk : Kn N a kn) : ∀ {l : List ResultVar} {vs : List Value}, resK kn l = some vs → ResAll P a w l vs := by
  intro l
  induction l with
  | nil => intro vs h; simp [resK] at h; subst h; exact trivial
  | cons r l ih =>
    intro vs h
    cases r with
    | cell p t => simp [resK] at h
    | tmp t =>
      simp only [resK] at h
      split at h
      · rename_i v vs' h1 h2
        obtain rfl := Option.some.inj h
        exact ⟨opd_sound hk (x := .tmp t) h1, ih h2⟩
      · simp at h

/-- A function's end, its results in temporaries. -/
theorem st_retK {fn : Func} {N : Nat} {R : Ending → World → Prop} {a : Act} {kn : KN} {w : World} {c : Code} {r : List It} (hk : Kn N a kn) (hc : c = .ret) (vs : List Value) (rs : Array ResultVar) (hrs : fn.results = rs) (h : resK kn rs.toList = some vs)
    (hR : R (.returned (packV vs)) w) : G P (bodyPost P fn R) (.code c :: r) a w :=
  st_ret hc (post_ret hk (hrs ▸ resK_sound hk h) hR)

theorem st_endK {fn : Func} {N : Nat} {R : Ending → World → Prop} {a : Act} {kn : KN} {w : World} (hk : Kn N a kn) (vs : List Value) (rs : Array ResultVar) (hrs : fn.results = rs) (h : resK kn rs.toList = some vs)
    (hR : R (.returned (packV vs)) w) : G P (bodyPost P fn R) [] a w := post_end hk (hrs ▸ resK_sound hk h) hR

/-! ### calls -/

def Enters (P : Program) (f : FuncId) : Prop := ∀ args w, (callFunc f args).run P w = .ok (.enter f args) w

theorem enters_of {f : FuncId} {fn : Func} (hf : P.funcs[f]? = some fn) (hn : (fn.name == "runtime.NumGoroutine") = false) (hb : fn.body.isNone = false) : Enters P f := by
  intro args w
  simp only [callFunc, Sem.run_bind, run_program, Result.andThen_ok, hf, hn, hb, Bool.false_eq_true, if_false, Sem.run_pure]

def callOp (N : Nat) (ops : Array Oper) (kn : KN) (i : Nat) : Option (FuncId × List Value × Option Nat) :=
  match ops[i]? with
  | none => none
  | some o => match gd ops kn o, fits N o.dst, o.op with
    | some true, true, .call { callee := .value x, args := xs, argTypes := _ } => match opd kn x, opds kn xs.toList with
      | some (.func (.func f) first captured), some vs => some (f, first.toList ++ vs ++ captured.toList, o.dst)
      | _, _ => none
    | _, _, _ => none

section
variable {N : Nat} {ops : Array Oper} {Q : Exit → Act → World → Prop} {i : Nat} {rest : List Nat} {a : Act} {kn : KN} {w : World}

theorem wpOps_enter {o : Oper} {f : FuncId} {args : Array Value} {w' : World} (ho : ops[i]? = some o) (hw : Region.wanted o (yielded ops a.tmps) = true)
    (hv : (execOp a.eval o).run P w = .ok (.enter f args) w') {Post : Value → World → Prop} (hc : Calls P f args w' fun e w'' => ∃ v, e = .returned v ∧ Post v w'')
    (next : ∀ v w'', Post v w'' → wpOps P ops Q rest (a.put o.dst v) w'') : wpOps P ops Q (i :: rest) a w := by
  simp only [wpOps, ho, hw, if_true]
  left
  simp only [Oper.wp, hv, Oper.upon_enter]
  refine hc.mono ?_
  rintro e w'' ⟨v, rfl, hp⟩
  exact next v w'' hp

theorem st_call (hk : Kn N a kn) (f : FuncId) (args : List Value) (d : Option Nat) (hF : Enters P f) (h : callOp N ops kn i = some (f, args, d)) {Post : Value → World → Prop}
    (hc : Calls P f ⟨args⟩ w fun e w' => ∃ v, e = .returned v ∧ Post v w') (next : ∀ a' v w', Post v w' → Kn N a' (putK kn d v) → wpOps P ops Q rest a' w') : wpOps P ops Q (i :: rest) a w := by
  unfold callOp at h
  split at h
  · simp at h
  · rename_i o ho
    split at h
    · rename_i x xs ts hg hf hop
      split at h
      · rename_i f' first captured vs hx hxs
        simp only [Option.some.injEq, Prod.mk.injEq] at h
        obtain ⟨rfl, rfl, rfl⟩ := h
        refine wpOps_enter ho (gd_sound hk hg) (f := f') (args := ⟨first.toList ++ vs ++ captured.toList⟩) (w' := w) ?_ hc (fun v w'' hp => next _ v w'' hp (hk.putK hf v))
        have he : first ++ xs.map a.eval ++ captured = ⟨first.toList ++ vs ++ captured.toList⟩ := by
          rw [opds_sound_arr hk hxs]
          apply Array.toList_inj.1
          simp
        simp only [execOp, hop, resolve, opd_sound hk hx, Deferred.ofValue, Sem.run_bind, Sem.run_pure, Result.andThen_ok, invoke, he]
        exact hF _ _
      · simp at h
    · simp at h

/-! ### loads -/

def ldOp (N : Nat) (ops : Array Oper) (kn : KN) (i : Nat) : Option (Nat × Option Addr × Nat) :=
  match ops[i]? with
  | none => none
  | some o => match gd ops kn o, o.dst, o.op with
    | some true, some d, .load t x => match opd kn x, Nat.blt d N with
      | some (.pointer p), true => some (t, p, d)
      | _, _ => none
    | _, _, _ => none

theorem ldOp_sound (hk : Kn N a kn) {t d : Nat} {p : Option Addr} (h : ldOp N ops kn i = some (t, p, d)) :
    ∃ o x, ops[i]? = some o ∧ Region.wanted o (yielded ops a.tmps) = true ∧ o.dst = some d ∧ Nat.blt d N = true ∧ o.op = .load t x ∧ a.eval x = .pointer p := by
  unfold ldOp at h
  split at h
  · simp at h
  · rename_i o ho
    split at h
    · rename_i d' t' x hg hd hop
      split at h
      · rename_i p' hx hb
        simp only [Option.some.injEq, Prod.mk.injEq] at h
        obtain ⟨rfl, rfl, rfl⟩ := h
        exact ⟨o, x, ho, gd_sound hk hg, hd, hb, hop, opd_sound hk hx⟩
      · simp at h
    · simp at h

def scalarT : Option TD → Bool
  | some (.struct _) => false
  | some (.arr _ _ _ _) => false
  | some _ => true
  | none => false

theorem run_isAgg_scalar (hT : TabOK P T) {t : Nat} (h : scalarT (tlook T.ty t) = true) : (isAgg t).run P w = .ok false w := by
  cases ht : tlook T.ty t with
  | none => rw [ht] at h; simp [scalarT] at h
  | some d =>
    rw [ht] at h
    have hd := hT.ty t d ht
    cases d <;> simp only [TD.ok, scalarT, Bool.false_eq_true] at hd h
    all_goals first
      | (simp [isAgg, run_underlying hd]; done)
      | (simp [isAgg, run_underlying hd.1]; done)
      | (obtain ⟨_, hd⟩ := hd; simp [isAgg, run_underlying hd]; done)
      | (obtain ⟨_, _, _, hd⟩ := hd; simp [isAgg, run_underlying hd]; done)

def aggT : Option TD → Bool
  | some (.struct _) => true
  | some (.arr _ _ _ _) => true
  | _ => false

theorem run_isAgg_agg (hT : TabOK P T) {t : Nat} (h : aggT (tlook T.ty t) = true) : (isAgg t).run P w = .ok true w := by
  cases ht : tlook T.ty t with
  | none => rw [ht] at h; simp [aggT] at h
  | some d =>
    rw [ht] at h
    have hd := hT.ty t d ht
    cases d <;> simp only [TD.ok, aggT, Bool.false_eq_true] at hd h
    all_goals first
      | (simp [isAgg, run_underlying hd.1]; done)
      | (obtain ⟨_, _, hd, _⟩ := hd; simp [isAgg, run_underlying hd]; done)

/-- A variable of one cell, read. -/
theorem st_load1 (hT : TabOK P T) (hk : Kn N a kn) (t : Nat) (p : Option Addr) (d : Nat) (h : ldOp N ops kn i = some (t, p, d)) (hs : scalarT (tlook T.ty t) = true) (v : Value)
    (hv : ∃ ad, p = some ad ∧ w.cell? ad = some v) (next : ∀ a', Kn N a' ((d, v) :: kn) → wpOps P ops Q rest a' w) : wpOps P ops Q (i :: rest) a w := by
  obtain ⟨o, x, ho, hw, hd, hb, hop, hx⟩ := ldOp_sound hk h
  obtain ⟨ad, rfl, hc⟩ := hv
  refine wpOps_value (v := v) (w' := w) ho hw ?_ (by rw [hd]; exact next _ (hk.put' hb v))
  have hl : (loadVar t ad).run P w = .ok v w := by simp [loadVar, run_isAgg_scalar hT hs, hc]
  simp only [execOp, hop, hx, Instr.loadAt, Instr.sureAddr, Sem.run_bind, Sem.run_pure, Result.andThen_ok, hl]

theorem run_loadAgg (hT : TabOK P T) {t : Nat} {z : Value} (hg : aggT (tlook T.ty t) = true) (hz : look T.zero t = some z) {ad : Addr} {cs : List Value} (hl : cs.length = z.cells.size)
    (hc : ∀ j u, cs[j]? = some u → w.cell? (ad.add j) = some u) : (loadVar t ad).run P w = .ok (.agg ⟨cs⟩) w := by
  obtain ⟨inf, hi, _, hsz, _⟩ := hT.zero t z hz
  have h1 := run_loadCells_list (P := P) w ad cs hc
  rw [hl, ← hsz] at h1
  simp [loadVar, run_isAgg_agg hT hg, sizeOf, typeInfo, hi, h1]

/-- A variable of several cells, read whole. -/
theorem st_loadA (hT : TabOK P T) (hk : Kn N a kn) (t : Nat) (p : Option Addr) (d : Nat) (h : ldOp N ops kn i = some (t, p, d)) (hg : aggT (tlook T.ty t) = true) (z : Value) (hz : look T.zero t = some z) (cs : List Value)
    (hl : cs.length = z.cells.size) (hv : ∃ ad, p = some ad ∧ ∀ j u, cs[j]? = some u → w.cell? (ad.add j) = some u) (next : ∀ a', Kn N a' ((d, .agg ⟨cs⟩) :: kn) → wpOps P ops Q rest a' w) : wpOps P ops Q (i :: rest) a w := by
  obtain ⟨o, x, ho, hw, hd, hb, hop, hx⟩ := ldOp_sound hk h
  obtain ⟨ad, rfl, hc⟩ := hv
  refine wpOps_value (v := .agg ⟨cs⟩) (w' := w) ho hw ?_ (by rw [hd]; exact next _ (hk.put' hb _))
  simp only [execOp, hop, hx, Instr.loadAt, Instr.sureAddr, Sem.run_bind, Sem.run_pure, Result.andThen_ok, run_loadAgg hT hg hz hl hc]

end

end Go.Ev

/- Operations that touch memory, over what is owned: reading, storing, making. -/
namespace Go.Ev

variable {P : Program} {T : Tab}
variable {zz : Nat}

/-! ### reading -/

theorem addr_add_add (a : Addr) (i j : Nat) : (a.add i).add j = a.add (i + j) := by
  unfold Addr.add
  by_cases hi : i = 0
  · simp [hi]
  · by_cases hj : j = 0
    · simp [hj]
    · simp [hi, hj, Nat.add_assoc]

theorem addr_lit (b o n : Nat) : (⟨b, o, none⟩ : Addr).add n = ⟨b, o + n, none⟩ := by
  unfold Addr.add
  split
  · simp_all
  · rfl

/-- The cells that lie from an address on. -/
def Rd (w : World) (o : Option Addr) (xs : List Value) : Prop := ∀ j u, xs[j]? = some u → ∃ ad, o = some ad ∧ w.cell? (ad.add j) = some u

theorem Rd.isSome {w : World} {o : Option Addr} {xs : List Value} (h : Rd w o xs) {j : Nat} (hj : j < xs.length) : o.isSome = true := by
  obtain ⟨ad, h1, _⟩ := h j xs[j] (by simp [hj])
  simp [h1]

theorem Rd.at {w : World} {o : Option Addr} {xs : List Value} (h : Rd w o xs) (j : Nat) (u : Value) (hj : xs[j]? = some u) : ∃ ad, o.map (·.add j) = some ad ∧ w.cell? ad = some u := by
  obtain ⟨ad, rfl, h2⟩ := h j u hj
  exact ⟨_, rfl, h2⟩

theorem Rd.at2 {w : World} {o : Option Addr} {xs : List Value} (h : Rd w o xs) (i j : Nat) (u : Value) (hj : xs[i + j]? = some u) : ∃ ad, (o.map (·.add i)).map (·.add j) = some ad ∧ w.cell? ad = some u := by
  obtain ⟨ad, rfl, h2⟩ := h _ u hj
  exact ⟨_, rfl, by show w.cell? ((ad.add i).add j) = _; rw [addr_add_add]; exact h2⟩

/-- The cells of an aggregate within. -/
theorem Rd.sub {w : World} {o : Option Addr} {xs : List Value} (h : Rd w o xs) (i : Nat) (cs : List Value) (hcs : (xs.drop i).take cs.length = cs) (hi : i < xs.length) : ∃ ad, o.map (·.add i) = some ad ∧ ∀ j u, cs[j]? = some u → w.cell? (ad.add j) = some u := by
  obtain ⟨ad, h1, _⟩ := h i xs[i] (by simp [hi])
  subst h1
  refine ⟨_, rfl, fun j u hu => ?_⟩
  obtain ⟨ad', h2, h3⟩ := h (i + j) u (by
    rw [← hcs, List.getElem?_take] at hu
    split at hu
    · simpa using hu
    · cases hu)
  obtain rfl := Option.some.inj h2
  rw [addr_add_add]
  exact h3

theorem cell_blk {w : World} {b e off : Nat} {cs : Array Value} {fz : Nat × Nat} {v : Value} (h : w.heap[b]? = some (.cells cs e fz)) (hv : cs.toList[off]? = some v) : w.cell? ⟨b, off, none⟩ = some v := by
  simp only [World.cell?, h]
  simpa using hv

theorem Ows.get {ex : List Nat} {w0 w : World} {L : List As} (h : Ows ex w0 w L) {j : Nat} {A : As} (hj : L[j]? = some A) : A.sat w := h.sat A (List.mem_of_getElem? hj)

theorem Ows.cell {ex : List Nat} {w0 w : World} {L : List As} (h : Ows ex w0 w L) (j : Nat) {b e off : Nat} {cs : Array Value} {fz : Nat × Nat} (hj : L[j]? = some (.blk b (.cells cs e fz))) {v : Value} (hv : cs.toList[off]? = some v) :
    ∃ ad, some (⟨b, off, none⟩ : Addr) = some ad ∧ w.cell? ad = some v := ⟨_, rfl, cell_blk (h.get hj) hv⟩

theorem Ows.cellsA {ex : List Nat} {w0 w : World} {L : List As} (h : Ows ex w0 w L) (j : Nat) {b e off : Nat} {cs : Array Value} {fz : Nat × Nat} (hj : L[j]? = some (.blk b (.cells cs e fz))) {vs : List Value} (hv : (cs.toList.drop off).take vs.length = vs) :
    ∃ ad, some (⟨b, off, none⟩ : Addr) = some ad ∧ ∀ j u, vs[j]? = some u → w.cell? (ad.add j) = some u := by
  refine ⟨_, rfl, fun j u hu => ?_⟩
  rw [addr_lit]
  refine cell_blk (h.get hj) ?_
  rw [← hv, List.getElem?_take] at hu
  split at hu
  · simpa using hu
  · cases hu

theorem ORow.rd {w : World} {e size n : Nat} {v : Value} {xs : List Value} {o : Option Addr} {n' c : Nat} (h : ORow zz w e size v n xs) (hv : v = .slice o n' c) : Rd w o xs := by
  intro j u hu
  have hj : j < xs.length := by
    rcases Nat.lt_or_ge j xs.length with h | h
    · exact h
    · rw [List.getElem?_eq_none h] at hu; cases hu
  rcases h.2 with ⟨_, _, h0, _⟩ | ⟨g, cap, cur, fz, h1, hh, _, _, _, _, _, ht, _⟩
  · rw [h.1, h0] at hj; omega
  · rw [hv] at h1
    simp only [Value.slice.injEq] at h1
    obtain ⟨rfl, _, _⟩ := h1
    refine ⟨_, rfl, ?_⟩
    rw [addr_lit]
    refine cell_blk hh ?_
    rw [← ht, List.getElem?_take] at hu
    split at hu
    · simpa using hu
    · cases hu

theorem Ows.rd {ex : List Nat} {w0 w : World} {L : List As} (h : Ows ex w0 w L) (j : Nat) {e size n n' c : Nat} {o : Option Addr} {xs : List Value} (hj : L[j]? = some (.row zz e size (.slice o n c) n' xs)) : Rd w o xs :=
  ORow.rd (h.get hj) rfl

/-- What was there when the call began, and is not the call's to turn, reads as it did. -/
theorem Rd.old {ex : List Nat} {w0 w : World} {L : List As} {o : Option Addr} {xs : List Value} (hr : Rd w0 o xs) (h : Ows ex w0 w L) (hex : ∀ ad, o = some ad → ad.block ∉ ex) : Rd w o xs := by
  intro j u hu
  obtain ⟨ad, h1, h2⟩ := hr j u hu
  refine ⟨ad, h1, ?_⟩
  have hb : (ad.add j).block = ad.block := by unfold Addr.add; split <;> rfl
  have hlt := World.block_lt_of_cell? w0 _ h2
  rw [hb] at hlt
  rw [← h2]
  exact World.cell?_of_block (by rw [hb]; exact h.block _ hlt (hex ad h1))

theorem Rd.keep {w w' : World} {L' : List As} {o : Option Addr} {xs : List Value} (hr : Rd w o xs) (h : Ows [] w w' L') : Rd w' o xs := hr.old h (fun _ _ => by simp)

/-! ### the list of what is owned -/

theorem perm_front : ∀ {L : List As} {j : Nat} {A : As}, L[j]? = some A → L.Perm (A :: L.eraseIdx j)
  | [], j, A, h => by simp at h
  | x :: L, 0, A, h => by
    simp only [List.getElem?_cons_zero, Option.some.injEq] at h
    subst h
    exact List.Perm.refl _
  | x :: L, j + 1, A, h => by
    simp only [List.getElem?_cons_succ] at h
    simp only [List.eraseIdx_cons_succ]
    exact ((perm_front h).cons x).trans (List.Perm.swap A x _)

theorem perm_set : ∀ {L : List As} {j : Nat} {A B : As}, L[j]? = some B → (L.set j A).Perm (A :: L.eraseIdx j)
  | [], j, A, B, h => by simp at h
  | x :: L, 0, A, B, h => List.Perm.refl _
  | x :: L, j + 1, A, B, h => by
    simp only [List.getElem?_cons_succ] at h
    simp only [List.eraseIdx_cons_succ, List.set_cons_succ]
    exact ((perm_set h).cons x).trans (List.Perm.swap A x _)

theorem Ows.back {ex : List Nat} {w0 w : World} {L : List As} {j : Nat} {A B : As} (hj : L[j]? = some B) (h : Ows ex w0 w (A :: L.eraseIdx j)) : Ows ex w0 w (L.set j A) := h.perm (perm_set hj).symm

theorem Ows.front {ex : List Nat} {w0 w : World} {L : List As} (h : Ows ex w0 w L) (j : Nat) (A : As) (L' : List As) (hj : L[j]? = some A) (hL : L.eraseIdx j = L') : Ows ex w0 w (A :: L') := by
  subst hL
  exact h.perm (perm_front hj)

section
variable {N : Nat} {ops : Array Oper} {Q : Exit → Act → World → Prop} {i : Nat} {rest : List Nat} {a : Act} {kn : KN} {w w0 : World} {ex : List Nat} {L : List As}

/-! ### stores -/

def stOp (ops : Array Oper) (kn : KN) (i : Nat) : Option (Nat × Option Addr × Value) :=
  match ops[i]? with
  | none => none
  | some o => match gd ops kn o, o.dst, o.op with
    | some true, none, .store t x y => match opd kn x, opd kn y with
      | some (.pointer p), some v => some (t, p, v)
      | _, _ => none
    | _, _, _ => none

theorem wpOps_skipped {o : Oper} {w' : World} (ho : ops[i]? = some o) (hw : Region.wanted o (yielded ops a.tmps) = true) (hd : o.dst = none)
    (hv : (execOp a.eval o).run P w = .ok .skip w') (h : wpOps P ops Q rest a w') : wpOps P ops Q (i :: rest) a w := by
  simp only [wpOps, ho, hw, if_true]
  left
  simp only [Oper.wp, hv, Oper.upon_skip, hd, Act.put]
  exact h

theorem stOp_sound (hk : Kn N a kn) {t : Nat} {p : Option Addr} {v : Value} (h : stOp ops kn i = some (t, p, v)) :
    ∃ o x y, ops[i]? = some o ∧ Region.wanted o (yielded ops a.tmps) = true ∧ o.dst = none ∧ o.op = .store t x y ∧ a.eval x = .pointer p ∧ a.eval y = v := by
  unfold stOp at h
  split at h
  · simp at h
  · rename_i o ho
    split at h
    · rename_i t' x y hg hd hop
      split at h
      · rename_i p' v' hx hy
        simp only [Option.some.injEq, Prod.mk.injEq] at h
        obtain ⟨rfl, rfl, rfl⟩ := h
        exact ⟨o, x, y, ho, gd_sound hk hg, hd, hop, opd_sound hk hx, opd_sound hk hy⟩
      · simp at h
    · simp at h

/-- A place that may be written. -/
def freeAt (fz : Nat × Nat) (off : Nat) : Bool := !(Nat.ble fz.1 off && Nat.blt off fz.2)

theorem run_store_blk {b e off : Nat} {cs : Array Value} {fz : Nat × Nat} {v : Value} (h : w.heap[b]? = some (.cells cs e fz)) (hoff : off < cs.size) (hf : freeAt fz off = true) (h1 : v.oneCell' = true) :
    (store ⟨b, off, none⟩ v).run P w = .ok () (w.setCell ⟨b, off, none⟩ v) := by
  have hc : w.cell? ⟨b, off, none⟩ = some cs[off] := cell_blk h (by simp [hoff])
  have hfr : w.frozen? ⟨b, off, none⟩ = false := by
    obtain ⟨lo, hi⟩ := fz
    simp only [freeAt, Bool.not_eq_true', Bool.and_eq_false_iff] at hf
    simp only [World.frozen?, h, Bool.and_eq_false_iff, decide_eq_false_iff_not]
    rcases hf with hf | hf
    · left; intro hh; rw [Nat.ble_eq_true_of_le hh] at hf; cases hf
    · right; intro hh; rw [Nat.blt, Nat.ble_eq_true_of_le hh] at hf; cases hf
  rw [run_store P w _ v _ h1, hc]
  simp [hfr]

def scalar1 (z : TypeInfo) : Prop := z.size = 1

/-- A variable of one cell, written: in a block that is known whole. -/
theorem st_store1 (hk : Kn N a kn) (ho : Ows ex w0 w L) (j : Nat) (t b off : Nat) (v : Value) (cs : Array Value) (e : Nat) (fz : Nat × Nat) (L' : List As) (h : stOp ops kn i = some (t, some ⟨b, off, none⟩, v))
    (hsz : P.cellsOf t = 1) (hinf : (P.info? t).isSome = true) (hj : L[j]? = some (.blk b (.cells cs e fz))) (hoff : off < cs.size) (hf : freeAt fz off = true) (h1 : v.oneCell' = true) (hL : L.set j (.blk b (.cells (cs.setIfInBounds off v) e fz)) = L')
    (next : ∀ w', Ows ex w0 w' L' → wpOps P ops Q rest a w') : wpOps P ops Q (i :: rest) a w := by
  obtain ⟨o, x, y, hop, hw, hd, hst, hx, hy⟩ := stOp_sound hk h
  obtain ⟨inf, hi⟩ := Option.isSome_iff_exists.1 hinf
  have hs1 : inf.size = 1 := by simpa [Program.cellsOf, hi] using hsz
  have hcells : v.cells = #[v] := by cases v <;> simp_all [Value.cells, Value.oneCell']
  have hst1 := run_store_blk (P := P) (ho.get hj) hoff hf h1
  refine wpOps_skipped (w' := w.setCell ⟨b, off, none⟩ v) hop hw hd ?_ (next _ ?_)
  · simp only [execOp, hst, hx, hy, Instr.storeAt, Instr.sureAddr, Sem.run_bind, Sem.run_pure, Result.andThen_ok, storeVar, sizeOf, typeInfo, run_program, hi, hs1, hcells, storeCells, Addr_add_zero]
    rw [show (#[v] : Array Value).size = 1 from rfl]
    simp only [ne_eq, not_true_eq_false, if_false, Sem.run_bind, hst1, Result.andThen_ok, Sem.run_pure]
  · subst hL
    exact ((ho.front j _ _ hj rfl).store off v).back hj

end

end Go.Ev

