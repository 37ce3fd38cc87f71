/- One operation at a time, over assertions: the rules as one inductive relation, and that they are sound. No condition. -/
import Derived.Test.YtdelnmihgckeeaaSl4
namespace Go.Sl
set_option linter.unusedSimpArgs false
set_option linter.unusedVariables false

/-- a function that has a body -/
class FnI (P : Program) (f : Nat) : Prop where
  fn : ∃ fn, P.funcs[f]? = some fn ∧ fn.body ≠ none ∧ fn.name ≠ "runtime.NumGoroutine"
/-- a function without a body that the model runs in place -/
class ExtI (P : Program) (f : Nat) (e : outParam (Array Value → Sem Value)) : Prop where
  fn : ∃ fn, P.funcs[f]? = some fn ∧ fn.body = none ∧ fn.name ≠ "runtime.NumGoroutine" ∧ Extern.findNext fn = none ∧ Extern.find fn = some e
/-- a struct's fields, their places and sizes -/
class StrI (P : Program) (t : Nat) (pl : outParam (List (Nat × Nat))) (z : outParam (List Value)) : Prop where
  str : ∃ fs, P.underlying t = some (.struct fs) ∧ (∀ w, (fs.mapM (m := Sem) fun f => do pure (f.offset, ← sizeOf f.type)).run P w = .ok pl.toArray w) ∧
    ∃ i, P.info? t = some i ∧ i.zero = some (.agg ⟨z⟩)
/-- an array's length and its element -/
class ArrI (P : Program) (t : Nat) (len e s : outParam Nat) : Prop where
  arr : P.underlying t = some (.array len e)
  size : ((P.info? e).map (·.size)) = some s

/-- a string's next letter -/
def strNext (s : ByteArray) (pos : Nat) : Value × Nat :=
  if pos < s.size then (.tuple #[.bool true, .int .i64 pos, .int .i32 (Utf8.decode s pos).1], pos + (Utf8.decode s pos).2) else (.tuple #[.bool false], pos)
inductive EvL (τ : Env) : List Operand → List Value → Prop
  | nil : EvL τ [] []
  | cons {x xs v vs} : ev τ x = some v → EvL τ xs vs → EvL τ (x :: xs) (v :: vs)
inductive EvP (τ : Env) : List (Nat × Operand) → List (Nat × Value) → Prop
  | nil : EvP τ [] []
  | cons {i x xs v vs} : ev τ x = some v → EvP τ xs vs → EvP τ ((i, x) :: xs) ((i, v) :: vs)
inductive PickV : Value → Value → Value → Value → Prop
  | tt {a b} : PickV (.bool true) a b a
  | ff {a b} : PickV (.bool false) a b b
  | sym {c x y} : PickV (.bool c) (.bool x) (.bool y) (.bool (bif c then x else y))
inductive FillR (place : Nat → Option (Nat × Nat)) : List Value → List (Nat × Value) → List Value → Prop
  | nil {z} : FillR place z [] z
  | cons {i v vs off sz z z' rest l} : place i = some (off, sz) → CellsV v vs → vs.length = sz → PutL off vs z z' → FillR place z' rest l → FillR place z ((i, v) :: rest) l

/-- a call of a function with a body -/
def CallS (P : Program) (g : FuncId) (args : List Value) (H : List HProp) (k : Value → List HProp → Prop) : Prop :=
  ∀ w, Sat w (sl H) → Calls P g args.toArray w fun e w' => ∃ v H', e = .returned v ∧ Sat w' (sl H') ∧ k v H'
inductive Take : List HProp → HProp → List HProp → Prop
  | head {c H} : Take (c :: H) c H
  | tail {c d H H'} : Take H c H' → Take (d :: H) c (d :: H')
theorem Take.perm {H R : List HProp} {c : HProp} (h : Take H c R) : H.Perm (c :: R) := by
  induction h with
  | head => exact .refl _
  | tail _ ih => exact (ih.cons _).trans (.swap _ _ _)
inductive TakeAll : List HProp → List HProp → List HProp → Prop
  | nil {H} : TakeAll H [] H
  | cons {H H' R c cs} : Take H c H' → TakeAll H' cs R → TakeAll H (c :: cs) R
theorem TakeAll.perm {H R cs : List HProp} (h : TakeAll H cs R) : H.Perm (cs ++ R) := by
  induction h with
  | nil => exact .refl _
  | cons h1 _ ih => exact h1.perm.trans (ih.cons _)
theorem CallS.of {P : Program} {g : FuncId} {args : List Value} {H pre R : List HProp} {post : Value → List HProp → Prop} {k : Value → List HProp → Prop}
    (h : Spec P g args pre post) (ht : TakeAll H pre R) (hk : ∀ v H', post v H' → k v (H' ++ R)) : CallS P g args H k := fun w hs =>
  (h w R (hs.perm ht.perm)).mono fun _ _ ⟨v, H', a, b, c⟩ => ⟨v, H' ++ R, a, c, hk v H' b⟩

inductive CalleeP (P : Program) (g : Nat) (args : List Value) (H : List HProp) (k : Value → List HProp → Prop) : Prop
  | body [FnI P g] : CallS P g args H k → CalleeP P g args H k
  | ext {e v} [ExtI P g e] : (∀ w, (e args.toArray).run P w = .ok v w) → k v H → CalleeP P g args H k

/-- a slice of the program's own: nil, or rows in a block with room behind them -/
def sls (T s : Nat) (a : Option Addr) (c : Nat) (l : List (List Value)) : HProp := fun h =>
  (a = none ∧ c = 0 ∧ l = [] ∧ emp h) ∨ (∃ b p pre post, a = some ⟨b, p, none⟩ ∧ l.length ≤ c ∧ post.length = (c - l.length) * s ∧ (∀ r ∈ l, r.all (·.oneCell') = true) ∧ arr b T p l.length s pre l post h)
inductive RowsL (s : Nat) : Nat → List Value → List (List Value) → Prop
  | nil : RowsL s 0 [] []
  | one {C} : C.length = s → C.all (·.oneCell') = true → RowsL s 1 C [C]
/-- what is appended -/
inductive SrcR (s : Nat) : List HProp → Option Addr → Nat → List (List Value) → Prop
  | blk {b C T m rows H} : RowsL s m C rows → SrcR s (blk b C T :: H) (some ⟨b, 0, none⟩) m rows
  | sls {T a c rows H} : SrcR s (sls T s a c rows :: H) a rows.length rows
  | nil {H} : SrcR s H none 0 []
  | there {c H a m rows} : SrcR s H a m rows → SrcR s (c :: H) a m rows
inductive IterR : List HProp → Nat → Value → List HProp → Prop
  | here {b s pos v pos' H} : strNext s pos = (v, pos') → IterR (pt b (.stringIter s pos) :: H) b v (pt b (.stringIter s pos') :: H)
  | there {c H b v H'} : IterR H b v H' → IterR (c :: H) b v (c :: H')

/-- a slice's two bounds: of a string, a slice, an array -/
inductive BoundV (τ : Env) : Option Operand → Int → Int → Prop
  | nob {d} : BoundV τ none d d
  | bnd {x k i d} : ev τ x = some (.int k i) → BoundV τ (some x) d i

def repL (len : Nat) (zs : List Value) : List Value :=
  match len with
  | 0 => []
  | n + 1 => zs ++ repL n zs
/-- bytes in a block, as a string's -/
inductive ByteL : List Value → List UInt8 → Prop
  | nil : ByteL [] []
  | cons {k : Int} {l bs} : ByteL l bs → ByteL (.int .u8 k :: l) (UInt8.ofNat k.toNat :: bs)
inductive BytesR : List HProp → Nat → Nat → Nat → List UInt8 → Prop
  | rep {b T m H} : BytesR (blk b (List.replicate m (.int .u8 0)) T :: H) b 0 m (List.replicate m 0)
  | blk {b C T o m cs l H} : SubL o m C cs → ByteL cs l → BytesR (blk b C T :: H) b o m l
  | there {c H b o m l} : BytesR H b o m l → BytesR (c :: H) b o m l
inductive ConvV (P : Program) : IntKind → Value → Value → Prop
  | int {k j i} : ConvV P k (.int j i) (.int k (k.wrap i))
  | flt {k j b v} : (∀ w, (Conv.floatToInt j b k).run P w = .ok v w) → ConvV P k (.float j b) v
inductive LenV (P : Program) : TypeId → Value → Value → Prop
  | str {ts l} [TyD P ts .string] : LenV P ts (str l) (.int .i64 (l.length : Int))
  | sli {ts e a} {m c : Nat} [TyD P ts (.slice e)] : LenV P ts (.slice a m c) (.int .i64 (m : Int))
/-- the address of an element -/
inductive IdxV (P : Program) : TypeId → Value → Int → Value → Prop
  | arr {t len e s b o i} [ArrI P t len e s] : 0 ≤ i → i < (len : Int) → IdxV P t (.pointer (some ⟨b, o, none⟩)) i (.pointer (some ⟨b, o + i.toNat * s, none⟩))
  | sli {t e a s yy z b o} {m c : Nat} {i} [TyD P t (.slice e)] [TyI P e ⟨a, s, yy, z⟩] : 0 ≤ i → i < (m : Int) → IdxV P t (.slice (some ⟨b, o, none⟩) m c) i (.pointer (some ⟨b, o + i.toNat * s, none⟩))
/-- an element of a string, of an array's value -/
inductive AtV (P : Program) : TypeId → Value → Int → Value → Prop
  | str {t l i c} [TyD P t .string] : 0 ≤ i → l[i.toNat]? = some c → AtV P t (str l) i (.int .u8 (c.toNat : Int))
  | arr {t len e s i l r} [ArrI P t len e s] : 0 ≤ i → i < (len : Int) → (∀ w, (part e ⟨l⟩ (i.toNat * s)).run P w = .ok r w) → AtV P t (.agg ⟨l⟩) i r
inductive SliceV (P : Program) (τ : Env) : TypeId → Value → Option Operand → Option Operand → Value → Prop
  | str {t lo hi l i j} [TyD P t .string] : BoundV τ hi (l.length : Int) j → BoundV τ lo 0 i → 0 ≤ i → i ≤ j → j ≤ (l.length : Int) → SliceV P τ t (str l) lo hi (str ((l.take j.toNat).drop i.toNat))
  | arr {t hi len e s b o j} [ArrI P t len e s] : BoundV τ hi (len : Int) j → 0 ≤ j → j ≤ (len : Int) → SliceV P τ t (.pointer (some ⟨b, o, none⟩)) none hi (.slice (some ⟨b, o, none⟩) j.toNat len)
/-- an operation that looks at no memory and makes none: its value -/
inductive PurP (P : Program) : Op → Env → Value → Prop
  | move {x v τ} : ev τ x = some v → PurP P (.move x) τ v
  | assign {x v τ} : ev τ x = some v → PurP P (.assign x) τ v
  | binOp {op t x y t' vx vy v τ} : ev τ x = some vx → ev τ y = some vy → BinP P op t vx vy v → PurP P (.binOp op t x y t') τ v
  | fieldAddr0 {t x f e b o τ} [FldI P t f 0 e] : ev τ x = some (.pointer (some ⟨b, o, none⟩)) → PurP P (.fieldAddr t x f) τ (.pointer (some ⟨b, o, none⟩))
  | fieldAddr {t x f off e b o τ} [FldI P t f off e] : ev τ x = some (.pointer (some ⟨b, o, none⟩)) → PurP P (.fieldAddr t x f) τ (.pointer (some ⟨b, o + off, none⟩))
  | pick {c x y vc vx vy v τ} : ev τ c = some vc → ev τ x = some vx → ev τ y = some vy → PickV vc vx vy v → PurP P (.pick c x y) τ v
  | extract {x i vs v τ} : ev τ x = some (.tuple ⟨vs⟩) → vs[i]? = some v → PurP P (.extract x i) τ v
  | buildA {t len e s a y z n b q ps vs zs l τ} [ArrI P t len e s] [TyI P t ⟨a, n, b, q⟩] [TyI P e ⟨y, s, z, zs⟩] : ∀ {ql}, CellsV q ql → EvP τ ps vs → FillR (fun i => some (i * s, s)) ql vs l → PurP P (.build t ⟨ps⟩) τ (.agg ⟨l⟩)
  | build {t pl z ps vs l τ} [StrI P t pl z] : EvP τ ps vs → FillR (fun i => pl[i]?) z vs l → PurP P (.build t ⟨ps⟩) τ (.agg ⟨l⟩)
  | conv {s t k x vx v r τ} [TyD P t (.int k)] [TyI P s r] : ev τ x = some vx → ConvV P k vx v → PurP P (.convert s t x) τ v
  | real {x k a b ts τ} : ev τ x = some (.complex k a b) → PurP P (.call ⟨.builtin .real, ⟨[x]⟩, ts⟩) τ (.float k a)
  | imag {x k a b ts τ} : ev τ x = some (.complex k a b) → PurP P (.call ⟨.builtin .imag, ⟨[x]⟩, ts⟩) τ (.float k b)
  | unOp {t x b τ} : ev τ x = some (.bool b) → PurP P (.unOp .not t x) τ (.bool (!b))
  | len {x vx v ts τ} : ev τ x = some vx → LenV P ts vx v → PurP P (.call ⟨.builtin .len, ⟨[x]⟩, ⟨[ts]⟩⟩) τ v
  | max2 {x y k i j ts τ} : ev τ x = some (.int k i) → ev τ y = some (.int k j) → PurP P (.call ⟨.builtin .max, ⟨[x, y]⟩, ts⟩) τ (.int k (if j > i then j else i))
  | min2 {x y k i j ts τ} : ev τ x = some (.int k i) → ev τ y = some (.int k j) → PurP P (.call ⟨.builtin .min, ⟨[x, y]⟩, ts⟩) τ (.int k (if j < i then j else i))
  | indexAddr {t x y vx k i v τ} : ev τ x = some vx → ev τ y = some (.int k i) → IdxV P t vx i v → PurP P (.indexAddr t x y) τ v
  | index {t x y vx k i v τ} : ev τ x = some vx → ev τ y = some (.int k i) → AtV P t vx i v → PurP P (.index t x y) τ v
  | field1 {t x f off e s y z l v τ} [FldI P t f off e] [TyI P e ⟨false, s, y, z⟩] : ev τ x = some (.agg ⟨l⟩) → SubL off 1 l [v] → PurP P (.field t x f) τ v
  | fieldA {t x f off e s y z l r τ} [FldI P t f off e] [TyI P e ⟨true, s, y, z⟩] : ev τ x = some (.agg ⟨l⟩) → SubL off s l r → PurP P (.field t x f) τ (.agg ⟨r⟩)
  | slice {t x lo hi vx v τ} : ev τ x = some vx → SliceV P τ t vx lo hi v → PurP P (.slice t x lo hi none) τ v
  | nilCheck {x a τ} : ev τ x = some (.pointer (some a)) → PurP P (.nilCheck x) τ (.pointer (some a))
  | makeFunc {f xs ys vs us τ} : EvL τ xs vs → EvL τ ys us → PurP P (.makeFunc f ⟨xs⟩ ⟨ys⟩) τ (.func f ⟨vs⟩ ⟨us⟩)

inductive OpP (P : Program) (n : Nat) : Option Tmp → Op → Env → List HProp → Cont → Prop
  | load {d t x p v τ H next} : ev τ x = some p → LoadR P H t p v → Nat.blt d n = true → next ((d, v) :: τ) H → OpP P n (some d) (.load t x) τ H next
  | store {t x y p v τ H H' next} : ev τ x = some p → ev τ y = some v → StoreR P H t p v H' → next τ H' → OpP P n none (.store t x y) τ H next
  | call {dst f xs ts g first cap vs τ H next} : ev τ f = some (.func (.func g) ⟨first⟩ ⟨cap⟩) → EvL τ xs vs → okD dst n = true →
      CalleeP P g (first ++ vs ++ cap) H (fun v H' => next (putE dst v τ) H') → OpP P n dst (.call ⟨.value f, ⟨xs⟩, ts⟩) τ H next
  | box {d T x v l τ H next} : ev τ x = some v → CellsV v l → Nat.blt d n = true → (∀ b, next ((d, .pointer (some ⟨b, 0, none⟩)) :: τ) (blk b l T :: H)) → OpP P n (some d) (.box T x) τ H next
  | alloc {d T a s y z l τ H next} [TyI P T ⟨a, s, y, z⟩] : CellsV z l → Nat.blt d n = true → (∀ b, next ((d, .pointer (some ⟨b, 0, none⟩)) :: τ) (blk b l T :: H)) → OpP P n (some d) (.alloc T) τ H next
  | buildSlice {d t e len ps vs a s y z zs l τ H next} [TyD P t (.slice e)] [TyI P e ⟨a, s, y, z⟩] : EvP τ ps vs → CellsV z zs → zs.length = s → Nat.ble (len * s) 1000 = true → FillR (fun i => some (i * s, s)) (repL len zs) vs l → Nat.blt d n = true →
      (∀ b, next ((d, .slice (some ⟨b, 0, none⟩) len len) :: τ) (blk b l e :: H)) → OpP P n (some d) (.buildSlice t len ⟨ps⟩) τ H next
  | bytesStr {d s t x b o m c l τ H next e} [TyD P s (.slice e)] [TyD P e (.int .u8)] [TyD P t .string] : ev τ x = some (.slice (some ⟨b, o, none⟩) m c) → BytesR H b o m l → Nat.blt d n = true →
      next ((d, str l) :: τ) H → OpP P n (some d) (.convert s t x) τ H next
  | range {d t x l τ H next} [TyD P t .string] : ev τ x = some (str l) → Nat.blt d n = true → (∀ b, next ((d, .pointer (some ⟨b, 0, none⟩)) :: τ) (pt b (.stringIter ⟨⟨l⟩⟩ 0) :: H)) → OpP P n (some d) (.range t x) τ H next
  | next {d x b v τ H H' next} : ev τ x = some (.pointer (some ⟨b, 0, none⟩)) → IterR H b v H' → Nat.blt d n = true → next ((d, v) :: τ) H' → OpP P n (some d) (.next x true) τ H next
  | append {d x y t1 t2 e e2 a s bts z a1 m1 c1 a2 m2 c2 l rows H1 τ H next} [TyD P t1 (.slice e)] [TyD P t2 (.slice e2)] [TyI P e ⟨a, s, bts, z⟩] : ev τ x = some (.slice a1 m1 c1) → ev τ y = some (.slice a2 m2 c2) →
      Take H (sls e s a1 c1 l) H1 → l.length = m1 → SrcR s H1 a2 m2 rows → Nat.ble (s + bts) 4096 = true → z.cells.size = s → l.length + rows.length ≤ 16777216 → Nat.blt d n = true →
      (∀ a' c', next ((d, .slice a' (l ++ rows).length c') :: τ) (sls e s a' c' (l ++ rows) :: H1)) → OpP P n (some d) (.call ⟨.builtin .append, ⟨[x, y]⟩, ⟨[t1, t2]⟩⟩) τ H next
  | makeSlice {d t e a s y z lenO capO i τ H next} [TyD P t (.slice e)] [TyI P e ⟨a, 1, y, z⟩] : ev τ lenO = some (.int .i64 i) → ev τ capO = some (.int .i64 i) → 0 ≤ i → i ≤ 16777216 → Nat.ble y 4096 = true → CellsV z [s] → Nat.blt d n = true →
      (∀ b, next ((d, .slice (some ⟨b, 0, none⟩) i.toNat i.toNat) :: τ) (blk b (List.replicate i.toNat s) e :: H)) → OpP P n (some d) (.makeSlice t lenO capO) τ H next
  | pur {d op v τ H next} : PurP P op τ v → Nat.blt d n = true → next ((d, v) :: τ) H → OpP P n (some d) op τ H next

section
variable {P : Program} {n : Nat} {τ : Env} {H : List HProp} {next : Cont}
theorem EvL.map {xs : List Operand} {vs : List Value} (h : EvL τ xs vs) {a : Act} (ht : TM n τ a) : (⟨xs⟩ : Array Operand).map a.eval = ⟨vs⟩ := by
  have : xs.map a.eval = vs := by
    induction h with
    | nil => rfl
    | cons h1 _ ih => simp [ht.ev h1, ih]
  apply Array.ext'
  simpa using this
theorem EvP.map {xs : List (Nat × Operand)} {vs : List (Nat × Value)} (h : EvP τ xs vs) {a : Act} (ht : TM n τ a) :
    ((⟨xs⟩ : Array (Nat × Operand)).map fun (i, x) => (i, a.eval x)) = ⟨vs⟩ := by
  have : (xs.map fun (i, x) => (i, a.eval x)) = vs := by
    induction h with
    | nil => rfl
    | cons h1 _ ih => simp [ht.ev h1, ih]
  apply Array.ext'
  simpa using this
theorem TyI.run_cells {t : TypeId} {r : TyRow} (h : TyI P t r) : P.cellsOf t = r.size := by
  obtain ⟨i, hi, a, _⟩ := h.info
  simp [Program.cellsOf, hi, a]
theorem fieldPlace_run {b o : Nat} {f : Field} (hs : ((P.info? f.type).map (·.size)).getD 0 ≠ 0) (w : World) :
    (fieldPlace ⟨b, o, none⟩ f).run P w = .ok ⟨b, o + f.offset, none⟩ w := by
  cases hi : P.info? f.type with
  | none => simp [hi] at hs
  | some i =>
    simp [hi] at hs
    simp [fieldPlace, sizeOf, typeInfo, hi, hs, add_none]
theorem FldI.run {s f off e : Nat} (h : FldI P s f off e) {b o : Nat} (w : World) :
    (Instr.fieldAt s (.pointer (some ⟨b, o, none⟩)) f).run P w = .ok (.pointer (some ⟨b, o + off, none⟩)) w := by
  obtain ⟨fs, g, h1, h2, h3, h4, h5⟩ := h.fld
  subst h3 h4
  simp [Instr.fieldAt, run_under h1, h2, Instr.sureAddr, fieldPlace_run h5]
theorem ArrI.run_size {t len e s : Nat} (h : ArrI P t len e s) (w : World) : (sizeOf e).run P w = .ok s w := by
  have := h.size
  cases hi : P.info? e with
  | none => simp [hi] at this
  | some i => simp [hi] at this; simp [sizeOf, typeInfo, hi, this]
theorem part_run1 {e s y : Nat} {z v : Value} [ht : TyI P e ⟨false, s, y, z⟩] {l : List Value} {off : Nat} (hs : SubL off 1 l [v]) (w : World) :
    (part e ⟨l⟩ off).run P w = .ok v w := by
  have := hs.one
  simp [part, ht.run_agg, this]
theorem part_runA {e s y : Nat} {z : Value} [ht : TyI P e ⟨true, s, y, z⟩] {l r : List Value} {off : Nat} (hs : SubL off s l r) (w : World) :
    (part e ⟨l⟩ off).run P w = .ok (.agg ⟨r⟩) w := by
  obtain ⟨h1, h2⟩ := hs.eq
  simp only [part, ht.run_agg, Sem.run_bind, Result.andThen_ok, if_true, ht.run_size, Sem.run_pure]
  congr 2
  apply Array.ext'
  simp [List.extract_eq_take_drop, h2]
theorem putAll_eq (vs : List Value) : ∀ (j : Nat) (C : List Value) (off : Nat),
    ((vs.zipIdx j).foldl (fun (cs : Array Value) (x : Value × Nat) => cs.setIfInBounds (off + x.2) x.1) C.toArray) = (setL C (off + j) vs).toArray := by
  induction vs with
  | nil => intro j C off; rfl
  | cons v vs ih =>
    intro j C off
    simp only [List.zipIdx_cons, List.foldl_cons, setL]
    have : (C.toArray.setIfInBounds (off + j) v) = (C.set (off + j) v).toArray := by simp
    rw [this, ih (j + 1) _ off]
    simp [Nat.add_assoc]
theorem FillR.eq {place : Nat → Option (Nat × Nat)} {z l : List Value} {vs : List (Nat × Value)} (h : FillR place z vs l) : Instr.fill place z.toArray vs = some l.toArray := by
  induction h with
  | nil => rfl
  | @cons i v us off sz z z' rest l hp hc hs hput _ ih =>
    obtain ⟨h1, h2⟩ := hput.eq
    have hv : v.cells.size = sz := by rw [← Array.length_toList, hc.eq, hs]
    have hcond : ¬ (v.cells.size ≠ sz ∨ off + v.cells.size > z.toArray.size) := by
      simp only [hv, ne_eq, not_true_eq_false, false_or, List.size_toArray]
      omega
    simp only [Instr.fill, hp]
    rw [if_neg (by simpa using hcond)]
    have : (v.cells.zipIdx.foldl (fun (cs : Array Value) (x : Value × Nat) => cs.setIfInBounds (off + x.2) x.1) z.toArray) = z'.toArray := by
      rw [← Array.foldl_toList, Array.toList_zipIdx, hc.eq]
      have := putAll_eq us 0 z off
      rw [this, Nat.add_zero, h2]
    rw [← ih, ← this]
theorem push_in {w : World} {o : Obj} {H : List HProp} (hs : Sat w (sl H)) : Sat { w with heap := w.heap.push o } (sl (pt w.heap.size o :: H)) := Sat.push hs rfl rfl rfl
theorem CellsV.arr {v : Value} {l : List Value} (h : CellsV v l) : v.cells = l.toArray := by
  apply Array.ext'
  rw [h.eq]
theorem BoundV.run {lo : Option Operand} {d i : Int} (h : BoundV τ lo d i) {a : Act} (ht : TM n τ a) : (lo.map a.eval = none ∧ i = d) ∨ (∃ k, lo.map a.eval = some (.int k i)) := by
  cases h with
  | nob => exact .inl ⟨rfl, rfl⟩
  | bnd hx => exact .inr ⟨_, congrArg some (ht.ev hx)⟩
theorem sliceB_run {isSlice : Bool} {lo hi : Option Operand} {len : Nat} {cap : Nat} {i j : Int} (hhi : BoundV τ hi (len : Int) j) (hlo : BoundV τ lo 0 i) {a : Act} (ht : TM n τ a)
    (h0 : 0 ≤ i) (h1 : i ≤ j) (h2 : j ≤ (cap : Int)) (w : World) :
    (Instr.sliceBounds isSlice len cap (lo.map a.eval) (hi.map a.eval) none).run P w = .ok (i.toNat, j.toNat, cap) w := by
  have hj : (j.toNat : Int) = j := Int.toNat_of_nonneg (by omega)
  rcases hhi.run ht with ⟨e1, e2⟩ | ⟨k1, e1⟩ <;> rcases hlo.run ht with ⟨e3, e4⟩ | ⟨k2, e3⟩
  · subst e2 e4; simp [Instr.sliceBounds, e1, e3]
  · subst e2; simp [Instr.sliceBounds, e1, e3, Instr.sliceBound, asIntOf, h0, h1]
  · subst e4; simp [Instr.sliceBounds, e1, e3, Instr.sliceBound, asIntOf, h1, h2]
  · have : 0 ≤ j := by omega
    simp [Instr.sliceBounds, e1, e3, Instr.sliceBound, asIntOf, h0, h1, h2, this, hj]
theorem PurP.sound {op : Op} {v : Value} (h : PurP P op τ v) {a : Act} (ht : TM n τ a) (dst : Option Tmp) (type : TypeId) (pos : String) (after : Array Edge) (guard : Option (Nat × Bool)) (w : World) :
    (execOp a.eval ⟨dst, op, type, pos, after, guard⟩).run P w = .ok (.value v) w := by
  cases h with
  | move hx => simp [execOp, ht.ev hx]
  | assign hx => simp [execOp, ht.ev hx]
  | @binOp op t x y t' vx vy v _ hx hy hb =>
    have := hb.run x y w
    simp only [execOp, ht.ev hx, ht.ev hy, Sem.run_bind] at this ⊢
    rw [this]
    rfl
  | @fieldAddr0 t x f e b o _ hf hx => simp [execOp, ht.ev hx, hf.run]
  | @fieldAddr t x f off e b o _ hf hx => simp [execOp, ht.ev hx, hf.run]
  | @pick c x y vc vx vy v _ hc hx hy hp =>
    cases hp with
    | tt => simp [execOp, ht.ev hc, ht.ev hx, asBool]
    | ff => simp [execOp, ht.ev hc, ht.ev hy, asBool]
    | @sym c' x' y' => cases c' <;> simp [execOp, ht.ev hc, ht.ev hx, ht.ev hy, asBool]
  | @extract x i vs v _ hx hi => simp [execOp, ht.ev hx, Instr.extract, hi]
  | @build t pl z ps vs l _ hT hps hf =>
    obtain ⟨fs, h1, h2, i, h3, h4⟩ := hT.str
    have hz : (zeroValue t).run P w = .ok (.agg ⟨z⟩) w := by simp [zeroValue, typeInfo, h3, h4]
    have hfl : Instr.fill (fun i => pl.toArray[i]?) z.toArray vs = some l.toArray := by simpa using hf.eq
    simp only [execOp, Instr.build, Sem.run_bind, hz, Result.andThen_ok, run_under h1, h2 w, hps.map ht, Value.cells, hfl, Sem.run_pure]
  | conv hx hc =>
    rename_i hT hS
    obtain ⟨ds, h1⟩ := hS.desc
    cases hc with
    | int => simp only [execOp, convert, ht.ev hx, Sem.run_bind, run_under h1.1, run_under hT.desc, Result.andThen_ok, Conv.intToInt, Sem.run_pure]
    | flt hv => simp only [execOp, convert, ht.ev hx, Sem.run_bind, run_under h1.1, run_under hT.desc, Result.andThen_ok, hv w, Sem.run_pure]
  | @real x k r im ts _ hx =>
    have e : ∀ tt, Builtin.real_ ts tt #[.complex k r im] = pure (.float k r) := fun _ => rfl
    simp [execOp, resolve, invoke, builtin, ht.ev hx, e]
  | @imag x k r im ts _ hx =>
    have e : ∀ tt, Builtin.imag_ ts tt #[.complex k r im] = pure (.float k im) := fun _ => rfl
    simp [execOp, resolve, invoke, builtin, ht.ev hx, e]
  | buildA hq hps hf =>
    rename_i hA hT hE ql
    have hfl := hf.eq
    simp only [execOp, Instr.build, Sem.run_bind, hT.run_zero, Result.andThen_ok, run_under hA.arr, hps.map ht, hA.run_size, hq.arr, hfl, Sem.run_pure]
  | @unOp t x b _ hx => simp [execOp, ht.ev hx, Op.unary]
  | len hx hl =>
    cases hl with
    | str =>
      rename_i l hT
      have e : (⟨⟨l⟩⟩ : ByteArray).size = l.length := rfl
      simp [execOp, resolve, invoke, builtin, ht.ev hx, Builtin.len_, run_under hT.desc, goInt, e]
    | sli =>
      rename_i hT
      simp [execOp, resolve, invoke, builtin, ht.ev hx, Builtin.len_, run_under hT.desc, goInt]
  | @max2 x y k i j ts _ hx hy => simp [execOp, resolve, invoke, builtin, ht.ev hx, ht.ev hy, Builtin.max_, Builtin.max2]
  | @min2 x y k i j ts _ hx hy => simp [execOp, resolve, invoke, builtin, ht.ev hx, ht.ev hy, Builtin.min_, Builtin.min2]
  | indexAddr hx hy hi =>
    cases hi with
    | arr h0 h1 =>
      rename_i hA
      simp [execOp, ht.ev hx, ht.ev hy, Instr.indexAt, asIntOf, run_under hA.arr, Instr.sureAddr, h0, h1, hA.run_size, add_none]
    | sli h0 h1 =>
      rename_i hT hE
      simp [execOp, ht.ev hx, ht.ev hy, Instr.indexAt, asIntOf, run_under hT.desc, h0, h1, hE.run_size, add_none]
  | index hx hy hi =>
    cases hi with
    | str h0 h1 =>
      rename_i l c hT
      have key : ∀ j : Nat, l[j]? = some c → (⟨⟨l⟩⟩ : ByteArray)[j]? = some c := fun j hj => by
        obtain ⟨hlt, he⟩ := List.getElem?_eq_some_iff.1 hj
        have hlt' : j < (⟨⟨l⟩⟩ : ByteArray).size := hlt
        exact (getElem?_pos (⟨⟨l⟩⟩ : ByteArray) j hlt').trans (congrArg some he)
      have this := key _ h1
      simp [execOp, ht.ev hx, ht.ev hy, Instr.index, asIntOf, run_under hT.desc, h0, this]
    | arr h0 h1 hp =>
      rename_i hA
      simp [execOp, ht.ev hx, ht.ev hy, Instr.index, asIntOf, run_under hA.arr, h0, h1, hA.run_size, hp w]
  | @field1 t x f off e s y z l v _ hf hE hx hs1 =>
    obtain ⟨fs, g, h1, h2, h3, h4, h5⟩ := hf.fld
    subst h3 h4
    simp [execOp, ht.ev hx, Instr.field, run_under h1, h2, asAgg, part_run1 hs1]
  | @fieldA t x f off e s y z l r _ hf hE hx hs1 =>
    obtain ⟨fs, g, h1, h2, h3, h4, h5⟩ := hf.fld
    subst h3 h4
    simp [execOp, ht.ev hx, Instr.field, run_under h1, h2, asAgg, part_runA hs1]
  | slice hx hs =>
    cases hs with
    | str hhi hlo h0 h1 h2 =>
      rename_i l i j hT
      have hb := sliceB_run (P := P) (isSlice := false) hhi hlo ht h0 h1 h2 w
      simp only [execOp, Instr.sliceAt, Sem.run_bind, run_under hT.desc, Result.andThen_ok, Instr.slice, ht.ev hx, Option.map_none, Option.isSome_none, Bool.false_eq_true, if_false, Sem.run_pure]
      have e : (⟨⟨l⟩⟩ : ByteArray).size = l.length := rfl
      rw [e, hb]
      simp only [Result.andThen_ok]
      congr 4
      apply ByteArray.ext
      simp [ByteArray.data_extract, List.drop_take]
    | arr hhi h0 h1 =>
      rename_i hA
      have hb := sliceB_run (P := P) (isSlice := false) (lo := none) hhi .nob ht (by omega) h0 h1 w
      simp only [Option.map_none] at hb
      simp only [execOp, Instr.sliceAt, Sem.run_bind, run_under hA.arr, Result.andThen_ok, ht.ev hx, Instr.sureAddr, Sem.run_pure, Option.map_none, hb, hA.run_size]
      simp [add_none]
  | nilCheck hx => simp [execOp, ht.ev hx]
  | @makeFunc f xs ys vs us _ hx hy => simp [execOp, Instr.makeFunc, hx.map ht, hy.map ht]
theorem repL_eq (len : Nat) (zs : List Value) : ((Array.range (len * zs.length)).map fun i => zs.toArray[i % zs.toArray.size]!) = (repL len zs).toArray := by
  apply Array.ext'
  rw [Array.toList_map, Array.toList_range]
  simp only [List.size_toArray]
  induction len with
  | zero => simp [repL]
  | succ k ih =>
    rw [Nat.add_mul, Nat.one_mul, Nat.add_comm, List.range_add]
    simp only [List.map_append, List.map_map, repL]
    congr 1
    · apply List.ext_getElem
      · simp
      · intro i h1 h2
        simp at h1 h2
        simp [Nat.mod_eq_of_lt h2, h2]
    · rw [← ih]
      apply List.map_congr_left
      intro i _
      simp
theorem ByteL.push {f : Value → ByteArray → Sem (ForInStep ByteArray)} (hf : ∀ n s, f (.int .u8 n) s = pure (.yield (s.push (UInt8.ofNat n.toNat)))) {cs : List Value} {l : List UInt8} (h : ByteL cs l) (w : World) : ∀ acc : List UInt8,
    (forIn (m := Sem) cs (⟨⟨acc⟩⟩ : ByteArray) f).run P w = .ok (⟨⟨acc ++ l⟩⟩ : ByteArray) w := by
  induction h with
  | nil => intro acc; simp
  | @cons k cs bs _ ih =>
    intro acc
    have e : (⟨⟨acc⟩⟩ : ByteArray).push (UInt8.ofNat k.toNat) = ⟨⟨acc ++ [UInt8.ofNat k.toNat]⟩⟩ := by
      apply ByteArray.ext
      simp [ByteArray.push]
    simp only [List.forIn_cons, hf, Sem.run_bind, Sem.run_pure, Result.andThen_ok, e, ih]
    simp
theorem BytesR.run {b o m : Nat} {l : List UInt8} (h : BytesR H b o m l) {w : World} (hs : Sat w (sl H)) (c : Nat) :
    (Conv.bytesToString (.slice (some ⟨b, o, none⟩) m c)).run P w = .ok (str l) w := by
  induction h with
  | there _ ih => exact ih hs.right
  | @rep b T m H =>
    have hc := run_loadCells (P := P) (o := 0) (n := m) (Sat.look hs) (by simp)
    have hb : ∀ m, ByteL (List.replicate m (.int .u8 0)) (List.replicate m 0) := by
      intro m
      induction m with
      | zero => exact .nil
      | succ m ih => exact .cons (k := 0) ih
    have e2 : List.take m (List.drop 0 (List.replicate m (Value.int .u8 0))) = List.replicate m (Value.int .u8 0) := by simp
    rw [e2] at hc
    simp only [Conv.bytesToString, Sem.run_bind, hc, Result.andThen_ok]
    rw [← Array.forIn_toList]
    have e : (ByteArray.empty : ByteArray) = ⟨⟨[]⟩⟩ := rfl
    rw [e, show (List.replicate m (Value.int .u8 0)).toArray.toList = List.replicate m (Value.int .u8 0) from rfl, (hb m).push (P := P) (fun n s => rfl) w []]
    rfl
  | @blk b C T o m cs l H hsub hb =>
    obtain ⟨h1, h2⟩ := hsub.eq
    have hc := run_loadCells (P := P) (Sat.look hs) h1
    rw [h2] at hc
    simp only [Conv.bytesToString, Sem.run_bind, hc, Result.andThen_ok]
    rw [← Array.forIn_toList]
    have e : (ByteArray.empty : ByteArray) = ⟨⟨[]⟩⟩ := rfl
    rw [e, show cs.toArray.toList = cs from rfl, hb.push (P := P) (fun n s => rfl) w []]
    rfl
/-- what is appended, as it lies in the world -/
theorem SrcR.run {s : Nat} {a : Option Addr} {m : Nat} {rows : List (List Value)} (h : SrcR s H a m rows) {w : World} (hs : Sat w (sl H)) (c : Nat) :
    m = rows.length ∧ (Builtin.firstCells s m (.slice a m c)).run P w = .ok rows.flatten.toArray w ∧ (∀ r ∈ rows, r.length = s ∧ r.all (·.oneCell') = true) := by
  induction h with
  | there _ ih => exact ih hs.right
  | nil => exact ⟨rfl, by simp [Builtin.firstCells], fun r hr => by cases hr⟩
  | @blk b C T m rows H hr =>
    have hl := Sat.look hs
    cases hr with
    | nil =>
      refine ⟨rfl, ?_, fun r hr => by cases hr⟩
      have := run_loadCells (P := P) (o := 0) (n := 0) hl (by simp)
      simpa [Builtin.firstCells] using this
    | one hlen hall =>
      refine ⟨rfl, ?_, fun r hr => by simp at hr; subst hr; exact ⟨hlen, hall⟩⟩
      have := run_loadCells (P := P) (o := 0) (n := s) hl (by omega)
      simp only [Builtin.firstCells, Nat.one_mul, this]
      simp [← hlen]
  | @sls T a c rows H =>
    obtain ⟨h, ⟨h1, h2, hp, r⟩, hin⟩ := hs
    rcases hp with ⟨rfl, rfl, rfl, _⟩ | ⟨b, p, pre, post, rfl, hle, hpost, hone, ha⟩
    · exact ⟨rfl, by simp [Builtin.firstCells], fun r hr => by cases hr⟩
    · refine ⟨rfl, ?_, fun r hr => ⟨ha.2.2.2 r hr, hone r hr⟩⟩
      have hs' : Sat w (star (Sl.blk b (pre ++ rows.flatten ++ post) T) (sl H)) := ⟨h, ⟨h1, h2, ha.1, r⟩, hin⟩
      have hf := flat_len rows s ha.2.2.2
      have hpre := ha.2.1
      have := run_loadCells (P := P) (o := p) (n := rows.length * s) (Sat.look hs') (by simp only [List.length_append]; omega)
      simp only [Builtin.firstCells, this]
      congr 2
      rw [List.append_assoc, List.drop_append, List.drop_eq_nil_of_le (by omega), List.nil_append, ← hpre, Nat.sub_self, List.drop_zero, List.take_append, ← hf, List.take_length, Nat.sub_self, List.take_zero, List.append_nil]
theorem nextcap_le {need c : Nat} (h1 : ¬ need ≤ c) : Builtin.nextslicecap need c ≤ 4 * need + 4096 := by
  unfold Builtin.nextslicecap
  split
  · omega
  · split
    · omega
    · have grow : ∀ (r x : Nat), x ≤ 2 * need + 1024 → Builtin.growBy need r x ≤ 4 * need + 4096 := by
        intro r
        induction r with
        | zero => intro x hx; simp only [Builtin.growBy]; omega
        | succ r ih =>
          intro x hx
          simp only [Builtin.growBy]
          split
          · omega
          · exact ih _ (by omega)
      exact grow _ _ (by omega)
theorem zeroCells_len (z : Array Value) (k : Nat) : (Builtin.zeroCells z k).size = k * z.size := by simp [Builtin.zeroCells]
theorem append_run {e t1 t2 type : TypeId} {ag : Bool} {s bts c1 m2 c2 : Nat} {z : Value} {a1 a2 : Option Addr} {l rows : List (List Value)} {H1 : List HProp} {e2 : TypeId}
    [hT1 : TyD P t1 (.slice e)] [hT2 : TyD P t2 (.slice e2)] [hE : TyI P e ⟨ag, s, bts, z⟩] (hsrc : SrcR s H1 a2 m2 rows) (hb : Nat.ble (s + bts) 4096 = true) (hz : z.cells.size = s)
    (hlen : l.length + rows.length ≤ 16777216) {w : World} (hs : Sat w (sl (sls e s a1 c1 l :: H1))) :
    ∃ a' c' w', (Builtin.append_ #[t1, t2] type #[.slice a1 l.length c1, .slice a2 m2 c2]).run P w = .ok (.slice a' (l ++ rows).length c') w' ∧ Sat w' (sl (sls e s a' c' (l ++ rows) :: H1)) := by
  obtain ⟨hm, hnew, hrows⟩ := hsrc.run (P := P) hs.right c2
  obtain ⟨_, hold, hl⟩ := (SrcR.sls (s := s) (T := e) (a := a1) (c := c1) (rows := l) (H := H1)).run (P := P) hs c1
  subst hm
  have hb' : s + bts ≤ 4096 := Nat.le_of_ble_eq_true hb
  obtain ⟨ti, ti1, _, ti3, _⟩ := hE.run_typeInfo w
  have ti3' : ti.bytes = bts := ti3
  by_cases hroom : l.length + rows.length ≤ c1
  · -- in place
    obtain ⟨h, ⟨h1, h2, hp, r⟩, hin⟩ := hs
    rcases hp with ⟨rfl, rfl, rfl, he⟩ | ⟨b, p, pre, post, rfl, hle, hpost, hone, ha⟩
    · have hr0 : rows = [] := by
        cases rows with
        | nil => rfl
        | cons x xs => simp at hroom
      subst hr0
      refine ⟨none, 0, w, ?_, h, ⟨h1, h2, .inl ⟨rfl, rfl, rfl, he⟩, r⟩, hin⟩
      simp only [Builtin.append_, Sem.run_bind, run_under hT1.desc, run_under hT2.desc, Result.andThen_ok, hE.run_size, Builtin.lenOf, Sem.run_pure, List.getElem?_toArray, List.getElem?_cons_zero, List.getElem?_cons_succ]
      simp only [List.length_nil] at hnew
      simp [hnew]
    · have hs' : Sat w (star (Sl.blk b (pre ++ l.flatten ++ post) e) (sl H1)) := ⟨h, ⟨h1, h2, ha.1, r⟩, hin⟩
      have hf := flat_len l s ha.2.2.2
      have hfr := flat_len rows s (fun r hr => (hrows r hr).1)
      have hpre := ha.2.1
      have hk : rows.length * s ≤ post.length := by
        rw [hpost]; exact Nat.mul_le_mul_right s (by omega)
      have hoc : oneCells rows.flatten := by
        intro v hv
        obtain ⟨r, hr, hv⟩ := List.mem_flatten.1 hv
        exact List.all_eq_true.1 (hrows r hr).2 v hv
      have hfit : (p + l.length * s) + 0 + rows.flatten.length ≤ (pre ++ l.flatten ++ post).length := by simp only [List.length_append]; omega
      obtain ⟨w', st1, st2, st3, st4⟩ := run_storeCells (P := P) (o := p + l.length * s) rows.flatten _ w 0 (Sat.look hs') hoc hfit
      have hset : setL (pre ++ l.flatten ++ post) (p + l.length * s + 0) rows.flatten = pre ++ (l ++ rows).flatten ++ post.drop (rows.length * s) := by
        rw [setL_eq _ _ _ hfit]
        have e1 : p + l.length * s + 0 = (pre ++ l.flatten).length := by simp only [List.length_append]; omega
        rw [e1, List.take_left, ← List.drop_drop, List.drop_left, hfr]
        simp
      rw [hset] at st2
      refine ⟨some ⟨b, p, none⟩, c1, w', ?_, ?_⟩
      · simp only [Builtin.append_, Sem.run_bind, run_under hT1.desc, run_under hT2.desc, Result.andThen_ok, hE.run_size, Builtin.lenOf, Sem.run_pure, List.getElem?_toArray, List.getElem?_cons_zero, List.getElem?_cons_succ, Bool.false_eq_true, if_false, Bool.not_false, if_true, hroom, hnew, add_none]
        rw [st1]
        simp
      · refine (hs'.put st4 st2 st3).mono fun g hg => star_mono (fun g' hg' => .inr ⟨b, p, pre, post.drop (rows.length * s), rfl, by simpa using hroom, ?_, ?_, hg', hpre, rfl, ?_⟩) (fun _ x => x) hg
        · rw [List.length_drop, hpost, List.length_append, ← Nat.sub_mul]; congr 1; omega
        · intro r hr
          rcases List.mem_append.1 hr with h | h
          · exact hone r h
          · exact (hrows r h).2
        · intro r hr
          rcases List.mem_append.1 hr with h | h
          · exact ha.2.2.2 r h
          · exact (hrows r h).1
  · -- in a new block
    have hcap := nextcap_le hroom
    have hbig : ¬ Builtin.nextslicecap (l.length + rows.length) c1 * bts > 2 ^ 48 := by
      have : Builtin.nextslicecap (l.length + rows.length) c1 * bts ≤ (4 * 16777216 + 4096) * 4096 := Nat.mul_le_mul (by omega) (by omega)
      omega
    have hmax : ¬ ((l.length + rows.length : Nat) : Int) > IntKind.i64.max := by rw [i64max]; omega
    generalize hw1 : ({ w with drawn := w.drawn + 1 } : World) = w1
    have hs1 : Sat w1 (sl (sls e s a1 c1 l :: H1)) := hs.heap (by rw [← hw1]) (by rw [← hw1]) (by rw [← hw1])
    obtain ⟨_, hnew1, _⟩ := hsrc.run (P := P) hs1.right c2
    obtain ⟨_, hold1, hone⟩ := (SrcR.sls (s := s) (T := e) (a := a1) (c := c1) (rows := l) (H := H1)).run (P := P) hs1 c1
    obtain ⟨ti', ti1', _, ti3'', _⟩ := hE.run_typeInfo w1
    have hti' : ti'.bytes = bts := ti3''
    generalize hnc : (Question.appendCap (l.length + rows.length) c1 e).cut (w.tape w.drawn (.appendCap (l.length + rows.length) c1 e)) = nc
    have hnc' : l.length + rows.length ≤ nc := by rw [← hnc]; simp [Question.cut]
    have hch : (choose (.appendCap (l.length + rows.length) c1 e)).run P w = .ok nc w1 := by
      rw [run_choose]; simp [Question.forced, hnc, hw1]
    generalize hcells : (l.flatten ++ rows.flatten ++ (Builtin.zeroCells z.cells (nc - (l.length + rows.length))).toList) = cells
    refine ⟨some ⟨w1.heap.size, 0, none⟩, nc, { w1 with heap := w1.heap.push (.cells cells.toArray e) }, ?_, ?_⟩
    · have harr : l.flatten.toArray ++ rows.flatten.toArray ++ Builtin.zeroCells z.cells (nc - (l.length + rows.length)) = cells.toArray := by
        rw [← hcells]; apply Array.ext'; simp
      simp only [Builtin.append_, Sem.run_bind, run_under hT1.desc, run_under hT2.desc, Result.andThen_ok, hE.run_size, Builtin.lenOf, Sem.run_pure, List.getElem?_toArray, List.getElem?_cons_zero, List.getElem?_cons_succ, Bool.false_eq_true, if_false, Bool.not_false, if_true, hroom, ti1, ti3']
      rw [if_neg (fun h => hmax h.1)]
      simp only [Sem.run_bind, ti1, Result.andThen_ok, ti3']
      rw [if_neg hbig]
      simp only [Sem.run_bind, hch, Result.andThen_ok, ti1', hti', run_askRoom, hold1, hnew1, hE.run_zero, newRow, run_newObj, Sem.run_pure, harr, List.length_append]
    · have hx := hs1.right.push (w' := { w1 with heap := w1.heap.push (.cells cells.toArray e) }) (o := .cells cells.toArray e) rfl rfl rfl
      refine hx.mono fun g hg => star_mono (fun g' hg' => .inr ⟨w1.heap.size, 0, [], (Builtin.zeroCells z.cells (nc - (l.length + rows.length))).toList, rfl, by simpa using hnc', ?_, ?_, ?_, rfl, rfl, ?_⟩) (fun _ x => x) hg
      · simp only [Array.length_toList, zeroCells_len, hz, List.length_append]
      · intro r hr
        rcases List.mem_append.1 hr with h | h
        · exact (hone r h).2
        · exact (hrows r h).2
      · have e1 : ([] ++ (l ++ rows).flatten ++ (Builtin.zeroCells z.cells (nc - (l.length + rows.length))).toList) = cells := by rw [← hcells]; simp
        rw [e1]; exact hg'
      · intro r hr
        rcases List.mem_append.1 hr with h | h
        · exact (hone r h).1
        · exact (hrows r h).1
theorem wrap_small {i : Int} (h0 : -9223372036854775808 ≤ i) (h1 : i ≤ 9223372036854775807) : IntKind.i64.wrap i = i := by
  simp only [IntKind.wrap, IntKind.signed, IntKind.bits]
  simp
  omega
theorem IterR.run {b : Nat} {v : Value} {H' : List HProp} (h : IterR H b v H') (type : TypeId) : ∀ {F : HProp} {w : World}, Sat w (star F (sl H)) →
    ∃ w', (Instr.next (.pointer (some ⟨b, 0, none⟩)) true type).run P w = .ok v w' ∧ Sat w' (star F (sl H')) := by
  induction h with
  | @there c H b v H' _ ih =>
    intro F w hs
    obtain ⟨w', h1, h2⟩ := ih (F := star F c) (hs.mono fun _ => star_assoc)
    exact ⟨w', h1, h2.mono fun _ => star_assoc'⟩
  | @here b s pos v pos' H he =>
    intro F w hs
    have hs' : Sat w (star (pt b (.stringIter s pos)) (star F (sl H))) := hs.mono fun _ => star_swap
    have hl := Sat.look hs'
    unfold strNext at he
    have hg : (getObj b).run P w = .ok (.stringIter s pos) w := by simp [getObj, Sem.run, hl]
    by_cases hp : pos < s.size
    · rw [if_pos hp] at he
      simp only [Prod.mk.injEq] at he
      obtain ⟨rfl, rfl⟩ := he
      refine ⟨{ w with heap := w.heap.setIfInBounds b (.stringIter s (pos + (Utf8.decode s pos).2)) }, ?_, ?_⟩
      · simp only [Instr.next, Sem.run_bind, hg, Result.andThen_ok, hp, if_true, Sem.run_pure]
        simp [setObj, Sem.run, hl, goInt]
      · have hlt : b < w.heap.size := (Array.getElem?_eq_some_iff.1 hl).1
        have hal : Alike w { w with heap := w.heap.setIfInBounds b (.stringIter s (pos + (Utf8.decode s pos).2)) } := ⟨by simp, rfl, rfl⟩
        exact (hs'.put hal (by simp [hlt]) (fun c hc => by simp [Array.getElem?_setIfInBounds_ne (Ne.symm hc)])).mono fun _ => star_swap
    · rw [if_neg hp] at he
      simp only [Prod.mk.injEq] at he
      obtain ⟨rfl, rfl⟩ := he
      exact ⟨w, by simp [Instr.next, hg, hp], hs⟩
theorem OpP.sound {dst : Option Tmp} {op : Op} (h : OpP P n dst op τ H next) (type : TypeId) (pos : String) (after : Array Edge) (guard : Option (Nat × Bool)) :
    OpS P n ⟨dst, op, type, pos, after, guard⟩ τ H next := by
  cases h with
  | @load d t x p v _ _ _ hx hl hd hk =>
    exact .value hd fun a w ht hs => ⟨v, w, H, by simp [execOp, ht.ev hx, hl.sound w hs], hs, hk⟩
  | @store t x y p v _ _ H' _ hx hy hst hk =>
    refine .skip rfl fun a w ht hs => ?_
    obtain ⟨w', h1, h2⟩ := hst.sound.run hs
    exact ⟨w', H', by simp [execOp, ht.ev hx, ht.ev hy, h1], h2, hk⟩
  | @call _ f xs ts g first cap vs _ _ _ hf hxs hd hcal =>
    cases hcal with
    | @ext e v hX hv hk =>
      obtain ⟨fn, h1, h2, h3, h4, h5⟩ := hX.fn
      refine .value hd fun a w ht hs => ⟨v, w, H, ?_, hs, by cases dst <;> exact hk⟩
      have hm := hxs.map ht
      have hv' := hv w
      simp only [List.append_assoc] at hv'
      simp [execOp, resolve, hm, ht.ev hf, Deferred.ofValue, invoke, callFunc, h1, h2, h3, h4, h5, hv']
    | @body hg hk =>
    intro a w ht hs K Q hK
    obtain ⟨fn, h1, h2, h3⟩ := hg.fn
    have hm := hxs.map ht
    have hrun : (execOp a.eval ⟨dst, .call ⟨.value f, ⟨xs⟩, ts⟩, type, pos, after, guard⟩).run P w = .ok (.enter g (first ++ vs ++ cap).toArray) w := by
      simp [execOp, resolve, hm, ht.ev hf, Deferred.ofValue, invoke, callFunc, h1, h2, h3]
    unfold Oper.wp
    rw [hrun]
    refine (hk w hs).mono fun e w' ⟨v, H', he, hs', hn⟩ => ?_
    subst he
    exact hK _ _ _ _ (ht.put hd) hs' hn
  | @box d T x v l _ _ _ hx hc hd hk =>
    exact .value hd fun a w ht hs => ⟨_, _, _, by simp [execOp, ht.ev hx, Instr.box, newVar, newRow, hc.arr], push_in hs, hk _⟩
  | @alloc d T ag s y z l _ _ _ hT hc hd hk =>
    exact .value hd fun a w ht hs => ⟨_, _, _, by simp [execOp, Instr.alloc, hT.run_zero, newVar, newRow, hc.arr], push_in hs, hk _⟩
  | @buildSlice d t e len ps vs ag s y z zs l _ _ _ hT hE hps hz hzs hle hf hd hk =>
    refine .value hd fun a w ht hs => ⟨_, _, _, ?_, push_in hs, hk _⟩
    have hle' : len * s ≤ 1000 := Nat.le_of_ble_eq_true hle
    have hno : ¬ len * s > 2 ^ 24 := by omega
    have hzz : z.cells = zs.toArray := hz.arr
    have hfl : Instr.fill (fun i => some (i * s, s)) (repL len zs).toArray vs = some l.toArray := hf.eq
    have hrep := repL_eq len zs
    rw [hzs] at hrep
    by_cases h0 : len * s = 0
    · have hrep' : ((Array.range (len * s)).map fun i => (#[] : Array Value)[i % (#[] : Array Value).size]!) = (repL len zs).toArray := by
        rw [← hrep, h0]; simp
      have h00 : ¬ (0 > 2 ^ 24) := by omega
      simp only [execOp, Instr.buildSlice, Sem.run_bind, run_under hT.desc, hE.run_size, Result.andThen_ok, h00, if_false, h0, if_true, Sem.run_pure, hps.map ht]
      rw [h0] at hrep'
      simp only [hrep', hfl, Sem.run_bind, newRow, run_newObj, Result.andThen_ok, Sem.run_pure]
    · simp only [execOp, Instr.buildSlice, Sem.run_bind, run_under hT.desc, hE.run_size, Result.andThen_ok, hno, if_false, h0, hE.run_zero, Sem.run_pure, hps.map ht, hzz]
      simp only [hrep, hfl, Sem.run_bind, newRow, run_newObj, Result.andThen_ok, Sem.run_pure]
  | @bytesStr d s t x b o m c l _ _ _ e hS hE hT hx hb hd hk =>
    refine .value hd fun a w ht hs => ⟨_, w, H, ?_, hs, hk⟩
    simp only [execOp, convert, ht.ev hx, Sem.run_bind, run_under hS.desc, run_under hT.desc, run_under hE.desc, Result.andThen_ok, hb.run hs c, Sem.run_pure]
  | @range d t x l _ _ _ hT hx hd hk =>
    exact .value hd fun a w ht hs => ⟨_, _, _, by simp [execOp, ht.ev hx, Instr.range, run_under hT.desc], push_in hs, hk _⟩
  | @next d x b v _ _ H' _ hx hi hd hk =>
    refine .value hd fun a w ht hs => ?_
    obtain ⟨w', h1, h2⟩ := hi.run (P := P) type (F := emp) (hs.mono fun _ x => star_comm (star_emp_r' x))
    exact ⟨v, w', H', by simp [execOp, ht.ev hx, h1], h2.mono (fun _ x => star_emp_r (star_comm x)), hk⟩
  | @append d x y t1 t2 e e2 ag s bts z a1 m1 c1 a2 m2 c2 l rows H1 _ _ _ hT1 hT2 hE h1 h2 h3 h4 h5 h6 h7 h8 hd hk =>
    refine .value hd fun a w ht hs => ?_
    obtain ⟨a', c', w', r1, r2⟩ := append_run (P := P) (e := e) (t1 := t1) (t2 := t2) (type := type) (c2 := c2) h5 h6 h7 h8 (hs.perm h3.perm)
    rw [h4] at r1
    exact ⟨_, w', _, by simp [execOp, resolve, invoke, builtin, ht.ev h1, ht.ev h2, r1], r2, hk a' c'⟩
  | @makeSlice d t e ag s y z lenO capO i _ _ _ hT hE h1 h2 h3 h4 h5 h6 hd hk =>
    refine .value hd fun a w ht hs => ⟨_, _, _, ?_, push_in hs, hk _⟩
    obtain ⟨ti, t1, t2, t3, t4⟩ := hE.run_typeInfo w
    have hw : IntKind.i64.wrap i = i := wrap_small (by omega) (by omega)
    have hy : y ≤ 4096 := Nat.le_of_ble_eq_true h5
    have hbig : ¬ (281474976710656 < (ti.bytes : Int) * i) := by
      have e3 : ti.bytes = y := t3
      rw [e3]
      have hm := Int.mul_le_mul (a := (y : Int)) (b := i) (c := 4096) (d := 16777216) (by omega) h4 h3 (by omega)
      omega
    have hz : z.cells = #[s] := h6.arr
    have hrow : ∀ k : Nat, ((Array.range k).map fun j => (#[s] : Array Value)[j % (#[s] : Array Value).size]!) = (List.replicate k s).toArray := by
      intro k
      apply Array.ext'
      rw [Array.toList_map, Array.toList_range]
      apply List.ext_getElem
      · simp
      · intro j _ _
        simp [Nat.mod_one]
    have hno : ¬ (i < 0) := by omega
    have hno2 : ¬ (i > i) := by omega
    by_cases h0 : i.toNat = 0
    · have e0 : ((Array.range 0).map fun j => (#[] : Array Value)[j % (#[] : Array Value).size]!) = (List.replicate i.toNat s).toArray := by rw [h0]; simp
      simp only [execOp, Instr.makeSlice, Sem.run_bind, run_under hT.desc, Result.andThen_ok, ht.ev h1, ht.ev h2, asInt, asIntOf, Sem.run_pure, t1, hw]
      simp [hno, hbig, hno2, hE.run_size, h0, newRow]
      exact congrArg (fun x => w.alloc (Obj.cells x e)) (by simp)
    · simp only [execOp, Instr.makeSlice, Sem.run_bind, run_under hT.desc, Result.andThen_ok, ht.ev h1, ht.ev h2, asInt, asIntOf, Sem.run_pure, t1, hw]
      have hr := hrow i.toNat
      simp [hno, hbig, hno2, hE.run_size, h0, newRow, hE.run_zero, hz]
      exact congrArg (fun x => w.alloc (Obj.cells x e)) (by simpa using hr)
  | @pur d op v _ _ _ hp hd hk => exact .value hd fun a w ht hs => ⟨v, w, H, hp.sound ht _ _ _ _ _ w, hs, hk⟩

-- the type classes out of closed equations
def aggB : TypeDesc → Bool
  | .struct _ | .array _ _ => true
  | _ => false
theorem TyI.of {t : Nat} {r : TyRow} (h1 : (P.underlying t).map aggB = some r.agg) (h2 : (P.info? t).map (fun i => (i.size, i.bytes, i.zero)) = some (r.size, r.bytes, some r.zero)) : TyI P t r := by
  refine ⟨?_, ?_⟩
  · cases hd : P.underlying t with
    | none => simp [hd] at h1
    | some d => refine ⟨d, rfl, ?_⟩; rw [hd] at h1; simp at h1; rw [← h1]; cases d <;> rfl
  · cases hi : P.info? t with
    | none => simp [hi] at h2
    | some i => rw [hi] at h2; simp at h2; exact ⟨i, rfl, h2.1, h2.2.1, h2.2.2⟩
def fldB (d : Option TypeDesc) (f : Nat) : Option (Nat × Nat) :=
  match d with
  | some (.struct fs) => (fs[f]?).map fun g => (g.offset, g.type)
  | _ => none
theorem FldI.of {s f off e : Nat} (h1 : fldB (P.underlying s) f = some (off, e)) (h2 : Nat.beq (((P.info? e).map (·.size)).getD 0) 0 = false) : FldI P s f off e := by
  refine ⟨?_⟩
  unfold fldB at h1
  split at h1
  · rename_i fs hd
    cases hg : fs[f]? with
    | none => simp [hg] at h1
    | some g =>
      simp [hg] at h1
      exact ⟨fs, g, hd, hg, h1.1, h1.2, fun h => by rw [h] at h2; cases h2⟩
  · cases h1
def strB (P : Program) (d : Option TypeDesc) : Option (List (Nat × Option Nat)) :=
  match d with
  | some (.struct fs) => some (fs.toList.map fun g => (g.offset, (P.info? g.type).map (·.size)))
  | _ => none
theorem mapM_places {P : Program} : ∀ (fs : List Field) (pl : List (Nat × Nat)) (w : World), (fs.map fun g => (g.offset, (P.info? g.type).map (·.size))) = pl.map (fun x => (x.1, some x.2)) →
    (fs.mapM (m := Sem) fun f => do pure (f.offset, ← sizeOf f.type)).run P w = .ok pl w := by
  intro fs
  induction fs with
  | nil => intro pl w h; cases pl with
    | nil => simp
    | cons a b => simp at h
  | cons f fs ih =>
    intro pl w h
    cases pl with
    | nil => simp at h
    | cons p pl =>
      obtain ⟨p1, p2⟩ := p
      simp only [List.map_cons, List.cons.injEq, Prod.mk.injEq] at h
      obtain ⟨⟨h1, h2⟩, h3⟩ := h
      cases hi : P.info? f.type with
      | none => rw [hi] at h2; simp at h2
      | some i =>
        rw [hi] at h2
        simp at h2
        have := ih pl w h3
        have hsz : (sizeOf f.type).run P w = .ok i.size w := by simp [sizeOf, typeInfo, hi]
        simp only [List.mapM_cons, Sem.run_bind, hsz, Result.andThen_ok, Sem.run_pure]
        rw [this]
        simp [h1, h2]
theorem StrI.of {t : Nat} {pl : List (Nat × Nat)} {z : List Value} (h1 : strB P (P.underlying t) = some (pl.map fun x => (x.1, some x.2))) (h2 : ((P.info? t).map fun i => i.zero) = some (some (.agg ⟨z⟩))) : StrI P t pl z := by
  refine ⟨?_⟩
  unfold strB at h1
  split at h1
  · rename_i fs hd
    simp only [Option.some.injEq] at h1
    refine ⟨fs, hd, fun w => ?_, ?_⟩
    · have := mapM_places (P := P) fs.toList pl w h1
      rw [Array.mapM_eq_mapM_toList, Sem.run_map, this]
      rfl
    · cases hi : P.info? t with
      | none => simp [hi] at h2
      | some i => rw [hi] at h2; simp at h2; exact ⟨i, rfl, h2⟩
  · cases h1
theorem FnI.of {f : Nat} {fn : Func} (h : P.funcs[f]? = some fn) (hb : fn.body.isSome = true) (hn : fn.name ≠ "runtime.NumGoroutine") : FnI P f :=
  ⟨⟨fn, h, (fun e => by rw [e] at hb; cases hb), hn⟩⟩
end
end Go.Sl
