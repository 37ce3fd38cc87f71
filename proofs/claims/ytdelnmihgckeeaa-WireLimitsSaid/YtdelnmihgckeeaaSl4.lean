/- One operation at a time, over assertions: what each kind of operation comes to. No condition. -/
import Derived.Test.YtdelnmihgckeeaaSl3
namespace Go.Sl
set_option linter.unusedSimpArgs false
set_option linter.unusedVariables false

abbrev vint (k : IntKind) (n : Int) : Value := .int k n
/-- a string of bytes -/
abbrev str (l : List UInt8) : Value := .string ⟨⟨l⟩⟩

/-- what is loaded: found in the list of assertions -/
inductive LoadR (P : Program) : List HProp → TypeId → Value → Value → Prop
  | arr1 {t n y z b T p N s i j pre l post row v H} [TyI P t ⟨false, n, y, z⟩] : l[i]? = some row → SubL j 1 row [v] →
      LoadR P (arr b T p N s pre l post :: H) t (.pointer (some ⟨b, p + i * s + j, none⟩)) v
  | arrA {t n y z b T p N s i j pre l post row r H} [TyI P t ⟨true, n, y, z⟩] : l[i]? = some row → SubL j n row r →
      LoadR P (arr b T p N s pre l post :: H) t (.pointer (some ⟨b, p + i * s + j, none⟩)) (.agg ⟨r⟩)
  | arr1z {t n y z b T p N s i pre l post row v H} [TyI P t ⟨false, n, y, z⟩] : l[i]? = some row → SubL 0 1 row [v] →
      LoadR P (arr b T p N s pre l post :: H) t (.pointer (some ⟨b, p + i * s, none⟩)) v
  | arrAz {t n y z b T p N s i pre l post row r H} [TyI P t ⟨true, n, y, z⟩] : l[i]? = some row → SubL 0 n row r →
      LoadR P (arr b T p N s pre l post :: H) t (.pointer (some ⟨b, p + i * s, none⟩)) (.agg ⟨r⟩)
  | blk1 {t n y z b C T o v H} [TyI P t ⟨false, n, y, z⟩] : SubL o 1 C [v] → LoadR P (blk b C T :: H) t (.pointer (some ⟨b, o, none⟩)) v
  | blkA {t n y z b C T o l H} [TyI P t ⟨true, n, y, z⟩] : SubL o n C l → LoadR P (blk b C T :: H) t (.pointer (some ⟨b, o, none⟩)) (.agg ⟨l⟩)
  | there {c H t p v} : LoadR P H t p v → LoadR P (c :: H) t p v
theorem SubL.one {o : Nat} {C : List Value} {v : Value} (h : SubL o 1 C [v]) : C[o]? = some v := by
  have := congrArg (·[0]?) h.eq.2
  simpa [List.getElem?_take, List.getElem?_drop] using this
theorem LoadR.sound {P : Program} {H : List HProp} {t : TypeId} {p v : Value} (h : LoadR P H t p v) : LoadS P H t p v := by
  induction h with
  | arr1 hi hs => exact .arr_one hi hs
  | arrA hi hs => exact .arr_agg hi hs
  | arr1z hi hs => exact LoadS.arr_one (j := 0) hi hs
  | arrAz hi hs => exact LoadS.arr_agg (j := 0) hi hs
  | blk1 hs => exact .blk_one hs.one
  | blkA hs => exact .blk_agg hs
  | there _ ih => exact ih.there

inductive StoreR (P : Program) : List HProp → TypeId → Value → Value → List HProp → Prop
  | arr {t a n y z b T p N s i j pre l post row row' vs v H} [TyI P t ⟨a, n, y, z⟩] : CellsV v vs → vs.length = n → vs.all (·.oneCell') = true → l[i]? = some row → PutL j vs row row' →
      StoreR P (arr b T p N s pre l post :: H) t (.pointer (some ⟨b, p + i * s + j, none⟩)) v (arr b T p N s pre (l.set i row') post :: H)
  | arrz {t a n y z b T p N s i pre l post row row' vs v H} [TyI P t ⟨a, n, y, z⟩] : CellsV v vs → vs.length = n → vs.all (·.oneCell') = true → l[i]? = some row → PutL 0 vs row row' →
      StoreR P (arr b T p N s pre l post :: H) t (.pointer (some ⟨b, p + i * s, none⟩)) v (arr b T p N s pre (l.set i row') post :: H)
  | blk {t a n y z b C l vs T o v H} [TyI P t ⟨a, n, y, z⟩] : CellsV v vs → vs.length = n → vs.all (·.oneCell') = true → PutL o vs C l →
      StoreR P (blk b C T :: H) t (.pointer (some ⟨b, o, none⟩)) v (blk b l T :: H)
  | there {c H t p v H'} : StoreR P H t p v H' → StoreR P (c :: H) t p v (c :: H')
theorem StoreR.sound {P : Program} {H H' : List HProp} {t : TypeId} {p v : Value} (h : StoreR P H t p v H') : StoreS P H t p v H' := by
  induction h with
  | arr a b c d e => exact .arr a b c d e
  | arrz a b c d e => exact StoreS.arr (j := 0) a b c d e
  | blk a b c d => exact .blk a b c d
  | there _ ih => exact ih.there

-- operations on values
def bitV (op : BinOp) (k : IntKind) (x y : Int) : Int :=
  let a := BitVec.ofInt k.bits x
  let b := BitVec.ofInt k.bits y
  match op with
  | .and => k.wrap (a &&& b).toNat
  | .or => k.wrap (a ||| b).toNat
  | .xor => k.wrap (a ^^^ b).toNat
  | _ => k.wrap (a &&& ~~~b).toNat
/-- two rows of plain cells, held against each other as Go's '==' does -/
def eqCells : List Value → List Value → Bool
  | [], [] => true
  | .int _ a :: l, .int _ b :: r => (a == b) && eqCells l r
  | .bool a :: l, .bool b :: r => (a == b) && eqCells l r
  | .string a :: l, .string b :: r => (a.toList == b.toList) && eqCells l r
  | _, _ => false
/-- a row of integers of such kinds -/
inductive IntRow : List IntKind → List Value → Prop
  | nil : IntRow [] []
  | cons {k ks n l} : IntRow ks l → IntRow (k :: ks) (.int k n :: l)
/-- a struct type of integers alone: its '==' goes cell by cell -/
class EqTy (P : Program) (t : Nat) (ks : outParam (List IntKind)) : Prop where
  guard : P.eqGuardType P.depth t = false
  eq : ∀ (x y : List Value) (w : World), IntRow ks x → IntRow ks y → (Op.equalIn 10000 t (.agg ⟨x⟩) (.agg ⟨y⟩)).run P w = .ok (eqCells x y) w

/-- two strings that may be joined -/
def CatOk (x y : List UInt8) : Prop := ((x.length + y.length : Nat) : Int) ≤ 9223372036854775807
theorem catOk {x y : List UInt8} (h : x.length + y.length ≤ 16777216) : CatOk x y := by unfold CatOk; omega
inductive BinP (P : Program) : BinOp → TypeId → Value → Value → Value → Prop
  | add {k t x y} : BinP P .add t (.int k x) (.int k y) (.int k (k.wrap (x + y)))
  | sub {k t x y} : BinP P .sub t (.int k x) (.int k y) (.int k (k.wrap (x - y)))
  | mul {k t x y} : BinP P .mul t (.int k x) (.int k y) (.int k (k.wrap (x * y)))
  | rem {k t x y} : y ≠ 0 → BinP P .rem t (.int k x) (.int k y) (.int k (x.tmod y))
  | quo {k t x y} : y ≠ 0 → BinP P .quo t (.int k x) (.int k y) (.int k (k.wrap (x.tdiv y)))
  | eqi {k t x y} : BinP P .eql t (.int k x) (.int k y) (.bool (x == y))
  | nei {k t x y} : BinP P .neq t (.int k x) (.int k y) (.bool (x != y))
  | lti {k t x y} : BinP P .lss t (.int k x) (.int k y) (.bool (decide (x < y)))
  | lei {k t x y} : BinP P .leq t (.int k x) (.int k y) (.bool (decide (x ≤ y)))
  | gti {k t x y} : BinP P .gtr t (.int k x) (.int k y) (.bool (decide (y < x)))
  | gei {k t x y} : BinP P .geq t (.int k x) (.int k y) (.bool (decide (y ≤ x)))
  | shl {k j t x y} : 0 ≤ y → BinP P .shl t (.int k x) (.int j y) (.int k (k.wrap (x * 2 ^ (min y.toNat k.bits))))
  | shr {k j t x y} : 0 ≤ y → BinP P .shr t (.int k x) (.int j y) (.int k (x.fdiv (2 ^ (min y.toNat k.bits))))
  | and {k t x y} : BinP P .and t (.int k x) (.int k y) (.int k (bitV .and k x y))
  | or {k t x y} : BinP P .or t (.int k x) (.int k y) (.int k (bitV .or k x y))
  | xor {k t x y} : BinP P .xor t (.int k x) (.int k y) (.int k (bitV .xor k x y))
  | cat {t x y} : CatOk x y → BinP P .add t (str x) (str y) (str (x ++ y))
  | eqs {t x y} : BinP P .eql t (str x) (str y) (.bool (x == y))
  | nes {t x y} : BinP P .neq t (str x) (str y) (.bool (!(x == y)))
  | eqb {t x y} [TyD P t .bool] : BinP P .eql t (.bool x) (.bool y) (.bool (x == y))
  | neb {t x y} [TyD P t .bool] : BinP P .neq t (.bool x) (.bool y) (.bool (!(x == y)))
  | eqp0 {t e a} [TyD P t (.pointer e)] : BinP P .eql t (.pointer (some a)) (.pointer none) (.bool false)
  | nep0 {t e a} [TyD P t (.pointer e)] : BinP P .neq t (.pointer (some a)) (.pointer none) (.bool true)
  | eq00 {t e} [TyD P t (.pointer e)] : BinP P .eql t (.pointer none) (.pointer none) (.bool true)
  | ne00 {t e} [TyD P t (.pointer e)] : BinP P .neq t (.pointer none) (.pointer none) (.bool false)
  | eqa {t x y ks} [EqTy P t ks] : IntRow ks x → IntRow ks y → BinP P .eql t (.agg ⟨x⟩) (.agg ⟨y⟩) (.bool (eqCells x y))
  | flt {op t k j a b v} : (∀ w, (binOp op t (.float k a) (.float j b)).run P w = .ok v w) → BinP P op t (.float k a) (.float j b) v
  | cpx {op t k j a b c d v} : (∀ w, (binOp op t (.complex k a b) (.complex j c d)).run P w = .ok v w) → BinP P op t (.complex k a b) (.complex j c d) v
  | nea {t x y ks} [EqTy P t ks] : IntRow ks x → IntRow ks y → BinP P .neq t (.agg ⟨x⟩) (.agg ⟨y⟩) (.bool (!(eqCells x y)))

theorem i64max : IntKind.i64.max = 9223372036854775807 := by decide
/-- '==' and '!=' on values that are held against each other by their type -/
def byType : Value → Bool
  | .bool _ | .pointer _ => true
  | _ => false
theorem run_eqn {P : Program} (eq : Bool) (t : TypeId) (x y : Value) (r : Bool) (w : World) {a b : Operand} (hx : byType x = true)
    (h : (Op.equalIn 10000 t x y).run P w = .ok r w) :
    ((do eqGuard (if eq then .eql else .neq) t a b x y; binOp (if eq then .eql else .neq) t x y : Sem Value)).run P w = .ok (.bool (if eq then r else !r)) w := by
  have h' : (Op.equal t x y).run P w = .ok r w := h
  cases x <;> simp [byType] at hx
  · cases eq <;> cases y <;> simp [eqGuard, binOp, h']
  · cases eq <;> cases y <;> simp [eqGuard, binOp, h']
theorem run_eqp0 {P : Program} (d : Nat) {t e : TypeId} {a : Addr} (w : World) (h : P.underlying t = some (.pointer e)) :
    (Op.equalIn (d + 1) t (.pointer (some a)) (.pointer none)).run P w = .ok false w := by
  simp [Op.equalIn, run_under h]
theorem run_eq00 {P : Program} (d : Nat) {t e : TypeId} (w : World) (h : P.underlying t = some (.pointer e)) :
    (Op.equalIn (d + 1) t (.pointer none) (.pointer none)).run P w = .ok true w := by
  simp [Op.equalIn, run_under h]
theorem BinP.run {P : Program} {op : BinOp} {t : TypeId} {x y v : Value} (h : BinP P op t x y v) (a b : Operand) (w : World) :
    ((do eqGuard op t a b x y; binOp op t x y : Sem Value)).run P w = .ok v w := by
  cases h with
  | add | sub | mul | eqi | nei | lti | lei | gti | gei => simp [eqGuard, binOp, Op.intArith, Op.intCmp]
  | rem h => simp [eqGuard, binOp, Op.intDiv, h]
  | quo h => simp [eqGuard, binOp, Op.intDiv, h]
  | shl h => simp [eqGuard, binOp, Op.shift, Int.not_lt.2 h]
  | shr h => simp [eqGuard, binOp, Op.shift, Int.not_lt.2 h]
  | and | or | xor => simp [eqGuard, binOp, Op.intBits, bitV]
  | @cat t x y h =>
    have h' : ¬ (x.length + y.length : Int) > IntKind.i64.max := by rw [i64max]; unfold CatOk at h; simp at h; omega
    have hx : (⟨⟨x⟩⟩ : ByteArray).size = x.length := rfl
    have hy : (⟨⟨y⟩⟩ : ByteArray).size = y.length := rfl
    have e : (⟨⟨x⟩⟩ : ByteArray) ++ ⟨⟨y⟩⟩ = ⟨⟨x ++ y⟩⟩ := by
      apply ByteArray.ext
      simp [ByteArray.data_append]
    simp [eqGuard, binOp, Op.stringOp, hx, hy, e]
    unfold CatOk at h
    simpa using h
  | eqs => simp [eqGuard, binOp, Op.stringOp, ByteArray.toList_eq]
  | nes => simp [eqGuard, binOp, Op.stringOp, ByteArray.toList_eq]
  | @eqb t x y ht => exact run_eqn true t _ _ _ w rfl (run_equalIn_bool w 9999 t x y ht.desc)
  | @neb t x y ht => exact run_eqn false t _ _ _ w rfl (run_equalIn_bool w 9999 t x y ht.desc)
  | @eqp0 t e a ht => exact run_eqn true t _ _ _ w rfl (run_eqp0 9999 w ht.desc)
  | @nep0 t e a ht => exact run_eqn false t _ _ _ w rfl (run_eqp0 9999 w ht.desc)
  | @eq00 t e ht => exact run_eqn true t _ _ _ w rfl (run_eq00 9999 w ht.desc)
  | @ne00 t e ht => exact run_eqn false t _ _ _ w rfl (run_eq00 9999 w ht.desc)
  | @flt op t k j a' b' v h => cases op <;> simp [eqGuard] <;> exact h w
  | @cpx op t k j a' b' c' d' v h => cases op <;> simp [eqGuard] <;> exact h w
  | @eqa t x y ks ht h1 h2 => simp only [Sem.run_bind, run_eqGuard_agg w _ _ _ _ _ _ ht.guard, Result.andThen_ok, run_eql_struct, ht.eq x y w h1 h2]
  | @nea t x y ks ht h1 h2 => simp only [Sem.run_bind, run_eqGuard_agg w _ _ _ _ _ _ ht.guard, Result.andThen_ok, run_neq_struct, ht.eq x y w h1 h2]
end Go.Sl
