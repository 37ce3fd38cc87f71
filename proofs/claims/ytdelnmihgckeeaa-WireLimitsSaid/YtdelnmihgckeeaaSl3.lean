/- Types' rows, blocks and what is read from and written into them, over assertions. No condition. -/
import Derived.Test.YtdelnmihgckeeaaSl2
namespace Go.Sl
set_option linter.unusedSimpArgs false
set_option linter.unusedVariables false

/-- what is known of a type: is it a struct or an array, how many cells, how many bytes, its zero -/
structure TyRow where
  agg : Bool
  size : Nat
  bytes : Nat
  zero : Value
class TyI (P : Program) (t : Nat) (r : outParam TyRow) : Prop where
  desc : ∃ d, P.underlying t = some d ∧ r.agg = (match d with | .struct _ | .array _ _ => true | _ => false)
  info : ∃ i, P.info? t = some i ∧ i.size = r.size ∧ i.bytes = r.bytes ∧ i.zero = some r.zero
/-- a type's kind, plainly -/
class TyD (P : Program) (t : Nat) (d : outParam TypeDesc) : Prop where
  desc : P.underlying t = some d
/-- a struct's field: its place, its type -/
class FldI (P : Program) (s f : Nat) (off : outParam Nat) (t : outParam Nat) : Prop where
  fld : ∃ fs g, P.underlying s = some (.struct fs) ∧ fs[f]? = some g ∧ g.offset = off ∧ g.type = t ∧ ((P.info? t).map (·.size)).getD 0 ≠ 0

theorem TyI.run_typeInfo {P : Program} {t : Nat} {r : TyRow} (h : TyI P t r) (w : World) :
    ∃ i, (typeInfo t).run P w = .ok i w ∧ i.size = r.size ∧ i.bytes = r.bytes ∧ i.zero = some r.zero := by
  obtain ⟨i, hi, a, b, c⟩ := h.info
  exact ⟨i, by simp [typeInfo, hi], a, b, c⟩
theorem TyI.run_size {P : Program} {t : Nat} {r : TyRow} (h : TyI P t r) (w : World) : (sizeOf t).run P w = .ok r.size w := by
  obtain ⟨i, hi, a, _⟩ := h.run_typeInfo w
  simp [sizeOf, hi, a]
theorem TyI.run_zero {P : Program} {t : Nat} {r : TyRow} (h : TyI P t r) (w : World) : (zeroValue t).run P w = .ok r.zero w := by
  obtain ⟨i, hi, _, _, c⟩ := h.run_typeInfo w
  simp [zeroValue, hi, c]
theorem TyI.run_agg {P : Program} {t : Nat} {r : TyRow} (h : TyI P t r) (w : World) : (isAgg t).run P w = .ok r.agg w := by
  obtain ⟨d, hd, e⟩ := h.desc
  rw [e]
  cases d <;> simp [isAgg, underlying, hd]
theorem run_under {P : Program} {t : Nat} {d : TypeDesc} (h : P.underlying t = some d) (w : World) : (underlying t).run P w = .ok d w := by
  simp [underlying, h]

/-- a block of cells -/
def blk (b : Nat) (C : List Value) (T : TypeId) : HProp := pt b (.cells C.toArray T (0, 0))
/-- a block in which an array lies: what is ahead of it, its rows, what is behind -/
def arr (b T p N s : Nat) (pre : List Value) (l : List (List Value)) (post : List Value) : HProp := fun h =>
  blk b (pre ++ l.flatten ++ post) T h ∧ pre.length = p ∧ l.length = N ∧ ∀ r ∈ l, r.length = s

def Addr.at (b o : Nat) : Addr := ⟨b, o, none⟩
theorem add_none (b o n : Nat) : (⟨b, o, none⟩ : Addr).add n = ⟨b, o + n, none⟩ := by
  unfold Addr.add
  split
  · rename_i h; subst h; rfl
  · rfl

theorem cell_blk {w : World} {b : Nat} {C : List Value} {T : TypeId} {o : Nat} (h : w.heap[b]? = some (.cells C.toArray T (0, 0))) :
    w.cell? ⟨b, o, none⟩ = C[o]? := by
  simp [World.cell?, h]
theorem frozen_blk {w : World} {b : Nat} {C : List Value} {T : TypeId} {o : Nat} (h : w.heap[b]? = some (.cells C.toArray T (0, 0))) :
    w.frozen? ⟨b, o, none⟩ = false := by
  simp [World.frozen?, h]

theorem run_load_blk {P : Program} {w : World} {b : Nat} {C : List Value} {T : TypeId} {o : Nat} {v : Value} (h : w.heap[b]? = some (.cells C.toArray T (0, 0)))
    (hv : C[o]? = some v) : (load ⟨b, o, none⟩).run P w = .ok v w := by
  simp [cell_blk h, hv]
theorem run_loadCellsFrom {P : Program} {w : World} {b : Nat} {C : List Value} {T : TypeId} (h : w.heap[b]? = some (.cells C.toArray T (0, 0))) (o : Nat) :
    ∀ (n i : Nat) (acc : Array Value), o + i + n ≤ C.length → (loadCellsFrom ⟨b, o, none⟩ i n acc).run P w = .ok (acc ++ ((C.drop (o + i)).take n).toArray) w := by
  intro n
  induction n with
  | zero => intro i acc _; simp [loadCellsFrom]
  | succ n ih =>
    intro i acc hl
    have hlt : o + i < C.length := by omega
    have hc : C[o + i]? = some C[o + i] := List.getElem?_eq_getElem hlt
    have hld : (load ⟨b, o + i, none⟩).run P w = .ok C[o + i] w := run_load_blk h hc
    simp only [loadCellsFrom, Sem.run_bind, add_none, hld, Result.andThen_ok]
    rw [ih (i + 1) _ (by omega)]
    congr 1
    rw [List.drop_eq_getElem_cons hlt]
    simp [Nat.add_assoc]
theorem run_loadCells {P : Program} {w : World} {b : Nat} {C : List Value} {T : TypeId} (h : w.heap[b]? = some (.cells C.toArray T (0, 0))) {o n : Nat}
    (hl : o + n ≤ C.length) : (loadCells ⟨b, o, none⟩ n).run P w = .ok ((C.drop o).take n).toArray w := by
  have := run_loadCellsFrom (P := P) h o n 0 #[] (by omega)
  simpa [loadCells] using this

/-- a world with one block another -/
theorem setCell_blk {w : World} {b : Nat} {C : List Value} {T : TypeId} {o : Nat} {v : Value} (h : w.heap[b]? = some (.cells C.toArray T (0, 0))) :
    (w.setCell ⟨b, o, none⟩ v).heap[b]? = some (.cells (C.set o v).toArray T (0, 0)) ∧
    (∀ c, c ≠ b → (w.setCell ⟨b, o, none⟩ v).heap[c]? = w.heap[c]?) ∧ Alike w (w.setCell ⟨b, o, none⟩ v) := by
  refine ⟨?_, fun c hc => ?_, by simp [World.setCell], rfl, rfl⟩
  · simp [World.setCell, Array.getElem?_modify, h]
  · simp [World.setCell, Array.getElem?_modify, Ne.symm hc]

def setL : List Value → Nat → List Value → List Value
  | C, _, [] => C
  | C, o, v :: vs => setL (C.set o v) (o + 1) vs
theorem setL_length : ∀ (vs C : List Value) (o : Nat), (setL C o vs).length = C.length := by
  intro vs
  induction vs with
  | nil => intro C o; rfl
  | cons v vs ih => intro C o; simp [setL, ih]
theorem setL_eq : ∀ (vs C : List Value) (o : Nat), o + vs.length ≤ C.length → setL C o vs = C.take o ++ vs ++ C.drop (o + vs.length) := by
  intro vs
  induction vs with
  | nil => intro C o _; simp [setL]
  | cons v vs ih =>
    intro C o h
    simp only [List.length_cons] at h
    rw [setL, ih _ _ (by simp; omega)]
    have h1 : (C.set o v).take (o + 1) = C.take o ++ [v] := by
      rw [List.take_set, List.take_succ_eq_append_getElem (by omega), List.set_append]
      simp [Nat.min_eq_left (by omega : o ≤ C.length)]
    have h2 : (C.set o v).drop (o + 1 + vs.length) = C.drop (o + (vs.length + 1)) := by
      rw [List.drop_set, if_pos (by omega)]
      congr 1; omega
    rw [h1, h2]
    simp
def oneCells (vs : List Value) : Prop := ∀ v ∈ vs, v.oneCell' = true
theorem run_storeCells {P : Program} {b : Nat} {T : TypeId} {o : Nat} : ∀ (vs C : List Value) (w : World) (i : Nat), w.heap[b]? = some (.cells C.toArray T (0, 0)) →
    oneCells vs → o + i + vs.length ≤ C.length → ∃ w', (storeCells ⟨b, o, none⟩ vs i).run P w = .ok () w' ∧
      w'.heap[b]? = some (.cells (setL C (o + i) vs).toArray T (0, 0)) ∧ (∀ c, c ≠ b → w'.heap[c]? = w.heap[c]?) ∧ Alike w w' := by
  intro vs
  induction vs with
  | nil => intro C w i h _ _; exact ⟨w, by simp [storeCells], h, fun _ _ => rfl, rfl, rfl, rfl⟩
  | cons v vs ih =>
    intro C w i h h1 hl
    simp only [List.length_cons] at hl
    have hv := h1 v (by simp)
    have hc : C[o + i]? = some (C[o + i]'(by omega)) := List.getElem?_eq_getElem (by omega)
    obtain ⟨s1, s2, s3⟩ := setCell_blk (o := o + i) (v := v) h
    obtain ⟨w', r1, r2, r3, r4⟩ := ih (C.set (o + i) v) (w.setCell ⟨b, o + i, none⟩ v) (i + 1) s1 (fun x hx => h1 x (by simp [hx])) (by simp; omega)
    refine ⟨w', ?_, by simpa [setL, Nat.add_assoc] using r2, fun c hc => (r3 c hc).trans (s2 c hc), r4.1.trans s3.1, r4.2.1.trans s3.2.1, r4.2.2.trans s3.2.2⟩
    have e : (store ⟨b, o + i, none⟩ v).run P w = .ok () (w.setCell ⟨b, o + i, none⟩ v) := by
      rw [run_store P w _ v _ hv, cell_blk h, hc, frozen_blk h]; rfl
    simp only [storeCells, Sem.run_bind, add_none, e, Result.andThen_ok]
    exact r1

def LoadS (P : Program) (H : List HProp) (t : TypeId) (p v : Value) : Prop := ∀ w, Sat w (sl H) → (Instr.loadAt t p).run P w = .ok v w
def StoreS (P : Program) (H : List HProp) (t : TypeId) (p v : Value) (H' : List HProp) : Prop :=
  ∀ w F, Sat w (star F (sl H)) → ∃ w', (Instr.storeAt t p v).run P w = .ok () w' ∧ Sat w' (star F (sl H'))

/-- n cells of a list from a place on -/
inductive SubL : Nat → Nat → List Value → List Value → Prop
  | nil {C} : SubL 0 0 C []
  | take {n v C l} : SubL 0 n C l → SubL 0 (n + 1) (v :: C) (v :: l)
  | drop {o n v C l} : SubL o n C l → SubL (o + 1) n (v :: C) l
theorem SubL.eq {o n : Nat} {C l : List Value} (h : SubL o n C l) : o + n ≤ C.length ∧ (C.drop o).take n = l := by
  induction h with
  | nil => simp
  | take _ ih => simp at ih ⊢; exact ⟨by omega, ih.2⟩
  | drop _ ih => simp at ih ⊢; exact ⟨by omega, ih.2⟩
/-- some cells put into a list from a place on -/
inductive PutL : Nat → List Value → List Value → List Value → Prop
  | nil {C} : PutL 0 [] C C
  | put {x v vs C l} : PutL 0 vs C l → PutL 0 (v :: vs) (x :: C) (v :: l)
  | drop {o vs v C l} : PutL o vs C l → PutL (o + 1) vs (v :: C) (v :: l)
theorem PutL.eq {o : Nat} {vs C l : List Value} (h : PutL o vs C l) : o + vs.length ≤ C.length ∧ setL C o vs = l := by
  have : o + vs.length ≤ C.length ∧ C.take o ++ vs ++ C.drop (o + vs.length) = l := by
    induction h with
    | nil => simp
    | put _ ih => simp at ih ⊢; exact ⟨by omega, ih.2⟩
    | @drop o vs v C l _ ih =>
      simp only [List.length_cons]
      refine ⟨by omega, ?_⟩
      have e : o + 1 + vs.length = (o + vs.length) + 1 := by omega
      rw [e]
      simp
      simpa using ih.2
  exact ⟨this.1, (setL_eq vs C o this.1).trans this.2⟩
/-- a value's cells -/
inductive CellsV : Value → List Value → Prop
  | agg {l} : CellsV (.agg ⟨l⟩) l
  | bool {b} : CellsV (.bool b) [.bool b]
  | int {k n} : CellsV (.int k n) [.int k n]
  | string {s} : CellsV (.string s) [.string s]
  | pointer {a} : CellsV (.pointer a) [.pointer a]
  | slice {a n c} : CellsV (.slice a n c) [.slice a n c]
  | complex {k a b} : CellsV (.complex k a b) [.complex k a b]
  | float {k a} : CellsV (.float k a) [.float k a]
  | func {f a b} : CellsV (.func f a b) [.func f a b]
  | nilFunc : CellsV .nilFunc [.nilFunc]
theorem CellsV.eq {v : Value} {l : List Value} (h : CellsV v l) : v.cells.toList = l := by cases h <;> rfl

theorem run_loadVar {P : Program} {t : TypeId} {r : TyRow} [ht : TyI P t r] {w : World} {b : Nat} {C : List Value} {T : TypeId} {o : Nat} {v : Value}
    (h : w.heap[b]? = some (.cells C.toArray T (0, 0)))
    (hv : (r.agg = true ∧ o + r.size ≤ C.length ∧ v = .agg ((C.drop o).take r.size).toArray) ∨ (r.agg = false ∧ C[o]? = some v)) :
    (Instr.loadAt t (.pointer (some ⟨b, o, none⟩))).run P w = .ok v w := by
  unfold Instr.loadAt loadVar
  simp only [Instr.sureAddr, Sem.run_bind, Sem.run_pure, Result.andThen_ok, ht.run_agg]
  rcases hv with ⟨ha, hl, rfl⟩ | ⟨ha, hc⟩
  · simp [ha, ht.run_size, run_loadCells h hl]
  · simp only [ha, Bool.false_eq_true, if_false]
    exact run_load_blk h hc
theorem run_storeVar {P : Program} {t : TypeId} {r : TyRow} [ht : TyI P t r] {w : World} {b : Nat} {C : List Value} {T : TypeId} {o : Nat} {v : Value} {vs : List Value}
    (h : w.heap[b]? = some (.cells C.toArray T (0, 0))) (hc : CellsV v vs) (hs : vs.length = r.size) (h1 : oneCells vs) (hl : o + vs.length ≤ C.length) :
    ∃ w', (Instr.storeAt t (.pointer (some ⟨b, o, none⟩)) v).run P w = .ok () w' ∧
      w'.heap[b]? = some (.cells (setL C o vs).toArray T (0, 0)) ∧ (∀ c, c ≠ b → w'.heap[c]? = w.heap[c]?) ∧ Alike w w' := by
  obtain ⟨w', r1, r2, r3, r4⟩ := run_storeCells (P := P) vs C w 0 h h1 (by omega)
  refine ⟨w', ?_, r2, r3, r4⟩
  have he := hc.eq
  have hsz : v.cells.size = r.size := by rw [← Array.length_toList, he, hs]
  unfold Instr.storeAt storeVar
  simp only [Instr.sureAddr, Sem.run_bind, Sem.run_pure, Result.andThen_ok, ht.run_size, hsz, he]
  simpa using r1

theorem oneCells_of (vs : List Value) (h : vs.all (·.oneCell') = true) : oneCells vs := fun v hv => List.all_eq_true.1 h v hv

section
variable {P : Program} {H H' : List HProp} {t : TypeId} {r : TyRow}
theorem LoadS.there {c : HProp} {p v : Value} (h : LoadS P H t p v) : LoadS P (c :: H) t p v := fun _ hs => h _ hs.right
theorem StoreS.there {c : HProp} {p v : Value} (h : StoreS P H t p v H') : StoreS P (c :: H) t p v (c :: H') := fun w F hs =>
  let ⟨w', a, b⟩ := h w (star F c) (hs.mono fun _ => star_assoc)
  ⟨w', a, b.mono fun _ => star_assoc'⟩
theorem StoreS.run {p v : Value} (h : StoreS P H t p v H') {w : World} (hs : Sat w (sl H)) : ∃ w', (Instr.storeAt t p v).run P w = .ok () w' ∧ Sat w' (sl H') :=
  let ⟨w', a, b⟩ := h w emp (hs.mono fun _ x => star_comm (star_emp_r' x))
  ⟨w', a, b.mono fun _ x => star_emp_r (star_comm x)⟩
theorem LoadS.blk_one {n y : Nat} {z : Value} [TyI P t ⟨false, n, y, z⟩] {b : Nat} {C : List Value} {T : TypeId} {o : Nat} {v : Value} (hv : C[o]? = some v) :
    LoadS P (blk b C T :: H) t (.pointer (some ⟨b, o, none⟩)) v := fun w hs => run_loadVar (Sat.look hs) (.inr ⟨rfl, hv⟩)
theorem LoadS.blk_agg {n y : Nat} {z : Value} [TyI P t ⟨true, n, y, z⟩] {b : Nat} {C l : List Value} {T : TypeId} {o : Nat} (hv : SubL o n C l) :
    LoadS P (blk b C T :: H) t (.pointer (some ⟨b, o, none⟩)) (.agg ⟨l⟩) := fun w hs =>
  run_loadVar (Sat.look hs) (.inl ⟨rfl, hv.eq.1, by rw [hv.eq.2]⟩)
theorem StoreS.blk {a : Bool} {n y : Nat} {z : Value} [TyI P t ⟨a, n, y, z⟩] {b : Nat} {C l vs : List Value} {T : TypeId} {o : Nat} {v : Value} (hc : CellsV v vs)
    (hn : vs.length = n) (h1 : vs.all (·.oneCell') = true) (hp : PutL o vs C l) :
    StoreS P (blk b C T :: H) t (.pointer (some ⟨b, o, none⟩)) v (blk b l T :: H) := fun w F hs => by
  have hs' : Sat w (star (Sl.blk b C T) (star F (sl H))) := hs.mono fun _ => star_swap
  obtain ⟨w', a1, a2, a3, a4⟩ := run_storeVar (P := P) (t := t) (Sat.look hs') hc hn (oneCells_of _ h1) hp.eq.1
  refine ⟨w', a1, ?_⟩
  rw [hp.eq.2] at a2
  exact (hs'.put a4 a2 a3).mono fun _ => star_swap

-- a row of an array in a block
theorem arr_blk {b T p N s : Nat} {pre : List Value} {l : List (List Value)} {post : List Value} {h : PHeap} (ha : arr b T p N s pre l post h) :
    blk b (pre ++ l.flatten ++ post) T h := ha.1
theorem flat_len : ∀ (l : List (List Value)) (s : Nat), (∀ r ∈ l, r.length = s) → l.flatten.length = l.length * s := by
  intro l s h
  induction l with
  | nil => simp
  | cons x l ih =>
    simp only [List.flatten_cons, List.length_append, List.length_cons]
    rw [ih (fun r hr => h r (by simp [hr])), h x (by simp), Nat.add_mul]
    omega
theorem flat_row : ∀ (l : List (List Value)) (s i : Nat) (row : List Value), (∀ r ∈ l, r.length = s) → l[i]? = some row →
    (l.flatten.drop (i * s)).take s = row ∧ i * s + s ≤ l.flatten.length := by
  intro l s
  induction l with
  | nil => intro i row _ h; simp at h
  | cons x l ih =>
    intro i row hr hi
    have hx := hr x (by simp)
    cases i with
    | zero =>
      simp at hi
      subst hi
      simp [List.take_append, hx]
    | succ i =>
      simp only [List.getElem?_cons_succ] at hi
      obtain ⟨a, b⟩ := ih i row (fun r h => hr r (by simp [h])) hi
      have e : (i + 1) * s = s + i * s := by rw [Nat.add_mul]; omega
      constructor
      · rw [e, List.flatten_cons, List.drop_append, List.drop_eq_nil_of_le (by omega), hx]
        simpa using a
      · rw [e, List.flatten_cons, List.length_append, hx]; omega
theorem arr_row {b T p N s i j n : Nat} {pre : List Value} {l : List (List Value)} {post row r' : List Value} {h : PHeap} (ha : arr b T p N s pre l post h)
    (hi : l[i]? = some row) (hs : SubL j n row r') :
    ((pre ++ l.flatten ++ post).drop (p + i * s + j)).take n = r' ∧ p + i * s + j + n ≤ (pre ++ l.flatten ++ post).length := by
  obtain ⟨_, hp, _, hr⟩ := ha
  obtain ⟨a, c⟩ := flat_row l s i row hr hi
  obtain ⟨e1, e2⟩ := hs.eq
  have hrow : row.length = s := hr row (List.mem_of_getElem? hi)
  have hj : j + n ≤ s := by omega
  constructor
  · rw [← e2, ← a]
    rw [List.append_assoc, Nat.add_assoc, List.drop_append]
    simp only [hp, Nat.add_sub_cancel_left]
    rw [List.drop_eq_nil_of_le (by omega), List.nil_append, List.drop_append, ← List.drop_drop]
    rw [List.take_append, List.drop_take, List.take_take, Nat.min_eq_left (by omega)]
    have : n - (List.drop j (List.drop (i * s) l.flatten)).length = 0 := by simp only [List.length_drop]; omega
    rw [this]; simp
  · simp only [List.length_append]; omega
theorem LoadS.arr_agg {n y : Nat} {z : Value} [TyI P t ⟨true, n, y, z⟩] {b T p N s i j : Nat} {pre : List Value} {l : List (List Value)} {post row r' : List Value}
    (hi : l[i]? = some row) (hs : SubL j n row r') : LoadS P (arr b T p N s pre l post :: H) t (.pointer (some ⟨b, p + i * s + j, none⟩)) (.agg ⟨r'⟩) := fun w hw => by
  have hw' := hw
  obtain ⟨h, ⟨h1, h2, ha, r⟩, hin⟩ := hw
  obtain ⟨e1, e2⟩ := arr_row ha hi hs
  have hs' : Sat w (star (Sl.blk b (pre ++ l.flatten ++ post) T) (sl H)) := ⟨h, ⟨h1, h2, ha.1, r⟩, hin⟩
  exact run_loadVar (Sat.look hs') (.inl ⟨rfl, e2, by rw [e1]⟩)
theorem LoadS.arr_one {n y : Nat} {z : Value} [TyI P t ⟨false, n, y, z⟩] {b T p N s i j : Nat} {pre : List Value} {l : List (List Value)} {post row : List Value} {v : Value}
    (hi : l[i]? = some row) (hs : SubL j 1 row [v]) : LoadS P (arr b T p N s pre l post :: H) t (.pointer (some ⟨b, p + i * s + j, none⟩)) v := fun w hw => by
  obtain ⟨h, ⟨h1, h2, ha, r⟩, hin⟩ := hw
  obtain ⟨e1, e2⟩ := arr_row ha hi hs
  have hs' : Sat w (star (Sl.blk b (pre ++ l.flatten ++ post) T) (sl H)) := ⟨h, ⟨h1, h2, ha.1, r⟩, hin⟩
  refine run_loadVar (Sat.look hs') (.inr ⟨rfl, ?_⟩)
  have := congrArg (·[0]?) e1
  simpa [List.getElem?_take, List.getElem?_drop] using this
theorem setL_mid : ∀ (vs A R B : List Value) (j : Nat), j + vs.length ≤ R.length → setL (A ++ R ++ B) (A.length + j) vs = A ++ setL R j vs ++ B := by
  intro vs
  induction vs with
  | nil => intro A R B j _; rfl
  | cons v vs ih =>
    intro A R B j h
    simp only [List.length_cons] at h
    have e : (A ++ R ++ B).set (A.length + j) v = A ++ R.set j v ++ B := by
      rw [List.append_assoc, List.set_append, if_neg (by omega), Nat.add_sub_cancel_left, List.set_append, if_pos (by omega), List.append_assoc]
    rw [setL, e, Nat.add_assoc, ih A (R.set j v) B (j + 1) (by simp; omega), setL]
theorem split_row (l : List (List Value)) (i : Nat) (row : List Value) (h : l[i]? = some row) : l = l.take i ++ row :: l.drop (i + 1) := by
  obtain ⟨hlt, e⟩ := List.getElem?_eq_some_iff.1 h
  rw [← e, ← List.drop_eq_getElem_cons hlt, List.take_append_drop]
theorem set_row (l : List (List Value)) (i : Nat) (row row' : List Value) (h : l[i]? = some row) : l.set i row' = l.take i ++ row' :: l.drop (i + 1) := by
  obtain ⟨hlt, _⟩ := List.getElem?_eq_some_iff.1 h
  rw [List.set_eq_take_append_cons_drop, if_pos hlt]
theorem arr_store {T b p N s i j : Nat} {pre : List Value} {l : List (List Value)} {post row row' vs : List Value} {h : PHeap} (ha : arr b T p N s pre l post h)
    (hi : l[i]? = some row) (hs : PutL j vs row row') :
    p + i * s + j + vs.length ≤ (pre ++ l.flatten ++ post).length ∧
    setL (pre ++ l.flatten ++ post) (p + i * s + j) vs = pre ++ (l.set i row').flatten ++ post ∧
    (l.set i row').length = N ∧ ∀ r ∈ l.set i row', r.length = s := by
  obtain ⟨_, hp, hN, hr⟩ := ha
  obtain ⟨e1, e2⟩ := hs.eq
  obtain ⟨_, c⟩ := flat_row l s i row hr hi
  have hrow : row.length = s := hr row (List.mem_of_getElem? hi)
  have hlt := (List.getElem?_eq_some_iff.1 hi).1
  have hl1 : (l.take i).flatten.length = i * s := by
    rw [flat_len (l.take i) s (fun r h => hr r (List.mem_of_mem_take h))]
    simp [Nat.min_eq_left (Nat.le_of_lt hlt)]
  refine ⟨by simp only [List.length_append]; omega, ?_, by simp [hN], fun r hm => ?_⟩
  · rw [set_row l i row row' hi]
    have e3 : pre ++ l.flatten ++ post = (pre ++ (l.take i).flatten) ++ row ++ ((l.drop (i + 1)).flatten ++ post) := by
      conv => lhs; rw [split_row l i row hi]
      simp
    have e4 : p + i * s + j = (pre ++ (l.take i).flatten).length + j := by simp only [List.length_append]; omega
    rw [e3, e4, setL_mid vs _ row _ j e1, e2]
    simp
  · rcases List.mem_or_eq_of_mem_set hm with h1 | h1
    · exact hr r h1
    · rw [h1, ← e2, setL_length, hrow]
theorem StoreS.arr {a : Bool} {n y : Nat} {z : Value} [TyI P t ⟨a, n, y, z⟩] {b T p N s i j : Nat} {pre : List Value} {l : List (List Value)} {post row row' vs : List Value} {v : Value}
    (hc : CellsV v vs) (hn : vs.length = n) (h1 : vs.all (·.oneCell') = true) (hi : l[i]? = some row) (hs : PutL j vs row row') :
    StoreS P (arr b T p N s pre l post :: H) t (.pointer (some ⟨b, p + i * s + j, none⟩)) v (arr b T p N s pre (l.set i row') post :: H) := fun w F hw => by
  have hw' : Sat w (star (Sl.arr b T p N s pre l post) (star F (sl H))) := hw.mono fun _ => star_swap
  obtain ⟨h, ⟨h1', h2, ha, r⟩, hin⟩ := hw'
  obtain ⟨e1, e2, e3, e4⟩ := arr_store ha hi hs
  have hs' : Sat w (star (Sl.blk b (pre ++ l.flatten ++ post) T) (star F (sl H))) := ⟨h, ⟨h1', h2, ha.1, r⟩, hin⟩
  obtain ⟨w', a1, a2, a3, a4⟩ := run_storeVar (P := P) (t := t) (Sat.look hs') hc hn (oneCells_of _ h1) e1
  refine ⟨w', a1, ?_⟩
  rw [e2] at a2
  have hx := hs'.put a4 a2 a3
  refine hx.mono fun g hg => star_swap (star_mono (fun g' hg' => ?_) (fun _ x => x) hg)
  exact ⟨hg', ha.2.1, e3, e4⟩
end
end Go.Sl
