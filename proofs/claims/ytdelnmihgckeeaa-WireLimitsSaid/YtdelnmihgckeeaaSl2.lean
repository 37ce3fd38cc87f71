/- The steps of a run over assertions: environments of temporaries, what one operation, a region, a piece of code comes to, each stated over what is known of the temporaries and of the heap. No condition. -/
import Derived.Test.YtdelnmihgckeeaaSl1
namespace Go.Sl
set_option linter.unusedSimpArgs false
set_option linter.unusedVariables false

abbrev Env := List (Nat × Value)
def lk : Env → Nat → Option Value
  | [], _ => none
  | (i, v) :: τ, j => bif Nat.beq i j then some v else lk τ j
def ev (τ : Env) : Operand → Option Value
  | .tmp t => lk τ t
  | .const v => some v
  | .global g => some (.pointer (some ⟨g, 0, none⟩))
  | .func f => some (.func (.func f) #[] #[])
def putE (d : Option Nat) (v : Value) (τ : Env) : Env :=
  match d with
  | some d => (d, v) :: τ
  | none => τ
def okD (d : Option Nat) (n : Nat) : Bool :=
  match d with
  | some d => Nat.blt d n
  | none => true

structure TM (n : Nat) (τ : Env) (a : Act) : Prop where
  size : a.tmps.size = n
  look : ∀ i v, lk τ i = some v → a.tmps[i]? = some v
  defers : a.defers = []

theorem TM.ev {n : Nat} {τ : Env} {a : Act} (h : TM n τ a) {x : Operand} {v : Value} (e : ev τ x = some v) : a.eval x = v := by
  cases x with
  | tmp t =>
    have := h.look t v e
    show a.tmps.getD t undef = v
    simp [this]
  | const c => exact (Option.some.inj e)
  | global g => exact (Option.some.inj e)
  | func f => exact (Option.some.inj e)

theorem TM.put {n : Nat} {τ : Env} {a : Act} (h : TM n τ a) {d : Option Nat} {v : Value} (hd : okD d n = true) : TM n (putE d v τ) (a.put d v) := by
  cases d with
  | none => exact h
  | some d =>
    have hlt : d < n := Eq.mp Nat.blt_eq hd
    refine ⟨by simp [Act.put, h.size], fun i u hi => ?_, h.defers⟩
    show (a.tmps.setIfInBounds d v)[i]? = some u
    simp only [putE, lk] at hi
    cases hb : Nat.beq d i with
    | true =>
      have : d = i := Nat.eq_of_beq_eq_true hb
      subst this
      rw [hb] at hi
      simp at hi
      subst hi
      simp [h.size, hlt]
    | false =>
      have hne : d ≠ i := fun e => by subst e; simp at hb
      rw [hb] at hi
      rw [Array.getElem?_setIfInBounds_ne hne]
      exact h.look i u hi

/-- what is known of fewer temporaries -/
def Env.le (τ' τ : Env) : Prop := ∀ i v, lk τ' i = some v → lk τ i = some v
theorem TM.weaken {n : Nat} {τ τ' : Env} {a : Act} (h : TM n τ a) (hl : Env.le τ' τ) : TM n τ' a :=
  ⟨h.size, fun i v e => h.look i v (hl i v e), h.defers⟩
theorem Env.le_nil {τ : Env} : Env.le [] τ := fun _ _ h => by simp [lk] at h
theorem Env.le_cons {τ τ' : Env} {i : Nat} {v : Value} (h : lk τ i = some v) (hl : Env.le τ' τ) : Env.le ((i, v) :: τ') τ := fun j u hj => by
  simp only [lk] at hj
  cases hb : Nat.beq i j with
  | true =>
    have : i = j := Nat.eq_of_beq_eq_true hb
    subst this
    rw [hb] at hj
    simp at hj
    subst hj
    exact h
  | false => rw [hb] at hj; exact hl j u hj

section
variable (P : Program)

abbrev Cont := Env → List HProp → Prop

/-- an operation comes to what 'next' says -/
def OpS (n : Nat) (o : Oper) (τ : Env) (H : List HProp) (next : Cont) : Prop :=
  ∀ a w, TM n τ a → Sat w (sl H) → ∀ (K : Act → World → Prop) (Q : Exit → Act → World → Prop),
    (∀ a' w' τ' H', TM n τ' a' → Sat w' (sl H') → next τ' H' → K a' w') → o.wp P a w K Q

/-- the rest of a region's operations -/
def SO (ops : Array Oper) (n : Nat) (k : Cont) (rest : List Oper) (τ : Env) (H : List HProp) : Prop :=
  ∀ a w, TM n τ a → Sat w (sl H) →
    wpList P ops (fun e a' w' => e = .normal ∧ ∃ τ' H', TM n τ' a' ∧ Sat w' (sl H') ∧ k τ' H') rest a w

/-- the rest of a function's code -/
def SX (n : Nat) (K : Cont) (k : List Item) (τ : Env) (H : List HProp) : Prop :=
  ∀ a w, TM n τ a → Sat w (sl H) → ∀ (b : Frame) (cs : List Frame), ∃ a' w' todo,
    Steps P (lone (b.at a k) cs w) (lone { b.at a' todo with mode := .returning } cs w') ∧ ∃ τ' H', TM n τ' a' ∧ Sat w' (sl H') ∧ K τ' H'
end

section
variable {P : Program} {n : Nat} {τ : Env} {H : List HProp} {next : Cont} {ops : Array Oper} {k : Cont} {rest : List Oper} {K : Cont} {it : List Item}

theorem OpS.value {o : Oper} (hd : okD o.dst n = true)
    (h : ∀ a w, TM n τ a → Sat w (sl H) → ∃ v w' H', (execOp a.eval o).run P w = .ok (.value v) w' ∧ Sat w' (sl H') ∧ next (putE o.dst v τ) H') :
    OpS P n o τ H next := by
  intro a w ht hs K Q hK
  obtain ⟨v, w', H', hr, hs', hn⟩ := h a w ht hs
  unfold Oper.wp
  rw [hr]
  exact hK _ _ _ _ (ht.put hd) hs' hn
theorem OpS.skip {o : Oper} (hd : okD o.dst n = true)
    (h : ∀ a w, TM n τ a → Sat w (sl H) → ∃ w' H', (execOp a.eval o).run P w = .ok .skip w' ∧ Sat w' (sl H') ∧ next (putE o.dst undef τ) H') :
    OpS P n o τ H next := by
  intro a w ht hs K Q hK
  obtain ⟨w', H', hr, hs', hn⟩ := h a w ht hs
  unfold Oper.wp
  rw [hr]
  exact hK _ _ _ _ (ht.put hd) hs' hn

theorem so_nil (h : k τ H) : SO P ops n k [] τ H := fun _ _ ht hs => ⟨rfl, τ, H, ht, hs, h⟩
theorem so_plain {dst : Option Tmp} {op : Op} {type : TypeId} {pos : String} {after : Array Edge}
    (h : OpS P n ⟨dst, op, type, pos, after, none⟩ τ H (fun τ' H' => SO P ops n k rest τ' H')) : SO P ops n k (⟨dst, op, type, pos, after, none⟩ :: rest) τ H := by
  intro a w ht hs
  unfold wpList
  rw [if_pos (by simp [Region.wanted])]
  exact .inl (h a w ht hs _ _ fun a' w' τ' H' ht' hs' hk => hk a' w' ht' hs')

/-- the value that a guard looks at -/
def gval (ops : Array Oper) (τ : Env) (j : Nat) : Option Value := ((ops[j]?).bind (·.dst)).bind (lk τ)
theorem gval_yielded {a : Act} {j : Nat} {v : Value} (ht : TM n τ a) (h : gval ops τ j = some v) :
    yielded ops a.tmps j = match v with | .bool b => some b | _ => none := by
  unfold gval at h
  unfold yielded
  cases hd : (ops[j]?).bind (·.dst) with
  | none => rw [hd] at h; simp at h
  | some d =>
    rw [hd] at h
    have := ht.look d v h
    simp only [Option.bind_some, this]
    cases v <;> rfl
theorem so_gdo {dst : Option Tmp} {op : Op} {type : TypeId} {pos : String} {after : Array Edge} {j : Nat} {b : Bool}
    (hg : gval ops τ j = some (.bool b))
    (h : OpS P n ⟨dst, op, type, pos, after, some (j, b)⟩ τ H (fun τ' H' => SO P ops n k rest τ' H')) : SO P ops n k (⟨dst, op, type, pos, after, some (j, b)⟩ :: rest) τ H := by
  intro a w ht hs
  unfold wpList
  rw [if_pos (by simp [Region.wanted, gval_yielded ht hg])]
  exact .inl (h a w ht hs _ _ fun a' w' τ' H' ht' hs' hk => hk a' w' ht' hs')
def unlike (v : Value) (b : Bool) : Bool := match v with | .bool c => c != b | _ => true
theorem so_gskip {dst : Option Tmp} {op : Op} {type : TypeId} {pos : String} {after : Array Edge} {j : Nat} {b : Bool} {v : Value}
    (hg : gval ops τ j = some v) (hu : unlike v b = true) (hd : okD dst n = true)
    (h : SO P ops n k rest (putE dst undef τ) H) : SO P ops n k (⟨dst, op, type, pos, after, some (j, b)⟩ :: rest) τ H := by
  intro a w ht hs
  unfold wpList
  have hw : Region.wanted ⟨dst, op, type, pos, after, some (j, b)⟩ (yielded ops a.tmps) = false := by
    simp only [Region.wanted, gval_yielded ht hg]
    cases v <;> simp [unlike] at hu ⊢
    exact hu
  rw [hw]
  exact h _ w (ht.put hd) hs
/-- the same, the guard not known: both ways -/
theorem so_gsplit {dst : Option Tmp} {op : Op} {type : TypeId} {pos : String} {after : Array Edge} {j d : Nat} {b c : Bool}
    (hj : (ops[j]?).bind (·.dst) = some d) (hg : lk τ d = some (.bool c)) (hd : okD dst n = true)
    (h1 : c = b → OpS P n ⟨dst, op, type, pos, after, some (j, b)⟩ ((d, .bool b) :: τ) H (fun τ' H' => SO P ops n k rest τ' H'))
    (h2 : c = !b → SO P ops n k rest (putE dst undef ((d, .bool (!b)) :: τ)) H) : SO P ops n k (⟨dst, op, type, pos, after, some (j, b)⟩ :: rest) τ H := by
  have same : ∀ (a : Act), TM n τ a → TM n ((d, .bool c) :: τ) a := fun a ht =>
    ⟨ht.size, fun i v e => by
      simp only [lk] at e
      cases hb : Nat.beq d i with
      | true =>
        have : d = i := Nat.eq_of_beq_eq_true hb
        subst this
        rw [hb] at e; simp at e; subst e
        exact ht.look _ _ hg
      | false => rw [hb] at e; exact ht.look i v e, ht.defers⟩
  have gv : gval ops ((d, .bool c) :: τ) j = some (.bool c) := by unfold gval; rw [hj]; simp [lk]
  by_cases e : c = b
  · subst e
    intro a w ht hs
    exact so_gdo gv (h1 rfl) a w (same a ht) hs
  · have e' : c = !b := by cases c <;> cases b <;> simp at e ⊢
    subst e'
    intro a w ht hs
    exact so_gskip gv (by cases b <;> rfl) hd (h2 rfl) a w (same a ht) hs

-- code
theorem sx_seq {x y : Code} (h : SX P n K (.code x :: .code y :: it) τ H) : SX P n K (.code (.seq x y) :: it) τ H := fun a w ht hs b cs =>
  let ⟨a', w', todo, st, r⟩ := h a w ht hs b cs; ⟨a', w', todo, .head step_seq st, r⟩
theorem sx_skip (h : SX P n K it τ H) : SX P n K (.code .skip :: it) τ H := fun a w ht hs b cs =>
  let ⟨a', w', todo, st, r⟩ := h a w ht hs b cs; ⟨a', w', todo, .head step_skip st, r⟩
theorem sx_label {l : Nat} (h : SX P n K it τ H) : SX P n K (.code (.label l) :: it) τ H := fun a w ht hs b cs =>
  let ⟨a', w', todo, st, r⟩ := h a w ht hs b cs; ⟨a', w', todo, .head step_label st, r⟩
theorem sx_block {id : Nat} {c : Code} (h : SX P n K (.code c :: .inBlock id :: it) τ H) : SX P n K (.code (.block id c) :: it) τ H := fun a w ht hs b cs =>
  let ⟨a', w', todo, st, r⟩ := h a w ht hs b cs; ⟨a', w', todo, .head step_block st, r⟩
theorem sx_inBlock {id : Nat} (h : SX P n K it τ H) : SX P n K (.inBlock id :: it) τ H := fun a w ht hs b cs =>
  let ⟨a', w', todo, st, r⟩ := h a w ht hs b cs; ⟨a', w', todo, .head step_inBlock st, r⟩
theorem sx_exit {id : Nat} {it' : List Item} (he : exitTo id it = some it') (h : SX P n K it' τ H) : SX P n K (.code (.exit id) :: it) τ H := fun a w ht hs b cs =>
  let ⟨a', w', todo, st, r⟩ := h a w ht hs b cs; ⟨a', w', todo, .head (step_exit he) st, r⟩
theorem sx_goto {l : Nat} {it' : List Item} (he : gotoIn l it = some it') (h : SX P n K it' τ H) : SX P n K (.code (.goto l) :: it) τ H := fun a w ht hs b cs =>
  let ⟨a', w', todo, st, r⟩ := h a w ht hs b cs; ⟨a', w', todo, .head (step_goto he) st, r⟩
theorem sx_scope {c : Code} (h : SX P n K (.code c :: .inScope c :: it) τ H) : SX P n K (.code (.scope c) :: it) τ H := fun a w ht hs b cs =>
  let ⟨a', w', todo, st, r⟩ := h a w ht hs b cs; ⟨a', w', todo, .head step_scope st, r⟩
theorem sx_inScope {c : Code} (h : SX P n K it τ H) : SX P n K (.inScope c :: it) τ H := fun a w ht hs b cs =>
  let ⟨a', w', todo, st, r⟩ := h a w ht hs b cs; ⟨a', w', todo, .head step_inScope st, r⟩
theorem sx_loop_in {c : Code} (h : SX P n K (.code c :: .inLoop c :: it) τ H) : SX P n K (.code (.loop c) :: it) τ H := fun a w ht hs b cs =>
  let ⟨a', w', todo, st, r⟩ := h a w ht hs b cs; ⟨a', w', todo, .head step_loop st, r⟩
theorem sx_back {c : Code} (h : SX P n K (.code c :: .inLoop c :: it) τ H) : SX P n K (.inLoop c :: it) τ H := fun a w ht hs b cs =>
  let ⟨a', w', todo, st, r⟩ := h a w ht hs b cs; ⟨a', w', todo, .head step_inLoop st, r⟩
theorem sx_ret (h : K τ H) : SX P n K (.code .ret :: it) τ H := fun a w ht hs _ _ => ⟨a, w, _, .one step_ret, τ, H, ht, hs, h⟩
theorem sx_end (h : K τ H) : SX P n K [] τ H := fun a w ht hs _ _ => ⟨a, w, [], .one step_end, τ, H, ht, hs, h⟩
theorem sx_cond {c : Operand} {x y : Code} {t : Bool} (hc : ev τ c = some (.bool t))
    (h1 : t = true → SX P n K (.code x :: it) τ H) (h2 : t = false → SX P n K (.code y :: it) τ H) : SX P n K (.code (.cond c x y) :: it) τ H := fun a w ht hs b cs => by
  have he := ht.ev hc
  cases t with
  | true => exact let ⟨a', w', todo, st, r⟩ := h1 rfl a w ht hs b cs; ⟨a', w', todo, .head (step_cond (t := true) he) st, r⟩
  | false => exact let ⟨a', w', todo, st, r⟩ := h2 rfl a w ht hs b cs; ⟨a', w', todo, .head (step_cond (t := false) he) st, r⟩
theorem sx_cond_true {c : Operand} {x y : Code} (hc : ev τ c = some (.bool true)) (h : SX P n K (.code x :: it) τ H) : SX P n K (.code (.cond c x y) :: it) τ H :=
  sx_cond hc (fun _ => h) (fun e => by cases e)
theorem sx_cond_false {c : Operand} {x y : Code} (hc : ev τ c = some (.bool false)) (h : SX P n K (.code y :: it) τ H) : SX P n K (.code (.cond c x y) :: it) τ H :=
  sx_cond hc (fun e => by cases e) (fun _ => h)
theorem sx_region {id : Nat} {l : List Oper} (h : SO P l.toArray n (fun τ' H' => SX P n K it τ' H') l τ H) : SX P n K (.code (.region id l.toArray false) :: it) τ H := fun a w ht hs b cs => by
  have := wp_region_lit (id := id) (h a w ht hs) b it cs
  obtain ⟨e, a', w', ⟨rfl, τ', H', ht', hs', hk⟩, harr⟩ := this
  obtain ⟨a'', w'', todo, st, r⟩ := hk a' w' ht' hs' b cs
  exact ⟨a'', w'', todo, Steps.trans harr st, r⟩
/-- less is known -/
theorem sx_weak {τ' : Env} {H' : List HProp} (hl : Env.le τ' τ) (hh : ∀ h, sl H h → ∃ h', sl H' h' ∧ ∀ b o, h' b = some o → h b = some o)
    (h : SX P n K it τ' H') : SX P n K it τ H := fun a w ht hs b cs =>
  h a w (ht.weaken hl) (let ⟨x, y, z⟩ := hs; let ⟨h', p, q⟩ := hh x y; ⟨h', p, z.sub q⟩) b cs
theorem sx_perm {H' : List HProp} (hp : H.Perm H') (h : SX P n K it τ H') : SX P n K it τ H := fun a w ht hs b cs => h a w ht (hs.perm hp) b cs
theorem sx_env {τ' : Env} (hl : Env.le τ' τ) (h : SX P n K it τ' H) : SX P n K it τ H := fun a w ht hs b cs => h a w (ht.weaken hl) hs b cs

/-- a loop: by a measure over an index -/
theorem sx_loop {c : Code} {ι : Type} (μ : ι → Nat) (T : ι → Env) (G : ι → List HProp) (J : ι → Prop) (i0 : ι) (hJ : J i0)
    (h0 : SX P n K (.code c :: .inLoop c :: it) (T i0) (G i0) → SX P n K (.code c :: .inLoop c :: it) τ H)
    (hr : ∀ i, J i → (∀ j, J j → μ j < μ i → SX P n K (.inLoop c :: it) (T j) (G j)) → SX P n K (.code c :: .inLoop c :: it) (T i) (G i)) :
    SX P n K (.code (.loop c) :: it) τ H := by
  refine sx_loop_in (h0 ?_)
  have key : ∀ m i, μ i = m → J i → SX P n K (.code c :: .inLoop c :: it) (T i) (G i) := by
    intro m
    induction m using Nat.strongRecOn with
    | _ m ih =>
      intro i hm hj
      exact hr i hj fun j hJ' hlt => sx_back (ih (μ j) (hm ▸ hlt) j rfl hJ')
  exact key _ i0 rfl hJ
end

/-- what a call of a function comes to: before, behind -/
def Spec (P : Program) (f : FuncId) (args : List Value) (pre : List HProp) (post : Value → List HProp → Prop) : Prop :=
  ∀ (w : World) (R : List HProp), Sat w (sl (pre ++ R)) → Calls P f args.toArray w fun e w' => ∃ v H', e = .returned v ∧ post v H' ∧ Sat w' (sl (H' ++ R))

theorem Spec.mono {P : Program} {f : FuncId} {args : List Value} {pre : List HProp} {post post' : Value → List HProp → Prop} (h : Spec P f args pre post)
    (hp : ∀ v H, post v H → post' v H) : Spec P f args pre post' := fun w R hs =>
  (h w R hs).mono fun _ _ ⟨v, H', a, b, c⟩ => ⟨v, H', a, hp _ _ b, c⟩

/-- what stands in one result -/
def resOne (tmps : Array Value) (r : ResultVar) : Sem Value :=
  match r with
  | .tmp t => pure (tmps.getD t undef)
  | .cell a t => do loadVar t (← asAddr (tmps.getD a undef))
def ResS (P : Program) (n : Nat) (τ : Env) (H : List HProp) (r : ResultVar) (v : Value) : Prop :=
  ∀ a w, TM n τ a → Sat w (sl H) → (resOne a.tmps r).run P w = .ok v w
theorem resS_tmp {P : Program} {n : Nat} {τ : Env} {H : List HProp} {t : Tmp} {v : Value} (h : lk τ t = some v) : ResS P n τ H (.tmp t) v := fun a w ht _ => by
  have := ht.look t v h
  simp [resOne, this]
theorem results_eq (fn : Func) (tmps : Array Value) : results fn tmps = (do
    let vs ← fn.results.mapM (resOne tmps)
    pure (if h : vs.size = 1 then vs[0] else .tuple vs)) := rfl

inductive ResP (P : Program) (n : Nat) (τ : Env) (H : List HProp) : Array ResultVar → Value → Prop
  | none : ResP P n τ H #[] (.tuple #[])
  | one {r v} : ResS P n τ H r v → ResP P n τ H #[r] v
  | two {r s v u} : ResS P n τ H r v → ResS P n τ H s u → ResP P n τ H #[r, s] (.tuple #[v, u])
  | three {r s t v u x} : ResS P n τ H r v → ResS P n τ H s u → ResS P n τ H t x → ResP P n τ H #[r, s, t] (.tuple #[v, u, x])
theorem ResP.run {P : Program} {n : Nat} {τ : Env} {H : List HProp} {fn : Func} {v : Value} {a : Act} {w : World} (h : ResP P n τ H fn.results v)
    (ht : TM n τ a) (hs : Sat w (sl H)) : (results fn a.tmps).run P w = .ok v w := by
  rw [results_eq]
  generalize fn.results = rs at h
  cases h with
  | none => simp
  | one h1 => simp [h1 a w ht hs]
  | two h1 h2 => simp [h1 a w ht hs, h2 a w ht hs]
  | three h1 h2 h3 => simp [h1 a w ht hs, h2 a w ht hs, h3 a w ht hs]

def envOf (args : List Value) (n : Nat) : Env := (args ++ List.replicate (n - args.length) undef).zipIdx.map fun (v, i) => (i, v)
theorem lk_zip : ∀ (l : List Value) (k i : Nat) (v : Value), lk ((l.zipIdx k).map fun (v, i) => (i, v)) i = some v → k ≤ i ∧ l[i - k]? = some v := by
  intro l
  induction l with
  | nil => intro k i v h; simp [lk] at h
  | cons x l ih =>
    intro k i v h
    simp only [List.zipIdx_cons, List.map_cons, lk] at h
    cases hb : Nat.beq k i with
    | true =>
      have : k = i := Nat.eq_of_beq_eq_true hb
      subst this
      rw [hb] at h
      simp at h
      subst h
      simp
    | false =>
      have hne : k ≠ i := fun e => by subst e; simp at hb
      rw [hb] at h
      obtain ⟨h1, h2⟩ := ih (k + 1) i v h
      refine ⟨by omega, ?_⟩
      have : i - k = (i - (k + 1)) + 1 := by omega
      rw [this]
      simpa using h2

/-- a function with a body: by its code -/
theorem spec_of {P : Program} {f : FuncId} {fn : Func} {c : Code} {args : List Value} {pre : List HProp} {post : Value → List HProp → Prop}
    (hf : P.funcs[f]? = some fn) (hb : fn.body = some c) (hlen : args.length ≤ fn.ntmps)
    (h : ∀ R : List HProp, SX P fn.ntmps (fun τ H => ∃ v H', ResP P fn.ntmps τ H fn.results v ∧ post v H' ∧ H.Perm (H' ++ R)) [.code c] (envOf args fn.ntmps) (pre ++ R)) :
    Spec P f args pre post := by
  intro w R hs cs
  have ht : TM fn.ntmps (envOf args fn.ntmps) { tmps := args.toArray ++ Array.replicate (fn.ntmps - args.toArray.size) undef, defers := [] } := by
    refine ⟨by simp; omega, fun i v e => ?_, rfl⟩
    have := (lk_zip _ 0 i v e).2
    simp only [Nat.sub_zero] at this
    rw [← this, ← Array.getElem?_toList]
    simp
  let b : Frame := { (default : Frame) with fn := f, kind := .normal }
  have henter : Frame.enter P f args.toArray .normal =
      b.at { tmps := args.toArray ++ Array.replicate (fn.ntmps - args.toArray.size) undef, defers := [] } [.code c] := by
    simp [Frame.enter, Frame.at, hf, hb, b]
  obtain ⟨a', w', todo, st, τ', H', ht', hs', v, H'', hr, hp, hperm⟩ := h R _ w ht hs b cs
  rw [← henter] at st
  exact ⟨.returned v, w', _, ⟨v, H'', rfl, hp, hs'.perm hperm⟩, st, rfl, rfl, ht'.defers, rfl, fn, hf, hr.run ht' hs'⟩
end Go.Sl
