/- A region whose order is drawn: what only looks is taken first, with a promise that what was seen stays so until it is due; what acts is taken in whatever order it may come. No condition. -/
import Derived.Test.YtdelnmihgckeeaaSl6
import Derived.Orders
namespace Go.Sl
set_option linter.unusedSimpArgs false
set_option linter.unusedVariables false

structure Prom where
  idx : Nat
  J : World → Prop
def dsucc (ops : Array Oper) (j i : Nat) : Bool :=
  match ops[j]? with
  | some o => o.after.toList.any fun e => Region.binds .any e && Nat.beq e.on i
  | none => false
def keepP (ops : Array Oper) (j : Nat) (l : List Prom) : List Prom := l.filter fun p => !dsucc ops j p.idx

def wpP (P : Program) (ops : Array Oper) (Q : Exit → Act → World → Prop) : Nat → Array Bool → List Prom → Act → World → Prop
  | 0, listed, _, a, w => Region.ready .any ops listed = [] ∧ Q .normal a w
  | fuel + 1, listed, l, a, w => (Region.ready .any ops listed = [] → Q .normal a w) ∧
      ∀ j ∈ Region.ready .any ops listed, wpOp P ops Q j (fun a' w' => (∀ p ∈ keepP ops j l, p.J w') ∧ wpP P ops Q fuel (listed.setIfInBounds j true) (keepP ops j l) a' w') a w

section
variable {P : Program} {ops : Array Oper} {Q : Exit → Act → World → Prop}
theorem wpP_sub : ∀ (fuel : Nat) (listed : Array Bool) (l l' : List Prom) (a : Act) (w : World), (∀ p ∈ l', p ∈ l) → wpP P ops Q fuel listed l a w → wpP P ops Q fuel listed l' a w := by
  intro fuel
  induction fuel with
  | zero => intro _ _ _ _ _ _ h; exact h
  | succ fuel ih =>
    intro listed l l' a w hs h
    refine ⟨h.1, fun j hj => wpOp_mono (fun a' w' hk => ?_) (h.2 j hj)⟩
    have hsub : ∀ p ∈ keepP ops j l', p ∈ keepP ops j l := fun p hp => by
      rw [keepP, List.mem_filter] at hp ⊢
      exact ⟨hs p hp.1, hp.2⟩
    exact ⟨fun p hp => hk.1 p (hsub p hp), ih _ _ _ a' w' hsub hk.2⟩
theorem wpP_any : ∀ (fuel : Nat) (listed : Array Bool) (a : Act) (w : World), wpP P ops Q fuel listed [] a w → wpAny P .any ops Q fuel listed a w := by
  intro fuel
  induction fuel with
  | zero => intro _ _ _ h; exact h
  | succ fuel ih => exact fun listed a w h => ⟨h.1, fun j hj => wpOp_mono (fun a' w' hk => ih _ a' w' hk.2) (h.2 j hj)⟩

/-- what an operation yields, where J holds -/
def YJ (P : Program) (ops : Array Oper) (o : Oper) (v : Value) (a : Act) (J : World → Prop) : Prop :=
  (Region.wanted o (yielded ops a.tmps) = true ∧ ∀ w, J w → (execOp a.eval o).run P w = .ok (.value v) w) ∨ (Region.wanted o (yielded ops a.tmps) = false ∧ v = undef)
theorem YJ.same {o : Oper} {v : Value} {a a' : Act} {J : World → Prop} (h : YJ P ops o v a J) (he : execOp a'.eval o = execOp a.eval o)
    (hw : Region.wanted o (yielded ops a'.tmps) = Region.wanted o (yielded ops a.tmps)) : YJ P ops o v a' J := by
  unfold YJ at *; rw [he, hw]; exact h
theorem YJ.op {i : Nat} {o : Oper} {v : Value} {a : Act} {J : World → Prop} (hi : ops[i]? = some o) (hy : YJ P ops o v a J) {K : Act → World → Prop} {w : World} (hj : J w)
    (h : K (a.put o.dst v) w) : wpOp P ops Q i K a w := by
  unfold wpOp
  simp only [hi]
  rcases hy with ⟨hw, hv⟩ | ⟨hw, rfl⟩
  · simp only [hw, if_true, Oper.wp, hv w hj, Oper.upon]; exact .inl h
  · simp only [hw, Bool.false_eq_true, if_false]; exact h
/-- an operation that does not look at a slot runs the same where that slot is written already -/
theorem later {j : Nat} {oi oj : Oper} {v : Value} (hj : ops[j]? = some oj) (hap : oi.apart ops oj = true)
    (hsi : ∀ cs b, oi.op ≠ .select cs b) (hsj : ∀ cs b, oj.op ≠ .select cs b) (hQ : ∀ e a w, Q e a w → e = .normal) {J : World → Prop} {K : Act → World → Prop} {a : Act} {w : World}
    (hy : YJ P ops oi v a J) (h : wpOp P ops Q j K (a.put oi.dst v) w) : wpOp P ops Q j (fun a' w' => YJ P ops oi v a' J ∧ K (a'.put oi.dst v) w') a w := by
  obtain ⟨h1, h2, h3⟩ := Oper.apart_spec hap
  have hy' : ∀ u, YJ P ops oi v (a.put oj.dst u) J := fun u => hy.same (execOp_put oi hsi a oj.dst u h3) (wanted_put oi a oj.dst u h3)
  have noOut : ¬ LetsOut Q := fun ⟨a, w, q⟩ => by cases hQ _ _ _ q
  unfold wpOp at h ⊢
  simp only [hj] at h ⊢
  rw [wanted_put oj a oi.dst v h1] at h
  by_cases hw : Region.wanted oj (yielded ops a.tmps) = true
  · rw [if_pos hw] at h ⊢
    rcases h with h | h
    case inr => exact absurd h.2 noOut
    refine .inl ?_
    unfold Oper.wp at h ⊢
    rw [execOp_put oj hsj a oi.dst v h1] at h
    cases hr : (execOp a.eval oj).run P w with
    | halt x w' =>
      rw [hr] at h
      cases x <;> simp only [Oper.upon] at h <;> cases hQ _ _ _ h
    | ok n w' =>
      rw [hr] at h
      cases n <;> simp only [Oper.upon] at h ⊢
      case value u => exact ⟨hy' u, by rw [← Act.put_comm a v u h2]; exact h⟩
      case skip => exact ⟨hy' _, by rw [← Act.put_comm a v undef h2]; exact h⟩
      case defer d =>
        refine ⟨(hy.same rfl rfl : YJ P ops oi v { a with defers := d :: a.defers } J).same (execOp_put oi hsi _ oj.dst undef h3) (wanted_put oi _ oj.dst undef h3), ?_⟩
        rw [← Act.put_comm _ v undef h2, ← Act.put_defers]
        exact h
      case enter f args =>
        refine Calls.mono h fun e w'' he => ?_
        cases e with
        | returned u => exact ⟨hy' u, by rw [← Act.put_comm a v u h2]; exact he⟩
        | panicked c => cases hQ _ _ _ he
        | outgrown => exact absurd he noOut
      case row row args => exact Rows.mono h fun u w'' he => ⟨hy' u, by rw [← Act.put_comm a v u h2]; exact he⟩
  · rw [if_neg hw] at h ⊢
    exact ⟨hy' _, by rw [← Act.put_comm a v undef h2]; exact h⟩

theorem wpP_first {i : Nat} {oi : Oper} {v : Value} {J : World → Prop} (hi : ops[i]? = some oi) (hsel : ∀ (j : Nat) (o : Oper) cs b, ops[j]? = some o → o.op ≠ .select cs b)
    (hQ : ∀ e a w, Q e a w → e = .normal) (hfree : ∀ j oj, ops[j]? = some oj → j ≠ i → dsucc ops j i = false → dsucc ops i j = false → oi.apart ops oj = true) :
    ∀ (fuel : Nat) (listed : Array Bool) (l : List Prom) (a : Act) (w : World), i ∈ Region.ready .any ops listed → YJ P ops oi v a J → J w → (∀ p ∈ l, p.J w) →
      wpP P ops Q fuel (listed.setIfInBounds i true) (⟨i, J⟩ :: l) (a.put oi.dst v) w → wpP P ops Q (fuel + 1) listed l a w := by
  intro fuel
  have here : ∀ (fuel : Nat) (listed : Array Bool) (l : List Prom) (a : Act) (w : World), YJ P ops oi v a J → J w → (∀ p ∈ l, p.J w) →
      wpP P ops Q fuel (listed.setIfInBounds i true) (⟨i, J⟩ :: l) (a.put oi.dst v) w →
      wpOp P ops Q i (fun a' w' => (∀ p ∈ keepP ops i l, p.J w') ∧ wpP P ops Q fuel (listed.setIfInBounds i true) (keepP ops i l) a' w') a w := fun fuel listed l a w hy hJ hl H =>
    hy.op hi hJ ⟨fun p hp => hl p (List.mem_filter.1 hp).1, wpP_sub _ _ _ _ _ _ (fun p hp => List.mem_cons_of_mem _ (List.mem_filter.1 hp).1) H⟩
  induction fuel with
  | zero =>
    intro listed l a w hr hy hJ hl H
    refine ⟨(fun h => by rw [h] at hr; cases hr), fun j hj => ?_⟩
    by_cases hji : j = i
    · subst hji; exact here 0 listed l a w hy hJ hl H
    · have := ready_mono hj hji
      rw [H.1] at this
      cases this
  | succ fuel ih =>
    intro listed l a w hr hy hJ hl H
    refine ⟨(fun h => by rw [h] at hr; cases hr), fun j hj => ?_⟩
    by_cases hji : j = i
    · subst hji; exact here _ listed l a w hy hJ hl H
    · have h1 := H.2 j (ready_mono hj hji)
      obtain ⟨hjun, oj, hoj, hall⟩ := mem_ready.1 hj
      obtain ⟨hiun, oi', hoi', halli⟩ := mem_ready.1 hr
      rw [hi] at hoi'
      cases hoi'
      have unl : ∀ k, listed.getD k true = false → listed.getD k false = true → False := fun k h0 h1 => by
        rcases Nat.lt_or_ge k listed.size with h' | h'
        · simp [h'] at h0 h1; rw [h0] at h1; cases h1
        · simp [Array.getElem?_eq_none h'] at h1
      have hno : dsucc ops j i = false := by
        cases hd : dsucc ops j i with
        | false => rfl
        | true =>
          unfold dsucc at hd
          rw [hoj] at hd
          obtain ⟨e, he, hb⟩ := List.any_eq_true.1 hd
          simp only [Bool.and_eq_true] at hb
          exact (unl i hiun (Nat.eq_of_beq_eq_true hb.2 ▸ hall e (Array.mem_toList_iff.1 he) hb.1)).elim
      have hno' : dsucc ops i j = false := by
        cases hd : dsucc ops i j with
        | false => rfl
        | true =>
          unfold dsucc at hd
          rw [hi] at hd
          obtain ⟨e, he, hb⟩ := List.any_eq_true.1 hd
          simp only [Bool.and_eq_true] at hb
          exact (unl j hjun (Nat.eq_of_beq_eq_true hb.2 ▸ halli e (Array.mem_toList_iff.1 he) hb.1)).elim
      have hk : keepP ops j (⟨i, J⟩ :: l) = ⟨i, J⟩ :: keepP ops j l := by
        unfold keepP
        rw [List.filter_cons, if_pos (by simp [hno])]
      rw [hk] at h1
      have h2 := later hoj (hfree j oj hoj hji hno hno') (fun cs b => hsel i oi cs b hi) (fun cs b => hsel j oj cs b hoj) hQ hy h1
      refine wpOp_mono (fun a' w' h3 => ?_) h2
      obtain ⟨hy', hp, hrest⟩ := h3
      have hJ' : J w' := hp ⟨i, J⟩ (by simp)
      have hl' : ∀ p ∈ keepP ops j l, p.J w' := fun p hm => hp p (List.mem_cons_of_mem _ hm)
      refine ⟨hl', ih (listed.setIfInBounds j true) (keepP ops j l) a' w' (ready_mono hr (Ne.symm hji)) hy' hJ' hl' ?_⟩
      rw [Array.setIfInBounds_comm _ _ hji]
      exact hrest
end

/-- no two operations of a region hang on one another but by an edge -/
def freeAll (ops : Array Oper) : Bool :=
  (List.range ops.size).all fun i => (List.range ops.size).all fun j => j == i || dsucc ops j i || dsucc ops i j ||
    (match ops[i]?, ops[j]? with
     | some x, some y => x.apart ops y
     | _, _ => true)
theorem freeAll_spec {ops : Array Oper} (h : freeAll ops = true) {i j : Nat} {oi oj : Oper} (hi : ops[i]? = some oi) (hj : ops[j]? = some oj) (hne : j ≠ i)
    (h1 : dsucc ops j i = false) (h2 : dsucc ops i j = false) : oi.apart ops oj = true := by
  simp only [freeAll, List.all_eq_true, List.mem_range] at h
  have := h i (Array.getElem?_eq_some_iff.1 hi).1 j (Array.getElem?_eq_some_iff.1 hj).1
  simpa [hi, hj, hne, h1, h2] using this

/-- a promise on a look into memory -/
structure PromS where
  i : Nat
  t : TypeId
  p : Value
  v : Value
def PromS.J (P : Program) (s : PromS) : World → Prop := fun w => (Instr.loadAt s.t s.p).run P w = .ok s.v w
def PromS.prom (P : Program) (s : PromS) : Prom := ⟨s.i, s.J P⟩
def keepS (ops : Array Oper) (j : Nat) : List PromS → List PromS
  | [] => []
  | s :: l => bif dsucc ops j s.i then keepS ops j l else s :: keepS ops j l
theorem keepS_eq {P : Program} {ops : Array Oper} {j : Nat} (l : List PromS) : keepP ops j (l.map (PromS.prom P)) = (keepS ops j l).map (PromS.prom P) := by
  induction l with
  | nil => rfl
  | cons s l ih =>
    simp only [List.map_cons, keepP, List.filter_cons, keepS]
    simp only [keepP] at ih
    cases hd : dsucc ops j s.i with
    | true => simp [PromS.prom, hd]; exact ih
    | false => simp [PromS.prom, hd]; exact ih

def SA (P : Program) (ops : Array Oper) (n : Nat) (k : Cont) (fuel : Nat) (listed : Array Bool) (l : List PromS) (τ : Env) (H : List HProp) : Prop :=
  ∀ a w, TM n τ a → Sat w (sl H) → (∀ s ∈ l, s.J P w) →
    wpP P ops (fun e a' w' => e = .normal ∧ ∃ τ' H', TM n τ' a' ∧ Sat w' (sl H') ∧ k τ' H') fuel listed (l.map (PromS.prom P)) a w

/-- what only looks -/
def quietOp : Op → Bool
  | .move _ | .assign _ | .pick .. | .load .. | .nilCheck _ | .binOp .. | .unOp .. | .fieldAddr .. | .field .. | .indexAddr .. | .index .. | .slice .. | .extract .. | .build .. | .makeFunc .. => true
  | .convert .. => true
  | .call { callee := .builtin .len, .. } | .call { callee := .builtin .max, .. } | .call { callee := .builtin .min, .. } => true
  | _ => false
inductive NextA where
  | done
  | quiet (i : Nat)
  | branch (l : List Nat)
def readyB (ops : Array Oper) (listed : Array Bool) (i : Nat) : Bool :=
  !listed.getD i true && ((ops[i]?).map (·.after.toList.all fun e => !Region.binds .any e || listed.getD e.on false)).getD false
def nextGo (ops : Array Oper) (listed : Array Bool) : Nat → Nat → List Nat → NextA
  | 0, _, acc => match acc with
    | [] => .done
    | l => .branch l.reverse
  | m + 1, i, acc => bif readyB ops listed i then (bif ((ops[i]?).map (quietOp ·.op)).getD false then .quiet i else nextGo ops listed m (i + 1) (i :: acc)) else nextGo ops listed m (i + 1) acc
def nextA (ops : Array Oper) (listed : Array Bool) : NextA := nextGo ops listed ops.size 0 []
theorem nextGo_spec {ops : Array Oper} {listed : Array Bool} : ∀ (m i : Nat) (acc : List Nat), i + m = ops.size → (∀ k, k ∈ acc ↔ k < i ∧ readyB ops listed k = true) →
    match nextGo ops listed m i acc with
    | .done => ∀ k, k < ops.size → readyB ops listed k = false
    | .quiet j => j < ops.size ∧ readyB ops listed j = true
    | .branch l => l ≠ [] ∧ ∀ k, k ∈ l ↔ k < ops.size ∧ readyB ops listed k = true := by
  intro m
  induction m with
  | zero =>
    intro i acc hi hacc
    have hi' : i = ops.size := by omega
    subst hi'
    unfold nextGo
    cases acc with
    | nil =>
      intro k hk
      cases hb : readyB ops listed k with
      | false => rfl
      | true => exact absurd ((hacc k).2 ⟨hk, hb⟩) (by simp)
    | cons x acc => exact ⟨by simp, fun k => by rw [List.mem_reverse]; exact hacc k⟩
  | succ m ih =>
    intro i acc hi hacc
    unfold nextGo
    cases hb : readyB ops listed i with
    | false =>
      simp only [cond_false]
      refine ih (i + 1) acc (by omega) fun k => ?_
      rw [hacc k]
      constructor
      · rintro ⟨a, b⟩; exact ⟨by omega, b⟩
      · rintro ⟨a, b⟩
        refine ⟨?_, b⟩
        rcases Nat.lt_or_ge k i with h | h
        · exact h
        · have : k = i := by omega
          subst this; rw [hb] at b; cases b
    | true =>
      simp only [cond_true]
      cases hq : ((ops[i]?).map (quietOp ·.op)).getD false with
      | true => exact ⟨by omega, hb⟩
      | false =>
        simp only [cond_false]
        refine ih (i + 1) (i :: acc) (by omega) fun k => ?_
        rw [List.mem_cons, hacc k]
        constructor
        · rintro (rfl | ⟨a, b⟩)
          · exact ⟨by omega, hb⟩
          · exact ⟨by omega, b⟩
        · rintro ⟨a, b⟩
          rcases Nat.lt_or_ge k i with h | h
          · exact .inr ⟨h, b⟩
          · exact .inl (by omega)
theorem mem_readyB {ops : Array Oper} {listed : Array Bool} {i : Nat} : i ∈ Region.ready .any ops listed ↔ i < ops.size ∧ readyB ops listed i = true := by
  unfold Region.ready readyB
  rw [List.mem_filter, List.mem_range]
  simp only [Array.all_toList]

inductive ValidR (P : Program) (H : List HProp) : List PromS → Prop
  | nil : ValidR P H []
  | cons {i t p v l} : LoadR P H t p v → ValidR P H l → ValidR P H (⟨i, t, p, v⟩ :: l)
theorem ValidR.J {P : Program} {H : List HProp} {l : List PromS} (h : ValidR P H l) {w : World} (hs : Sat w (sl H)) : ∀ s ∈ l, s.J P w := by
  induction h with
  | nil => intro s hm; cases hm
  | cons h1 _ ih =>
    intro s hm
    rcases List.mem_cons.1 hm with rfl | hm
    · exact h1.sound w hs
    · exact ih s hm

/-- a quiet operation's value, and the promise it takes -/
inductive QuietP (P : Program) (H : List HProp) (i : Nat) : Op → Env → Value → List PromS → List PromS → Prop
  | load {t x p v τ l} : ev τ x = some p → LoadR P H t p v → QuietP P H i (.load t x) τ v l (⟨i, t, p, v⟩ :: l)
  | pur {op τ v l} : PurP P op τ v → QuietP P H i op τ v l l
/-- a quiet operation with its guard -/
inductive QGuard (P : Program) (ops : Array Oper) (n : Nat) (k : Cont) (fuel : Nat) (listed : Array Bool) (i d : Nat) (op : Op) (H : List HProp) (l : List PromS) (τ : Env) : Nat → Value → Bool → Prop
  | tt {g v l'} : QuietP P H i op τ v l l' → SA P ops n k fuel listed l' ((d, v) :: τ) H → QGuard P ops n k fuel listed i d op H l τ g (.bool true) true
  | ff {g v l'} : QuietP P H i op τ v l l' → SA P ops n k fuel listed l' ((d, v) :: τ) H → QGuard P ops n k fuel listed i d op H l τ g (.bool false) false
  | tf {g} : SA P ops n k fuel listed l ((d, undef) :: τ) H → QGuard P ops n k fuel listed i d op H l τ g (.bool true) false
  | ft {g} : SA P ops n k fuel listed l ((d, undef) :: τ) H → QGuard P ops n k fuel listed i d op H l τ g (.bool false) true
  | un {g b} : SA P ops n k fuel listed l ((d, undef) :: τ) H → QGuard P ops n k fuel listed i d op H l τ g undef b
  | sym {g c b v l'} : (c = b → QuietP P H i op ((g, .bool b) :: τ) v l l') → (c = b → SA P ops n k fuel listed l' ((d, v) :: (g, .bool b) :: τ) H) →
      (c = !b → SA P ops n k fuel listed l ((d, undef) :: (g, .bool (!b)) :: τ) H) → QGuard P ops n k fuel listed i d op H l τ g (.bool c) b
/-- each that may come next -/
inductive EachP (P : Program) (ops : Array Oper) (n : Nat) (k : Cont) (fuel : Nat) (listed : Array Bool) (l : List PromS) (τ : Env) (H : List HProp) : List Nat → Prop
  | nil : EachP P ops n k fuel listed l τ H []
  | cons {i dst op type pos after rest} : ops[i]? = some ⟨dst, op, type, pos, after, none⟩ →
      OpP P n dst op τ H (fun τ' H' => ValidR P H' (keepS ops i l) ∧ SA P ops n k fuel (listed.setIfInBounds i true) (keepS ops i l) τ' H') →
      EachP P ops n k fuel listed l τ H rest → EachP P ops n k fuel listed l τ H (i :: rest)
  | consG {i dst op type pos after j b d v rest} : ops[i]? = some ⟨dst, op, type, pos, after, some (j, b)⟩ → (ops[j]?).bind (·.dst) = some d → lk τ d = some v →
      GuardP P n dst op τ H (fun τ' H' => ValidR P H' (keepS ops i l) ∧ SA P ops n k fuel (listed.setIfInBounds i true) (keepS ops i l) τ' H') d v b →
      EachP P ops n k fuel listed l τ H rest → EachP P ops n k fuel listed l τ H (i :: rest)
inductive StepA (P : Program) (ops : Array Oper) (n : Nat) (k : Cont) (listed : Array Bool) (l : List PromS) (τ : Env) (H : List HProp) : Nat → NextA → Prop
  | quiet {fuel i d op type pos after v l'} : ops[i]? = some ⟨some d, op, type, pos, after, none⟩ → QuietP P H i op τ v l l' → Nat.blt d n = true →
      SA P ops n k fuel (listed.setIfInBounds i true) l' ((d, v) :: τ) H → StepA P ops n k listed l τ H (fuel + 1) (.quiet i)
  | quietG {fuel i d op type pos after j b g v} : ops[i]? = some ⟨some d, op, type, pos, after, some (j, b)⟩ → (ops[j]?).bind (·.dst) = some g → lk τ g = some v → Nat.blt d n = true →
      QGuard P ops n k fuel (listed.setIfInBounds i true) i d op H l τ g v b → StepA P ops n k listed l τ H (fuel + 1) (.quiet i)
  | branch {fuel rs} : EachP P ops n k fuel listed l τ H rs → StepA P ops n k listed l τ H (fuel + 1) (.branch rs)
  | done {fuel} : k τ H → StepA P ops n k listed l τ H fuel .done
section
variable {P : Program} {ops : Array Oper} {n : Nat} {k : Cont} {fuel : Nat} {listed : Array Bool} {l : List PromS} {τ : Env} {H : List HProp}
theorem wpP_true {Q : Exit → Act → World → Prop} {i : Nat} : ∀ (fuel : Nat) (listed : Array Bool) (l l' : List Prom) (a : Act) (w : World), (∀ p ∈ l', p ∈ l ∨ p = ⟨i, fun _ => True⟩) → wpP P ops Q fuel listed l a w → wpP P ops Q fuel listed l' a w := by
  intro fuel
  induction fuel with
  | zero => intro _ _ _ _ _ _ h; exact h
  | succ fuel ih =>
    intro listed l l' a w hs h
    refine ⟨h.1, fun j hj => wpOp_mono (fun a' w' hk => ?_) (h.2 j hj)⟩
    have hsub : ∀ p ∈ keepP ops j l', p ∈ keepP ops j l ∨ p = ⟨i, fun _ => True⟩ := fun p hp => by
      rw [keepP, List.mem_filter] at hp
      rcases hs p hp.1 with h1 | h1
      · left; rw [keepP, List.mem_filter]; exact ⟨h1, hp.2⟩
      · exact .inr h1
    refine ⟨fun p hp => ?_, ih _ _ _ a' w' hsub hk.2⟩
    rcases hsub p hp with h1 | h1
    · exact hk.1 p h1
    · rw [h1]; trivial
/-- what a quiet operation yields, and what it promises -/
def Takes (P : Program) (ops : Array Oper) (n : Nat) (i : Nat) (o : Oper) (v : Value) (l l' : List PromS) (τ : Env) (H : List HProp) : Prop :=
  (l' = l ∧ ∀ a, TM n τ a → YJ P ops o v a (fun _ => True)) ∨
  (∃ s : PromS, l' = s :: l ∧ s.i = i ∧ ∀ a w, TM n τ a → Sat w (sl H) → YJ P ops o v a (s.J P) ∧ s.J P w)
theorem QuietP.takes {i : Nat} {op : Op} {v : Value} {l' : List PromS} (h : QuietP P H i op τ v l l') {dst : Option Tmp} {type : TypeId} {pos : String} {after : Array Edge} {guard : Option (Nat × Bool)}
    (hw : ∀ a, TM n τ a → Region.wanted ⟨dst, op, type, pos, after, guard⟩ (yielded ops a.tmps) = true) : Takes P ops n i ⟨dst, op, type, pos, after, guard⟩ v l l' τ H := by
  cases h with
  | @load t x p v _ _ hx hl =>
    exact .inr ⟨⟨i, t, p, v⟩, rfl, rfl, fun a w ht hs => ⟨.inl ⟨hw a ht, fun w' hj => by unfold PromS.J at hj; simp [execOp, ht.ev hx, hj]⟩, hl.sound w hs⟩⟩
  | pur hp => exact .inl ⟨rfl, fun a ht => .inl ⟨hw a ht, fun w' _ => hp.sound ht _ _ _ _ _ w'⟩⟩
theorem sa_take {i : Nat} {d : Tmp} {op : Op} {type : TypeId} {pos : String} {after : Array Edge} {guard : Option (Nat × Bool)} {v : Value} {l' : List PromS}
    (hns : Region.noSelect ops = true) (hfa : freeAll ops = true) (hr : i < ops.size ∧ readyB ops listed i = true) (hi : ops[i]? = some ⟨some d, op, type, pos, after, guard⟩)
    (hd : Nat.blt d n = true) (hv : Takes P ops n i ⟨some d, op, type, pos, after, guard⟩ v l l' τ H)
    (h : SA P ops n k fuel (listed.setIfInBounds i true) l' ((d, v) :: τ) H) : SA P ops n k (fuel + 1) listed l τ H := by
  intro a w ht hs hl
  have hl2 : ∀ p ∈ l.map (PromS.prom P), p.J w := fun p hp => by
    obtain ⟨s, hm, rfl⟩ := List.mem_map.1 hp
    exact hl s hm
  rcases hv with ⟨rfl, hy⟩ | ⟨s, rfl, hsi, hy⟩
  · refine wpP_first hi (fun j o cs b => Region.noSelect_spec hns j o cs b) (fun e a w q => q.1) (fun j oj hoj hne h1 h2 => freeAll_spec hfa hi hoj hne h1 h2) fuel listed _ a w
      (mem_readyB.2 hr) (hy a ht) trivial hl2 ?_
    have := h _ w (ht.put (d := some d) hd) hs hl
    exact wpP_true (i := i) _ _ _ _ _ _ (fun p hp => (List.mem_cons.1 hp).symm) this
  · obtain ⟨hy1, hy2⟩ := hy a w ht hs
    refine wpP_first hi (fun j o cs b => Region.noSelect_spec hns j o cs b) (fun e a w q => q.1) (fun j oj hoj hne h1 h2 => freeAll_spec hfa hi hoj hne h1 h2) fuel listed _ a w
      (mem_readyB.2 hr) hy1 hy2 hl2 ?_
    have := h _ w (ht.put (d := some d) hd) hs (fun x hx => by
      rcases List.mem_cons.1 hx with rfl | hx
      · exact hy2
      · exact hl x hx)
    rw [← hsi]
    rw [← hsi] at this
    exact this
theorem TM.same {a : Act} {d : Tmp} {v : Value} (ht : TM n τ a) (h : lk τ d = some v) : TM n ((d, v) :: τ) a :=
  ⟨ht.size, fun i u e => by
    simp only [lk] at e
    cases hb : Nat.beq d i with
    | true =>
      have : d = i := Nat.eq_of_beq_eq_true hb
      subst this
      rw [hb] at e; simp at e; subst e
      exact ht.look _ _ h
    | false => rw [hb] at e; exact ht.look i u e, ht.defers⟩
theorem sa_same {d : Tmp} {v : Value} (h : lk τ d = some v) (hk : SA P ops n k fuel listed l ((d, v) :: τ) H) : SA P ops n k fuel listed l τ H :=
  fun a w ht hs hl => hk a w (ht.same h) hs hl
theorem wanted_of {o : Oper} {j g : Nat} {b : Bool} {v : Value} {a : Act} (ht : TM n τ a) (ho : o.guard = some (j, b)) (hj : (ops[j]?).bind (·.dst) = some g) (hg : lk τ g = some v) :
    Region.wanted o (yielded ops a.tmps) = (match v with | .bool c => c == b | _ => false) := by
  have gv : gval ops τ j = some v := by unfold gval; rw [hj]; exact hg
  simp only [Region.wanted, ho, gval_yielded ht gv]
  cases v <;> simp
theorem sa_it (hns : Region.noSelect ops = true) (hfa : freeAll ops = true) (h : StepA P ops n k listed l τ H fuel (nextA ops listed)) : SA P ops n k fuel listed l τ H := by
  have hspec := nextGo_spec (ops := ops) (listed := listed) ops.size 0 [] (by omega) (by simp)
  change (match nextA ops listed with
    | .done => ∀ k, k < ops.size → readyB ops listed k = false
    | .quiet j => j < ops.size ∧ readyB ops listed j = true
    | .branch l => l ≠ [] ∧ ∀ k, k ∈ l ↔ k < ops.size ∧ readyB ops listed k = true) at hspec
  generalize nextA ops listed = na at h hspec
  cases h with
  | @quiet fuel i d op type pos after v l' hi hq hd hk => exact sa_take hns hfa hspec hi hd (hq.takes fun a _ => by simp [Region.wanted]) hk
  | @quietG fuel i d op type pos after j b g v hi hj hg hd hq =>
    have skip : ∀ {τ' : Env}, (∀ a, TM n τ' a → Region.wanted ⟨some d, op, type, pos, after, some (j, b)⟩ (yielded ops a.tmps) = false) →
        SA P ops n k fuel (listed.setIfInBounds i true) l ((d, undef) :: τ') H → SA P ops n k (fuel + 1) listed l τ' H := fun hw hk =>
      sa_take hns hfa hspec hi hd (.inl ⟨rfl, fun a ht => .inr ⟨hw a ht, rfl⟩⟩) hk
    cases hq with
    | tt hq hk => exact sa_take hns hfa hspec hi hd (hq.takes fun a ht => by rw [wanted_of ht rfl hj hg]; rfl) hk
    | ff hq hk => exact sa_take hns hfa hspec hi hd (hq.takes fun a ht => by rw [wanted_of ht rfl hj hg]; rfl) hk
    | tf hk => exact skip (fun a ht => by rw [wanted_of ht rfl hj hg]; rfl) hk
    | ft hk => exact skip (fun a ht => by rw [wanted_of ht rfl hj hg]; rfl) hk
    | un hk => exact skip (fun a ht => by rw [wanted_of ht rfl hj hg]; rfl) hk
    | sym hq hk1 hk2 =>
      rename_i c v l'
      refine sa_same hg ?_
      by_cases e : c = b
      · subst e
        exact sa_take hns hfa hspec hi hd ((hq rfl).takes fun a ht => by rw [wanted_of (v := .bool c) ht rfl hj (by simp [lk])]; simp) (hk1 rfl)
      · have e' : c = !b := by cases c <;> cases b <;> simp at e ⊢
        subst e'
        exact skip (fun a ht => by rw [wanted_of (v := .bool (!b)) ht rfl hj (by simp [lk])]; cases b <;> rfl) (hk2 rfl)
  | @branch fuel rs he =>
    obtain ⟨hne, hmem⟩ := hspec
    intro a w ht hs hl
    refine ⟨fun h0 => ?_, fun j hj => ?_⟩
    · cases rs with
      | nil => exact absurd rfl hne
      | cons x rs =>
        have := mem_readyB.2 ((hmem x).1 (by simp))
        rw [h0] at this; cases this
    · have hjr := (hmem j).2 (mem_readyB.1 hj)
      rw [keepS_eq]
      clear hmem hne hj
      induction he with
      | nil => cases hjr
      | @cons i dst op type pos after rest hi hop _ ih =>
        rcases List.mem_cons.1 hjr with rfl | hjr
        · unfold wpOp
          rw [hi]
          simp only
          rw [if_pos (by simp [Region.wanted])]
          refine .inl (hop.sound _ _ _ _ a w ht hs _ _ fun a' w' τ' H' ht' hs' ⟨hv, hk⟩ => ⟨fun p hp => ?_, hk a' w' ht' hs' (hv.J hs')⟩)
          obtain ⟨s, hm, rfl⟩ := List.mem_map.1 hp
          exact hv.J hs' s hm
        · exact ih hjr
      | @consG i dst op type pos after j' b d v rest hi hj' hv' hg _ ih =>
        rcases List.mem_cons.1 hjr with rfl | hjr
        · unfold wpOp
          rw [hi]
          simp only
          have go : ∀ {τ' : Env}, TM n τ' a → Region.wanted ⟨dst, op, type, pos, after, some (j', b)⟩ (yielded ops a.tmps) = true →
              OpP P n dst op τ' H (fun τ' H' => ValidR P H' (keepS ops j l) ∧ SA P ops n k fuel (listed.setIfInBounds j true) (keepS ops j l) τ' H') →
              (if Region.wanted ⟨dst, op, type, pos, after, some (j', b)⟩ (yielded ops a.tmps) = true then
                Oper.wp P ⟨dst, op, type, pos, after, some (j', b)⟩ a w (fun a' w' => (∀ p ∈ (keepS ops j l).map (PromS.prom P), p.J w') ∧ wpP P ops (fun e a' w' => e = .normal ∧ ∃ τ' H', TM n τ' a' ∧ Sat w' (sl H') ∧ k τ' H') fuel (listed.setIfInBounds j true) ((keepS ops j l).map (PromS.prom P)) a' w') (fun e a' w' => e = .normal ∧ ∃ τ' H', TM n τ' a' ∧ Sat w' (sl H') ∧ k τ' H') ∨ (Oper.asks P ⟨dst, op, type, pos, after, some (j', b)⟩ a w ∧ LetsOut (fun e a' w' => e = .normal ∧ ∃ τ' H', TM n τ' a' ∧ Sat w' (sl H') ∧ k τ' H'))
              else (fun a' w' => (∀ p ∈ (keepS ops j l).map (PromS.prom P), p.J w') ∧ wpP P ops (fun e a' w' => e = .normal ∧ ∃ τ' H', TM n τ' a' ∧ Sat w' (sl H') ∧ k τ' H') fuel (listed.setIfInBounds j true) ((keepS ops j l).map (PromS.prom P)) a' w') (a.put dst undef) w) := by
            intro τ' ht' hw hop
            rw [if_pos hw]
            refine .inl (hop.sound _ _ _ _ a w ht' hs _ _ fun a' w' τ' H' ht' hs' ⟨hv, hk⟩ => ⟨fun p hp => ?_, hk a' w' ht' hs' (hv.J hs')⟩)
            obtain ⟨s, hm, rfl⟩ := List.mem_map.1 hp
            exact hv.J hs' s hm
          have no : ∀ {τ' : Env}, TM n τ' a → Region.wanted ⟨dst, op, type, pos, after, some (j', b)⟩ (yielded ops a.tmps) = false → okD dst n = true →
              (ValidR P H (keepS ops j l) ∧ SA P ops n k fuel (listed.setIfInBounds j true) (keepS ops j l) (putE dst undef τ') H) →
              (if Region.wanted ⟨dst, op, type, pos, after, some (j', b)⟩ (yielded ops a.tmps) = true then
                Oper.wp P ⟨dst, op, type, pos, after, some (j', b)⟩ a w (fun a' w' => (∀ p ∈ (keepS ops j l).map (PromS.prom P), p.J w') ∧ wpP P ops (fun e a' w' => e = .normal ∧ ∃ τ' H', TM n τ' a' ∧ Sat w' (sl H') ∧ k τ' H') fuel (listed.setIfInBounds j true) ((keepS ops j l).map (PromS.prom P)) a' w') (fun e a' w' => e = .normal ∧ ∃ τ' H', TM n τ' a' ∧ Sat w' (sl H') ∧ k τ' H') ∨ (Oper.asks P ⟨dst, op, type, pos, after, some (j', b)⟩ a w ∧ LetsOut (fun e a' w' => e = .normal ∧ ∃ τ' H', TM n τ' a' ∧ Sat w' (sl H') ∧ k τ' H'))
              else (fun a' w' => (∀ p ∈ (keepS ops j l).map (PromS.prom P), p.J w') ∧ wpP P ops (fun e a' w' => e = .normal ∧ ∃ τ' H', TM n τ' a' ∧ Sat w' (sl H') ∧ k τ' H') fuel (listed.setIfInBounds j true) ((keepS ops j l).map (PromS.prom P)) a' w') (a.put dst undef) w) := by
            intro τ' ht' hw hd hkk
            rw [if_neg (by rw [hw]; simp)]
            refine ⟨fun p hp => ?_, hkk.2 _ w (ht'.put hd) hs (hkk.1.J hs)⟩
            obtain ⟨s, hm, rfl⟩ := List.mem_map.1 hp
            exact hkk.1.J hs s hm
          cases hg with
          | tt h => exact go ht (by rw [wanted_of ht rfl hj' hv']; rfl) h
          | ff h => exact go ht (by rw [wanted_of ht rfl hj' hv']; rfl) h
          | tf hd h => exact no ht (by rw [wanted_of ht rfl hj' hv']; rfl) hd h
          | ft hd h => exact no ht (by rw [wanted_of ht rfl hj' hv']; rfl) hd h
          | un hd h => exact no ht (by rw [wanted_of ht rfl hj' hv']; rfl) hd h
          | sym hd h1 h2 =>
            rename_i c
            have ht2 := ht.same hv'
            by_cases e : c = b
            · subst e
              exact go ht2 (by rw [wanted_of ht rfl hj' hv']; simp) (h1 rfl)
            · have e' : c = !b := by cases c <;> cases b <;> simp at e ⊢
              subst e'
              exact no ht2 (by rw [wanted_of ht rfl hj' hv']; cases b <;> rfl) hd (h2 rfl)
        · exact ih hjr
  | @done fuel hk =>
    intro a w ht hs _
    have hr : Region.ready .any ops listed = [] := List.eq_nil_iff_forall_not_mem.2 fun j hj => by
      obtain ⟨h1, h2⟩ := mem_readyB.1 hj
      rw [hspec j h1] at h2; cases h2
    cases fuel with
    | zero => exact ⟨hr, rfl, τ, H, ht, hs, hk⟩
    | succ fuel => exact ⟨fun _ => ⟨rfl, τ, H, ht, hs, hk⟩, by rw [hr]; simp⟩
end
/-- a region whose order is drawn -/
theorem sx_draw {P : Program} {n : Nat} {τ : Env} {H : List HProp} {K : Cont} {it : List Item} {id : Nat} {ops : List Oper} (hm : P.follows .mixedOrders = true)
    (h : SA P ops.toArray n (fun τ' H' => SX P n K it τ' H') ops.length (Array.replicate ops.length false) [] τ H) : SX P n K (.code (.region id ops.toArray true) :: it) τ H := fun a w ht hs b cs => by
  have h1 := h a { w with drawn := w.drawn + 1 } ht (hs.heap rfl rfl rfl) (by simp)
  have h2 := wpP_any _ _ _ _ h1
  have h3 := wp_region_any (P := P) (ops := ops.toArray) (id := id) hm (by rw [List.size_toArray]; exact h2) b it cs
  obtain ⟨e, a', w', hq, harr⟩ := h3
  cases hq.1
  obtain ⟨τ', H', ht', hs', hk⟩ := hq.2
  obtain ⟨a'', w'', todo, st, r⟩ := hk a' w' ht' hs' b cs
  exact ⟨a'', w'', todo, Steps.trans harr st, r⟩
/-- a region's operations may be drawn -/
def DrawOK (ops : Array Oper) : Prop := Region.noSelect ops = true ∧ freeAll ops = true
theorem sx_drawn {P : Program} {n : Nat} {τ : Env} {H : List HProp} {K : Cont} {it : List Item} {id : Nat} {ops : List Oper} (hm : P.follows .mixedOrders = true) (hd : DrawOK ops.toArray)
    (h : DrawOK ops.toArray → SA P ops.toArray n (fun τ' H' => SX P n K it τ' H') ops.length (Array.replicate ops.length false) [] τ H) : SX P n K (.code (.region id ops.toArray true) :: it) τ H :=
  sx_draw hm (h hd)
inductive StepQ (P : Program) (ops : Array Oper) (n : Nat) (k : Cont) (listed : Array Bool) (l : List PromS) (τ : Env) (H : List HProp) (fuel i : Nat) : Option Oper → Prop
  | plain {d op type pos after v l'} : QuietP P H i op τ v l l' → Nat.blt d n = true →
      SA P ops n k fuel (listed.setIfInBounds i true) l' ((d, v) :: τ) H → StepQ P ops n k listed l τ H fuel i (some ⟨some d, op, type, pos, after, none⟩)
  | guarded {d op type pos after j b g v} : (ops[j]?).bind (·.dst) = some g → lk τ g = some v → Nat.blt d n = true →
      QGuard P ops n k fuel (listed.setIfInBounds i true) i d op H l τ g v b → StepQ P ops n k listed l τ H fuel i (some ⟨some d, op, type, pos, after, some (j, b)⟩)
inductive EachQ (P : Program) (ops : Array Oper) (n : Nat) (k : Cont) (fuel : Nat) (listed : Array Bool) (l : List PromS) (τ : Env) (H : List HProp) (i : Nat) : Option Oper → Prop
  | plain {dst op type pos after} : OpP P n dst op τ H (fun τ' H' => ValidR P H' (keepS ops i l) ∧ SA P ops n k fuel (listed.setIfInBounds i true) (keepS ops i l) τ' H') →
      EachQ P ops n k fuel listed l τ H i (some ⟨dst, op, type, pos, after, none⟩)
  | guarded {dst op type pos after j b d v} : (ops[j]?).bind (·.dst) = some d → lk τ d = some v →
      GuardP P n dst op τ H (fun τ' H' => ValidR P H' (keepS ops i l) ∧ SA P ops n k fuel (listed.setIfInBounds i true) (keepS ops i l) τ' H') d v b →
      EachQ P ops n k fuel listed l τ H i (some ⟨dst, op, type, pos, after, some (j, b)⟩)
inductive EachB (P : Program) (ops : Array Oper) (n : Nat) (k : Cont) (fuel : Nat) (listed : Array Bool) (l : List PromS) (τ : Env) (H : List HProp) : List Nat → Prop
  | nil : EachB P ops n k fuel listed l τ H []
  | cons {i rest} : EachQ P ops n k fuel listed l τ H i ops[i]? → EachB P ops n k fuel listed l τ H rest → EachB P ops n k fuel listed l τ H (i :: rest)
inductive StepB (P : Program) (ops : Array Oper) (n : Nat) (k : Cont) (listed : Array Bool) (l : List PromS) (τ : Env) (H : List HProp) : Nat → NextA → Prop
  | quiet {fuel i} : StepQ P ops n k listed l τ H fuel i ops[i]? → StepB P ops n k listed l τ H (fuel + 1) (.quiet i)
  | branch {fuel rs} : EachB P ops n k fuel listed l τ H rs → StepB P ops n k listed l τ H (fuel + 1) (.branch rs)
  | done {fuel} : k τ H → StepB P ops n k listed l τ H fuel .done
theorem EachB.to {P : Program} {ops : Array Oper} {n : Nat} {k : Cont} {fuel : Nat} {listed : Array Bool} {l : List PromS} {τ : Env} {H : List HProp} {rs : List Nat}
    (h : EachB P ops n k fuel listed l τ H rs) : EachP P ops n k fuel listed l τ H rs := by
  induction h with
  | nil => exact .nil
  | @cons i rest hq _ ih =>
    generalize hi : ops[i]? = o at hq
    cases hq with
    | plain h1 => exact .cons hi h1 ih
    | guarded h1 h2 h3 => exact .consG hi h1 h2 h3 ih
theorem StepB.to {P : Program} {ops : Array Oper} {n : Nat} {k : Cont} {listed : Array Bool} {l : List PromS} {τ : Env} {H : List HProp} {fuel : Nat} {na : NextA}
    (h : StepB P ops n k listed l τ H fuel na) : StepA P ops n k listed l τ H fuel na := by
  cases h with
  | @quiet fuel i hq =>
    generalize hi : ops[i]? = o at hq
    cases hq with
    | plain h1 h2 h3 => exact .quiet hi h1 h2 h3
    | guarded h1 h2 h3 h4 => exact .quietG hi h1 h2 h3 h4
  | branch h => exact .branch h.to
  | done h => exact .done h
theorem sa_step {P : Program} {ops : Array Oper} {n : Nat} {k : Cont} {fuel : Nat} {listed : Array Bool} {l : List PromS} {τ : Env} {H : List HProp} (hd : DrawOK ops)
    (h : StepB P ops n k listed l τ H fuel (nextA ops listed)) : SA P ops n k fuel listed l τ H := sa_it hd.1 hd.2 h.to
end Go.Sl
