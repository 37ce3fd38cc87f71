/- The walk's driver: code and regions as inductive relations that 'constructor' follows; a function's end; draws of an order. No condition. -/
import Derived.Test.YtdelnmihgckeeaaSl5
namespace Go.Sl
set_option linter.unusedSimpArgs false
set_option linter.unusedVariables false

inductive GuardP (P : Program) (n : Nat) (dst : Option Tmp) (op : Op) (τ : Env) (H : List HProp) (next : Cont) : Nat → Value → Bool → Prop
  | tt {d} : OpP P n dst op τ H next → GuardP P n dst op τ H next d (.bool true) true
  | ff {d} : OpP P n dst op τ H next → GuardP P n dst op τ H next d (.bool false) false
  | tf {d} : okD dst n = true → next (putE dst undef τ) H → GuardP P n dst op τ H next d (.bool true) false
  | ft {d} : okD dst n = true → next (putE dst undef τ) H → GuardP P n dst op τ H next d (.bool false) true
  | un {d b} : okD dst n = true → next (putE dst undef τ) H → GuardP P n dst op τ H next d undef b
  | sym {d c b} : okD dst n = true → (c = b → OpP P n dst op ((d, .bool b) :: τ) H next) → (c = !b → next (putE dst undef ((d, .bool (!b)) :: τ)) H) → GuardP P n dst op τ H next d (.bool c) b
inductive SoP (P : Program) (n : Nat) (ops : Array Oper) (k : Cont) : List Oper → Env → List HProp → Prop
  | nil {τ H} : k τ H → SoP P n ops k [] τ H
  | plain {dst op type pos after rest τ H} : OpP P n dst op τ H (fun τ' H' => SO P ops n k rest τ' H') → SoP P n ops k (⟨dst, op, type, pos, after, none⟩ :: rest) τ H
  | guarded {dst op type pos after j b d v rest τ H} : (ops[j]?).bind (·.dst) = some d → lk τ d = some v →
      GuardP P n dst op τ H (fun τ' H' => SO P ops n k rest τ' H') d v b → SoP P n ops k (⟨dst, op, type, pos, after, some (j, b)⟩ :: rest) τ H
theorem so_it {P : Program} {n : Nat} {τ : Env} {H : List HProp} {ops : Array Oper} {k : Cont} {rest : List Oper} (h : SoP P n ops k rest τ H) : SO P ops n k rest τ H := by
  cases h with
  | nil h => exact so_nil h
  | plain h => exact so_plain (h.sound _ _ _ _)
  | @guarded dst op type pos after j b d v rest τ H hj hv hg =>
    have gv : gval ops τ j = some v := by unfold gval; rw [hj]; exact hv
    cases hg with
    | tt h => exact so_gdo gv (h.sound _ _ _ _)
    | ff h => exact so_gdo gv (h.sound _ _ _ _)
    | tf hd h => exact so_gskip gv rfl hd h
    | ft hd h => exact so_gskip gv rfl hd h
    | un hd h => exact so_gskip gv rfl hd h
    | sym hd h1 h2 => exact so_gsplit hj hv hd (fun e => (h1 e).sound _ _ _ _) h2

inductive CondP : Bool → Prop → Prop → Prop
  | tt {X Y} : X → CondP true X Y
  | ff {X Y} : Y → CondP false X Y
  | sym {t X Y} : (t = true → X) → (t = false → Y) → CondP t X Y
inductive ItP (P : Program) (n : Nat) (K : Cont) : List Item → Env → List HProp → Prop
  | seq {x y it τ H} : SX P n K (.code x :: .code y :: it) τ H → ItP P n K (.code (.seq x y) :: it) τ H
  | region {id l it τ H} : SO P l.toArray n (fun τ' H' => SX P n K it τ' H') l τ H → ItP P n K (.code (.region id l.toArray false) :: it) τ H
  | cond {c x y t it τ H} : ev τ c = some (.bool t) → CondP t (SX P n K (.code x :: it) τ H) (SX P n K (.code y :: it) τ H) → ItP P n K (.code (.cond c x y) :: it) τ H
  | ret {it τ H} : K τ H → ItP P n K (.code .ret :: it) τ H
  | skip {it τ H} : SX P n K it τ H → ItP P n K (.code .skip :: it) τ H
  | label {l it τ H} : SX P n K it τ H → ItP P n K (.code (.label l) :: it) τ H
  | block {id c it τ H} : SX P n K (.code c :: .inBlock id :: it) τ H → ItP P n K (.code (.block id c) :: it) τ H
  | inBlock {id it τ H} : SX P n K it τ H → ItP P n K (.inBlock id :: it) τ H
  | exit {id it it' τ H} : exitTo id it = some it' → SX P n K it' τ H → ItP P n K (.code (.exit id) :: it) τ H
  | inScope {c it τ H} : SX P n K it τ H → ItP P n K (.inScope c :: it) τ H
  | scope {c it τ H} : SX P n K (.code c :: .inScope c :: it) τ H → ItP P n K (.code (.scope c) :: it) τ H
  | fin {τ H} : K τ H → ItP P n K [] τ H
theorem sx_it {P : Program} {n : Nat} {τ : Env} {H : List HProp} {K : Cont} {it : List Item} (h : ItP P n K it τ H) : SX P n K it τ H := by
  cases h with
  | seq h => exact sx_seq h
  | region h => exact sx_region h
  | cond hc h => cases h with
    | tt h => exact sx_cond_true hc h
    | ff h => exact sx_cond_false hc h
    | sym h1 h2 => exact sx_cond hc h1 h2
  | ret h => exact sx_ret h
  | skip h => exact sx_skip h
  | label h => exact sx_label h
  | block h => exact sx_block h
  | inBlock h => exact sx_inBlock h
  | exit he h => exact sx_exit he h
  | inScope h => exact sx_inScope h
  | scope h => exact sx_scope h
  | fin h => exact sx_end h

/-- a tail of a list -/
inductive Tl : List HProp → List HProp → Prop
  | here {R} : Tl R R
  | drop {c l R} : Tl l R → Tl (c :: l) R
theorem Tl.sat {l R : List HProp} (h : Tl l R) : ∀ {w : World} {F : HProp}, Sat w (star F (sl l)) → Sat w (star F (sl R)) := by
  induction h with
  | here => exact fun h => h
  | @drop c l R _ ih =>
    intro w F h
    exact ih (Sat.right (h.mono fun _ => star_swap))
inductive ResR (P : Program) (τ : Env) (H : List HProp) : List ResultVar → List Value → Prop
  | nil : ResR P τ H [] []
  | tmp {t v rs vs} : lk τ t = some v → ResR P τ H rs vs → ResR P τ H (.tmp t :: rs) (v :: vs)
  | cell {c t b o v rs vs} : lk τ c = some (.pointer (some ⟨b, o, none⟩)) → LoadR P H t (.pointer (some ⟨b, o, none⟩)) v → ResR P τ H rs vs → ResR P τ H (.cell c t :: rs) (v :: vs)
def tupV : List Value → Value
  | [v] => v
  | l => .tuple ⟨l⟩
theorem ResR.run {P : Program} {n : Nat} {τ : Env} {H : List HProp} {rs : List ResultVar} {vs : List Value} (h : ResR P τ H rs vs) {a : Act} {w : World}
    (ht : TM n τ a) (hs : Sat w (sl H)) : (rs.mapM (resOne a.tmps)).run P w = .ok vs w := by
  induction h with
  | nil => simp
  | @tmp t v rs vs h1 _ ih =>
    have := ht.look t v h1
    have e : (resOne a.tmps (.tmp t)).run P w = .ok v w := by simp [resOne, this]
    simp only [List.mapM_cons, Sem.run_bind, e, Result.andThen_ok, ih, Sem.run_pure]
  | @cell c t b o v rs vs h1 h2 _ ih =>
    have := ht.look c _ h1
    have hl := h2.sound w hs
    have e : (resOne a.tmps (.cell c t)).run P w = .ok v w := by
      simp only [Instr.loadAt, Instr.sureAddr, Sem.run_bind, Sem.run_pure, Result.andThen_ok] at hl
      simp [resOne, this, asAddr, hl]
    simp only [List.mapM_cons, Sem.run_bind, e, Result.andThen_ok, ih, Sem.run_pure]
/-- a function's end -/
def Leaf (P : Program) (rs : List ResultVar) (post : Value → List HProp → Prop) (R : List HProp) (τ : Env) (H : List HProp) : Prop :=
  ∃ vs H' X, ResR P τ H rs vs ∧ post (tupV vs) H' ∧ TakeAll H H' X ∧ Tl X R
theorem Leaf.mk {P : Program} {rs : List ResultVar} {post : Value → List HProp → Prop} {R : List HProp} {τ : Env} {H : List HProp} {vs : List Value} {H' X : List HProp}
    (h1 : ResR P τ H rs vs) (h2 : post (tupV vs) H') (h3 : TakeAll H H' X) (h4 : Tl X R) : Leaf P rs post R τ H := ⟨vs, H', X, h1, h2, h3, h4⟩
theorem Leaf.det {P : Program} {rs : List ResultVar} {R : List HProp} {τ : Env} {H : List HProp} {vs : List Value} {H' X : List HProp} {v : Value}
    (h1 : ResR P τ H rs vs) (h3 : TakeAll H H' X) (h4 : Tl X R) (h2 : tupV vs = v) : Leaf P rs (fun u G => u = v ∧ G = H') R τ H := ⟨vs, H', X, h1, ⟨h2, rfl⟩, h3, h4⟩
/-- what a call comes to, where that is known: the value, and what the assertions become -/
abbrev Spec1 (P : Program) (f : FuncId) (args : List Value) (pre : List HProp) (v : Value) (H' : List HProp) : Prop := Spec P f args pre fun u G => u = v ∧ G = H'

theorem spec_go {P : Program} {f : FuncId} {fn : Func} {c : Code} {args : List Value} {pre : List HProp} {post : Value → List HProp → Prop} {rs : List ResultVar} {m : Nat}
    (hf : P.funcs[f]? = some fn) (hb : fn.body = some c) (hr : fn.results = rs.toArray) (hm : fn.ntmps = m) (hlen : Nat.ble args.length m = true)
    (h : ∀ R : List HProp, SX P m (Leaf P rs post R) [.code c] (envOf args m) (pre ++ R)) :
    Spec P f args pre post := by
  subst hm
  intro w R hs cs
  have hlen' : args.length ≤ fn.ntmps := Nat.le_of_ble_eq_true hlen
  have ht : TM fn.ntmps (envOf args fn.ntmps) { tmps := args.toArray ++ Array.replicate (fn.ntmps - args.toArray.size) undef, defers := [] } := by
    refine ⟨by simp; omega, fun i v e => ?_, rfl⟩
    have := (lk_zip _ 0 i v e).2
    simp only [Nat.sub_zero] at this
    rw [← this, ← Array.getElem?_toList]
    simp
  let b : Frame := { (default : Frame) with fn := f, kind := .normal }
  have henter : Frame.enter P f args.toArray .normal =
      b.at { tmps := args.toArray ++ Array.replicate (fn.ntmps - args.toArray.size) undef, defers := [] } [.code c] := by
    simp [Frame.enter, Frame.at, hf, hb, b]
  obtain ⟨a', w', todo, st, τ', H', ht', hs', vs, H'', X, hres, hp, hta, htl⟩ := h R _ w ht hs b cs
  rw [← henter] at st
  have hfin : Sat w' (sl (H'' ++ R)) := by
    have h1 : Sat w' (sl (H'' ++ X)) := hs'.perm hta.perm
    have h2 : Sat w' (star (sl H'') (sl X)) := h1.mono fun h => (sl_append h).1
    exact (htl.sat h2).mono fun h => (sl_append h).2
  refine ⟨.returned (tupV vs), w', _, ⟨tupV vs, H'', rfl, hp, hfin⟩, st, rfl, rfl, ht'.defers, rfl, fn, hf, ?_⟩
  rw [results_eq, hr]
  have hrun := hres.run ht' hs'
  have : (rs.toArray.mapM (resOne (b.at a' todo).tmps)).run P w' = .ok vs.toArray w' := by
    show (rs.toArray.mapM (resOne a'.tmps)).run P w' = .ok vs.toArray w'
    rw [Array.mapM_eq_mapM_toList, Sem.run_map]
    simp [hrun]
  show (do let vs ← rs.toArray.mapM (resOne (b.at a' todo).tmps); pure (if h : vs.size = 1 then vs[0] else .tuple vs) : Sem Value).run P w' = _
  simp only [Sem.run_bind, this, Result.andThen_ok, Sem.run_pure]
  cases vs with
  | nil => rfl
  | cons v l => cases l with
    | nil => rfl
    | cons u l => simp [tupV]
end Go.Sl
