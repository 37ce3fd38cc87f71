/- '==' on addr.Addr. -/
import Derived.Test.YtdelnmihgckeeaaIx
namespace Go.Proofs
open Go.Sl
set_option linter.unusedSimpArgs false
attribute [local irreducible] SX SO SA CallS Go.Sl.Spec CatOk
theorem eq_int (d : Nat) (t : TypeId) (k : IntKind) (h : Try.prog.underlying t = some (.int k)) (a b : Int) (w : World) :
    (Op.equalIn (d + 1) t (.int k a) (.int k b)).run Try.prog w = .ok (a == b) w := by
  rw [Op.equalIn]
  simp only [Sem.run_bind, run_under h, Result.andThen_ok]
  simp
theorem eq_adr (x y : List Value) (w : World) (hx : IntRow [.u32, .u16] x) (hy : IntRow [.u32, .u16] y) :
    (Op.equalIn 10000 25 (.agg ⟨x⟩) (.agg ⟨y⟩)).run Try.prog w = .ok (eqCells x y) w := by
  obtain _ | @⟨_, _, a, _, hx⟩ := hx
  obtain _ | @⟨_, _, b, _, hx⟩ := hx
  cases hx
  obtain _ | @⟨_, _, c, _, hy⟩ := hy
  obtain _ | @⟨_, _, d, _, hy⟩ := hy
  cases hy
  have hu : ∃ fs, Try.prog.underlying 25 = some (.struct fs) := ⟨_, rfl⟩
  obtain ⟨fs, hu⟩ := hu
  have hf : fs = _ := (Option.some.inj (hu.symm.trans rfl) |> fun e => by injection e)
  rw [show (10000 : Nat) = 9999 + 1 from rfl, Op.equalIn]
  have hs : Try.prog.stoodInHeld 25 = false := by kernel_rfl
  have hp : (Sem.run Try.prog program w) = .ok Try.prog w := rfl
  have p1 : ∀ a b : Int, (part 23 ⟨[.int .u32 a, .int .u16 b]⟩ 0).run Try.prog w = .ok (.int .u32 a) w := fun a b => by kernel_rfl
  have p2 : ∀ a b : Int, (part 22 ⟨[.int .u32 a, .int .u16 b]⟩ 1).run Try.prog w = .ok (.int .u16 b) w := fun a b => by kernel_rfl
  have e1 := fun a b : Int => eq_int 9998 23 .u32 rfl a b w
  have e2 := fun a b : Int => eq_int 9998 22 .u16 rfl a b w
  subst hf
  simp only [Sem.run_bind, run_under hu, Result.andThen_ok, hp, hs, if_false]
  cases h1 : (a == c) <;> cases h2 : (b == d) <;> simp [p1, p2, e1, e2, eqCells, h1, h2] <;> trace_state
instance eqAdr : EqTy Try.prog 25 [.u32, .u16] := ⟨by kernel_rfl, eq_adr⟩
end Go.Proofs
