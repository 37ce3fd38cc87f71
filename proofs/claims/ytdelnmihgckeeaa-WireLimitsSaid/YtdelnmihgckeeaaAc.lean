/- wire.Put at the messages that the law makes. -/
import Derived.Test.YtdelnmihgckeeaaNx
import Derived.Test.YtdelnmihgckeeaaAe
import Derived.Test.YtdelnmihgckeeaaIx
namespace Go.Proofs
open Go.Sl
set_option linter.unusedSimpArgs false
attribute [local irreducible] SX SO SA CallS Go.Sl.Spec CatOk

/-- bytes, and those of some records behind them -/
def accR (base : List UInt8) (rs : List Rec) (i : Nat) : List UInt8 := base ++ ((rs.take i).map Rec.put).flatten
theorem accR_zero (base : List UInt8) (rs : List Rec) : base = accR base rs 0 := by simp [accR]
theorem accR_succ (base : List UInt8) (rs : List Rec) (i : Nat) (h : i < rs.length) : accR base rs i ++ Rec.put rs[i] = accR base rs (i + 1) := by
  simp only [accR, List.take_succ_eq_append_getElem h, List.map_append, List.flatten_append, List.append_assoc]
  simp
theorem putRows_length (l : List Rec) : ((l.map Rec.put).flatten).length = 12 * l.length := by
  induction l with
  | nil => rfl
  | cons x l ih => simp only [List.map_cons, List.flatten_cons, List.length_append, Rec.put_length, ih, List.length_cons]; omega
@[simp] theorem accR_length (base : List UInt8) (rs : List Rec) (i : Nat) : (accR base rs i).length = base.length + 12 * min i rs.length := by
  simp only [accR, List.length_append, putRows_length, List.length_take]
end Go.Proofs
