/- law06's Thing.thing, of one's own. -/
import Derived.Test.YtdelnmihgckeeaaAd
namespace Go.Proofs
open Go.Sl
set_option linter.unusedSimpArgs false
attribute [local irreducible] SX SO SA CallS Go.Sl.Spec CatOk
/-- what becomes of a record's parts -/
def thingRec (id st inc ip : Int) : Rec := ⟨IntKind.i64.wrap (1 + IntKind.i64.wrap ((IntKind.u64.wrap id).tmod 6)), IntKind.i64.wrap ((IntKind.u64.wrap st).tmod 4), inc.tmod 5, ⟨IntKind.u32.wrap (1 + ip.tmod 3), 7⟩⟩
theorem thing_right (id st inc ip : Int) (h : 0 ≤ ip) : (thingRec id st inc ip).right = true := by
  have w64 : ∀ z : Int, IntKind.u64.wrap z = z % 18446744073709551616 := fun z => u64wrap z
  have wi' : ∀ z : Int, -100 ≤ z → z ≤ 100 → IntKind.i64.wrap z = z := fun z h1 h2 => by
    simp only [IntKind.wrap, IntKind.signed, IntKind.bits]
    simp
    omega
  have wu' : ∀ z : Int, 0 ≤ z → z ≤ 100 → IntKind.u32.wrap z = z := fun z h1 h2 => by
    simp only [IntKind.wrap, IntKind.signed, IntKind.bits]
    simp
    omega
  have e1 : (IntKind.u64.wrap id).tmod 6 = (id % 18446744073709551616) % 6 := by rw [w64, Int.tmod_eq_emod_of_nonneg (by omega)]
  have e2 : (IntKind.u64.wrap st).tmod 4 = (st % 18446744073709551616) % 4 := by rw [w64, Int.tmod_eq_emod_of_nonneg (by omega)]
  have e3 : ip.tmod 3 = ip % 3 := Int.tmod_eq_emod_of_nonneg h
  unfold thingRec
  rw [e1, e2, e3, wi' (id % 18446744073709551616 % 6) (by omega) (by omega), wi' (1 + _) (by omega) (by omega), wi' (st % 18446744073709551616 % 4) (by omega) (by omega), wu' _ (by omega) (by omega)]
  simp [Rec.right, Adr.isNone]
  omega
set_option maxRecDepth 100000 in
set_option maxHeartbeats 2000000 in
theorem sp_thing (id st inc ip port : Int) : Spec1 Try.prog 5 [.agg ⟨[.int .i64 id, .int .i64 st, .int .u32 inc, .int .u32 ip, .int .u16 port, .bool true]⟩] []
    (Rec.val (thingRec id st inc ip)) [] := by
  refine spec_go Try.func5 rfl rfl Try.ntmps5 rfl (fun R => ?_)
  repeat' (first | constructor | (refine so_it ?_) | (refine sx_goto rfl ?_) | (refine sx_drawn mixed ⟨by kernel_rfl, by kernel_rfl⟩ (fun hD => ?_)) | (refine sx_it ?_) | (refine sa_step hD ?_) | (refine catOk ?_; simp; (try omega); done) | (intro h; first | (exfalso; simp at h; (try omega); done) | (try simp only [Bool.not_true, Bool.not_false, decide_eq_true_eq, decide_eq_false_iff_not, beq_iff_eq, bne_iff_ne, beq_eq_false_iff_ne, Int.not_lt, Int.not_le] at h)) | assumption | omega)
  all_goals rfl
end Go.Proofs
