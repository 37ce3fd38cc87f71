/- Package record: Put. Condition: a record that is right. -/
import Derived.Test.YtdelnmihgckeeaaAd
namespace Go.Proofs
open Go.Sl
set_option linter.unusedSimpArgs false
attribute [local irreducible] SX SO SA CallS Go.Sl.Spec CatOk
set_option maxRecDepth 100000 in
set_option maxHeartbeats 2000000 in
theorem sp_RPut (id st inc ip port : Int) (hr : Rec.right ⟨id, st, inc, ⟨ip, port⟩⟩ = true) : Spec1 Try.prog 14 [.agg ⟨[.int .i64 id, .int .i64 st, .int .u32 inc, .int .u32 ip, .int .u16 port]⟩] []
    (.tuple ⟨[str (Rec.put ⟨id, st, inc, ⟨ip, port⟩⟩), .bool true]⟩) [] := by
  refine spec_go Try.func14 rfl rfl Try.ntmps14 rfl (fun R => ?_)
  repeat' (first | constructor | (refine CallS.of (sp_RRight _ _ _ _ _) .nil ?_; rintro _ _ ⟨rfl, rfl⟩; rw [hr]) | (refine CallS.of (sp_Number4 _) .nil ?_; rintro _ _ ⟨rfl, rfl⟩) | (refine CallS.of (sp_Number1 _) .nil ?_; rintro _ _ ⟨rfl, rfl⟩) | (refine CallS.of (sp_APut _ _) .nil ?_; rintro _ _ ⟨rfl, rfl⟩) | (refine so_it ?_) | (refine sx_goto rfl ?_) | (refine sx_drawn mixed ⟨by kernel_rfl, by kernel_rfl⟩ (fun hD => ?_)) | (refine sx_it ?_) | (refine sa_step hD ?_) | (refine catOk ?_; simp; (try omega); done) | (intro h; first | (exfalso; simp at h; (try omega); done) | (try simp only [Bool.not_true, Bool.not_false, decide_eq_true_eq, decide_eq_false_iff_not, beq_iff_eq, bne_iff_ne, beq_eq_false_iff_ne, Int.not_lt, Int.not_le] at h)) | assumption | omega)
  exact congrArg (fun x => Value.tuple ⟨[str x, .bool true]⟩) (by rw [be1_wrap, be1_wrap, be4_wrap]; simp [Rec.put])
end Go.Proofs
