/- The chapter's own examples are so. -/
import Derived.Test.YtdelnmihgckeeaaGt
import Derived.Test.YtdelnmihgckeeaaP02
namespace Go.Proofs
open Go.Sl
set_option linter.unusedSimpArgs false
attribute [local irreducible] SX SO SA CallS Go.Sl.Spec CatOk
set_option maxRecDepth 100000 in
set_option maxHeartbeats 4000000 in
theorem sp_ex : Spec1 Try.prog 4 [] [] (.bool true) [] := by
  refine spec_go Try.func4 rfl rfl Try.ntmps4 rfl (fun R => ?_)
  repeat' (first | constructor | (refine CallS.of sp_Put12 .nil ?_; rintro _ _ ⟨rfl, rfl⟩) | (refine CallS.of sp_Put12z .nil ?_; rintro _ _ ⟨rfl, rfl⟩) | (refine CallS.of sp_Put2 .nil ?_; rintro _ _ ⟨rfl, rfl⟩) | (refine CallS.of sp_Get6 .nil ?_; rintro _ _ ⟨rfl, rfl⟩) | (refine CallS.of sp_Get7 .nil ?_; rintro _ _ ⟨rfl, rfl⟩) | (refine CallS.of sp_Has1 .nil ?_; rintro _ _ ⟨rfl, rfl⟩) | (refine CallS.of sp_SameK .nil ?_; rintro _ _ ⟨rfl, rfl⟩) | (refine CallS.of sp_Right0 .nil ?_; rintro _ _ ⟨rfl, rfl⟩) | (refine so_it ?_) | (refine sx_goto rfl ?_) | (refine sx_drawn mixed ⟨by kernel_rfl, by kernel_rfl⟩ (fun hD => ?_)) | (refine sx_it ?_) | (refine sa_step hD ?_) | (refine catOk ?_; simp; (try omega); done) | (intro h; first | (exfalso; simp at h; (try omega); done) | (try simp only [Bool.not_true, Bool.not_false, decide_eq_true_eq, decide_eq_false_iff_not, beq_iff_eq, bne_iff_ne, beq_eq_false_iff_ne, Int.not_lt, Int.not_le] at h)) | assumption | omega)
  all_goals rfl
end Go.Proofs
