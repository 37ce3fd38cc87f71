/- wire.Put at the messages that the law makes. -/
import Derived.Test.YtdelnmihgckeeaaNx
import Derived.Test.YtdelnmihgckeeaaAe
import Derived.Test.YtdelnmihgckeeaaR02
namespace Go.Proofs
open Go.Sl
set_option linter.unusedSimpArgs false
attribute [local irreducible] SX SO SA CallS Go.Sl.Spec CatOk

set_option maxRecDepth 100000 in
set_option maxHeartbeats 2000000 in
theorem sp_Put2  : Spec1 Try.prog 6 [.agg ⟨[.int .i64 2, .int .i64 1, .int .u32 0, .int .i64 0, .int .u32 0, .int .u16 0, cx 4607182418800017408 13830554455654793216, .bool false, str [], .slice none 0 0]⟩] [] (.tuple ⟨[str (be 1 2 ++ be 1 1 ++ be 4 0 ++ (be 4 1000001 ++ be 4 999999) ++ be 1 0), .bool true]⟩) [] := by
  refine spec_go Try.func6 rfl rfl Try.ntmps6 rfl (fun R => ?_)
  repeat' (first | (exact nx_pr0) | (exact nx_pr1) | (exact nx_pr2) | constructor | (refine CallS.of sp_Right2 .nil ?_; rintro _ _ ⟨rfl, rfl⟩) | (refine CallS.of sp_Has2 .nil ?_; rintro _ _ ⟨rfl, rfl⟩) | (refine CallS.of (sp_Number1 _) .nil ?_; rintro _ _ ⟨rfl, rfl⟩) | (refine CallS.of (sp_Number2 _) .nil ?_; rintro _ _ ⟨rfl, rfl⟩) | (refine CallS.of (sp_Number4 _) .nil ?_; rintro _ _ ⟨rfl, rfl⟩) | (refine CallS.of sp_plp1 .nil ?_; rintro _ _ ⟨rfl, rfl⟩) | (refine so_it ?_) | (refine sx_goto rfl ?_) | (refine sx_drawn mixed ⟨by kernel_rfl, by kernel_rfl⟩ (fun hD => ?_)) | apply sx_loop_in | apply sx_back | (refine sx_it ?_) | (refine sa_step hD ?_) | (refine catOk ?_; simp; (try omega); done) | (intro h; first | (exfalso; simp at h; (try omega); done) | (try simp only [Bool.not_true, Bool.not_false, decide_eq_true_eq, decide_eq_false_iff_not, beq_iff_eq, bne_iff_ne, beq_eq_false_iff_ne, Int.not_lt, Int.not_le] at h)) | assumption | omega)
  all_goals kernel_rfl
end Go.Proofs
