/- wire.Right at the messages that the law makes. -/
import Derived.Test.YtdelnmihgckeeaaEq
import Derived.Test.YtdelnmihgckeeaaHa
import Derived.Test.YtdelnmihgckeeaaAf
namespace Go.Proofs
open Go.Sl
set_option linter.unusedSimpArgs false
attribute [local irreducible] SX SO SA CallS Go.Sl.Spec CatOk

set_option maxRecDepth 100000 in
set_option maxHeartbeats 2000000 in
theorem sp_Right2  : Spec1 Try.prog 10 [.agg ⟨[.int .i64 2, .int .i64 1, .int .u32 0, .int .i64 0, .int .u32 0, .int .u16 0, cx 4607182418800017408 13830554455654793216, .bool false, str [], .slice none 0 0]⟩] [] (.bool true) [] := by
  refine spec_go Try.func10 rfl rfl Try.ntmps10 rfl (fun R => ?_)
  repeat' (first | (refine BinP.cpx (v := .bool false) (fun _ => by kernel_rfl)) | constructor | (refine CallS.of sp_Has2 .nil ?_; rintro _ _ ⟨rfl, rfl⟩) | (refine CallS.of (sp_node _) .nil ?_; rintro _ _ ⟨rfl, rfl⟩) | (refine CallS.of sp_plain1 .nil ?_; rintro _ _ ⟨rfl, rfl⟩) | (refine CallS.of (sp_None _ _) .nil ?_; rintro _ _ ⟨rfl, rfl⟩) | (refine CallS.of sp_plr1 .nil ?_; rintro _ _ ⟨rfl, rfl⟩) | (refine CallS.of (sp_newsAt 2 8 (by decide)) .nil ?_; rintro _ _ ⟨rfl, rfl⟩) | (refine CallS.of (sp_CtF0 _) .nil ?_; rintro _ _ ⟨rfl, rfl⟩) | (refine CallS.of (sp_Contains _ _ _ rfl) .nil ?_; rintro _ _ ⟨rfl, rfl⟩) | (refine so_it ?_) | (refine sx_goto rfl ?_) | (refine sx_drawn mixed ⟨by kernel_rfl, by kernel_rfl⟩ (fun hD => ?_)) | apply sx_loop_in | apply sx_back | (refine sx_it ?_) | (refine sa_step hD ?_) | (refine catOk ?_; simp; (try omega); done) | (intro h; first | (exfalso; simp at h; (try omega); done) | (try simp only [Bool.not_true, Bool.not_false, decide_eq_true_eq, decide_eq_false_iff_not, beq_iff_eq, bne_iff_ne, beq_eq_false_iff_ne, Int.not_lt, Int.not_le] at h)) | assumption | omega)
  all_goals rfl
end Go.Proofs
