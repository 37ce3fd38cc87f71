/- wire.Put at the messages that the law makes. -/
import Derived.Test.YtdelnmihgckeeaaNx
import Derived.Test.YtdelnmihgckeeaaAe
import Derived.Test.YtdelnmihgckeeaaR12
namespace Go.Proofs
open Go.Sl
set_option linter.unusedSimpArgs false
attribute [local irreducible] SX SO SA CallS Go.Sl.Spec CatOk

set_option maxRecDepth 100000 in
set_option maxHeartbeats 2000000 in
theorem sp_Put12  : Spec1 Try.prog 6 [.agg ⟨[.int .i64 12, .int .i64 3, .int .u32 258, .int .i64 0, .int .u32 0, .int .u16 0, cx 0 0, .bool false, str [], .slice none 0 0]⟩] [] (.tuple ⟨[str ([12, 3, 0, 0, 1, 2]), .bool true]⟩) [] := by
  refine spec_go Try.func6 rfl rfl Try.ntmps6 rfl (fun R => ?_)
  repeat' (first | (exact nx0) | constructor | (refine CallS.of (sp_Right12 _) .nil ?_; rintro _ _ ⟨rfl, rfl⟩) | (refine CallS.of sp_Has12 .nil ?_; rintro _ _ ⟨rfl, rfl⟩) | (refine CallS.of (sp_Number1 _) .nil ?_; rintro _ _ ⟨rfl, rfl⟩) | (refine CallS.of (sp_Number2 _) .nil ?_; rintro _ _ ⟨rfl, rfl⟩) | (refine CallS.of (sp_Number4 _) .nil ?_; rintro _ _ ⟨rfl, rfl⟩) | (refine CallS.of sp_plp0 .nil ?_; rintro _ _ ⟨rfl, rfl⟩) | (refine so_it ?_) | (refine sx_goto rfl ?_) | (refine sx_drawn mixed ⟨by kernel_rfl, by kernel_rfl⟩ (fun hD => ?_)) | apply sx_loop_in | apply sx_back | (refine sx_it ?_) | (refine sa_step hD ?_) | (refine catOk ?_; simp; (try omega); done) | (intro h; first | (exfalso; simp at h; (try omega); done) | (try simp only [Bool.not_true, Bool.not_false, decide_eq_true_eq, decide_eq_false_iff_not, beq_iff_eq, bne_iff_ne, beq_eq_false_iff_ne, Int.not_lt, Int.not_le] at h)) | assumption | omega)
  all_goals kernel_rfl
set_option maxRecDepth 100000 in
set_option maxHeartbeats 2000000 in
theorem sp_Put12z  : Spec1 Try.prog 6 [.agg ⟨[.int .i64 12, .int .i64 0, .int .u32 0, .int .i64 0, .int .u32 0, .int .u16 0, cx 0 0, .bool false, str [], .slice none 0 0]⟩] [] (.tuple ⟨[str ([]), .bool false]⟩) [] := by
  refine spec_go Try.func6 rfl rfl Try.ntmps6 rfl (fun R => ?_)
  repeat' (first | (exact nx0) | constructor | (refine CallS.of sp_Right12z .nil ?_; rintro _ _ ⟨rfl, rfl⟩) | (refine CallS.of sp_Has12 .nil ?_; rintro _ _ ⟨rfl, rfl⟩) | (refine CallS.of (sp_Number1 _) .nil ?_; rintro _ _ ⟨rfl, rfl⟩) | (refine CallS.of (sp_Number2 _) .nil ?_; rintro _ _ ⟨rfl, rfl⟩) | (refine CallS.of (sp_Number4 _) .nil ?_; rintro _ _ ⟨rfl, rfl⟩) | (refine CallS.of sp_plp0 .nil ?_; rintro _ _ ⟨rfl, rfl⟩) | (refine so_it ?_) | (refine sx_goto rfl ?_) | (refine sx_drawn mixed ⟨by kernel_rfl, by kernel_rfl⟩ (fun hD => ?_)) | apply sx_loop_in | apply sx_back | (refine sx_it ?_) | (refine sa_step hD ?_) | (refine catOk ?_; simp; (try omega); done) | (intro h; first | (exfalso; simp at h; (try omega); done) | (try simp only [Bool.not_true, Bool.not_false, decide_eq_true_eq, decide_eq_false_iff_not, beq_iff_eq, bne_iff_ne, beq_eq_false_iff_ne, Int.not_lt, Int.not_le] at h)) | assumption | omega)
  all_goals rfl
end Go.Proofs
