/- wire.Put at the messages that the law makes. -/
import Derived.Test.YtdelnmihgckeeaaNx
import Derived.Test.YtdelnmihgckeeaaAe
import Derived.Test.YtdelnmihgckeeaaR05
namespace Go.Proofs
open Go.Sl
set_option linter.unusedSimpArgs false
attribute [local irreducible] SX SO SA CallS Go.Sl.Spec CatOk

set_option maxRecDepth 100000 in
set_option maxHeartbeats 2000000 in
theorem sp_Put5z  : Spec1 Try.prog 6 [.agg ⟨[.int .i64 5, .int .i64 1, .int .u32 0, .int .i64 2, .int .u32 0, .int .u16 0, cx 0 0, .bool false, str [], .slice none 0 0]⟩] [] (.tuple ⟨[str ([]), .bool false]⟩) [] := by
  refine spec_go Try.func6 rfl rfl Try.ntmps6 rfl (fun R => ?_)
  repeat' (first | (exact nx0) | constructor | (refine CallS.of sp_Right5z .nil ?_; rintro _ _ ⟨rfl, rfl⟩) | (refine CallS.of sp_Has5 .nil ?_; rintro _ _ ⟨rfl, rfl⟩) | (refine CallS.of (sp_Number1 _) .nil ?_; rintro _ _ ⟨rfl, rfl⟩) | (refine CallS.of (sp_Number2 _) .nil ?_; rintro _ _ ⟨rfl, rfl⟩) | (refine CallS.of (sp_Number4 _) .nil ?_; rintro _ _ ⟨rfl, rfl⟩) | (refine CallS.of sp_plp0 .nil ?_; rintro _ _ ⟨rfl, rfl⟩) | (refine so_it ?_) | (refine sx_goto rfl ?_) | (refine sx_drawn mixed ⟨by kernel_rfl, by kernel_rfl⟩ (fun hD => ?_)) | apply sx_loop_in | apply sx_back | (refine sx_it ?_) | (refine sa_step hD ?_) | (refine catOk ?_; simp; (try omega); done) | (intro h; first | (exfalso; simp at h; (try omega); done) | (try simp only [Bool.not_true, Bool.not_false, decide_eq_true_eq, decide_eq_false_iff_not, beq_iff_eq, bne_iff_ne, beq_eq_false_iff_ne, Int.not_lt, Int.not_le] at h)) | assumption | omega)
  all_goals rfl
set_option maxRecDepth 100000 in
set_option maxHeartbeats 2000000 in
theorem sp_Put5 (n : Nat) (h0 : 1 ≤ n) (h1 : n ≤ 900) : Spec1 Try.prog 6 [.agg ⟨[.int .i64 5, .int .i64 1, .int .u32 0, .int .i64 2, .int .u32 0, .int .u16 0, cx 0 0, .bool false, str (List.replicate n 0), .slice none 0 0]⟩] [] (.tuple ⟨[str (be 1 (IntKind.u64.wrap 5) ++ be 1 (IntKind.u64.wrap 1) ++ be 4 (IntKind.u64.wrap 0) ++ be 1 (IntKind.u64.wrap 2) ++ (be 2 (IntKind.u64.wrap ((List.replicate n (0 : UInt8)).length : Int)) ++ (List.replicate n 0))), .bool true]⟩) [] := by
  refine spec_go Try.func6 rfl rfl Try.ntmps6 rfl (fun R => ?_)
  repeat' (first | (exact nx_nb0) | (exact nx_nb1) | (exact nx_nb2) | constructor | (refine CallS.of (sp_Right5 _ h0 h1) .nil ?_; rintro _ _ ⟨rfl, rfl⟩) | (refine CallS.of sp_Has5 .nil ?_; rintro _ _ ⟨rfl, rfl⟩) | (refine CallS.of (sp_Number1 _) .nil ?_; rintro _ _ ⟨rfl, rfl⟩) | (refine CallS.of (sp_Number2 _) .nil ?_; rintro _ _ ⟨rfl, rfl⟩) | (refine CallS.of (sp_Number4 _) .nil ?_; rintro _ _ ⟨rfl, rfl⟩) | (refine CallS.of sp_plp0 .nil ?_; rintro _ _ ⟨rfl, rfl⟩) | (refine so_it ?_) | (refine sx_goto rfl ?_) | (refine sx_drawn mixed ⟨by kernel_rfl, by kernel_rfl⟩ (fun hD => ?_)) | apply sx_loop_in | apply sx_back | (refine sx_it ?_) | (refine sa_step hD ?_) | (refine catOk ?_; simp; (try omega); done) | (intro h; first | (exfalso; simp at h; (try omega); done) | (try simp only [Bool.not_true, Bool.not_false, decide_eq_true_eq, decide_eq_false_iff_not, beq_iff_eq, bne_iff_ne, beq_eq_false_iff_ne, Int.not_lt, Int.not_le] at h)) | assumption | omega)
  all_goals rfl
set_option maxRecDepth 100000 in
set_option maxHeartbeats 2000000 in
theorem sp_Put5b (n : Nat) (h1 : 900 < n) (h2 : n ≤ 2000) : Spec1 Try.prog 6 [.agg ⟨[.int .i64 5, .int .i64 1, .int .u32 0, .int .i64 2, .int .u32 0, .int .u16 0, cx 0 0, .bool false, str (List.replicate n 0), .slice none 0 0]⟩] [] (.tuple ⟨[str ([]), .bool false]⟩) [] := by
  refine spec_go Try.func6 rfl rfl Try.ntmps6 rfl (fun R => ?_)
  repeat' (first | (exact nx0) | constructor | (refine CallS.of (sp_Right5b _ h1 h2) .nil ?_; rintro _ _ ⟨rfl, rfl⟩) | (refine CallS.of sp_Has5 .nil ?_; rintro _ _ ⟨rfl, rfl⟩) | (refine CallS.of (sp_Number1 _) .nil ?_; rintro _ _ ⟨rfl, rfl⟩) | (refine CallS.of (sp_Number2 _) .nil ?_; rintro _ _ ⟨rfl, rfl⟩) | (refine CallS.of (sp_Number4 _) .nil ?_; rintro _ _ ⟨rfl, rfl⟩) | (refine CallS.of sp_plp0 .nil ?_; rintro _ _ ⟨rfl, rfl⟩) | (refine so_it ?_) | (refine sx_goto rfl ?_) | (refine sx_drawn mixed ⟨by kernel_rfl, by kernel_rfl⟩ (fun hD => ?_)) | apply sx_loop_in | apply sx_back | (refine sx_it ?_) | (refine sa_step hD ?_) | (refine catOk ?_; simp; (try omega); done) | (intro h; first | (exfalso; simp at h; (try omega); done) | (try simp only [Bool.not_true, Bool.not_false, decide_eq_true_eq, decide_eq_false_iff_not, beq_iff_eq, bne_iff_ne, beq_eq_false_iff_ne, Int.not_lt, Int.not_le] at h)) | assumption | omega)
  all_goals rfl
end Go.Proofs
