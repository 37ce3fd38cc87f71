/- Package wire: node and news, whatever the number. No condition. -/
import Derived.Test.YtdelnmihgckeeaaAd
namespace Go.Proofs
open Go.Sl
set_option linter.unusedSimpArgs false
attribute [local irreducible] SX SO SA CallS Go.Sl.Spec CatOk
set_option maxRecDepth 100000 in
set_option maxHeartbeats 2000000 in
theorem sp_node (x : Int) : Spec1 Try.prog 20 [.int .i64 x] [] (.bool (decide (1 ≤ x ∧ x ≤ 32))) [] := by
  refine spec_go Try.func20 rfl rfl Try.ntmps20 rfl (fun R => ?_)
  repeat' (first | constructor | (refine so_it ?_) | (refine sx_goto rfl ?_) | (refine sx_drawn mixed ⟨by kernel_rfl, by kernel_rfl⟩ (fun hD => ?_)) | (refine sx_it ?_) | (refine sa_step hD ?_) | (refine catOk ?_; simp; (try omega); done) | (intro h; first | (exfalso; simp at h; (try omega); done) | (try simp only [Bool.not_true, Bool.not_false, decide_eq_true_eq, decide_eq_false_iff_not, beq_iff_eq, bne_iff_ne, beq_eq_false_iff_ne, Int.not_lt, Int.not_le] at h)) | assumption | omega)
  all_goals refine congrArg Value.bool ?_
  all_goals (rw [Bool.eq_iff_iff]; (try simp at *); try omega)
def newsMost (k : Int) : Int := if k = 13 ∨ k = 15 then 32 else 8
set_option maxRecDepth 100000 in
set_option maxHeartbeats 2000000 in
theorem sp_news (x : Int) : Spec1 Try.prog 26 [.int .i64 x] [] (.int .i64 (newsMost x)) [] := by
  refine spec_go Try.func26 rfl rfl Try.ntmps26 rfl (fun R => ?_)
  repeat' (first | constructor | (refine so_it ?_) | (refine sx_goto rfl ?_) | (refine sx_drawn mixed ⟨by kernel_rfl, by kernel_rfl⟩ (fun hD => ?_)) | (refine sx_it ?_) | (refine sa_step hD ?_) | (refine catOk ?_; simp; (try omega); done) | (intro h; first | (exfalso; simp at h; (try omega); done) | (try simp only [Bool.not_true, Bool.not_false, decide_eq_true_eq, decide_eq_false_iff_not, beq_iff_eq, bne_iff_ne, beq_eq_false_iff_ne, Int.not_lt, Int.not_le] at h)) | assumption | omega)
  all_goals refine congrArg (Value.int .i64) ?_
  all_goals ((try simp at *); simp [newsMost, *])
theorem sp_newsAt (x m : Int) (h : newsMost x = m) : Spec1 Try.prog 26 [.int .i64 x] [] (.int .i64 m) [] := h ▸ sp_news x
end Go.Proofs
