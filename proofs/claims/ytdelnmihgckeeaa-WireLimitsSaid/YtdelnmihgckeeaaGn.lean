/- wire.reader.number; pack.Read; slices.Equal over nil. -/
import Derived.Test.YtdelnmihgckeeaaRd
import Derived.Test.YtdelnmihgckeeaaIx
namespace Go.Proofs
open Go.Sl
set_option linter.unusedSimpArgs false
attribute [local irreducible] SX SO SA CallS Go.Sl.Spec CatOk

abbrev rblk (b : Nat) (rest : List UInt8) (bad : Bool) : HProp := blk b [str rest, .bool bad] 57
theorem de1 (b0 : UInt8) : IntKind.i64.wrap (de [b0] : Int) = (b0.toNat : Int) := by
  have := b0.toNat_lt
  have e : (de [b0] : Int) = (b0.toNat : Int) := by simp [de]
  rw [e, wi _ (by omega) (by omega)]
theorem de4 (b0 b1 b2 b3 : UInt8) : IntKind.i64.wrap (de [b0, b1, b2, b3] : Int) = (de [b0, b1, b2, b3] : Int) := by
  have h0 := b0.toNat_lt
  have h1 := b1.toNat_lt
  have h2 := b2.toNat_lt
  have h3 := b3.toNat_lt
  have e : (de [b0, b1, b2, b3] : Int) = (((b0.toNat * 256 + b1.toNat) * 256 + b2.toNat) * 256 + b3.toNat : Nat) := by simp [de]
  rw [e, wi _ (by omega) (by omega)]
set_option maxRecDepth 100000 in
set_option maxHeartbeats 2000000 in
theorem sp_num1 (b : Nat) (b0 : UInt8) (r : List UInt8) : Spec1 Try.prog 16 [.pointer (some ⟨b, 0, none⟩), .int .i64 1] [rblk b (b0 :: r) false] (.int .i64 (b0.toNat : Int)) [rblk b r false] := by
  refine spec_go Try.func16 rfl rfl Try.ntmps16 rfl (fun R => ?_)
  repeat' (first | constructor | (refine CallS.of (sp_RNumber1 _ _) .nil ?_; rintro _ _ ⟨rfl, rfl⟩) | (refine so_it ?_) | (refine sx_goto rfl ?_) | (refine sx_drawn mixed ⟨by kernel_rfl, by kernel_rfl⟩ (fun hD => ?_)) | (refine sx_it ?_) | (refine sa_step hD ?_) | (refine catOk ?_; simp; (try omega); done) | (intro h; first | (exfalso; simp at h; (try omega); done) | (try simp only [Bool.not_true, Bool.not_false, decide_eq_true_eq, decide_eq_false_iff_not, beq_iff_eq, bne_iff_ne, beq_eq_false_iff_ne, Int.not_lt, Int.not_le] at h)) | assumption | omega)
  all_goals exact congrArg (Value.int .i64) (de1 _)
set_option maxRecDepth 100000 in
set_option maxHeartbeats 2000000 in
theorem sp_num4 (b : Nat) (b0 b1 b2 b3 : UInt8) (r : List UInt8) : Spec1 Try.prog 16 [.pointer (some ⟨b, 0, none⟩), .int .i64 4] [rblk b (b0 :: b1 :: b2 :: b3 :: r) false] (.int .i64 (de [b0, b1, b2, b3] : Int)) [rblk b r false] := by
  refine spec_go Try.func16 rfl rfl Try.ntmps16 rfl (fun R => ?_)
  repeat' (first | constructor | (refine CallS.of (sp_RNumber4 _ _ _ _ _) .nil ?_; rintro _ _ ⟨rfl, rfl⟩) | (refine so_it ?_) | (refine sx_goto rfl ?_) | (refine sx_drawn mixed ⟨by kernel_rfl, by kernel_rfl⟩ (fun hD => ?_)) | (refine sx_it ?_) | (refine sa_step hD ?_) | (refine catOk ?_; simp; (try omega); done) | (intro h; first | (exfalso; simp at h; (try omega); done) | (try simp only [Bool.not_true, Bool.not_false, decide_eq_true_eq, decide_eq_false_iff_not, beq_iff_eq, bne_iff_ne, beq_eq_false_iff_ne, Int.not_lt, Int.not_le] at h)) | assumption | omega)
  all_goals exact congrArg (Value.int .i64) (de4 _ _ _ _)
set_option maxRecDepth 100000 in
set_option maxHeartbeats 2000000 in
theorem sp_Equal0 (c d : Nat) : Spec1 Try.prog 19 [.slice none 0 c, .slice none 0 d] [] (.bool true) [] := by
  refine spec_go Try.func19 rfl rfl Try.ntmps19 rfl (fun R => ?_)
  repeat' (first | constructor | (refine so_it ?_) | (refine sx_goto rfl ?_) | (refine sx_drawn mixed ⟨by kernel_rfl, by kernel_rfl⟩ (fun hD => ?_)) | apply sx_loop_in | apply sx_back | (refine sx_it ?_) | (refine sa_step hD ?_) | (refine catOk ?_; simp; (try omega); done) | (intro h; first | (exfalso; simp at h; (try omega); done) | (try simp only [Bool.not_true, Bool.not_false, decide_eq_true_eq, decide_eq_false_iff_not, beq_iff_eq, bne_iff_ne, beq_eq_false_iff_ne, Int.not_lt, Int.not_le] at h)) | assumption | omega)
  all_goals rfl
end Go.Proofs
