/- Package pack: its reader. Conditions: sizes 1, 2, 4. -/
import Derived.Test.YtdelnmihgckeeaaPk
namespace Go.Proofs
open Go.Sl
set_option linter.unusedSimpArgs false
attribute [local irreducible] SX SO SA CallS Go.Sl.Spec CatOk

def orStep (z : Int) (b : UInt8) : Int := bitV .or .u64 (IntKind.u64.wrap (z * 2 ^ (min (Int.toNat 8) 64))) (IntKind.u64.wrap (b.toNat : Int))
theorem orStep_eq (x : Nat) (b : UInt8) (hx : x < 2 ^ 56) : orStep (x : Int) b = ((x * 256 + b.toNat : Nat) : Int) := orByte x b hx
set_option maxRecDepth 100000 in
set_option maxHeartbeats 2000000 in
theorem sp_RNumber1 (b0 : UInt8) (r : List UInt8) : Spec1 Try.prog 29 [rdr (b0 :: r) false, .int .i64 1] []
    (.tuple ⟨[.int .u64 (de [b0]), rdr r false]⟩) [] := by
  refine spec_go Try.func29 rfl rfl Try.ntmps29 rfl (fun R => ?_)
  repeat' (first | constructor | (refine CallS.of (sp_bytes (b0 :: r) 1 (by decide) (by simp; omega)) .nil ?_; rintro _ _ ⟨rfl, rfl⟩) | (refine so_it ?_) | (refine sx_goto rfl ?_) | (refine sx_drawn mixed ⟨by kernel_rfl, by kernel_rfl⟩ (fun hD => ?_)) | apply sx_loop_in | apply sx_back | (refine sx_it ?_) | (refine sa_step hD ?_) | (refine catOk ?_; simp; (try omega); done) | (intro h; first | (exfalso; simp at h; (try omega); done) | (try simp only [Bool.not_true, Bool.not_false, decide_eq_true_eq, decide_eq_false_iff_not, beq_iff_eq, bne_iff_ne, beq_eq_false_iff_ne, Int.not_lt, Int.not_le] at h)) | assumption | omega)
  refine congrArg (fun x => Value.tuple ⟨[.int .u64 x, rdr r false]⟩) ?_
  exact orStep_eq 0 b0 (by decide)
set_option maxRecDepth 100000 in
set_option maxHeartbeats 2000000 in
theorem sp_RNumber2 (b0 b1 : UInt8) (r : List UInt8) : Spec1 Try.prog 29 [rdr (b0 :: b1 :: r) false, .int .i64 2] []
    (.tuple ⟨[.int .u64 (de [b0, b1]), rdr r false]⟩) [] := by
  refine spec_go Try.func29 rfl rfl Try.ntmps29 rfl (fun R => ?_)
  repeat' (first | constructor | (refine CallS.of (sp_bytes (b0 :: b1 :: r) 2 (by decide) (by simp; omega)) .nil ?_; rintro _ _ ⟨rfl, rfl⟩) | (refine so_it ?_) | (refine sx_goto rfl ?_) | (refine sx_drawn mixed ⟨by kernel_rfl, by kernel_rfl⟩ (fun hD => ?_)) | apply sx_loop_in | apply sx_back | (refine sx_it ?_) | (refine sa_step hD ?_) | (refine catOk ?_; simp; (try omega); done) | (intro h; first | (exfalso; simp at h; (try omega); done) | (try simp only [Bool.not_true, Bool.not_false, decide_eq_true_eq, decide_eq_false_iff_not, beq_iff_eq, bne_iff_ne, beq_eq_false_iff_ne, Int.not_lt, Int.not_le] at h)) | assumption | omega)
  refine congrArg (fun x => Value.tuple ⟨[.int .u64 x, rdr r false]⟩) ?_
  have h0 := b0.toNat_lt
  exact (congrArg (fun z => orStep z b1) (orStep_eq 0 b0 (by decide))).trans (orStep_eq _ b1 (by omega))
set_option maxRecDepth 100000 in
set_option maxHeartbeats 4000000 in
theorem sp_RNumber4 (b0 b1 b2 b3 : UInt8) (r : List UInt8) : Spec1 Try.prog 29 [rdr (b0 :: b1 :: b2 :: b3 :: r) false, .int .i64 4] []
    (.tuple ⟨[.int .u64 (de [b0, b1, b2, b3]), rdr r false]⟩) [] := by
  refine spec_go Try.func29 rfl rfl Try.ntmps29 rfl (fun R => ?_)
  repeat' (first | constructor | (refine CallS.of (sp_bytes (b0 :: b1 :: b2 :: b3 :: r) 4 (by decide) (by simp; omega)) .nil ?_; rintro _ _ ⟨rfl, rfl⟩) | (refine so_it ?_) | (refine sx_goto rfl ?_) | (refine sx_drawn mixed ⟨by kernel_rfl, by kernel_rfl⟩ (fun hD => ?_)) | apply sx_loop_in | apply sx_back | (refine sx_it ?_) | (refine sa_step hD ?_) | (refine catOk ?_; simp; (try omega); done) | (intro h; first | (exfalso; simp at h; (try omega); done) | (try simp only [Bool.not_true, Bool.not_false, decide_eq_true_eq, decide_eq_false_iff_not, beq_iff_eq, bne_iff_ne, beq_eq_false_iff_ne, Int.not_lt, Int.not_le] at h)) | assumption | omega)
  refine congrArg (fun x => Value.tuple ⟨[.int .u64 x, rdr r false]⟩) ?_
  have h0 := b0.toNat_lt
  have h1 := b1.toNat_lt
  have h2 := b2.toNat_lt
  exact (congrArg (fun z => orStep (orStep (orStep z b1) b2) b3) (orStep_eq 0 b0 (by decide))).trans
    ((congrArg (fun z => orStep (orStep z b2) b3) (orStep_eq _ b1 (by omega))).trans ((congrArg (fun z => orStep z b3) (orStep_eq _ b2 (by omega))).trans (orStep_eq _ b3 (by omega))))
set_option maxRecDepth 100000 in
set_option maxHeartbeats 2000000 in
theorem sp_RNumber_no (r : List UInt8) (b : Bool) (sz : Int) (h : 1 ≤ sz) (h8 : sz ≤ 8) (h1 : b = true ∨ r.length < sz) : Spec1 Try.prog 29 [rdr r b, .int .i64 sz] []
    (.tuple ⟨[.int .u64 0, rdr [] true]⟩) [] := by
  refine spec_go Try.func29 rfl rfl Try.ntmps29 rfl (fun R => ?_)
  repeat' (first | constructor | (refine CallS.of (sp_bytes_no r b sz h1) .nil ?_; rintro _ _ ⟨rfl, rfl⟩) | (refine so_it ?_) | (refine sx_goto rfl ?_) | (refine sx_drawn mixed ⟨by kernel_rfl, by kernel_rfl⟩ (fun hD => ?_)) | apply sx_loop_in | apply sx_back | (refine sx_it ?_) | (refine sa_step hD ?_) | (refine catOk ?_; simp; (try omega); done) | (intro h; first | (exfalso; simp at h; (try omega); done) | (try simp only [Bool.not_true, Bool.not_false, decide_eq_true_eq, decide_eq_false_iff_not, beq_iff_eq, bne_iff_ne, beq_eq_false_iff_ne, Int.not_lt, Int.not_le] at h)) | assumption | omega)
  all_goals rfl
set_option maxRecDepth 100000 in
set_option maxHeartbeats 2000000 in
theorem sp_Done (r : List UInt8) (b : Bool) : Spec1 Try.prog 18 [rdr r b] [] (.bool (!b && r.isEmpty)) [] := by
  refine spec_go Try.func18 rfl rfl Try.ntmps18 rfl (fun R => ?_)
  cases b <;> cases r
  all_goals repeat' (first | constructor | (refine so_it ?_) | (refine sx_goto rfl ?_) | (refine sx_drawn mixed ⟨by kernel_rfl, by kernel_rfl⟩ (fun hD => ?_)) | apply sx_loop_in | apply sx_back | (refine sx_it ?_) | (refine sa_step hD ?_) | (refine catOk ?_; simp; (try omega); done) | (intro h; first | (exfalso; simp at h; (try omega); done) | (try simp only [Bool.not_true, Bool.not_false, decide_eq_true_eq, decide_eq_false_iff_not, beq_iff_eq, bne_iff_ne, beq_eq_false_iff_ne, Int.not_lt, Int.not_le] at h)) | assumption | omega)
  all_goals rfl
end Go.Proofs
