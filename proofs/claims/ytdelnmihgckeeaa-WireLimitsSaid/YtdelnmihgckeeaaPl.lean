/- Package place, and wire.plain, at the places the chapter's own examples name: 0 and 1 - 1i. -/
import Derived.Test.YtdelnmihgckeeaaAd
namespace Go.Proofs
open Go.Sl
set_option linter.unusedSimpArgs false
attribute [local irreducible] SX SO SA CallS Go.Sl.Spec CatOk

instance extFloor : ExtI Try.prog 43 (Extern.MathFloor.toIntegral "math.archFloor" .down) := ⟨⟨_, rfl, rfl, by decide, by kernel_rfl, by kernel_rfl⟩⟩
instance extBits : ExtI Try.prog 40 Extern.MathFloatBits.float64bits := ⟨⟨_, rfl, rfl, by decide, by kernel_rfl, by kernel_rfl⟩⟩
abbrev fl (b : Nat) : Value := .float .f64 b
abbrev cx (a b : Nat) : Value := .complex .f64 a b
set_option maxRecDepth 100000 in
set_option maxHeartbeats 2000000 in
theorem sp_floor0 : Spec1 Try.prog 41 [fl 0] [] (fl 0) [] := by
  refine spec_go Try.func41 rfl rfl Try.ntmps41 rfl (fun R => ?_)
  repeat' (first | (refine CalleeP.ext (v := fl 0) (fun _ => by kernel_rfl) ?_) | constructor | (refine so_it ?_) | (refine sx_goto rfl ?_) | (refine sx_drawn mixed ⟨by kernel_rfl, by kernel_rfl⟩ (fun hD => ?_)) | (refine sx_it ?_) | (refine sa_step hD ?_) | (refine catOk ?_; simp; (try omega); done) | (intro h; first | (exfalso; simp at h; (try omega); done) | (try simp only [Bool.not_true, Bool.not_false, decide_eq_true_eq, decide_eq_false_iff_not, beq_iff_eq, bne_iff_ne, beq_eq_false_iff_ne, Int.not_lt, Int.not_le] at h)) | assumption | omega)
  all_goals rfl
set_option maxRecDepth 100000 in
set_option maxHeartbeats 2000000 in
theorem sp_floor1 : Spec1 Try.prog 41 [fl 4607182418800017408] [] (fl 4607182418800017408) [] := by
  refine spec_go Try.func41 rfl rfl Try.ntmps41 rfl (fun R => ?_)
  repeat' (first | (refine CalleeP.ext (v := fl 4607182418800017408) (fun _ => by kernel_rfl) ?_) | constructor | (refine so_it ?_) | (refine sx_goto rfl ?_) | (refine sx_drawn mixed ⟨by kernel_rfl, by kernel_rfl⟩ (fun hD => ?_)) | (refine sx_it ?_) | (refine sa_step hD ?_) | (refine catOk ?_; simp; (try omega); done) | (intro h; first | (exfalso; simp at h; (try omega); done) | (try simp only [Bool.not_true, Bool.not_false, decide_eq_true_eq, decide_eq_false_iff_not, beq_iff_eq, bne_iff_ne, beq_eq_false_iff_ne, Int.not_lt, Int.not_le] at h)) | assumption | omega)
  all_goals rfl
set_option maxRecDepth 100000 in
set_option maxHeartbeats 2000000 in
theorem sp_floorm : Spec1 Try.prog 41 [fl 13830554455654793216] [] (fl 13830554455654793216) [] := by
  refine spec_go Try.func41 rfl rfl Try.ntmps41 rfl (fun R => ?_)
  repeat' (first | (refine CalleeP.ext (v := fl 13830554455654793216) (fun _ => by kernel_rfl) ?_) | constructor | (refine so_it ?_) | (refine sx_goto rfl ?_) | (refine sx_drawn mixed ⟨by kernel_rfl, by kernel_rfl⟩ (fun hD => ?_)) | (refine sx_it ?_) | (refine sa_step hD ?_) | (refine catOk ?_; simp; (try omega); done) | (intro h; first | (exfalso; simp at h; (try omega); done) | (try simp only [Bool.not_true, Bool.not_false, decide_eq_true_eq, decide_eq_false_iff_not, beq_iff_eq, bne_iff_ne, beq_eq_false_iff_ne, Int.not_lt, Int.not_le] at h)) | assumption | omega)
  all_goals rfl
set_option maxRecDepth 100000 in
set_option maxHeartbeats 2000000 in
theorem sp_part0 : Spec1 Try.prog 36 [fl 0] [] (.bool true) [] := by
  refine spec_go Try.func36 rfl rfl Try.ntmps36 rfl (fun R => ?_)
  repeat' (first | (refine BinP.flt (v := .bool true) (fun _ => by kernel_rfl)) | constructor | (refine CallS.of sp_floor0 .nil ?_; rintro _ _ ⟨rfl, rfl⟩) | (refine so_it ?_) | (refine sx_goto rfl ?_) | (refine sx_drawn mixed ⟨by kernel_rfl, by kernel_rfl⟩ (fun hD => ?_)) | (refine sx_it ?_) | (refine sa_step hD ?_) | (refine catOk ?_; simp; (try omega); done) | (intro h; first | (exfalso; simp at h; (try omega); done) | (try simp only [Bool.not_true, Bool.not_false, decide_eq_true_eq, decide_eq_false_iff_not, beq_iff_eq, bne_iff_ne, beq_eq_false_iff_ne, Int.not_lt, Int.not_le] at h)) | assumption | omega)
  all_goals rfl
set_option maxRecDepth 100000 in
set_option maxHeartbeats 2000000 in
theorem sp_part1 : Spec1 Try.prog 36 [fl 4607182418800017408] [] (.bool true) [] := by
  refine spec_go Try.func36 rfl rfl Try.ntmps36 rfl (fun R => ?_)
  repeat' (first | (refine BinP.flt (v := .bool true) (fun _ => by kernel_rfl)) | constructor | (refine CallS.of sp_floor1 .nil ?_; rintro _ _ ⟨rfl, rfl⟩) | (refine so_it ?_) | (refine sx_goto rfl ?_) | (refine sx_drawn mixed ⟨by kernel_rfl, by kernel_rfl⟩ (fun hD => ?_)) | (refine sx_it ?_) | (refine sa_step hD ?_) | (refine catOk ?_; simp; (try omega); done) | (intro h; first | (exfalso; simp at h; (try omega); done) | (try simp only [Bool.not_true, Bool.not_false, decide_eq_true_eq, decide_eq_false_iff_not, beq_iff_eq, bne_iff_ne, beq_eq_false_iff_ne, Int.not_lt, Int.not_le] at h)) | assumption | omega)
  all_goals rfl
set_option maxRecDepth 100000 in
set_option maxHeartbeats 2000000 in
theorem sp_partm : Spec1 Try.prog 36 [fl 13830554455654793216] [] (.bool true) [] := by
  refine spec_go Try.func36 rfl rfl Try.ntmps36 rfl (fun R => ?_)
  repeat' (first | (refine BinP.flt (v := .bool true) (fun _ => by kernel_rfl)) | constructor | (refine CallS.of sp_floorm .nil ?_; rintro _ _ ⟨rfl, rfl⟩) | (refine so_it ?_) | (refine sx_goto rfl ?_) | (refine sx_drawn mixed ⟨by kernel_rfl, by kernel_rfl⟩ (fun hD => ?_)) | (refine sx_it ?_) | (refine sa_step hD ?_) | (refine catOk ?_; simp; (try omega); done) | (intro h; first | (exfalso; simp at h; (try omega); done) | (try simp only [Bool.not_true, Bool.not_false, decide_eq_true_eq, decide_eq_false_iff_not, beq_iff_eq, bne_iff_ne, beq_eq_false_iff_ne, Int.not_lt, Int.not_le] at h)) | assumption | omega)
  all_goals rfl
set_option maxRecDepth 100000 in
set_option maxHeartbeats 2000000 in
theorem sp_plr0 : Spec1 Try.prog 25 [cx 0 0] [] (.bool true) [] := by
  refine spec_go Try.func25 rfl rfl Try.ntmps25 rfl (fun R => ?_)
  repeat' (first | constructor | (refine CallS.of sp_part0 .nil ?_; rintro _ _ ⟨rfl, rfl⟩) | (refine so_it ?_) | (refine sx_goto rfl ?_) | (refine sx_drawn mixed ⟨by kernel_rfl, by kernel_rfl⟩ (fun hD => ?_)) | (refine sx_it ?_) | (refine sa_step hD ?_) | (refine catOk ?_; simp; (try omega); done) | (intro h; first | (exfalso; simp at h; (try omega); done) | (try simp only [Bool.not_true, Bool.not_false, decide_eq_true_eq, decide_eq_false_iff_not, beq_iff_eq, bne_iff_ne, beq_eq_false_iff_ne, Int.not_lt, Int.not_le] at h)) | assumption | omega)
  all_goals rfl
set_option maxRecDepth 100000 in
set_option maxHeartbeats 2000000 in
theorem sp_plr1 : Spec1 Try.prog 25 [cx 4607182418800017408 13830554455654793216] [] (.bool true) [] := by
  refine spec_go Try.func25 rfl rfl Try.ntmps25 rfl (fun R => ?_)
  repeat' (first | constructor | (refine CallS.of sp_part1 .nil ?_; rintro _ _ ⟨rfl, rfl⟩) | (refine CallS.of sp_partm .nil ?_; rintro _ _ ⟨rfl, rfl⟩) | (refine so_it ?_) | (refine sx_goto rfl ?_) | (refine sx_drawn mixed ⟨by kernel_rfl, by kernel_rfl⟩ (fun hD => ?_)) | (refine sx_it ?_) | (refine sa_step hD ?_) | (refine catOk ?_; simp; (try omega); done) | (intro h; first | (exfalso; simp at h; (try omega); done) | (try simp only [Bool.not_true, Bool.not_false, decide_eq_true_eq, decide_eq_false_iff_not, beq_iff_eq, bne_iff_ne, beq_eq_false_iff_ne, Int.not_lt, Int.not_le] at h)) | assumption | omega)
  all_goals rfl
set_option maxRecDepth 100000 in
set_option maxHeartbeats 2000000 in
theorem sp_plp0 : Spec1 Try.prog 13 [cx 0 0] [] (.tuple ⟨[str (be 4 1000000 ++ be 4 1000000), .bool true]⟩) [] := by
  refine spec_go Try.func13 rfl rfl Try.ntmps13 rfl (fun R => ?_)
  repeat' (first | (refine BinP.cpx (v := cx 4696837146684686336 4696837146684686336) (fun _ => by kernel_rfl)) | (refine ConvV.flt (b := 4696837146684686336) (v := .int .u64 1000000) (fun _ => by kernel_rfl)) | constructor | (refine CallS.of sp_plr0 .nil ?_; rintro _ _ ⟨rfl, rfl⟩) | (refine CallS.of (sp_Number4 _) .nil ?_; rintro _ _ ⟨rfl, rfl⟩) | (refine so_it ?_) | (refine sx_goto rfl ?_) | (refine sx_drawn mixed ⟨by kernel_rfl, by kernel_rfl⟩ (fun hD => ?_)) | (refine sx_it ?_) | (refine sa_step hD ?_) | (refine catOk ?_; simp; (try omega); done) | (intro h; first | (exfalso; simp at h; (try omega); done) | (try simp only [Bool.not_true, Bool.not_false, decide_eq_true_eq, decide_eq_false_iff_not, beq_iff_eq, bne_iff_ne, beq_eq_false_iff_ne, Int.not_lt, Int.not_le] at h)) | assumption | omega)
  all_goals rfl
set_option maxRecDepth 100000 in
set_option maxHeartbeats 2000000 in
theorem sp_plp1 : Spec1 Try.prog 13 [cx 4607182418800017408 13830554455654793216] [] (.tuple ⟨[str (be 4 1000001 ++ be 4 999999), .bool true]⟩) [] := by
  refine spec_go Try.func13 rfl rfl Try.ntmps13 rfl (fun R => ?_)
  repeat' (first | (refine BinP.cpx (v := cx 4696837155274620928 4696837138094751744) (fun _ => by kernel_rfl)) | (refine ConvV.flt (b := 4696837155274620928) (v := .int .u64 1000001) (fun _ => by kernel_rfl)) | (refine ConvV.flt (b := 4696837138094751744) (v := .int .u64 999999) (fun _ => by kernel_rfl)) | constructor | (refine CallS.of sp_plr1 .nil ?_; rintro _ _ ⟨rfl, rfl⟩) | (refine CallS.of (sp_Number4 _) .nil ?_; rintro _ _ ⟨rfl, rfl⟩) | (refine so_it ?_) | (refine sx_goto rfl ?_) | (refine sx_drawn mixed ⟨by kernel_rfl, by kernel_rfl⟩ (fun hD => ?_)) | (refine sx_it ?_) | (refine sa_step hD ?_) | (refine catOk ?_; simp; (try omega); done) | (intro h; first | (exfalso; simp at h; (try omega); done) | (try simp only [Bool.not_true, Bool.not_false, decide_eq_true_eq, decide_eq_false_iff_not, beq_iff_eq, bne_iff_ne, beq_eq_false_iff_ne, Int.not_lt, Int.not_le] at h)) | assumption | omega)
  all_goals rfl
set_option maxRecDepth 100000 in
set_option maxHeartbeats 2000000 in
theorem sp_sign0 : Spec1 Try.prog 35 [fl 0] [] (.bool false) [] := by
  refine spec_go Try.func35 rfl rfl Try.ntmps35 rfl (fun R => ?_)
  repeat' (first | (refine CalleeP.ext (v := .int .u64 0) (fun _ => by kernel_rfl) ?_) | constructor | (refine so_it ?_) | (refine sx_goto rfl ?_) | (refine sx_drawn mixed ⟨by kernel_rfl, by kernel_rfl⟩ (fun hD => ?_)) | (refine sx_it ?_) | (refine sa_step hD ?_) | (refine catOk ?_; simp; (try omega); done) | (intro h; first | (exfalso; simp at h; (try omega); done) | (try simp only [Bool.not_true, Bool.not_false, decide_eq_true_eq, decide_eq_false_iff_not, beq_iff_eq, bne_iff_ne, beq_eq_false_iff_ne, Int.not_lt, Int.not_le] at h)) | assumption | omega)
  all_goals rfl
set_option maxRecDepth 100000 in
set_option maxHeartbeats 2000000 in
theorem sp_sign1 : Spec1 Try.prog 35 [fl 4607182418800017408] [] (.bool false) [] := by
  refine spec_go Try.func35 rfl rfl Try.ntmps35 rfl (fun R => ?_)
  repeat' (first | (refine CalleeP.ext (v := .int .u64 4607182418800017408) (fun _ => by kernel_rfl) ?_) | constructor | (refine so_it ?_) | (refine sx_goto rfl ?_) | (refine sx_drawn mixed ⟨by kernel_rfl, by kernel_rfl⟩ (fun hD => ?_)) | (refine sx_it ?_) | (refine sa_step hD ?_) | (refine catOk ?_; simp; (try omega); done) | (intro h; first | (exfalso; simp at h; (try omega); done) | (try simp only [Bool.not_true, Bool.not_false, decide_eq_true_eq, decide_eq_false_iff_not, beq_iff_eq, bne_iff_ne, beq_eq_false_iff_ne, Int.not_lt, Int.not_le] at h)) | assumption | omega)
  all_goals rfl
set_option maxRecDepth 100000 in
set_option maxHeartbeats 2000000 in
theorem sp_signm : Spec1 Try.prog 35 [fl 13830554455654793216] [] (.bool true) [] := by
  refine spec_go Try.func35 rfl rfl Try.ntmps35 rfl (fun R => ?_)
  repeat' (first | (refine CalleeP.ext (v := .int .u64 13830554455654793216) (fun _ => by kernel_rfl) ?_) | constructor | (refine so_it ?_) | (refine sx_goto rfl ?_) | (refine sx_drawn mixed ⟨by kernel_rfl, by kernel_rfl⟩ (fun hD => ?_)) | (refine sx_it ?_) | (refine sa_step hD ?_) | (refine catOk ?_; simp; (try omega); done) | (intro h; first | (exfalso; simp at h; (try omega); done) | (try simp only [Bool.not_true, Bool.not_false, decide_eq_true_eq, decide_eq_false_iff_not, beq_iff_eq, bne_iff_ne, beq_eq_false_iff_ne, Int.not_lt, Int.not_le] at h)) | assumption | omega)
  all_goals rfl
set_option maxRecDepth 100000 in
set_option maxHeartbeats 2000000 in
theorem sp_minus0 : Spec1 Try.prog 34 [fl 0] [] (.bool false) [] := by
  refine spec_go Try.func34 rfl rfl Try.ntmps34 rfl (fun R => ?_)
  repeat' (first | (refine BinP.flt (v := .bool true) (fun _ => by kernel_rfl)) | constructor | (refine CallS.of sp_sign0 .nil ?_; rintro _ _ ⟨rfl, rfl⟩) | (refine so_it ?_) | (refine sx_goto rfl ?_) | (refine sx_drawn mixed ⟨by kernel_rfl, by kernel_rfl⟩ (fun hD => ?_)) | (refine sx_it ?_) | (refine sa_step hD ?_) | (refine catOk ?_; simp; (try omega); done) | (intro h; first | (exfalso; simp at h; (try omega); done) | (try simp only [Bool.not_true, Bool.not_false, decide_eq_true_eq, decide_eq_false_iff_not, beq_iff_eq, bne_iff_ne, beq_eq_false_iff_ne, Int.not_lt, Int.not_le] at h)) | assumption | omega)
  all_goals rfl
set_option maxRecDepth 100000 in
set_option maxHeartbeats 2000000 in
theorem sp_minus1 : Spec1 Try.prog 34 [fl 4607182418800017408] [] (.bool false) [] := by
  refine spec_go Try.func34 rfl rfl Try.ntmps34 rfl (fun R => ?_)
  repeat' (first | (refine BinP.flt (v := .bool false) (fun _ => by kernel_rfl)) | constructor | (refine CallS.of sp_sign1 .nil ?_; rintro _ _ ⟨rfl, rfl⟩) | (refine so_it ?_) | (refine sx_goto rfl ?_) | (refine sx_drawn mixed ⟨by kernel_rfl, by kernel_rfl⟩ (fun hD => ?_)) | (refine sx_it ?_) | (refine sa_step hD ?_) | (refine catOk ?_; simp; (try omega); done) | (intro h; first | (exfalso; simp at h; (try omega); done) | (try simp only [Bool.not_true, Bool.not_false, decide_eq_true_eq, decide_eq_false_iff_not, beq_iff_eq, bne_iff_ne, beq_eq_false_iff_ne, Int.not_lt, Int.not_le] at h)) | assumption | omega)
  all_goals rfl
set_option maxRecDepth 100000 in
set_option maxHeartbeats 2000000 in
theorem sp_minusm : Spec1 Try.prog 34 [fl 13830554455654793216] [] (.bool false) [] := by
  refine spec_go Try.func34 rfl rfl Try.ntmps34 rfl (fun R => ?_)
  repeat' (first | (refine BinP.flt (v := .bool false) (fun _ => by kernel_rfl)) | constructor | (refine CallS.of sp_signm .nil ?_; rintro _ _ ⟨rfl, rfl⟩) | (refine so_it ?_) | (refine sx_goto rfl ?_) | (refine sx_drawn mixed ⟨by kernel_rfl, by kernel_rfl⟩ (fun hD => ?_)) | (refine sx_it ?_) | (refine sa_step hD ?_) | (refine catOk ?_; simp; (try omega); done) | (intro h; first | (exfalso; simp at h; (try omega); done) | (try simp only [Bool.not_true, Bool.not_false, decide_eq_true_eq, decide_eq_false_iff_not, beq_iff_eq, bne_iff_ne, beq_eq_false_iff_ne, Int.not_lt, Int.not_le] at h)) | assumption | omega)
  all_goals rfl
set_option maxRecDepth 100000 in
set_option maxHeartbeats 2000000 in
theorem sp_plain0 : Spec1 Try.prog 21 [cx 0 0] [] (.bool true) [] := by
  refine spec_go Try.func21 rfl rfl Try.ntmps21 rfl (fun R => ?_)
  repeat' (first | constructor | (refine CallS.of sp_minus0 .nil ?_; rintro _ _ ⟨rfl, rfl⟩) | (refine so_it ?_) | (refine sx_goto rfl ?_) | (refine sx_drawn mixed ⟨by kernel_rfl, by kernel_rfl⟩ (fun hD => ?_)) | (refine sx_it ?_) | (refine sa_step hD ?_) | (refine catOk ?_; simp; (try omega); done) | (intro h; first | (exfalso; simp at h; (try omega); done) | (try simp only [Bool.not_true, Bool.not_false, decide_eq_true_eq, decide_eq_false_iff_not, beq_iff_eq, bne_iff_ne, beq_eq_false_iff_ne, Int.not_lt, Int.not_le] at h)) | assumption | omega)
  all_goals rfl
set_option maxRecDepth 100000 in
set_option maxHeartbeats 2000000 in
theorem sp_plain1 : Spec1 Try.prog 21 [cx 4607182418800017408 13830554455654793216] [] (.bool true) [] := by
  refine spec_go Try.func21 rfl rfl Try.ntmps21 rfl (fun R => ?_)
  repeat' (first | constructor | (refine CallS.of sp_minus1 .nil ?_; rintro _ _ ⟨rfl, rfl⟩) | (refine CallS.of sp_minusm .nil ?_; rintro _ _ ⟨rfl, rfl⟩) | (refine so_it ?_) | (refine sx_goto rfl ?_) | (refine sx_drawn mixed ⟨by kernel_rfl, by kernel_rfl⟩ (fun hD => ?_)) | (refine sx_it ?_) | (refine sa_step hD ?_) | (refine catOk ?_; simp; (try omega); done) | (intro h; first | (exfalso; simp at h; (try omega); done) | (try simp only [Bool.not_true, Bool.not_false, decide_eq_true_eq, decide_eq_false_iff_not, beq_iff_eq, bne_iff_ne, beq_eq_false_iff_ne, Int.not_lt, Int.not_le] at h)) | assumption | omega)
  all_goals rfl
end Go.Proofs
