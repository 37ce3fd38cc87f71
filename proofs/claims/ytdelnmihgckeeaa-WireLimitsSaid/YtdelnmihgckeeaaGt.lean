/- wire.Get at a Keep message's bytes, with a letter behind them, at zeros, at too many; wire.Same at that message. -/
import Derived.Test.YtdelnmihgckeeaaGn
import Derived.Test.YtdelnmihgckeeaaP12
namespace Go.Proofs
open Go.Sl
set_option linter.unusedSimpArgs false
attribute [local irreducible] SX SO SA CallS Go.Sl.Spec CatOk

abbrev msg0 : Value := .agg ⟨[.int .i64 0, .int .i64 0, .int .u32 0, .int .i64 0, .int .u32 0, .int .u16 0, cx 0 0, .bool false, str [], .slice none 0 0]⟩
abbrev msgK : Value := .agg ⟨[.int .i64 12, .int .i64 3, .int .u32 258, .int .i64 0, .int .u32 0, .int .u16 0, cx 0 0, .bool false, str [], .slice none 0 0]⟩
theorem num12 (b : Nat) (r : List UInt8) : Spec1 Try.prog 16 [.pointer (some ⟨b, 0, none⟩), .int .i64 1] [rblk b (12 :: r) false] (.int .i64 12) [rblk b r false] := sp_num1 b 12 r
theorem num3 (b : Nat) (r : List UInt8) : Spec1 Try.prog 16 [.pointer (some ⟨b, 0, none⟩), .int .i64 1] [rblk b (3 :: r) false] (.int .i64 3) [rblk b r false] := sp_num1 b 3 r
theorem num0 (b : Nat) (r : List UInt8) : Spec1 Try.prog 16 [.pointer (some ⟨b, 0, none⟩), .int .i64 1] [rblk b (0 :: r) false] (.int .i64 0) [rblk b r false] := sp_num1 b 0 r
theorem num258 (b : Nat) (r : List UInt8) : Spec1 Try.prog 16 [.pointer (some ⟨b, 0, none⟩), .int .i64 4] [rblk b (0 :: 0 :: 1 :: 2 :: r) false] (.int .i64 258) [rblk b r false] := sp_num4 b 0 0 1 2 r
theorem num40 (b : Nat) (r : List UInt8) : Spec1 Try.prog 16 [.pointer (some ⟨b, 0, none⟩), .int .i64 4] [rblk b (0 :: 0 :: 0 :: 0 :: r) false] (.int .i64 0) [rblk b r false] := sp_num4 b 0 0 0 0 r
set_option maxRecDepth 100000 in
set_option maxHeartbeats 2000000 in
theorem sp_Get6 : Spec1 Try.prog 7 [str [12, 3, 0, 0, 1, 2]] [] (.tuple ⟨[msgK, .int .i64 0]⟩) [] := by
  refine spec_go Try.func7 rfl rfl Try.ntmps7 rfl (fun R => ?_)
  repeat' (first | (exact nx0) | constructor | (refine CallS.of (sp_Read _) .nil ?_; rintro _ _ ⟨rfl, rfl⟩) | (refine CallS.of (num12 _ _) (by repeat' constructor) ?_; rintro _ _ ⟨rfl, rfl⟩) | (refine CallS.of (num3 _ _) (by repeat' constructor) ?_; rintro _ _ ⟨rfl, rfl⟩) | (refine CallS.of (num258 _ _) (by repeat' constructor) ?_; rintro _ _ ⟨rfl, rfl⟩) | (refine CallS.of sp_Has12 .nil ?_; rintro _ _ ⟨rfl, rfl⟩) | (refine CallS.of (sp_Done [] false) .nil ?_; rintro _ _ ⟨rfl, rfl⟩) | (refine CallS.of sp_Put12 .nil ?_; rintro _ _ ⟨rfl, rfl⟩) | (refine so_it ?_) | (refine sx_goto rfl ?_) | (refine sx_drawn mixed ⟨by kernel_rfl, by kernel_rfl⟩ (fun hD => ?_)) | apply sx_loop_in | apply sx_back | (refine sx_it ?_) | (refine sa_step hD ?_) | (refine catOk ?_; simp; (try omega); done) | (intro h; first | (exfalso; simp at h; (try omega); done) | (try simp only [Bool.not_true, Bool.not_false, decide_eq_true_eq, decide_eq_false_iff_not, beq_iff_eq, bne_iff_ne, beq_eq_false_iff_ne, Int.not_lt, Int.not_le] at h)) | assumption | omega)
  all_goals rfl
set_option maxRecDepth 100000 in
set_option maxHeartbeats 2000000 in
theorem sp_Get7 : Spec1 Try.prog 7 [str [12, 3, 0, 0, 1, 2, 120]] [] (.tuple ⟨[msg0, .int .i64 2]⟩) [] := by
  refine spec_go Try.func7 rfl rfl Try.ntmps7 rfl (fun R => ?_)
  repeat' (first | (exact nx0) | constructor | (refine CallS.of (sp_Read _) .nil ?_; rintro _ _ ⟨rfl, rfl⟩) | (refine CallS.of (num12 _ _) (by repeat' constructor) ?_; rintro _ _ ⟨rfl, rfl⟩) | (refine CallS.of (num3 _ _) (by repeat' constructor) ?_; rintro _ _ ⟨rfl, rfl⟩) | (refine CallS.of (num258 _ _) (by repeat' constructor) ?_; rintro _ _ ⟨rfl, rfl⟩) | (refine CallS.of sp_Has12 .nil ?_; rintro _ _ ⟨rfl, rfl⟩) | (refine CallS.of (sp_Done [120] false) .nil ?_; rintro _ _ ⟨rfl, rfl⟩) | (refine so_it ?_) | (refine sx_goto rfl ?_) | (refine sx_drawn mixed ⟨by kernel_rfl, by kernel_rfl⟩ (fun hD => ?_)) | apply sx_loop_in | apply sx_back | (refine sx_it ?_) | (refine sa_step hD ?_) | (refine catOk ?_; simp; (try omega); done) | (intro h; first | (exfalso; simp at h; (try omega); done) | (try simp only [Bool.not_true, Bool.not_false, decide_eq_true_eq, decide_eq_false_iff_not, beq_iff_eq, bne_iff_ne, beq_eq_false_iff_ne, Int.not_lt, Int.not_le] at h)) | assumption | omega)
  all_goals rfl
set_option maxRecDepth 100000 in
set_option maxHeartbeats 2000000 in
theorem sp_Get0 (r : List UInt8) (h : r.length + 6 ≤ 1024) : Spec1 Try.prog 7 [str (0 :: 0 :: 0 :: 0 :: 0 :: 0 :: r)] [] (.tuple ⟨[msg0, .int .i64 2]⟩) [] := by
  refine spec_go Try.func7 rfl rfl Try.ntmps7 rfl (fun R => ?_)
  repeat' (first | constructor | (refine CallS.of (sp_Read _) .nil ?_; rintro _ _ ⟨rfl, rfl⟩) | (refine CallS.of (num0 _ _) (by repeat' constructor) ?_; rintro _ _ ⟨rfl, rfl⟩) | (refine CallS.of (num40 _ _) (by repeat' constructor) ?_; rintro _ _ ⟨rfl, rfl⟩) | (refine CallS.of sp_Has0 .nil ?_; rintro _ _ ⟨rfl, rfl⟩) | (refine so_it ?_) | (refine sx_goto rfl ?_) | (refine sx_drawn mixed ⟨by kernel_rfl, by kernel_rfl⟩ (fun hD => ?_)) | apply sx_loop_in | apply sx_back | (refine sx_it ?_) | (refine sa_step hD ?_) | (refine catOk ?_; simp; (try omega); done) | (intro h; first | (exfalso; simp at h; (try omega); done) | (try simp only [Bool.not_true, Bool.not_false, decide_eq_true_eq, decide_eq_false_iff_not, beq_iff_eq, bne_iff_ne, beq_eq_false_iff_ne, Int.not_lt, Int.not_le] at h)) | assumption | omega)
  all_goals rfl
set_option maxRecDepth 100000 in
set_option maxHeartbeats 2000000 in
theorem sp_GetL (r : List UInt8) (h : 1024 < r.length) : Spec1 Try.prog 7 [str r] [] (.tuple ⟨[msg0, .int .i64 3]⟩) [] := by
  refine spec_go Try.func7 rfl rfl Try.ntmps7 rfl (fun R => ?_)
  repeat' (first | constructor | (refine CallS.of (sp_Read _) .nil ?_; rintro _ _ ⟨rfl, rfl⟩) | (refine so_it ?_) | (refine sx_goto rfl ?_) | (refine sx_drawn mixed ⟨by kernel_rfl, by kernel_rfl⟩ (fun hD => ?_)) | apply sx_loop_in | apply sx_back | (refine sx_it ?_) | (refine sa_step hD ?_) | (refine catOk ?_; simp; (try omega); done) | (intro h; first | (exfalso; simp at h; (try omega); done) | (try simp only [Bool.not_true, Bool.not_false, decide_eq_true_eq, decide_eq_false_iff_not, beq_iff_eq, bne_iff_ne, beq_eq_false_iff_ne, Int.not_lt, Int.not_le] at h)) | assumption | omega)
  all_goals rfl
set_option maxRecDepth 100000 in
set_option maxHeartbeats 2000000 in
theorem sp_SameK : Spec1 Try.prog 9 [msgK, msgK] [] (.bool true) [] := by
  refine spec_go Try.func9 rfl rfl Try.ntmps9 rfl (fun R => ?_)
  repeat' (first | (refine BinP.cpx (v := .bool true) (fun _ => by kernel_rfl)) | constructor | (refine CallS.of (sp_Equal0 _ _) .nil ?_; rintro _ _ ⟨rfl, rfl⟩) | (refine so_it ?_) | (refine sx_goto rfl ?_) | (refine sx_drawn mixed ⟨by kernel_rfl, by kernel_rfl⟩ (fun hD => ?_)) | (refine sx_it ?_) | (refine sa_step hD ?_) | (refine catOk ?_; simp; (try omega); done) | (intro h; first | (exfalso; simp at h; (try omega); done) | (try simp only [Bool.not_true, Bool.not_false, decide_eq_true_eq, decide_eq_false_iff_not, beq_iff_eq, bne_iff_ne, beq_eq_false_iff_ne, Int.not_lt, Int.not_le] at h)) | assumption | omega)
  all_goals rfl
end Go.Proofs
