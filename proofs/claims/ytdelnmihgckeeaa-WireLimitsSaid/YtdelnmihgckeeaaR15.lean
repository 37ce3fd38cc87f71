/- wire.Right at the messages that the law makes. -/
import Derived.Test.YtdelnmihgckeeaaEq
import Derived.Test.YtdelnmihgckeeaaHa
import Derived.Test.YtdelnmihgckeeaaAf
namespace Go.Proofs
open Go.Sl
set_option linter.unusedSimpArgs false
attribute [local irreducible] SX SO SA CallS Go.Sl.Spec CatOk

set_option maxRecDepth 100000 in
set_option maxHeartbeats 2000000 in
theorem sp_Right15z  : Spec1 Try.prog 10 [.agg ⟨[.int .i64 15, .int .i64 1, .int .u32 0, .int .i64 0, .int .u32 0, .int .u16 0, cx 0 0, .bool false, str [], .slice none 0 0]⟩] [] (.bool true) [] := by
  refine spec_go Try.func10 rfl rfl Try.ntmps10 rfl (fun R => ?_)
  repeat' (first | (refine BinP.cpx (v := .bool true) (fun _ => by kernel_rfl)) | constructor | (refine CallS.of sp_Has15 .nil ?_; rintro _ _ ⟨rfl, rfl⟩) | (refine CallS.of (sp_node _) .nil ?_; rintro _ _ ⟨rfl, rfl⟩) | (refine CallS.of sp_plain0 .nil ?_; rintro _ _ ⟨rfl, rfl⟩) | (refine CallS.of (sp_None _ _) .nil ?_; rintro _ _ ⟨rfl, rfl⟩) | (refine CallS.of sp_plr0 .nil ?_; rintro _ _ ⟨rfl, rfl⟩) | (refine CallS.of (sp_newsAt 15 32 (by decide)) .nil ?_; rintro _ _ ⟨rfl, rfl⟩) | (refine CallS.of (sp_CtF0 _) .nil ?_; rintro _ _ ⟨rfl, rfl⟩) | (refine CallS.of (sp_Contains _ _ _ rfl) .nil ?_; rintro _ _ ⟨rfl, rfl⟩) | (refine so_it ?_) | (refine sx_goto rfl ?_) | (refine sx_drawn mixed ⟨by kernel_rfl, by kernel_rfl⟩ (fun hD => ?_)) | apply sx_loop_in | apply sx_back | (refine sx_it ?_) | (refine sa_step hD ?_) | (refine catOk ?_; simp; (try omega); done) | (intro h; first | (exfalso; simp at h; (try omega); done) | (try simp only [Bool.not_true, Bool.not_false, decide_eq_true_eq, decide_eq_false_iff_not, beq_iff_eq, bne_iff_ne, beq_eq_false_iff_ne, Int.not_lt, Int.not_le] at h)) | assumption | omega)
  all_goals rfl
set_option maxRecDepth 100000 in
set_option maxHeartbeats 2000000 in
theorem sp_Right15 (b p c : Nat) (pre post : List Value) (rs : List Rec) (hr : ∀ r ∈ rs, r.right = true) (h1 : rs.length ≤ 32) : Spec1 Try.prog 10 [.agg ⟨[.int .i64 15, .int .i64 1, .int .u32 0, .int .i64 0, .int .u32 0, .int .u16 0, cx 0 0, .bool false, str [], .slice (some ⟨b, p, none⟩) rs.length c]⟩] [arr b 27 p rs.length 5 pre (recRows rs) post] (.bool true) [arr b 27 p rs.length 5 pre (recRows rs) post] := by
  refine spec_go Try.func10 rfl rfl Try.ntmps10 rfl (fun R => ?_)
  repeat' (first | (refine BinP.cpx (v := .bool true) (fun _ => by kernel_rfl)) | constructor | (refine CallS.of sp_Has15 .nil ?_; rintro _ _ ⟨rfl, rfl⟩) | (refine CallS.of (sp_node _) .nil ?_; rintro _ _ ⟨rfl, rfl⟩) | (refine CallS.of sp_plain0 .nil ?_; rintro _ _ ⟨rfl, rfl⟩) | (refine CallS.of (sp_None _ _) .nil ?_; rintro _ _ ⟨rfl, rfl⟩) | (refine CallS.of sp_plr0 .nil ?_; rintro _ _ ⟨rfl, rfl⟩) | (refine CallS.of (sp_newsAt 15 32 (by decide)) .nil ?_; rintro _ _ ⟨rfl, rfl⟩) | (refine CallS.of (sp_CtF _ _ _ _ _ _ hr (by omega)) (by repeat' constructor) ?_; rintro _ _ ⟨rfl, rfl⟩) | (refine CallS.of (sp_Contains _ _ _ rfl) .nil ?_; rintro _ _ ⟨rfl, rfl⟩) | (refine so_it ?_) | (refine sx_goto rfl ?_) | (refine sx_drawn mixed ⟨by kernel_rfl, by kernel_rfl⟩ (fun hD => ?_)) | apply sx_loop_in | apply sx_back | (refine sx_it ?_) | (refine sa_step hD ?_) | (refine catOk ?_; simp; (try omega); done) | (intro h; first | (exfalso; simp at h; (try omega); done) | (try simp only [Bool.not_true, Bool.not_false, decide_eq_true_eq, decide_eq_false_iff_not, beq_iff_eq, bne_iff_ne, beq_eq_false_iff_ne, Int.not_lt, Int.not_le] at h)) | assumption | omega)
  all_goals rfl
set_option maxRecDepth 100000 in
set_option maxHeartbeats 2000000 in
theorem sp_Right15b (b p c : Nat) (pre post : List Value) (rs : List Rec) (h1 : 32 < rs.length) (h2 : rs.length ≤ 1000) : Spec1 Try.prog 10 [.agg ⟨[.int .i64 15, .int .i64 1, .int .u32 0, .int .i64 0, .int .u32 0, .int .u16 0, cx 0 0, .bool false, str [], .slice (some ⟨b, p, none⟩) rs.length c]⟩] [arr b 27 p rs.length 5 pre (recRows rs) post] (.bool false) [arr b 27 p rs.length 5 pre (recRows rs) post] := by
  refine spec_go Try.func10 rfl rfl Try.ntmps10 rfl (fun R => ?_)
  repeat' (first | (refine BinP.cpx (v := .bool true) (fun _ => by kernel_rfl)) | constructor | (refine CallS.of sp_Has15 .nil ?_; rintro _ _ ⟨rfl, rfl⟩) | (refine CallS.of (sp_node _) .nil ?_; rintro _ _ ⟨rfl, rfl⟩) | (refine CallS.of sp_plain0 .nil ?_; rintro _ _ ⟨rfl, rfl⟩) | (refine CallS.of (sp_None _ _) .nil ?_; rintro _ _ ⟨rfl, rfl⟩) | (refine CallS.of sp_plr0 .nil ?_; rintro _ _ ⟨rfl, rfl⟩) | (refine CallS.of (sp_newsAt 15 32 (by decide)) .nil ?_; rintro _ _ ⟨rfl, rfl⟩) | (refine CallS.of (sp_CtF0 _) .nil ?_; rintro _ _ ⟨rfl, rfl⟩) | (refine CallS.of (sp_Contains _ _ _ rfl) .nil ?_; rintro _ _ ⟨rfl, rfl⟩) | (refine so_it ?_) | (refine sx_goto rfl ?_) | (refine sx_drawn mixed ⟨by kernel_rfl, by kernel_rfl⟩ (fun hD => ?_)) | apply sx_loop_in | apply sx_back | (refine sx_it ?_) | (refine sa_step hD ?_) | (refine catOk ?_; simp; (try omega); done) | (intro h; first | (exfalso; simp at h; (try omega); done) | (try simp only [Bool.not_true, Bool.not_false, decide_eq_true_eq, decide_eq_false_iff_not, beq_iff_eq, bne_iff_ne, beq_eq_false_iff_ne, Int.not_lt, Int.not_le] at h)) | assumption | omega)
  all_goals rfl
end Go.Proofs
