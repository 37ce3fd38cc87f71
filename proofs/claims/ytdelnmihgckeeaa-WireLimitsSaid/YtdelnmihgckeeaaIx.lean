/- wire.Right's closure; slices.IndexFunc and ContainsFunc over records that are right. -/
import Derived.Test.YtdelnmihgckeeaaCt
namespace Go.Proofs
open Go.Sl
set_option linter.unusedSimpArgs false
attribute [local irreducible] SX SO SA CallS Go.Sl.Spec CatOk

theorem wi (z : Int) (h : -9223372036854775808 ≤ z) (h' : z ≤ 9223372036854775807) : IntKind.i64.wrap z = z := by
  simp [IntKind.wrap, IntKind.bits, IntKind.signed]; omega
theorem wi_succ (i : Nat) (h : i ≤ 16777216) : IntKind.i64.wrap ((i : Int) + 1) = ((i + 1 : Nat) : Int) := by
  rw [wi _ (by omega) (by omega)]; omega
abbrev recRows (rs : List Rec) : List (List Value) := rs.map Rec.cells

set_option maxRecDepth 100000 in
set_option maxHeartbeats 2000000 in
theorem sp_wrong (id st inc ip port : Int) (hr : Rec.right ⟨id, st, inc, ⟨ip, port⟩⟩ = true) : Spec1 Try.prog 22 [.agg ⟨[.int .i64 id, .int .i64 st, .int .u32 inc, .int .u32 ip, .int .u16 port]⟩] [] (.bool false) [] := by
  refine spec_go Try.func22 rfl rfl Try.ntmps22 rfl (fun R => ?_)
  repeat' (first | constructor | (refine CallS.of (sp_RRight _ _ _ _ _) .nil ?_; rintro _ _ ⟨rfl, rfl⟩; rw [hr]) | (refine so_it ?_) | (refine sx_goto rfl ?_) | (refine sx_drawn mixed ⟨by kernel_rfl, by kernel_rfl⟩ (fun hD => ?_)) | (refine sx_it ?_) | (refine sa_step hD ?_) | (refine catOk ?_; simp; (try omega); done) | (intro h; first | (exfalso; simp at h; (try omega); done) | (try simp only [Bool.not_true, Bool.not_false, decide_eq_true_eq, decide_eq_false_iff_not, beq_iff_eq, bne_iff_ne, beq_eq_false_iff_ne, Int.not_lt, Int.not_le] at h)) | assumption | omega)
  all_goals rfl
abbrev wrongF : Value := .func (.func 22) ⟨[]⟩ ⟨[]⟩
set_option maxRecDepth 100000 in
set_option maxHeartbeats 2000000 in
theorem sp_IxF (b p c : Nat) (pre post : List Value) (rs : List Rec) (hr : ∀ r ∈ rs, r.right = true) (hl : rs.length ≤ 1000) :
    Spec1 Try.prog 37 [.slice (some ⟨b, p, none⟩) rs.length c, wrongF] [arr b 27 p rs.length 5 pre (recRows rs) post]
      (.int .i64 (-1)) [arr b 27 p rs.length 5 pre (recRows rs) post] := by
  refine spec_go Try.func37 rfl rfl Try.ntmps37 rfl (fun R => ?_)
  have hrow : ∀ i (hi : i < rs.length), (recRows rs)[((i : Nat) : Int).toNat]? = some (Rec.cells rs[i]) := fun i hi => by simp [hi]
  repeat' (first | (exact Env.le_nil) | (refine Env.le_cons rfl ?_) | (refine Env.le_cons (congrArg (fun z => some (Value.int .i64 z)) (wi_succ _ (by omega))) ?_) | (apply LoadR.arrAz (hrow _ (by omega))) | constructor | (refine sx_loop (fun i : Nat => rs.length - i) (fun i => [(8, .int .i64 (i : Int)), (7, .int .i64 (rs.length : Int)), (0, .slice (some ⟨b, p, none⟩) rs.length c), (1, wrongF)]) (fun _ => [arr b 27 p rs.length 5 pre (recRows rs) post] ++ R) (fun i => i ≤ rs.length) 0 (by omega) (sx_env ?_) (fun i hi ih => ?_)) | (refine sx_env ?_ (ih (i + 1) (by omega) (by omega))) | (refine CallS.of (sp_wrong _ _ _ _ _ (hr _ (List.getElem_mem _))) .nil ?_; rintro _ _ ⟨rfl, rfl⟩) | (refine so_it ?_) | (refine sx_goto rfl ?_) | (refine sx_drawn mixed ⟨by kernel_rfl, by kernel_rfl⟩ (fun hD => ?_)) | (refine sx_it ?_) | (refine sa_step hD ?_) | (refine catOk ?_; simp; (try omega); done) | (intro h; first | (exfalso; simp at h; (try omega); done) | (try simp only [Bool.not_true, Bool.not_false, decide_eq_true_eq, decide_eq_false_iff_not, beq_iff_eq, bne_iff_ne, beq_eq_false_iff_ne, Int.not_lt, Int.not_le] at h)) | assumption | omega)
set_option maxRecDepth 100000 in
set_option maxHeartbeats 2000000 in
theorem sp_IxF0 (c : Nat) : Spec1 Try.prog 37 [.slice none 0 c, wrongF] [] (.int .i64 (-1)) [] := by
  refine spec_go Try.func37 rfl rfl Try.ntmps37 rfl (fun R => ?_)
  repeat' (first | constructor | (refine so_it ?_) | (refine sx_goto rfl ?_) | (refine sx_drawn mixed ⟨by kernel_rfl, by kernel_rfl⟩ (fun hD => ?_)) | apply sx_loop_in | apply sx_back | (refine sx_it ?_) | (refine sa_step hD ?_) | (refine catOk ?_; simp; (try omega); done) | (intro h; first | (exfalso; simp at h; (try omega); done) | (try simp only [Bool.not_true, Bool.not_false, decide_eq_true_eq, decide_eq_false_iff_not, beq_iff_eq, bne_iff_ne, beq_eq_false_iff_ne, Int.not_lt, Int.not_le] at h)) | assumption | omega)
  all_goals rfl
set_option maxRecDepth 100000 in
set_option maxHeartbeats 2000000 in
theorem sp_CtF (b p c : Nat) (pre post : List Value) (rs : List Rec) (hr : ∀ r ∈ rs, r.right = true) (hl : rs.length ≤ 1000) :
    Spec1 Try.prog 27 [.slice (some ⟨b, p, none⟩) rs.length c, wrongF] [arr b 27 p rs.length 5 pre (recRows rs) post]
      (.bool false) [arr b 27 p rs.length 5 pre (recRows rs) post] := by
  refine spec_go Try.func27 rfl rfl Try.ntmps27 rfl (fun R => ?_)
  repeat' (first | constructor | (refine CallS.of (sp_IxF _ _ _ _ _ _ hr hl) (by repeat' constructor) ?_; rintro _ _ ⟨rfl, rfl⟩) | (refine so_it ?_) | (refine sx_goto rfl ?_) | (refine sx_drawn mixed ⟨by kernel_rfl, by kernel_rfl⟩ (fun hD => ?_)) | (refine sx_it ?_) | (refine sa_step hD ?_) | (refine catOk ?_; simp; (try omega); done) | (intro h; first | (exfalso; simp at h; (try omega); done) | (try simp only [Bool.not_true, Bool.not_false, decide_eq_true_eq, decide_eq_false_iff_not, beq_iff_eq, bne_iff_ne, beq_eq_false_iff_ne, Int.not_lt, Int.not_le] at h)) | assumption | omega)
  all_goals rfl
set_option maxRecDepth 100000 in
set_option maxHeartbeats 2000000 in
theorem sp_CtF0 (c : Nat) : Spec1 Try.prog 27 [.slice none 0 c, wrongF] [] (.bool false) [] := by
  refine spec_go Try.func27 rfl rfl Try.ntmps27 rfl (fun R => ?_)
  repeat' (first | constructor | (refine CallS.of (sp_IxF0 _) .nil ?_; rintro _ _ ⟨rfl, rfl⟩) | (refine so_it ?_) | (refine sx_goto rfl ?_) | (refine sx_drawn mixed ⟨by kernel_rfl, by kernel_rfl⟩ (fun hD => ?_)) | (refine sx_it ?_) | (refine sa_step hD ?_) | (refine catOk ?_; simp; (try omega); done) | (intro h; first | (exfalso; simp at h; (try omega); done) | (try simp only [Bool.not_true, Bool.not_false, decide_eq_true_eq, decide_eq_false_iff_not, beq_iff_eq, bne_iff_ne, beq_eq_false_iff_ne, Int.not_lt, Int.not_le] at h)) | assumption | omega)
  all_goals rfl
end Go.Proofs
