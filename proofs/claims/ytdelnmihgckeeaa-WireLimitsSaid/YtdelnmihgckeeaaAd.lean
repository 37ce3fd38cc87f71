/- Packages addr and record: what their functions come to. No condition but the kinds' own bounds. -/
import Derived.Test.YtdelnmihgckeeaaPk
namespace Go.Proofs
open Go.Sl
set_option linter.unusedSimpArgs false
attribute [local irreducible] SX SO SA CallS Go.Sl.Spec CatOk

structure Adr where
  ip : Int
  port : Int
  deriving DecidableEq
abbrev Adr.cells (a : Adr) : List Value := [.int .u32 a.ip, .int .u16 a.port]
abbrev Adr.val (a : Adr) : Value := .agg ⟨a.cells⟩
def Adr.isNone (a : Adr) : Bool := decide (a.ip = 0) || decide (a.port = 0)
def Adr.put (a : Adr) : List UInt8 := be 4 a.ip ++ be 2 a.port
@[simp] theorem Adr.put_length (a : Adr) : a.put.length = 6 := by simp [Adr.put]
structure Rec where
  id : Int
  st : Int
  inc : Int
  adr : Adr
  deriving DecidableEq
abbrev Rec.cells (r : Rec) : List Value := [.int .i64 r.id, .int .i64 r.st, .int .u32 r.inc, .int .u32 r.adr.ip, .int .u16 r.adr.port]
abbrev Rec.val (r : Rec) : Value := .agg ⟨r.cells⟩
def Rec.right (r : Rec) : Bool := decide (1 ≤ r.id ∧ r.id ≤ 32 ∧ 0 ≤ r.st ∧ r.st < 4) && !r.adr.isNone
def Rec.put (r : Rec) : List UInt8 := be 1 r.id ++ be 1 r.st ++ be 4 r.inc ++ r.adr.put
@[simp] theorem Rec.put_length (r : Rec) : r.put.length = 12 := by simp [Rec.put]

set_option maxRecDepth 100000 in
set_option maxHeartbeats 2000000 in
theorem sp_None (ip port : Int) : Spec1 Try.prog 24 [.agg ⟨[.int .u32 ip, .int .u16 port]⟩] [] (.bool (Adr.isNone ⟨ip, port⟩)) [] := by
  refine spec_go Try.func24 rfl rfl Try.ntmps24 rfl (fun R => ?_)
  repeat' (first | constructor | (refine so_it ?_) | (refine sx_goto rfl ?_) | (refine sx_drawn mixed ⟨by kernel_rfl, by kernel_rfl⟩ (fun hD => ?_)) | (refine sx_it ?_) | (refine sa_step hD ?_) | (refine catOk ?_; simp; (try omega); done) | (intro h; first | (exfalso; simp at h; (try omega); done) | (try simp only [Bool.not_true, Bool.not_false, decide_eq_true_eq, decide_eq_false_iff_not, beq_iff_eq, bne_iff_ne, beq_eq_false_iff_ne, Int.not_lt, Int.not_le] at h)) | assumption | omega)
  all_goals refine congrArg Value.bool ?_
  all_goals (rw [Bool.eq_iff_iff]; simp [Adr.isNone] at *; omega)
set_option maxRecDepth 100000 in
set_option maxHeartbeats 2000000 in
theorem sp_APut (ip port : Int) : Spec1 Try.prog 12 [.agg ⟨[.int .u32 ip, .int .u16 port]⟩] [] (str (Adr.put ⟨ip, port⟩)) [] := by
  refine spec_go Try.func12 rfl rfl Try.ntmps12 rfl (fun R => ?_)
  repeat' (first | constructor | (refine CallS.of (sp_Number4 _) .nil ?_; rintro _ _ ⟨rfl, rfl⟩) | (refine CallS.of (sp_Number2 _) .nil ?_; rintro _ _ ⟨rfl, rfl⟩) | (refine so_it ?_) | (refine sx_goto rfl ?_) | (refine sx_drawn mixed ⟨by kernel_rfl, by kernel_rfl⟩ (fun hD => ?_)) | (refine sx_it ?_) | (refine sa_step hD ?_) | (refine catOk ?_; simp; (try omega); done) | (intro h; first | (exfalso; simp at h; (try omega); done) | (try simp only [Bool.not_true, Bool.not_false, decide_eq_true_eq, decide_eq_false_iff_not, beq_iff_eq, bne_iff_ne, beq_eq_false_iff_ne, Int.not_lt, Int.not_le] at h)) | assumption | omega)
  exact congrArg str (by rw [be4_wrap, be2_wrap]; rfl)
set_option maxRecDepth 100000 in
set_option maxHeartbeats 2000000 in
theorem sp_RRight (id st inc ip port : Int) : Spec1 Try.prog 23 [.agg ⟨[.int .i64 id, .int .i64 st, .int .u32 inc, .int .u32 ip, .int .u16 port]⟩] [] (.bool (Rec.right ⟨id, st, inc, ⟨ip, port⟩⟩)) [] := by
  refine spec_go Try.func23 rfl rfl Try.ntmps23 rfl (fun R => ?_)
  repeat' (first | constructor | (refine CallS.of (sp_None _ _) .nil ?_; rintro _ _ ⟨rfl, rfl⟩) | (refine so_it ?_) | (refine sx_goto rfl ?_) | (refine sx_drawn mixed ⟨by kernel_rfl, by kernel_rfl⟩ (fun hD => ?_)) | (refine sx_it ?_) | (refine sa_step hD ?_) | (refine catOk ?_; simp; (try omega); done) | (intro h; first | (exfalso; simp at h; (try omega); done) | (try simp only [Bool.not_true, Bool.not_false, decide_eq_true_eq, decide_eq_false_iff_not, beq_iff_eq, bne_iff_ne, beq_eq_false_iff_ne, Int.not_lt, Int.not_le] at h)) | assumption | omega)
  all_goals refine congrArg Value.bool ?_
  all_goals (rw [Bool.eq_iff_iff]; simp [Rec.right] at *; try omega)
end Go.Proofs
