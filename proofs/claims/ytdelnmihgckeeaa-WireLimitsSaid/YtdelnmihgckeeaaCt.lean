/- strings.Contains at one letter. -/
import Derived.Test.YtdelnmihgckeeaaPl
namespace Go.Proofs
open Go.Sl
set_option linter.unusedSimpArgs false
attribute [local irreducible] SX SO SA CallS Go.Sl.Spec CatOk

instance extIxB : ExtI Try.prog 52 Extern.BytealgIndexByte.indexByte := ⟨⟨_, rfl, rfl, by decide, by kernel_rfl, by kernel_rfl⟩⟩
def ixB (l : List UInt8) (c : UInt8) : Int :=
  match (List.range (ByteArray.mk ⟨l⟩).size).find? fun i => (ByteArray.mk ⟨l⟩)[i]! == c with
  | some i => i
  | none => -1
theorem ixB_run (l : List UInt8) (c : UInt8) (w : World) : (Extern.BytealgIndexByte.indexByte #[str l, .int .u8 (c.toNat : Int)]).run Try.prog w = .ok (.int .i64 (ixB l c)) w := by
  have hc : ((c.toNat : Int).toNat.toUInt8) = c := by simp
  have e : (Extern.BytealgIndexByte.indexByte #[str l, .int .u8 (c.toNat : Int)]).run Try.prog w =
      (match (List.range (ByteArray.mk ⟨l⟩).size).find? (fun i => (ByteArray.mk ⟨l⟩)[i]! == ((c.toNat : Int).toNat.toUInt8)) with
        | some i => pure (goInt i)
        | none => pure (goInt (-1)) : Sem Value).run Try.prog w := rfl
  rw [e, hc]
  unfold ixB
  cases (List.range (ByteArray.mk ⟨l⟩).size).find? (fun i => (ByteArray.mk ⟨l⟩)[i]! == c) <;> rfl
theorem ixB_contains (l : List UInt8) (c : UInt8) : decide (ixB l c ≥ 0) = l.contains c := by
  have hz : (ByteArray.mk ⟨l⟩).size = l.length := rfl
  have hg : ∀ i, i < l.length → (ByteArray.mk ⟨l⟩)[i]! = l[i]! := by
    intro i hi
    have h1 : i < (ByteArray.mk ⟨l⟩).size := hi
    rw [getElem!_pos (ByteArray.mk ⟨l⟩) i h1, getElem!_pos l i hi]; rfl
  unfold ixB
  cases he : (List.range (ByteArray.mk ⟨l⟩).size).find? (fun i => (ByteArray.mk ⟨l⟩)[i]! == c) with
  | some i =>
    have h2 := List.find?_some he
    have h3 := List.mem_of_find?_eq_some he
    simp [hz] at h3
    rw [hg i h3] at h2
    simp at h2
    have : c ∈ l := by rw [← h2]; simp [h3]
    simp [this]
  | none =>
    simp only [List.find?_eq_none, List.mem_range, hz] at he
    have : c ∉ l := by
      intro hm
      obtain ⟨i, hi, e⟩ := List.mem_iff_getElem.mp hm
      have := he i hi
      rw [hg i hi] at this
      simp [hi, e] at this
    simp [this]
set_option maxRecDepth 100000 in
set_option maxHeartbeats 2000000 in
theorem sp_IndexByte (l : List UInt8) (c : UInt8) : Spec1 Try.prog 45 [str l, .int .u8 (c.toNat : Int)] [] (.int .i64 (ixB l c)) [] := by
  refine spec_go Try.func45 rfl rfl Try.ntmps45 rfl (fun R => ?_)
  repeat' (first | (refine CalleeP.ext (ixB_run _ _) ?_) | constructor | (refine so_it ?_) | (refine sx_goto rfl ?_) | (refine sx_drawn mixed ⟨by kernel_rfl, by kernel_rfl⟩ (fun hD => ?_)) | (refine sx_it ?_) | (refine sa_step hD ?_) | (refine catOk ?_; simp; (try omega); done) | (intro h; first | (exfalso; simp at h; (try omega); done) | (try simp only [Bool.not_true, Bool.not_false, decide_eq_true_eq, decide_eq_false_iff_not, beq_iff_eq, bne_iff_ne, beq_eq_false_iff_ne, Int.not_lt, Int.not_le] at h)) | assumption | omega)
  all_goals rfl
theorem ixB_self (c : UInt8) : ixB [c] c = 0 := by
  have h : (ByteArray.mk ⟨[c]⟩)[0]! = c := rfl
  have e : List.range (ByteArray.mk ⟨[c]⟩).size = [0] := rfl
  unfold ixB
  rw [e]
  simp [h]
set_option maxRecDepth 100000 in
set_option maxHeartbeats 2000000 in
theorem sp_sIndex (l : List UInt8) (c : UInt8) : Spec1 Try.prog 42 [str l, str [c]] [] (.int .i64 (ixB l c)) [] := by
  refine spec_go Try.func42 rfl rfl Try.ntmps42 rfl (fun R => ?_)
  repeat' (first | constructor | (refine CallS.of (sp_IndexByte _ _) .nil ?_; rintro _ _ ⟨rfl, rfl⟩) | (refine so_it ?_) | (refine sx_goto rfl ?_) | (refine sx_drawn mixed ⟨by kernel_rfl, by kernel_rfl⟩ (fun hD => ?_)) | (refine sx_it ?_) | (refine sa_step hD ?_) | (refine catOk ?_; simp; (try omega); done) | (intro h; first | (exfalso; simp at h; (try omega); done) | (try simp only [Bool.not_true, Bool.not_false, decide_eq_true_eq, decide_eq_false_iff_not, beq_iff_eq, bne_iff_ne, beq_eq_false_iff_ne, Int.not_lt, Int.not_le] at h)) | assumption | omega)
  all_goals first
    | rfl
    | (have e : [c] = l := by simpa using h
       subst e
       exact congrArg (Value.int .i64) (ixB_self c).symm)
set_option maxRecDepth 100000 in
set_option maxHeartbeats 2000000 in
theorem sp_Index (l : List UInt8) (c : UInt8) : Spec1 Try.prog 38 [str l, str [c]] [] (.int .i64 (ixB l c)) [] := by
  refine spec_go Try.func38 rfl rfl Try.ntmps38 rfl (fun R => ?_)
  repeat' (first | constructor | (refine CallS.of (sp_sIndex _ _) .nil ?_; rintro _ _ ⟨rfl, rfl⟩) | (refine so_it ?_) | (refine sx_goto rfl ?_) | (refine sx_drawn mixed ⟨by kernel_rfl, by kernel_rfl⟩ (fun hD => ?_)) | (refine sx_it ?_) | (refine sa_step hD ?_) | (refine catOk ?_; simp; (try omega); done) | (intro h; first | (exfalso; simp at h; (try omega); done) | (try simp only [Bool.not_true, Bool.not_false, decide_eq_true_eq, decide_eq_false_iff_not, beq_iff_eq, bne_iff_ne, beq_eq_false_iff_ne, Int.not_lt, Int.not_le] at h)) | assumption | omega)
  all_goals rfl
set_option maxRecDepth 100000 in
set_option maxHeartbeats 2000000 in
theorem sp_Contains (l : List UInt8) (c : UInt8) (b : Bool) (hb : l.contains c = b) : Spec1 Try.prog 28 [str l, str [c]] [] (.bool b) [] := by
  refine spec_go Try.func28 rfl rfl Try.ntmps28 rfl (fun R => ?_)
  repeat' (first | constructor | (refine CallS.of (sp_Index _ _) .nil ?_; rintro _ _ ⟨rfl, rfl⟩) | (refine so_it ?_) | (refine sx_goto rfl ?_) | (refine sx_drawn mixed ⟨by kernel_rfl, by kernel_rfl⟩ (fun hD => ?_)) | (refine sx_it ?_) | (refine sa_step hD ?_) | (refine catOk ?_; simp; (try omega); done) | (intro h; first | (exfalso; simp at h; (try omega); done) | (try simp only [Bool.not_true, Bool.not_false, decide_eq_true_eq, decide_eq_false_iff_not, beq_iff_eq, bne_iff_ne, beq_eq_false_iff_ne, Int.not_lt, Int.not_le] at h)) | assumption | omega)
  all_goals exact congrArg Value.bool (by rw [← hb, ← ixB_contains])
end Go.Proofs
