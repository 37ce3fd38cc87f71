/- Package pack: what its functions come to. Conditions: sizes 1, 2, 4. -/
import Derived.Test.YtdelnmihgckeeaaSl7
import Derived.Test.YtdelnmihgckeeaaTy
namespace Go.Proofs
open Go.Sl
set_option linter.unusedSimpArgs false
attribute [local irreducible] SX SO SA CallS Go.Sl.Spec CatOk

theorem mixed : Try.prog.follows .mixedOrders = true := by kernel_rfl

/-- a number's lowest bytes, the highest first -/
def be (s : Nat) (z : Int) : List UInt8 :=
  match s with
  | 0 => []
  | s + 1 => be s (z / 256) ++ [UInt8.ofNat (z % 256).toNat]
theorem u8wrap (z : Int) : IntKind.u8.wrap z = z % 256 := by
  simp only [IntKind.wrap, IntKind.signed, IntKind.bits]
  simp
theorem u64wrap (z : Int) : IntKind.u64.wrap z = z % 18446744073709551616 := by
  simp only [IntKind.wrap, IntKind.signed, IntKind.bits]
  simp
theorem byteAt (z : Int) (k : Nat) : UInt8.ofNat (IntKind.u8.wrap (z.fdiv (2 ^ k))).toNat = UInt8.ofNat ((z / 2 ^ k) % 256).toNat := by
  rw [Int.fdiv_eq_ediv_of_nonneg _ (Int.le_of_lt (Int.pow_pos (by decide))), u8wrap]
theorem be_one (z : Int) : be 1 z = [UInt8.ofNat (z % 256).toNat] := rfl
theorem be_two (z : Int) : be 2 z = [UInt8.ofNat (z / 256 % 256).toNat, UInt8.ofNat (z % 256).toNat] := rfl
theorem be_four (z : Int) : be 4 z = [UInt8.ofNat (z / 16777216 % 256).toNat, UInt8.ofNat (z / 65536 % 256).toNat, UInt8.ofNat (z / 256 % 256).toNat, UInt8.ofNat (z % 256).toNat] := by
  have e1 : z / 256 / 256 = z / 65536 := by omega
  have e2 : z / 256 / 256 / 256 = z / 16777216 := by omega
  show [UInt8.ofNat (z / 256 / 256 / 256 % 256).toNat, UInt8.ofNat (z / 256 / 256 % 256).toNat, UInt8.ofNat (z / 256 % 256).toNat, UInt8.ofNat (z % 256).toNat] = _
  rw [e2, e1]
theorem be1_wrap (z : Int) : be 1 (IntKind.u64.wrap z) = be 1 z := by
  rw [be_one, be_one, u64wrap]; congr 2; omega
theorem be2_wrap (z : Int) : be 2 (IntKind.u64.wrap z) = be 2 z := by
  rw [be_two, be_two, u64wrap]
  congr 2
  · omega
  · congr 2; omega
theorem be4_wrap (z : Int) : be 4 (IntKind.u64.wrap z) = be 4 z := by
  have e1 : z % 18446744073709551616 / 16777216 % 256 = z / 16777216 % 256 := by omega
  have e2 : z % 18446744073709551616 / 65536 % 256 = z / 65536 % 256 := by omega
  have e3 : z % 18446744073709551616 / 256 % 256 = z / 256 % 256 := by omega
  have e4 : z % 18446744073709551616 % 256 = z % 256 := by omega
  rw [be_four, be_four, u64wrap, e1, e2, e3, e4]
@[simp] theorem be_length (s : Nat) (z : Int) : (be s z).length = s := by
  induction s generalizing z with
  | zero => rfl
  | succ s ih => simp [be, ih]

set_option maxRecDepth 100000 in
set_option maxHeartbeats 2000000 in
theorem sp_Number1 (z : Int) : Spec1 Try.prog 11 [.int .u64 z, .int .i64 1] [] (str (be 1 z)) [] := by
  refine spec_go Try.func11 rfl rfl Try.ntmps11 rfl (fun R => ?_)
  repeat' (first | constructor | (refine so_it ?_) | (refine sx_goto rfl ?_) | (refine sx_drawn mixed ⟨by kernel_rfl, by kernel_rfl⟩ (fun hD => ?_)) | apply sx_loop_in | apply sx_back | (refine sx_it ?_) | (refine sa_step hD ?_) | (refine catOk ?_; simp; (try omega); done) | (intro h; first | (exfalso; simp at h; (try omega); done) | (try simp only [Bool.not_true, Bool.not_false, decide_eq_true_eq, decide_eq_false_iff_not, beq_iff_eq, bne_iff_ne, beq_eq_false_iff_ne, Int.not_lt, Int.not_le] at h)) | assumption | omega)
  rw [be_one]
  exact congrArg (fun x => str [x]) ((byteAt z 0).trans (by simp))
set_option maxRecDepth 100000 in
set_option maxHeartbeats 2000000 in
theorem sp_Number2 (z : Int) : Spec1 Try.prog 11 [.int .u64 z, .int .i64 2] [] (str (be 2 z)) [] := by
  refine spec_go Try.func11 rfl rfl Try.ntmps11 rfl (fun R => ?_)
  repeat' (first | constructor | (refine so_it ?_) | (refine sx_goto rfl ?_) | (refine sx_drawn mixed ⟨by kernel_rfl, by kernel_rfl⟩ (fun hD => ?_)) | apply sx_loop_in | apply sx_back | (refine sx_it ?_) | (refine sa_step hD ?_) | (refine catOk ?_; simp; (try omega); done) | (intro h; first | (exfalso; simp at h; (try omega); done) | (try simp only [Bool.not_true, Bool.not_false, decide_eq_true_eq, decide_eq_false_iff_not, beq_iff_eq, bne_iff_ne, beq_eq_false_iff_ne, Int.not_lt, Int.not_le] at h)) | assumption | omega)
  rw [be_two]
  refine congrArg str ?_
  exact List.cons_eq_cons.2 ⟨(byteAt z 8).trans (by simp), List.cons_eq_cons.2 ⟨(byteAt z 0).trans (by simp), rfl⟩⟩
set_option maxRecDepth 100000 in
set_option maxHeartbeats 4000000 in
theorem sp_Number4 (z : Int) : Spec1 Try.prog 11 [.int .u64 z, .int .i64 4] [] (str (be 4 z)) [] := by
  refine spec_go Try.func11 rfl rfl Try.ntmps11 rfl (fun R => ?_)
  repeat' (first | constructor | (refine so_it ?_) | (refine sx_goto rfl ?_) | (refine sx_drawn mixed ⟨by kernel_rfl, by kernel_rfl⟩ (fun hD => ?_)) | apply sx_loop_in | apply sx_back | (refine sx_it ?_) | (refine sa_step hD ?_) | (refine catOk ?_; simp; (try omega); done) | (intro h; first | (exfalso; simp at h; (try omega); done) | (try simp only [Bool.not_true, Bool.not_false, decide_eq_true_eq, decide_eq_false_iff_not, beq_iff_eq, bne_iff_ne, beq_eq_false_iff_ne, Int.not_lt, Int.not_le] at h)) | assumption | omega)
  rw [be_four]
  refine congrArg str ?_
  refine List.cons_eq_cons.2 ⟨(byteAt z 24).trans ?_, List.cons_eq_cons.2 ⟨(byteAt z 16).trans ?_, List.cons_eq_cons.2 ⟨(byteAt z 8).trans ?_, List.cons_eq_cons.2 ⟨(byteAt z 0).trans ?_, rfl⟩⟩⟩⟩
  all_goals simp

-- the reader
/-- a number of bytes -/
def de : List UInt8 → Nat
  | [] => 0
  | l => l.foldl (fun n b => n * 256 + b.toNat) 0
abbrev rdr (rest : List UInt8) (bad : Bool) : Value := .agg ⟨[str rest, .bool bad]⟩
set_option maxRecDepth 100000 in
set_option maxHeartbeats 2000000 in
theorem sp_Read (l : List UInt8) : Spec1 Try.prog 15 [str l] [] (rdr l false) [] := by
  refine spec_go Try.func15 rfl rfl Try.ntmps15 rfl (fun R => ?_)
  repeat' (first | constructor | (refine so_it ?_) | (refine sx_goto rfl ?_) | (refine sx_drawn mixed ⟨by kernel_rfl, by kernel_rfl⟩ (fun hD => ?_)) | apply sx_loop_in | apply sx_back | (refine sx_it ?_) | (refine sa_step hD ?_) | (refine catOk ?_; simp; (try omega); done) | (intro h; first | (exfalso; simp at h; (try omega); done) | (try simp only [Bool.not_true, Bool.not_false, decide_eq_true_eq, decide_eq_false_iff_not, beq_iff_eq, bne_iff_ne, beq_eq_false_iff_ne, Int.not_lt, Int.not_le] at h)) | assumption | omega)
  all_goals rfl
set_option maxRecDepth 100000 in
set_option maxHeartbeats 2000000 in
theorem sp_bytes (r : List UInt8) (sz : Int) (h0 : 0 ≤ sz) (h1 : sz ≤ r.length) : Spec1 Try.prog 39 [rdr r false, .int .i64 sz] []
    (.tuple ⟨[str (r.take sz.toNat), rdr (r.drop sz.toNat) false]⟩) [] := by
  refine spec_go Try.func39 rfl rfl Try.ntmps39 rfl (fun R => ?_)
  repeat' (first | constructor | (refine so_it ?_) | (refine sx_goto rfl ?_) | (refine sx_drawn mixed ⟨by kernel_rfl, by kernel_rfl⟩ (fun hD => ?_)) | (refine sx_it ?_) | (refine sa_step hD ?_) | (refine catOk ?_; simp; (try omega); done) | (intro h; first | (exfalso; simp at h; (try omega); done) | (try simp only [Bool.not_true, Bool.not_false, decide_eq_true_eq, decide_eq_false_iff_not, beq_iff_eq, bne_iff_ne, beq_eq_false_iff_ne, Int.not_lt, Int.not_le] at h)) | assumption | omega)
  simp [tupV]
set_option maxRecDepth 100000 in
set_option maxHeartbeats 2000000 in
theorem sp_bytes_no (r : List UInt8) (b : Bool) (sz : Int) (h1 : b = true ∨ r.length < sz) : Spec1 Try.prog 39 [rdr r b, .int .i64 sz] []
    (.tuple ⟨[str [], rdr [] true]⟩) [] := by
  refine spec_go Try.func39 rfl rfl Try.ntmps39 rfl (fun R => ?_)
  cases b
  · have h2 : (r.length : Int) < sz := by simpa using h1
    repeat' (first | constructor | (refine so_it ?_) | (refine sx_goto rfl ?_) | (refine sx_drawn mixed ⟨by kernel_rfl, by kernel_rfl⟩ (fun hD => ?_)) | (refine sx_it ?_) | (refine sa_step hD ?_) | (refine catOk ?_; simp; (try omega); done) | (intro h; first | (exfalso; simp at h; (try omega); done) | (try simp only [Bool.not_true, Bool.not_false, decide_eq_true_eq, decide_eq_false_iff_not, beq_iff_eq, bne_iff_ne, beq_eq_false_iff_ne, Int.not_lt, Int.not_le] at h)) | assumption | omega)
    all_goals rfl
  · repeat' (first | constructor | (refine so_it ?_) | (refine sx_goto rfl ?_) | (refine sx_drawn mixed ⟨by kernel_rfl, by kernel_rfl⟩ (fun hD => ?_)) | (refine sx_it ?_) | (refine sa_step hD ?_) | (refine catOk ?_; simp; (try omega); done) | (intro h; first | (exfalso; simp at h; (try omega); done) | (try simp only [Bool.not_true, Bool.not_false, decide_eq_true_eq, decide_eq_false_iff_not, beq_iff_eq, bne_iff_ne, beq_eq_false_iff_ne, Int.not_lt, Int.not_le] at h)) | assumption | omega)
    all_goals rfl

theorem lt_pow {x n : Nat} (h : x < n) : x < n := h
theorem orByte (x : Nat) (b : UInt8) (hx : x < 2 ^ 56) : bitV .or .u64 (IntKind.u64.wrap ((x : Int) * 2 ^ (min (Int.toNat 8) 64))) (IntKind.u64.wrap (b.toNat : Int)) = ((x * 256 + b.toNat : Nat) : Int) := by
  have hb := b.toNat_lt
  have e1 : IntKind.u64.wrap ((x : Int) * 2 ^ (min (Int.toNat 8) 64)) = ((x * 256 : Nat) : Int) := by
    simp only [IntKind.wrap, IntKind.signed, IntKind.bits]
    simp
    omega
  have e2 : IntKind.u64.wrap (b.toNat : Int) = ((b.toNat : Nat) : Int) := by
    simp only [IntKind.wrap, IntKind.signed, IntKind.bits]
    simp
    omega
  rw [e1, e2]
  have e3 : (x * 256) ||| b.toNat = x * 256 + b.toNat := by
    have := Nat.two_pow_add_eq_or_of_lt (i := 8) (b := b.toNat) hb x
    rw [Nat.mul_comm] at this
    exact this.symm
  have e4 : (BitVec.ofInt 64 ((x * 256 : Nat) : Int) ||| BitVec.ofInt 64 ((b.toNat : Nat) : Int)).toNat = x * 256 + b.toNat := by
    rw [BitVec.toNat_or, BitVec.ofInt_natCast, BitVec.ofInt_natCast, BitVec.toNat_ofNat, BitVec.toNat_ofNat, Nat.mod_eq_of_lt (by omega), Nat.mod_eq_of_lt (by omega), e3]
  show IntKind.u64.wrap ((BitVec.ofInt 64 ((x * 256 : Nat) : Int) ||| BitVec.ofInt 64 ((b.toNat : Nat) : Int)).toNat : Int) = _
  rw [e4]
  simp only [IntKind.wrap, IntKind.signed, IntKind.bits]
  simp
  omega
end Go.Proofs
