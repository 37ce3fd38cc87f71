/- wire.Put over a slice that may be nil, of one record again and again; at a body of zeros; wire.Get at zeros. -/
import Derived.Test.YtdelnmihgckeeaaGt
import Derived.Test.YtdelnmihgckeeaaP05
import Derived.Test.YtdelnmihgckeeaaP01
import Derived.Test.YtdelnmihgckeeaaP15
namespace Go.Proofs
open Go.Sl
set_option linter.unusedSimpArgs false
attribute [local irreducible] SX SO SA CallS Go.Sl.Spec CatOk

def out5 (n : Nat) : List UInt8 := if 1 ≤ n ∧ n ≤ 900 then be 1 (IntKind.u64.wrap 5) ++ be 1 (IntKind.u64.wrap 1) ++ be 4 (IntKind.u64.wrap 0) ++ be 1 (IntKind.u64.wrap 2) ++ (be 2 (IntKind.u64.wrap ((List.replicate n (0 : UInt8)).length : Int)) ++ (List.replicate n 0)) else []
theorem sp_PutA (n : Nat) (h : n ≤ 2000) : Spec1 Try.prog 6 [.agg ⟨[.int .i64 5, .int .i64 1, .int .u32 0, .int .i64 2, .int .u32 0, .int .u16 0, cx 0 0, .bool false, str (List.replicate n 0), .slice none 0 0]⟩] []
    (.tuple ⟨[str (out5 n), .bool (decide (1 ≤ n ∧ n ≤ 900))]⟩) [] := by
  unfold out5
  by_cases h1 : 1 ≤ n ∧ n ≤ 900
  · rw [if_pos h1, decide_eq_true h1]
    exact sp_Put5 n h1.1 h1.2
  · rw [if_neg h1, decide_eq_false h1]
    rcases Nat.eq_zero_or_pos n with h0 | h0
    · subst h0; exact sp_Put5z
    · exact sp_Put5b n (by omega) h
theorem rep_rows {l : List (List Value)} {r : Rec} (hl : l = List.replicate l.length r.cells) : recRows (List.replicate l.length r) = l := by
  conv => rhs; rw [hl]
  simp
def outR (base : List UInt8) (m : Nat) (l : List (List Value)) (r : Rec) : List UInt8 := if l.length ≤ m then accR (base ++ be 1 (IntKind.u64.wrap ((List.replicate l.length r).length : Int))) (List.replicate l.length r) (List.replicate l.length r).length else []
abbrev base1 : List UInt8 := be 1 (IntKind.u64.wrap 1) ++ be 1 (IntKind.u64.wrap 1) ++ be 4 (IntKind.u64.wrap 0) ++ be 1 (IntKind.u64.wrap 2)
abbrev base15 : List UInt8 := be 1 (IntKind.u64.wrap 15) ++ be 1 (IntKind.u64.wrap 1) ++ be 4 (IntKind.u64.wrap 0) ++ be 1 0
theorem sp_PutB (a : Option Addr) (c : Nat) (l : List (List Value)) (r : Rec) (hr : r.right = true) (hl : l = List.replicate l.length r.cells) (h : l.length ≤ 1000) :
    Spec1 Try.prog 6 [.agg ⟨[.int .i64 1, .int .i64 1, .int .u32 0, .int .i64 2, .int .u32 0, .int .u16 0, cx 0 0, .bool false, str [], .slice a l.length c]⟩] [sls 27 5 a c l]
    (.tuple ⟨[str (outR base1 8 l r), .bool (decide (l.length ≤ 8))]⟩) [sls 27 5 a c l] := by
  refine spec_sls (fun e1 e2 e3 => ?_) (fun b p pre post e => ?_)
  · subst e1 e2 e3
    exact sp_Put1z
  · subst e
    have hlen : (List.replicate l.length r).length = l.length := by simp
    unfold outR
    by_cases h1 : l.length ≤ 8
    · rw [if_pos h1, decide_eq_true h1]
      have := sp_Put1 b p c pre post (List.replicate l.length r) (fun x hx => by rw [List.eq_of_mem_replicate hx]; exact hr) (by omega)
      rw [rep_rows hl] at this
      simpa only [List.length_replicate] using this
    · rw [if_neg h1, decide_eq_false h1]
      have := sp_Put1b b p c pre post (List.replicate l.length r) (by omega) (by omega)
      rw [rep_rows hl] at this
      simpa only [List.length_replicate] using this
theorem sp_PutC (a : Option Addr) (c : Nat) (l : List (List Value)) (r : Rec) (hr : r.right = true) (hl : l = List.replicate l.length r.cells) (h : l.length ≤ 1000) :
    Spec1 Try.prog 6 [.agg ⟨[.int .i64 15, .int .i64 1, .int .u32 0, .int .i64 0, .int .u32 0, .int .u16 0, cx 0 0, .bool false, str [], .slice a l.length c]⟩] [sls 27 5 a c l]
    (.tuple ⟨[str (outR base15 32 l r), .bool (decide (l.length ≤ 32))]⟩) [sls 27 5 a c l] := by
  refine spec_sls (fun e1 e2 e3 => ?_) (fun b p pre post e => ?_)
  · subst e1 e2 e3
    exact sp_Put15z
  · subst e
    have hlen : (List.replicate l.length r).length = l.length := by simp
    unfold outR
    by_cases h1 : l.length ≤ 32
    · rw [if_pos h1, decide_eq_true h1]
      have := sp_Put15 b p c pre post (List.replicate l.length r) (fun x hx => by rw [List.eq_of_mem_replicate hx]; exact hr) (by omega)
      rw [rep_rows hl] at this
      simpa only [List.length_replicate] using this
    · rw [if_neg h1, decide_eq_false h1]
      have := sp_Put15b b p c pre post (List.replicate l.length r) (by omega) (by omega)
      rw [rep_rows hl] at this
      simpa only [List.length_replicate] using this
theorem sp_GetS (n : Nat) (h : 24 < n) : Spec1 Try.prog 7 [str (List.replicate (1000 + n) 0)] [] (.tuple ⟨[msg0, .int .i64 3]⟩) [] := sp_GetL _ (by rw [List.length_replicate]; omega)
theorem sp_GetZ (n : Nat) (h : n ≤ 24) : Spec1 Try.prog 7 [str (List.replicate (1000 + n) 0)] [] (.tuple ⟨[msg0, .int .i64 2]⟩) [] := by
  have e : List.replicate (1000 + n) (0 : UInt8) = 0 :: 0 :: 0 :: 0 :: 0 :: 0 :: List.replicate (994 + n) 0 := by
    rw [show 1000 + n = (994 + n) + 1 + 1 + 1 + 1 + 1 + 1 from by omega]
    simp only [List.replicate_succ]
  rw [e]
  exact sp_Get0 _ (by rw [List.length_replicate]; omega)
end Go.Proofs
