/- law06's WireLimits, walked. -/
import Derived.Test.YtdelnmihgckeeaaEx
import Derived.Test.YtdelnmihgckeeaaPs
import Derived.Test.YtdelnmihgckeeaaTh
namespace Go.Sl
theorem sx_loop_ptrs {P : Program} {n : Nat} {τ : Env} {H : List HProp} {K : Cont} {it : List Item} {c : Code} {t1 t2 t3 t4 b1 b2 b3 b4 : Nat}
    (_h1 : lk τ t1 = some (.pointer (some ⟨b1, 0, none⟩))) (_h2 : lk τ t2 = some (.pointer (some ⟨b2, 0, none⟩))) (_h3 : lk τ t3 = some (.pointer (some ⟨b3, 0, none⟩))) (_h4 : lk τ t4 = some (.pointer (some ⟨b4, 0, none⟩)))
    (μ : List (List Value) → Nat) (T : Nat → Nat → Nat → Nat → List (List Value) → Env) (G : Nat → Nat → Nat → Nat → List (List Value) → Option Addr → Nat → Option Addr → Nat → List HProp) (J : List (List Value) → Prop) (hJ : J [])
    (h0 : SX P n K (.code c :: .inLoop c :: it) (T b1 b2 b3 b4 []) (G b1 b2 b3 b4 [] none 0 none 0) → SX P n K (.code c :: .inLoop c :: it) τ H)
    (hr : ∀ l a m a2 m2, J l → (∀ j a m a2 m2, J j → μ j < μ l → SX P n K (.inLoop c :: it) (T b1 b2 b3 b4 j) (G b1 b2 b3 b4 j a m a2 m2)) → SX P n K (.code c :: .inLoop c :: it) (T b1 b2 b3 b4 l) (G b1 b2 b3 b4 l a m a2 m2)) :
    SX P n K (.code (.loop c) :: it) τ H :=
  sx_loop (ι := List (List Value) × (Option Addr × Nat) × (Option Addr × Nat)) (fun x => μ x.1) (fun x => T b1 b2 b3 b4 x.1) (fun x => G b1 b2 b3 b4 x.1 x.2.1.1 x.2.1.2 x.2.2.1 x.2.2.2) (fun x => J x.1) ⟨[], ⟨none, 0⟩, ⟨none, 0⟩⟩ hJ h0
    (fun x hx ih => hr x.1 x.2.1.1 x.2.1.2 x.2.2.1 x.2.2.2 hx (fun j a m a2 m2 h1 h2 => ih ⟨j, ⟨a, m⟩, ⟨a2, m2⟩⟩ h1 h2))
theorem sx_ke {P : Program} {n : Nat} {τ : Env} {H : List HProp} {K : Cont} {it : List Item} {R T : List HProp} {τ' : Env} (h : SX P n K it τ' T) (hk : Keep R H T) (he : Env.le τ' τ) : SX P n K it τ H := sx_keep hk (sx_env he h)
theorem dec_ne {p q : Prop} [Decidable p] [Decidable q] (h : (decide p == decide q) = !true) : ¬ (p ↔ q) := fun e => by
  have : decide p = decide q := by simp only [e]
  rw [this] at h
  simp at h
end Go.Sl
namespace Go.Proofs
open Go.Sl
set_option linter.unusedSimpArgs false
attribute [local irreducible] SX SO SA CallS Go.Sl.Spec CatOk

theorem rep_snoc {l : List (List Value)} {row : List Value} (h : l = List.replicate l.length row) : l ++ [row] = List.replicate (l ++ [row]).length row := by
  have e : (l ++ [row]).length = l.length + 1 := by simp
  rw [e, List.replicate_succ', ← h]
theorem wi_snoc (l : List (List Value)) (r : List Value) (h : l.length ≤ 16777216) : IntKind.i64.wrap ((l.length : Int) + 1) = ((l ++ [r]).length : Int) := by
  rw [wi_succ _ h]; simp
theorem bin1000 (n : Nat) (h : n ≤ 2000) (t : TypeId) : BinP Try.prog .add t (.int .i64 1000) (.int .i64 (n : Int)) (.int .i64 ((1000 + n : Nat) : Int)) := by
  have : IntKind.i64.wrap (1000 + (n : Int)) = ((1000 + n : Nat) : Int) := by rw [wi _ (by omega) (by omega)]; omega
  rw [← this]
  exact .add
set_option maxRecDepth 100000 in
set_option maxHeartbeats 4000000 in
theorem sp_WL (size many id st inc ip port : Int) (own : Bool) (hip : 0 ≤ ip) (n k : Nat) (hn : IntKind.i64.wrap (size.tmod 1100) = (n : Int)) (hk : IntKind.i64.wrap (many.tmod 40) = (k : Int)) (hn1 : n < 1100) (hk1 : k < 40) :
    Spec1 Try.prog 3 [.int .u16 size, .int .u8 many, .agg ⟨[.int .i64 id, .int .i64 st, .int .u32 inc, .int .u32 ip, .int .u16 port, .bool own]⟩] [] (.bool true) [] := by
  refine spec_go Try.func3 rfl rfl Try.ntmps3 rfl (fun R => ?_)
  have cN : ConvV Try.prog .i64 (.int .u16 (size.tmod 1100)) (.int .i64 (n : Int)) := hn ▸ .int
  have cK : ConvV Try.prog .i64 (.int .u8 (many.tmod 40)) (.int .i64 (k : Int)) := hk ▸ .int
  rcases Nat.lt_or_ge 24 n with hg | hg
  all_goals repeat' (first | (exact cN) | (exact cK) | (exact bin1000 _ (by omega) _) | (apply sx_ke (R := R) (ih _ _ _ _ _ _ _); case hk => repeat' constructor) | (intro h; exfalso; have h2 := dec_ne h; omega) | (exact Env.le_nil) | (refine Env.le_cons rfl ?_) | (refine Env.le_cons (congrArg (fun z => some (Value.int .i64 z)) (wi_snoc _ _ (by omega))) ?_) | (exact ⟨rep_snoc hx.1, by simp; omega⟩) | ((simp only [List.length_append, List.length_cons, List.length_nil]; omega)) | constructor | (refine CallS.of sp_ex .nil ?_; rintro _ _ ⟨rfl, rfl⟩) | (refine CallS.of (sp_thing _ _ _ _ _) .nil ?_; rintro _ _ ⟨rfl, rfl⟩) | (refine sx_loop_ptrs (t1 := 5) (t2 := 10) (t3 := 11) (t4 := 12) rfl rfl rfl rfl (fun l => k - l.length) (fun b5 b10 b11 b12 l => [(13, .int .i64 (l.length : Int)), (9, .int .i64 (k : Int)), (8, .int .i64 (n : Int)), (7, .bool true), (5, .pointer (some ⟨b5, 0, none⟩)), (10, .pointer (some ⟨b10, 0, none⟩)), (11, .pointer (some ⟨b11, 0, none⟩)), (12, .pointer (some ⟨b12, 0, none⟩))]) (fun b5 b10 b11 b12 l a m a2 m2 => [blk b11 [.int .i64 1, .int .i64 1, .int .u32 0, .int .i64 2, .int .u32 0, .int .u16 0, cx 0 0, .bool false, str [], .slice a l.length m] 35, blk b12 [.int .i64 15, .int .i64 1, .int .u32 0, .int .i64 0, .int .u32 0, .int .u16 0, cx 0 0, .bool false, str [], .slice a2 l.length m2] 35, sls 27 5 a m l, sls 27 5 a2 m2 l, blk b10 [.int .i64 5, .int .i64 1, .int .u32 0, .int .i64 2, .int .u32 0, .int .u16 0, cx 0 0, .bool false, str (List.replicate n 0), .slice none 0 0] 35, blk b5 [.int .i64 id, .int .i64 st, .int .u32 inc, .int .u32 ip, .int .u16 port, .bool true] 29] ++ R) (fun l => l = List.replicate l.length (Rec.cells (thingRec id st inc ip)) ∧ l.length ≤ k) ⟨rfl, Nat.zero_le _⟩ (fun h => sx_sls0 27 5 (sx_sls0 27 5 (sx_keep (R := R) ?_ (sx_env ?_ h)))) (fun l a m a2 m2 hx ih => ?_)) | (refine CallS.of (sp_PutA n (by omega)) .nil ?_; rintro _ _ ⟨rfl, rfl⟩) | (refine CallS.of (sp_PutB _ _ _ _ (thing_right id st inc ip hip) hx.1 (by omega)) (by repeat' constructor) ?_; rintro _ _ ⟨rfl, rfl⟩) | (refine CallS.of (sp_PutC _ _ _ _ (thing_right id st inc ip hip) hx.1 (by omega)) (by repeat' constructor) ?_; rintro _ _ ⟨rfl, rfl⟩) | (refine CallS.of (sp_GetS n hg) .nil ?_; rintro _ _ ⟨rfl, rfl⟩) | (refine CallS.of (sp_GetZ n hg) .nil ?_; rintro _ _ ⟨rfl, rfl⟩) | (refine so_it ?_) | (refine sx_goto rfl ?_) | (refine sx_drawn mixed ⟨by kernel_rfl, by kernel_rfl⟩ (fun hD => ?_)) | (refine sx_it ?_) | (refine sa_step hD ?_) | (refine catOk ?_; simp; (try omega); done) | (intro h; first | (exfalso; simp at h; (try omega); done) | (try simp only [Bool.not_true, Bool.not_false, decide_eq_true_eq, decide_eq_false_iff_not, beq_iff_eq, bne_iff_ne, beq_eq_false_iff_ne, Int.not_lt, Int.not_le] at h)) | assumption | omega)
  all_goals rfl
end Go.Proofs
