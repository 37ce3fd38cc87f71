/-
  'scuttlebuttlaw06.WireLimits' returns true for every input, and each argument reads as it did. No condition.
-/
import Derived.Test.YtdelnmihgckeeaaRows
import Derived.Test.YtdelnmihgckeeaaWl
import Derived.WalkKit
import Derived.ProofKit
import Derived.OpenShut
import Derived.Deep.Modes
namespace Go.Proofs.Ytdelnmihgckeeaa
open Go.ChangeShapes Go.WideShapes Go.ChangeAt Go.RowKit
open Go.Sl
set_option linter.unusedSimpArgs false
set_option linter.unusedVariables false

theorem wl_own : ownKnob Try.prog.godebug = none := by kernel_rfl
theorem wl_laidOut : laidOutB Try.prog = true := by kernel_rfl

/-- what lies ahead of a call lies there behind it -/
theorem calls_kept {P : Program} {f : FuncId} {args : List Value} {v : Value} (h : Spec1 P f args [] v []) (W : World) :
    Calls P f args.toArray W fun e W' => e = .returned v ∧ W.keptBut W' (fun _ => False) := by
  refine (h W [whole W] (Sat.whole W)).mono fun e W' ⟨u, H', he, ⟨hu, hH⟩, hs⟩ => ?_
  subst hu hH
  obtain ⟨h1, h2, h3⟩ := Sat.kept hs
  refine ⟨he, h2, h3, fun i hi => ?_⟩
  obtain ⟨o, hget⟩ : ∃ o, W.heap[i]? = some o := ⟨_, Array.getElem?_eq_getElem hi⟩
  rw [hget, h1 i o hget]
  cases o with
  | cells c t fr => exact ⟨rfl, rfl, rfl, fun _ _ => rfl⟩
  | map es clock => exact .inr ⟨rfl, rfl⟩
  | _ => rfl

theorem wl_cells29 : Try.prog.cellsOf 29 = 6 := by kernel_rfl
theorem wl_cells27 : Try.prog.cellsOf 27 = 5 := by kernel_rfl
theorem wl_cells25 : Try.prog.cellsOf 25 = 2 := by kernel_rfl
theorem wl_cells23 : Try.prog.cellsOf 23 = 1 := by kernel_rfl
theorem wl_cells22 : Try.prog.cellsOf 22 = 1 := by kernel_rfl
theorem wl_cells3 : Try.prog.cellsOf 3 = 1 := by kernel_rfl
theorem wl_cells4 : Try.prog.cellsOf 4 = 1 := by kernel_rfl

/-- a Thing, opened -/
theorem open_thing {H : Type} {enc : TypeId × Value → H} {W : World} {base b0 : Nat} {sp : Nat → Bool} {hd : Bool} {v : Value} {d : DataW H} {ps : List MemPlace}
    (hv : Value.okWide Try.prog W .any b0 29 v) (h : DataW.Trod enc Try.prog W base sp hd 29 v d ps) :
    ∃ id st inc ip port own, v = .agg ⟨[.int .i64 id, .int .i64 st, .int .u32 inc, .int .u32 ip, .int .u16 port, .bool own]⟩ ∧ 0 ≤ ip ∧ ps = [] := by
  obtain ⟨cs, rfl, hsz⟩ := okWide_struct Try.underlying29 hv
  rw [wl_cells29] at hsz
  obtain ⟨l⟩ := cs
  match l, hsz with
  | [c0, c1, c2, c3, c4, c5], _ =>
  obtain ⟨fuel, hf⟩ := h
  obtain ⟨y0, y1, m, hx, _, hy0, hy1⟩ := trod_struct2 Try.underlying29 hf
  obtain ⟨xs, m2, _, hx0, hl0, hlen0, hf0⟩ := DataW.trod_struct Try.underlying27 hy0
  match xs, hlen0 with
  | [z0, z1, z2, z3], _ =>
  have g0 := hf0 0 _ rfl
  have g1 := hf0 1 _ rfl
  have g2 := hf0 2 _ rfl
  have g3 := hf0 3 _ rfl
  obtain ⟨a0, a1, m3, hx3, _, ha0, ha1⟩ := trod_struct2 Try.underlying25 g3
  obtain ⟨id, e0, rfl, _⟩ := DataW.trod_int Try.underlying3 g0
  obtain ⟨st, e1, rfl, _⟩ := DataW.trod_int Try.underlying3 g1
  obtain ⟨inc, e2, rfl, _⟩ := DataW.trod_int Try.underlying23 g2
  obtain ⟨ip, e3, rfl, wip⟩ := DataW.trod_int Try.underlying23 ha0
  obtain ⟨port, e4, rfl, _⟩ := DataW.trod_int Try.underlying22 ha1
  obtain ⟨own, e5, rfl⟩ := DataW.trod_bool Try.underlying4 hy1
  simp [Value.cells, wl_cells27, wl_cells25, wl_cells3, wl_cells23, wl_cells22, wl_cells4] at e0 e1 e2 e3 e4 e5
  subst e0 e1 e2 e3 e4 e5
  subst hx0 hx3
  simp at hx
  have hb : 0 ≤ ip ∧ ip ≤ 4294967295 := by simpa [Lit.wf, IntKind.min, IntKind.max, IntKind.signed, IntKind.bits] using wip
  exact ⟨id, st, inc, ip, port, own, rfl, hb.1, hx.2⟩

set_option maxRecDepth 100000 in
theorem wl_lifted (os : Os) (started : os.Started) (H : Type) (enc : TypeId × Value → H) :
    ReturnsInHanded {} Try.checked os 3 .any (Rows.wireLimitsSpec.pre6 enc Try.prog Try.f3 Rows.wireLimitsRow.domain false) (Rows.wireLimitsSpec.post enc Try.prog Try.f3 false true false false) := by
  refine returnsInHanded_of_change (C := Try.checked) wl_own started (by kernel_rfl) Try.func3
    (ChangeSpec.witness6 (enc := enc) (C := Try.checked) false ⟨#[], #[.int .u16 0, .int .u8 0, .agg #[.int .i64 0, .int .i64 0, .int .u32 0, .int .u32 0, .int .u16 0, .bool false]], []⟩ 8 (by kernel_rfl) (by kernel_rfl) (by kernel_rfl) (by kernel_rfl)) ?_
  intro W base args ds gs before hval0 hW _ _
  have hval : ∀ (j : Nat) t v, Try.f3.params[j]? = some t → args[j]? = some v → Value.okWide Try.prog W .any base t v := hval0
  have hW' := hW
  obtain ⟨p, q, hA0, hV, rfl, _, _⟩ := hW
  have hA : DataW.TrodAll enc Try.prog W 0 (fun _ => true) true Try.f3.params.toList args.toList ds p := hA0
  rw [Try.params3] at hA hval
  obtain ⟨v0, vs0, d0, ds0, p0, q0, hargs, rfl, rfl, h0, r0⟩ := trodAll_cons hA
  obtain ⟨v1, vs1, d1, ds1, p1, q1, rfl, rfl, rfl, h1, r1⟩ := trodAll_cons r0
  obtain ⟨v2, vs2, d2, ds2, p2, q2, rfl, rfl, rfl, h2, r2⟩ := trodAll_cons r1
  obtain ⟨rfl, rfl, rfl⟩ := trodAll_nil r2
  obtain rfl : args = #[v0, v1, v2] := by cases args; simp_all
  obtain ⟨rfl, rfl⟩ := trodVars_none hV
  obtain ⟨size, rfl, rfl, rfl, w0⟩ := open_int Try.underlying22 (hval 0 22 v0 rfl rfl) h0
  obtain ⟨many, rfl, rfl, rfl, w1⟩ := open_int Try.underlying5 (hval 1 5 v1 rfl rfl) h1
  obtain ⟨id, st, inc, ip, port, own, rfl, hip, rfl⟩ := open_thing (hval 2 29 v2 rfl rfl) h2
  clear hA0 hval0
  simp only [List.append_nil] at hW'
  have b0 : 0 ≤ size ∧ size ≤ 65535 := by simpa [Lit.wf, IntKind.min, IntKind.max, IntKind.signed, IntKind.bits] using w0
  have b1 : 0 ≤ many ∧ many ≤ 255 := by simpa [Lit.wf, IntKind.min, IntKind.max, IntKind.signed, IntKind.bits] using w1
  have e0 : size.tmod 1100 = size % 1100 := Int.tmod_eq_emod_of_nonneg b0.1
  have e1 : many.tmod 40 = many % 40 := Int.tmod_eq_emod_of_nonneg b1.1
  have walk := sp_WL size many id st inc ip port own hip (size % 1100).toNat (many % 40).toNat (by rw [e0, wi _ (by omega) (by omega)]; omega) (by rw [e1, wi _ (by omega) (by omega)]; omega) (by omega) (by omega)
  refine (calls_kept walk W).mono fun e W' ⟨he, hk⟩ => ?_
  subst he
  exact ⟨_, rfl, _, _, _, [], [], [], hW', trodAll_mk1 (shut_bool Try.underlying4 _), (trodAll_cons_mk (shut_int Try.underlying22 w0) (trodAll_cons_mk (shut_int Try.underlying5 w1) (trodAll_cons_mk (Trod_any wl_laidOut (by kernel_rfl) (of_decide_eq_true (by kernel_rfl)) (by kernel_rfl) (by kernel_rfl) h2 (fun p hp => by cases hp)) trodAll_mk0))), rfl,
    World.keptBut_mono (fun _ f => f.elim) hk, fun h => by cases h⟩

theorem wireLimits_holds : Rows.WireLimitsSaid :=
  OpenClaim.holds_of_wide 3 Try.f3 rfl rfl rfl rfl rfl rfl rfl ⟨rfl, rfl, rfl, rfl, rfl⟩ rfl rfl rfl rfl rfl (by kernel_rfl) Try.func3 (by kernel_rfl)
    (of_decide_eq_true (by kernel_rfl)) (by unfold Func.isWrapper; first | (rw [if_pos (by decide +kernel)]; kernel_rfl) | (rw [if_neg (by decide +kernel)]; exact ⟨rfl, rfl⟩))
    (fun os started H enc _ => wl_lifted os started H enc)
end Go.Proofs.Ytdelnmihgckeeaa
