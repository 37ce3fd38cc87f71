/- The letters of a string that is ranged over; loops at a known temporary; less of the heap; a slice that may be nil. -/
import Derived.Test.YtdelnmihgckeeaaSl7
import Derived.KernelRfl
namespace Go.Sl

theorem sx_loop_if {P : Program} {n : Nat} {τ : Env} {H : List HProp} {K : Cont} {it : List Item} {c : Code} (t : Nat) (v : Value) (_hv : lk τ t = some v) {ι : Type} (μ : ι → Nat) (T : ι → Env) (G : ι → List HProp) (J : ι → Prop) (i0 : ι) (hJ : J i0)
    (h0 : SX P n K (.code c :: .inLoop c :: it) (T i0) (G i0) → SX P n K (.code c :: .inLoop c :: it) τ H)
    (hr : ∀ i, J i → (∀ j, J j → μ j < μ i → SX P n K (.inLoop c :: it) (T j) (G j)) → SX P n K (.code c :: .inLoop c :: it) (T i) (G i)) :
    SX P n K (.code (.loop c) :: it) τ H := sx_loop μ T G J i0 hJ h0 hr

/-- some of what is there, ahead of the rest R -/
inductive Keep (R : List HProp) : List HProp → List HProp → Prop
  | done {H} : Tl H R → Keep R H R
  | take {H c H1 T} : Take H c H1 → Keep R H1 T → Keep R H (c :: T)
theorem Keep.sat {R H T : List HProp} (h : Keep R H T) : ∀ {w : World} {F : HProp}, Sat w (star F (sl H)) → Sat w (star F (sl T)) := by
  induction h with
  | done h => exact fun hs => h.sat hs
  | @take H c H1 T h1 _ ih =>
    intro w F hs
    have h2 : Sat w (star F (sl (c :: H1))) := hs.mono fun _ => star_mono (fun _ x => x) (sl_perm h1.perm)
    have h3 := ih (F := star F c) (h2.mono fun _ => star_assoc)
    exact h3.mono fun _ => star_assoc'
theorem sx_keep {P : Program} {n : Nat} {τ : Env} {H : List HProp} {K : Cont} {it : List Item} {R T : List HProp} (hk : Keep R H T) (h : SX P n K it τ T) : SX P n K it τ H := fun a w ht hs b cs =>
  h a w ht ((hk.sat (F := emp) (hs.mono fun _ x => star_comm (star_emp_r' x))).mono fun _ x => star_emp_r (star_comm x)) b cs
/-- some temporaries, as they are -/
inductive KeepE (τ : Env) : List Nat → Env → Prop
  | nil : KeepE τ [] []
  | cons {k v ks τ'} : lk τ k = some v → KeepE τ ks τ' → KeepE τ (k :: ks) ((k, v) :: τ')
theorem KeepE.le {τ τ' : Env} {ks : List Nat} (h : KeepE τ ks τ') : Env.le τ' τ := by
  induction h with
  | nil => exact Env.le_nil
  | cons h1 _ ih => exact Env.le_cons h1 ih
theorem Env.le_app {U τ' τ : Env} (h1 : Env.le U τ) (h2 : Env.le τ' τ) : Env.le (U ++ τ') τ := fun i v => by
  induction U with
  | nil => exact h2 i v
  | cons x U ih =>
    obtain ⟨k, u⟩ := x
    intro h
    simp only [List.cons_append, lk] at h
    cases hb : Nat.beq k i with
    | true =>
      rw [hb] at h
      exact h1 i v (by simp only [lk, hb]; exact h)
    | false =>
      rw [hb] at h
      by_cases hu : ∃ z, lk U i = some z
      · obtain ⟨z, hz⟩ := hu
        have hap : lk (U ++ τ') i = lk U i := by
          clear ih h h1
          induction U with
          | nil => simp [lk] at hz
          | cons y U ih2 =>
            obtain ⟨k2, u2⟩ := y
            simp only [List.cons_append, lk] at hz ⊢
            cases hb2 : Nat.beq k2 i with
            | true => rfl
            | false => rw [hb2] at hz; exact ih2 hz
        have h' : lk U i = some v := by rw [← hap]; exact h
        exact h1 i v (by simp only [lk, hb]; exact h')
      · have hap : lk (U ++ τ') i = lk τ' i := by
          have hn : lk U i = none := by cases hx : lk U i with
            | none => rfl
            | some z => exact absurd ⟨z, hx⟩ hu
          clear ih h h1 hu
          induction U with
          | nil => rfl
          | cons y U ih2 =>
            obtain ⟨k2, u2⟩ := y
            simp only [List.cons_append, lk] at hn ⊢
            cases hb2 : Nat.beq k2 i with
            | true => rw [hb2] at hn; simp at hn
            | false => rw [hb2] at hn; exact ih2 hn
        have h' : lk (U ++ τ') i = some v := h
        rw [hap] at h'
        exact h2 i v h'
theorem sx_loop_keep {P : Program} {n : Nat} {τ : Env} {H : List HProp} {K : Cont} {it : List Item} {c : Code} (ks : List Nat) (t : Nat) (v : Value) (_hv : lk τ t = some v) {τ' : Env} (hk : KeepE τ ks τ')
    {ι : Type} (μ : ι → Nat) (U : ι → Env) (J : ι → Prop) (i0 : ι) (hJ : J i0) (h0 : Env.le (U i0) τ)
    (hr : ∀ i, J i → (∀ j, J j → μ j < μ i → SX P n K (.inLoop c :: it) (U j ++ τ') H) → SX P n K (.code c :: .inLoop c :: it) (U i ++ τ') H) :
    SX P n K (.code (.loop c) :: it) τ H := sx_loop μ (fun i => U i ++ τ') (fun _ => H) J i0 hJ (sx_env (Env.le_app h0 hk.le)) hr

/-- a nil slice of the program's own, out of nothing -/
theorem sx_sls0 {P : Program} {n : Nat} {τ : Env} {H : List HProp} {K : Cont} {it : List Item} (T s : Nat) (h : SX P n K it τ (sls T s none 0 [] :: H)) : SX P n K it τ H := fun a w ht hs b cs =>
  h a w ht (hs.mono fun _ hx => star_comm (star_mono (fun _ y => y) (fun _ y => .inl ⟨rfl, rfl, rfl, y⟩) (star_emp_r' hx))) b cs
theorem spec_sls {P : Program} {f : FuncId} {args : List Value} {T s : Nat} {a : Option Addr} {c : Nat} {l : List (List Value)} {v : Value}
    (h0 : a = none → c = 0 → l = [] → Spec1 P f args [] v [])
    (h1 : ∀ b p pre post, a = some ⟨b, p, none⟩ → Spec1 P f args [arr b T p l.length s pre l post] v [arr b T p l.length s pre l post]) :
    Spec1 P f args [sls T s a c l] v [sls T s a c l] := by
  intro w R hs
  obtain ⟨h, ⟨x, y, hx, hy, hd, hu⟩, hin⟩ := hs
  rcases hx with ⟨e1, e2, e3, he⟩ | ⟨b, p, pre, post, e1, hle, hpost, hone, ha⟩
  · have hs0 : Sat w (star emp (sl ([] ++ R))) := ⟨h, ⟨x, y, he, hy, hd, hu⟩, hin⟩
    have hs' : Sat w (sl ([] ++ R)) := Sat.mono hs0 fun _ z => star_emp_r (star_comm z)
    refine (h0 e1 e2 e3 w R hs').mono fun e w' ⟨u, H', he', ⟨hu', hH⟩, hs2⟩ => ⟨u, _, he', ⟨hu', rfl⟩, ?_⟩
    subst hH
    exact hs2.mono fun z hz => star_comm (star_mono (fun _ y => y) (fun _ y => .inl ⟨e1, e2, e3, y⟩) (star_emp_r' hz))
  · have hs' : Sat w (sl ([arr b T p l.length s pre l post] ++ R)) := ⟨h, ⟨x, y, ha, hy, hd, hu⟩, hin⟩
    refine (h1 b p pre post e1 w R hs').mono fun e w' ⟨u, H', he', ⟨hu', hH⟩, hs2⟩ => ⟨u, _, he', ⟨hu', rfl⟩, ?_⟩
    subst hH
    exact hs2.mono fun z hz => star_mono (fun _ y => .inr ⟨b, p, pre, post, e1, hle, hpost, hone, y⟩) (fun _ y => y) hz

abbrev nxT (i c : Int) : Value := .tuple ⟨[.bool true, .int .i64 i, .int .i32 c]⟩
abbrev nxF : Value := .tuple ⟨[.bool false]⟩
theorem nx0 : strNext ⟨⟨[]⟩⟩ 0 = (nxF, 0) := by kernel_rfl
theorem nx_nr0 : strNext ⟨⟨[110, 114]⟩⟩ 0 = (nxT 0 110, 1) := by kernel_rfl
theorem nx_nr1 : strNext ⟨⟨[110, 114]⟩⟩ 1 = (nxT 1 114, 2) := by kernel_rfl
theorem nx_nr2 : strNext ⟨⟨[110, 114]⟩⟩ 2 = (nxF, 2) := by kernel_rfl
theorem nx_pr0 : strNext ⟨⟨[112, 114]⟩⟩ 0 = (nxT 0 112, 1) := by kernel_rfl
theorem nx_pr1 : strNext ⟨⟨[112, 114]⟩⟩ 1 = (nxT 1 114, 2) := by kernel_rfl
theorem nx_pr2 : strNext ⟨⟨[112, 114]⟩⟩ 2 = (nxF, 2) := by kernel_rfl
theorem nx_nb0 : strNext ⟨⟨[110, 98]⟩⟩ 0 = (nxT 0 110, 1) := by kernel_rfl
theorem nx_nb1 : strNext ⟨⟨[110, 98]⟩⟩ 1 = (nxT 1 98, 2) := by kernel_rfl
theorem nx_nb2 : strNext ⟨⟨[110, 98]⟩⟩ 2 = (nxF, 2) := by kernel_rfl
theorem nx_fr0 : strNext ⟨⟨[102, 114]⟩⟩ 0 = (nxT 0 102, 1) := by kernel_rfl
theorem nx_fr1 : strNext ⟨⟨[102, 114]⟩⟩ 1 = (nxT 1 114, 2) := by kernel_rfl
theorem nx_fr2 : strNext ⟨⟨[102, 114]⟩⟩ 2 = (nxF, 2) := by kernel_rfl
end Go.Sl
