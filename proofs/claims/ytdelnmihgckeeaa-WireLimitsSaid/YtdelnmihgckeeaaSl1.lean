/- Separation logic over the model's heap: partial heaps, the star of a list of assertions, what a new block, a store and a look leave of it. No condition: these are plain lemmas on the model's worlds. -/
import Derived.WalkKit
namespace Go.Sl
set_option linter.unusedSimpArgs false
set_option linter.unusedVariables false

/-- what a world has beside its heap and its draws -/
abbrev Side := Os × Array (Nat × ByteArray)
/-- some blocks; at 'none': what the world has beside -/
abbrev PHeap := Option Nat → Option (Obj ⊕ Side)
abbrev HProp := PHeap → Prop

def PHeap.In (h : PHeap) (w : World) : Prop := (∀ b x, h (some b) = some x → (w.heap[b]?).map Sum.inl = some x) ∧ (∀ x, h none = some x → x = .inr (w.os, w.output))
/-- the heap is as long as it was, and beside it all is as it was -/
def Alike (w w' : World) : Prop := w'.heap.size = w.heap.size ∧ w'.os = w.os ∧ w'.output = w.output
def Sat (w : World) (P : HProp) : Prop := ∃ h, P h ∧ PHeap.In h w

def emp : HProp := fun h => ∀ b, h b = none
def pt (b : Nat) (o : Obj) : HProp := fun h => ∀ c, h c = if c = some b then some (.inl o) else none
/-- all that a world has -/
def whole (w : World) : HProp := fun h => (∀ b : Nat, h (some b) = (w.heap[b]?).map Sum.inl) ∧ h none = some (.inr (w.os, w.output))
def star (P Q : HProp) : HProp := fun h => ∃ h1 h2, P h1 ∧ Q h2 ∧ (∀ b, h1 b = none ∨ h2 b = none) ∧ (∀ b, h b = (h1 b).or (h2 b))
/-- the star of a list -/
def sl : List HProp → HProp
  | [] => emp
  | P :: l => star P (sl l)
def pur (p : Prop) : HProp := fun h => p ∧ emp h
def exh {α : Type} (P : α → HProp) : HProp := fun h => ∃ a, P a h

theorem star_comm {P Q : HProp} {h : PHeap} (H : star P Q h) : star Q P h := by
  obtain ⟨h1, h2, hp, hq, hd, hu⟩ := H
  refine ⟨h2, h1, hq, hp, fun b => (hd b).symm, fun b => ?_⟩
  rw [hu b]
  rcases hd b with e | e <;> rw [e] <;> simp
theorem star_assoc {P Q R : HProp} {h : PHeap} (H : star P (star Q R) h) : star (star P Q) R h := by
  obtain ⟨h1, h2, hp, ⟨h3, h4, hq, hr, hd', hu'⟩, hd, hu⟩ := H
  have k : ∀ b, h1 b = none ∨ (h3 b = none ∧ h4 b = none) := by
    intro b
    rcases hd b with e | e
    · exact .inl e
    · refine .inr ?_
      rw [hu' b] at e
      cases e3 : h3 b <;> cases e4 : h4 b <;> simp [e3, e4] at e ⊢
  refine ⟨fun b => (h1 b).or (h3 b), h4, ⟨h1, h3, hp, hq, fun b => (k b).imp id And.left, fun b => rfl⟩, hr, fun b => ?_, fun b => ?_⟩
  · show (h1 b).or (h3 b) = none ∨ h4 b = none
    rcases k b with e | e
    · rcases hd' b with e' | e'
      · left; simp [e, e']
      · exact .inr e'
    · exact .inr e.2
  · show h b = ((h1 b).or (h3 b)).or (h4 b)
    rw [hu b, hu' b]
    cases h1 b <;> simp
theorem star_mono {P P' Q Q' : HProp} {h : PHeap} (hP : ∀ h, P h → P' h) (hQ : ∀ h, Q h → Q' h) (H : star P Q h) : star P' Q' h := by
  obtain ⟨h1, h2, hp, hq, r⟩ := H
  exact ⟨h1, h2, hP _ hp, hQ _ hq, r⟩
theorem star_assoc' {P Q R : HProp} {h : PHeap} (H : star (star P Q) R h) : star P (star Q R) h :=
  star_mono (fun _ x => x) (fun _ => star_comm) (star_comm (star_assoc (star_mono (fun _ x => x) (fun _ => star_comm) (star_comm H))))
theorem star_swap {P Q R : HProp} {h : PHeap} (H : star P (star Q R) h) : star Q (star P R) h :=
  star_assoc' (star_mono (fun _ => star_comm) (fun _ x => x) (star_assoc H))
theorem star_emp_r {P : HProp} {h : PHeap} (H : star P emp h) : P h := by
  obtain ⟨h1, h2, hp, hq, _, hu⟩ := H
  have : h = h1 := funext fun b => by rw [hu b, hq b]; simp
  rw [this]; exact hp
theorem star_emp_r' {P : HProp} {h : PHeap} (H : P h) : star P emp h :=
  ⟨h, fun _ => none, H, fun _ => rfl, fun _ => .inr rfl, fun b => by simp⟩

theorem sl_perm {l l' : List HProp} (hp : l.Perm l') : ∀ h, sl l h → sl l' h := by
  induction hp with
  | nil => exact fun _ H => H
  | cons x _ ih => exact fun h H => star_mono (fun _ x => x) ih H
  | swap x y l => exact fun h H => star_swap H
  | trans _ _ i1 i2 => exact fun h H => i2 h (i1 h H)
theorem sl_append {l l' : List HProp} : ∀ h, sl (l ++ l') h ↔ star (sl l) (sl l') h := by
  induction l with
  | nil => exact fun h => ⟨fun H => star_comm (star_emp_r' H), fun H => star_emp_r (star_comm H)⟩
  | cons p l ih =>
    exact fun h => ⟨fun H => star_assoc (star_mono (fun _ x => x) (fun h => (ih h).1) H),
      fun H => star_mono (fun _ x => x) (fun h => (ih h).2) (star_assoc' H)⟩

theorem PHeap.In.lt {h : PHeap} {w : World} (H : h.In w) {b : Nat} {x : Obj ⊕ Side} (e : h (some b) = some x) : b < w.heap.size := by
  have := H.1 b x e
  cases hw : w.heap[b]? with
  | none => rw [hw] at this; cases this
  | some o => exact (Array.getElem?_eq_some_iff.1 hw).1
theorem PHeap.In.sub {h h' : PHeap} {w : World} (H : h.In w) (hs : ∀ b x, h' b = some x → h b = some x) : h'.In w :=
  ⟨fun b x e => H.1 b x (hs _ _ e), fun x e => H.2 x (hs _ _ e)⟩

theorem Sat.mono {w : World} {P Q : HProp} (H : Sat w P) (h : ∀ x, P x → Q x) : Sat w Q := let ⟨x, a, b⟩ := H; ⟨x, h x a, b⟩
theorem Sat.perm {w : World} {l l' : List HProp} (H : Sat w (sl l)) (hp : l.Perm l') : Sat w (sl l') := H.mono (sl_perm hp)
theorem Sat.right {w : World} {P Q : HProp} (H : Sat w (star P Q)) : Sat w Q := by
  obtain ⟨h, ⟨h1, h2, _, hq, hd, hu⟩, hi⟩ := H
  refine ⟨h2, hq, hi.sub fun b o e => ?_⟩
  rw [hu b]
  rcases hd b with e1 | e1
  · simp [e1, e]
  · simp [e1] at e
theorem Sat.heap {w w' : World} {P : HProp} (H : Sat w P) (e : w'.heap = w.heap) (e2 : w'.os = w.os) (e3 : w'.output = w.output) : Sat w' P := by
  obtain ⟨h, a, b⟩ := H
  exact ⟨h, a, ⟨fun c o e' => by rw [e]; exact b.1 c o e', fun x e' => by rw [e2, e3]; exact b.2 x e'⟩⟩
theorem Sat.look {w : World} {b : Nat} {o : Obj} {R : HProp} (H : Sat w (star (pt b o) R)) : w.heap[b]? = some o := by
  obtain ⟨h, ⟨h1, h2, hp, _, _, hu⟩, hi⟩ := H
  have := hi.1 b (.inl o) (by rw [hu (some b), hp (some b)]; simp)
  cases hw : w.heap[b]? with
  | none => rw [hw] at this; cases this
  | some o' => rw [hw] at this; simp at this; rw [this]
theorem Sat.push {w w' : World} {P : HProp} {o : Obj} (H : Sat w P) (e : w'.heap = w.heap.push o) (e2 : w'.os = w.os) (e3 : w'.output = w.output) : Sat w' (star (pt w.heap.size o) P) := by
  obtain ⟨h, a, hi⟩ := H
  have hn : h (some w.heap.size) = none := by
    cases hc : h (some w.heap.size) with
    | none => rfl
    | some x => exact absurd (PHeap.In.lt hi hc) (Nat.lt_irrefl _)
  refine ⟨fun b => if b = some w.heap.size then some (.inl o) else h b, ⟨fun c => if c = some w.heap.size then some (.inl o) else none, h, fun _ => rfl, a, fun b => ?_, fun b => ?_⟩, fun b x hb => ?_, fun x hb => ?_⟩
  · by_cases hb : b = some w.heap.size
    · right; rw [hb]; exact hn
    · left; simp [hb]
  · by_cases hb : b = some w.heap.size
    · simp [hb]
    · simp [hb]
  · rw [e]
    by_cases hb' : b = w.heap.size
    · subst hb'; simp at hb; subst hb; simp
    · simp [hb'] at hb
      have := PHeap.In.lt hi hb
      rw [Array.getElem?_push, if_neg (by omega)]
      exact hi.1 b x hb
  · rw [e2, e3]
    exact hi.2 x (by simpa using hb)
theorem Sat.put {w w' : World} {b : Nat} {o o' : Obj} {R : HProp} (H : Sat w (star (pt b o) R)) (hs : Alike w w')
    (hb : w'.heap[b]? = some o') (hn : ∀ c, c ≠ b → w'.heap[c]? = w.heap[c]?) : Sat w' (star (pt b o') R) := by
  obtain ⟨h, ⟨h1, h2, hp, hq, hd, hu⟩, hi⟩ := H
  have h2b : h2 (some b) = none := by
    rcases hd (some b) with e | e
    · rw [hp (some b)] at e; simp at e
    · exact e
  refine ⟨fun c => if c = some b then some (.inl o') else h c, ⟨fun c => if c = some b then some (.inl o') else none, h2, fun _ => rfl, hq, fun c => ?_, fun c => ?_⟩, fun c x hc => ?_, fun x hc => ?_⟩
  · by_cases e : c = some b
    · right; rw [e]; exact h2b
    · left; simp [e]
  · by_cases e : c = some b
    · simp [e]
    · simp [e, hu c, hp c]
  · by_cases e : c = b
    · subst e; simp at hc; subst hc; rw [hb]; rfl
    · simp [e] at hc; rw [hn c e]; exact hi.1 c x hc
  · rw [hs.2.1, hs.2.2]
    exact hi.2 x (by simpa using hc)
theorem Sat.whole (w : World) : Sat w (sl [whole w]) :=
  ⟨fun b => match b with | some b => (w.heap[b]?).map Sum.inl | none => some (.inr (w.os, w.output)), star_emp_r' ⟨fun _ => rfl, rfl⟩, fun b x e => e, fun x e => (Option.some.inj e).symm⟩
/-- all that was is there still -/
theorem Sat.kept {w w' : World} (h : Sat w' (sl [Sl.whole w])) : (∀ (b : Nat) (o : Obj), w.heap[b]? = some o → w'.heap[b]? = some o) ∧ w'.os = w.os ∧ w'.output = w.output := by
  obtain ⟨h, hp, hi⟩ := h
  have hw := star_emp_r hp
  refine ⟨fun b o e => ?_, ?_⟩
  · have := hi.1 b (.inl o) (by rw [hw.1 b, e]; rfl)
    cases hw : w'.heap[b]? with
    | none => rw [hw] at this; cases this
    | some o' => rw [hw] at this; simp at this; rw [this]
  · have := hi.2 _ hw.2
    simp at this
    exact ⟨this.1.symm, this.2.symm⟩
end Go.Sl
