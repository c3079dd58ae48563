/- Blocks of a graph, in plain words: what hangs together, which edges are in one block. -/
namespace Go.Blk
set_option linter.unusedVariables false

/-- Edge i joins a and b. -/
def J (es : List (Nat × Nat)) (i a b : Nat) : Prop := i < es.length ∧ (es.getD i (0, 0) = (a, b) ∨ es.getD i (0, 0) = (b, a))
theorem J.symm {es : List (Nat × Nat)} {i a b : Nat} (h : J es i a b) : J es i b a := ⟨h.1, h.2.symm⟩
theorem J.ends {es : List (Nat × Nat)} {i a b c d : Nat} (h : J es i a b) (h' : J es i c d) : (c = a ∧ d = b) ∨ (c = b ∧ d = a) := by
  obtain ⟨_, h⟩ := h
  obtain ⟨_, h'⟩ := h'
  rcases h with h | h <;> rcases h' with h' | h' <;> (rw [h] at h'; simp only [Prod.mk.injEq] at h'; omega)

/-- What hangs together, along edges of F, through vertices of S. -/
inductive Cn (es : List (Nat × Nat)) (F S : Nat → Prop) : Nat → Nat → Prop
  | refl {a : Nat} : S a → Cn es F S a a
  | step {a b c i : Nat} : S a → F i → J es i a b → Cn es F S b c → Cn es F S a c

section
variable {es : List (Nat × Nat)} {F F' S S' : Nat → Prop} {a b c i k v x : Nat}
theorem Cn.left (h : Cn es F S a b) : S a := by cases h <;> assumption
theorem Cn.right (h : Cn es F S a b) : S b := by induction h <;> assumption
theorem Cn.trans (h : Cn es F S a b) (h' : Cn es F S b c) : Cn es F S a c := by
  induction h with
  | refl _ => exact h'
  | step h1 h2 h3 _ ih => exact .step h1 h2 h3 (ih h')
theorem Cn.one (ha : S a) (hb : S b) (hi : F i) (hj : J es i a b) : Cn es F S a b := .step ha hi hj (.refl hb)
theorem Cn.symm (h : Cn es F S a b) : Cn es F S b a := by
  induction h with
  | refl h => exact .refl h
  | step h1 h2 h3 h4 ih => exact ih.trans (.one h4.left h1 h2 h3.symm)
theorem Cn.mono (h : Cn es F S a b) (hF : ∀ i, F i → F' i) (hS : ∀ v, S v → S' v) : Cn es F' S' a b := by
  induction h with
  | refl h => exact .refl (hS _ h)
  | step h1 h2 h3 _ ih => exact .step (hS _ h1) (hF _ h2) h3 ih
/-- What is shut under going along edges holds to the end. -/
theorem Cn.closed {N : Nat → Prop} (h : Cn es F S a b) (hN : ∀ i u z, N u → S u → S z → F i → J es i u z → N z) (ha : N a) : N b := by
  induction h with
  | refl _ => exact ha
  | step h1 h2 h3 h4 ih => exact ih (hN _ _ _ ha h1 h4.left h2 h3)

/-- Two edges at a vertex, whose other ends hang together without it. -/
def R (es : List (Nat × Nat)) (i k : Nat) : Prop := ∃ v a b, J es i v a ∧ J es k v b ∧ Cn es (fun _ => True) (fun z => z ≠ v) a b
theorem R.symm (h : R es i k) : R es k i := by
  obtain ⟨v, a, b, h1, h2, h3⟩ := h
  exact ⟨v, b, a, h2, h1, h3.symm⟩
inductive Eg (es : List (Nat × Nat)) : Nat → Nat → Prop
  | refl {i : Nat} : Eg es i i
  | step {i j k : Nat} : R es i j → Eg es j k → Eg es i k
theorem Eg.trans {i j k : Nat} (h : Eg es i j) (h' : Eg es j k) : Eg es i k := by
  induction h with
  | refl => exact h'
  | step h1 _ ih => exact .step h1 (ih h')
theorem Eg.one (h : R es i k) : Eg es i k := .step h .refl
theorem Eg.symm (h : Eg es i k) : Eg es k i := by
  induction h with
  | refl => exact .refl
  | step h1 _ ih => exact ih.trans (.one h1.symm)
theorem Eg.closed {A : Nat → Prop} (h : Eg es i k) (hA : ∀ i k, R es i k → A i → A k) (hi : A i) : A k := by
  induction h with
  | refl => exact hi
  | step h1 _ ih => exact ih (hA _ _ h1 hi)
theorem R.lt (h : R es i k) : i < es.length ∧ k < es.length := by
  obtain ⟨v, a, b, h1, h2, _⟩ := h
  exact ⟨h1.1, h2.1⟩
theorem Eg.lt (h : Eg es i k) (hi : i < es.length) : k < es.length := h.closed (A := fun i => i < es.length) (fun _ _ hr _ => hr.lt.2) hi

/-- The edges at what one vertex alone joins to the rest are shut. -/
theorem R_closed {N : Nat → Prop} (hx : ¬ N x) (hN : ∀ i u z, N u → J es i u z → N z ∨ z = x) (h : R es i k) (hi : ∃ u z, N u ∧ J es i u z) : ∃ u z, N u ∧ J es k u z := by
  obtain ⟨v, a, b, h1, h2, h3⟩ := h
  obtain ⟨u, z, h4, h5⟩ := hi
  by_cases hv : N v
  · exact ⟨v, b, hv, h2⟩
  · rcases h1.ends h5 with ⟨rfl, rfl⟩ | ⟨rfl, rfl⟩
    · exact absurd h4 hv
    · have hzx : z = x := by
        rcases hN _ _ _ h4 h1.symm with h | h
        · exact absurd h hv
        · exact h
      subst hzx
      refine ⟨b, z, h3.closed (fun i u y hu _ hy _ hj => ?_) h4, h2.symm⟩
      exact (hN _ _ _ hu hj).resolve_right hy

/-! ### ways without a vertex twice -/
inductive Pt (es : List (Nat × Nat)) (b : Nat) : List Nat → Prop
  | one : Pt es b [b]
  | cons {i a c : Nat} {l : List Nat} : J es i a c → Pt es b (c :: l) → a ∉ c :: l → Pt es b (a :: c :: l)
theorem Pt.cut {l : List Nat} (h : Pt es b l) (ha : a ∈ l) : ∃ l', Pt es b (a :: l') ∧ ∀ z ∈ a :: l', z ∈ l := by
  induction h with
  | one => obtain rfl : a = b := by simpa using ha
           exact ⟨[], .one, fun z hz => hz⟩
  | @cons i a' c l h1 h2 h3 ih =>
    rcases List.mem_cons.1 ha with rfl | ha
    · exact ⟨c :: l, .cons h1 h2 h3, fun z hz => hz⟩
    · obtain ⟨l', h4, h5⟩ := ih ha
      exact ⟨l', h4, fun z hz => List.mem_cons_of_mem _ (h5 z hz)⟩
theorem Cn.path (h : Cn es F S a b) : ∃ l, Pt es b (a :: l) ∧ ∀ z ∈ a :: l, S z := by
  induction h with
  | refl h => exact ⟨[], .one, by simpa using h⟩
  | @step a c b i h1 h2 h3 h4 ih =>
    obtain ⟨l, h5, h6⟩ := ih
    by_cases ha : a ∈ c :: l
    · obtain ⟨l', h7, h8⟩ := h5.cut ha
      exact ⟨l', h7, fun z hz => h6 z (h8 z hz)⟩
    · exact ⟨c :: l, .cons h3 h5 ha, fun z hz => by
        rcases List.mem_cons.1 hz with rfl | hz
        · exact h1
        · exact h6 z hz⟩
theorem Pt.last {l : List Nat} (h : Pt es b l) : b ∈ l := by
  induction h with
  | one => simp
  | cons _ _ _ ih => exact List.mem_cons_of_mem _ ih
theorem Pt.cn {l : List Nat} (h : Pt es b l) : ∀ a r, l = a :: r → (∀ z ∈ l, S z) → Cn es (fun _ => True) S a b := by
  induction h with
  | one => intro a r e hS; cases e; exact .refl (hS _ (by simp))
  | @cons i a' c l h1 h2 h3 ih =>
    intro a r e hS
    cases e
    exact .step (hS _ (by simp)) trivial h1 (ih _ _ rfl fun z hz => hS z (List.mem_cons_of_mem _ hz))

/-- Along a way that closes, all edges are in one block. -/
theorem Pt.block {l : List Nat} (h : Pt es b l) : ∀ (a : Nat) (r : List Nat) (e q : Nat), l = a :: r → J es e q a → q ∉ l → Cn es (fun _ => True) (fun z => z ∉ l.dropLast) q b →
    (∀ z ∈ l, S z) → (∀ i, Eg es e i → F i) → Cn es F S a b := by
  induction h with
  | one => intro a r e q he _ _ _ hS _; cases he; exact .refl (hS _ (by simp))
  | @cons i a' c l h1 h2 h3 ih =>
    intro a r e q he hj hq hc hS hF
    cases he
    have hca : c ≠ a' := fun e => h3 (e ▸ List.mem_cons_self ..)
    have hb : b ∈ c :: l := h2.last
    have hlast : (a' :: c :: l).dropLast = a' :: (c :: l).dropLast := rfl
    rw [hlast] at hc
    have hR : R es e i := ⟨a', q, c, hj.symm, h1, (hc.mono (fun _ h => h) (fun z hz (e : z = a') => hz (e ▸ List.mem_cons_self ..))).trans
      (h2.cn (S := fun z => z ≠ a') _ _ rfl fun z hz (e : z = a') => h3 (e ▸ hz)).symm⟩
    refine .step (hS _ (by simp)) (hF _ (.one hR)) h1 (ih c l i a' rfl h1 h3 ?_ (fun z hz => hS z (List.mem_cons_of_mem _ hz)) fun k hk => hF k (.step hR hk))
    have h4 : ∀ z, z ∈ (c :: l).dropLast → z ∈ c :: l := fun z hz => List.dropLast_subset _ hz
    exact .step (fun hz => h3 (h4 _ hz)) trivial hj.symm (hc.mono (fun _ h => h) fun z hz hz' => hz (List.mem_cons_of_mem _ hz'))

/-- Edges at one vertex, in one step: their other ends hang together by the block's edges. -/
theorem R.block (h1 : J es i v a) (h2 : J es k v b) (h3 : Cn es (fun _ => True) (fun z => z ≠ v) a b) : Cn es (Eg es i) (fun z => z ≠ v) a b := by
  obtain ⟨l, h4, h5⟩ := h3.path
  have hv : v ∉ a :: l := fun hm => h5 v hm rfl
  refine h4.block a l i v rfl h1 hv ?_ h5 fun _ h => h
  have hbl : b ∉ (a :: l).dropLast := by
    have key : ∀ {l : List Nat}, Pt es b l → b ∉ l.dropLast := by
      intro l h
      induction h with
      | one => simp
      | @cons i a' c l h1 h2 h3 ih =>
        show b ∉ a' :: (c :: l).dropLast
        intro hm
        rcases List.mem_cons.1 hm with rfl | hm
        · exact h3 h2.last
        · exact ih hm
    exact key h4
  exact .one (fun hm => hv (List.dropLast_subset _ hm)) hbl trivial h2

/-- A block without any one vertex still hangs together. -/
theorem Eg.conn (hl : ∀ i a, ¬ J es i a a) (w : Nat) (h : Eg es i k) : ∀ (E : Nat → Prop), (∀ j, Eg es i j → E j) → ∀ p p' q q', J es i p p' → J es k q q' → p ≠ w → q ≠ w → Cn es E (fun z => z ≠ w) p q := by
  induction h with
  | @refl i =>
    intro E hE p p' q q' hp hq hpw hqw
    rcases hp.ends hq with ⟨rfl, rfl⟩ | ⟨rfl, rfl⟩
    · exact .refl hpw
    · exact .one hpw hqw (hE _ .refl) hp
  | @step i j k h1 h2 ih =>
    intro E hE p p' q q' hp hq hpw hqw
    have ihE := ih E fun m hm => hE m (.step h1 hm)
    have hR := h1
    obtain ⟨v, a, b, e1, e2, e3⟩ := h1
    by_cases hvw : v = w
    · subst hvw
      have hpa : p = a := by
        rcases e1.ends hp with ⟨rfl, rfl⟩ | ⟨rfl, rfl⟩
        · exact absurd rfl hpw
        · rfl
      subst hpa
      exact ((R.block e1 e2 e3).mono (fun m hm => hE m hm) fun _ h => h).trans (ihE b v q q' e2.symm hq e3.right hqw)
    · have h4 : Cn es E (fun z => z ≠ w) p v := by
        rcases e1.ends hp with ⟨rfl, rfl⟩ | ⟨rfl, rfl⟩
        · exact .refl hpw
        · exact .one hpw hvw (hE _ .refl) hp
      exact h4.trans (ihE v b q q' e2 hq hvw hqw)

/-- Two edges of one block at a vertex: their other ends hang together without it. -/
theorem Eg.at_ (hl : ∀ i a, ¬ J es i a a) (h : Eg es i k) (h1 : J es i v a) (h2 : J es k v b) : Cn es (fun _ => True) (fun z => z ≠ v) a b :=
  (h.conn hl v (fun _ => True) (fun _ _ => trivial) a v b v h1.symm h2.symm (fun e => hl i v (by subst e; exact h1)) (fun e => hl k v (by subst e; exact h2)))

/-- More edges, more of a block. -/
theorem J.grow {es' : List (Nat × Nat)} (h : J es i a b) : J (es ++ es') i a b := by
  refine ⟨by rw [List.length_append]; have := h.1; omega, ?_⟩
  rw [List.getD_eq_getElem?_getD, List.getElem?_append_left h.1, ← List.getD_eq_getElem?_getD]
  exact h.2
theorem Cn.grow {es' : List (Nat × Nat)} (h : Cn es F S a b) : Cn (es ++ es') F S a b := by
  induction h with
  | refl h => exact .refl h
  | step h1 h2 h3 _ ih => exact .step h1 h2 h3.grow ih
theorem R.grow {es' : List (Nat × Nat)} (h : R es i k) : R (es ++ es') i k := by
  obtain ⟨v, a, b, h1, h2, h3⟩ := h
  exact ⟨v, a, b, h1.grow, h2.grow, h3.grow⟩
theorem Eg.grow {es' : List (Nat × Nat)} (h : Eg es i k) : Eg (es ++ es') i k := by
  induction h with
  | refl => exact .refl
  | step h1 _ ih => exact .step h1.grow ih
end
end Go.Blk
