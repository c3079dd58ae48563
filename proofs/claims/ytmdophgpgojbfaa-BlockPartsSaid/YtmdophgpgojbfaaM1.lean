/- The search in depth, in plain words: what a visit does. -/
import Derived.Test.YtmdophgpgojbfaaW4
namespace Go.Proofs.Ytmdophgpgojbfaa
set_option linter.unusedVariables false
set_option linter.unusedSimpArgs false

structure Se where
  num : List Nat
  low : List Nat
  cnt : Nat
  stk : List Nat
  bls : List (List Nat)
def oth (es : List (Nat × Nat)) (i x : Nat) : Nat := (es.getD i (0, 0)).1 + (es.getD i (0, 0)).2 - x
def Se.enter (s : Se) (x : Nat) : Se := { s with num := s.num.set x (s.cnt + 1), low := s.low.set x (s.cnt + 1), cnt := s.cnt + 1 }
def Se.push (s : Se) (i : Nat) : Se := { s with stk := s.stk ++ [i] }
def Se.lowTo (s : Se) (x v : Nat) : Se := { s with low := s.low.set x (min (s.low.getD x 0) v) }
def Se.pos (s : Se) (i : Nat) : Nat := (idxI (fun y => y == i) s.stk).toNat
def Se.close (s : Se) (i : Nat) : Se := { s with stk := s.stk.take (s.pos i), bls := s.bls ++ [(s.stk.drop (s.pos i)).mergeSort fun x y => decide (x ≤ y)] }
def Se.after (s : Se) (x y i : Nat) : Se := if s.num.getD x 0 ≤ s.low.getD y 0 then (s.lowTo x (s.low.getD y 0)).close i else s.lowTo x (s.low.getD y 0)

inductive Run (es : List (Nat × Nat)) (ends : List (List Nat)) : Nat → Int → List Nat → Se → Se → Prop
  | nil {x : Nat} {b : Int} {s : Se} : Run es ends x b [] s s
  | same {x i : Nat} {b : Int} {l : List Nat} {s s' : Se} : (i : Int) = b → Run es ends x b l s s' → Run es ends x b (i :: l) s s'
  | tree {x i : Nat} {b : Int} {l : List Nat} {s s1 s' : Se} : (i : Int) ≠ b → s.num.getD (oth es i x) 0 = 0 → Run es ends (oth es i x) i (ends.getD (oth es i x) []) ((s.push i).enter (oth es i x)) s1 →
      Run es ends x b l (s1.after x (oth es i x) i) s' → Run es ends x b (i :: l) s s'
  | back {x i : Nat} {b : Int} {l : List Nat} {s s' : Se} : (i : Int) ≠ b → s.num.getD (oth es i x) 0 ≠ 0 → s.num.getD (oth es i x) 0 < s.num.getD x 0 →
      Run es ends x b l ((s.push i).lowTo x (s.num.getD (oth es i x) 0)) s' → Run es ends x b (i :: l) s s'
  | fwd {x i : Nat} {b : Int} {l : List Nat} {s s' : Se} : (i : Int) ≠ b → s.num.getD (oth es i x) 0 ≠ 0 → s.num.getD x 0 ≤ s.num.getD (oth es i x) 0 →
      Run es ends x b l s s' → Run es ends x b (i :: l) s s'

def zeros : List Nat → Nat
  | [] => 0
  | a :: r => (if a = 0 then 1 else 0) + zeros r
def bud : List (List Nat) → List Nat → Nat
  | e :: es, a :: r => (if a = 0 then e.length else 0) + bud es r
  | _, _ => 0
theorem zeros_set : ∀ (l : List Nat) (x c : Nat), x < l.length → l.getD x 0 = 0 → zeros (l.set x (c + 1)) + 1 = zeros l
  | a :: l, 0, c, _, h => by simp at h; subst h; simp [zeros]; omega
  | a :: l, x + 1, c, hx, h => by
    have := zeros_set l x c (by simpa using hx) (by simpa using h)
    simp only [List.set_cons_succ, zeros]; omega
theorem bud_set : ∀ (es : List (List Nat)) (l : List Nat) (x c : Nat), x < l.length → es.length = l.length → l.getD x 0 = 0 → bud es (l.set x (c + 1)) + (es.getD x []).length = bud es l
  | e :: es, a :: l, 0, c, _, _, h => by simp at h; subst h; simp [bud]; omega
  | e :: es, a :: l, x + 1, c, hx, hl, h => by
    have := bud_set es l x c (by simpa using hx) (by simpa using hl) (by simpa using h)
    simp only [List.set_cons_succ, bud, List.getD_cons_succ]; omega
  | [], a :: l, _, _, _, hl, _ => by simp at hl
theorem zeros_pos : ∀ (l : List Nat) (x : Nat), x < l.length → l.getD x 0 = 0 → 0 < zeros l
  | a :: l, 0, _, h => by simp at h; subst h; simp only [zeros, if_true]; omega
  | a :: l, x + 1, hx, h => by have := zeros_pos l x (by simpa using hx) (by simpa using h); simp only [zeros]; omega

structure EndsOk (es : List (Nat × Nat)) (n : Nat) (ends : List (List Nat)) : Prop where
  len : ends.length = n
  bound : ∀ i, i < es.length → (es.getD i (0, 0)).1 < n ∧ (es.getD i (0, 0)).2 < n
  at_ : ∀ x, x < n → ∀ i ∈ ends.getD x [], i < es.length ∧ ((es.getD i (0, 0)).1 = x ∨ (es.getD i (0, 0)).2 = x)

structure Good (es : List (Nat × Nat)) (n : Nat) (s : Se) : Prop where
  numL : s.num.length = n
  lowL : s.low.length = n
  cntB : s.cnt + zeros s.num ≤ n
  stkB : ∀ i ∈ s.stk, i < es.length ∧ s.num.getD (es.getD i (0, 0)).1 0 ≠ 0 ∧ s.num.getD (es.getD i (0, 0)).2 0 ≠ 0

theorem getD_set_self (l : List Nat) (x c : Nat) (h : x < l.length) : (l.set x c).getD x 0 = c := by simp [List.getD, h]
theorem getD_set_ne (l : List Nat) (x y c : Nat) (h : x ≠ y) : (l.set x c).getD y 0 = l.getD y 0 := by simp [List.getD, List.getElem?_set_ne h]
theorem pos_at (s : Se) (a t : List Nat) (i : Nat) (h : s.stk = a ++ i :: t) (hn : i ∉ a) : s.pos i = a.length := by
  unfold Se.pos
  rw [idxI_at (p := fun y => y == i) (k := a.length) (by rw [h]; simp) (by simp [h]) (fun j hj hlt => by
    simp only [h]
    rw [List.getElem_append_left hlt]
    simp only [beq_eq_false_iff_ne]
    intro e; subst e; exact hn (List.getElem_mem _))]
  simp

theorem oth_lt {es : List (Nat × Nat)} {n : Nat} {ends : List (List Nat)} (H : EndsOk es n ends) {i x : Nat} (h : i < es.length ∧ ((es.getD i (0, 0)).1 = x ∨ (es.getD i (0, 0)).2 = x)) :
    oth es i x < n ∧ ((es.getD i (0, 0)).1 = x ∧ (es.getD i (0, 0)).2 = oth es i x ∨ (es.getD i (0, 0)).2 = x ∧ (es.getD i (0, 0)).1 = oth es i x) := by
  have := H.bound i h.1
  unfold oth
  rcases h.2 with e | e <;> omega

theorem Good.enter {es : List (Nat × Nat)} {n : Nat} {s : Se} (h : Good es n s) {y : Nat} (hy : y < n) (h0 : s.num.getD y 0 = 0) : Good es n (s.enter y) := by
  have := zeros_set s.num y s.cnt (by rw [h.numL]; exact hy) h0
  have := h.cntB
  refine ⟨by simp [Se.enter, h.numL], by simp [Se.enter, h.lowL], by simp only [Se.enter]; omega, fun i hi => ?_⟩
  obtain ⟨h1, h2, h3⟩ := h.stkB i hi
  refine ⟨h1, ?_, ?_⟩
  · simp only [Se.enter]; rw [getD_set_ne _ _ _ _ (by rintro rfl; exact h2 h0)]; exact h2
  · simp only [Se.enter]; rw [getD_set_ne _ _ _ _ (by rintro rfl; exact h3 h0)]; exact h3


theorem Good.push {es : List (Nat × Nat)} {n : Nat} {s : Se} (h : Good es n s) {i : Nat} (hi : i < es.length ∧ s.num.getD (es.getD i (0, 0)).1 0 ≠ 0 ∧ s.num.getD (es.getD i (0, 0)).2 0 ≠ 0) : Good es n (s.push i) :=
  ⟨h.numL, h.lowL, h.cntB, fun j hj => by
    rcases List.mem_append.1 hj with hj | hj
    · exact h.stkB j hj
    · obtain rfl : j = i := by simpa using hj
      exact hi⟩
theorem Good.lowTo {es : List (Nat × Nat)} {n : Nat} {s : Se} (h : Good es n s) (x v : Nat) : Good es n (s.lowTo x v) := ⟨h.numL, by simp [Se.lowTo, h.lowL], h.cntB, h.stkB⟩
theorem Good.close {es : List (Nat × Nat)} {n : Nat} {s : Se} (h : Good es n s) (i : Nat) : Good es n (s.close i) := ⟨h.numL, h.lowL, h.cntB, fun j hj => h.stkB j (List.mem_of_mem_take hj)⟩
theorem Good.after {es : List (Nat × Nat)} {n : Nat} {s : Se} (h : Good es n s) (x y i : Nat) : Good es n (s.after x y i) := by
  unfold Se.after; split
  · exact (h.lowTo _ _).close _
  · exact h.lowTo _ _
theorem after_num (s : Se) (x y i : Nat) : (s.after x y i).num = s.num := by unfold Se.after; split <;> rfl
theorem after_bls (s : Se) (x y i : Nat) : (s.after x y i).bls.length ≤ s.bls.length + 1 := by unfold Se.after; split <;> simp [Se.close, Se.lowTo]
theorem after_stk (s : Se) (x y i : Nat) : (s.after x y i).stk.length ≤ s.stk.length := by unfold Se.after; split <;> simp [Se.close, Se.lowTo]; omega
theorem after_pre (s : Se) (x y i : Nat) (a t : List Nat) (h : s.stk = a ++ i :: t) (hn : i ∉ a) : a <+: (s.after x y i).stk := by
  unfold Se.after; split
  · have : (s.lowTo x (s.low.getD y 0)).pos i = a.length := pos_at _ a t i h hn
    simp only [Se.close, this]
    show a <+: s.stk.take a.length
    rw [h]; simp
  · show a <+: s.stk
    rw [h]; simp

structure Keeps (es : List (Nat × Nat)) (n : Nat) (ends : List (List Nat)) (k : Nat) (s s' : Se) : Prop where
  good : Good es n s'
  pre : s.stk <+: s'.stk
  same : ∀ v, s.num.getD v 0 ≠ 0 → s'.num.getD v 0 = s.num.getD v 0
  stk : s'.stk.length + bud ends s'.num ≤ s.stk.length + k + bud ends s.num
  bls : s'.bls.length + zeros s'.num ≤ s.bls.length + zeros s.num
  zer : zeros s'.num ≤ zeros s.num
theorem Keeps.trans {es : List (Nat × Nat)} {n : Nat} {ends : List (List Nat)} {k k' : Nat} {s s1 s' : Se} (h : Keeps es n ends k s s1) (h' : Keeps es n ends k' s1 s') : Keeps es n ends (k + k') s s' :=
  ⟨h'.good, h.pre.trans h'.pre, fun v hv => (h'.same v (by rw [h.same v hv]; exact hv)).trans (h.same v hv), by have := h.stk; have := h'.stk; omega, Nat.le_trans h'.bls h.bls, Nat.le_trans h'.zer h.zer⟩
theorem Keeps.mono {es : List (Nat × Nat)} {n : Nat} {ends : List (List Nat)} {k k' : Nat} {s s' : Se} (h : Keeps es n ends k s s') (hk : k ≤ k') : Keeps es n ends k' s s' := { h with stk := by have := h.stk; omega }

/-- A tree edge, once the visit of its other end keeps its word. -/
theorem keeps_tree {es : List (Nat × Nat)} {n : Nat} {ends : List (List Nat)} (H : EndsOk es n ends) {x i y : Nat} {s s1 : Se} (hG : Good es n s) (hi : i < es.length ∧ ((es.getD i (0, 0)).1 = x ∨ (es.getD i (0, 0)).2 = x)) (hx : s.num.getD x 0 ≠ 0)
    (hy : y = oth es i x) (h0 : s.num.getD y 0 = 0) (hk : Keeps es n ends (ends.getD y []).length ((s.push i).enter y) s1) :
    Keeps es n ends 1 s (s1.after x y i) ∧ i ∉ s.stk ∧ ∃ t, s1.stk = s.stk ++ i :: t := by
  obtain ⟨hyn, hxy⟩ := oth_lt H hi
  rw [← hy] at hyn hxy
  have hni : i ∉ s.stk := fun hm => by
    obtain ⟨_, h1, h2⟩ := hG.stkB i hm
    rcases hxy with ⟨_, e⟩ | ⟨_, e⟩
    · exact h2 (by rw [e]; exact h0)
    · exact h1 (by rw [e]; exact h0)
  obtain ⟨t, ht⟩ := hk.pre
  have hst : s1.stk = s.stk ++ i :: t := by rw [← ht]; simp [Se.push, Se.enter]
  have hz := zeros_set s.num y s.cnt (by rw [hG.numL]; exact hyn) h0
  have hb := bud_set ends s.num y s.cnt (by rw [hG.numL]; exact hyn) (by rw [hG.numL, H.len]) h0
  refine ⟨⟨hk.good.after _ _ _, after_pre _ _ _ _ _ _ hst hni, fun v hv => ?_, ?_, ?_, ?_⟩, hni, t, hst⟩
  · rw [after_num]
    have hne : y ≠ v := by rintro rfl; exact hv h0
    have : ((s.push i).enter y).num.getD v 0 = s.num.getD v 0 := getD_set_ne _ _ _ _ hne
    rw [← this]; exact hk.same v (by rw [this]; exact hv)
  · have := after_stk s1 x y i
    have h1 := hk.stk
    simp only [Se.enter, Se.push, List.length_append, List.length_cons, List.length_nil] at h1
    rw [after_num]; omega
  · have := after_bls s1 x y i
    have h1 := hk.bls
    simp only [Se.enter, Se.push] at h1
    rw [after_num]; omega
  · have h1 := hk.zer
    simp only [Se.enter, Se.push] at h1
    rw [after_num]; omega

/-- The visit that a tree edge begins: what it may lean on. -/
theorem good_tree {es : List (Nat × Nat)} {n : Nat} {ends : List (List Nat)} (H : EndsOk es n ends) {x i y : Nat} {s : Se} (hG : Good es n s) (hi : i < es.length ∧ ((es.getD i (0, 0)).1 = x ∨ (es.getD i (0, 0)).2 = x)) (hx : s.num.getD x 0 ≠ 0)
    (hy : y = oth es i x) (h0 : s.num.getD y 0 = 0) : y < n ∧ Good es n ((s.push i).enter y) ∧ ((s.push i).enter y).num.getD y 0 ≠ 0 := by
  obtain ⟨hyn, hxy⟩ := oth_lt H hi
  rw [← hy] at hyn hxy
  have hG2 : Good es n (s.enter y) := hG.enter hyn h0
  have hyy : (s.num.set y (s.cnt + 1)).getD y 0 = s.cnt + 1 := getD_set_self _ _ _ (by rw [hG.numL]; exact hyn)
  have hxx : (s.num.set y (s.cnt + 1)).getD x 0 = s.num.getD x 0 := getD_set_ne _ _ _ _ (by rintro rfl; exact hx h0)
  have e : (s.push i).enter y = (s.enter y).push i := rfl
  refine ⟨hyn, ?_, by show (s.num.set y (s.cnt + 1)).getD y 0 ≠ 0; rw [hyy]; omega⟩
  rw [e]
  refine hG2.push ⟨hi.1, ?_, ?_⟩
  all_goals
    show (s.num.set y (s.cnt + 1)).getD _ 0 ≠ 0
    rcases hxy with ⟨e1, e2⟩ | ⟨e1, e2⟩
    · first | (rw [e1, hxx]; exact hx) | (rw [e2, hyy]; omega)
    · first | (rw [e2, hyy]; omega) | (rw [e1, hxx]; exact hx)

theorem keeps_back {es : List (Nat × Nat)} {n : Nat} {ends : List (List Nat)} (H : EndsOk es n ends) {x i : Nat} {s : Se} (hG : Good es n s) (hi : i < es.length ∧ ((es.getD i (0, 0)).1 = x ∨ (es.getD i (0, 0)).2 = x)) (hx : s.num.getD x 0 ≠ 0)
    (h0 : s.num.getD (oth es i x) 0 ≠ 0) (v : Nat) : Keeps es n ends 1 s ((s.push i).lowTo x v) := by
  obtain ⟨hyn, hxy⟩ := oth_lt H hi
  refine ⟨(hG.push ⟨hi.1, ?_, ?_⟩).lowTo _ _, by simp [Se.push, Se.lowTo], fun _ _ => rfl, by simp [Se.push, Se.lowTo], Nat.le_refl _, Nat.le_refl _⟩
  · rcases hxy with ⟨e1, e2⟩ | ⟨e1, e2⟩
    · rw [e1]; exact hx
    · rw [e2]; exact h0
  · rcases hxy with ⟨e1, e2⟩ | ⟨e1, e2⟩
    · rw [e2]; exact h0
    · rw [e1]; exact hx

theorem Run.keeps {es : List (Nat × Nat)} {n : Nat} {ends : List (List Nat)} (H : EndsOk es n ends) {x : Nat} {b : Int} {l : List Nat} {s s' : Se} (h : Run es ends x b l s s') :
    Good es n s → x < n → s.num.getD x 0 ≠ 0 → (∀ i ∈ l, i < es.length ∧ ((es.getD i (0, 0)).1 = x ∨ (es.getD i (0, 0)).2 = x)) → Keeps es n ends l.length s s' := by
  induction h with
  | nil => exact fun hG _ _ _ => ⟨hG, List.prefix_refl _, fun _ _ => rfl, by simp, Nat.le_refl _, Nat.le_refl _⟩
  | same _ _ ih => exact fun hG hx hn hl => (ih hG hx hn fun i hi => hl i (List.mem_cons_of_mem _ hi)).mono (by simp)
  | fwd _ _ _ _ ih => exact fun hG hx hn hl => (ih hG hx hn fun i hi => hl i (List.mem_cons_of_mem _ hi)).mono (by simp)
  | @back x i b l s s' _ h0 _ _ ih =>
    intro hG hx hn hl
    have hk := keeps_back H hG (hl _ (List.mem_cons_self ..)) hn h0 (s.num.getD (oth es i x) 0)
    exact (hk.trans (ih hk.good hx (by rw [hk.same _ hn]; exact hn) fun i hi => hl i (List.mem_cons_of_mem _ hi))).mono (by simp; omega)
  | tree _ h0 _ _ ih1 ih2 =>
    intro hG hx hn hl
    obtain ⟨h1, h2, h3⟩ := good_tree H hG (hl _ (List.mem_cons_self ..)) hn rfl h0
    obtain ⟨hk, _⟩ := keeps_tree H hG (hl _ (List.mem_cons_self ..)) hn rfl h0 (ih1 h2 h1 h3 (H.at_ _ h1))
    exact (hk.trans (ih2 hk.good hx (by rw [hk.same _ hn]; exact hn) fun i hi => hl i (List.mem_cons_of_mem _ hi))).mono (by simp; omega)
end Go.Proofs.Ytmdophgpgojbfaa
