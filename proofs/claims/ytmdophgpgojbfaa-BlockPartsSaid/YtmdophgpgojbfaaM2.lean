/- The reference of layer 4, in plain words. -/
import Derived.Test.YtmdophgpgojbfaaM1
namespace Go.Proofs.Ytmdophgpgojbfaa
set_option linter.unusedVariables false
set_option linter.unusedSimpArgs false

def outX (n x : Nat) : List Bool := (List.replicate n false).set x true
def relX (n : Nat) (es : List (Nat × Nat)) (x i k : Nat) : Prop :=
  ((es.getD i (0, 0)).1 = x ∨ (es.getD i (0, 0)).2 = x) ∧ ((es.getD k (0, 0)).1 = x ∨ (es.getD k (0, 0)).2 = x) ∧ (partAll n es (outX n x)).getD (oth es i x) 0 = (partAll n es (outX n x)).getD (oth es k x) 0
/-- One number for two. -/
def join2 (same : List Nat) (i k : Nat) : List Nat := (same.set i (min (same.getD i 0) (same.getD k 0))).set k (min (same.getD i 0) (same.getD k 0))
/-- What can come out of some steps. -/
inductive Joins (n : Nat) (es : List (Nat × Nat)) : List Nat → List Nat → Prop
  | refl {s : List Nat} : Joins n es s s
  | step {s t : List Nat} {x i k : Nat} : Joins n es s t → x < n → i < es.length → k < es.length → relX n es x i k → Joins n es s (join2 t i k)
theorem Joins.trans {n : Nat} {es : List (Nat × Nat)} {s t u : List Nat} (h : Joins n es s t) (h' : Joins n es t u) : Joins n es s u := by
  induction h' with
  | refl => exact h
  | step _ h1 h2 h3 h4 ih => exact .step ih h1 h2 h3 h4
def sumL : List Nat → Nat
  | [] => 0
  | a :: r => a + sumL r
theorem sumL_set : ∀ (l : List Nat) (i v : Nat), i < l.length → v ≤ l.getD i 0 → sumL (l.set i v) + l.getD i 0 = sumL l + v
  | a :: l, 0, v, _, h => by simp at h ⊢; simp [sumL]; omega
  | a :: l, i + 1, v, hi, h => by
    have := sumL_set l i v (by simpa using hi) (by simpa using h)
    simp only [List.set_cons_succ, sumL, List.getD_cons_succ]; omega
theorem join2_length (s : List Nat) (i k : Nat) : (join2 s i k).length = s.length := by simp [join2]
theorem join2_sum (s : List Nat) (i k : Nat) (hi : i < s.length) (hk : k < s.length) (hne : s.getD i 0 ≠ s.getD k 0) : sumL (join2 s i k) < sumL s := by
  unfold join2
  have hik : i ≠ k := fun e => hne (by rw [e])
  have h1 := sumL_set s i (min (s.getD i 0) (s.getD k 0)) hi (by omega)
  have e : (s.set i (min (s.getD i 0) (s.getD k 0))).getD k 0 = s.getD k 0 := getD_set_ne _ _ _ _ hik
  have h2 := sumL_set (s.set i (min (s.getD i 0) (s.getD k 0))) k (min (s.getD i 0) (s.getD k 0)) (by simpa using hk) (by rw [e]; omega)
  rw [e] at h2
  omega
/-- Up to some place nothing would change. -/
def Still (n : Nat) (es : List (Nat × Nat)) (s : List Nat) (P : Nat → Nat → Nat → Prop) : Prop := ∀ x i k, P x i k → x < n → i < es.length → k < es.length → relX n es x i k → s.getD i 0 = s.getD k 0
/-- What a round keeps: as long as nothing turned, all that was looked at stands still. -/
def RndOk (n : Nat) (es : List (Nat × Nat)) (s0 : List Nat) (P : Nat → Nat → Nat → Prop) (s : List Nat) (more : Bool) : Prop :=
  s.length = s0.length ∧ Joins n es s0 s ∧ (more = false → s = s0 ∧ Still n es s P) ∧ (more = true → sumL s < sumL s0)
theorem RndOk.imp {n : Nat} {es : List (Nat × Nat)} {s0 s : List Nat} {P P' : Nat → Nat → Nat → Prop} {more : Bool} (h : RndOk n es s0 P s more) (hP : ∀ x i k, x < n → i < es.length → k < es.length → P' x i k → P x i k) : RndOk n es s0 P' s more :=
  ⟨h.1, h.2.1, fun e => ⟨(h.2.2.1 e).1, fun x i k hp hx hi hk => (h.2.2.1 e).2 x i k (hP x i k hx hi hk hp) hx hi hk⟩, h.2.2.2⟩
/-- A place that changes nothing. -/
theorem RndOk.skip {n : Nat} {es : List (Nat × Nat)} {s0 s : List Nat} {P P' : Nat → Nat → Nat → Prop} {more : Bool} (x0 i0 k0 : Nat) (h : RndOk n es s0 P s more) (hP : ∀ x i k, P' x i k → P x i k ∨ (x = x0 ∧ i = i0 ∧ k = k0)) (hn : relX n es x0 i0 k0 → s.getD i0 0 = s.getD k0 0) :
    RndOk n es s0 P' s more :=
  ⟨h.1, h.2.1, fun e => ⟨(h.2.2.1 e).1, fun x i k hp hx hi hk hr => by
    rcases hP x i k hp with hp | ⟨rfl, rfl, rfl⟩
    · exact (h.2.2.1 e).2 x i k hp hx hi hk hr
    · exact hn hr⟩, h.2.2.2⟩
theorem RndOk.turn {n : Nat} {es : List (Nat × Nat)} {s0 s : List Nat} {P P' : Nat → Nat → Nat → Prop} {more : Bool} {x i k : Nat} (h : RndOk n es s0 P s more) (hx : x < n) (hi : i < es.length) (hk : k < es.length) (hl : s0.length = es.length) (hr : relX n es x i k) (hne : s.getD i 0 ≠ s.getD k 0) :
    RndOk n es s0 P' (join2 s i k) true := by
  have h1 := join2_sum s i k (by rw [h.1]; omega) (by rw [h.1]; omega) hne
  refine ⟨by rw [join2_length]; exact h.1, .step h.2.1 hx hi hk hr, by simp, fun _ => ?_⟩
  cases more with
  | false => rw [(h.2.2.1 rfl).1] at h1 ⊢; exact h1
  | true => have := h.2.2.2 rfl; omega

end Go.Proofs.Ytmdophgpgojbfaa
