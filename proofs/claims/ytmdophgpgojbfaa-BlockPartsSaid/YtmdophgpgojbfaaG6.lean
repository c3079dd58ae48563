/- The edges by their ends, as the program lays them. -/
import Derived.Test.YtmdophgpgojbfaaW5
import Derived.Test.YtmdophgpgojbfaaG4
namespace Go.Proofs.Ytmdophgpgojbfaa
open Go.Blk
set_option linter.unusedVariables false
set_option linter.unusedSimpArgs false

theorem getD_setL (l : List (List Nat)) (x y : Nat) (c : List Nat) (h : x < l.length) : (l.set x c).getD y [] = if x = y then c else l.getD y [] := by
  by_cases e : x = y
  · subst e; simp [List.getD, h]
  · simp [List.getD, List.getElem?_set_ne e, e]
/-- Where all edges are among the vertices, and none is a loop. -/
structure Fine (es : List (Nat × Nat)) (n : Nat) : Prop where
  bnd : ∀ i, i < es.length → (es.getD i (0, 0)).1 < n ∧ (es.getD i (0, 0)).2 < n
  ne : ∀ i, i < es.length → (es.getD i (0, 0)).1 ≠ (es.getD i (0, 0)).2
section
variable {es : List (Nat × Nat)} {n : Nat}
theorem endsStep_at (h : Fine es n) {xss : List (List Nat)} {i : Nat} (hl : xss.length = n) (hi : i < es.length) (x : Nat) :
    (endsStep es xss i).getD x [] = if (es.getD i (0, 0)).1 = x ∨ (es.getD i (0, 0)).2 = x then xss.getD x [] ++ [i] else xss.getD x [] := by
  obtain ⟨h1, h2⟩ := h.bnd i hi
  have h3 := h.ne i hi
  unfold endsStep
  simp only
  generalize es.getD i (0, 0) = e at h1 h2 h3 ⊢
  rw [getD_setL _ _ _ _ (by rw [List.length_set]; omega), getD_setL _ _ _ _ (by omega), getD_setL _ _ _ _ (by omega)]
  by_cases e2 : e.2 = x
  · rw [if_pos e2, if_neg (by omega), if_pos (.inr e2), e2]
  · rw [if_neg e2]
    by_cases e1 : e.1 = x
    · rw [if_pos e1, if_pos (.inl e1), e1]
    · rw [if_neg e1, if_neg (by omega)]
theorem endsUpto_mem (h : Fine es n) : ∀ k, k ≤ es.length → ∀ x, (∀ i, i ∈ (endsUpto n es k).getD x [] ↔ i < k ∧ ((es.getD i (0, 0)).1 = x ∨ (es.getD i (0, 0)).2 = x)) ∧ ((endsUpto n es k).getD x []).Nodup
  | 0, _, x => by
    have : (endsUpto n es 0).getD x [] = [] := by
      show (List.replicate n []).getD x [] = []
      rw [List.getD_eq_getElem?_getD, List.getElem?_replicate]; split <;> rfl
    rw [this]; simp
  | k + 1, hk, x => by
    obtain ⟨h1, h2⟩ := endsUpto_mem h k (by omega) x
    rw [endsUpto_succ, endsStep_at h (endsUpto_length _ _ _) (by omega)]
    split
    · rename_i hc
      refine ⟨fun i => ?_, ?_⟩
      · rw [List.mem_append, h1, List.mem_singleton]
        constructor
        · rintro (⟨a, b⟩ | rfl)
          · exact ⟨by omega, b⟩
          · exact ⟨by omega, hc⟩
        · rintro ⟨a, b⟩
          by_cases e : i = k
          · exact .inr e
          · exact .inl ⟨by omega, b⟩
      · refine List.nodup_append.2 ⟨h2, by simp, ?_⟩
        rintro a ha b hb rfl
        obtain rfl := List.mem_singleton.1 hb
        have := (h1 a).1 ha; omega
    · rename_i hc
      refine ⟨fun i => ?_, h2⟩
      rw [h1]
      constructor
      · rintro ⟨a, b⟩; exact ⟨by omega, b⟩
      · rintro ⟨a, b⟩
        refine ⟨?_, b⟩
        by_cases e : i = k
        · subst e; exact absurd b hc
        · omega
theorem Fine.noloop (h : Fine es n) : ∀ i a, ¬ J es i a a := fun i a hj => by
  have := h.ne i hj.1
  rcases hj.2 with e | e <;> rw [e] at this <;> exact this rfl
theorem endsAll (h : Fine es n) : EndsAll es n (endsUpto n es es.length) where
  len := endsUpto_length _ _ _
  bound := h.bnd
  at_ := fun x _ i hi => ((endsUpto_mem h _ (Nat.le_refl _) x).1 i).1 hi
  all := fun i x w hj => ((endsUpto_mem h _ (Nat.le_refl _) x).1 i).2 (J_at hj)
  nodup := fun x => (endsUpto_mem h _ (Nat.le_refl _) x).2
  noloop := h.noloop
def sumLen : List (List Nat) → Nat
  | [] => 0
  | a :: r => a.length + sumLen r
theorem sumLen_set : ∀ (l : List (List Nat)) (x : Nat) (c : List Nat), sumLen (l.set x c) ≤ sumLen l + (c.length - (l.getD x []).length)
  | [], x, c => by simp [sumLen]
  | a :: l, 0, c => by simp [sumLen]; omega
  | a :: l, x + 1, c => by have := sumLen_set l x c; simp only [List.set_cons_succ, sumLen, List.getD_cons_succ]; omega
theorem sumLen_ends (n : Nat) (es : List (Nat × Nat)) : ∀ k, sumLen (endsUpto n es k) ≤ 2 * k
  | 0 => by
    have : ∀ m, sumLen (List.replicate m []) = 0 := fun m => by induction m with
      | zero => rfl
      | succ m ih => rw [List.replicate_succ]; simp [sumLen, ih]
    show sumLen (List.replicate n []) ≤ _
    rw [this]; omega
  | k + 1 => by
    rw [endsUpto_succ]
    have ih := sumLen_ends n es k
    unfold endsStep
    simp only
    have h1 := sumLen_set (endsUpto n es k) (es.getD k (0, 0)).1 ((endsUpto n es k).getD (es.getD k (0, 0)).1 [] ++ [k])
    have h2 := sumLen_set ((endsUpto n es k).set (es.getD k (0, 0)).1 ((endsUpto n es k).getD (es.getD k (0, 0)).1 [] ++ [k])) (es.getD k (0, 0)).2 (((endsUpto n es k).set (es.getD k (0, 0)).1 ((endsUpto n es k).getD (es.getD k (0, 0)).1 [] ++ [k])).getD (es.getD k (0, 0)).2 [] ++ [k])
    simp only [List.length_append, List.length_cons, List.length_nil] at h1 h2
    omega
theorem bud_le : ∀ (l : List (List Nat)) (nums : List Nat), bud l nums ≤ sumLen l
  | [], _ => by simp [bud]
  | a :: l, [] => by simp [bud]
  | a :: l, b :: r => by have := bud_le l r; simp only [bud, sumLen]; split <;> omega
end
end Go.Proofs.Ytmdophgpgojbfaa
