/- Lists of blocks: there is one alone; the search's is it. -/
import Derived.Test.YtmdophgpgojbfaaG3
namespace Go.Proofs.Ytmdophgpgojbfaa
open Go.Blk
set_option linter.unusedVariables false
set_option linter.unusedSimpArgs false

structure IsBl (es : List (Nat × Nat)) (bl : List (List Nat)) : Prop where
  isB : ∀ B ∈ bl, IsB es B
  nd : bl.flatten.Nodup
  cov : ∀ f, f ∈ bl.flatten ↔ f < es.length
  ord : bl.Pairwise fun a b => a.getD 0 0 ≤ b.getD 0 0

section
variable {es : List (Nat × Nat)} {n : Nat} {ends : List (List Nat)}
theorem IsB.iff {B : List Nat} (h : IsB es B) {f k : Nat} (hf : f ∈ B) : k ∈ B ↔ Eg es f k :=
  ⟨fun hk => h.one f k hf hk, fun hk => hk.closed (A := fun i => i ∈ B) (fun i j hr hi => h.sep i j hi hr) hf⟩
theorem lt_of_sorted {B : List Nat} (h : B.Pairwise (· ≤ ·)) (hn : B.Nodup) : B.Pairwise (· < ·) :=
  h.imp₂ (fun a b h1 (h2 : a ≠ b) => by omega) hn
theorem sorted_ext {A B : List Nat} (hA : A.Pairwise (· < ·)) (hB : B.Pairwise (· < ·)) (h : ∀ x, x ∈ A ↔ x ∈ B) : A = B := by
  have nA : A.Nodup := hA.imp fun h => Nat.ne_of_lt h
  have nB : B.Nodup := hB.imp fun h => Nat.ne_of_lt h
  exact List.Perm.eq_of_pairwise (fun a b _ _ h1 h2 => by omega) (hA.imp fun h => Nat.le_of_lt h) (hB.imp fun h => Nat.le_of_lt h) ((List.perm_ext_iff_of_nodup nA nB).2 h)
theorem IsBl.lt {bl : List (List Nat)} (h : IsBl es bl) {B : List Nat} (hB : B ∈ bl) : B.Pairwise (· < ·) :=
  lt_of_sorted (h.isB B hB).sorted ((List.sublist_flatten_of_mem hB).nodup h.nd)
theorem IsBl.mem_lt {bl : List (List Nat)} (h : IsBl es bl) {B : List Nat} (hB : B ∈ bl) {f : Nat} (hf : f ∈ B) : f < es.length :=
  (h.cov f).1 (List.mem_flatten.2 ⟨B, hB, hf⟩)
/-- Two blocks with one edge are one. -/
theorem IsBl.eq_of {bl bl' : List (List Nat)} (h : IsBl es bl) (h' : IsBl es bl') {A B : List Nat} (hA : A ∈ bl) (hB : B ∈ bl') {f : Nat} (hfA : f ∈ A) (hfB : f ∈ B) : A = B :=
  sorted_ext (h.lt hA) (h'.lt hB) fun x => by rw [(h.isB A hA).iff hfA, (h'.isB B hB).iff hfB]
theorem head_mem {B : List Nat} (h : B ≠ []) : B.getD 0 0 ∈ B := by
  cases B with
  | nil => exact absurd rfl h
  | cons a r => simp
theorem IsBl.sub {bl bl' : List (List Nat)} (h : IsBl es bl) (h' : IsBl es bl') {B : List Nat} (hB : B ∈ bl) : B ∈ bl' := by
  have h0 := head_mem (h.isB B hB).ne
  obtain ⟨A, hA, h1⟩ := List.mem_flatten.1 ((h'.cov _).2 (h.mem_lt hB h0))
  rw [h.eq_of h' hB hA h0 h1]; exact hA
theorem IsBl.nodup {bl : List (List Nat)} (h : IsBl es bl) : bl.Nodup := by
  have h1 := List.pairwise_flatten.1 h.nd
  refine (List.pairwise_iff_forall_sublist.2 fun {A B} hs e => ?_)
  subst e
  have h2 := List.pairwise_iff_forall_sublist.1 h1.2 hs
  have hA : A ∈ bl := hs.subset (by simp)
  exact h2 _ (head_mem (h.isB A hA).ne) _ (head_mem (h.isB A hA).ne) rfl
theorem IsBl.unique {bl bl' : List (List Nat)} (h : IsBl es bl) (h' : IsBl es bl') : bl = bl' := by
  refine List.Perm.eq_of_pairwise (le := fun a b => a.getD 0 0 ≤ b.getD 0 0) (fun A B hA hB h1 h2 => ?_) h.ord h'.ord ((List.perm_ext_iff_of_nodup h.nodup h'.nodup).2 fun B => ⟨h.sub h', h'.sub h⟩)
  have e : A.getD 0 0 = B.getD 0 0 := by omega
  have h0 := head_mem (h.isB A hA).ne
  exact h.eq_of h' hA hB h0 (e ▸ head_mem (h'.isB B hB).ne)

theorem J_self {i : Nat} (hi : i < es.length) : J es i (es.getD i (0, 0)).1 (es.getD i (0, 0)).2 := ⟨hi, .inl rfl⟩
/-- What the search leaves, in order. -/
theorem Top.isBl (H : EndsAll es n ends) {s : Se} (h : Top es n ends s) (hall : ∀ v, v < n → nm s v ≠ 0) {bl : List (List Nat)} (hp : bl.Perm s.bls) (ho : bl.Pairwise fun a b => a.getD 0 0 ≤ b.getD 0 0) : IsBl es bl where
  isB := fun B hB => h.isB B (hp.subset hB)
  nd := (hp.flatten).nodup_iff.2 h.nodup
  cov := fun f => by
    rw [(hp.flatten).mem_iff, h.acc]
    constructor
    · rintro ⟨u, w, _, hj⟩; exact hj.1
    · intro hf
      exact ⟨_, _, hall _ (H.bound f hf).1, J_self hf⟩
  ord := ho
end
end Go.Proofs.Ytmdophgpgojbfaa
