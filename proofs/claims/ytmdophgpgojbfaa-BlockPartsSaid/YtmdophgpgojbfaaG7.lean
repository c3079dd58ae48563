/- A block as a graph of its own hangs together, and does so without any one vertex. -/
import Derived.Test.YtmdophgpgojbfaaG5
import Derived.Test.YtmdophgpgojbfaaW11
namespace Go.Proofs.Ytmdophgpgojbfaa
open Go.Blk
set_option linter.unusedVariables false
set_option linter.unusedSimpArgs false
section
variable {es : List (Nat × Nat)} {n : Nat}
def sub (es : List (Nat × Nat)) (B : List Nat) : List (Nat × Nat) := B.map fun i => es.getD i (0, 0)
theorem touch_iff {B : List Nat} {x : Nat} (hB : ∀ i ∈ B, i < es.length) : touch es B x = true ↔ ∃ i w, i ∈ B ∧ J es i x w := by
  unfold touch
  rw [List.any_eq_true]
  constructor
  · rintro ⟨i, hi, h⟩
    simp only [Bool.or_eq_true, beq_iff_eq] at h
    exact ⟨i, _, hi, J_oth ⟨hB i hi, h⟩⟩
  · rintro ⟨i, w, hi, hj⟩
    refine ⟨i, hi, ?_⟩
    simp only [Bool.or_eq_true, beq_iff_eq]
    exact (J_at hj).2
theorem J_sub {B : List Nat} {i a b : Nat} (hi : i ∈ B) (hj : J es i a b) : ∃ j, J (sub es B) j a b := by
  obtain ⟨k, hk, rfl⟩ := List.mem_iff_getElem.1 hi
  refine ⟨k, by simpa [sub] using hk, ?_⟩
  rw [getD_at _ _ (by simpa [sub] using hk)]
  simpa [sub] using hj.2
theorem Cn_sub {B : List Nat} {i w a b : Nat} (hB : ∀ i ∈ B, i < es.length) (hE : ∀ j, Eg es i j → j ∈ B) (h : Cn es (Eg es i) (fun z => z ≠ w) a b) (hb : touch es B b = true) :
    Cn (sub es B) (fun _ => True) (fun z => touch es B z = true ∧ z ≠ w) a b := by
  induction h with
  | refl h => exact .refl ⟨hb, h⟩
  | @step a c b j h1 h2 h3 _ ih =>
    obtain ⟨k, hk⟩ := J_sub (hE _ h2) h3
    exact .step ⟨(touch_iff hB).2 ⟨j, c, hE _ h2, h3⟩, h1⟩ trivial hk (ih hb)
theorem sub_bnd (hb : Bnd es n) {B : List Nat} (hB : ∀ i ∈ B, i < es.length) : Bnd (sub es B) n := by
  intro k hk
  have hk' : k < B.length := by simpa [sub] using hk
  rw [getD_at _ _ hk]
  simpa [sub] using hb _ (hB _ (List.getElem_mem hk'))
/-- What the law's mask is: without what isn't in the block, and one vertex (or none: n). -/
def maskB (n : Nat) (es : List (Nat × Nat)) (B : List Nat) (gone : Int) : List Bool := (List.range n).map fun v => !touch es B v || decide ((v : Int) = gone)
theorem maskB_getD {B : List Nat} {gone : Int} {v : Nat} (hv : v < n) : (maskB n es B gone).getD v false = (!touch es B v || decide ((v : Int) = gone)) := by
  rw [getD_at _ _ (by simpa [maskB] using hv)]; simp [maskB]
theorem block_part (hb : Bnd es n) (hl : ∀ i a, ¬ J es i a a) {B : List Nat} (hI : IsB es B) (hB : ∀ i ∈ B, i < es.length) (gone : Int) (hg : -1 ≤ gone) {v v' : Nat} (hv : v < n) (hv' : v' < n)
    (h1 : (maskB n es B gone).getD v false = false) (h2 : (maskB n es B gone).getD v' false = false) :
    partOf n (sub es B) (maskB n es B gone) v = partOf n (sub es B) (maskB n es B gone) v' := by
  rw [partOf_iff (sub_bnd hb hB) hv hv' h1 h2]
  rw [maskB_getD hv] at h1
  rw [maskB_getD hv'] at h2
  simp only [Bool.or_eq_false_iff, Bool.not_eq_false', decide_eq_false_iff_not] at h1 h2
  obtain ⟨i, a, hi, hj⟩ := (touch_iff hB).1 h1.1
  obtain ⟨k, b, hk, hj'⟩ := (touch_iff hB).1 h2.1
  obtain ⟨w, hw⟩ : ∃ w : Nat, ∀ z : Nat, z < n → (z ≠ w ↔ (z : Int) ≠ gone) := by
    by_cases h : gone = -1
    · exact ⟨n, fun z hz => by omega⟩
    · exact ⟨gone.toNat, fun z hz => by omega⟩
  have hc := (hI.one i k hi hk).conn hl w (Eg es i) (fun _ h => h) v a v' b hj hj' ((hw v hv).2 h1.2) ((hw v' hv').2 h2.2)
  have hlt : ∀ z, touch es B z = true → z < n := fun z hz => by
    obtain ⟨j, c, hj1, hj2⟩ := (touch_iff hB).1 hz
    have := hb j hj2.1
    rcases hj2.2 with e | e <;> rw [e] at this <;> simp only at this <;> omega
  refine (Cn_sub hB (fun j hj => (hI.iff hi).2 hj) hc h2.1).mono (fun _ h => h) fun z hz => ?_
  rw [maskB_getD (hlt z hz.1), hz.1]
  simp only [Bool.not_true, Bool.false_or, decide_eq_false_iff_not]
  exact (hw z (hlt z hz.1)).1 hz.2
end
end Go.Proofs.Ytmdophgpgojbfaa
