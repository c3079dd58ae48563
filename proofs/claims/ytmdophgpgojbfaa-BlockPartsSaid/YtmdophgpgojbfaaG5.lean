/- What the reference of layer 3 tells of parts: what hangs together. -/
import Derived.Test.YtmdophgpgojbfaaG4
import Derived.Test.YtmdophgpgojbfaaM2
namespace Go.Proofs.Ytmdophgpgojbfaa
open Go.Blk
set_option linter.unusedVariables false
set_option linter.unusedSimpArgs false

theorem getD_set_selfB (l : List Bool) (x : Nat) (c : Bool) (h : x < l.length) : (l.set x c).getD x false = c := by simp [List.getD, h]
theorem getD_set_neB (l : List Bool) (x y : Nat) (c : Bool) (h : x ≠ y) : (l.set x c).getD y false = l.getD y false := by simp [List.getD, List.getElem?_set_ne h]
theorem getD_set_true (l : List Bool) (x y : Nat) : (l.set x true).getD y false = true ↔ (x = y ∧ x < l.length) ∨ l.getD y false = true := by
  by_cases h : x = y
  · subst h
    by_cases hx : x < l.length
    · simp [getD_set_selfB l x true hx, hx]
    · rw [List.set_eq_of_length_le (by omega)]; simp [hx]
  · rw [getD_set_neB _ _ _ _ h]; simp [h]

section
variable {es : List (Nat × Nat)} {n : Nat}
/-- Where all edges end among the vertices. -/
def Bnd (es : List (Nat × Nat)) (n : Nat) : Prop := ∀ i, i < es.length → (es.getD i (0, 0)).1 < n ∧ (es.getD i (0, 0)).2 < n
theorem step_iff {cs s : List Bool} {i y : Nat} (hs : s.length = n) (hb : Bnd es n) (hi : i < es.length) : (goStep es cs s i).getD y false = true ↔
    s.getD y false = true ∨ (cs.getD i false = true ∧ (s.getD (es.getD i (0, 0)).1 false = true ∨ s.getD (es.getD i (0, 0)).2 false = true) ∧ (y = (es.getD i (0, 0)).1 ∨ y = (es.getD i (0, 0)).2)) := by
  have hB := hb i hi
  unfold goStep
  split
  · rename_i h
    simp only [Bool.and_eq_true, Bool.or_eq_true] at h
    rw [getD_set_true, getD_set_true, List.length_set, hs]
    constructor
    · rintro (⟨rfl, _⟩ | ⟨rfl, _⟩ | h')
      · exact .inr ⟨h.1, h.2, .inl rfl⟩
      · exact .inr ⟨h.1, h.2, .inr rfl⟩
      · exact .inl h'
    · rintro (h' | ⟨_, _, rfl | rfl⟩)
      · exact .inr (.inr h')
      · exact .inl ⟨rfl, hB.1⟩
      · exact .inr (.inl ⟨rfl, hB.2⟩)
  · rename_i h
    constructor
    · exact .inl
    · rintro (h' | ⟨h1, h2, _⟩)
      · exact h'
      · exfalso; apply h; rw [h1]; simpa using h2
/-- s is in t. -/
def Le (s t : List Bool) : Prop := ∀ y, s.getD y false = true → t.getD y false = true
theorem step_le {cs s : List Bool} {i : Nat} (hs : s.length = n) (hb : Bnd es n) (hi : i < es.length) : Le s (goStep es cs s i) := fun y hy => (step_iff hs hb hi).2 (.inl hy)
theorem in_le {cs s : List Bool} (hs : s.length = n) (hb : Bnd es n) : ∀ i, i ≤ es.length → Le s (goIn es cs s i)
  | 0, _ => fun y hy => hy
  | i + 1, hi => fun y hy => by rw [goIn_succ]; exact step_le (by rw [goIn_length, hs]) hb (by omega) y (in_le hs hb i (by omega) y hy)
theorem in_le2 {cs s : List Bool} (hs : s.length = n) (hb : Bnd es n) : ∀ d i, i + d ≤ es.length → Le (goIn es cs s i) (goIn es cs s (i + d))
  | 0, _, _ => fun y hy => hy
  | d + 1, i, hi => fun y hy => by rw [← Nat.add_assoc, goIn_succ]; exact step_le (by rw [goIn_length, hs]) hb (by omega) y (in_le2 hs hb d i (by omega) y hy)
/-- What one round turns, or all of it is shut. -/
def Shut (es : List (Nat × Nat)) (cs s : List Bool) : Prop := ∀ i u z, cs.getD i false = true → J es i u z → s.getD u false = true → s.getD z false = true
theorem in_shut {cs s : List Bool} (hs : s.length = n) (hb : Bnd es n) (h : Le (goIn es cs s es.length) s) : Shut es cs s := by
  intro i u z hc hj hu
  refine h z ?_
  have hi := hj.1
  have e : es.length = (i + 1) + (es.length - (i + 1)) := by omega
  rw [e]
  refine in_le2 hs hb _ _ (by omega) z ?_
  rw [goIn_succ]
  have h1 := in_le (cs := cs) hs hb i (by omega) u hu
  refine (step_iff (by rw [goIn_length, hs]) hb hi).2 (.inr ⟨hc, ?_, ?_⟩)
  · rcases hj.2 with e | e <;> rw [e] <;> simp only <;> first | exact .inl h1 | exact .inr h1
  · rcases hj.2 with e | e <;> rw [e] <;> simp
theorem shut_in {cs s : List Bool} (hs : s.length = n) (hb : Bnd es n) (h : Shut es cs s) : ∀ i, i ≤ es.length → Le (goIn es cs s i) s
  | 0, _ => fun y hy => hy
  | i + 1, hi => fun y hy => by
    rw [goIn_succ, step_iff (by rw [goIn_length, hs]) hb (by omega)] at hy
    have ih := shut_in hs hb h i (by omega)
    have hj : J es i (es.getD i (0, 0)).1 (es.getD i (0, 0)).2 := J_self (by omega)
    rcases hy with hy | ⟨hc, h1, h2⟩
    · exact ih y hy
    · rcases h1 with h1 | h1
      · have h1 := ih _ h1
        have h3 := h i _ _ hc hj h1
        rcases h2 with rfl | rfl <;> assumption
      · have h1 := ih _ h1
        have h3 := h i _ _ hc hj.symm h1
        rcases h2 with rfl | rfl <;> assumption
theorem getD_ext {s t : List Bool} (h : s.length = t.length) (h1 : Le s t) (h2 : Le t s) : s = t := by
  apply List.ext_getElem h
  intro i a b
  have e1 : s.getD i false = s[i] := getD_at _ _ a
  have e2 : t.getD i false = t[i] := getD_at _ _ b
  have h3 := h1 i; have h4 := h2 i
  rw [e1, e2] at h3 h4
  cases hs : s[i] <;> cases ht : t[i] <;> simp_all
def cntT : List Bool → Nat
  | [] => 0
  | a :: r => (if a then 1 else 0) + cntT r
theorem cntT_le : ∀ (s : List Bool), cntT s ≤ s.length
  | [] => by simp [cntT]
  | a :: r => by have := cntT_le r; simp only [cntT, List.length_cons]; split <;> omega
theorem cntT_mono : ∀ (s t : List Bool), s.length = t.length → Le s t → cntT s ≤ cntT t ∧ (cntT s = cntT t → s = t)
  | [], [], _, _ => by simp
  | a :: r, b :: q, hl, h => by
    have h0 := h 0
    have ih := cntT_mono r q (by simpa using hl) fun y hy => h (y + 1) (by simpa using hy)
    simp only [List.getD_cons_zero] at h0
    simp only [cntT]
    cases a <;> cases b <;> simp_all
    all_goals omega
/-- Behind so many rounds it is shut, or so many are there. -/
theorem out_grow {cs s : List Bool} (hs : s.length = n) (hb : Bnd es n) (h1 : 1 ≤ cntT s) : ∀ r, Shut es cs (goOut es cs s r) ∨ r + 1 ≤ cntT (goOut es cs s r)
  | 0 => .inr h1
  | r + 1 => by
    have hl : (goOut es cs s r).length = n := by rw [goOut_length, hs]
    rw [goOut_succ]
    rcases out_grow hs hb h1 r with h | h
    · left
      have e : goIn es cs (goOut es cs s r) es.length = goOut es cs s r := getD_ext (by rw [goIn_length]) (shut_in hl hb h _ (Nat.le_refl _)) (in_le hl hb _ (Nat.le_refl _))
      rw [e]; exact h
    · have hm := cntT_mono _ _ (by rw [goIn_length]) (in_le (cs := cs) hl hb es.length (Nat.le_refl _))
      by_cases he : cntT (goOut es cs s r) = cntT (goIn es cs (goOut es cs s r) es.length)
      · left
        have e := hm.2 he
        rw [← e]
        exact in_shut hl hb (fun y hy => by rw [← e] at hy; exact hy)
      · right; omega
theorem cntT_one : ∀ (m x : Nat), x < m → 1 ≤ cntT ((List.replicate m false).set x true)
  | m + 1, 0, _ => by simp [List.replicate_succ, cntT]
  | m + 1, x + 1, h => by have := cntT_one m x (by omega); simp only [List.replicate_succ, List.set_cons_succ, cntT]; omega

theorem rep_getD (m y : Nat) : (List.replicate m false).getD y false = false := by
  rw [List.getD_eq_getElem?_getD, List.getElem?_replicate]; split <;> rfl
/-- What 'Go' tells. -/
theorem goAll_iff {cs : List Bool} {x y : Nat} (hb : Bnd es n) (hx : x < n) : (goAll n es x cs).getD y false = true ↔ Cn es (fun i => cs.getD i false = true) (fun _ => True) x y := by
  have hs : ((List.replicate n false).set x true).length = n := by simp
  have h0 : ((List.replicate n false).set x true).getD x false = true := getD_set_selfB _ _ _ (by simpa using hx)
  constructor
  · have key : ∀ r y, (goOut es cs ((List.replicate n false).set x true) r).getD y false = true → Cn es (fun i => cs.getD i false = true) (fun _ => True) x y := by
      intro r
      induction r with
      | zero =>
        intro y hy
        rcases (getD_set_true _ _ _).1 hy with ⟨rfl, _⟩ | h
        · exact .refl trivial
        · rw [rep_getD] at h; cases h
      | succ r ih =>
        have key2 : ∀ i, i ≤ es.length → ∀ y, (goIn es cs (goOut es cs ((List.replicate n false).set x true) r) i).getD y false = true → Cn es (fun i => cs.getD i false = true) (fun _ => True) x y := by
          intro i
          induction i with
          | zero => exact fun _ y hy => ih y hy
          | succ i ih2 =>
            intro hi y hy
            rw [goIn_succ, step_iff (n := n) (by rw [goIn_length, goOut_length, hs]) hb (by omega)] at hy
            have hj : J es i (es.getD i (0, 0)).1 (es.getD i (0, 0)).2 := J_self (by omega)
            rcases hy with hy | ⟨hc, h1, h2⟩
            · exact ih2 (by omega) y hy
            · rcases h1 with h1 | h1
              · have h1 := ih2 (by omega) _ h1
                rcases h2 with rfl | rfl
                · exact h1
                · exact h1.trans (.one trivial trivial hc hj)
              · have h1 := ih2 (by omega) _ h1
                rcases h2 with rfl | rfl
                · exact h1.trans (.one trivial trivial hc hj.symm)
                · exact h1
        intro y hy
        rw [goOut_succ] at hy
        exact key2 _ (Nat.le_refl _) y hy
    exact key n y
  · intro h
    have hsh : Shut es cs (goAll n es x cs) := by
      rcases out_grow (cs := cs) hs hb (cntT_one n x hx) n with h | h
      · exact h
      · have := cntT_le (goOut es cs ((List.replicate n false).set x true) n)
        rw [goOut_length, hs] at this; omega
    have hxx : (goAll n es x cs).getD x false = true := by
      have key : ∀ r, (goOut es cs ((List.replicate n false).set x true) r).getD x false = true := by
        intro r
        induction r with
        | zero => exact h0
        | succ r ih => rw [goOut_succ]; exact in_le (n := n) (by rw [goOut_length, hs]) hb _ (Nat.le_refl _) x ih
      exact key n
    exact h.closed (N := fun y => (goAll n es x cs).getD y false = true) (fun i u z hu _ _ hc hj => hsh i u z hc hj hu) hxx

theorem mask_getD {wo : List Bool} {i : Nat} (hi : i < es.length) : (cmask es wo).getD i false = true ↔ wo.getD (es.getD i (0, 0)).1 false = false ∧ wo.getD (es.getD i (0, 0)).2 false = false := by
  have e : (cmask es wo).getD i false = (!(wo.getD es[i].1 false) && !(wo.getD es[i].2 false)) := by
    rw [getD_at _ _ (by simpa [cmask] using hi)]; simp [cmask]
  rw [e, getD_at _ _ hi]
  simp
theorem mask_cn {wo : List Bool} {x y : Nat} (hx : wo.getD x false = false) : Cn es (fun i => (cmask es wo).getD i false = true) (fun _ => True) x y ↔ Cn es (fun _ => True) (fun v => wo.getD v false = false) x y := by
  constructor
  · intro h
    induction h with
    | refl _ => exact .refl hx
    | @step a b c i _ hi hj _ ih =>
      have h1 := (mask_getD hj.1).1 hi
      have hb : wo.getD b false = false := by
        rcases hj.2 with e | e <;> rw [e] at h1
        · exact h1.2
        · exact h1.1
      exact .step hx trivial hj (ih hb)
  · intro h
    clear hx
    induction h with
    | refl _ => exact .refl trivial
    | @step a b c i ha hi hj hr ih =>
      refine .step trivial ((mask_getD hj.1).2 ?_) hj ih
      have hb := hr.left
      rcases hj.2 with e | e <;> rw [e]
      · exact ⟨ha, hb⟩
      · exact ⟨hb, ha⟩

theorem lst_spec (s : List Bool) (m : Nat) : ∀ d, d ≤ m → (lst s false m d = -1 ∧ ∀ y, m - d ≤ y → y < m → s.getD y false = false) ∨ (∃ y : Nat, lst s false m d = (y : Int) ∧ m - d ≤ y ∧ y < m ∧ s.getD y false = true ∧ ∀ z, m - d ≤ z → z < y → s.getD z false = false)
  | 0, _ => .inl ⟨rfl, fun y h1 h2 => by omega⟩
  | d + 1, hd => by
    unfold lst
    by_cases hc : s.getD (m - (d + 1)) false = true
    · right
      refine ⟨m - (d + 1), by rw [hc]; rfl, Nat.le_refl _, by omega, hc, fun z h1 h2 => by omega⟩
    · have hc' : s.getD (m - (d + 1)) false = false := by simpa using hc
      rw [hc']
      simp only [Bool.false_and, Bool.false_eq_true, if_false]
      rcases lst_spec s m d (by omega) with ⟨h1, h2⟩ | ⟨y, h1, h2, h3, h4, h5⟩
      · refine .inl ⟨h1, fun y h3 h4 => ?_⟩
        by_cases e : y = m - (d + 1)
        · rw [e]; exact hc'
        · exact h2 y (by omega) h4
      · refine .inr ⟨y, h1, by omega, h3, h4, fun z h6 h7 => ?_⟩
        by_cases e : z = m - (d + 1)
        · rw [e]; exact hc'
        · exact h5 z (by omega) h7
theorem lst_true (s : List Bool) (m : Nat) : ∀ d, lst s true m d = -1
  | 0 => rfl
  | d + 1 => by unfold lst; simp [lst_true s m d]
/-- Two are in one part just if they hang together. -/
theorem partOf_iff {wo : List Bool} {x y : Nat} (hb : Bnd es n) (hx : x < n) (hy : y < n) (hwx : wo.getD x false = false) (hwy : wo.getD y false = false) :
    partOf n es wo x = partOf n es wo y ↔ Cn es (fun _ => True) (fun v => wo.getD v false = false) x y := by
  have hS : ∀ u, u < n → wo.getD u false = false → ∀ z, (goAll n es u (cmask es wo)).getD z false = true ↔ Cn es (fun _ => True) (fun v => wo.getD v false = false) u z := fun u hu hwu z => by
    rw [goAll_iff hb hu, mask_cn hwu]
  unfold partOf
  rw [hwx, hwy]
  have hex : ∀ u, u < n → wo.getD u false = false → ∃ q : Nat, lst (goAll n es u (cmask es wo)) false n n = (q : Int) ∧ q < n ∧ Cn es (fun _ => True) (fun v => wo.getD v false = false) u q := by
    intro u hu hwu
    rcases lst_spec (goAll n es u (cmask es wo)) n n (Nat.le_refl _) with ⟨_, h2⟩ | ⟨q, h1, _, h3, h4, _⟩
    · exfalso
      have := h2 u (by omega) hu
      have h3 := (hS u hu hwu u).2 (.refl hwu)
      rw [this] at h3; cases h3
    · exact ⟨q, h1, h3, (hS u hu hwu q).1 h4⟩
  constructor
  · intro h
    obtain ⟨q, h1, h2, h3⟩ := hex x hx hwx
    obtain ⟨q', h1', h2', h3'⟩ := hex y hy hwy
    have : q = q' := by omega
    subst this
    exact h3.trans h3'.symm
  · intro h
    have : goAll n es x (cmask es wo) = goAll n es y (cmask es wo) := by
      refine getD_ext (by rw [goAll_length, goAll_length]) (fun z hz => ?_) fun z hz => ?_
      · exact (hS y hy hwy z).2 (h.symm.trans ((hS x hx hwx z).1 hz))
      · exact (hS x hx hwx z).2 (h.trans ((hS y hy hwy z).1 hz))
    rw [this]

theorem outX_getD {x v : Nat} (hx : x < n) : (outX n x).getD v false = false ↔ v ≠ x := by
  unfold outX
  by_cases e : x = v
  · subst e; rw [getD_set_selfB _ _ _ (by simpa using hx)]; simp
  · rw [getD_set_neB _ _ _ _ e, rep_getD]; simp [Ne.symm e]
theorem partAll_getD {wo : List Bool} {v : Nat} (hv : v < n) : (partAll n es wo).getD v 0 = partOf n es wo v := by
  rw [getD_at _ _ (by simpa [partAll] using hv)]; simp [partAll]
/-- The reference's word for 'in one block, at a vertex'. -/
theorem relX_iff (hb : Bnd es n) (hl : ∀ i a, ¬ J es i a a) {x i k : Nat} (hx : x < n) (hi : i < es.length) (hk : k < es.length) :
    relX n es x i k ↔ ∃ a b, J es i x a ∧ J es k x b ∧ Cn es (fun _ => True) (fun v => v ≠ x) a b := by
  have hcn : ∀ a b, Cn es (fun _ => True) (fun v => (outX n x).getD v false = false) a b ↔ Cn es (fun _ => True) (fun v => v ≠ x) a b := fun a b =>
    ⟨fun h => h.mono (fun _ h => h) fun v hv => (outX_getD hx).1 hv, fun h => h.mono (fun _ h => h) fun v hv => (outX_getD hx).2 hv⟩
  have hne : ∀ j a, J es j x a → a ≠ x ∧ a < n := fun j a hj => by
    refine ⟨fun e => hl j x (e ▸ hj), ?_⟩
    have := hb j hj.1
    rcases hj.2 with e | e <;> rw [e] at this <;> simp only at this <;> omega
  unfold relX
  constructor
  · rintro ⟨h1, h2, h3⟩
    have hj1 := J_oth (es := es) ⟨hi, h1⟩
    have hj2 := J_oth (es := es) ⟨hk, h2⟩
    obtain ⟨g1, g2⟩ := hne _ _ hj1
    obtain ⟨g3, g4⟩ := hne _ _ hj2
    rw [partAll_getD g2, partAll_getD g4, partOf_iff hb g2 g4 ((outX_getD hx).2 g1) ((outX_getD hx).2 g3), hcn] at h3
    exact ⟨_, _, hj1, hj2, h3⟩
  · rintro ⟨a, b, hj1, hj2, h3⟩
    obtain ⟨g1, g2⟩ := hne _ _ hj1
    obtain ⟨g3, g4⟩ := hne _ _ hj2
    refine ⟨(J_at hj1).2, (J_at hj2).2, ?_⟩
    rw [J_othE hj1, J_othE hj2, partAll_getD g2, partAll_getD g4, partOf_iff hb g2 g4 ((outX_getD hx).2 g1) ((outX_getD hx).2 g3), hcn]
    exact h3
theorem relX_R (hb : Bnd es n) (hl : ∀ i a, ¬ J es i a a) {x i k : Nat} (hx : x < n) (hi : i < es.length) (hk : k < es.length) (h : relX n es x i k) : R es i k := by
  obtain ⟨a, b, h1, h2, h3⟩ := (relX_iff hb hl hx hi hk).1 h
  exact ⟨x, a, b, h1, h2, h3⟩
theorem R_relX (hb : Bnd es n) (hl : ∀ i a, ¬ J es i a a) {i k : Nat} (h : R es i k) : ∃ x, x < n ∧ relX n es x i k := by
  have hlt := h.lt
  obtain ⟨x, a, b, h1, h2, h3⟩ := h
  have hx : x < n := by
    have := hb i h1.1
    rcases h1.2 with e | e <;> rw [e] at this <;> simp only at this <;> omega
  exact ⟨x, hx, (relX_iff hb hl hx hlt.1 hlt.2).2 ⟨a, b, h1, h2, h3⟩⟩

/-! ### what the reference of layer 4 tells -/
theorem joins_keep (hb : Bnd es n) (hl : ∀ i a, ¬ J es i a a) {s0 s : List Nat} (h : Joins n es s0 s) (h0 : s0.length = es.length) (hs0 : ∀ i, i < es.length → s0.getD i 0 ≤ i ∧ Eg es i (s0.getD i 0)) :
    s.length = es.length ∧ ∀ i, i < es.length → s.getD i 0 ≤ i ∧ Eg es i (s.getD i 0) := by
  induction h with
  | refl => exact ⟨h0, hs0⟩
  | @step t x i k _ hx hi hk hr ih =>
    obtain ⟨hlt, ih⟩ := ih
    refine ⟨by rw [join2_length]; exact hlt, fun j hj => ?_⟩
    have hR := relX_R hb hl hx hi hk hr
    obtain ⟨i1, i2⟩ := ih i hi
    obtain ⟨k1, k2⟩ := ih k hk
    have hm : ∀ q, q = min (t.getD i 0) (t.getD k 0) → Eg es i q ∧ Eg es k q := by
      intro q hq
      have : q = t.getD i 0 ∨ q = t.getD k 0 := by omega
      rcases this with rfl | rfl
      · exact ⟨i2, (Eg.one hR.symm).trans i2⟩
      · exact ⟨(Eg.one hR).trans k2, k2⟩
    have hmm := hm _ rfl
    unfold join2
    by_cases hjk : k = j
    · subst hjk
      rw [getD_set_self _ _ _ (by simp; omega)]
      exact ⟨by omega, hmm.2⟩
    · rw [getD_set_ne _ _ _ _ hjk]
      by_cases hji : i = j
      · subst hji
        rw [getD_set_self _ _ _ (by omega)]
        exact ⟨by omega, hmm.1⟩
      · rw [getD_set_ne _ _ _ _ hji]
        exact ih j hj
def refBl (m : Nat) (same : List Nat) : List (List Nat) := ((List.range m).filter fun i => same.getD i 0 == i).map fun i => (List.range m).filter fun k => same.getD k 0 == i
theorem range_getD (m i : Nat) (h : i < m) : (List.range m).getD i 0 = i := by rw [getD_at _ _ (by simpa using h)]; simp
theorem sorted_head {B : List Nat} {i : Nat} (h : B.Pairwise (· < ·)) (hi : i ∈ B) (hle : ∀ k ∈ B, i ≤ k) : B.getD 0 0 = i := by
  cases B with
  | nil => simp at hi
  | cons a r =>
    have h1 := hle a (by simp)
    rcases List.mem_cons.1 hi with rfl | hi
    · rfl
    · have := (List.pairwise_cons.1 h).1 i hi
      simp only [List.getD_cons_zero]; omega
theorem refBl_is (hb : Bnd es n) (hl : ∀ i a, ¬ J es i a a) {same : List Nat} (h : Joins n es (List.range es.length) same) (hst : Still n es same fun _ _ _ => True) : IsBl es (refBl es.length same) := by
  obtain ⟨hlen, hs⟩ := joins_keep hb hl h (by simp) fun i hi => by rw [range_getD _ _ hi]; exact ⟨Nat.le_refl _, .refl⟩
  have hsame : ∀ i k, i < es.length → Eg es i k → same.getD i 0 = same.getD k 0 := by
    intro i k hi he
    exact he.closed (A := fun k => same.getD i 0 = same.getD k 0) (fun j k hr hj => by
      obtain ⟨x, hx, hrx⟩ := R_relX hb hl hr
      rw [hj]; exact hst x j k trivial hx hr.lt.1 hr.lt.2 hrx) rfl
  have hrange : ∀ m, (List.range m).Pairwise (· < ·) := fun m => List.pairwise_lt_range
  have hB : ∀ i k, k ∈ ((List.range es.length).filter fun k => same.getD k 0 == i) ↔ k < es.length ∧ same.getD k 0 = i := fun i k => by simp [List.mem_filter]
  have hroot : ∀ f, f < es.length → same.getD (same.getD f 0) 0 = same.getD f 0 ∧ same.getD f 0 < es.length := fun f hf => by
    obtain ⟨h1, h2⟩ := hs f hf
    exact ⟨(hsame f _ hf h2).symm, by omega⟩
  refine ⟨fun B hBm => ?_, ?_, fun f => ?_, ?_⟩
  · obtain ⟨i, hi, rfl⟩ := List.mem_map.1 hBm
    obtain ⟨hi1, hi2⟩ := List.mem_filter.1 hi
    simp only [List.mem_range, beq_iff_eq] at hi1 hi2
    refine ⟨fun e => ?_, fun f k hf hr => ?_, fun f k hf hk => ?_, ((hrange _).filter _).imp fun h => Nat.le_of_lt h⟩
    · have : i ∈ ((List.range es.length).filter fun k => same.getD k 0 == i) := (hB i i).2 ⟨hi1, hi2⟩
      rw [e] at this; simp at this
    · rw [hB] at hf ⊢
      exact ⟨hr.lt.2, by rw [← hsame f k hf.1 (.one hr)]; exact hf.2⟩
    · rw [hB] at hf hk
      have h1 := (hs f hf.1).2
      have h2 := (hs k hk.1).2
      rw [hf.2] at h1; rw [hk.2] at h2
      exact h1.trans h2.symm
  · refine List.pairwise_flatten.2 ⟨fun B hBm => ?_, ?_⟩
    · obtain ⟨i, hi, rfl⟩ := List.mem_map.1 hBm
      exact ((hrange _).filter _).imp fun h => Nat.ne_of_lt h
    · refine List.pairwise_map.2 (((hrange _).filter _).imp fun {i j} hij => fun x hx y hy e => ?_)
      rw [hB] at hx hy
      subst e; omega
  · rw [List.mem_flatten]
    constructor
    · rintro ⟨B, hBm, hf⟩
      obtain ⟨i, hi, rfl⟩ := List.mem_map.1 hBm
      exact ((hB i f).1 hf).1
    · intro hf
      obtain ⟨h1, h2⟩ := hroot f hf
      exact ⟨_, List.mem_map.2 ⟨same.getD f 0, List.mem_filter.2 ⟨by simpa using h2, by simpa using h1⟩, rfl⟩, (hB _ f).2 ⟨hf, rfl⟩⟩
  · unfold refBl
    rw [List.pairwise_map]
    refine (List.Pairwise.imp_of_mem (R := fun a b => a < b) (fun {i j} hi hj hij => ?_) ((hrange es.length).filter _))
    have key : ∀ q, q ∈ (List.range es.length).filter (fun i => same.getD i 0 == i) → ((List.range es.length).filter fun k => same.getD k 0 == q).getD 0 0 = q := by
      intro q hq
      obtain ⟨hq1, hq2⟩ := List.mem_filter.1 hq
      simp only [List.mem_range, beq_iff_eq] at hq1 hq2
      refine sorted_head ((hrange _).filter _) ((hB q q).2 ⟨hq1, hq2⟩) fun k hk => ?_
      rw [hB] at hk
      have := (hs k hk.1).1
      omega
    rw [key i hi, key j hj]; omega
end
end Go.Proofs.Ytmdophgpgojbfaa
