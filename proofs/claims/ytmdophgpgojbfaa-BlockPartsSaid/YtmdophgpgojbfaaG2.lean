/- The search in depth makes the blocks: what a run keeps, in plain words. -/
import Derived.Test.YtmdophgpgojbfaaM1
import Derived.Test.YtmdophgpgojbfaaG1
namespace Go.Proofs.Ytmdophgpgojbfaa
open Go.Blk
set_option linter.unusedVariables false
set_option linter.unusedSimpArgs false

abbrev nm (s : Se) (v : Nat) : Nat := s.num.getD v 0
abbrev lw (s : Se) (v : Nat) : Nat := s.low.getD v 0
def Nw (s s' : Se) (v : Nat) : Prop := nm s v = 0 ∧ nm s' v ≠ 0
/-- A block: some edges in a row, all in one class, and all of it. -/
structure IsB (es : List (Nat × Nat)) (B : List Nat) : Prop where
  ne : B ≠ []
  sep : ∀ i k, i ∈ B → R es i k → k ∈ B
  one : ∀ i k, i ∈ B → k ∈ B → Eg es i k
  sorted : B.Pairwise (· ≤ ·)

structure EndsAll (es : List (Nat × Nat)) (n : Nat) (ends : List (List Nat)) : Prop extends EndsOk es n ends where
  all : ∀ i x w, J es i x w → i ∈ ends.getD x []
  nodup : ∀ x, (ends.getD x []).Nodup
  noloop : ∀ i a, ¬ J es i a a

section
variable {es : List (Nat × Nat)} {n : Nat} {ends : List (List Nat)}
theorem J_oth {i x : Nat} (h : i < es.length ∧ ((es.getD i (0, 0)).1 = x ∨ (es.getD i (0, 0)).2 = x)) : J es i x (oth es i x) := by
  refine ⟨h.1, ?_⟩
  unfold oth
  rcases h.2 with e | e
  · left; ext <;> simp only <;> omega
  · right; ext <;> simp only <;> omega
theorem J_othE {i x w : Nat} (h : J es i x w) : oth es i x = w := by
  unfold oth
  rcases h.2 with e | e <;> rw [e] <;> simp only <;> omega
theorem J_at {i x w : Nat} (h : J es i x w) : i < es.length ∧ ((es.getD i (0, 0)).1 = x ∨ (es.getD i (0, 0)).2 = x) := by
  refine ⟨h.1, ?_⟩
  rcases h.2 with e | e <;> rw [e] <;> simp
theorem EndsOk.ltJ (H : EndsOk es n ends) {i x w : Nat} (h : J es i x w) : x < n ∧ w < n := by
  have := H.bound i h.1
  rcases h.2 with e | e <;> rw [e] at this <;> simp only at this <;> omega
theorem nm_lt {s : Se} (h : Good es n s) {v : Nat} (hv : nm s v ≠ 0) : v < n := by
  rcases Nat.lt_or_ge v n with h' | h'
  · exact h'
  · exfalso; apply hv; show s.num.getD v 0 = 0
    rw [List.getD_eq_getElem?_getD, List.getElem?_eq_none (by rw [h.numL]; exact h')]; rfl

/-- A way, vertex by vertex. -/
def Ch (es : List (Nat × Nat)) : List Nat → Prop
  | a :: c :: l => (∃ i, J es i a c) ∧ Ch es (c :: l)
  | _ => True
theorem Ch.cn : ∀ {l : List Nat} {a z : Nat}, Ch es (a :: l) → z ∈ a :: l → Cn es (fun _ => True) (fun v => v ∈ a :: l) a z
  | [], a, z, _, hz => by obtain rfl : z = a := by simpa using hz
                          exact .refl (by simp)
  | c :: l, a, z, h, hz => by
    obtain ⟨⟨i, hi⟩, h2⟩ := h
    rcases List.mem_cons.1 hz with rfl | hz
    · exact .refl (by simp)
    · exact .step (by simp) trivial hi ((Ch.cn h2 hz).mono (fun _ h => h) fun v hv => List.mem_cons_of_mem _ hv)

structure Pre (es : List (Nat × Nat)) (n : Nat) (ends : List (List Nat)) (x : Nat) (b : Int) (p l : List Nat) (s : Se) : Prop where
  good : Good es n s
  xn : nm s x ≠ 0
  path : ∀ z ∈ p, nm s z ≠ 0 ∧ nm s z < nm s x
  ch : Ch es (x :: p)
  fin : ∀ v, nm s v ≠ 0 → v ∉ x :: p → ∀ i w, J es i v w → nm s w ≠ 0 ∧ (w ∈ x :: p → nm s w < nm s v)
  inj : ∀ v w, nm s v ≠ 0 → nm s v = nm s w → v = w
  cnt : ∀ v, nm s v ≤ s.cnt
  lowx : lw s x ≤ nm s x
  byE : (p = [] ∧ b = -1) ∨ ∃ (i x0 : Nat) (p' : List Nat), b = (i : Int) ∧ p = x0 :: p' ∧ J es i x x0
  new : ∀ f ∈ l, (f : Int) ≠ b → f ∈ s.stk ∨ f ∈ s.bls.flatten → nm s x < nm s (oth es f x)
  lnd : l.Nodup
  lat : ∀ f ∈ l, J es f x (oth es f x)
  old : ∀ f, f ∈ s.stk ∨ f ∈ s.bls.flatten → ∀ u w, J es f u w → nm s u ≠ 0

structure Post (es : List (Nat × Nat)) (n : Nat) (ends : List (List Nat)) (x : Nat) (b : Int) (p l : List Nat) (s s' : Se) : Prop where
  keeps : Keeps es n ends l.length s s'
  fin : ∀ v, nm s' v ≠ 0 → v ∉ x :: p → ∀ i w, J es i v w → nm s' w ≠ 0 ∧ (w ∈ x :: p → nm s' w < nm s' v)
  done : ∀ f ∈ l, nm s' (oth es f x) ≠ 0
  inj : ∀ v w, nm s' v ≠ 0 → nm s' v = nm s' w → v = w
  cnt : s.cnt ≤ s'.cnt ∧ ∀ v, nm s' v ≤ s'.cnt
  newc : ∀ v, Nw s s' v → s.cnt < nm s' v
  lowkeep : ∀ v, ¬ Nw s s' v → v ≠ x → lw s' v = lw s v
  lowle : lw s' x ≤ lw s x
  lowb : ∀ f u z, Nw s s' u → J es f u z → ¬ Nw s s' z → z ≠ x → lw s' x ≤ nm s' z
  lowb2 : ∀ f ∈ l, (f : Int) ≠ b → nm s' (oth es f x) < nm s' x → lw s' x ≤ nm s' (oth es f x)
  loww : lw s' x = lw s x ∨ ∃ (f u z : Nat), ((u = x ∧ (f : Int) ≠ b) ∨ Nw s s' u) ∧ J es f u z ∧ z ∈ p ∧ nm s' z = lw s' x
  conn : ∀ u, Nw s s' u → Cn es (fun _ => True) (fun v => Nw s s' v ∨ v = x) x u
  ex : ∃ r nb, s'.stk = s.stk ++ r ∧ s'.bls = s.bls ++ nb ∧
    (∀ f, (f ∈ r ∨ f ∈ nb.flatten) ↔ (∃ u w, Nw s s' u ∧ J es f u w) ∨ (f ∈ l ∧ (f : Int) ≠ b ∧ nm s' (oth es f x) < nm s' x)) ∧
    (r ++ nb.flatten).Nodup ∧ (∀ f, f ∈ r ∨ f ∈ nb.flatten → f ∉ s.stk ∧ f ∉ s.bls.flatten) ∧
    (∀ i : Nat, b = (i : Int) → ∀ f ∈ r, Eg es i f) ∧ (p = [] → r = []) ∧ (∀ B ∈ nb, IsB es B)

theorem Post.same {x : Nat} {b : Int} {p l : List Nat} {s s' : Se} (h : Post es n ends x b p l s s') {v : Nat} (hv : nm s v ≠ 0) : nm s' v = nm s v := h.keeps.same v hv
/-- Where a new vertex' edges lead. -/
theorem new_out {x : Nat} {b : Int} {p l : List Nat} {s s' : Se} (h0 : Pre es n ends x b p l s) (hfin : ∀ v, nm s' v ≠ 0 → v ∉ x :: p → ∀ i w, J es i v w → nm s' w ≠ 0 ∧ (w ∈ x :: p → nm s' w < nm s' v)) {f u z : Nat} (hu : Nw s s' u) (hj : J es f u z) :
    Nw s s' z ∨ z ∈ x :: p := by
  have hup : u ∉ x :: p := fun hm => by
    rcases List.mem_cons.1 hm with rfl | hm
    · exact h0.xn hu.1
    · exact (h0.path u hm).1 hu.1
  have h1 := (hfin u hu.2 hup f z hj).1
  by_cases hz : nm s z = 0
  · exact .inl ⟨hz, h1⟩
  · by_cases hzp : z ∈ x :: p
    · exact .inr hzp
    · exact absurd hu.1 (h0.fin z hz hzp f u hj.symm).1

theorem pre_next {x i : Nat} {b : Int} {p l : List Nat} {s s' : Se} (H : EndsAll es n ends) (h : Pre es n ends x b p (i :: l) s) (h' : Post es n ends x b p [i] s s') : Pre es n ends x b p l s' := by
  obtain ⟨r, nb, e1, e2, e3, e4, e5, e6, e7, e8⟩ := h'.ex
  have hx : nm s' x = nm s x := h'.same h.xn
  refine ⟨h'.keeps.good, by rw [hx]; exact h.xn, fun z hz => ?_, h.ch, h'.fin, h'.inj, h'.cnt.2, ?_, h.byE, ?_, (List.nodup_cons.1 h.lnd).2, fun f hf => h.lat f (List.mem_cons_of_mem _ hf), ?_⟩
  · have := h.path z hz
    rw [h'.same this.1, hx]; exact this
  · have := h'.lowle; have := h.lowx; omega
  · intro f hf hb hm
    have hne : f ≠ i := fun e => (List.nodup_cons.1 h.lnd).1 (e ▸ hf)
    have hJ := h.lat f (List.mem_cons_of_mem _ hf)
    rw [e1, e2, List.flatten_append] at hm
    have hm' : (f ∈ s.stk ∨ f ∈ s.bls.flatten) ∨ (f ∈ r ∨ f ∈ nb.flatten) := by
      rcases hm with hm | hm <;> rcases List.mem_append.1 hm with hm | hm <;> simp [hm]
    rcases hm' with hm' | hm'
    · have h1 := h.new f (List.mem_cons_of_mem _ hf) hb hm'
      rw [hx, h'.same (by omega)]; exact h1
    · rcases (e3 f).1 hm' with ⟨u, w, hu, hj⟩ | ⟨h1, _⟩
      · have h1 := h'.newc u hu
        have h2 := h.cnt x
        rcases hJ.ends hj with ⟨rfl, rfl⟩ | ⟨rfl, rfl⟩
        · exact absurd hu.1 h.xn
        · rw [hx]; omega
      · exact absurd (by simpa using h1) hne
  · intro f hm u w hj
    rw [e1, e2, List.flatten_append] at hm
    have hm' : (f ∈ s.stk ∨ f ∈ s.bls.flatten) ∨ (f ∈ r ∨ f ∈ nb.flatten) := by
      rcases hm with hm | hm <;> rcases List.mem_append.1 hm with hm | hm <;> simp [hm]
    rcases hm' with hm' | hm'
    · have h1 := h.old f hm' u w hj
      rw [h'.same h1]; exact h1
    · rcases (e3 f).1 hm' with ⟨u', w', hu, hj'⟩ | ⟨h1, _⟩
      · have hup : u' ∉ x :: p := fun hm => by
          rcases List.mem_cons.1 hm with rfl | hm
          · exact h.xn hu.1
          · exact (h.path u' hm).1 hu.1
        have h2 := (h'.fin u' hu.2 hup f w' hj').1
        rcases hj'.ends hj with ⟨rfl, rfl⟩ | ⟨rfl, rfl⟩
        · exact hu.2
        · exact h2
      · obtain rfl : f = i := by simpa using h1
        have hJ := h.lat f (List.mem_cons_self ..)
        have h2 := h'.done f (by simp)
        rcases hJ.ends hj with ⟨rfl, rfl⟩ | ⟨rfl, rfl⟩
        · rw [hx]; exact h.xn
        · exact h2

theorem post_nil {x : Nat} {b : Int} {p : List Nat} {s : Se} (h : Pre es n ends x b p [] s) : Post es n ends x b p [] s s where
  keeps := ⟨h.good, List.prefix_refl _, fun _ _ => rfl, by simp, Nat.le_refl _, Nat.le_refl _⟩
  fin := h.fin
  done := by simp
  inj := h.inj
  cnt := ⟨Nat.le_refl _, h.cnt⟩
  newc := fun v hv => absurd hv.1 hv.2
  lowkeep := fun _ _ _ => rfl
  lowle := Nat.le_refl _
  lowb := fun f u z hu => absurd hu.1 hu.2
  lowb2 := by simp
  loww := .inl rfl
  conn := fun u hu => absurd hu.1 hu.2
  ex := ⟨[], [], by simp, by simp, fun f => ⟨by simp, fun h => by rcases h with ⟨u, w, hu, _⟩ | h; exact absurd hu.1 hu.2; simp at h⟩, by simp, by simp, by simp, by simp, by simp⟩

theorem post_comp {x i : Nat} {b : Int} {p l : List Nat} {s s1 s' : Se} (h0 : Pre es n ends x b p (i :: l) s) (h : Post es n ends x b p [i] s s1) (h' : Post es n ends x b p l s1 s') : Post es n ends x b p (i :: l) s s' := by
  have hN : ∀ v, Nw s s' v ↔ Nw s s1 v ∨ Nw s1 s' v := by
    intro v
    constructor
    · intro ⟨a, c⟩
      by_cases hv : nm s1 v = 0
      · exact .inr ⟨hv, c⟩
      · exact .inl ⟨a, hv⟩
    · rintro (⟨a, c⟩ | ⟨a, c⟩)
      · exact ⟨a, by rw [h'.same c]; exact c⟩
      · refine ⟨?_, c⟩
        by_cases hv : nm s v = 0
        · exact hv
        · exact absurd a (by rw [h.same hv]; exact hv)
  have hx1 : nm s1 x = nm s x := h.same h0.xn
  have hx2 : nm s' x = nm s1 x := h'.same (by rw [hx1]; exact h0.xn)
  obtain ⟨r, nb, e1, e2, e3, e4, e5, e6, e7, e8⟩ := h.ex
  obtain ⟨r', nb', g1, g2, g3, g4, g5, g6, g7, g8⟩ := h'.ex
  have hix : i ∈ [i] := by simp
  have hoi := h.done i hix
  refine ⟨?_, h'.fin, ?_, h'.inj, ⟨Nat.le_trans h.cnt.1 h'.cnt.1, h'.cnt.2⟩, ?_, ?_, Nat.le_trans h'.lowle h.lowle, ?_, ?_, ?_, ?_, ?_⟩
  · have := h.keeps.trans h'.keeps
    exact this.mono (by simp; omega)
  · intro f hf
    rcases List.mem_cons.1 hf with rfl | hf
    · rw [h'.same hoi]; exact hoi
    · exact h'.done f hf
  · intro v hv
    rcases (hN v).1 hv with hv | hv
    · have := h.newc v hv; rw [h'.same hv.2]; exact this
    · have := h'.newc v hv; have := h.cnt.1; omega
  · intro v hv hvx
    rw [h'.lowkeep v (fun hn => hv ((hN v).2 (.inr hn))) hvx, h.lowkeep v (fun hn => hv ((hN v).2 (.inl hn))) hvx]
  · intro f u z hu hj hz hzx
    have hz1 : ¬ Nw s s1 z := fun hn => hz ((hN z).2 (.inl hn))
    have hz2 : ¬ Nw s1 s' z := fun hn => hz ((hN z).2 (.inr hn))
    rcases (hN u).1 hu with hu | hu
    · have h1 := h.lowb f u z hu hj hz1 hzx
      have h2 := h'.lowle
      have h3 : nm s' z = nm s1 z := by
        by_cases hzz : nm s1 z = 0
        · rcases new_out h0 h.fin hu hj with hh | hh
          · exact absurd hh hz1
          · rcases List.mem_cons.1 hh with hh | hh
            · exact absurd hh hzx
            · have := (h0.path z hh).1
              rw [h.same this] at hzz
              exact absurd hzz this
        · exact h'.same hzz
      omega
    · exact h'.lowb f u z hu hj hz2 hzx
  · intro f hf hb hlt
    rcases List.mem_cons.1 hf with rfl | hf
    · have h1 := h'.same hoi
      rw [h1] at hlt ⊢
      have := h.lowb2 f hix hb (by omega)
      have := h'.lowle
      omega
    · exact h'.lowb2 f hf hb hlt
  · rcases h'.loww with hl | ⟨f, u, z, hu, hj, hz, hn⟩
    · rcases h.loww with hl' | ⟨f, u, z, hu, hj, hz, hn⟩
      · exact .inl (hl.trans hl')
      · refine .inr ⟨f, u, z, hu.imp_right fun hu => (hN u).2 (.inl hu), hj, hz, ?_⟩
        rw [hl, ← hn, h'.same (by rw [h.same (h0.path z hz).1]; exact (h0.path z hz).1)]
    · exact .inr ⟨f, u, z, hu.imp_right fun hu => (hN u).2 (.inr hu), hj, hz, hn⟩
  · intro u hu
    rcases (hN u).1 hu with hu | hu
    · exact (h.conn u hu).mono (fun _ h => h) fun v hv => hv.imp_left fun hv => (hN v).2 (.inl hv)
    · exact (h'.conn u hu).mono (fun _ h => h) fun v hv => hv.imp_left fun hv => (hN v).2 (.inr hv)
  · refine ⟨r ++ r', nb ++ nb', by rw [g1, e1, List.append_assoc], by rw [g2, e2, List.append_assoc], ?_, ?_, ?_, ?_, ?_, ?_⟩
    · intro f
      have key : (f ∈ r ++ r' ∨ f ∈ (nb ++ nb').flatten) ↔ ((f ∈ r ∨ f ∈ nb.flatten) ∨ (f ∈ r' ∨ f ∈ nb'.flatten)) := by
        rw [List.flatten_append, List.mem_append, List.mem_append]
        constructor
        · rintro ((h | h) | (h | h)) <;> simp [h]
        · rintro ((h | h) | (h | h)) <;> simp [h]
      rw [key, e3, g3]
      constructor
      · rintro ((⟨u, w, hu, hj⟩ | ⟨h1, h2, h3⟩) | (⟨u, w, hu, hj⟩ | ⟨h1, h2, h3⟩))
        · exact .inl ⟨u, w, (hN u).2 (.inl hu), hj⟩
        · obtain rfl : f = i := by simpa using h1
          exact .inr ⟨by simp, h2, by rw [h'.same hoi]; omega⟩
        · exact .inl ⟨u, w, (hN u).2 (.inr hu), hj⟩
        · exact .inr ⟨List.mem_cons_of_mem _ h1, h2, h3⟩
      · rintro (⟨u, w, hu, hj⟩ | ⟨h1, h2, h3⟩)
        · rcases (hN u).1 hu with hu | hu
          · exact .inl (.inl ⟨u, w, hu, hj⟩)
          · exact .inr (.inl ⟨u, w, hu, hj⟩)
        · rcases List.mem_cons.1 h1 with rfl | h1
          · exact .inl (.inr ⟨by simp, h2, by rw [h'.same hoi] at h3; omega⟩)
          · exact .inr (.inr ⟨h1, h2, h3⟩)
    · rw [List.flatten_append]
      have hd : ∀ f, f ∈ r ∨ f ∈ nb.flatten → f ∈ r' ∨ f ∈ nb'.flatten → False := by
        intro f h1 h2
        have := g5 f h2
        rw [e1, e2, List.flatten_append] at this
        rcases h1 with h1 | h1
        · exact this.1 (List.mem_append_right _ h1)
        · exact this.2 (List.mem_append_right _ h1)
      obtain ⟨a1, a2, a3⟩ := List.nodup_append.1 e4
      obtain ⟨b1, b2, b3⟩ := List.nodup_append.1 g4
      refine List.nodup_append.2 ⟨List.nodup_append.2 ⟨a1, b1, ?_⟩, List.nodup_append.2 ⟨a2, b2, ?_⟩, ?_⟩
      · rintro f hf g hg rfl; exact hd f (.inl hf) (.inl hg)
      · rintro f hf g hg rfl; exact hd f (.inr hf) (.inr hg)
      · rintro f hf g hg rfl
        rcases List.mem_append.1 hf with hf | hf <;> rcases List.mem_append.1 hg with hg | hg
        · exact a3 f hf f hg rfl
        · exact hd f (.inl hf) (.inr hg)
        · exact hd f (.inr hg) (.inl hf)
        · exact b3 f hf f hg rfl
    · intro f hf
      rw [List.flatten_append, List.mem_append, List.mem_append] at hf
      have hf' : (f ∈ r ∨ f ∈ nb.flatten) ∨ (f ∈ r' ∨ f ∈ nb'.flatten) := by
        rcases hf with (h | h) | (h | h) <;> simp [h]
      rcases hf' with hf | hf
      · exact e5 f hf
      · have := g5 f hf
        rw [e1, e2, List.flatten_append] at this
        exact ⟨fun hm => this.1 (List.mem_append_left _ hm), fun hm => this.2 (List.mem_append_left _ hm)⟩
    · intro k hk f hf
      rcases List.mem_append.1 hf with hf | hf
      · exact e6 k hk f hf
      · exact g6 k hk f hf
    · intro hp; rw [e7 hp, g7 hp]; rfl
    · intro B hB
      rcases List.mem_append.1 hB with hB | hB
      · exact e8 B hB
      · exact g8 B hB

/-- An edge that is passed by. -/
theorem post_pass {x i : Nat} {b : Int} {p l : List Nat} {s : Se} (h : Pre es n ends x b p (i :: l) s) (hn : nm s (oth es i x) ≠ 0) (hb : (i : Int) = b ∨ nm s x ≤ nm s (oth es i x)) : Post es n ends x b p [i] s s where
  keeps := (⟨h.good, List.prefix_refl _, fun _ _ => rfl, by simp, Nat.le_refl _, Nat.le_refl _⟩ : Keeps es n ends 0 s s).mono (by simp)
  fin := h.fin
  done := fun f hf => by obtain rfl : f = i := by simpa using hf
                         exact hn
  inj := h.inj
  cnt := ⟨Nat.le_refl _, h.cnt⟩
  newc := fun v hv => absurd hv.1 hv.2
  lowkeep := fun _ _ _ => rfl
  lowle := Nat.le_refl _
  lowb := fun f u z hu => absurd hu.1 hu.2
  lowb2 := fun f hf hb' hlt => by
    obtain rfl : f = i := by simpa using hf
    rcases hb with hb | hb
    · exact absurd hb hb'
    · omega
  loww := .inl rfl
  conn := fun u hu => absurd hu.1 hu.2
  ex := ⟨[], [], by simp, by simp, fun f => ⟨by simp, fun h => by
    rcases h with ⟨u, w, hu, _⟩ | ⟨h1, h2, h3⟩
    · exact absurd hu.1 hu.2
    · obtain rfl : f = i := by simpa using h1
      rcases hb with hb | hb
      · exact absurd hb h2
      · omega⟩, by simp, by simp, by simp, by simp, by simp⟩

theorem path_notin {x : Nat} {b : Int} {p l : List Nat} {s : Se} (h : Pre es n ends x b p l s) : x ∉ p := fun hm => by
  have := (h.path x hm).2; omega

/-- An edge that leads back. -/
theorem post_back {x i : Nat} {b : Int} {p l : List Nat} {s : Se} (H : EndsAll es n ends) (h : Pre es n ends x b p (i :: l) s) (hb : (i : Int) ≠ b) (hn : nm s (oth es i x) ≠ 0) (hlt : nm s (oth es i x) < nm s x) :
    Post es n ends x b p [i] s ((s.push i).lowTo x (nm s (oth es i x))) := by
  have hJ := h.lat i (List.mem_cons_self ..)
  have hxlt : x < n := nm_lt h.good h.xn
  have hz : oth es i x ∈ p := by
    by_cases hz : oth es i x ∈ x :: p
    · rcases List.mem_cons.1 hz with e | e
      · rw [e] at hlt; omega
      · exact e
    · have := (h.fin _ hn hz i x hJ.symm).2 (by simp)
      omega
  have hlow : lw ((s.push i).lowTo x (nm s (oth es i x))) x = min (lw s x) (nm s (oth es i x)) := by
    show (s.low.set x _).getD x 0 = _
    rw [getD_set_self _ _ _ (by rw [h.good.lowL]; exact hxlt)]; rfl
  refine ⟨keeps_back H.toEndsOk h.good (J_at hJ) h.xn hn _, h.fin, ?_, h.inj, ⟨Nat.le_refl _, h.cnt⟩, fun v hv => absurd hv.1 hv.2, ?_, ?_, fun f u z hu => absurd hu.1 hu.2, ?_, ?_, fun u hu => absurd hu.1 hu.2, ?_⟩
  · intro f hf
    obtain rfl : f = i := by simpa using hf
    exact hn
  · intro v _ hv
    show (s.low.set x _).getD v 0 = _
    rw [getD_set_ne _ _ _ _ (Ne.symm hv)]
  · rw [hlow]; omega
  · intro f hf _ _
    obtain rfl : f = i := by simpa using hf
    rw [hlow]; show _ ≤ nm s (oth es f x); omega
  · rw [hlow]
    by_cases hc : lw s x ≤ nm s (oth es i x)
    · left; omega
    · right
      refine ⟨i, x, oth es i x, .inl ⟨rfl, hb⟩, hJ, hz, ?_⟩
      show nm s (oth es i x) = _; omega
  · refine ⟨[i], [], rfl, by simp [Se.lowTo, Se.push], ?_, by simp, ?_, ?_, ?_, by simp⟩
    · intro f
      constructor
      · intro hf
        obtain rfl : f = i := by simpa using hf
        exact .inr ⟨by simp, hb, hlt⟩
      · rintro (⟨u, w, hu, _⟩ | ⟨h1, _⟩)
        · exact absurd hu.1 hu.2
        · simpa using h1
    · intro f hf
      obtain rfl : f = i := by simpa using hf
      constructor
      · intro hm; have := h.new f (List.mem_cons_self ..) hb (.inl hm); omega
      · intro hm; have := h.new f (List.mem_cons_self ..) hb (.inr hm); omega
    · intro k hk f hf
      obtain rfl : f = i := by simpa using hf
      rcases h.byE with ⟨e, _⟩ | ⟨k', x0, p', e1, e2, e3⟩
      · rw [e] at hz; simp at hz
      · obtain rfl : k' = k := by omega
        subst e2
        have hch := h.ch
        exact .one ⟨x, x0, oth es f x, e3, hJ, (Ch.cn hch.2 hz).mono (fun _ h => h) fun v hv e => path_notin h (e ▸ hv)⟩
    · intro hp; rw [hp] at hz; simp at hz
end
end Go.Proofs.Ytmdophgpgojbfaa
