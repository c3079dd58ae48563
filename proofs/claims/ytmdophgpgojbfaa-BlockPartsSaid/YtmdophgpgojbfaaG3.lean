/- The search in depth makes the blocks: an edge along which the search goes on; a whole run. -/
import Derived.Test.YtmdophgpgojbfaaG2
namespace Go.Proofs.Ytmdophgpgojbfaa
open Go.Blk
set_option linter.unusedVariables false
set_option linter.unusedSimpArgs false
section
variable {es : List (Nat × Nat)} {n : Nat} {ends : List (List Nat)}

theorem after_cnt (s : Se) (x y i : Nat) : (s.after x y i).cnt = s.cnt := by unfold Se.after; split <;> rfl
theorem after_low (s : Se) (x y i : Nat) : (s.after x y i).low = s.low.set x (min (s.low.getD x 0) (s.low.getD y 0)) := by unfold Se.after; split <;> rfl
theorem nm_enter {s : Se} {y i : Nat} (hy : y < s.num.length) : nm ((s.push i).enter y) y = s.cnt + 1 := getD_set_self _ _ _ hy
theorem nm_enter_ne {s : Se} {y i v : Nat} (h : v ≠ y) : nm ((s.push i).enter y) v = nm s v := getD_set_ne _ _ _ _ (Ne.symm h)
theorem lw_enter {s : Se} {y i : Nat} (hy : y < s.low.length) : lw ((s.push i).enter y) y = s.cnt + 1 := getD_set_self _ _ _ hy
theorem lw_enter_ne {s : Se} {y i v : Nat} (h : v ≠ y) : lw ((s.push i).enter y) v = lw s v := getD_set_ne _ _ _ _ (Ne.symm h)

theorem pre_tree {x i y : Nat} {b : Int} {p l : List Nat} {s : Se} (H : EndsAll es n ends) (h : Pre es n ends x b p (i :: l) s) (hy : y = oth es i x) (h0 : nm s y = 0) :
    Pre es n ends y (i : Int) (x :: p) (ends.getD y []) ((s.push i).enter y) := by
  have hJ := h.lat i (List.mem_cons_self ..)
  rw [← hy] at hJ
  obtain ⟨g1, g2, g3⟩ := good_tree H.toEndsOk h.good (J_at hJ) h.xn hy h0
  have hyL : y < s.num.length := by rw [h.good.numL]; exact g1
  have e1 := nm_enter (s := s) (i := i) hyL
  have e2 : ∀ v, v ≠ y → nm ((s.push i).enter y) v = nm s v := fun v hv => nm_enter_ne hv
  have hne : ∀ v, nm s v ≠ 0 → v ≠ y := fun v hv e => hv (e ▸ h0)
  have hpn : ∀ z ∈ x :: p, nm s z ≠ 0 := fun z hz => by
    rcases List.mem_cons.1 hz with rfl | hz
    · exact h.xn
    · exact (h.path z hz).1
  refine ⟨g2, g3, fun z hz => ?_, ⟨⟨i, hJ.symm⟩, h.ch⟩, ?_, ?_, ?_, ?_, .inr ⟨i, x, p, rfl, rfl, hJ.symm⟩, ?_, H.nodup y, fun f hf => J_oth (H.at_ y g1 f hf), ?_⟩
  · have h1 := hpn z hz
    have h2 := h.cnt z
    rw [e2 z (hne z h1), e1]
    exact ⟨h1, by omega⟩
  · intro v hv hm f w hj
    have hvy : v ≠ y := fun e => hm (by simp [e])
    rw [e2 v hvy] at hv
    obtain ⟨a1, a2⟩ := h.fin v hv (fun hm' => hm (List.mem_cons_of_mem _ hm')) f w hj
    rw [e2 v hvy, e2 w (hne w a1)]
    refine ⟨a1, fun hw => ?_⟩
    rcases List.mem_cons.1 hw with e | hw
    · exact absurd e (hne w a1)
    · exact a2 hw
  · intro v w hv hvw
    by_cases hvy : v = y
    · by_cases hwy : w = y
      · rw [hvy, hwy]
      · have := h.cnt w
        rw [hvy, e1, e2 w hwy] at hvw; omega
    · rw [e2 v hvy] at hv hvw
      by_cases hwy : w = y
      · have := h.cnt v
        rw [hwy, e1] at hvw; omega
      · rw [e2 w hwy] at hvw
        exact h.inj v w hv hvw
  · intro v
    show _ ≤ s.cnt + 1
    by_cases hvy : v = y
    · rw [hvy, e1]; omega
    · rw [e2 v hvy]; have := h.cnt v; omega
  · rw [e1, lw_enter (by rw [h.good.lowL]; exact g1)]; omega
  · intro f hf hfi hm
    have hj := J_oth (H.at_ y g1 f hf)
    exfalso
    refine h.old f ?_ y _ hj h0
    rcases hm with hm | hm
    · rcases List.mem_append.1 hm with hm | hm
      · exact .inl hm
      · simp at hm; exact absurd (by simp [hm]) hfi
    · exact .inr hm
  · intro f hm u w hj
    have : (f ∈ s.stk ∨ f ∈ s.bls.flatten) ∨ f = i := by
      rcases hm with hm | hm
      · rcases List.mem_append.1 hm with hm | hm
        · exact .inl (.inl hm)
        · exact .inr (by simpa using hm)
      · exact .inl (.inr hm)
    rcases this with hm | rfl
    · have h1 := h.old f hm u w hj
      rw [e2 u (hne u h1)]; exact h1
    · rcases hJ.ends hj with ⟨rfl, rfl⟩ | ⟨rfl, rfl⟩
      · rw [e2 u (hne u h.xn)]; exact h.xn
      · rw [e1]; omega

theorem post_tree {x i y : Nat} {b : Int} {p l : List Nat} {s s1 : Se} (H : EndsAll es n ends) (h : Pre es n ends x b p (i :: l) s) (hb : (i : Int) ≠ b) (hy : y = oth es i x) (h0 : nm s y = 0)
    (hp : Post es n ends y (i : Int) (x :: p) (ends.getD y []) ((s.push i).enter y) s1) : Post es n ends x b p [i] s (s1.after x y i) := by
  have hJ := h.lat i (List.mem_cons_self ..)
  rw [← hy] at hJ
  obtain ⟨g1, g2, g3⟩ := good_tree H.toEndsOk h.good (J_at hJ) h.xn hy h0
  have hpre := pre_tree H h hy h0
  have hyL : y < s.num.length := by rw [h.good.numL]; exact g1
  have e1 : nm ((s.push i).enter y) y = s.cnt + 1 := nm_enter hyL
  have e2 : ∀ v, v ≠ y → nm ((s.push i).enter y) v = nm s v := fun v hv => nm_enter_ne hv
  have hne : ∀ v, nm s v ≠ 0 → v ≠ y := fun v hv e => hv (e ▸ h0)
  have hpn : ∀ z ∈ x :: p, nm s z ≠ 0 := fun z hz => by
    rcases List.mem_cons.1 hz with rfl | hz
    · exact h.xn
    · exact (h.path z hz).1
  have hyp : y ∉ x :: p := fun hm => hpn y hm h0
  have hxy : x ≠ y := fun e => hyp (by simp [e])
  have hy1 : nm s1 y = s.cnt + 1 := by rw [hp.same (by rw [e1]; omega), e1]
  have hs1 : ∀ v, nm s v ≠ 0 → nm s1 v = nm s v := fun v hv => by rw [hp.same (by rw [e2 v (hne v hv)]; exact hv), e2 v (hne v hv)]
  have hnum : ∀ v, nm (s1.after x y i) v = nm s1 v := fun v => by show (s1.after x y i).num.getD v 0 = _; rw [after_num]
  have hcnt : s.cnt + 1 ≤ s1.cnt := hp.cnt.1
  have hNy : ∀ v, Nw s (s1.after x y i) v ↔ v = y ∨ Nw ((s.push i).enter y) s1 v := by
    intro v
    constructor
    · intro ⟨a, c⟩
      by_cases hv : v = y
      · exact .inl hv
      · exact .inr ⟨by rw [e2 v hv]; exact a, by rw [hnum] at c; exact c⟩
    · rintro (rfl | ⟨a, c⟩)
      · exact ⟨h0, by rw [hnum, hy1]; omega⟩
      · have hv : v ≠ y := fun e => by rw [e, e1] at a; omega
        exact ⟨by rw [← e2 v hv]; exact a, by rw [hnum]; exact c⟩
  have hN1 : ∀ v, nm s v ≠ 0 → ¬ Nw ((s.push i).enter y) s1 v := fun v hv hn => by
    have := hn.1; rw [e2 v (hne v hv)] at this; exact hv this
  have hxlow : lw s1 x = lw s x := by rw [hp.lowkeep x (hN1 x h.xn) hxy, lw_enter_ne hxy]
  have hxlt : x < n := nm_lt h.good h.xn
  have hl2 : lw (s1.after x y i) x = min (lw s x) (lw s1 y) := by
    show (s1.after x y i).low.getD x 0 = _
    rw [after_low, getD_set_self _ _ _ (by rw [hp.keeps.good.lowL]; exact hxlt)]
    rw [show s1.low.getD x 0 = lw s x from hxlow]
  have hl3 : ∀ v, v ≠ x → lw (s1.after x y i) v = lw s1 v := fun v hv => by
    show (s1.after x y i).low.getD v 0 = _
    rw [after_low, getD_set_ne _ _ _ _ (Ne.symm hv)]
  have hfin2 : ∀ v, nm s1 v ≠ 0 → v ∉ x :: p → ∀ f w, J es f v w → nm s1 w ≠ 0 ∧ (w ∈ x :: p → nm s1 w < nm s1 v) := by
    intro v hv hm f w hj
    by_cases hvy : v = y
    · subst hvy
      have h1 := hp.done f (H.all f v w hj)
      rw [J_othE hj] at h1
      refine ⟨h1, fun hw => ?_⟩
      rw [hs1 w (hpn w hw), hy1]
      have := h.cnt w; omega
    · obtain ⟨a1, a2⟩ := hp.fin v hv (fun hm' => by
        rcases List.mem_cons.1 hm' with e | e
        · exact hvy e
        · exact hm e) f w hj
      exact ⟨a1, fun hw => a2 (List.mem_cons_of_mem _ hw)⟩
  have hout : ∀ f u z, Nw s (s1.after x y i) u → J es f u z → Nw s (s1.after x y i) z ∨ z ∈ x :: p := fun f u z hu hj =>
    new_out h (fun v hv hm f w hj => by rw [hnum] at hv; rw [hnum, hnum]; exact hfin2 v hv hm f w hj) hu hj
  have hNp : ∀ z, z ∈ x :: p → ¬ Nw s (s1.after x y i) z := fun z hz hn => hpn z hz hn.1
  have hlo : ∀ f u z, Nw s (s1.after x y i) u → J es f u z → ¬ Nw s (s1.after x y i) z → z ≠ x → f ≠ i ∧ z ∈ p ∧ lw s1 y ≤ nm s1 z := by
    intro f u z hu hj hz hzx
    have hzp : z ∈ p := by
      rcases hout f u z hu hj with hh | hh
      · exact absurd hh hz
      · rcases List.mem_cons.1 hh with hh | hh
        · exact absurd hh hzx
        · exact hh
    have hfi : f ≠ i := by
      rintro rfl
      rcases hJ.ends hj with ⟨rfl, rfl⟩ | ⟨rfl, rfl⟩
      · exact h.xn hu.1
      · exact hzx rfl
    refine ⟨hfi, hzp, ?_⟩
    have hzy : z ≠ y := fun e => hz ((hNy z).2 (.inl e))
    rcases (hNy u).1 hu with rfl | hu
    · have := hp.lowb2 f (H.all f u z hj) (by omega) (by rw [J_othE hj, hy1, hs1 z (hpn z (List.mem_cons_of_mem _ hzp))]; have := h.cnt z; omega)
      rw [J_othE hj] at this; exact this
    · exact hp.lowb f u z hu hj (fun hn => hz ((hNy z).2 (.inr hn))) hzy
  obtain ⟨r1, nb1, d1, d2, d3, d4, d5, d6, d7, d8⟩ := hp.ex
  have hkt := keeps_tree H.toEndsOk h.good (J_at hJ) h.xn hy h0 hp.keeps
  have hA : ∀ f, (f = i ∨ f ∈ r1 ∨ f ∈ nb1.flatten) ↔ ∃ u w, Nw s (s1.after x y i) u ∧ J es f u w := by
    intro f
    constructor
    · rintro (rfl | hf)
      · exact ⟨y, x, (hNy y).2 (.inl rfl), hJ.symm⟩
      · rcases (d3 f).1 hf with ⟨u, w, hu, hj⟩ | ⟨h1, _, _⟩
        · exact ⟨u, w, (hNy u).2 (.inr hu), hj⟩
        · exact ⟨y, oth es f y, (hNy y).2 (.inl rfl), J_oth (H.at_ y g1 f h1)⟩
    · rintro ⟨u, w, hu, hj⟩
      rcases (hNy u).1 hu with rfl | hu
      · by_cases hfi : f = i
        · exact .inl hfi
        · refine .inr ((d3 f).2 ?_)
          have hfe := H.all f u w hj
          have h1 := hp.done f hfe
          rw [J_othE hj] at h1
          have hwu : w ≠ u := fun e => H.noloop f u (e ▸ hj)
          by_cases hlt : nm s1 w < nm s1 u
          · exact .inr ⟨hfe, by omega, by rw [J_othE hj]; exact hlt⟩
          · refine .inl ⟨w, u, ⟨?_, h1⟩, hj.symm⟩
            rw [e2 w hwu]
            by_cases hw0 : nm s w = 0
            · exact hw0
            · exfalso
              rw [hs1 w hw0, hy1] at hlt
              have := h.cnt w; omega
      · exact .inr ((d3 f).2 (.inl ⟨u, w, hu, hj⟩))
  have hir : i ∉ r1 ∧ i ∉ nb1.flatten := by
    constructor
    · intro hm; exact (d5 i (.inl hm)).1 (by show i ∈ s.stk ++ [i]; simp)
    · intro hm; exact (d5 i (.inr hm)).1 (by show i ∈ s.stk ++ [i]; simp)
  have hi5 : i ∉ s.stk ∧ i ∉ s.bls.flatten := ⟨fun hm => h.old i (.inl hm) y x hJ.symm h0, fun hm => h.old i (.inr hm) y x hJ.symm h0⟩
  have hd5 : ∀ f, f ∈ r1 ∨ f ∈ nb1.flatten → f ∉ s.stk ∧ f ∉ s.bls.flatten := fun f hf => by
    obtain ⟨a1, a2⟩ := d5 f hf
    exact ⟨fun hm => a1 (by show f ∈ s.stk ++ [i]; simp [hm]), a2⟩
  have d1' : s1.stk = s.stk ++ i :: r1 := by rw [d1]; show (s.stk ++ [i]) ++ r1 = _; simp
  have d2' : s1.bls = s.bls ++ nb1 := d2
  have hoiv : ∀ f, f ∈ [i] → oth es f x = y := fun f hf => by obtain rfl : f = i := by simpa using hf
                                                              exact hy.symm
  refine ⟨hkt.1, ?_, ?_, ?_, ?_, ?_, ?_, ?_, ?_, ?_, ?_, ?_, ?_⟩
  · intro v hv hm f w hj
    rw [hnum] at hv; rw [hnum, hnum]; exact hfin2 v hv hm f w hj
  · intro f hf
    rw [hnum, hoiv f hf, hy1]; omega
  · intro v w hv hvw
    rw [hnum] at hv; rw [hnum, hnum] at hvw
    exact hp.inj v w hv hvw
  · rw [after_cnt]
    exact ⟨by omega, fun v => by rw [hnum]; exact hp.cnt.2 v⟩
  · intro v hv
    rw [hnum]
    rcases (hNy v).1 hv with rfl | hv
    · rw [hy1]; omega
    · have : s.cnt + 1 < nm s1 v := hp.newc v hv
      omega
  · intro v hv hvx
    have hvy : v ≠ y := fun e => hv ((hNy v).2 (.inl e))
    rw [hl3 v hvx, hp.lowkeep v (fun hn => hv ((hNy v).2 (.inr hn))) hvy, lw_enter_ne hvy]
  · rw [hl2]; omega
  · intro f u z hu hj hz hzx
    have := (hlo f u z hu hj hz hzx).2.2
    rw [hl2, hnum]; omega
  · intro f hf _ hlt
    rw [hnum, hnum, hoiv f hf, hy1, hs1 x h.xn] at hlt
    have := h.cnt x; omega
  · rw [hl2]
    by_cases hc : lw s x ≤ lw s1 y
    · left; omega
    · right
      have hwit : ∃ (f u z : Nat), Nw s (s1.after x y i) u ∧ J es f u z ∧ z ∈ p ∧ nm s1 z = lw s1 y := by
        have h1 := h.lowx
        have h2 := h.cnt x
        rcases hp.loww with hw | ⟨f, u, z, hu, hj, hz, hn⟩
        · rw [lw_enter (by rw [h.good.lowL]; exact g1)] at hw
          omega
        · have hzx : z ≠ x := fun e => by rw [e, hs1 x h.xn] at hn; omega
          have hzp : z ∈ p := by
            rcases List.mem_cons.1 hz with hh | hh
            · exact absurd hh hzx
            · exact hh
          exact ⟨f, u, z, (hNy u).2 (hu.imp (fun hu => hu.1) fun hu => hu), hj, hzp, hn⟩
      obtain ⟨f, u, z, hu, hj, hz, hn⟩ := hwit
      exact ⟨f, u, z, .inr hu, hj, hz, by rw [hnum, hn]; omega⟩
  · intro u hu
    have hyN := (hNy y).2 (.inl rfl)
    have h1 : Cn es (fun _ => True) (fun v => Nw s (s1.after x y i) v ∨ v = x) x y := .one (.inr rfl) (.inl hyN) trivial hJ
    rcases (hNy u).1 hu with rfl | hu
    · exact h1
    · exact h1.trans ((hp.conn u hu).mono (fun _ h => h) fun v hv => .inl ((hNy v).2 hv.symm))
  · by_cases hc : nm s1 x ≤ lw s1 y
    · -- the block is made
      have hpos : ∀ q : Se, q.stk = s1.stk → q.pos i = s.stk.length := fun q hq => pos_at q s.stk r1 i (by rw [hq, d1']) hi5.1
      have hst : (s1.after x y i).stk = s.stk := by
        unfold Se.after
        rw [if_pos hc]
        show s1.stk.take _ = _
        rw [hpos (s1.lowTo x (s1.low.getD y 0)) rfl, d1']; simp
      have hbl : (s1.after x y i).bls = s.bls ++ (nb1 ++ [(i :: r1).mergeSort fun x y => decide (x ≤ y)]) := by
        unfold Se.after
        rw [if_pos hc]
        show s1.bls ++ [(s1.stk.drop _).mergeSort _] = _
        rw [hpos (s1.lowTo x (s1.low.getD y 0)) rfl, d1', d2']; simp
      have hsep : ∀ f k, f = i ∨ f ∈ r1 → R es f k → k = i ∨ k ∈ r1 := by
        intro f k hf hR
        have hk : k = i ∨ k ∈ r1 ∨ k ∈ nb1.flatten := by
          refine (hA k).2 ?_
          refine R_closed (x := x) (N := Nw s (s1.after x y i)) (hNp x (by simp)) (fun j u z hu hj => ?_) hR ((hA f).1 ?_)
          · by_cases hz : Nw s (s1.after x y i) z
            · exact .inl hz
            · by_cases hzx : z = x
              · exact .inr hzx
              · exfalso
                obtain ⟨_, hzp, hle⟩ := hlo j u z hu hj hz hzx
                have := (h.path z hzp).2
                rw [hs1 z (h.path z hzp).1] at hle
                rw [hs1 x h.xn] at hc; omega
          · rcases hf with hf | hf
            · exact .inl hf
            · exact .inr (.inl hf)
        rcases hk with hk | hk | hk
        · exact .inl hk
        · exact .inr hk
        · exfalso
          obtain ⟨B, hB, hkB⟩ := List.mem_flatten.1 hk
          have hfB := (d8 B hB).sep k f hkB hR.symm
          have hfn : f ∈ nb1.flatten := List.mem_flatten.2 ⟨B, hB, hfB⟩
          rcases hf with rfl | hf
          · exact hir.2 hfn
          · exact (List.nodup_append.1 d4).2.2 f hf f hfn rfl
      refine ⟨[], nb1 ++ [(i :: r1).mergeSort fun x y => decide (x ≤ y)], by rw [hst]; simp, hbl, ?_, ?_, ?_, by simp, by simp, ?_⟩
      · intro f
        have : (f ∈ ([] : List Nat) ∨ f ∈ (nb1 ++ [(i :: r1).mergeSort fun x y => decide (x ≤ y)]).flatten) ↔ (f = i ∨ f ∈ r1 ∨ f ∈ nb1.flatten) := by
          rw [List.flatten_append, List.flatten_singleton, List.mem_append, List.mem_mergeSort, List.mem_cons]
          constructor
          · rintro (h | h | h | h)
            · simp at h
            · exact .inr (.inr h)
            · exact .inl h
            · exact .inr (.inl h)
          · rintro (h | h | h) <;> simp [h]
        rw [this, hA]
        constructor
        · exact .inl
        · rintro (h | ⟨h1, _, h3⟩)
          · exact h
          · exfalso
            rw [hnum, hnum, hoiv f h1, hy1, hs1 x h.xn] at h3
            have := h.cnt x; omega
      · rw [List.nil_append, List.flatten_append, List.flatten_singleton]
        have hpm : ((i :: r1).mergeSort fun x y => decide (x ≤ y)).Perm (i :: r1) := List.mergeSort_perm _ _
        obtain ⟨a1, a2, a3⟩ := List.nodup_append.1 d4
        refine List.nodup_append.2 ⟨a2, hpm.nodup_iff.2 (List.nodup_cons.2 ⟨hir.1, a1⟩), ?_⟩
        rintro f hf g hg rfl
        rw [List.mem_mergeSort, List.mem_cons] at hg
        rcases hg with rfl | hg
        · exact hir.2 hf
        · exact a3 f hg f hf rfl
      · intro f hf
        rw [List.flatten_append, List.flatten_singleton, List.mem_append, List.mem_mergeSort, List.mem_cons] at hf
        rcases hf with h | h | h | h
        · simp at h
        · exact hd5 f (.inr h)
        · rw [h]; exact hi5
        · exact hd5 f (.inl h)
      · intro B hB
        rcases List.mem_append.1 hB with hB | hB
        · exact d8 B hB
        · obtain rfl : B = (i :: r1).mergeSort fun x y => decide (x ≤ y) := by simpa using hB
          have hone : ∀ f, f = i ∨ f ∈ r1 → Eg es i f := by
            rintro f (rfl | hf)
            · exact .refl
            · exact d6 i rfl f hf
          refine ⟨fun e => ?_, fun f k hf hR => ?_, fun f k hf hk => ?_, ?_⟩
          · have := congrArg List.length e
            simp at this
          · rw [List.mem_mergeSort, List.mem_cons] at hf ⊢
            exact hsep f k hf hR
          · rw [List.mem_mergeSort, List.mem_cons] at hf hk
            exact (hone f hf).symm.trans (hone k hk)
          · have := List.pairwise_mergeSort (le := fun x y : Nat => decide (x ≤ y)) (fun a b c h1 h2 => by simp at h1 h2 ⊢; omega) (fun a b => by simp; omega) (i :: r1)
            exact this.imp fun h => by simpa using h
    · -- the row stays
      have hst : (s1.after x y i).stk = s.stk ++ i :: r1 := by
        unfold Se.after
        rw [if_neg hc]
        exact d1'
      have hbl : (s1.after x y i).bls = s.bls ++ nb1 := by
        unfold Se.after
        rw [if_neg hc]
        exact d2'
      have hlt : lw s1 y < nm s x := by rw [hs1 x h.xn] at hc; omega
      have hlt2 : ∃ (f u z : Nat), Nw s (s1.after x y i) u ∧ J es f u z ∧ z ∈ p ∧ Cn es (fun _ => True) (fun v => v ≠ x) y u := by
        rcases hp.loww with hw | ⟨f, u, z, hu, hj, hz, hn⟩
        · rw [lw_enter (by rw [h.good.lowL]; exact g1)] at hw
          have := h.cnt x; omega
        · have hzx : z ≠ x := fun e => by rw [e, hs1 x h.xn] at hn; omega
          have hzp : z ∈ p := by
            rcases List.mem_cons.1 hz with hh | hh
            · exact absurd hh hzx
            · exact hh
          refine ⟨f, u, z, (hNy u).2 ?_, hj, hzp, ?_⟩
          · exact hu.imp (fun hu => hu.1) fun hu => hu
          · rcases hu with ⟨rfl, _⟩ | hu
            · exact .refl (Ne.symm hxy)
            · refine (hp.conn u hu).mono (fun _ h => h) fun v hv => ?_
              rcases hv with hv | hv
              · intro e; exact hN1 x h.xn (e ▸ hv)
              · rw [hv]; exact Ne.symm hxy
      refine ⟨i :: r1, nb1, hst, hbl, ?_, ?_, ?_, ?_, ?_, d8⟩
      · intro f
        have : (f ∈ i :: r1 ∨ f ∈ nb1.flatten) ↔ (f = i ∨ f ∈ r1 ∨ f ∈ nb1.flatten) := by
          rw [List.mem_cons]
          constructor
          · rintro ((h | h) | h) <;> simp [h]
          · rintro (h | h | h) <;> simp [h]
        rw [this, hA]
        constructor
        · exact .inl
        · rintro (h | ⟨h1, _, h3⟩)
          · exact h
          · exfalso
            rw [hnum, hnum, hoiv f h1, hy1, hs1 x h.xn] at h3
            have := h.cnt x; omega
      · rw [List.cons_append]
        exact List.nodup_cons.2 ⟨fun hm => (List.mem_append.1 hm).elim hir.1 hir.2, d4⟩
      · intro f hf
        rw [List.mem_cons] at hf
        rcases hf with (h | h) | h
        · rw [h]; exact hi5
        · exact hd5 f (.inl h)
        · exact hd5 f (.inr h)
      · intro k hk f hf
        obtain ⟨f', u, z, hu, hj, hz, hcn⟩ := hlt2
        rcases h.byE with ⟨e, _⟩ | ⟨k', x0, p', e1, e2', e3⟩
        · rw [e] at hz; simp at hz
        · obtain rfl : k' = k := by omega
          have hR : R es k' i := by
            refine ⟨x, x0, y, e3, hJ, ?_⟩
            have hch := h.ch
            have hxp := path_notin h
            rw [e2'] at hch hz hxp
            have hzx : z ≠ x := fun e => hxp (e ▸ hz)
            refine ((Ch.cn hch.2 hz).mono (S' := fun v => v ≠ x) (fun _ h => h) fun v hv (e : v = x) => hxp (e ▸ hv)).trans ?_
            exact .step hzx trivial hj.symm hcn.symm
          rcases List.mem_cons.1 hf with rfl | hf
          · exact .one hR
          · exact .step hR (d6 i rfl f hf)
      · intro he
        obtain ⟨f', u, z, hu, hj, hz, hcn⟩ := hlt2
        rw [he] at hz; simp at hz

theorem run_post (H : EndsAll es n ends) {x : Nat} {b : Int} {l : List Nat} {s s' : Se} (h : Run es ends x b l s s') : ∀ p, Pre es n ends x b p l s → Post es n ends x b p l s s' := by
  induction h with
  | nil => exact fun p h => post_nil h
  | @same x i b l s s' he _ ih =>
    intro p h
    have hn : nm s (oth es i x) ≠ 0 := by
      rcases h.byE with ⟨_, e⟩ | ⟨k, x0, p', e1, e2, e3⟩
      · omega
      · obtain rfl : i = k := by omega
        rw [J_othE e3]
        exact (h.path x0 (by rw [e2]; simp)).1
    have h1 := post_pass h hn (.inl he)
    exact post_comp h h1 (ih p (pre_next H h h1))
  | @tree x i b l s s1 s' he h0 _ _ ih1 ih2 =>
    intro p h
    have h1 := post_tree H h he rfl h0 (ih1 _ (pre_tree H h rfl h0))
    exact post_comp h h1 (ih2 p (pre_next H h h1))
  | @back x i b l s s' he h0 hlt _ ih =>
    intro p h
    have h1 := post_back H h he h0 hlt
    exact post_comp h h1 (ih p (pre_next H h h1))
  | @fwd x i b l s s' he h0 hlt _ ih =>
    intro p h
    have h1 := post_pass h h0 (.inr hlt)
    exact post_comp h h1 (ih p (pre_next H h h1))

/-- What holds between the visits from outside. -/
structure Top (es : List (Nat × Nat)) (n : Nat) (ends : List (List Nat)) (s : Se) : Prop where
  good : Good es n s
  fin : ∀ v, nm s v ≠ 0 → ∀ i w, J es i v w → nm s w ≠ 0
  inj : ∀ v w, nm s v ≠ 0 → nm s v = nm s w → v = w
  cnt : ∀ v, nm s v ≤ s.cnt
  stk : s.stk = []
  acc : ∀ f, f ∈ s.bls.flatten ↔ ∃ u w, nm s u ≠ 0 ∧ J es f u w
  nodup : s.bls.flatten.Nodup
  isB : ∀ B ∈ s.bls, IsB es B

def Se.start (n : Nat) : Se := ⟨List.replicate n 0, List.replicate n 0, 0, [], []⟩
theorem nm_start (v : Nat) : nm (Se.start n) v = 0 := by
  show (List.replicate n 0).getD v 0 = 0
  rw [List.getD_eq_getElem?_getD]
  by_cases h : v < n
  · rw [List.getElem?_replicate, if_pos h]; rfl
  · rw [List.getElem?_eq_none (by simpa using h)]; rfl
theorem zeros_start : ∀ m, zeros (List.replicate m 0) = m
  | 0 => rfl
  | m + 1 => by rw [List.replicate_succ]; simp only [zeros, zeros_start m, if_true]; omega
theorem top_start : Top es n ends (Se.start n) where
  good := ⟨by simp [Se.start], by simp [Se.start], by simp [Se.start, zeros_start], by simp [Se.start]⟩
  fin := fun v hv => absurd (nm_start v) hv
  inj := fun v w hv => absurd (nm_start v) hv
  cnt := fun v => by rw [nm_start]; omega
  stk := rfl
  acc := fun f => ⟨by simp [Se.start], fun ⟨u, w, hu, _⟩ => absurd (nm_start u) hu⟩
  nodup := by simp [Se.start]
  isB := by simp [Se.start]
theorem good_enter0 {s : Se} (h : Top es n ends s) {x : Nat} (hx : x < n) (h0 : nm s x = 0) : Good es n (s.enter x) := h.good.enter hx h0
theorem top_visit (H : EndsAll es n ends) {s s' : Se} {x : Nat} (h : Top es n ends s) (hx : x < n) (h0 : nm s x = 0) (hr : Run es ends x (-1) (ends.getD x []) (s.enter x) s') :
    Top es n ends s' ∧ nm s' x ≠ 0 ∧ (∀ v, nm s v ≠ 0 → nm s' v = nm s v) := by
  have hxL : x < s.num.length := by rw [h.good.numL]; exact hx
  have e1 : nm (s.enter x) x = s.cnt + 1 := getD_set_self _ _ _ hxL
  have e2 : ∀ v, v ≠ x → nm (s.enter x) v = nm s v := fun v hv => getD_set_ne _ _ _ _ (Ne.symm hv)
  have hne : ∀ v, nm s v ≠ 0 → v ≠ x := fun v hv e => hv (e ▸ h0)
  have hpre : Pre es n ends x (-1) [] (ends.getD x []) (s.enter x) := by
    refine ⟨h.good.enter hx h0, by rw [e1]; omega, by simp, trivial, ?_, ?_, ?_, ?_, .inl ⟨rfl, rfl⟩, ?_, H.nodup x, fun f hf => J_oth (H.at_ x hx f hf), ?_⟩
    · intro v hv hm f w hj
      have hvx : v ≠ x := by simpa using hm
      rw [e2 v hvx] at hv
      have h1 := h.fin v hv f w hj
      rw [e2 v hvx, e2 w (hne w h1)]
      exact ⟨h1, fun hw => absurd (by simpa using hw) (hne w h1)⟩
    · intro v w hv hvw
      by_cases hvx : v = x
      · by_cases hwx : w = x
        · rw [hvx, hwx]
        · have := h.cnt w
          rw [hvx, e1, e2 w hwx] at hvw; omega
      · rw [e2 v hvx] at hv hvw
        by_cases hwx : w = x
        · have := h.cnt v
          rw [hwx, e1] at hvw; omega
        · rw [e2 w hwx] at hvw
          exact h.inj v w hv hvw
    · intro v
      show _ ≤ s.cnt + 1
      by_cases hvx : v = x
      · rw [hvx, e1]; omega
      · rw [e2 v hvx]; have := h.cnt v; omega
    · rw [e1]
      show (s.low.set x _).getD x 0 ≤ _
      rw [getD_set_self _ _ _ (by rw [h.good.lowL]; exact hx)]; omega
    · intro f hf _ hm
      exfalso
      have hj := J_oth (H.at_ x hx f hf)
      have hm' : f ∈ s.bls.flatten := by
        rcases hm with hm | hm
        · rw [show (s.enter x).stk = [] from h.stk] at hm; simp at hm
        · exact hm
      obtain ⟨u, w, hu, hj'⟩ := (h.acc f).1 hm'
      rcases hj.ends hj' with ⟨rfl, rfl⟩ | ⟨rfl, rfl⟩
      · exact hu h0
      · exact (h.fin _ hu f _ hj.symm) h0
    · intro f hm u w hj
      have hm' : f ∈ s.bls.flatten := by
        rcases hm with hm | hm
        · rw [show (s.enter x).stk = [] from h.stk] at hm; simp at hm
        · exact hm
      obtain ⟨u', w', hu, hj'⟩ := (h.acc f).1 hm'
      have h1 : nm s u ≠ 0 := by
        rcases hj'.ends hj with ⟨rfl, rfl⟩ | ⟨rfl, rfl⟩
        · exact hu
        · exact h.fin _ hu f _ hj'
      rw [e2 u (hne u h1)]; exact h1
  have hp := run_post H hr [] hpre
  obtain ⟨r, nb, d1, d2, d3, d4, d5, d6, d7, d8⟩ := hp.ex
  have hr0 := d7 rfl
  subst hr0
  have hx1 : nm s' x = s.cnt + 1 := by rw [hp.same (by rw [e1]; omega), e1]
  have hs1 : ∀ v, nm s v ≠ 0 → nm s' v = nm s v := fun v hv => by rw [hp.same (by rw [e2 v (hne v hv)]; exact hv), e2 v (hne v hv)]
  have hfin : ∀ v, nm s' v ≠ 0 → ∀ f w, J es f v w → nm s' w ≠ 0 := by
    intro v hv f w hj
    by_cases hvx : v = x
    · subst hvx
      have := hp.done f (H.all f v w hj)
      rwa [J_othE hj] at this
    · exact (hp.fin v hv (by simpa using hvx) f w hj).1
  refine ⟨⟨hp.keeps.good, hfin, hp.inj, hp.cnt.2, ?_, ?_, ?_, ?_⟩, by rw [hx1]; omega, hs1⟩
  · rw [d1, show (s.enter x).stk = [] from h.stk]; rfl
  · intro f
    rw [d2, List.flatten_append, List.mem_append]
    show (f ∈ s.bls.flatten ∨ _) ↔ _
    have d3f := d3 f
    constructor
    · rintro (hm | hm)
      · obtain ⟨u, w, hu, hj⟩ := (h.acc f).1 hm
        exact ⟨u, w, by rw [hs1 u hu]; exact hu, hj⟩
      · rcases d3f.1 (.inr hm) with ⟨u, w, hu, hj⟩ | ⟨h1, _, _⟩
        · exact ⟨u, w, hu.2, hj⟩
        · exact ⟨x, _, by rw [hx1]; omega, J_oth (H.at_ x hx f h1)⟩
    · rintro ⟨u, w, hu, hj⟩
      by_cases hu0 : nm s u = 0
      · right
        have key : ∃ u w, Nw (s.enter x) s' u ∧ J es f u w := by
          by_cases hux : u = x
          · subst hux
            have hwu : w ≠ u := fun e => H.noloop f u (e ▸ hj)
            refine ⟨w, u, ⟨?_, hfin u hu f w hj⟩, hj.symm⟩
            rw [e2 w hwu]
            by_cases hw : nm s w = 0
            · exact hw
            · exact absurd hu0 (h.fin w hw f u hj.symm)
          · exact ⟨u, w, ⟨by rw [e2 u hux]; exact hu0, hu⟩, hj⟩
        rcases d3f.2 (.inl key) with hm | hm
        · simp at hm
        · exact hm
      · exact .inl ((h.acc f).2 ⟨u, w, hu0, hj⟩)
  · rw [d2, List.flatten_append]
    refine List.nodup_append.2 ⟨h.nodup, (List.nodup_append.1 d4).2.1, ?_⟩
    rintro f hf g hg rfl
    exact (d5 f (.inr hg)).2 hf
  · intro B hB
    rw [d2] at hB
    rcases List.mem_append.1 hB with hB | hB
    · exact h.isB B hB
    · exact d8 B hB
end
end Go.Proofs.Ytmdophgpgojbfaa
