/- Walk of visit. -/
import Derived.Test.YtmdophgpgojbfaaW7
import Derived.Test.YtmdophgpgojbfaaM1
namespace Go.Proofs.Ytmdophgpgojbfaa
open Go.Y
attribute [local irreducible] Go.Y.wpR Go.Y.T Go.Y.Again Go.Y.Out Go.Y.Spec Go.Code.wp Go.Y.Mid
set_option linter.unusedVariables false
set_option linter.unusedSimpArgs false
set_option maxRecDepth 100000
set_option maxHeartbeats 4000000
def o26_1c : List Md := [.pur, .pur, .pur, .ld true, .pur, .pur, .pur, .pur, .ld true, .pur, .pur, .pur, .pur, .ld true, .pur, .pur, .pur, .ld true, .pur, .evt false, .pur, .evt false]
def o26_1 : Ord := .step 0 (.pur) <| .step 1 (.pur) <| .step 2 (.pur) <| .step 3 (.ld true) <| .step 4 (.pur) <| .step 5 (.pur) <| .step 6 (.pur) <| .step 7 (.pur) <| .step 8 (.ld true) <| .step 9 (.pur) <| .step 10 (.pur) <| .step 11 (.pur) <| .step 12 (.pur) <| .step 13 (.ld true) <| .step 14 (.pur) <| .step 15 (.pur) <| .step 16 (.pur) <| .step 17 (.ld true) <| .step 18 (.pur) <| .step 19 (.evt false) <| .step 20 (.pur) <| .step 21 (.evt false) <| .done
def o26_10c : List Md := [.pur, .pur, .pur, .ld true, .pur, .pur, .pur, .pur, .ld true, .pur, .pur, .ld true, .pur, .pur, .pur, .ld true, .pur, .pur, .ld true, .pur, .pur, .evt false]
def o26_10 : Ord := .step 0 (.pur) <| .step 1 (.pur) <| .step 2 (.pur) <| .step 3 (.ld true) <| .step 4 (.pur) <| .step 5 (.pur) <| .step 6 (.pur) <| .step 7 (.pur) <| .step 8 (.ld true) <| .step 9 (.pur) <| .step 10 (.pur) <| .step 11 (.ld true) <| .step 12 (.pur) <| .step 13 (.pur) <| .step 14 (.pur) <| .step 15 (.ld true) <| .step 16 (.pur) <| .step 17 (.pur) <| .step 18 (.ld true) <| .step 19 (.pur) <| .step 20 (.pur) <| .step 21 (.evt false) <| .done
def o26_11c : List Md := [.pur, .pur, .pur, .ld true, .pur, .pur, .ld true, .pur, .pur, .pur, .ld true, .pur, .pur, .ld true, .pur]
def o26_11 : Ord := .step 0 (.pur) <| .step 1 (.pur) <| .step 2 (.pur) <| .step 3 (.ld true) <| .step 4 (.pur) <| .step 5 (.pur) <| .step 6 (.ld true) <| .step 7 (.pur) <| .step 8 (.pur) <| .step 9 (.pur) <| .step 10 (.ld true) <| .step 11 (.pur) <| .step 12 (.pur) <| .step 13 (.ld true) <| .step 14 (.pur) <| .done
def o26_13c : List Md := [.pur, .pur, .pur, .ld true, .pur, .pur, .ld true, .pur, .pur, .pur, .ld true, .pur, .pur, .ld true, .pur, .pur]
def o26_13 : Ord := .step 0 (.pur) <| .step 1 (.pur) <| .step 2 (.pur) <| .step 3 (.ld true) <| .step 4 (.pur) <| .step 5 (.pur) <| .step 6 (.ld true) <| .step 7 (.pur) <| .step 8 (.pur) <| .step 9 (.pur) <| .step 10 (.ld true) <| .step 11 (.pur) <| .step 12 (.pur) <| .step 13 (.ld true) <| .step 14 (.pur) <| .step 15 (.pur) <| .done
def o26_15c : List Md := [.pur, .pur, .pur, .ld true, .pur, .pur, .pur, .pur, .ld true, .pur, .pur, .ld true, .pur, .pur, .pur, .ld true, .pur, .pur, .ld true, .pur, .pur, .evt false]
def o26_15 : Ord := .step 0 (.pur) <| .step 1 (.pur) <| .step 2 (.pur) <| .step 3 (.ld true) <| .step 4 (.pur) <| .step 5 (.pur) <| .step 6 (.pur) <| .step 7 (.pur) <| .step 8 (.ld true) <| .step 9 (.pur) <| .step 10 (.pur) <| .step 11 (.ld true) <| .step 12 (.pur) <| .step 13 (.pur) <| .step 14 (.pur) <| .step 15 (.ld true) <| .step 16 (.pur) <| .step 17 (.pur) <| .step 18 (.ld true) <| .step 19 (.pur) <| .step 20 (.pur) <| .step 21 (.evt false) <| .done


theorem Run.append {es : List (Nat × Nat)} {ends : List (List Nat)} {x : Nat} {b : Int} {l l' : List Nat} {s s1 s' : Se} (h : Run es ends x b l s s1) (h' : Run es ends x b l' s1 s') : Run es ends x b (l ++ l') s s' := by
  induction h with
  | nil => exact h'
  | same h _ ih => exact .same h (ih h')
  | tree h0 h1 h2 _ _ ih => exact .tree h0 h1 h2 (ih h')
  | back h0 h1 h2 _ ih => exact .back h0 h1 h2 (ih h')
  | fwd h0 h1 h2 _ ih => exact .fwd h0 h1 h2 (ih h')

def SeCh (bs n : Nat) (u eu nu lu sv bv : Value) (bvs : List Value) (s : Se) : List Chunk :=
  [.blk bs [.int .i64 (n : Int), u, eu, nu, lu, .int .i64 (s.cnt : Int), sv, bv] 53, .row layN 3 nu s.num, .row layN 3 lu s.low, .row layN 3 sv s.stk, .row layV 30 bv bvs]

theorem other45' (K : Know) (u : Value) (es : List (Nat × Nat)) (n : Nat) (ends : List (List Nat)) (bs : Nat) (c : List Value) (V : Value) (i x : Nat) (H : EndsOk es n ends) (hn : n ≤ 1000) (hF : Fl K layNN u es) (hK : (Chunk.blk bs (V :: u :: c) 53).holds K) (hi : i < es.length ∧ ((es.getD i (0, 0)).1 = x ∨ (es.getD i (0, 0)).2 = x)) :
    Spec0 Try.prog 45 #[.pointer (some ⟨bs, 0, none⟩), .int .i64 (i : Int), .int .i64 (x : Int)] K (fun r => r = .int .i64 ((oth es i x : Nat) : Int)) := by
  have hb := H.bound i hi.1
  have h2 := hi.2
  have := other45 K u es bs c V i x hF hK hi.1 (by rw [getD_at _ _ hi.1] at h2; omega) (by rw [getD_at _ _ hi.1] at hb; omega) (by rw [getD_at _ _ hi.1] at hb; omega)
  unfold oth; rw [getD_at _ _ hi.1]; exact this

theorem visit26 (es : List (Nat × Nat)) (ends : List (List Nat)) (n bs : Nat) (u eu nu lu : Value) (H : EndsOk es n ends) (hn : n ≤ 1000) (hes : es.length ≤ 1000) (hel : ∀ x, x < n → (ends.getD x []).length ≤ 1000) :
    ∀ (z : Nat) (K : Know) (s : Se) (x : Nat) (b : Int) (sv bv : Value) (bvs : List Value), Fl K layNN u es → Fl2 K layN eu ends → Good es n (s.enter x) → x < n → s.num.getD x 0 = 0 → zeros s.num ≤ z →
      s.stk.length + bud ends s.num ≤ 3000 → s.bls.length + zeros s.num ≤ 3000 → bvs.length = s.bls.length →
      Y.Spec Try.prog 26 #[.pointer (some ⟨bs, 0, none⟩), .int .i64 (x : Int), .int .i64 b] K (SeCh bs n u eu nu lu sv bv bvs s)
        (fun Kf L' r => ∃ (s' : Se) (sv' bv' : Value) (nb : List (Value × List Nat)), r = .tuple #[] ∧ Run es ends x b (ends.getD x []) (s.enter x) s' ∧ L' = SeCh bs n u eu nu lu sv' bv' (bvs ++ nb.map Prod.fst) s' ∧ s'.bls = s.bls ++ nb.map Prod.snd ∧ ∀ p ∈ nb, Fl Kf layN p.1 p.2) := by
  intro z
  induction z with
  | zero =>
    intro K s x b sv bv bvs _ _ hG hx h0 hz
    have := zeros_pos s.num x (by have := hG.numL; simp [Se.enter] at this; omega) h0
    omega
  | succ z ih =>
    intro K s x b sv bv bvs hF hE hG hx h0 hz hst hbl hbv
    have hnL : s.num.length = n := by have := hG.numL; simpa [Se.enter] using this
    have hlL : s.low.length = n := by have := hG.lowL; simpa [Se.enter] using this
    have hcn : s.cnt + 1 ≤ n := by have := hG.cntB; simp only [Se.enter] at this; omega
    have hE0 := hE
    obtain ⟨us, hU1, hU2, hU3⟩ := hE
    have huL : us.length = n := by rw [hU2, H.len]
    have hFx : Fl K layN (us[x]'(by omega)) (ends.getD x []) := by
      have := hU3 x (by omega) (by rw [H.len]; exact hx)
      rwa [getD_at _ _ (by rw [H.len]; exact hx)]
    unfold SeCh
    refine spec_enter Try.func26 rfl (by kernel_rfl) Try.ntmps26 rfl ?_; intro C hC0 hCM
    repeat' first | (with_reducible refine id_code ?_; first | (refine rt_seq ?_) | (refine s_text ?_) | (refine rt_block ?_) | (refine rt_draw (id := 1) mixed none o26_1c o26_1 (by kernel_rfl) ?_)) | (refine id_pur ?_; first | (refine r_move rfl rfl rfl rfl ?_) | (refine kd_field rfl rfl ?_; (refine r_field tb rfl rfl rfl rfl rfl ?_)) | (refine kd_bin rfl rfl ?_; (refine r_add rfl rfl rfl rfl rfl (by omega) ?_)) | (refine r_nilCheck rfl rfl rfl rfl ?_) | (refine kd_index rfl rfl ?_; (refine r_index tb _ rfl rfl rfl rfl rfl rfl (by first | (exact len_fl (by assumption)) | (exact len_row 1 (by rfl)) | (exact len_row 2 (by rfl))) rfl (by (omega)) ?_)) | (refine r_len tb rfl rfl rfl rfl rfl (by (exact len_fl (by assumption))) ?_)) | (refine id_ld ?_; (refine kd_ld1 tb rfl rfl rfl ?_; (refine r_load tb rfl rfl rfl rfl rfl (by first | (exact cel_blk 0 (by rfl) (by rfl) (by first | ((intro e; cases e; done)) | (exact fun _ => exOk_none))) | (exact c_fl0 (by assumption) (by (omega)) (by rfl) (by rfl) (by ((intro e; cases e; done))))) ?_))) | (refine id_evt ?_; (refine kd_st1 tb rfl rfl rfl ?_; first | (refine s_store tb 0 rfl rfl rfl rfl rfl rfl (by repeat first | exact SetAt.zero | apply SetAt.succ) (by repeat first | exact SetAt.zero | apply SetAt.succ) (by (exact one_rfl rfl)) ?_) | (refine s_storeRow tb _ 1 rfl rfl rfl rfl (by rfl) (by rfl) (by first | exact Or.inl ⟨rfl, rfl⟩ | exact Or.inr rfl) (by (exact cells1 (by (exact one_rfl rfl)))) (by (omega)) (by repeat first | exact SetAt.zero | apply SetAt.succ) (by repeat first | exact trivial | refine And.intro (by (exact one_rfl rfl)) ?_) ?_) | (refine s_storeRow tb _ 2 rfl rfl rfl rfl (by rfl) (by rfl) (by first | exact Or.inl ⟨rfl, rfl⟩ | exact Or.inr rfl) (by (exact cells1 (by (exact one_rfl rfl)))) (by (omega)) (by repeat first | exact SetAt.zero | apply SetAt.succ) (by repeat first | exact trivial | refine And.intro (by (exact one_rfl rfl)) ?_) ?_))) | (refine rt_done ?_) | (with_reducible refine rt_then ?_)
    obtain ⟨l, hl⟩ : ∃ l, l = ends.getD x [] := ⟨_, rfl⟩
    rw [← hl] at hFx ⊢
    have hlat : ∀ i ∈ l, i < es.length ∧ ((es.getD i (0, 0)).1 = x ∨ (es.getD i (0, 0)).2 = x) := fun i hi => H.at_ x hx i (by rw [← hl]; exact hi)
    have hxn : (s.enter x).num.getD x 0 ≠ 0 := by simp only [Se.enter]; rw [getD_set_self _ _ _ (by omega)]; omega
    have hll : l.length ≤ 1000 := by rw [hl]; exact hel x hx
    have hbud := bud_set ends s.num x s.cnt (by omega) (by rw [H.len]; omega) h0
    have hzer := zeros_set s.num x s.cnt (by omega) h0
    rw [← hl] at hbud
    refine rt_loop (ι := Nat × Se × Value × Value × List (Value × List Nat) × Know)
      (fun g => g.1 ≤ l.length ∧ Run es ends x b (l.take g.1) (s.enter x) g.2.1 ∧ K.Le g.2.2.2.2.2 ∧ g.2.1.bls = s.bls ++ g.2.2.2.2.1.map Prod.snd ∧ ∀ q ∈ g.2.2.2.2.1, Fl (New C g.2.2.2.2.2) layN q.1 q.2)
      (fun g => g.2.2.2.2.2) (fun g => SeCh bs n u eu nu lu g.2.2.1 g.2.2.2.1 (bvs ++ g.2.2.2.2.1.map Prod.fst) g.2.1)
      (fun g => [(0, .pointer (some ⟨bs, 0, none⟩)), (1, .int .i64 (x : Int)), (2, .int .i64 b), (42, us[x]'(by omega)), (43, .int .i64 (l.length : Int)), (44, .int .i64 (g.1 : Int))]) (fun g => l.length - g.1) (0, s.enter x, sv, bv, [], K)
      ⟨by simp, by simpa using Run.nil, Know.Le.refl _, by simp [Se.enter], by simp⟩ rfl (by simp [SeCh, Se.enter]) ⟨rfl, rfl, rfl, rfl, rfl, rfl, trivial⟩ ?_
    rintro ⟨k, t, tv, wv, nb, Kc⟩ ⟨hk, hrun, hKc, hbls, hnb⟩
    simp only at hk hrun hKc hbls hnb ⊢
    have hke := hrun.keeps H hG hx hxn fun i hi => hlat i (List.mem_of_mem_take hi)
    rw [List.length_take, Nat.min_eq_left hk] at hke
    have hGt := hke.good
    have htn := hGt.numL
    have htl := hGt.lowL
    have hts := hke.stk
    have htb := hke.bls
    have htx : t.num.getD x 0 ≠ 0 := by rw [hke.same x hxn]; exact hxn
    simp only [Se.enter] at hts htb
    unfold SeCh
    by_cases hlt : k < l.length
    · have htk : l.take (k + 1) = l.take k ++ [l[k]] := List.take_succ_eq_append_getElem hlt
      have hil := hlat l[k] (List.getElem_mem _)
      obtain ⟨hyn, hxy⟩ := oth_lt H hil
      have hFc := hF.mono hKc
      have hFl := hFx.mono hKc
      have hO : ∀ Kd, Kc.Le Kd → (Chunk.blk bs [.int .i64 (n : Int), u, eu, nu, lu, .int .i64 (t.cnt : Int), tv, wv] 53).holds Kd → Spec0 Try.prog 45 #[.pointer (some ⟨bs, 0, none⟩), .int .i64 ((l[k] : Nat) : Int), .int .i64 (x : Int)] Kd (fun r => r = .int .i64 ((oth es l[k] x : Nat) : Int)) :=
        fun Kd hK hB => other45' Kd u es n ends bs _ _ l[k] x H hn (hFc.mono hK) hB hil
      have hgy : t.num.getD (oth es l[k] x) 0 = t.num[oth es l[k] x]'(by omega) := getD_at _ _ _
      have hgx : t.num.getD x 0 = t.num[x]'(by omega) := getD_at _ _ _
      have hbvl : (bvs ++ nb.map Prod.fst).length = t.bls.length := by rw [hbls]; simp [hbv]
      have hz1 := hke.zer
      simp only [Se.enter] at hz1
      have hT : t.num.getD (oth es l[k] x) 0 = 0 → ∀ t1, Run es ends (oth es l[k] x) l[k] (ends.getD (oth es l[k] x) []) ((t.push l[k]).enter (oth es l[k] x)) t1 →
          t1.num.length = n ∧ t1.low.length = n ∧ l[k] ∉ t.stk ∧ (∃ tt, t1.stk = t.stk ++ l[k] :: tt) ∧ t1.stk.length ≤ 100000 ∧ t1.bls.length ≤ 100000 ∧ t.stk.length < t1.stk.length ∧ idxI (fun y => y == l[k]) t1.stk = (t.stk.length : Int) := by
        intro h00 t1 hr1
        obtain ⟨h1, h2, h3⟩ := good_tree H hGt hil htx rfl h00
        have hk1 := hr1.keeps H h2 h1 h3 (H.at_ _ h1)
        obtain ⟨_, h5, h6⟩ := keeps_tree H hGt hil htx rfl h00 hk1
        have h7 := hk1.stk
        have h8 := hk1.bls
        have h9 := bud_set ends t.num (oth es l[k] x) t.cnt (by omega) (by rw [H.len]; omega) h00
        have h10 := zeros_set t.num (oth es l[k] x) t.cnt (by omega) h00
        simp only [Se.enter, Se.push, List.length_append, List.length_cons, List.length_nil] at h7 h8
        obtain ⟨tt, h6'⟩ := h6
        refine ⟨hk1.good.numL, hk1.good.lowL, h5, ⟨tt, h6'⟩, by omega, by omega, by rw [h6']; simp, ?_⟩
        exact idxI_at (p := fun y => y == l[k]) (k := t.stk.length) (by rw [h6']; simp) (by simp [h6']) (fun j hj hlt => by
          simp only [h6']
          rw [List.getElem_append_left hlt]
          simp only [beq_eq_false_iff_ne]
          intro e; exact h5 (e ▸ List.getElem_mem _))
      have hC : t.num.getD (oth es l[k] x) 0 = 0 → ∀ Kd (ua : Value), Kc.Le Kd → Y.Spec Try.prog 26 #[.pointer (some ⟨bs, 0, none⟩), .int .i64 ((oth es l[k] x : Nat) : Int), .int .i64 ((l[k] : Nat) : Int)] Kd
          [.blk bs [.int .i64 (n : Int), u, eu, nu, lu, .int .i64 (t.cnt : Int), ua, wv] 53, .row layN 3 nu t.num, .row layN 3 lu t.low, .row layN 3 ua (t.stk ++ [l[k]]), .row layV 30 wv (bvs ++ nb.map Prod.fst)]
          (fun Kf L' r => ∃ (s' : Se) (sv' bv' : Value) (nb1 : List (Value × List Nat)), r = .tuple #[] ∧ Run es ends (oth es l[k] x) (l[k] : Int) (ends.getD (oth es l[k] x) []) ((t.push l[k]).enter (oth es l[k] x)) s' ∧
            L' = SeCh bs n u eu nu lu sv' bv' ((bvs ++ nb.map Prod.fst) ++ nb1.map Prod.fst) s' ∧ s'.bls = t.bls ++ nb1.map Prod.snd ∧ ∀ p ∈ nb1, Fl Kf layN p.1 p.2) := by
        intro h00 Kd ua hK
        exact ih Kd (t.push l[k]) (oth es l[k] x) (l[k] : Int) ua wv (bvs ++ nb.map Prod.fst) (hFc.mono hK) (hE0.mono (hKc.trans hK)) (good_tree H hGt hil htx rfl h00).2.1 hyn (by show t.num.getD _ 0 = 0; omega) (by show zeros t.num ≤ z; omega) (by simp only [Se.push, List.length_append, List.length_cons, List.length_nil]; omega) (by simp only [Se.push]; omega) hbvl
      repeat' first | (with_reducible refine id_code ?_; first | (refine rt_seq ?_) | (refine s_text ?_) | (refine rt_condT rfl ?_) | (refine rt_condF rfl ?_) | (refine rt_skip ?_) | (refine rt_block ?_) | (refine rt_draw (id := 10) mixed none o26_10c o26_10 (by kernel_rfl) ?_) | (refine rt_draw (id := 11) mixed none o26_11c o26_11 (by kernel_rfl) ?_) | (refine rt_draw (id := 13) mixed none o26_13c o26_13 (by kernel_rfl) ?_) | (refine rt_draw (id := 15) mixed none o26_15c o26_15 (by kernel_rfl) ?_)) | (first | (refine id_evt ?_; refine kd_call rfl rfl ?_; refine r_call0 (f := 45) rfl rfl rfl rfl rfl (fun Kd hK hL => hO Kd hK (hat0 hL)) ?_; rintro _ rfl) | (refine id_evt ?_; refine kd_call rfl rfl ?_; refine r_callK [1, 1, 1, 1, 1] (f := 26) rfl rfl rfl rfl rfl ((TakeAll.cons (by repeat first | exact TakeAt.zero | apply TakeAt.succ) (TakeAll.cons (by repeat first | exact TakeAt.zero | apply TakeAt.succ) (TakeAll.cons (by repeat first | exact TakeAt.zero | apply TakeAt.succ) (TakeAll.cons (by repeat first | exact TakeAt.zero | apply TakeAt.succ) (TakeAll.cons (by repeat first | exact TakeAt.zero | apply TakeAt.succ) TakeAll.nil)))))) (by intro e; cases e) (fun Kd hK hL => hC (by omega) Kd ua hK) ?_; rintro cv Kf K1 _ ⟨t1, tv1, wv1, nb1, rfl, hrun1, rfl, hb1, hn1⟩ hKf hKK; obtain ⟨e1, e2, e3, ⟨tt, e4⟩, e5, e6, e7, e8⟩ := hT (by omega) t1 hrun1; have e9 : (bvs ++ nb.map Prod.fst ++ nb1.map Prod.fst).length ≤ 100000 := (by rw [hb1] at e6; simp only [List.length_append, List.length_map] at e6 hbvl ⊢; omega); unfold SeCh) | (refine id_evt ?_; refine kd_call rfl rfl ?_; refine r_callK [0, 2, 2] (f := 46) rfl rfl rfl rfl rfl ((TakeAll.cons (by repeat first | exact TakeAt.zero | apply TakeAt.succ) (TakeAll.cons (by repeat first | exact TakeAt.zero | apply TakeAt.succ) (TakeAll.cons (by repeat first | exact TakeAt.zero | apply TakeAt.succ) TakeAll.nil)))) (by intro e; cases e) (fun Kd hK hL => close46 Kd bs _ _ _ _ _ _ _ _ _ t.stk.length t1.stk _ e7 e5 e9 e8) ?_; rintro cv2 Kf2 K2 _ ⟨sv2, bv2, bb, rfl, hbb⟩ hKf2 hKK2) | (refine id_evt ?_; refine r_build1 tb layN _ rfl rfl rfl rfl rfl rfl (by rfl) (by rfl) (by decide) ?_; intro bu)) | (refine id_pur ?_; first | (refine r_move rfl rfl rfl rfl ?_) | (refine r_assign rfl rfl rfl rfl ?_) | (refine kd_field rfl rfl ?_; (refine r_field tb rfl rfl rfl rfl rfl ?_)) | (refine kd_bin rfl rfl ?_; first | (refine r_add rfl rfl rfl rfl rfl (by omega) ?_) | (refine r_lss rfl rfl rfl rfl rfl ?_ ?_ <;> intro _hc <;> first | (exfalso; omega) | skip) | (refine r_eql rfl rfl rfl rfl rfl ?_ ?_ <;> intro _hc <;> first | (exfalso; omega) | skip) | (refine r_geq rfl rfl rfl rfl rfl ?_ ?_ <;> intro _hc <;> first | (exfalso; omega) | skip)) | (refine r_nilCheck rfl rfl rfl rfl ?_) | (refine kd_index rfl rfl ?_; (refine r_index tb _ rfl rfl rfl rfl rfl rfl (by first | (exact len_fl (by assumption)) | (exact len_row 1 (by rfl)) | (exact len_row 2 (by rfl)) | (exact len_row 3 (by rfl))) rfl (by first | (omega) | ((simp only [List.length_set, List.length_replicate, List.length_append, List.length_map, List.length_range, List.length_cons, List.length_nil]; first | assumption | omega))) ?_)) | (refine r_min rfl rfl rfl rfl rfl ?_)) | (refine id_ld ?_; (refine kd_ld1 tb rfl rfl rfl ?_; (refine r_load tb rfl rfl rfl rfl rfl (by first | (exact cel_blk 0 (by rfl) (by rfl) (by first | ((intro e; cases e; done)) | (exact fun _ => exOk_none))) | (exact cel_blk 1 (by rfl) (by rfl) (by (exact fun _ => exOk_none))) | (exact c_fl0 (by assumption) (by (omega)) (by rfl) (by rfl) (by ((intro e; cases e; done)))) | (exact c_row0 1 (by rfl) (by (omega)) (by rfl) (by rfl) (by first | ((intro e; cases e; done)) | (exact fun _ => exOk_none))) | (exact c_row0 2 (by rfl) (by first | (omega) | ((simp only [List.length_set, List.length_replicate, List.length_append, List.length_map, List.length_range, List.length_cons, List.length_nil]; first | assumption | omega))) (by rfl) (by rfl) (by (exact fun _ => exOk_none))) | (exact c_row0 3 (by rfl) (by (omega)) (by rfl) (by rfl) (by (exact fun _ => exOk_none)))) ?_))) | (refine id_evt ?_; first | (refine kd_st1 tb rfl rfl rfl ?_; first | (refine s_store tb 1 rfl rfl rfl rfl rfl rfl (by repeat first | exact SetAt.zero | apply SetAt.succ) (by repeat first | exact SetAt.zero | apply SetAt.succ) (by first | (exact one_rfl rfl) | (exact one_len (by (exact len_row 4 (by rfl))))) ?_) | (refine s_storeRow tb _ 2 rfl rfl rfl rfl (by rfl) (by rfl) (by first | exact Or.inl ⟨rfl, rfl⟩ | exact Or.inr rfl) (by (exact cells1 (by (exact one_rfl rfl)))) (by (omega)) (by repeat first | exact SetAt.zero | apply SetAt.succ) (by repeat first | exact trivial | refine And.intro (by (exact one_rfl rfl)) ?_) ?_) | (refine s_storeRow tb _ 3 rfl rfl rfl rfl (by rfl) (by rfl) (by first | exact Or.inl ⟨rfl, rfl⟩ | exact Or.inr rfl) (by (exact cells1 (by (exact one_rfl rfl)))) (by (omega)) (by repeat first | exact SetAt.zero | apply SetAt.succ) (by repeat first | exact trivial | refine And.intro (by (exact one_rfl rfl)) ?_) ?_)) | (refine kd_call rfl rfl ?_; (refine s_app tb 4 rfl rfl rfl rfl rfl rfl rfl rfl rfl (by rfl) (by (exact src_row 0 (by rfl))) (by (exact ones_ok okN)) (by ((simp only [List.length_set, List.length_replicate, List.length_append, List.length_map, List.length_range, List.length_cons, List.length_nil]; first | assumption | omega))) (by decide) (by first | (intro e; cases e; done) | exact fun _ => rfl) ?_; intro ua; refine ⟨_, by repeat first | exact SetAt.zero | apply SetAt.succ, ?_⟩))) | (refine rt_done ?_) | (with_reducible refine rt_then ?_) | (with_reducible refine rt_blockN ?_)
      · exact rt_again (k + 1, t, tv, wv, nb, Kc) ⟨by simp only; omega, by simp only; rw [htk]; exact hrun.append (.same (by assumption) .nil), hKc, hbls, hnb⟩ rfl rfl ⟨rfl, rfl, rfl, rfl, rfl, lk_int rfl (by simp only; omega), trivial⟩ (by simp only; omega)
      · have h00 : t.num.getD (oth es l[k] x) 0 = 0 := by omega
        have hyx : oth es l[k] x ≠ x := fun e => by rw [e] at h00; exact htx h00
        have hr2 : Run es ends x b (l.take (k + 1)) (s.enter x) (t1.after x (oth es l[k] x) l[k]) := by
          rw [htk]; exact hrun.append (.tree (by assumption) h00 hrun1 .nil)
        have g1 : t1.num.getD x 0 = t1.num[x]'(by omega) := getD_at _ _ _
        have g2 : t1.low.getD x 0 = t1.low[x]'(by omega) := getD_at _ _ _
        have g3 : t1.low.getD (oth es l[k] x) 0 = t1.low[oth es l[k] x]'(by omega) := getD_at _ _ _
        have g4 : (t1.low.set x (min (t1.low[x]'(by omega)) (t1.low[oth es l[k] x]'(by omega))))[oth es l[k] x]'(by simp; omega) = t1.low[oth es l[k] x]'(by omega) := by simp [List.getElem_set_ne (Ne.symm hyx)]
        have haft : t1.after x (oth es l[k] x) l[k] = ⟨t1.num, t1.low.set x (min (t1.low[x]'(by omega)) (t1.low[oth es l[k] x]'(by omega))), t1.cnt, t1.stk.take t.stk.length, t1.bls ++ [(t1.stk.drop t.stk.length).mergeSort fun x y => decide (x ≤ y)]⟩ := by
          unfold Se.after
          rw [if_pos (by omega)]
          simp only [Se.close, Se.lowTo, Se.pos, e8, Int.toNat_natCast, g2, g3]
        rw [haft] at hr2
        refine s_keep [0,2,2,0,0] (TakeAll.cons (by repeat first | exact TakeAt.zero | apply TakeAt.succ) (TakeAll.cons (by repeat first | exact TakeAt.zero | apply TakeAt.succ) (TakeAll.cons (by repeat first | exact TakeAt.zero | apply TakeAt.succ) (TakeAll.cons (by repeat first | exact TakeAt.zero | apply TakeAt.succ) (TakeAll.cons (by repeat first | exact TakeAt.zero | apply TakeAt.succ) TakeAll.nil))))) ?_
        refine rt_again (k + 1, _, sv2, bv2, nb ++ nb1 ++ [(bb, (t1.stk.drop t.stk.length).mergeSort fun x y => decide (x ≤ y))], K2) ⟨by simp only; omega, hr2, hKc.trans (hKK.trans hKK2), ?_, ?_⟩ rfl (by simp [SeCh]) ⟨rfl, rfl, rfl, rfl, rfl, lk_int rfl (by simp only; omega), trivial⟩ (by simp only; omega)
        · simp [hb1, hbls]
        · intro q hq
          simp only [List.mem_append, List.mem_cons, List.not_mem_nil, or_false] at hq
          rcases hq with (hq | hq) | rfl
          · exact (hnb q hq).mono (New.mono (hKK.trans hKK2))
          · exact (hn1 q hq).mono (hKf.trans (New.mono hKK2))
          · exact hbb.mono hKf2
      · have h00 : t.num.getD (oth es l[k] x) 0 = 0 := by omega
        have hyx : oth es l[k] x ≠ x := fun e => by rw [e] at h00; exact htx h00
        have hr2 : Run es ends x b (l.take (k + 1)) (s.enter x) (t1.after x (oth es l[k] x) l[k]) := by
          rw [htk]; exact hrun.append (.tree (by assumption) h00 hrun1 .nil)
        have g1 : t1.num.getD x 0 = t1.num[x]'(by omega) := getD_at _ _ _
        have g2 : t1.low.getD x 0 = t1.low[x]'(by omega) := getD_at _ _ _
        have g3 : t1.low.getD (oth es l[k] x) 0 = t1.low[oth es l[k] x]'(by omega) := getD_at _ _ _
        have g4 : (t1.low.set x (min (t1.low[x]'(by omega)) (t1.low[oth es l[k] x]'(by omega))))[oth es l[k] x]'(by simp; omega) = t1.low[oth es l[k] x]'(by omega) := by simp [List.getElem_set_ne (Ne.symm hyx)]
        have haft : t1.after x (oth es l[k] x) l[k] = ⟨t1.num, t1.low.set x (min (t1.low[x]'(by omega)) (t1.low[oth es l[k] x]'(by omega))), t1.cnt, t1.stk, t1.bls⟩ := by
          unfold Se.after
          rw [if_neg (by omega)]
          simp only [Se.lowTo, g2, g3]
        rw [haft] at hr2
        refine s_keep [0,0,0,0,0] (TakeAll.cons (by repeat first | exact TakeAt.zero | apply TakeAt.succ) (TakeAll.cons (by repeat first | exact TakeAt.zero | apply TakeAt.succ) (TakeAll.cons (by repeat first | exact TakeAt.zero | apply TakeAt.succ) (TakeAll.cons (by repeat first | exact TakeAt.zero | apply TakeAt.succ) (TakeAll.cons (by repeat first | exact TakeAt.zero | apply TakeAt.succ) TakeAll.nil))))) ?_
        refine rt_again (k + 1, _, tv1, wv1, nb ++ nb1, K1) ⟨by simp only; omega, hr2, hKc.trans hKK, ?_, ?_⟩ rfl (by simp [SeCh]) ⟨rfl, rfl, rfl, rfl, rfl, lk_int rfl (by simp only; omega), trivial⟩ (by simp only; omega)
        · simp [hb1, hbls]
        · intro q hq
          rcases List.mem_append.1 hq with hq | hq
          · exact (hnb q hq).mono (New.mono hKK)
          · exact (hn1 q hq).mono hKf
      · refine s_keep [1,1,1,1,1] (TakeAll.cons (by repeat first | exact TakeAt.zero | apply TakeAt.succ) (TakeAll.cons (by repeat first | exact TakeAt.zero | apply TakeAt.succ) (TakeAll.cons (by repeat first | exact TakeAt.zero | apply TakeAt.succ) (TakeAll.cons (by repeat first | exact TakeAt.zero | apply TakeAt.succ) (TakeAll.cons (by repeat first | exact TakeAt.zero | apply TakeAt.succ) TakeAll.nil))))) ?_
        have g2 : t.low.getD x 0 = t.low[x]'(by omega) := getD_at _ _ _
        refine rt_again (k + 1, (t.push l[k]).lowTo x (t.num.getD (oth es l[k] x) 0), ua, wv, nb, Kc) ⟨by simp only; omega, by simp only; rw [htk]; exact hrun.append (.back (by assumption) (by omega) (by omega) .nil), hKc, hbls, hnb⟩ rfl ?_ ⟨rfl, rfl, rfl, rfl, rfl, lk_int rfl (by simp only; omega), trivial⟩ (by simp only; omega)
        simp only [SeCh, Se.lowTo, Se.push, g2, hgy]
      · exact rt_again (k + 1, t, tv, wv, nb, Kc) ⟨by simp only; omega, by simp only; rw [htk]; exact hrun.append (.fwd (by assumption) (by omega) (by omega) .nil), hKc, hbls, hnb⟩ rfl rfl ⟨rfl, rfl, rfl, rfl, rfl, lk_int rfl (by simp only; omega), trivial⟩ (by simp only; omega)
    · obtain rfl : k = l.length := by omega
      repeat' first | (with_reducible refine id_code ?_; first | (refine rt_seq ?_) | (refine s_text ?_) | (refine rt_condF rfl ?_) | (refine rt_exit ?_)) | (refine id_pur ?_; (refine kd_bin rfl rfl ?_; (refine r_lss rfl rfl rfl rfl rfl ?_ ?_ <;> intro _hc <;> first | (exfalso; omega) | skip))) | (refine rt_done ?_) | (with_reducible refine rt_then ?_) | (with_reducible refine rt_blockE ?_) | (with_reducible refine rt_thenExit ?_)
      rw [List.take_length] at hrun
      refine rt_end0 [0, 0, 0, 0, 0] rfl rfl ?_
      exact ⟨t, tv, wv, nb, rfl, hrun, rfl, hbls, hnb⟩
end Go.Proofs.Ytmdophgpgojbfaa
