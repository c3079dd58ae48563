/- Walk of block.Blocks. -/
import Derived.Test.YtmdophgpgojbfaaW9
import Derived.Test.YtmdophgpgojbfaaG6
import Derived.Test.YtmdophgpgojbfaaYL
namespace Go.Proofs.Ytmdophgpgojbfaa
open Go.Y
attribute [local irreducible] Go.Y.wpR Go.Y.T Go.Y.Again Go.Y.Out Go.Y.Spec Go.Code.wp Go.Y.Mid
set_option linter.unusedVariables false
set_option linter.unusedSimpArgs false
set_option maxRecDepth 100000
set_option maxHeartbeats 4000000

theorem spec0_mono {f : FuncId} {args : Array Value} {K : Know} {R R' : Value → Prop} (h : Spec0 Try.prog f args K R) (hr : ∀ v, R v → R' v) : Spec0 Try.prog f args K R' := by
  unfold Spec0 at *
  exact Y.Spec.mono h fun _ _ _ ⟨a, b⟩ => ⟨a, hr _ b⟩
theorem isB_eq {b : Bool} {v : Value} (h : isB b v) {c : Bool} (e : b = c) : v = .bool c := by subst e; exact h

/-- Has a graph a loop? -/
def loopI (es : List (Int × Int)) : Bool := es.any fun e => decide (e.1 = e.2)
theorem oddI_or (V : Int) (es : List (Int × Int)) : oddI V es = (loopI es || !mayI V es) := rfl
theorem containsLoop (K : Know) (u : Value) (es : List (Int × Int)) (hF : Fl K layII u es) (hm : es.length ≤ 9223372036854775807) : Spec0 Try.prog 23 #[u, .func (.func 24) #[] #[]] K (isB (loopI es)) :=
  containsFunc23 K u es 24 [] [] (fun e => decide (e.1 = e.2)) hF hm fun Kc _ e => loop24 Kc e.1 e.2

theorem blocksOdd (K : Know) (V : Int) (u : Value) (es : List (Int × Int)) (hF : Fl K layII u es) (hm : es.length ≤ 9223372036854775807) (ho : oddI V es = true) :
    Y.Spec Try.prog 10 #[.agg #[.int .i64 V, u]] K [] (fun _ L' r => L' = [] ∧ r = .slice none 0 0) := by
  have hM : ∀ Kc, K.Le Kc → Spec0 Try.prog 22 #[.agg #[.int .i64 V, u]] Kc (fun r => r = .bool (mayI V es)) := fun Kc hK => spec0_mono (may22 Kc V u es (hF.mono hK) hm) fun v h => isB_eq h rfl
  have hC : ∀ Kc, K.Le Kc → Spec0 Try.prog 23 #[u, .func (.func 24) #[] #[]] Kc (fun r => r = .bool (loopI es)) := fun Kc hK => spec0_mono (containsLoop Kc u es (hF.mono hK) hm) fun v h => isB_eq h rfl
  rw [oddI_or] at ho
  cases hmay : mayI V es with
  | false =>
    rw [hmay] at hM
    refine spec_enter Try.func10 rfl (by kernel_rfl) Try.ntmps10 rfl ?_; intro C hC0 hCM
    repeat' first | (with_reducible refine id_code ?_; first | (refine rt_seq ?_) | (refine s_text ?_) | (refine rt_condT rfl ?_) | (refine rt_ret ?_)) | ((refine id_evt ?_; refine kd_call rfl rfl ?_; refine r_call0 (f := 22) rfl rfl rfl rfl rfl (fun Kc hK hL => hM Kc hK) ?_; rintro _ rfl)) | (refine id_pur ?_; first | (refine r_move rfl rfl rfl rfl ?_) | (refine r_assign rfl rfl rfl rfl ?_) | (refine rt_pass rfl rfl rfl rfl ?_) | (refine r_pickT rfl rfl rfl rfl rfl ?_) | (refine r_notF rfl rfl rfl rfl ?_)) | (refine id_ld ?_; first | (refine kd_ldA tb rfl rfl rfl ?_; (refine r_loadA tb rfl rfl rfl rfl rfl (by (exact cels_blk 0 (by rfl) (by ((intro e; cases e; done))))) (by rfl) ?_)) | (refine rt_pass rfl rfl rfl rfl ?_)) | (refine id_evt ?_; first | (refine r_boxA rfl rfl rfl rfl ?_ <;> intro bx) | (refine rt_pass rfl rfl rfl rfl ?_)) | (refine rt_done ?_) | (with_reducible refine rt_then ?_) | (with_reducible refine rt_thenRet ?_) | (with_reducible refine id_ret ?_; refine rt_ret1 [] rfl rfl rfl ?_)
    exact ⟨rfl, rfl⟩
  | true =>
    rw [hmay] at hM ho
    have hl : loopI es = true := by simpa using ho
    rw [hl] at hC
    refine spec_enter Try.func10 rfl (by kernel_rfl) Try.ntmps10 rfl ?_; intro C hC0 hCM
    repeat' first | (with_reducible refine id_code ?_; first | (refine rt_seq ?_) | (refine s_text ?_) | (refine rt_condT rfl ?_) | (refine rt_ret ?_)) | (first | (refine id_evt ?_; refine kd_call rfl rfl ?_; refine r_call0 (f := 22) rfl rfl rfl rfl rfl (fun Kc hK hL => hM Kc hK) ?_; rintro _ rfl) | (refine id_evt ?_; refine kd_call rfl rfl ?_; refine r_call0 (f := 23) rfl rfl rfl rfl rfl (fun Kc hK hL => hC Kc hK) ?_; rintro _ rfl)) | (refine id_pur ?_; first | (refine r_move rfl rfl rfl rfl ?_) | (refine r_assign rfl rfl rfl rfl ?_) | (refine kd_field rfl rfl ?_; (refine r_field tb rfl rfl rfl rfl rfl ?_)) | (refine r_pickF rfl rfl rfl rfl rfl ?_) | (refine r_notT rfl rfl rfl rfl ?_)) | (refine id_ld ?_; first | (refine kd_ld1 tb rfl rfl rfl ?_; (refine r_load tb rfl rfl rfl rfl rfl (by (exact cel_blk 0 (by rfl) (by rfl) (by ((intro e; cases e; done))))) ?_)) | (refine kd_ldA tb rfl rfl rfl ?_; (refine r_loadA tb rfl rfl rfl rfl rfl (by (exact cels_blk 0 (by rfl) (by ((intro e; cases e; done))))) (by rfl) ?_))) | (refine id_evt ?_; (refine r_boxA rfl rfl rfl rfl ?_ <;> intro bx)) | (refine rt_done ?_) | (with_reducible refine rt_then ?_) | (with_reducible refine rt_thenRet ?_) | (with_reducible refine id_ret ?_; refine rt_ret1 [] rfl rfl rfl ?_)
    exact ⟨rfl, rfl⟩

/-- A graph that may be, without loops. -/
structure Gr (n : Nat) (es : List (Nat × Nat)) : Prop extends Fine es n where
  n1 : 1 ≤ n
  n64 : n ≤ 64
  m128 : es.length ≤ 128
theorem Gr.may {n : Nat} {es : List (Nat × Nat)} (h : Gr n es) : mayI (n : Int) (es.map intE) = true := by
  have := h.n1; have := h.n64; have := h.m128
  refine mayI_yes (by omega) (by omega) (by simpa using this) fun j hj _ => ?_
  have hj' : j < es.length := by simpa using hj
  have h2 := h.bnd j hj'
  rw [getD_at _ _ hj'] at h2
  simp only [List.getElem_map, okE, intE]
  omega
theorem Gr.noloopI {n : Nat} {es : List (Nat × Nat)} (h : Gr n es) : loopI (es.map intE) = false := by
  unfold loopI
  rw [List.any_eq_false]
  intro e he
  obtain ⟨j, hj, rfl⟩ := List.mem_iff_getElem.1 he
  have hj' : j < es.length := by simpa using hj
  have h2 := h.ne j hj'
  rw [getD_at _ _ hj'] at h2
  simp only [List.getElem_map, intE, decide_eq_true_eq]
  omega
theorem Gr.ends {n : Nat} {es : List (Nat × Nat)} (h : Gr n es) : ∀ i (hi : i < es.length), es[i].1 < n ∧ es[i].2 < n := fun i hi => by
  have := h.bnd i hi
  rwa [getD_at _ _ hi] at this

theorem heads_nodup {bls : List (List Nat)} (h : bls.flatten.Nodup) (hne : ∀ B ∈ bls, B ≠ []) : (bls.map hd).Nodup := by
  have h1 := (List.pairwise_flatten.1 h).2
  refine List.pairwise_map.2 (List.Pairwise.imp_of_mem (fun {A B} hA hB hAB e => ?_) h1)
  exact hAB _ (head_mem (hne A hA)) _ (head_mem (hne B hB)) e
theorem zeros_le : ∀ l : List Nat, zeros l ≤ l.length
  | [] => by simp [zeros]
  | a :: r => by have := zeros_le r; simp only [zeros, List.length_cons]; split <;> omega

theorem blocks10 (K : Know) (n : Nat) (u : Value) (es : List (Nat × Nat)) (hF : Fl K layNN u es) (hG : Gr n es) :
    Y.Spec Try.prog 10 #[.agg #[.int .i64 (n : Int), u]] K [] (fun Kf L' r => ∃ ps : List (Value × List Nat), L' = [.row layV 30 r (ps.map Prod.fst)] ∧ (∀ p ∈ ps, Fl Kf layN p.1 p.2) ∧ IsBl es (ps.map Prod.snd)) := by
  have hn := hG.n64
  have hm := hG.m128
  have hM : ∀ Kc, K.Le Kc → Spec0 Try.prog 22 #[.agg #[.int .i64 (n : Int), u]] Kc (fun r => r = .bool true) := fun Kc hK => spec0_mono (may22 Kc n u _ (fl_ii (hF.mono hK)) (by simp; omega)) fun v h => isB_eq h hG.may
  have hC : ∀ Kc, K.Le Kc → Spec0 Try.prog 23 #[u, .func (.func 24) #[] #[]] Kc (fun r => r = .bool false) := fun Kc hK => spec0_mono (containsLoop Kc u _ (fl_ii (hF.mono hK)) (by simp; omega)) fun v h => isB_eq h hG.noloopI
  have H := endsAll hG.toFine
  refine spec_enter Try.func10 rfl (by kernel_rfl) Try.ntmps10 rfl ?_; intro C hC0 hCM
  repeat' first | (with_reducible refine id_code ?_; first | (refine rt_seq ?_) | (refine s_text ?_) | (refine rt_condF rfl ?_) | (refine rt_skip ?_) | (refine rt_block ?_)) | (first | (refine id_evt ?_; refine kd_call rfl rfl ?_; refine r_call0 (f := 22) rfl rfl rfl rfl rfl (fun Kc hK hL => hM Kc hK) ?_; rintro _ rfl) | (refine id_evt ?_; refine kd_call rfl rfl ?_; refine r_call0 (f := 23) rfl rfl rfl rfl rfl (fun Kc hK hL => hC Kc hK) ?_; rintro _ rfl) | (refine id_evt ?_; refine kd_call rfl rfl ?_; refine r_callK [] (f := 25) rfl rfl rfl rfl rfl TakeAll.nil (fun _ => rfl) (fun Kc hK hL => begin25 Kc n u es (hF.mono hK) (by omega) (by omega) hG.ends) ?_; rintro cv Kf K1 _ ⟨bs, eu, nu, lu, rfl, rfl, hE⟩ hKf hKK)) | (refine id_pur ?_; first | (refine r_move rfl rfl rfl rfl ?_) | (refine r_assign rfl rfl rfl rfl ?_) | (refine kd_field rfl rfl ?_; (refine r_field tb rfl rfl rfl rfl rfl ?_)) | (refine r_pickF rfl rfl rfl rfl rfl ?_) | (refine r_notT rfl rfl rfl rfl ?_)) | (refine id_ld ?_; first | (refine kd_ld1 tb rfl rfl rfl ?_; (refine r_load tb rfl rfl rfl rfl rfl (by first | (exact cel_blk 0 (by rfl) (by rfl) (by ((intro e; cases e; done)))) | (exact cel_blk 3 (by rfl) (by rfl) (by ((intro e; cases e; done))))) ?_)) | (refine kd_ldA tb rfl rfl rfl ?_; (refine r_loadA tb rfl rfl rfl rfl rfl (by (exact cels_blk 0 (by rfl) (by ((intro e; cases e; done))))) (by rfl) ?_))) | (refine id_evt ?_; (refine r_boxA rfl rfl rfl rfl ?_ <;> intro bx)) | (refine rt_done ?_) | (with_reducible refine rt_then ?_)
  have hE1 : Fl2 K1 layN eu (endsUpto n es es.length) := hE.mono (hKf.trans (New.le _ _))
  simp only [List.cons_append, List.nil_append]
  refine s_rowNil layV 30 ?_
  refine s_rowNil layN 3 ?_
  refine s_perm [2,2,2,0,0,0] (TakeAll.cons (by repeat first | exact TakeAt.zero | apply TakeAt.succ) (TakeAll.cons (by repeat first | exact TakeAt.zero | apply TakeAt.succ) (TakeAll.cons (by repeat first | exact TakeAt.zero | apply TakeAt.succ) (TakeAll.cons (by repeat first | exact TakeAt.zero | apply TakeAt.succ) (TakeAll.cons (by repeat first | exact TakeAt.zero | apply TakeAt.succ) (TakeAll.cons (by repeat first | exact TakeAt.zero | apply TakeAt.succ) TakeAll.nil)))))) ?_
  simp only [List.append_nil]
  have hel : ∀ x, x < n → ((endsUpto n es es.length).getD x []).length ≤ 1000 := fun x hx => by
    have := endsUpto_bound n es es.length _ (List.getElem_mem (l := endsUpto n es es.length) (n := x) (by rw [endsUpto_length]; exact hx))
    rw [getD_at _ _ (by rw [endsUpto_length]; exact hx)]; omega
  have hbud : ∀ q, bud (endsUpto n es es.length) q ≤ 256 := fun q => by
    have := bud_le (endsUpto n es es.length) q
    have := sumLen_ends n es es.length
    omega
  refine rt_loop (ι := Nat × Se × Value × Value × List (Value × List Nat) × Know)
    (fun g => g.1 ≤ n ∧ Top es n (endsUpto n es es.length) g.2.1 ∧ (∀ v, v < g.1 → nm g.2.1 v ≠ 0) ∧ K1.Le g.2.2.2.2.2 ∧ g.2.1.bls = g.2.2.2.2.1.map Prod.snd ∧ (∀ q ∈ g.2.2.2.2.1, Fl (New C g.2.2.2.2.2) layN q.1 q.2) ∧ g.2.1.bls.length + zeros g.2.1.num ≤ n)
    (fun g => g.2.2.2.2.2) (fun g => SeCh bs n u eu nu lu g.2.2.1 g.2.2.2.1 (g.2.2.2.2.1.map Prod.fst) g.2.1 ++ [.blk bx [.int .i64 n, u] 24])
    (fun g => [(1, .pointer (some ⟨bx, 0, none⟩)), (3, .pointer (some ⟨bs, 0, none⟩)), (16, .int .i64 (n : Int)), (17, .int .i64 (g.1 : Int))]) (fun g => n - g.1) (0, Se.start n, .slice none 0 0, .slice none 0 0, [], K1)
    ⟨by simp, top_start, by simp, Know.Le.refl _, rfl, by simp, by simp [Se.start, zeros_start]⟩ rfl rfl ⟨rfl, rfl, rfl, rfl, trivial⟩ ?_
  rintro ⟨x, s, sv, bv, nb, Kc⟩ ⟨hx, hTop, hall, hKc, hbls, hnb, hz⟩
  simp only at hx hTop hall hKc hbls hnb hz ⊢
  unfold SeCh
  simp only [List.cons_append, List.nil_append]
  have hnumL := hTop.good.numL
  by_cases hlt : x < n
  · have hgx : nm s x = s.num[x]'(by omega) := getD_at _ _ _
    have hC : nm s x = 0 → ∀ Kd, Kc.Le Kd → Y.Spec Try.prog 26 #[.pointer (some ⟨bs, 0, none⟩), .int .i64 (x : Int), .int .i64 (-1)] Kd
        [.blk bs [.int .i64 (n : Int), u, eu, nu, lu, .int .i64 (s.cnt : Int), sv, bv] 53, .row layN 3 nu s.num, .row layN 3 lu s.low, .row layN 3 sv s.stk, .row layV 30 bv (nb.map Prod.fst)]
        (fun Kf L' r => ∃ (s' : Se) (sv' bv' : Value) (nb1 : List (Value × List Nat)), r = .tuple #[] ∧ Run es (endsUpto n es es.length) x (-1) ((endsUpto n es es.length).getD x []) (s.enter x) s' ∧
          L' = SeCh bs n u eu nu lu sv' bv' (nb.map Prod.fst ++ nb1.map Prod.fst) s' ∧ s'.bls = s.bls ++ nb1.map Prod.snd ∧ ∀ p ∈ nb1, Fl Kf layN p.1 p.2) := by
      intro h00 Kd hK
      exact visit26 es (endsUpto n es es.length) n bs u eu nu lu H.toEndsOk (by omega) (by omega) hel (zeros s.num) Kd s x (-1) sv bv (nb.map Prod.fst) (hF.mono (hKK.trans (hKc.trans hK))) (hE1.mono (hKc.trans hK)) (hTop.good.enter hlt h00) hlt h00 (Nat.le_refl _)
        (by have := hbud s.num; rw [hTop.stk]; simp only [List.length_nil]; omega) (by omega) (by rw [hbls]; simp)
    repeat' first | (with_reducible refine id_code ?_; first | (refine rt_seq ?_) | (refine s_text ?_) | (refine rt_condT rfl ?_) | (refine rt_condF rfl ?_) | (refine rt_skip ?_) | (refine rt_block ?_)) | (first | (refine id_evt ?_; refine kd_call rfl rfl ?_; refine r_callK [0, 0, 0, 0, 0] (f := 26) rfl rfl rfl rfl rfl ((TakeAll.cons (by repeat first | exact TakeAt.zero | apply TakeAt.succ) (TakeAll.cons (by repeat first | exact TakeAt.zero | apply TakeAt.succ) (TakeAll.cons (by repeat first | exact TakeAt.zero | apply TakeAt.succ) (TakeAll.cons (by repeat first | exact TakeAt.zero | apply TakeAt.succ) (TakeAll.cons (by repeat first | exact TakeAt.zero | apply TakeAt.succ) TakeAll.nil)))))) (by intro e; cases e) (fun Kd hK hL => hC (by omega) Kd hK) ?_; rintro cv2 Kf2 K2 _ ⟨s', sv', bv', nb1, rfl, hrun, rfl, hb1, hn1⟩ hKf2 hKK2)) | (refine id_pur ?_; first | (refine r_move rfl rfl rfl rfl ?_) | (refine r_assign rfl rfl rfl rfl ?_) | (refine kd_field rfl rfl ?_; (refine r_field tb rfl rfl rfl rfl rfl ?_)) | (refine kd_bin rfl rfl ?_; first | (refine r_add rfl rfl rfl rfl rfl (by omega) ?_) | (refine r_lss rfl rfl rfl rfl rfl ?_ ?_ <;> intro _hc <;> first | (exfalso; omega) | skip) | (refine r_eql rfl rfl rfl rfl rfl ?_ ?_ <;> intro _hc <;> first | (exfalso; omega) | skip)) | (refine r_nilCheck rfl rfl rfl rfl ?_) | (refine kd_index rfl rfl ?_; (refine r_index tb _ rfl rfl rfl rfl rfl rfl (by (exact len_row 1 (by rfl))) rfl (by (omega)) ?_))) | (refine id_ld ?_; (refine kd_ld1 tb rfl rfl rfl ?_; (refine r_load tb rfl rfl rfl rfl rfl (by first | (exact cel_blk 0 (by rfl) (by rfl) (by ((intro e; cases e; done)))) | (exact c_row0 1 (by rfl) (by (omega)) (by rfl) (by rfl) (by ((intro e; cases e; done))))) ?_))) | (refine rt_done ?_) | (with_reducible refine rt_then ?_) | (with_reducible refine rt_blockN ?_)
    · have h0 : nm s x = 0 := by omega
      obtain ⟨hT', hx', hsame⟩ := top_visit H hTop hlt h0 hrun
      have hke := hrun.keeps H.toEndsOk (hTop.good.enter hlt h0) hlt (by simp only [Se.enter]; rw [getD_set_self _ _ _ (by omega)]; omega) (fun i hi => H.at_ x hlt i hi)
      have hze := zeros_set s.num x s.cnt (by omega) h0
      have hbz := hke.bls
      simp only [Se.enter] at hbz
      refine rt_again (x + 1, s', sv', bv', nb ++ nb1, K2) ⟨by simp only; omega, hT', fun v hv => ?_, hKc.trans hKK2, by simp only [hb1, hbls, List.map_append], fun q hq => ?_, by simp only; omega⟩ rfl (by simp [SeCh]) ⟨rfl, rfl, rfl, lk_int rfl (by simp only; omega), trivial⟩ (by simp only; omega)
      · simp only at hv
        by_cases e : v = x
        · rw [e]; exact hx'
        · have := hall v (by omega)
          show nm s' v ≠ 0
          rw [hsame v this]; exact this
      · rcases List.mem_append.1 hq with hq | hq
        · exact (hnb q hq).mono (New.mono hKK2)
        · exact (hn1 q hq).mono hKf2
    · refine rt_again (x + 1, s, sv, bv, nb, Kc) ⟨by simp only; omega, hTop, fun v hv => ?_, hKc, hbls, hnb, hz⟩ rfl rfl ⟨rfl, rfl, rfl, lk_int rfl (by simp only; omega), trivial⟩ (by simp only; omega)
      simp only at hv
      by_cases e : v = x
      · rw [e]; show nm s x ≠ 0; omega
      · exact hall v (by omega)
  · obtain rfl : x = n := by omega
    have hmemB : ∀ p ∈ nb, p.2 ∈ s.bls := fun p hp => by rw [hbls]; exact List.mem_map.2 ⟨p, hp, rfl⟩
    have hne : ∀ p ∈ nb, p.2 ≠ [] := fun p hp => (hTop.isB _ (hmemB p hp)).ne
    have hnd : (nb.map fun p => hd p.2).Nodup := by
      have := heads_nodup hTop.nodup fun B hB => (hTop.isB B hB).ne
      rw [hbls, List.map_map] at this; exact this
    have hsm : ∀ p ∈ nb, hd p.2 ≤ 1000 := fun p hp => by
      have h1 : hd p.2 ∈ s.bls.flatten := List.mem_flatten.2 ⟨p.2, hmemB p hp, head_mem (hne p hp)⟩
      obtain ⟨_, _, _, hj⟩ := (hTop.acc _).1 h1
      have := hj.1; omega
    have hlen : nb.length ≤ 100000 := by
      have : s.bls.length = nb.length := by rw [hbls]; simp
      omega
    repeat' first | (with_reducible refine id_code ?_; first | (refine rt_seq ?_) | (refine s_text ?_) | (refine rt_condF rfl ?_) | (refine rt_ret ?_) | (refine rt_exit ?_)) | (first | (refine id_evt ?_; refine kd_call rfl rfl ?_; refine r_callL [4] (f := 27) rfl rfl rfl rfl rfl ((TakeAll.cons (by repeat first | exact TakeAt.zero | apply TakeAt.succ) TakeAll.nil)) (by intro e; cases e) (fun Kd hK hL => sort27 Kd bv nb (fun p hp => ((hnb p hp).mono (New.le _ _)).mono hK) hne hnd hsm hlen) ?_; rintro cv3 Kf3 _ ⟨qs, rfl, hqp, hqs⟩; simp only [List.cons_append, List.nil_append])) | (refine id_pur ?_; first | (refine r_move rfl rfl rfl rfl ?_) | (refine r_assign rfl rfl rfl rfl ?_) | (refine kd_field rfl rfl ?_; (refine r_field tb rfl rfl rfl rfl rfl ?_)) | (refine kd_bin rfl rfl ?_; (refine r_lss rfl rfl rfl rfl rfl ?_ ?_ <;> intro _hc <;> first | (exfalso; omega) | skip)) | (refine r_nilCheck rfl rfl rfl rfl ?_)) | (refine id_ld ?_; (refine kd_ld1 tb rfl rfl rfl ?_; (refine r_load tb rfl rfl rfl rfl rfl (by first | (exact cel_blk 0 (by rfl) (by rfl) (by ((intro e; cases e; done)))) | (exact cel_blk 1 (by rfl) (by rfl) (by ((intro e; cases e; done))))) ?_))) | (refine rt_done ?_) | (with_reducible refine rt_then ?_) | (with_reducible refine rt_blockE ?_) | (with_reducible refine rt_thenExit ?_) | (with_reducible refine id_ret ?_; refine rt_ret1 [0] rfl rfl rfl ?_)
    refine ⟨qs, by simp [sel], fun p hp => hnb p (hqp.subset hp), hTop.isBl H (fun v hv => hall v hv) ?_ (List.pairwise_map.2 hqs)⟩
    rw [hbls]; exact hqp.map Prod.snd
end Go.Proofs.Ytmdophgpgojbfaa
