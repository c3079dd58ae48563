/- Walks: block.Cuts, speaks. -/
import Derived.Test.YtmdophgpgojbfaaW11
namespace Go.Proofs.Ytmdophgpgojbfaa
open Go.Y Go.Blk
attribute [local irreducible] Go.Y.wpR Go.Y.T Go.Y.Again Go.Y.Out Go.Y.Spec Go.Code.wp Go.Y.Mid
set_option linter.unusedVariables false
set_option linter.unusedSimpArgs false
set_option maxRecDepth 100000
set_option maxHeartbeats 4000000

/-- The vertices of more than one block. -/
def cutsOf (n : Nat) (es : List (Nat × Nat)) (bls : List (List Nat)) (m : Nat) : List Nat := (List.range m).filter fun x => decide (1 < (atB es bls bls.length x).length)
theorem cutsOf_succ (n : Nat) (es : List (Nat × Nat)) (bls : List (List Nat)) (m : Nat) : cutsOf n es bls (m + 1) = cutsOf n es bls m ++ if 1 < (atB es bls bls.length m).length then [m] else [] := by
  unfold cutsOf
  rw [List.range_succ, List.filter_append]
  congr 1
  simp only [List.filter_cons, List.filter_nil, decide_eq_true_eq]
theorem cutsOf_len (n : Nat) (es : List (Nat × Nat)) (bls : List (List Nat)) (m : Nat) : (cutsOf n es bls m).length ≤ m := by
  have := List.length_filter_le (fun x => decide (1 < (atB es bls bls.length x).length)) (List.range m)
  rw [List.length_range] at this
  exact this
theorem cutsOf_nil (n : Nat) (es : List (Nat × Nat)) (m : Nat) : cutsOf n es [] m = [] := by
  unfold cutsOf atB
  rw [List.filter_eq_nil_iff]; intro x _; simp

theorem IsBl.len_le {es : List (Nat × Nat)} {bl : List (List Nat)} (h : IsBl es bl) : bl.length ≤ es.length ∧ ∀ B ∈ bl, B.length ≤ es.length := by
  have h1 : bl.flatten.length ≤ es.length := by
    have hp : bl.flatten.Perm (List.range es.length) := (List.perm_ext_iff_of_nodup h.nd List.nodup_range).2 fun f => by rw [h.cov, List.mem_range]
    rw [hp.length_eq, List.length_range]; omega
  have key : ∀ l : List (List Nat), (∀ B ∈ l, B ≠ []) → l.length ≤ l.flatten.length ∧ ∀ B ∈ l, B.length ≤ l.flatten.length := by
    intro l
    induction l with
    | nil => intro _; simp
    | cons a r ih =>
      intro hne
      have h2 := ih fun B hB => hne B (by simp [hB])
      have h3 : 0 < a.length := List.length_pos_iff.2 (hne a (by simp))
      simp only [List.flatten_cons, List.length_cons, List.length_append]
      refine ⟨by omega, fun B hB => ?_⟩
      rcases List.mem_cons.1 hB with rfl | hB
      · omega
      · have := h2.2 B hB; omega
  have h2 := key bl fun B hB => (h.isB B hB).ne
  exact ⟨by omega, fun B hB => by have := h2.2 B hB; omega⟩

theorem cuts13 (K : Know) (n : Nat) (u : Value) (es : List (Nat × Nat)) (hF : Fl K layNN u es) (hG : Gr n es) :
    Y.Spec Try.prog 13 #[.agg #[.int .i64 (n : Int), u]] K [] (fun Kf L' r => L' = [] ∧ ∃ bls, IsBl es bls ∧ Fl Kf layN r (cutsOf n es bls n)) := by
  have hn := hG.n64
  have hm := hG.m128
  refine spec_enter Try.func13 rfl (by kernel_rfl) Try.ntmps13 rfl ?_; intro C hC0 hCM
  repeat' first | (with_reducible refine id_code ?_; first | (refine rt_seq ?_) | (refine s_text ?_) | (refine rt_condT rfl ?_) | (refine rt_condF rfl ?_) | (refine rt_ret ?_) | (refine rt_skip ?_)) | ((refine id_evt ?_; refine kd_call rfl rfl ?_; refine r_callK [] (f := 10) rfl rfl rfl rfl rfl TakeAll.nil (fun _ => rfl) (fun Kc hK hL => blocks10 Kc n u es (hF.mono hK) hG) ?_; rintro cv Kf K1 _ ⟨ps, rfl, hP, hBl⟩ hKf hKK; have hbl := hBl.len_le; simp only [List.cons_append, List.nil_append])) | (refine id_pur ?_; first | (refine r_move rfl rfl rfl rfl ?_) | (refine r_assign rfl rfl rfl rfl ?_) | (refine kd_bin rfl rfl ?_; (refine r_eql rfl rfl rfl rfl rfl ?_ ?_ <;> intro _hc <;> first | (exfalso; omega) | skip)) | (refine r_len tb rfl rfl rfl rfl rfl (by (exact len_row 0 (by rfl))) ?_)) | (refine id_ld ?_; (refine kd_ldA tb rfl rfl rfl ?_; (refine r_loadA tb rfl rfl rfl rfl rfl (by first | (exact cels_blk 0 (by rfl) (by ((intro e; cases e; done)))) | (exact cels_blk 1 (by rfl) (by ((intro e; cases e; done))))) (by rfl) ?_))) | (refine id_evt ?_; (refine r_boxA rfl rfl rfl rfl ?_ <;> intro bx)) | (refine rt_done ?_) | (with_reducible refine rt_then ?_) | (with_reducible refine rt_thenRet ?_) | (with_reducible refine id_ret ?_; refine rt_ret1 [] rfl rfl rfl ?_)
  · refine ⟨rfl, _, hBl, ?_⟩
    have : ps = [] := List.eq_nil_of_length_eq_zero (by simpa using ‹((ps.map Prod.fst).length : Int) = 0›)
    subst this
    rw [List.map_nil, cutsOf_nil]
    exact ⟨none, 0, rfl, by simp, by simp, fun h => absurd rfl h⟩
  · refine s_freeze 0 (by repeat first | exact TakeAt.zero | apply TakeAt.succ) fun K2 hK2 hm2 => ?_
    have hB : Fl K2 layV cv (ps.map Prod.fst) := (hm2.fl).mono (New.le _ _)
    have hP2 : ∀ p ∈ ps, Fl K2 layN p.1 p.2 := fun p hp => (hP p hp).mono ((hKf.trans (New.le _ _)).trans hK2)
    have hpl : ps.length ≤ 1000 := by have := hbl.1; simp at this; omega
    have hin : ∀ p ∈ ps, ∀ i ∈ p.2, i < es.length := fun p hp i hi => hBl.mem_lt (List.mem_map.2 ⟨p, hp, rfl⟩) hi
    have hpb : ∀ p ∈ ps, p.2.length ≤ 1000 := fun p hp => by have := hbl.2 _ (List.mem_map.2 ⟨p, hp, rfl⟩); omega
    refine s_rowNil layN 3 ?_
    repeat' first | (with_reducible refine id_code ?_; (refine rt_block ?_)) | ((refine id_evt ?_; refine kd_call rfl rfl ?_; refine r_callK [] (f := 32) rfl rfl rfl rfl rfl TakeAll.nil (fun _ => rfl) (fun Kc hK hL => at32 Kc n u cv es ps (hF.mono ((hKK.trans hK2).trans hK)) (hB.mono hK) (fun p hp => (hP2 p hp).mono hK) (by omega) hpl hpb hG.ends hin) ?_; rintro cv2 Kf2 K3 _ ⟨qs, rfl, hQ, hqs⟩ hKf2 hKK2; simp only [List.cons_append, List.nil_append])) | (refine id_pur ?_; first | (refine r_move rfl rfl rfl rfl ?_) | (refine r_len tb rfl rfl rfl rfl rfl (by (exact len_row 0 (by rfl))) ?_)) | (refine rt_done ?_) | (with_reducible refine rt_then ?_)
    have hQ3 : ∀ q ∈ qs, Fl K3 layN q.1 q.2 := fun q hq => (hQ q hq).mono (hKf2.trans (New.le _ _))
    have hql : qs.length = n := by simpa using congrArg List.length hqs
    refine rt_loop (ι := Nat × Value) (fun g => g.1 ≤ n) (fun _ => K3) (fun g => [.row layV 30 cv2 (qs.map Prod.fst), .row layN 3 g.2 (cutsOf n es (ps.map Prod.snd) g.1), .blk bx [.int .i64 n, u] 24])
      (fun g => [(2, g.2), (13, cv2), (14, .int .i64 (n : Int)), (15, .int .i64 (g.1 : Int))]) (fun g => n - g.1) (0, .slice none 0 0) (by simp) rfl rfl ⟨rfl, rfl, lk_int rfl (by simp; omega), rfl, trivial⟩ ?_
    rintro ⟨x, ov⟩ hx
    simp only at hx ⊢
    by_cases hlt : x < n
    · have hFx : Fl K3 layN ((qs.map Prod.fst)[x]'(by simp; omega)) (atB es (ps.map Prod.snd) ps.length x) := by
        have h1 := hQ3 _ (List.getElem_mem (l := qs) (n := x) (by omega))
        have h2 : (qs.map Prod.snd)[x]'(by simp; omega) = (qs[x]'(by omega)).2 := by simp
        have h3 : (qs[x]'(by omega)).2 = atB es (ps.map Prod.snd) ps.length x := by rw [← h2]; simp [hqs]
        rw [h3] at h1
        simpa using h1
      have hcl := cutsOf_len n es (ps.map Prod.snd) x
      have hcs := cutsOf_succ n es (ps.map Prod.snd) x
      rw [List.length_map] at hcs
      repeat' first | (with_reducible refine id_code ?_; first | (refine rt_seq ?_) | (refine s_text ?_) | (refine rt_condT rfl ?_) | (refine rt_condF rfl ?_) | (refine rt_skip ?_) | (refine rt_block ?_)) | ((refine id_evt ?_; refine r_build1 tb layN _ rfl rfl rfl rfl rfl rfl (by rfl) (by rfl) (by decide) ?_; intro bu)) | (refine id_pur ?_; first | (refine r_move rfl rfl rfl rfl ?_) | (refine r_assign rfl rfl rfl rfl ?_) | (refine kd_bin rfl rfl ?_; first | (refine r_add rfl rfl rfl rfl rfl (by omega) ?_) | (refine r_lss rfl rfl rfl rfl rfl ?_ ?_ <;> intro _hc <;> first | (exfalso; omega) | skip) | (refine r_gtr rfl rfl rfl rfl rfl ?_ ?_ <;> intro _hc <;> first | (exfalso; omega) | skip)) | (refine kd_index rfl rfl ?_; (refine r_index tb _ rfl rfl rfl rfl rfl rfl (by (exact len_row 0 (by rfl))) rfl (by ((simp only [List.length_set, List.length_replicate, List.length_append, List.length_map, List.length_range, List.length_cons, List.length_nil]; first | assumption | omega))) ?_)) | (refine r_len tb rfl rfl rfl rfl rfl (by (exact len_fl (by assumption))) ?_)) | (refine id_ld ?_; (refine kd_ld1 tb rfl rfl rfl ?_; (refine r_load tb rfl rfl rfl rfl rfl (by (exact c_row0 0 (by rfl) (by ((simp only [List.length_set, List.length_replicate, List.length_append, List.length_map, List.length_range, List.length_cons, List.length_nil]; first | assumption | omega))) (by rfl) (by rfl) (by ((intro e; cases e; done))))) ?_))) | (refine id_evt ?_; (refine kd_call rfl rfl ?_; (refine s_app tb 2 rfl rfl rfl rfl rfl rfl rfl rfl rfl (by rfl) (by (exact src_row 0 (by rfl))) (by (exact ones_ok okN)) (by ((simp only [List.length_set, List.length_replicate, List.length_append, List.length_map, List.length_range, List.length_cons, List.length_nil]; first | assumption | omega))) (by decide) (by first | (intro e; cases e; done) | exact fun _ => rfl) ?_; intro ua; refine ⟨_, by repeat first | exact SetAt.zero | apply SetAt.succ, ?_⟩))) | (refine rt_done ?_) | (with_reducible refine rt_then ?_) | (with_reducible refine rt_blockN ?_)
      · refine s_drop 0 (by repeat first | exact TakeAt.zero | apply TakeAt.succ) ?_
        refine rt_again (x + 1, ua) (by simp only; omega) rfl ?_ ⟨rfl, rfl, rfl, lk_int rfl (by simp only; omega), trivial⟩ (by simp only; omega)
        simp only
        rw [hcs, if_pos (by omega)]
      · refine rt_again (x + 1, ov) (by simp only; omega) rfl ?_ ⟨rfl, rfl, rfl, lk_int rfl (by simp only; omega), trivial⟩ (by simp only; omega)
        simp only
        rw [hcs, if_neg (by omega), List.append_nil]
    · obtain rfl : x = n := by omega
      refine s_freeze 1 (by repeat first | exact TakeAt.zero | apply TakeAt.succ) fun K4 hK4 hm4 => ?_
      repeat' first | (with_reducible refine id_code ?_; first | (refine rt_seq ?_) | (refine s_text ?_) | (refine rt_condF rfl ?_) | (refine rt_ret ?_) | (refine rt_exit ?_)) | (refine id_pur ?_; first | (refine r_move rfl rfl rfl rfl ?_) | (refine r_assign rfl rfl rfl rfl ?_) | (refine kd_bin rfl rfl ?_; (refine r_lss rfl rfl rfl rfl rfl ?_ ?_ <;> intro _hc <;> first | (exfalso; omega) | skip))) | (refine rt_done ?_) | (with_reducible refine rt_then ?_) | (with_reducible refine rt_blockE ?_) | (with_reducible refine rt_thenExit ?_) | (with_reducible refine id_ret ?_; refine rt_ret1 [] rfl rfl rfl ?_)
      exact ⟨rfl, _, hBl, hm4.fl⟩
end Go.Proofs.Ytmdophgpgojbfaa
