/- Walk of speaks. -/
import Derived.Test.YtmdophgpgojbfaaW12
namespace Go.Proofs.Ytmdophgpgojbfaa
open Go.Y Go.Blk
attribute [local irreducible] Go.Y.wpR Go.Y.T Go.Y.Again Go.Y.Out Go.Y.Spec Go.Code.wp Go.Y.Mid
set_option linter.unusedVariables false
set_option linter.unusedSimpArgs false
set_option maxRecDepth 100000
set_option maxHeartbeats 4000000

def esS : List (Nat × Nat) := [(0, 1), (1, 2)]
theorem grS : Gr 3 esS := { bnd := by decide, ne := by decide, n1 := by decide, n64 := by decide, m128 := by decide }
theorem JS {i u z : Nat} (h : J esS i u z) : (i = 0 ∧ ((u = 0 ∧ z = 1) ∨ (u = 1 ∧ z = 0))) ∨ (i = 1 ∧ ((u = 1 ∧ z = 2) ∨ (u = 2 ∧ z = 1))) := by
  obtain ⟨h1, h2⟩ := h
  have : i = 0 ∨ i = 1 := by simp [esS] at h1; omega
  rcases this with rfl | rfl <;> simp [esS] at h2 <;> omega
theorem isBlS : IsBl esS [[0], [1]] where
  isB := by
    intro B hB
    have hB' : B = [0] ∨ B = [1] := by simpa using hB
    rcases hB' with rfl | rfl
    · refine ⟨by simp, fun i k hi hr => ?_, fun i k hi hk => ?_, by simp⟩
      · obtain rfl : i = 0 := by simpa using hi
        obtain ⟨u, z, hu, hj⟩ := R_closed (x := 1) (N := fun v => v = 0) (by decide) (fun j u z hu hj => by subst hu; have := JS hj; omega) hr ⟨0, 1, rfl, ⟨by decide, .inl rfl⟩⟩
        subst hu
        have := JS hj
        simp; omega
      · obtain rfl : i = 0 := by simpa using hi
        obtain rfl : k = 0 := by simpa using hk
        exact .refl
    · refine ⟨by simp, fun i k hi hr => ?_, fun i k hi hk => ?_, by simp⟩
      · obtain rfl : i = 1 := by simpa using hi
        obtain ⟨u, z, hu, hj⟩ := R_closed (x := 1) (N := fun v => v = 2) (by decide) (fun j u z hu hj => by subst hu; have := JS hj; omega) hr ⟨2, 1, rfl, ⟨by decide, .inr rfl⟩⟩
        subst hu
        have := JS hj
        simp; omega
      · obtain rfl : i = 1 := by simpa using hi
        obtain rfl : k = 1 := by simpa using hk
        exact .refl
  nd := by decide
  cov := fun f => by simp [esS]; omega
  ord := by decide

theorem speaks8 (K : Know) : Spec0 Try.prog 8 #[] K (fun r => r = .bool true) := by
  have hC : ∀ K u, Fl K layNN u esS → Y.Spec Try.prog 13 #[.agg #[.int .i64 3, u]] K [] (fun Kf L' r => L' = [] ∧ Fl Kf layI r [1]) := fun K u hF =>
    Y.Spec.mono (cuts13 K 3 u esS hF grS) fun Kf L' r ⟨h1, bls, h2, h3⟩ => ⟨h1, by
      rw [h2.unique isBlS] at h3
      exact fl_n2i h3⟩
  have hB : ∀ K u, Fl K layNN u esS → Y.Spec Try.prog 10 #[.agg #[.int .i64 3, u]] K [] (fun Kf L' r => ∃ vs : List Value, L' = [.row layV 30 r vs] ∧ vs.length = 2) := fun K u hF =>
    Y.Spec.mono (blocks10 K 3 u esS hF grS) fun Kf L' r ⟨ps, h1, _, h2⟩ => ⟨_, h1, by
      have := congrArg List.length (h2.unique isBlS)
      simpa using this⟩
  unfold Spec0
  refine spec_enter Try.func8 rfl (by kernel_rfl) Try.ntmps8 rfl ?_; intro C hC0 hCM
  repeat' first | (with_reducible refine id_code ?_; first | (refine rt_seq ?_) | (refine s_text ?_)) | ((refine r_build2NN (a := 0) (b := 1) (a' := 1) (b' := 2) tb rfl rfl rfl rfl rfl rfl rfl rfl ?_; intro eu)) | (refine id_pur ?_; first | (refine r_assign rfl rfl rfl rfl ?_) | (refine r_build tb rfl rfl rfl rfl rfl rfl (by repeat first | exact partsNil | (apply partsCons; (exact cells1 (by first | (exact one_rfl rfl) | (exact one_len (by (exact len_row 0 (by rfl)))))))) (by rfl) ?_)) | (refine id_ld ?_; (refine kd_ldA tb rfl rfl rfl ?_; (refine r_loadA tb rfl rfl rfl rfl rfl (by (exact cels_blk 0 (by rfl) (by ((intro e; cases e; done))))) (by rfl) ?_))) | (refine id_evt ?_; first | (refine r_alloc tb rfl rfl rfl rfl ?_ <;> intro bx) | (refine kd_stA tb rfl rfl rfl ?_; (refine s_storeA tb 0 rfl rfl rfl rfl rfl rfl rfl rfl (by repeat first | exact SetAt.zero | apply SetAt.succ) (by repeat first | exact trivial | refine And.intro (by first | (exact one_rfl rfl) | (exact one_len (by (exact len_row 1 (by rfl))))) ?_) ?_))) | (refine rt_done ?_) | (with_reducible refine rt_then ?_)
  simp only [putC]
  refine s_freeze 1 (by repeat first | exact TakeAt.zero | apply TakeAt.succ) fun K1 hK1 hm1 => ?_
  have hF1 : Fl K1 layNN eu esS := (hm1.fl).mono (New.le _ _)
  repeat' first | (with_reducible refine s_split ?_ ?_ <;> intro _hb) | (with_reducible refine id_code ?_; (refine rt_ret ?_)) | (first | (refine id_evt ?_; refine kd_call rfl rfl ?_; refine r_callL [] (f := 10) rfl rfl rfl rfl rfl TakeAll.nil (fun _ => rfl) (fun Kc hK hL => hB Kc eu (hF1.mono hK)) ?_; rintro cv Kf _ ⟨vs, rfl, hvs⟩; simp only [List.cons_append, List.nil_append]) | (refine id_evt ?_; refine kd_call rfl rfl ?_; refine r_callK [] (f := 13) rfl rfl rfl rfl rfl TakeAll.nil (fun _ => rfl) (fun Kc hK hL => hC Kc eu (hF1.mono hK)) ?_; rintro cv2 Kf2 K2 _ ⟨rfl, hcuts⟩ hKf2 hKK2; simp only [List.nil_append]) | (refine id_evt ?_; refine r_build1 tb layI _ rfl rfl rfl rfl rfl rfl (by rfl) (by rfl) (by decide) ?_; intro bu) | (refine id_evt ?_; refine kd_call rfl rfl ?_; refine r_call0 (f := 16) rfl rfl rfl rfl rfl (fun Kc hK hL => sameInts16 Kc _ _ [1] [1] ((hcuts.mono (hKf2.trans (New.le _ _))).mono hK) (hat0 hL).fl (by decide) (by decide)) ?_; rintro _ rfl)) | (refine id_pur ?_; first | (refine r_move rfl rfl rfl rfl ?_) | (refine r_assign rfl rfl rfl rfl ?_) | (refine kd_bin rfl rfl ?_; (refine r_eql rfl rfl rfl rfl rfl ?_ ?_ <;> intro _hc <;> first | (exfalso; omega) | skip)) | (refine r_len tb rfl rfl rfl rfl rfl (by (exact len_row 0 (by rfl))) ?_) | (refine r_pickT rfl rfl rfl rfl rfl ?_)) | (refine id_ld ?_; (refine kd_ldA tb rfl rfl rfl ?_; (refine r_loadA tb rfl rfl rfl rfl rfl (by (exact cels_blk 1 (by rfl) (by ((intro e; cases e; done))))) (by rfl) ?_))) | (refine rt_done ?_) | (with_reducible refine rt_then ?_) | (with_reducible refine id_ret ?_; refine rt_ret1 [] rfl rfl rfl ?_)
  all_goals first | exact ⟨rfl, rfl⟩ | simp at _hb
end Go.Proofs.Ytmdophgpgojbfaa
