/- Walks of the small functions. -/
import Derived.Test.YtmdophgpgojbfaaTb
namespace Go.Proofs.Ytmdophgpgojbfaa
open Go.Y
attribute [local irreducible] Go.Y.wpR Go.Y.T Go.Y.Again Go.Y.Out Go.Y.Spec Go.Code.wp
set_option linter.unusedVariables false
set_option linter.unusedSimpArgs false
set_option maxRecDepth 100000
set_option maxHeartbeats 4000000

def okE (V : Int) (e : Int × Int) : Prop := 0 ≤ e.1 ∧ 0 ≤ e.2 ∧ e.1 < V ∧ e.2 < V
instance (V : Int) (e : Int × Int) : Decidable (okE V e) := by unfold okE; infer_instance
def mayI (V : Int) (es : List (Int × Int)) : Bool := decide (1 ≤ V ∧ V ≤ 64 ∧ es.length ≤ 128 ∧ ∀ e ∈ es, okE V e)
theorem mayI_not {V : Int} {es : List (Int × Int)} (h : ¬ (1 ≤ V ∧ V ≤ 64 ∧ es.length ≤ 128)) : mayI V es = false := by
  unfold mayI; simp only [decide_eq_false_iff_not]; intro ⟨a, b, c, _⟩; exact h ⟨a, b, c⟩
theorem mayI_bad {V : Int} {es : List (Int × Int)} {k : Nat} (hk : k < es.length) (h : ¬ okE V es[k]) : mayI V es = false := by
  unfold mayI; simp only [decide_eq_false_iff_not]; intro ⟨a, b, c, d⟩; exact h (d _ (List.getElem_mem hk))
theorem mayI_yes {V : Int} {es : List (Int × Int)} (h1 : 1 ≤ V) (h2 : V ≤ 64) (h3 : es.length ≤ 128) (h : ∀ j (hj : j < es.length), j < es.length → okE V es[j]) : mayI V es = true := by
  unfold mayI; simp only [decide_eq_true_eq]
  refine ⟨h1, h2, h3, fun e he => ?_⟩
  obtain ⟨j, hj, rfl⟩ := List.mem_iff_getElem.1 he
  exact h j hj hj
theorem ok_step {V : Int} {es : List (Int × Int)} {k : Nat} (h : ∀ j (hj : j < es.length), j < k → okE V es[j]) (hk : k < es.length) (h1 : okE V es[k]) : ∀ j (hj : j < es.length), j < k + 1 → okE V es[j] := by
  intro j hj hlt
  by_cases e : j = k
  · subst e; exact h1
  · exact h j hj (by omega)

theorem may31 (K : Know) (V : Int) (u : Value) (es : List (Int × Int)) (hF : Fl K layII u es) : Spec0 Try.prog 31 #[.agg #[.int .i64 V, u]] K (isB (mayI V es)) := by
  unfold Spec0
  refine spec_enter Try.func31 rfl (by kernel_rfl) Try.ntmps31 rfl ?_; intro C hC0 hCM
  repeat' first | (with_reducible refine id_code ?_; first | (refine rt_seq ?_) | (refine s_text ?_) | (refine rt_condT rfl ?_) | (refine rt_condF rfl ?_) | (refine rt_ret ?_) | (refine rt_skip ?_) | (refine rt_block ?_)) | (refine id_pur ?_; first | (refine r_move rfl rfl rfl rfl ?_) | (refine r_assign rfl rfl rfl rfl ?_) | (refine kd_field rfl rfl ?_; (refine r_field tb rfl rfl rfl rfl rfl ?_)) | (refine kd_bin rfl rfl ?_; first | (refine r_lss rfl rfl rfl rfl rfl ?_ ?_ <;> intro _hc <;> first | (exfalso; omega) | skip) | (refine r_gtr rfl rfl rfl rfl rfl ?_ ?_ <;> intro _hc <;> first | (exfalso; omega) | skip)) | (refine rt_pass rfl rfl rfl rfl ?_) | (refine r_len tb rfl rfl rfl rfl rfl (by (exact len_fl (by assumption))) ?_) | (refine r_pickT rfl rfl rfl rfl rfl ?_) | (refine r_pickF rfl rfl rfl rfl rfl ?_)) | (refine id_ld ?_; first | (refine kd_ld1 tb rfl rfl rfl ?_; (refine r_load tb rfl rfl rfl rfl rfl (by (exact cel_blk 0 (by rfl) (by rfl) (by ((intro e; cases e; done))))) ?_)) | (refine rt_pass rfl rfl rfl rfl ?_)) | (refine id_evt ?_; (refine r_boxA rfl rfl rfl rfl ?_ <;> intro bx)) | (refine rt_done ?_) | (with_reducible refine rt_then ?_) | (with_reducible refine rt_thenRet ?_) | (with_reducible refine id_ret ?_; refine rt_ret1 [] rfl rfl rfl ?_)
  · exact ⟨rfl, isB_of (mayI_not (by omega))⟩
  · exact ⟨rfl, isB_of (mayI_not (by omega))⟩
  · exact ⟨rfl, isB_of (mayI_not (by omega))⟩
  · refine rt_loop (fun k : Nat => k ≤ es.length ∧ ∀ j (h : j < es.length), j < k → okE V es[j]) (fun _ => K) (fun _ => [.blk bx [.int .i64 V, u] 24]) (fun k => [(1, .pointer (some ⟨bx, 0, none⟩)), (3, .int .i64 (k : Int))]) (fun k => es.length - k) 0 ⟨by omega, by intros; omega⟩ rfl rfl ⟨rfl, rfl, trivial⟩ ?_
    intro k ⟨hk, hok⟩
    repeat' first | (with_reducible refine id_code ?_; first | (refine rt_seq ?_) | (refine s_text ?_) | (refine rt_condT rfl ?_) | (refine rt_condF rfl ?_) | (refine rt_ret ?_) | (refine rt_exit ?_) | (refine rt_skip ?_) | (refine rt_block ?_)) | (refine id_pur ?_; first | (refine r_move rfl rfl rfl rfl ?_) | (refine r_assign rfl rfl rfl rfl ?_) | (refine kd_field rfl rfl ?_; (refine r_field tb rfl rfl rfl rfl rfl ?_)) | (refine kd_bin rfl rfl ?_; first | (refine r_add rfl rfl rfl rfl rfl (by omega) ?_) | (refine r_lss rfl rfl rfl rfl rfl ?_ ?_ <;> intro _hc <;> first | (exfalso; omega) | skip) | (refine r_geq rfl rfl rfl rfl rfl ?_ ?_ <;> intro _hc <;> first | (exfalso; omega) | skip)) | (refine rt_pass rfl rfl rfl rfl ?_) | (refine kd_index rfl rfl ?_; (refine r_index tb _ rfl rfl rfl rfl rfl rfl (by (exact len_fl (by assumption))) rfl (by (omega)) ?_)) | (refine r_len tb rfl rfl rfl rfl rfl (by (exact len_fl (by assumption))) ?_) | (refine r_pickT rfl rfl rfl rfl rfl ?_) | (refine r_pickF rfl rfl rfl rfl rfl ?_)) | (refine id_ld ?_; first | (refine kd_ld1 tb rfl rfl rfl ?_; (refine r_load tb rfl rfl rfl rfl rfl (by first | (exact cel_blk 0 (by rfl) (by rfl) (by ((intro e; cases e; done)))) | (exact cel_blk 1 (by rfl) (by rfl) (by ((intro e; cases e; done))))) ?_)) | (refine kd_ldA tb rfl rfl rfl ?_; (refine r_loadA tb rfl rfl rfl rfl rfl (by (exact cs_fl (by assumption) (by (omega)) (by rfl) (by ((intro e; cases e; done))))) (by rfl) ?_)) | (refine rt_pass rfl rfl rfl rfl ?_)) | (refine id_evt ?_; first | (refine r_alloc tb rfl rfl rfl rfl ?_ <;> intro bx) | (refine kd_stA tb rfl rfl rfl ?_; (refine s_storeA tb 0 rfl rfl rfl rfl rfl rfl rfl rfl (by repeat first | exact SetAt.zero | apply SetAt.succ) (by repeat first | exact trivial | refine And.intro (by (exact one_rfl rfl)) ?_) ?_))) | (refine rt_done ?_) | (with_reducible refine rt_then ?_) | (with_reducible refine rt_blockN ?_) | (with_reducible refine rt_blockR ?_) | (with_reducible refine rt_blockE ?_) | (with_reducible refine rt_thenRet ?_) | (with_reducible refine rt_thenExit ?_) | (with_reducible refine id_ret ?_; refine rt_ret1 [] rfl rfl rfl ?_)
    iterate 4 (· exact ⟨rfl, isB_of (mayI_bad (k := k) (by omega) (by unfold okE; omega))⟩)
    · refine s_keep [1] (TakeAll.cons (by repeat first | exact TakeAt.zero | apply TakeAt.succ) TakeAll.nil) ?_
      exact rt_again (k + 1) ⟨by omega, ok_step hok (by omega) (by unfold okE; omega)⟩ rfl rfl ⟨rfl, lk_int rfl (by omega), trivial⟩ (by omega)
    · obtain rfl : k = es.length := by omega
      exact ⟨rfl, isB_of (mayI_yes (by omega) (by omega) (by omega) hok)⟩
end Go.Proofs.Ytmdophgpgojbfaa
