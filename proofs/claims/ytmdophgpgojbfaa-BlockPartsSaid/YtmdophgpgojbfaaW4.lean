/- Walks: SameInts, At, May (the program's), Odd, Loose. -/
import Derived.Test.YtmdophgpgojbfaaW3
namespace Go.Proofs.Ytmdophgpgojbfaa
open Go.Y
attribute [local irreducible] Go.Y.wpR Go.Y.T Go.Y.Again Go.Y.Out Go.Y.Spec Go.Code.wp
set_option linter.unusedVariables false
set_option linter.unusedSimpArgs false
set_option maxRecDepth 100000
set_option maxHeartbeats 4000000
def o16_6c : List Md := [.pur, .pur, .pur, .ld true, .pur, .pur, .pur, .ld true, .pur]
def o16_6 : Ord := .step 0 (.pur) <| .step 1 (.pur) <| .step 2 (.pur) <| .step 3 (.ld true) <| .step 4 (.pur) <| .step 5 (.pur) <| .step 6 (.pur) <| .step 7 (.ld true) <| .step 8 (.pur) <| .done

def o19_4c : List Md := [.pur, .ld true, .pur, .pur, .pur, .ld true, .pur, .ld true, .evt true, .evt false]
def o19_4 : Ord := .step 0 (.pur) <| .step 1 (.ld true) <| .step 2 (.pur) <| .step 3 (.pur) <| .step 4 (.pur) <| .step 5 (.ld true) <| .step 6 (.pur) <| .step 7 (.ld true) <| .step 8 (.evt true) <| .step 9 (.evt false) <| .done


theorem sameInts16 (K : Know) (u v : Value) (xs ys : List Int) (hx : Fl K layI u xs) (hy : Fl K layI v ys) (hl1 : xs.length ≤ 1000000) (hl2 : ys.length ≤ 1000000) :
    Spec0 Try.prog 16 #[u, v] K (isB (decide (xs = ys))) := by
  unfold Spec0
  refine spec_enter Try.func16 rfl (by kernel_rfl) Try.ntmps16 rfl ?_; intro C hC0 hCM
  repeat' first | (with_reducible refine id_code ?_; first | (refine rt_seq ?_) | (refine s_text ?_) | (refine rt_condT rfl ?_) | (refine rt_condF rfl ?_) | (refine rt_ret ?_) | (refine rt_skip ?_) | (refine rt_block ?_)) | (refine id_pur ?_; first | (refine r_move rfl rfl rfl rfl ?_) | (refine r_assign rfl rfl rfl rfl ?_) | (refine kd_bin rfl rfl ?_; (refine r_neq rfl rfl rfl rfl rfl ?_ ?_ <;> intro _hc <;> first | (exfalso; omega) | skip)) | (refine r_len tb rfl rfl rfl rfl rfl (by (exact len_fl (by assumption))) ?_)) | (refine rt_done ?_) | (with_reducible refine rt_then ?_) | (with_reducible refine rt_thenRet ?_) | (with_reducible refine id_ret ?_; refine rt_ret1 [] rfl rfl rfl ?_)
  · exact ⟨rfl, isB_of <| decide_eq_false <| by intro e; subst e; omega⟩
  · refine rt_loop (fun k : Nat => k ≤ xs.length ∧ ∀ j (h : j < xs.length) (h' : j < ys.length), j < k → xs[j] = ys[j]) (fun _ => K) (fun _ => []) (fun k => [(0, u), (1, v), (5, .int .i64 (k : Int))]) (fun k => xs.length - k) 0 ⟨by omega, by intros; omega⟩ rfl rfl ⟨rfl, rfl, rfl, trivial⟩ ?_
    intro k ⟨hk, hs⟩
    repeat' first | (with_reducible refine id_code ?_; first | (refine rt_seq ?_) | (refine s_text ?_) | (refine rt_condT rfl ?_) | (refine rt_condF rfl ?_) | (refine rt_ret ?_) | (refine rt_exit ?_) | (refine rt_skip ?_) | (refine rt_block ?_) | (refine rt_draw (id := 6) mixed none o16_6c o16_6 (by kernel_rfl) ?_)) | (refine id_pur ?_; first | (refine r_move rfl rfl rfl rfl ?_) | (refine r_assign rfl rfl rfl rfl ?_) | (refine kd_bin rfl rfl ?_; first | (refine r_add rfl rfl rfl rfl rfl (by omega) ?_) | (refine r_lss rfl rfl rfl rfl rfl ?_ ?_ <;> intro _hc <;> first | (exfalso; omega) | skip) | (refine r_neq rfl rfl rfl rfl rfl ?_ ?_ <;> intro _hc <;> first | (exfalso; omega) | skip)) | (refine kd_index rfl rfl ?_; (refine r_index tb _ rfl rfl rfl rfl rfl rfl (by (exact len_fl (by assumption))) rfl (by (omega)) ?_)) | (refine r_len tb rfl rfl rfl rfl rfl (by (exact len_fl (by assumption))) ?_)) | (refine id_ld ?_; (refine kd_ld1 tb rfl rfl rfl ?_; (refine r_load tb rfl rfl rfl rfl rfl (by (exact c_fl0 (by assumption) (by (omega)) (by rfl) (by rfl) (by (exact fun _ => exK_none)))) ?_))) | (refine rt_done ?_) | (with_reducible refine rt_then ?_) | (with_reducible refine rt_blockN ?_) | (with_reducible refine rt_blockR ?_) | (with_reducible refine rt_blockE ?_) | (with_reducible refine rt_thenRet ?_) | (with_reducible refine rt_thenExit ?_) | (with_reducible refine id_ret ?_; refine rt_ret1 [] rfl rfl rfl ?_)
    · exact ⟨rfl, isB_of <| decide_eq_false <| by intro e; subst e; contradiction⟩
    · refine rt_again (k + 1) ⟨by omega, fun j h h' hlt => ?_⟩ rfl rfl ⟨rfl, rfl, lk_int rfl (by omega), trivial⟩ (by omega)
      by_cases e : j = k
      · subst e; assumption
      · exact hs j h h' (by omega)
    · exact ⟨rfl, isB_of <| decide_eq_true <| List.ext_getElem (by omega) fun j h h' => hs j h h' (by omega)⟩

def atOf (es : List (Nat × Nat)) (b : List Nat) (x : Nat) : Bool := b.any fun i => (es.getD i (0, 0)).1 == x || (es.getD i (0, 0)).2 == x
theorem at19 (K : Know) (V : Int) (u bu : Value) (es : List (Nat × Nat)) (b : List Nat) (x : Nat) (hF : Fl K layNN u es) (hB : Fl K layN bu b) (hm : es.length ≤ 1000) (hb : b.length ≤ 1000) (hbe : ∀ i ∈ b, i < es.length) :
    Spec0 Try.prog 19 #[.agg #[.int .i64 V, u], bu, .int .i64 (x : Int)] K (isB (atOf es b x)) := by
  unfold Spec0
  refine spec_enter Try.func19 rfl (by kernel_rfl) Try.ntmps19 rfl ?_; intro C hC0 hCM
  repeat' first | (with_reducible refine id_code ?_; first | (refine rt_seq ?_) | (refine s_text ?_) | (refine rt_block ?_)) | (refine id_pur ?_; (refine r_assign rfl rfl rfl rfl ?_)) | (refine id_evt ?_; (refine r_boxA rfl rfl rfl rfl ?_ <;> intro bx)) | (refine rt_done ?_) | (with_reducible refine rt_then ?_)
  refine rt_loop (fun k : Nat => k ≤ b.length ∧ ∀ j (h : j < b.length), j < k → ((es.getD b[j] (0, 0)).1 == x || (es.getD b[j] (0, 0)).2 == x) = false) (fun _ => K) (fun _ => [.blk bx [.int .i64 V, u] 24]) (fun k => [(1, bu), (2, .int .i64 (x : Int)), (3, .pointer (some ⟨bx, 0, none⟩)), (7, .int .i64 (k : Int))]) (fun k => b.length - k) 0 ⟨by omega, by intros; omega⟩ rfl rfl ⟨rfl, rfl, rfl, rfl, trivial⟩ ?_
  intro k ⟨hk, hs⟩
  by_cases hlt : k < b.length
  · have hbk : b[k] < es.length := hbe _ (List.getElem_mem _)
    have hget : es.getD b[k] (0, 0) = es[b[k]] := getD_at _ _ hbk
    repeat' first | (with_reducible refine id_code ?_; first | (refine rt_seq ?_) | (refine s_text ?_) | (refine rt_condT rfl ?_) | (refine rt_condF rfl ?_) | (refine rt_ret ?_) | (refine rt_skip ?_) | (refine rt_block ?_) | (refine rt_draw (id := 4) mixed none o19_4c o19_4 (by kernel_rfl) ?_)) | (refine id_pur ?_; first | (refine r_move rfl rfl rfl rfl ?_) | (refine r_assign rfl rfl rfl rfl ?_) | (refine kd_field rfl rfl ?_; (refine r_field tb rfl rfl rfl rfl rfl ?_)) | (refine kd_bin rfl rfl ?_; first | (refine r_add rfl rfl rfl rfl rfl (by omega) ?_) | (refine r_lss rfl rfl rfl rfl rfl ?_ ?_ <;> intro _hc <;> first | (exfalso; omega) | skip) | (refine r_eql rfl rfl rfl rfl rfl ?_ ?_ <;> intro _hc <;> first | (exfalso; omega) | skip)) | (refine rt_pass rfl rfl rfl rfl ?_) | (refine kd_index rfl rfl ?_; (refine r_index tb _ rfl rfl rfl rfl rfl rfl (by (exact len_fl (by assumption))) rfl (by (omega)) ?_)) | (refine r_len tb rfl rfl rfl rfl rfl (by (exact len_fl (by assumption))) ?_) | (refine r_pickT rfl rfl rfl rfl rfl ?_) | (refine r_pickF rfl rfl rfl rfl rfl ?_)) | (refine id_ld ?_; first | (refine kd_ld1 tb rfl rfl rfl ?_; (refine r_load tb rfl rfl rfl rfl rfl (by first | (exact cel_blk 0 (by rfl) (by rfl) (by first | ((intro e; cases e; done)) | (exact fun _ => exOk_none))) | (exact c_fl0 (by assumption) (by (omega)) (by rfl) (by rfl) (by (exact fun _ => exK_none)))) ?_)) | (refine kd_ldA tb rfl rfl rfl ?_; (refine r_loadA tb rfl rfl rfl rfl rfl (by (exact cs_fl (by assumption) (by (omega)) (by rfl) (by (exact fun _ => exK_none)))) (by rfl) ?_)) | (refine rt_pass rfl rfl rfl rfl ?_)) | (refine id_evt ?_; first | (refine r_alloc tb rfl rfl rfl rfl ?_ <;> intro bx) | (refine kd_stA tb rfl rfl rfl ?_; (refine s_storeA tb 0 rfl rfl rfl rfl rfl rfl rfl rfl (by repeat first | exact SetAt.zero | apply SetAt.succ) (by repeat first | exact trivial | refine And.intro (by (exact one_rfl rfl)) ?_) ?_))) | (refine rt_done ?_) | (with_reducible refine rt_then ?_) | (with_reducible refine rt_blockN ?_) | (with_reducible refine rt_blockR ?_) | (with_reducible refine rt_thenRet ?_) | (with_reducible refine id_ret ?_; refine rt_ret1 [] rfl rfl rfl ?_)
    · exact ⟨rfl, isB_of <| by unfold atOf; rw [List.any_eq_true]; exact ⟨b[k], List.getElem_mem _, by rw [hget]; simp; omega⟩⟩
    · exact ⟨rfl, isB_of <| by unfold atOf; rw [List.any_eq_true]; exact ⟨b[k], List.getElem_mem _, by rw [hget]; simp; omega⟩⟩
    · refine s_keep [1] (TakeAll.cons (by repeat first | exact TakeAt.zero | apply TakeAt.succ) TakeAll.nil) ?_
      refine rt_again (k + 1) ⟨by omega, fun j h hlt' => ?_⟩ rfl rfl ⟨rfl, rfl, rfl, lk_int rfl (by omega), trivial⟩ (by omega)
      by_cases e : j = k
      · subst e; rw [hget]; simp; omega
      · exact hs j h (by omega)
  · obtain rfl : k = b.length := by omega
    repeat' first | (with_reducible refine id_code ?_; first | (refine rt_seq ?_) | (refine s_text ?_) | (refine rt_condF rfl ?_) | (refine rt_ret ?_) | (refine rt_exit ?_)) | (refine id_pur ?_; first | (refine r_move rfl rfl rfl rfl ?_) | (refine r_assign rfl rfl rfl rfl ?_) | (refine kd_bin rfl rfl ?_; (refine r_lss rfl rfl rfl rfl rfl ?_ ?_ <;> intro _hc <;> first | (exfalso; omega) | skip)) | (refine r_len tb rfl rfl rfl rfl rfl (by (exact len_fl (by assumption))) ?_)) | (refine rt_done ?_) | (with_reducible refine rt_then ?_) | (with_reducible refine rt_blockE ?_) | (with_reducible refine rt_thenExit ?_) | (with_reducible refine id_ret ?_; refine rt_ret1 [] rfl rfl rfl ?_)
    exact ⟨rfl, isB_of <| by unfold atOf; rw [List.any_eq_false]; intro i hi; obtain ⟨j, hj, rfl⟩ := List.mem_iff_getElem.1 hi; rw [hs j hj hj]; simp⟩

/-! #### the program's May -/
theorem may42 (K : Know) (x V : Int) (bg : Nat) (u : Value) (hk : K bg (.cells [.int .i64 V, u].toArray 24 (0, 0))) :
    Spec0 Try.prog 42 #[.int .i64 x, .pointer (some ⟨bg, 0, none⟩)] K (isB (decide (x < 0 ∨ V ≤ x))) := by
  unfold Spec0
  refine spec_enter Try.func42 rfl (by kernel_rfl) Try.ntmps42 rfl ?_; intro C hC0 hCM
  repeat' first | (with_reducible refine id_code ?_; first | (refine rt_seq ?_) | (refine s_text ?_) | (refine rt_ret ?_)) | (refine id_pur ?_; first | (refine r_move rfl rfl rfl rfl ?_) | (refine r_assign rfl rfl rfl rfl ?_) | (refine kd_field rfl rfl ?_; (refine r_field tb rfl rfl rfl rfl rfl ?_)) | (refine kd_bin rfl rfl ?_; first | (refine r_lss rfl rfl rfl rfl rfl ?_ ?_ <;> intro _hc <;> first | (exfalso; omega) | skip) | (refine r_geq rfl rfl rfl rfl rfl ?_ ?_ <;> intro _hc <;> first | (exfalso; omega) | skip)) | (refine rt_pass rfl rfl rfl rfl ?_) | (refine r_pickT rfl rfl rfl rfl rfl ?_) | (refine r_pickF rfl rfl rfl rfl rfl ?_)) | (refine id_ld ?_; first | (refine kd_ld1 tb rfl rfl rfl ?_; (refine r_load tb rfl rfl rfl rfl rfl (by (exact cel_K (by assumption) (by rfl) (by ((intro e; cases e; done))))) ?_)) | (refine rt_pass rfl rfl rfl rfl ?_)) | (refine rt_done ?_) | (with_reducible refine rt_then ?_) | (with_reducible refine id_ret ?_; refine rt_ret1 [] rfl rfl rfl ?_)
  all_goals exact ⟨rfl, isB_of (by simp; omega)⟩

theorem okE_dec (V x y : Int) : (!decide (okE V (x, y))) = (decide (x < 0 ∨ V ≤ x) || decide (y < 0 ∨ V ≤ y)) := by
  by_cases h1 : x < 0 ∨ V ≤ x <;> by_cases h2 : y < 0 ∨ V ≤ y <;> simp only [h1, h2, decide_true, decide_false, Bool.or_false, Bool.or_true, Bool.false_or, Bool.not_eq_true', decide_eq_false_iff_not, Bool.not_eq_false', decide_eq_true_eq] <;> unfold okE <;> simp only <;> omega
theorem may43 (K : Know) (x y V : Int) (bg bo : Nat) (u : Value) (hk : K bg (.cells [.int .i64 V, u].toArray 24 (0, 0))) (hk2 : K bo (.cells [.func (.func 42) #[] #[.pointer (some ⟨bg, 0, none⟩)]].toArray 66 (0, 0))) :
    Spec0 Try.prog 43 #[.agg #[.int .i64 x, .int .i64 y], .pointer (some ⟨bo, 0, none⟩)] K (isB (!decide (okE V (x, y)))) := by
  unfold Spec0
  refine spec_enter Try.func43 rfl (by kernel_rfl) Try.ntmps43 rfl ?_; intro C hC0 hCM
  repeat' first | (with_reducible refine s_split ?_ ?_ <;> intro _hb) | (with_reducible refine id_code ?_; first | (refine rt_seq ?_) | (refine s_text ?_) | (refine rt_ret ?_)) | (refine id_evt ?_; refine kd_call rfl rfl ?_; refine r_call0 (f := 42) (us := []) (cs := [.pointer (some ⟨bg, 0, none⟩)]) rfl rfl rfl rfl rfl (fun Kc hK _ => may42 Kc _ V bg u (hK _ _ hk)) ?_; rintro _ rfl) | (refine id_pur ?_; first | (refine r_move rfl rfl rfl rfl ?_) | (refine r_assign rfl rfl rfl rfl ?_) | (refine kd_field rfl rfl ?_; (refine r_field tb rfl rfl rfl rfl rfl ?_)) | (refine rt_pass rfl rfl rfl rfl ?_) | (refine r_pickT rfl rfl rfl rfl rfl ?_) | (refine r_pickF rfl rfl rfl rfl rfl ?_)) | (refine id_ld ?_; first | (refine kd_ld1 tb rfl rfl rfl ?_; (refine r_load tb rfl rfl rfl rfl rfl (by first | (exact cel_blk 0 (by rfl) (by rfl) (by ((intro e; cases e; done)))) | (exact cel_K (by assumption) (by rfl) (by ((intro e; cases e; done))))) ?_)) | (refine rt_pass rfl rfl rfl rfl ?_)) | (refine id_evt ?_; first | (refine r_boxA rfl rfl rfl rfl ?_ <;> intro bx) | (refine rt_pass rfl rfl rfl rfl ?_)) | (refine rt_done ?_) | (with_reducible refine rt_then ?_) | (with_reducible refine id_ret ?_; refine rt_ret1 [] rfl rfl rfl ?_)
  all_goals exact ⟨rfl, isB_of (by rw [okE_dec]; simp only [*]; rfl)⟩

/-- The place of the first one of which something holds; -1: of none. -/
def idxI {α : Type} (p : α → Bool) (xs : List α) : Int := match xs.findIdx? p with
  | some i => (i : Int)
  | none => -1
theorem idxI_at {α : Type} {p : α → Bool} {xs : List α} {k : Nat} (hk : k < xs.length) (h : p xs[k] = true) (h0 : ∀ j (hj : j < xs.length), j < k → p xs[j] = false) : idxI p xs = k := by
  have : xs.findIdx? p = some k := by
    rw [List.findIdx?_eq_some_iff_getElem]
    exact ⟨hk, h, fun j hj => by rw [h0 j (by omega) hj]; simp⟩
  simp [idxI, this]
theorem idxI_none {α : Type} {p : α → Bool} {xs : List α} (h0 : ∀ j (hj : j < xs.length), j < xs.length → p xs[j] = false) : idxI p xs = -1 := by
  have : xs.findIdx? p = none := by
    rw [List.findIdx?_eq_none_iff]
    intro x hx
    obtain ⟨j, hj, rfl⟩ := List.mem_iff_getElem.1 hx
    exact h0 j hj hj
  simp [idxI, this]
theorem idxI_any {α : Type} (p : α → Bool) (xs : List α) : decide (0 ≤ idxI p xs) = xs.any p := by
  unfold idxI
  cases h : xs.findIdx? p with
  | none =>
    rw [List.findIdx?_eq_none_iff] at h
    have : xs.any p = false := by rw [List.any_eq_false]; intro x hx; simp [h x hx]
    rw [this]; rfl
  | some i =>
    rw [List.findIdx?_eq_some_iff_getElem] at h
    obtain ⟨hi, hp, _⟩ := h
    have : xs.any p = true := by rw [List.any_eq_true]; exact ⟨_, List.getElem_mem hi, hp⟩
    rw [this]; simp

theorem indexFunc44 (K : Know) (u : Value) (es : List (Int × Int)) (f : FuncId) (us cs : List Value) (p : Int × Int → Bool) (hF : Fl K layII u es) (hm : es.length ≤ 9223372036854775807)
    (hp : ∀ Kc, K.Le Kc → ∀ e, Spec0 Try.prog f (us ++ [Value.agg (layII.f e).toArray] ++ cs).toArray Kc (isB (p e))) :
    Spec0 Try.prog 44 #[u, .func (.func f) us.toArray cs.toArray] K (fun r => r = .int .i64 (idxI p es)) := by
  unfold Spec0
  refine spec_enter Try.func44 rfl (by kernel_rfl) Try.ntmps44 rfl ?_; intro C hC0 hCM
  repeat' first | (with_reducible refine id_code ?_; first | (refine rt_seq ?_) | (refine s_text ?_) | (refine rt_block ?_)) | (refine id_pur ?_; first | (refine r_move rfl rfl rfl rfl ?_) | (refine r_assign rfl rfl rfl rfl ?_) | (refine r_len tb rfl rfl rfl rfl rfl (by (exact len_fl (by assumption))) ?_)) | (refine rt_done ?_) | (with_reducible refine rt_then ?_)
  refine rt_loop (fun k : Nat => k ≤ es.length ∧ ∀ j (h : j < es.length), j < k → p es[j] = false) (fun _ => K) (fun _ => []) (fun k => [(0, u), (1, .func (.func f) us.toArray cs.toArray), (7, .int .i64 (es.length : Int)), (8, .int .i64 (k : Int))]) (fun k => es.length - k) 0 ⟨by omega, by intros; omega⟩ rfl rfl ⟨rfl, rfl, rfl, rfl, trivial⟩ ?_
  intro k ⟨hk, hs⟩
  repeat' first | (with_reducible refine s_split ?_ ?_ <;> intro _hb) | (with_reducible refine id_code ?_; first | (refine rt_seq ?_) | (refine s_text ?_) | (refine rt_condT rfl ?_) | (refine rt_condF rfl ?_) | (refine rt_ret ?_) | (refine rt_exit ?_) | (refine rt_skip ?_) | (refine rt_block ?_)) | (refine id_evt ?_; refine kd_call rfl rfl ?_; refine r_call0 rfl rfl rfl rfl rfl (fun Kc hK _ => hp Kc hK _) ?_; rintro _ rfl) | (refine id_pur ?_; first | (refine r_move rfl rfl rfl rfl ?_) | (refine r_assign rfl rfl rfl rfl ?_) | (refine kd_bin rfl rfl ?_; first | (refine r_add rfl rfl rfl rfl rfl (by omega) ?_) | (refine r_lss rfl rfl rfl rfl rfl ?_ ?_ <;> intro _hc <;> first | (exfalso; omega) | skip)) | (refine kd_index rfl rfl ?_; (refine r_index tb _ rfl rfl rfl rfl rfl rfl (by (exact len_fl (by assumption))) rfl (by (omega)) ?_))) | (refine id_ld ?_; (refine kd_ldA tb rfl rfl rfl ?_; (refine r_loadA tb rfl rfl rfl rfl rfl (by (exact cs_fl (by assumption) (by (omega)) (by rfl) (by ((intro e; cases e; done))))) (by rfl) ?_))) | (refine rt_done ?_) | (with_reducible refine rt_then ?_) | (with_reducible refine rt_blockN ?_) | (with_reducible refine rt_blockR ?_) | (with_reducible refine rt_blockE ?_) | (with_reducible refine rt_thenRet ?_) | (with_reducible refine rt_thenExit ?_) | (with_reducible refine id_ret ?_; refine rt_ret1 [] rfl rfl rfl ?_)
  · exact ⟨rfl, by rw [idxI_at (by omega) (by assumption) hs]⟩
  · refine rt_again (k + 1) ⟨by omega, fun j h h' => ?_⟩ rfl rfl ⟨rfl, rfl, rfl, lk_int rfl (by omega), trivial⟩ (by omega)
    by_cases e : j = k
    · subst e; assumption
    · exact hs j h (by omega)
  · obtain rfl : k = es.length := by omega
    exact ⟨rfl, by rw [idxI_none hs]⟩

theorem containsFunc23 (K : Know) (u : Value) (es : List (Int × Int)) (f : FuncId) (us cs : List Value) (p : Int × Int → Bool) (hF : Fl K layII u es) (hm : es.length ≤ 9223372036854775807)
    (hp : ∀ Kc, K.Le Kc → ∀ e, Spec0 Try.prog f (us ++ [Value.agg (layII.f e).toArray] ++ cs).toArray Kc (isB (p e))) :
    Spec0 Try.prog 23 #[u, .func (.func f) us.toArray cs.toArray] K (isB (es.any p)) := by
  unfold Spec0
  refine spec_enter Try.func23 rfl (by kernel_rfl) Try.ntmps23 rfl ?_; intro C hC0 hCM
  repeat' first | (with_reducible refine id_code ?_; first | (refine rt_seq ?_) | (refine s_text ?_) | (refine rt_ret ?_)) | (refine id_evt ?_; refine kd_call rfl rfl ?_; refine r_call0 (f := 44) rfl rfl rfl rfl rfl (fun Kc hK _ => indexFunc44 Kc u es f us cs p (hF.mono hK) hm fun Kd hd => hp Kd (hK.trans hd)) ?_; rintro _ rfl) | (refine id_pur ?_; first | (refine r_move rfl rfl rfl rfl ?_) | (refine r_assign rfl rfl rfl rfl ?_) | (refine kd_bin rfl rfl ?_; (refine r_geq rfl rfl rfl rfl rfl ?_ ?_ <;> intro _hc <;> first | (exfalso; omega) | skip))) | (refine rt_done ?_) | (with_reducible refine rt_then ?_) | (with_reducible refine id_ret ?_; refine rt_ret1 [] rfl rfl rfl ?_)
  all_goals exact ⟨rfl, isB_of (by rw [← idxI_any]; simp; omega)⟩

theorem mayI_anyT {V : Int} {es : List (Int × Int)} (h : es.any (fun e => !decide (okE V e)) = true) : mayI V es = false := by
  obtain ⟨e, he, h1⟩ := List.any_eq_true.1 h
  unfold mayI; simp only [decide_eq_false_iff_not]
  intro ⟨_, _, _, hd⟩
  simp [hd e he] at h1
theorem mayI_anyF {V : Int} {es : List (Int × Int)} (h1 : 1 ≤ V) (h2 : V ≤ 64) (h3 : es.length ≤ 128) (h : es.any (fun e => !decide (okE V e)) = false) : mayI V es = true := by
  rw [List.any_eq_false] at h
  unfold mayI; simp only [decide_eq_true_eq]
  exact ⟨h1, h2, h3, fun e he => by simpa using h e he⟩
theorem may22 (K : Know) (V : Int) (u : Value) (es : List (Int × Int)) (hF : Fl K layII u es) (hm : es.length ≤ 9223372036854775807) : Spec0 Try.prog 22 #[.agg #[.int .i64 V, u]] K (isB (mayI V es)) := by
  unfold Spec0
  refine spec_enter Try.func22 rfl (by kernel_rfl) Try.ntmps22 rfl ?_; intro C hC0 hCM
  repeat' first | (with_reducible refine s_split ?_ ?_ <;> intro _hb) | (with_reducible refine id_code ?_; first | (refine rt_seq ?_) | (refine s_text ?_) | (refine rt_ret ?_)) | (refine id_evt ?_; refine kd_call rfl rfl ?_; refine r_call0 (f := 23) rfl rfl rfl rfl rfl (fun Kc hK hL => containsFunc23 Kc u es 43 [] _ (fun e => !decide (okE V e)) (hF.mono hK) hm fun Kd hd e => may43 Kd e.1 e.2 V _ _ u (hd _ _ (hat1 hL)) (hd _ _ (hat0 hL))) ?_; rintro _ rfl) | (refine id_pur ?_; first | (refine r_move rfl rfl rfl rfl ?_) | (refine r_assign rfl rfl rfl rfl ?_) | (refine kd_field rfl rfl ?_; (refine r_field tb rfl rfl rfl rfl rfl ?_)) | (refine kd_bin rfl rfl ?_; first | (refine r_leq rfl rfl rfl rfl rfl ?_ ?_ <;> intro _hc <;> first | (exfalso; omega) | skip) | (refine r_gtr rfl rfl rfl rfl rfl ?_ ?_ <;> intro _hc <;> first | (exfalso; omega) | skip)) | (refine rt_pass rfl rfl rfl rfl ?_) | (refine r_len tb rfl rfl rfl rfl rfl (by (exact len_fl (by assumption))) ?_) | (refine r_pickT rfl rfl rfl rfl rfl ?_) | (refine r_pickF rfl rfl rfl rfl rfl ?_) | (refine r_notT rfl rfl rfl rfl ?_) | (refine r_notF rfl rfl rfl rfl ?_) | (refine r_makeFunc rfl rfl rfl rfl rfl ?_)) | (refine id_ld ?_; first | (refine kd_ld1 tb rfl rfl rfl ?_; (refine r_load tb rfl rfl rfl rfl rfl (by (exact cel_blk 1 (by rfl) (by rfl) (by ((intro e; cases e; done))))) ?_)) | (refine rt_pass rfl rfl rfl rfl ?_)) | (refine id_evt ?_; first | (refine r_boxA rfl rfl rfl rfl ?_ <;> intro bx) | (refine r_alloc tb rfl rfl rfl rfl ?_ <;> intro bx) | (refine kd_st1 tb rfl rfl rfl ?_; (refine s_store tb 0 rfl rfl rfl rfl rfl rfl (by repeat first | exact SetAt.zero | apply SetAt.succ) (by repeat first | exact SetAt.zero | apply SetAt.succ) (by (exact one_rfl rfl)) ?_)) | (refine rt_pass rfl rfl rfl rfl ?_)) | (refine rt_done ?_) | (with_reducible refine rt_then ?_) | (with_reducible refine id_ret ?_; refine rt_ret1 [] rfl rfl rfl ?_)
  · exact ⟨rfl, isB_of (mayI_anyT (by assumption))⟩
  · exact ⟨rfl, isB_of (mayI_anyF (by omega) (by omega) (by omega) (by assumption))⟩
  all_goals exact ⟨rfl, isB_of (mayI_not (by omega))⟩

def oddI (V : Int) (es : List (Int × Int)) : Bool := es.any (fun e => decide (e.1 = e.2)) || !mayI V es
theorem oddI_at {V : Int} {es : List (Int × Int)} {k : Nat} (hk : k < es.length) (h : es[k].1 = es[k].2) : oddI V es = true := by
  unfold oddI
  have : es.any (fun e => decide (e.1 = e.2)) = true := by rw [List.any_eq_true]; exact ⟨_, List.getElem_mem hk, by simp [h]⟩
  rw [this]; rfl
theorem oddI_not {V : Int} {es : List (Int × Int)} (h : ∀ j (hj : j < es.length), j < es.length → es[j].1 ≠ es[j].2) : oddI V es = !mayI V es := by
  unfold oddI
  have : es.any (fun e => decide (e.1 = e.2)) = false := by
    rw [List.any_eq_false]; intro x hx
    obtain ⟨j, hj, rfl⟩ := List.mem_iff_getElem.1 hx
    simp [h j hj hj]
  rw [this]; rfl
theorem odd12 (K : Know) (V : Int) (u : Value) (es : List (Int × Int)) (hF : Fl K layII u es) (hm : es.length ≤ 9223372036854775807) : Spec0 Try.prog 12 #[.agg #[.int .i64 V, u]] K (isB (oddI V es)) := by
  unfold Spec0
  refine spec_enter Try.func12 rfl (by kernel_rfl) Try.ntmps12 rfl ?_; intro C hC0 hCM
  repeat' first | (with_reducible refine id_code ?_; first | (refine rt_seq ?_) | (refine s_text ?_) | (refine rt_block ?_)) | (refine id_pur ?_; first | (refine r_move rfl rfl rfl rfl ?_) | (refine r_assign rfl rfl rfl rfl ?_) | (refine kd_field rfl rfl ?_; (refine r_field tb rfl rfl rfl rfl rfl ?_)) | (refine r_len tb rfl rfl rfl rfl rfl (by (exact len_fl (by assumption))) ?_)) | (refine id_ld ?_; (refine kd_ld1 tb rfl rfl rfl ?_; (refine r_load tb rfl rfl rfl rfl rfl (by (exact cel_blk 0 (by rfl) (by rfl) (by ((intro e; cases e; done))))) ?_))) | (refine id_evt ?_; (refine r_boxA rfl rfl rfl rfl ?_ <;> intro bx)) | (refine rt_done ?_) | (with_reducible refine rt_then ?_)
  refine rt_loop (fun k : Nat => k ≤ es.length ∧ ∀ j (h : j < es.length), j < k → es[j].1 ≠ es[j].2) (fun _ => K) (fun _ => [.blk bx [.int .i64 V, u] 24]) (fun k => [(1, .pointer (some ⟨bx, 0, none⟩)), (6, u), (7, .int .i64 (es.length : Int)), (8, .int .i64 (k : Int))]) (fun k => es.length - k) 0 ⟨by omega, by intros; omega⟩ rfl rfl ⟨rfl, rfl, rfl, rfl, trivial⟩ ?_
  intro k ⟨hk, hs⟩
  repeat' first | (with_reducible refine s_split ?_ ?_ <;> intro _hb) | (with_reducible refine id_code ?_; first | (refine rt_seq ?_) | (refine s_text ?_) | (refine rt_condT rfl ?_) | (refine rt_condF rfl ?_) | (refine rt_ret ?_) | (refine rt_exit ?_) | (refine rt_skip ?_) | (refine rt_block ?_)) | (refine id_evt ?_; refine kd_call rfl rfl ?_; refine r_call0 (f := 31) rfl rfl rfl rfl rfl (fun Kc hK _ => may31 Kc V u es (hF.mono hK)) ?_; rintro _ rfl) | (refine id_pur ?_; first | (refine r_move rfl rfl rfl rfl ?_) | (refine r_assign rfl rfl rfl rfl ?_) | (refine kd_field rfl rfl ?_; (refine r_field tb rfl rfl rfl rfl rfl ?_)) | (refine kd_bin rfl rfl ?_; first | (refine r_add rfl rfl rfl rfl rfl (by omega) ?_) | (refine r_lss rfl rfl rfl rfl rfl ?_ ?_ <;> intro _hc <;> first | (exfalso; omega) | skip) | (refine r_eql rfl rfl rfl rfl rfl ?_ ?_ <;> intro _hc <;> first | (exfalso; omega) | skip)) | (refine kd_index rfl rfl ?_; (refine r_index tb _ rfl rfl rfl rfl rfl rfl (by (exact len_fl (by assumption))) rfl (by (omega)) ?_)) | (refine r_notT rfl rfl rfl rfl ?_) | (refine r_notF rfl rfl rfl rfl ?_)) | (refine id_ld ?_; first | (refine kd_ld1 tb rfl rfl rfl ?_; (refine r_load tb rfl rfl rfl rfl rfl (by (exact cel_blk 0 (by rfl) (by rfl) (by ((intro e; cases e; done))))) ?_)) | (refine kd_ldA tb rfl rfl rfl ?_; (refine r_loadA tb rfl rfl rfl rfl rfl (by first | (exact cels_blk 0 (by rfl) (by ((intro e; cases e; done)))) | (exact cs_fl (by assumption) (by (omega)) (by rfl) (by ((intro e; cases e; done))))) (by rfl) ?_))) | (refine id_evt ?_; first | (refine r_alloc tb rfl rfl rfl rfl ?_ <;> intro bx) | (refine kd_stA tb rfl rfl rfl ?_; (refine s_storeA tb 0 rfl rfl rfl rfl rfl rfl rfl rfl (by repeat first | exact SetAt.zero | apply SetAt.succ) (by repeat first | exact trivial | refine And.intro (by (exact one_rfl rfl)) ?_) ?_))) | (refine rt_done ?_) | (with_reducible refine rt_then ?_) | (with_reducible refine rt_blockN ?_) | (with_reducible refine rt_blockR ?_) | (with_reducible refine rt_blockE ?_) | (with_reducible refine rt_thenRet ?_) | (with_reducible refine rt_thenExit ?_) | (with_reducible refine id_ret ?_; refine rt_ret1 [] rfl rfl rfl ?_)
  · exact ⟨rfl, isB_of (oddI_at (k := k) (by omega) (by assumption))⟩
  · refine s_keep [1] (TakeAll.cons (by repeat first | exact TakeAt.zero | apply TakeAt.succ) TakeAll.nil) ?_
    refine rt_again (k + 1) ⟨by omega, fun j h h' => ?_⟩ rfl rfl ⟨rfl, rfl, rfl, lk_int rfl (by omega), trivial⟩ (by omega)
    by_cases e : j = k
    · subst e; assumption
    · exact hs j h (by omega)
  all_goals (obtain rfl : k = es.length := by omega)
  all_goals exact ⟨rfl, isB_of (by rw [oddI_not hs]; simp only [*]; rfl)⟩

def looseI (V : Int) (es : List (Int × Int)) : Bool := decide (40 < es.length) || (decide (20 < V) || oddI V es)
theorem loose9 (K : Know) (V : Int) (u : Value) (es : List (Int × Int)) (hF : Fl K layII u es) (hm : es.length ≤ 9223372036854775807) : Spec0 Try.prog 9 #[.agg #[.int .i64 V, u]] K (isB (looseI V es)) := by
  unfold Spec0
  refine spec_enter Try.func9 rfl (by kernel_rfl) Try.ntmps9 rfl ?_; intro C hC0 hCM
  repeat' first | (with_reducible refine s_split ?_ ?_ <;> intro _hb) | (with_reducible refine id_code ?_; first | (refine rt_seq ?_) | (refine s_text ?_) | (refine rt_ret ?_)) | (refine id_evt ?_; refine kd_call rfl rfl ?_; refine r_call0 (f := 12) rfl rfl rfl rfl rfl (fun Kc hK _ => odd12 Kc V u es (hF.mono hK) hm) ?_; rintro _ rfl) | (refine id_pur ?_; first | (refine r_move rfl rfl rfl rfl ?_) | (refine r_assign rfl rfl rfl rfl ?_) | (refine kd_field rfl rfl ?_; (refine r_field tb rfl rfl rfl rfl rfl ?_)) | (refine kd_bin rfl rfl ?_; (refine r_gtr rfl rfl rfl rfl rfl ?_ ?_ <;> intro _hc <;> first | (exfalso; omega) | skip)) | (refine rt_pass rfl rfl rfl rfl ?_) | (refine r_len tb rfl rfl rfl rfl rfl (by (exact len_fl (by assumption))) ?_) | (refine r_pickT rfl rfl rfl rfl rfl ?_) | (refine r_pickF rfl rfl rfl rfl rfl ?_)) | (refine id_ld ?_; first | (refine kd_ld1 tb rfl rfl rfl ?_; (refine r_load tb rfl rfl rfl rfl rfl (by (exact cel_blk 0 (by rfl) (by rfl) (by ((intro e; cases e; done))))) ?_)) | (refine kd_ldA tb rfl rfl rfl ?_; (refine r_loadA tb rfl rfl rfl rfl rfl (by (exact cels_blk 0 (by rfl) (by ((intro e; cases e; done))))) (by rfl) ?_)) | (refine rt_pass rfl rfl rfl rfl ?_)) | (refine id_evt ?_; first | (refine r_boxA rfl rfl rfl rfl ?_ <;> intro bx) | (refine rt_pass rfl rfl rfl rfl ?_)) | (refine rt_done ?_) | (with_reducible refine rt_then ?_) | (with_reducible refine id_ret ?_; refine rt_ret1 [] rfl rfl rfl ?_)
  · exact ⟨rfl, isB_of (by unfold looseI; rw [decide_eq_true (by omega)]; rfl)⟩
  · exact ⟨rfl, isB_of (by unfold looseI; rw [decide_eq_false (by omega), decide_eq_true (by omega)]; rfl)⟩
  all_goals exact ⟨rfl, isB_of (by unfold looseI; rw [decide_eq_false (by omega), decide_eq_false (by omega)]; simpa using ‹oddI V es = _›)⟩
end Go.Proofs.Ytmdophgpgojbfaa
