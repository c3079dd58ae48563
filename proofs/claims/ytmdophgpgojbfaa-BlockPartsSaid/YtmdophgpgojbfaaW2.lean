/- Walks of the references of layer 3. -/
import Derived.Test.YtmdophgpgojbfaaW1
namespace Go.Proofs.Ytmdophgpgojbfaa
open Go.Y
attribute [local irreducible] Go.Y.wpR Go.Y.T Go.Y.Again Go.Y.Out Go.Y.Spec Go.Code.wp
set_option linter.unusedVariables false
set_option linter.unusedSimpArgs false
set_option maxRecDepth 100000
set_option maxHeartbeats 4000000

def o30_12c : List Md := [.pur, .pur, .ld true, .pur, .pur, .ld true, .pur, .ld true, .pur, .pur, .pur, .pur, .evt false]
def o30_12 : Ord := .step 0 (.pur) <| .step 1 (.pur) <| .step 2 (.ld true) <| .step 3 (.pur) <| .step 4 (.pur) <| .step 5 (.ld true) <| .step 6 (.pur) <| .step 7 (.ld true) <| .step 8 (.pur) <| .step 9 (.pur) <| .step 10 (.pur) <| .step 11 (.pur) <| .step 12 (.evt false) <| .done


theorem getD_at {α : Type} (l : List α) (d : α) {i : Nat} (h : i < l.length) : l.getD i d = l[i] := by simp [List.getD_eq_getElem?_getD, h]
theorem rep_set {α : Type} (a b : α) (k m : Nat) (h : k < m) : (List.replicate k a ++ List.replicate (m - k) b).set k a = List.replicate (k + 1) a ++ List.replicate (m - (k + 1)) b := by
  obtain ⟨d, rfl⟩ : ∃ d, m = k + 1 + d := ⟨m - (k + 1), by omega⟩
  have e1 : k + 1 + d - k = d + 1 := by omega
  have e2 : k + 1 + d - (k + 1) = d := by omega
  rw [e1, e2, List.replicate_succ, List.replicate_succ' (n := k), List.set_append_right _ _ (by simp)]
  simp

theorem every29 (K : Know) (V : Int) (u : Value) (es : List (Nat × Nat)) (hF : Fl K layNN u es) (hm : es.length ≤ 1000) :
    Y.Spec Try.prog 29 #[.agg #[.int .i64 V, u]] K [] (fun _ L' v => L' = [.row layB 4 v (List.replicate es.length true)]) := by
  refine spec_enter Try.func29 rfl (by kernel_rfl) Try.ntmps29 rfl ?_; intro C hC0 hCM
  repeat' first | (with_reducible refine id_code ?_; first | (refine rt_seq ?_) | (refine s_text ?_) | (refine rt_block ?_)) | (refine id_evt ?_; refine r_make tb layB false _ rfl rfl rfl rfl rfl (by rfl) (by rfl) (by rfl) (by rfl) (by rfl) (by omega) (by omega) ?_; intro mu) | (refine id_pur ?_; first | (refine r_assign rfl rfl rfl rfl ?_) | (refine kd_field rfl rfl ?_; (refine r_field tb rfl rfl rfl rfl rfl ?_)) | (refine r_len tb rfl rfl rfl rfl rfl (by (exact len_fl (by assumption))) ?_)) | (refine id_ld ?_; (refine kd_ld1 tb rfl rfl rfl ?_; (refine r_load tb rfl rfl rfl rfl rfl (by (exact cel_blk 0 (by rfl) (by rfl) (by ((intro e; cases e; done))))) ?_))) | (refine id_evt ?_; (refine r_boxA rfl rfl rfl rfl ?_ <;> intro bx)) | (refine rt_done ?_) | (with_reducible refine rt_then ?_)
  refine rt_loop (fun k : Nat => k ≤ es.length) (fun _ => K) (fun k => [.row layB 4 mu (List.replicate k true ++ List.replicate (es.length - k) false), .blk bx [.int .i64 V, u] 24]) (fun k => [(1, .pointer (some ⟨bx, 0, none⟩)), (3, mu), (4, .int .i64 (k : Int))]) (fun k => es.length - k) 0 (by omega) rfl (by simp) ⟨rfl, rfl, rfl, trivial⟩ ?_
  intro k hk
  have hlk : (List.replicate k true ++ List.replicate (es.length - k) false).length = es.length := by simp; omega
  repeat' first | (with_reducible refine id_code ?_; first | (refine rt_seq ?_) | (refine s_text ?_) | (refine rt_condT rfl ?_) | (refine rt_condF rfl ?_) | (refine rt_ret ?_) | (refine rt_exit ?_) | (refine rt_skip ?_) | (refine rt_block ?_)) | (refine id_pur ?_; first | (refine r_move rfl rfl rfl rfl ?_) | (refine r_assign rfl rfl rfl rfl ?_) | (refine kd_bin rfl rfl ?_; first | (refine r_add rfl rfl rfl rfl rfl (by omega) ?_) | (refine r_lss rfl rfl rfl rfl rfl ?_ ?_ <;> intro _hc <;> first | (exfalso; omega) | skip)) | (refine kd_index rfl rfl ?_; (refine r_index tb _ rfl rfl rfl rfl rfl rfl (by (exact len_row 0 (by rfl))) rfl (by (omega)) ?_)) | (refine r_len tb rfl rfl rfl rfl rfl (by (exact len_row 0 (by rfl))) ?_)) | (refine id_evt ?_; (refine kd_st1 tb rfl rfl rfl ?_; (refine s_storeRow tb _ 0 rfl rfl rfl rfl (by rfl) (by rfl) (by first | exact Or.inl ⟨rfl, rfl⟩ | exact Or.inr rfl) (by (exact cells1 (by (exact one_rfl rfl)))) (by (omega)) (by repeat first | exact SetAt.zero | apply SetAt.succ) (by repeat first | exact trivial | refine And.intro (by (exact one_rfl rfl)) ?_) ?_))) | (refine rt_done ?_) | (with_reducible refine rt_then ?_) | (with_reducible refine rt_blockN ?_) | (with_reducible refine rt_blockE ?_) | (with_reducible refine rt_thenExit ?_) | (with_reducible refine id_ret ?_; refine rt_ret1 [0] rfl rfl rfl ?_)
  · exact rt_again (k + 1) (by omega) rfl (by rw [rep_set _ _ _ _ (by omega)]) ⟨rfl, rfl, lk_int rfl (by omega), trivial⟩ (by omega)
  · obtain rfl : k = es.length := by omega
    simp [sel]

def goStep (es : List (Nat × Nat)) (cs : List Bool) (s : List Bool) (i : Nat) : List Bool :=
  if cs.getD i false && (s.getD (es.getD i (0, 0)).1 false || s.getD (es.getD i (0, 0)).2 false) then (s.set (es.getD i (0, 0)).2 true).set (es.getD i (0, 0)).1 true else s
def goIn (es : List (Nat × Nat)) (cs : List Bool) (s : List Bool) (i : Nat) : List Bool := (List.range i).foldl (goStep es cs) s
def goOut (es : List (Nat × Nat)) (cs : List Bool) (s : List Bool) (r : Nat) : List Bool := (List.range r).foldl (fun s _ => goIn es cs s es.length) s
def goAll (n : Nat) (es : List (Nat × Nat)) (from_ : Nat) (cs : List Bool) : List Bool := goOut es cs ((List.replicate n false).set from_ true) n
theorem goIn_succ (es : List (Nat × Nat)) (cs s : List Bool) (i : Nat) : goIn es cs s (i + 1) = goStep es cs (goIn es cs s i) i := by simp [goIn, List.range_succ]
theorem goOut_succ (es : List (Nat × Nat)) (cs s : List Bool) (r : Nat) : goOut es cs s (r + 1) = goIn es cs (goOut es cs s r) es.length := by simp [goOut, List.range_succ]
theorem goStep_length (es : List (Nat × Nat)) (cs s : List Bool) (i : Nat) : (goStep es cs s i).length = s.length := by unfold goStep; split <;> simp
theorem goIn_length (es : List (Nat × Nat)) (cs s : List Bool) (i : Nat) : (goIn es cs s i).length = s.length := by
  induction i with
  | zero => rfl
  | succ i ih => rw [goIn_succ, goStep_length, ih]
theorem goOut_length (es : List (Nat × Nat)) (cs s : List Bool) (i : Nat) : (goOut es cs s i).length = s.length := by
  induction i with
  | zero => rfl
  | succ i ih => rw [goOut_succ, goIn_length, ih]
theorem goStep_yes {es : List (Nat × Nat)} {cs s : List Bool} {i : Nat} (hi : i < es.length) (hc : i < cs.length) (h1 : es[i].1 < s.length) (h2 : es[i].2 < s.length) (a : cs[i] = true) (b : s[es[i].1] = true ∨ s[es[i].2] = true) :
    goStep es cs s i = (s.set es[i].2 true).set es[i].1 true := by
  have e : es.getD i (0, 0) = es[i] := getD_at _ _ hi
  have e1 : s.getD es[i].1 false = s[es[i].1] := getD_at _ _ h1
  have e2 : s.getD es[i].2 false = s[es[i].2] := getD_at _ _ h2
  have e3 : cs.getD i false = cs[i] := getD_at _ _ hc
  unfold goStep
  rw [e, e1, e2, e3, a, if_pos (by rcases b with b | b <;> simp [b])]
theorem goStep_no {es : List (Nat × Nat)} {cs s : List Bool} {i : Nat} (hi : i < es.length) (hc : i < cs.length) (h1 : es[i].1 < s.length) (h2 : es[i].2 < s.length) (a : cs[i] = false ∨ (s[es[i].1] = false ∧ s[es[i].2] = false)) :
    goStep es cs s i = s := by
  have e : es.getD i (0, 0) = es[i] := getD_at _ _ hi
  have e1 : s.getD es[i].1 false = s[es[i].1] := getD_at _ _ h1
  have e2 : s.getD es[i].2 false = s[es[i].2] := getD_at _ _ h2
  have e3 : cs.getD i false = cs[i] := getD_at _ _ hc
  unfold goStep
  rw [e, e1, e2, e3]
  rcases a with a | ⟨a, b⟩ <;> simp [*]

theorem go30 (K : Know) (n : Nat) (u cu : Value) (es : List (Nat × Nat)) (cs : List Bool) (fr : Nat) (hF : Fl K layNN u es) (hC : Fl K layB cu cs) (hn : n ≤ 1000) (hfr : fr < n) (hm : es.length ≤ 1000) (hcs : cs.length = es.length)
    (hes : ∀ i (h : i < es.length), es[i].1 < n ∧ es[i].2 < n) :
    Y.Spec Try.prog 30 #[.agg #[.int .i64 (n : Int), u], .int .i64 (fr : Int), .bool true, cu] K [] (fun _ L' v => L' = [.row layB 4 v (goAll n es fr cs)]) := by
  refine spec_enter Try.func30 rfl (by kernel_rfl) Try.ntmps30 rfl ?_; intro C hC0 hCM
  repeat' first | (with_reducible refine id_code ?_; first | (refine rt_seq ?_) | (refine s_text ?_) | (refine rt_block ?_)) | (refine id_evt ?_; refine r_make tb layB false _ rfl rfl rfl rfl rfl (by rfl) (by rfl) (by rfl) (by rfl) (by rfl) (by omega) (by omega) ?_; intro mu) | (refine id_pur ?_; first | (refine r_move rfl rfl rfl rfl ?_) | (refine r_assign rfl rfl rfl rfl ?_) | (refine kd_field rfl rfl ?_; (refine r_field tb rfl rfl rfl rfl rfl ?_)) | (refine kd_index rfl rfl ?_; (refine r_index tb _ rfl rfl rfl rfl rfl rfl (by (exact len_row 0 (by rfl))) rfl (by ((simp only [List.length_set, List.length_replicate, List.length_append, List.length_map, List.length_range, List.length_cons, List.length_nil]; first | assumption | omega))) ?_))) | (refine id_ld ?_; (refine kd_ld1 tb rfl rfl rfl ?_; (refine r_load tb rfl rfl rfl rfl rfl (by (exact cel_blk 0 (by rfl) (by rfl) (by ((intro e; cases e; done))))) ?_))) | (refine id_evt ?_; first | (refine r_boxA rfl rfl rfl rfl ?_ <;> intro bx) | (refine kd_st1 tb rfl rfl rfl ?_; (refine s_storeRow tb _ 0 rfl rfl rfl rfl (by rfl) (by rfl) (by first | exact Or.inl ⟨rfl, rfl⟩ | exact Or.inr rfl) (by (exact cells1 (by (exact one_rfl rfl)))) (by ((simp only [List.length_set, List.length_replicate, List.length_append, List.length_map, List.length_range, List.length_cons, List.length_nil]; first | assumption | omega))) (by repeat first | exact SetAt.zero | apply SetAt.succ) (by repeat first | exact trivial | refine And.intro (by (exact one_rfl rfl)) ?_) ?_))) | (refine rt_done ?_) | (with_reducible refine rt_then ?_)
  have hl0 : ((List.replicate n false).set fr true).length = n := by simp
  generalize hs0 : (List.replicate n false).set fr true = s0 at hl0 ⊢
  refine rt_loop (fun r : Nat => r ≤ n) (fun _ => K) (fun r => [.row layB 4 mu (goOut es cs s0 r), .blk bx [.int .i64 n, u] 24])
    (fun r => [(2, .bool true), (3, cu), (4, .pointer (some ⟨bx, 0, none⟩)), (9, mu), (10, .int .i64 (r : Int))]) (fun r => n - r) 0 (by omega) rfl rfl ⟨rfl, rfl, rfl, rfl, rfl, trivial⟩ ?_
  intro r hr
  have hlr : (goOut es cs s0 r).length = n := by rw [goOut_length, hl0]
  repeat' first | (with_reducible refine id_code ?_; first | (refine rt_seq ?_) | (refine s_text ?_) | (refine rt_condT rfl ?_) | (refine rt_condF rfl ?_) | (refine rt_ret ?_) | (refine rt_exit ?_) | (refine rt_skip ?_) | (refine rt_block ?_)) | (refine id_pur ?_; first | (refine r_move rfl rfl rfl rfl ?_) | (refine r_assign rfl rfl rfl rfl ?_) | (refine kd_field rfl rfl ?_; (refine r_field tb rfl rfl rfl rfl rfl ?_)) | (refine kd_bin rfl rfl ?_; (refine r_lss rfl rfl rfl rfl rfl ?_ ?_ <;> intro _hc <;> first | (exfalso; omega) | skip))) | (refine id_ld ?_; (refine kd_ld1 tb rfl rfl rfl ?_; (refine r_load tb rfl rfl rfl rfl rfl (by (exact cel_blk 1 (by rfl) (by rfl) (by ((intro e; cases e; done))))) ?_))) | (refine rt_done ?_) | (with_reducible refine rt_then ?_) | (with_reducible refine rt_blockE ?_) | (with_reducible refine rt_thenExit ?_) | (with_reducible refine id_ret ?_; refine rt_ret1 [0] rfl rfl rfl ?_)
  · refine rt_loop (fun i : Nat => i ≤ es.length) (fun _ => K) (fun i => [.row layB 4 mu (goIn es cs (goOut es cs s0 r) i), .blk bx [.int .i64 n, u] 24])
      (fun i => [(2, .bool true), (3, cu), (4, .pointer (some ⟨bx, 0, none⟩)), (9, mu), (10, .int .i64 (r : Int)), (11, .int .i64 (i : Int))]) (fun i => es.length - i) 0 (by omega) rfl rfl ⟨rfl, rfl, rfl, rfl, rfl, rfl, trivial⟩ ?_
    intro i hi
    have hli : (goIn es cs (goOut es cs s0 r) i).length = n := by rw [goIn_length, hlr]
    by_cases hlt : i < es.length
    · obtain ⟨ht, hh⟩ := hes i hlt
      repeat' first | (with_reducible refine s_split ?_ ?_ <;> intro _hb) | (with_reducible refine id_code ?_; first | (refine rt_seq ?_) | (refine s_text ?_) | (refine rt_condT rfl ?_) | (refine rt_condF rfl ?_) | (refine rt_skip ?_) | (refine rt_block ?_) | (refine rt_draw (id := 12) mixed none o30_12c o30_12 (by kernel_rfl) ?_)) | (refine id_pur ?_; first | (refine r_move rfl rfl rfl rfl ?_) | (refine r_assign rfl rfl rfl rfl ?_) | (refine kd_field rfl rfl ?_; (refine r_field tb rfl rfl rfl rfl rfl ?_)) | (refine kd_bin rfl rfl ?_; first | (refine r_add rfl rfl rfl rfl rfl (by omega) ?_) | (refine r_lss rfl rfl rfl rfl rfl ?_ ?_ <;> intro _hc <;> first | (exfalso; omega) | skip)) | (refine rt_pass rfl rfl rfl rfl ?_) | (refine kd_index rfl rfl ?_; (refine r_index tb _ rfl rfl rfl rfl rfl rfl (by first | (exact len_fl (by assumption)) | (exact len_row 1 (by rfl))) rfl (by first | (omega) | ((simp only [List.length_set, List.length_replicate, List.length_append, List.length_map, List.length_range, List.length_cons, List.length_nil]; first | assumption | omega))) ?_)) | (refine r_len tb rfl rfl rfl rfl rfl (by (exact len_fl (by assumption))) ?_) | (refine r_pickT rfl rfl rfl rfl rfl ?_) | (refine r_pickF rfl rfl rfl rfl rfl ?_)) | (refine id_ld ?_; first | (refine kd_ld1 tb rfl rfl rfl ?_; (refine r_load tb rfl rfl rfl rfl rfl (by first | (exact cel_blk 0 (by rfl) (by rfl) (by first | ((intro e; cases e; done)) | (exact fun _ => exOk_none))) | (exact cel_blk 1 (by rfl) (by rfl) (by ((intro e; cases e; done)))) | (exact c_fl0 (by assumption) (by (omega)) (by rfl) (by rfl) (by ((intro e; cases e; done)))) | (exact c_row0 1 (by rfl) (by first | (omega) | ((simp only [List.length_set, List.length_replicate, List.length_append, List.length_map, List.length_range, List.length_cons, List.length_nil]; first | assumption | omega))) (by rfl) (by rfl) (by first | ((intro e; cases e; done)) | (exact fun _ => exOk_none)))) ?_)) | (refine kd_ldA tb rfl rfl rfl ?_; (refine r_loadA tb rfl rfl rfl rfl rfl (by (exact cs_fl (by assumption) (by (omega)) (by rfl) (by ((intro e; cases e; done))))) (by rfl) ?_)) | (refine rt_pass rfl rfl rfl rfl ?_)) | (refine id_evt ?_; first | (refine r_alloc tb rfl rfl rfl rfl ?_ <;> intro bx) | (refine kd_stA tb rfl rfl rfl ?_; (refine s_storeA tb 0 rfl rfl rfl rfl rfl rfl rfl rfl (by repeat first | exact SetAt.zero | apply SetAt.succ) (by repeat first | exact trivial | refine And.intro (by (exact one_rfl rfl)) ?_) ?_)) | (refine kd_st1 tb rfl rfl rfl ?_; (refine s_storeRow tb _ 1 rfl rfl rfl rfl (by rfl) (by rfl) (by first | exact Or.inl ⟨rfl, rfl⟩ | exact Or.inr rfl) (by (exact cells1 (by (exact one_rfl rfl)))) (by first | (omega) | ((simp only [List.length_set, List.length_replicate, List.length_append, List.length_map, List.length_range, List.length_cons, List.length_nil]; first | assumption | omega))) (by repeat first | exact SetAt.zero | apply SetAt.succ) (by repeat first | exact trivial | refine And.intro (by (exact one_rfl rfl)) ?_) ?_))) | (refine rt_done ?_) | (with_reducible refine rt_then ?_) | (with_reducible refine rt_blockN ?_)
      all_goals (refine s_keep [1,1] (TakeAll.cons (by repeat first | exact TakeAt.zero | apply TakeAt.succ) (TakeAll.cons (by repeat first | exact TakeAt.zero | apply TakeAt.succ) TakeAll.nil)) ?_; refine rt_again (i + 1) (by omega) rfl ?_ ⟨rfl, rfl, rfl, rfl, rfl, lk_int rfl (by omega), trivial⟩ (by omega); rw [goIn_succ])
      all_goals first | (rw [goStep_yes hlt (by omega) (by omega) (by omega) (by assumption) (by first | exact Or.inl (by assumption) | exact Or.inr (by assumption))]; done) | rw [goStep_no hlt (by omega) (by omega) (by omega) (by first | exact Or.inl (by assumption) | exact Or.inr ⟨by assumption, by assumption⟩)]
    · obtain rfl : i = es.length := by omega
      repeat' first | (with_reducible refine id_code ?_; first | (refine rt_seq ?_) | (refine s_text ?_) | (refine rt_condF rfl ?_) | (refine rt_exit ?_)) | (refine id_pur ?_; first | (refine r_move rfl rfl rfl rfl ?_) | (refine r_assign rfl rfl rfl rfl ?_) | (refine kd_field rfl rfl ?_; (refine r_field tb rfl rfl rfl rfl rfl ?_)) | (refine kd_bin rfl rfl ?_; first | (refine r_add rfl rfl rfl rfl rfl (by omega) ?_) | (refine r_lss rfl rfl rfl rfl rfl ?_ ?_ <;> intro _hc <;> first | (exfalso; omega) | skip)) | (refine r_len tb rfl rfl rfl rfl rfl (by (exact len_fl (by assumption))) ?_)) | (refine id_ld ?_; (refine kd_ld1 tb rfl rfl rfl ?_; (refine r_load tb rfl rfl rfl rfl rfl (by (exact cel_blk 1 (by rfl) (by rfl) (by ((intro e; cases e; done))))) ?_))) | (refine rt_done ?_) | (with_reducible refine rt_then ?_) | (with_reducible refine rt_blockN ?_) | (with_reducible refine rt_blockE ?_) | (with_reducible refine rt_thenExit ?_)
      exact rt_again (r + 1) (by omega) rfl (by rw [goOut_succ]) ⟨rfl, rfl, rfl, rfl, lk_int rfl (by omega), trivial⟩ (by omega)
  · obtain rfl : r = n := by omega
    simp [sel, goAll, hs0]
end Go.Proofs.Ytmdophgpgojbfaa
