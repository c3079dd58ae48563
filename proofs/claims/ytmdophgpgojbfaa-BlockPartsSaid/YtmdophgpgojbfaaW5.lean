/- Walk of block.begin. -/
import Derived.Test.YtmdophgpgojbfaaW4
namespace Go.Proofs.Ytmdophgpgojbfaa
open Go.Y
attribute [local irreducible] Go.Y.wpR Go.Y.T Go.Y.Again Go.Y.Out Go.Y.Spec Go.Code.wp Go.Y.Mid
set_option linter.unusedVariables false
set_option linter.unusedSimpArgs false
set_option maxRecDepth 100000
set_option maxHeartbeats 4000000
def o25_1c : List Md := [.ld true, .pur, .ld true, .evt true, .pur, .ld true, .evt true, .pur, .ld true, .evt true, .pur, .evt true, .pur]
def o25_1 : Ord := .step 0 (.ld true) <| .step 1 (.pur) <| .step 2 (.ld true) <| .step 4 (.pur) <| .step 5 (.ld true) <| .step 7 (.pur) <| .step 8 (.ld true) <| (.fork (.step 3 (.evt true) <| (.fork (.step 6 (.evt true) <| .step 9 (.evt true) <| .step 10 (.pur) <| .step 11 (.evt true) <| .step 12 (.pur) <| .done) (.step 9 (.evt true) <| .step 6 (.evt true) <| .step 10 (.pur) <| .step 11 (.evt true) <| .step 12 (.pur) <| .done))) (.fork (.step 6 (.evt true) <| (.fork (.step 3 (.evt true) <| .step 9 (.evt true) <| .step 10 (.pur) <| .step 11 (.evt true) <| .step 12 (.pur) <| .done) (.step 9 (.evt true) <| .step 3 (.evt true) <| .step 10 (.pur) <| .step 11 (.evt true) <| .step 12 (.pur) <| .done))) (.step 9 (.evt true) <| (.fork (.step 3 (.evt true) <| .step 6 (.evt true) <| .step 10 (.pur) <| .step 11 (.evt true) <| .step 12 (.pur) <| .done) (.step 6 (.evt true) <| .step 3 (.evt true) <| .step 10 (.pur) <| .step 11 (.evt true) <| .step 12 (.pur) <| .done)))))
def o25_5c : List Md := [.pur, .pur, .pur, .ld true, .pur, .ld true, .pur, .pur, .pur, .ld true, .pur, .ld true, .pur, .ld true, .pur, .evt true, .evt true, .pur, .evt false]
def o25_5 : Ord := .step 0 (.pur) <| .step 1 (.pur) <| .step 2 (.pur) <| .step 3 (.ld true) <| .step 4 (.pur) <| .step 5 (.ld true) <| .step 6 (.pur) <| .step 7 (.pur) <| .step 8 (.pur) <| .step 9 (.ld true) <| .step 10 (.pur) <| .step 11 (.ld true) <| .step 12 (.pur) <| .step 13 (.ld true) <| .step 14 (.pur) <| .step 15 (.evt true) <| .step 16 (.evt true) <| .step 17 (.pur) <| .step 18 (.evt false) <| .done
def o25_6c : List Md := [.pur, .pur, .pur, .ld true, .pur, .ld true, .pur, .pur, .pur, .ld true, .pur, .ld true, .pur, .ld true, .pur, .evt true, .evt true, .pur, .evt false]
def o25_6 : Ord := .step 0 (.pur) <| .step 1 (.pur) <| .step 2 (.pur) <| .step 3 (.ld true) <| .step 4 (.pur) <| .step 5 (.ld true) <| .step 6 (.pur) <| .step 7 (.pur) <| .step 8 (.pur) <| .step 9 (.ld true) <| .step 10 (.pur) <| .step 11 (.ld true) <| .step 12 (.pur) <| .step 13 (.ld true) <| .step 14 (.pur) <| .step 15 (.evt true) <| .step 16 (.evt true) <| .step 17 (.pur) <| .step 18 (.evt false) <| .done


def endsStep (es : List (Nat × Nat)) (xss : List (List Nat)) (i : Nat) : List (List Nat) :=
  let y := xss.set (es.getD i (0, 0)).1 (xss.getD (es.getD i (0, 0)).1 [] ++ [i])
  y.set (es.getD i (0, 0)).2 (y.getD (es.getD i (0, 0)).2 [] ++ [i])
def endsUpto (n : Nat) (es : List (Nat × Nat)) (i : Nat) : List (List Nat) := (List.range i).foldl (endsStep es) (List.replicate n [])
theorem endsUpto_succ (n : Nat) (es : List (Nat × Nat)) (i : Nat) : endsUpto n es (i + 1) = endsStep es (endsUpto n es i) i := by simp [endsUpto, List.range_succ]
theorem endsStep_length (es : List (Nat × Nat)) (xss : List (List Nat)) (i : Nat) : (endsStep es xss i).length = xss.length := by simp [endsStep]
theorem endsUpto_length (n : Nat) (es : List (Nat × Nat)) (i : Nat) : (endsUpto n es i).length = n := by
  induction i with
  | zero => simp [endsUpto]
  | succ i ih => rw [endsUpto_succ, endsStep_length, ih]

theorem endsStep_bound (es : List (Nat × Nat)) (xss : List (List Nat)) (i c : Nat) (h : ∀ l ∈ xss, l.length ≤ c) : ∀ l ∈ endsStep es xss i, l.length ≤ c + 2 := by
  have hd : ∀ (yss : List (List Nat)) (d k : Nat), (∀ l ∈ yss, l.length ≤ d) → (yss.getD k []).length ≤ d := by
    intro yss d k hy
    rw [List.getD_eq_getElem?_getD]
    rcases hk : yss[k]? with _ | l
    · simp
    · exact hy l (List.mem_of_getElem? hk)
  have h1 : ∀ l ∈ xss.set (es.getD i (0, 0)).1 (xss.getD (es.getD i (0, 0)).1 [] ++ [i]), l.length ≤ c + 1 := by
    intro l hl
    rcases List.mem_or_eq_of_mem_set hl with hl | rfl
    · have := h l hl; omega
    · have := hd xss c (es.getD i (0, 0)).1 h; simp only [List.length_append, List.length_cons, List.length_nil]; omega
  intro l hl
  rcases List.mem_or_eq_of_mem_set hl with hl | rfl
  · have := h1 l hl; omega
  · have := hd _ (c + 1) (es.getD i (0, 0)).2 h1; simp only [List.length_append, List.length_cons, List.length_nil] at this ⊢; omega
theorem endsUpto_bound (n : Nat) (es : List (Nat × Nat)) (i : Nat) : ∀ l ∈ endsUpto n es i, l.length ≤ 2 * i := by
  induction i with
  | zero => intro l hl; simp [endsUpto] at hl; simp [hl.2]
  | succ i ih => rw [endsUpto_succ]; exact endsStep_bound es _ i (2 * i) ih

theorem begin25 (K : Know) (n : Nat) (u : Value) (es : List (Nat × Nat)) (hF : Fl K layNN u es) (hn : n ≤ 1000) (hm : es.length ≤ 1000)
    (hes : ∀ i (h : i < es.length), es[i].1 < n ∧ es[i].2 < n) :
    Y.Spec Try.prog 25 #[.agg #[.int .i64 (n : Int), u]] K [] (fun Kf L' v => ∃ bs eu nu lu, v = .pointer (some ⟨bs, 0, none⟩) ∧
      L' = [.blk bs [.int .i64 n, u, eu, nu, lu, .int .i64 0, .slice none 0 0, .slice none 0 0] 53, .row layN 3 nu (List.replicate n 0), .row layN 3 lu (List.replicate n 0)] ∧ Fl2 Kf layN eu (endsUpto n es es.length)) := by
  refine spec_enter Try.func25 rfl (by kernel_rfl) Try.ntmps25 rfl ?_; intro C hC0 hCM
  repeat' first | (with_reducible refine id_code ?_; first | (refine rt_seq ?_) | (refine s_text ?_)) | (refine id_pur ?_; (refine r_assign rfl rfl rfl rfl ?_)) | (refine id_evt ?_; (refine r_boxA rfl rfl rfl rfl ?_ <;> intro bx)) | (refine rt_done ?_) | (with_reducible refine rt_then ?_)
  refine s_cutN (ι := Nat × Value × Value × Value) (fun _ => True) (fun _ => K) (fun z => [.blk z.1 [.int .i64 n, u, z.2.1, z.2.2.1, z.2.2.2, .int .i64 0, .slice none 0 0, .slice none 0 0] 53, .row layV 30 z.2.1 (List.replicate n (.slice none 0 0)), .row layN 3 z.2.2.1 (List.replicate n 0), .row layN 3 z.2.2.2 (List.replicate n 0), .blk bx [.int .i64 n, u] 24])
    (fun z => [(1, .pointer (some ⟨bx, 0, none⟩)), (3, .pointer (some ⟨z.1, 0, none⟩))]) ?_ ?_
  · repeat' first | (with_reducible refine id_code ?_; (refine rt_draw (id := 1) mixed none o25_1c o25_1 (by kernel_rfl) ?_)) | (first | (refine id_evt ?_; refine r_make tb layV nilS _ rfl rfl rfl rfl rfl (by rfl) (by rfl) (by rfl) (by rfl) (by rfl) (by omega) (by omega) ?_; intro mu) | (refine id_evt ?_; refine r_make tb layN 0 _ rfl rfl rfl rfl rfl (by rfl) (by rfl) (by rfl) (by rfl) (by rfl) (by omega) (by omega) ?_; intro mu)) | (refine id_pur ?_; first | (refine r_assign rfl rfl rfl rfl ?_) | (refine kd_field rfl rfl ?_; (refine r_field tb rfl rfl rfl rfl rfl ?_)) | (refine r_build tb rfl rfl rfl rfl rfl rfl (by repeat first | exact partsNil | (apply partsCons; first | (with_reducible exact cellsA) | (exact cells1 (by (exact one_len (by first | (exact len_row 0 (by rfl)) | (exact len_row 1 (by rfl)) | (exact len_row 2 (by rfl)))))))) (by rfl) ?_)) | (refine id_ld ?_; first | (refine kd_ld1 tb rfl rfl rfl ?_; (refine r_load tb rfl rfl rfl rfl rfl (by (exact cel_blk 0 (by rfl) (by rfl) (by (exact fun _ => exOk_none)))) ?_)) | (refine kd_ldA tb rfl rfl rfl ?_; (refine r_loadA tb rfl rfl rfl rfl rfl (by (exact cels_blk 0 (by rfl) (by (exact fun _ => exOk_none)))) (by rfl) ?_))) | (refine id_evt ?_; (refine r_boxA rfl rfl rfl rfl ?_ <;> intro bx)) | (refine rt_done ?_) | (with_reducible refine rt_then ?_) | (refine rt_fork ?_ ?_)
    all_goals (first | (refine s_perm [0,0,0,0,0] (TakeAll.cons (by repeat first | exact TakeAt.zero | apply TakeAt.succ) (TakeAll.cons (by repeat first | exact TakeAt.zero | apply TakeAt.succ) (TakeAll.cons (by repeat first | exact TakeAt.zero | apply TakeAt.succ) (TakeAll.cons (by repeat first | exact TakeAt.zero | apply TakeAt.succ) (TakeAll.cons (by repeat first | exact TakeAt.zero | apply TakeAt.succ) TakeAll.nil))))) ?_; exact s_mid (_, _, _, _) trivial rfl rfl ⟨rfl, rfl, trivial⟩) | (refine s_perm [0,0,1,0,0] (TakeAll.cons (by repeat first | exact TakeAt.zero | apply TakeAt.succ) (TakeAll.cons (by repeat first | exact TakeAt.zero | apply TakeAt.succ) (TakeAll.cons (by repeat first | exact TakeAt.zero | apply TakeAt.succ) (TakeAll.cons (by repeat first | exact TakeAt.zero | apply TakeAt.succ) (TakeAll.cons (by repeat first | exact TakeAt.zero | apply TakeAt.succ) TakeAll.nil))))) ?_; exact s_mid (_, _, _, _) trivial rfl rfl ⟨rfl, rfl, trivial⟩) | (refine s_perm [0,1,0,0,0] (TakeAll.cons (by repeat first | exact TakeAt.zero | apply TakeAt.succ) (TakeAll.cons (by repeat first | exact TakeAt.zero | apply TakeAt.succ) (TakeAll.cons (by repeat first | exact TakeAt.zero | apply TakeAt.succ) (TakeAll.cons (by repeat first | exact TakeAt.zero | apply TakeAt.succ) (TakeAll.cons (by repeat first | exact TakeAt.zero | apply TakeAt.succ) TakeAll.nil))))) ?_; exact s_mid (_, _, _, _) trivial rfl rfl ⟨rfl, rfl, trivial⟩) | (refine s_perm [0,1,1,0,0] (TakeAll.cons (by repeat first | exact TakeAt.zero | apply TakeAt.succ) (TakeAll.cons (by repeat first | exact TakeAt.zero | apply TakeAt.succ) (TakeAll.cons (by repeat first | exact TakeAt.zero | apply TakeAt.succ) (TakeAll.cons (by repeat first | exact TakeAt.zero | apply TakeAt.succ) (TakeAll.cons (by repeat first | exact TakeAt.zero | apply TakeAt.succ) TakeAll.nil))))) ?_; exact s_mid (_, _, _, _) trivial rfl rfl ⟨rfl, rfl, trivial⟩) | (refine s_perm [0,2,0,0,0] (TakeAll.cons (by repeat first | exact TakeAt.zero | apply TakeAt.succ) (TakeAll.cons (by repeat first | exact TakeAt.zero | apply TakeAt.succ) (TakeAll.cons (by repeat first | exact TakeAt.zero | apply TakeAt.succ) (TakeAll.cons (by repeat first | exact TakeAt.zero | apply TakeAt.succ) (TakeAll.cons (by repeat first | exact TakeAt.zero | apply TakeAt.succ) TakeAll.nil))))) ?_; exact s_mid (_, _, _, _) trivial rfl rfl ⟨rfl, rfl, trivial⟩) | (refine s_perm [0,2,1,0,0] (TakeAll.cons (by repeat first | exact TakeAt.zero | apply TakeAt.succ) (TakeAll.cons (by repeat first | exact TakeAt.zero | apply TakeAt.succ) (TakeAll.cons (by repeat first | exact TakeAt.zero | apply TakeAt.succ) (TakeAll.cons (by repeat first | exact TakeAt.zero | apply TakeAt.succ) (TakeAll.cons (by repeat first | exact TakeAt.zero | apply TakeAt.succ) TakeAll.nil))))) ?_; exact s_mid (_, _, _, _) trivial rfl rfl ⟨rfl, rfl, trivial⟩))
  · rintro ⟨bs, eu, nu, lu⟩ _
    refine s_manyNil layN 3 n ?_
    repeat' first | (with_reducible refine id_code ?_; first | (refine rt_seq ?_) | (refine s_text ?_) | (refine rt_block ?_)) | (refine id_pur ?_; first | (refine r_move rfl rfl rfl rfl ?_) | (refine kd_field rfl rfl ?_; (refine r_field tb rfl rfl rfl rfl rfl ?_)) | (refine r_len tb rfl rfl rfl rfl rfl (by (exact len_fl (by assumption))) ?_)) | (refine id_ld ?_; (refine kd_ld1 tb rfl rfl rfl ?_; (refine r_load tb rfl rfl rfl rfl rfl (by (exact cel_blk 5 (by rfl) (by rfl) (by ((intro e; cases e; done))))) ?_))) | (refine rt_done ?_) | (with_reducible refine rt_then ?_)
    simp only
    refine rt_loop (ι := Nat × List (Value × List Nat)) (fun x => x.1 ≤ es.length ∧ x.2.length = n ∧ x.2.map Prod.snd = endsUpto n es x.1) (fun _ => K)
      (fun x => [.many layN 3 x.2, .blk bs [.int .i64 n, u, eu, nu, lu, .int .i64 0, .slice none 0 0, .slice none 0 0] 53, .row layV 30 eu (x.2.map Prod.fst), .row layN 3 nu (List.replicate n 0), .row layN 3 lu (List.replicate n 0), .blk bx [.int .i64 n, u] 24])
      (fun x => [(1, .pointer (some ⟨bx, 0, none⟩)), (3, .pointer (some ⟨bs, 0, none⟩)), (19, u), (20, .int .i64 (es.length : Int)), (21, .int .i64 (x.1 : Int))]) (fun x => es.length - x.1) (0, List.replicate n (.slice none 0 0, []))
      ⟨by simp, by simp, by simp [endsUpto]⟩ rfl (by simp) ⟨rfl, rfl, rfl, rfl, rfl, trivial⟩ ?_
    rintro ⟨i, ps⟩ ⟨hi, hpl, hps⟩
    simp only at hi hpl hps ⊢
    by_cases hlt : i < es.length
    · obtain ⟨ht, hh⟩ := hes i hlt
      repeat' first | (with_reducible refine id_code ?_; first | (refine rt_seq ?_) | (refine s_text ?_) | (refine rt_condT rfl ?_) | (refine rt_skip ?_) | (refine rt_block ?_)) | (refine id_pur ?_; first | (refine r_move rfl rfl rfl rfl ?_) | (refine r_assign rfl rfl rfl rfl ?_) | (refine kd_bin rfl rfl ?_; (refine r_lss rfl rfl rfl rfl rfl ?_ ?_ <;> intro _hc <;> first | (exfalso; omega) | skip)) | (refine kd_index rfl rfl ?_; (refine r_index tb _ rfl rfl rfl rfl rfl rfl (by (exact len_fl (by assumption))) rfl (by (omega)) ?_))) | (refine id_ld ?_; (refine kd_ldA tb rfl rfl rfl ?_; (refine r_loadA tb rfl rfl rfl rfl rfl (by (exact cs_fl (by assumption) (by (omega)) (by rfl) (by ((intro e; cases e; done))))) (by rfl) ?_))) | (refine id_evt ?_; first | (refine r_alloc tb rfl rfl rfl rfl ?_ <;> intro bx) | (refine kd_stA tb rfl rfl rfl ?_; (refine s_storeA tb 0 rfl rfl rfl rfl rfl rfl rfl rfl (by repeat first | exact SetAt.zero | apply SetAt.succ) (by repeat first | exact trivial | refine And.intro (by (exact one_rfl rfl)) ?_) ?_))) | (refine rt_done ?_) | (with_reducible refine rt_then ?_)
      have hg : es.getD i (0, 0) = es[i] := getD_at _ _ hlt
      have hb := endsUpto_bound n es i
      rw [← hps] at hb
      have hb1 : (ps[es[i].1]'(by omega)).2.length ≤ 2 * i := hb _ (List.mem_map.2 ⟨_, List.getElem_mem _, rfl⟩)
      refine s_focus (i := es[i].1) 1 (by repeat first | exact TakeAt.zero | apply TakeAt.succ) (by omega) (v := (ps.map Prod.fst)[es[i].1]'(by simp; omega)) (xs := (ps[es[i].1]'(by omega)).2) (by simp) rfl ?_
      refine rt_draw (id := 5) mixed (some ((ps.map Prod.fst)[es[i].1]'(by simp; omega))) o25_5c o25_5 (by kernel_rfl) ?_
      repeat' first | (refine id_evt ?_; refine r_build1 tb layN _ rfl rfl rfl rfl rfl rfl (by rfl) (by rfl) (by decide) ?_; intro bu) | (refine id_pur ?_; first | (refine r_move rfl rfl rfl rfl ?_) | (refine kd_field rfl rfl ?_; (refine r_field tb rfl rfl rfl rfl rfl ?_)) | (refine r_nilCheck rfl rfl rfl rfl ?_) | (refine kd_index rfl rfl ?_; (refine r_index tb _ rfl rfl rfl rfl rfl rfl (by first | (exact len_row 4 (by rfl)) | (exact len_row 5 (by rfl))) rfl (by ((simp only [List.length_set, List.length_replicate, List.length_append, List.length_map, List.length_range, List.length_cons, List.length_nil]; first | assumption | omega))) ?_))) | (refine id_ld ?_; (refine kd_ld1 tb rfl rfl rfl ?_; (refine r_load tb rfl rfl rfl rfl rfl (by first | (exact cel_blk 2 (by rfl) (by rfl) (by (exact fun _ => exOk_at 0 (by rfl) (by rfl) (by rfl)))) | (exact cel_blk 3 (by rfl) (by rfl) (by (exact fun _ => exOk_at 0 (by rfl) (by rfl) (by rfl)))) | (exact c_row0 4 (by rfl) (by ((simp only [List.length_set, List.length_replicate, List.length_append, List.length_map, List.length_range, List.length_cons, List.length_nil]; first | assumption | omega))) (by rfl) (by rfl) (by (exact fun _ => exOk_at 0 (by rfl) (by rfl) (by rfl))))) ?_))) | (refine id_evt ?_; first | (refine kd_st1 tb rfl rfl rfl ?_; (refine s_storeRow tb _ 5 rfl rfl rfl rfl (by rfl) (by rfl) (by first | exact Or.inl ⟨rfl, rfl⟩ | exact Or.inr rfl) (by (exact cells1 (by (exact one_len (by (exact len_row 1 (by rfl))))))) (by ((simp only [List.length_set, List.length_replicate, List.length_append, List.length_map, List.length_range, List.length_cons, List.length_nil]; first | assumption | omega))) (by repeat first | exact SetAt.zero | apply SetAt.succ) (by repeat first | exact trivial | refine And.intro (by (exact one_len (by (exact len_row 1 (by rfl))))) ?_) ?_)) | (refine kd_call rfl rfl ?_; (refine s_app tb 1 rfl rfl rfl rfl rfl rfl rfl rfl rfl (by rfl) (by (exact src_row 0 (by rfl))) (by (exact ones_ok okN)) (by ((simp only [List.length_set, List.length_replicate, List.length_append, List.length_map, List.length_range, List.length_cons, List.length_nil]; first | assumption | omega))) (by decide) (by first | (intro e; cases e; done) | exact fun _ => rfl) ?_; intro ua; refine ⟨_, by repeat first | exact SetAt.zero | apply SetAt.succ, ?_⟩))) | (refine rt_done ?_) | (with_reducible refine rt_then ?_)
      refine s_drop 0 (by repeat first | exact TakeAt.zero | apply TakeAt.succ) ?_
      refine s_unfocus (by omega) ?_
      rw [show (ps.map Prod.fst).set es[i].1 ua = (ps.set es[i].1 (ua, (ps[es[i].1]'(by omega)).2 ++ [i])).map Prod.fst by simp [List.map_set]]
      obtain ⟨qs, hqs⟩ : ∃ qs, qs = ps.set es[i].1 (ua, (ps[es[i].1]'(by omega)).2 ++ [i]) := ⟨_, rfl⟩
      rw [← hqs]
      have hql : qs.length = n := by rw [hqs]; simpa using hpl
      have hqb : (qs[es[i].2]'(by omega)).2.length ≤ 2 * i + 1 := by
        simp only [hqs, List.getElem_set]
        split
        · simp only [List.length_append, List.length_cons, List.length_nil]; omega
        · have : (ps[es[i].2]'(by omega)).2.length ≤ 2 * i := hb _ (List.mem_map.2 ⟨_, List.getElem_mem _, rfl⟩)
          omega
      refine s_focus (i := es[i].2) 0 (by repeat first | exact TakeAt.zero | apply TakeAt.succ) (by omega) (v := (qs.map Prod.fst)[es[i].2]'(by simp; omega)) (xs := (qs[es[i].2]'(by omega)).2) (by simp) rfl ?_
      refine rt_draw (id := 6) mixed (some ((qs.map Prod.fst)[es[i].2]'(by simp; omega))) o25_6c o25_6 (by kernel_rfl) ?_
      repeat' first | (with_reducible refine id_code ?_; (refine s_text ?_)) | (refine id_evt ?_; refine r_build1 tb layN _ rfl rfl rfl rfl rfl rfl (by rfl) (by rfl) (by decide) ?_; intro bu) | (refine id_pur ?_; first | (refine r_move rfl rfl rfl rfl ?_) | (refine kd_field rfl rfl ?_; (refine r_field tb rfl rfl rfl rfl rfl ?_)) | (refine kd_bin rfl rfl ?_; (refine r_add rfl rfl rfl rfl rfl (by omega) ?_)) | (refine r_nilCheck rfl rfl rfl rfl ?_) | (refine kd_index rfl rfl ?_; (refine r_index tb _ rfl rfl rfl rfl rfl rfl (by first | (exact len_row 4 (by rfl)) | (exact len_row 5 (by rfl))) rfl (by ((simp only [List.length_set, List.length_replicate, List.length_append, List.length_map, List.length_range, List.length_cons, List.length_nil]; first | assumption | omega))) ?_))) | (refine id_ld ?_; (refine kd_ld1 tb rfl rfl rfl ?_; (refine r_load tb rfl rfl rfl rfl rfl (by first | (exact cel_blk 2 (by rfl) (by rfl) (by (exact fun _ => exOk_at 0 (by rfl) (by rfl) (by rfl)))) | (exact cel_blk 3 (by rfl) (by rfl) (by (exact fun _ => exOk_at 0 (by rfl) (by rfl) (by rfl)))) | (exact c_row0 4 (by rfl) (by ((simp only [List.length_set, List.length_replicate, List.length_append, List.length_map, List.length_range, List.length_cons, List.length_nil]; first | assumption | omega))) (by rfl) (by rfl) (by (exact fun _ => exOk_at 0 (by rfl) (by rfl) (by rfl))))) ?_))) | (refine id_evt ?_; first | (refine kd_st1 tb rfl rfl rfl ?_; (refine s_storeRow tb _ 5 rfl rfl rfl rfl (by rfl) (by rfl) (by first | exact Or.inl ⟨rfl, rfl⟩ | exact Or.inr rfl) (by (exact cells1 (by (exact one_len (by (exact len_row 1 (by rfl))))))) (by ((simp only [List.length_set, List.length_replicate, List.length_append, List.length_map, List.length_range, List.length_cons, List.length_nil]; first | assumption | omega))) (by repeat first | exact SetAt.zero | apply SetAt.succ) (by repeat first | exact trivial | refine And.intro (by (exact one_len (by (exact len_row 1 (by rfl))))) ?_) ?_)) | (refine kd_call rfl rfl ?_; (refine s_app tb 1 rfl rfl rfl rfl rfl rfl rfl rfl rfl (by rfl) (by (exact src_row 0 (by rfl))) (by (exact ones_ok okN)) (by ((simp only [List.length_set, List.length_replicate, List.length_append, List.length_map, List.length_range, List.length_cons, List.length_nil]; first | assumption | omega))) (by decide) (by first | (intro e; cases e; done) | exact fun _ => rfl) ?_; intro ua; refine ⟨_, by repeat first | exact SetAt.zero | apply SetAt.succ, ?_⟩))) | (refine rt_done ?_) | (with_reducible refine rt_then ?_) | (with_reducible refine rt_blockN ?_)
      refine s_drop 0 (by repeat first | exact TakeAt.zero | apply TakeAt.succ) ?_
      refine s_unfocus (by omega) ?_
      refine s_drop 1 (by repeat first | exact TakeAt.zero | apply TakeAt.succ) ?_
      rw [show (qs.map Prod.fst).set es[i].2 ua = (qs.set es[i].2 (ua, (qs[es[i].2]'(by omega)).2 ++ [i])).map Prod.fst by simp [List.map_set]]
      refine rt_again (i + 1, qs.set es[i].2 (ua, (qs[es[i].2]'(by omega)).2 ++ [i])) ⟨by omega, by simpa using hql, ?_⟩ rfl rfl ⟨rfl, rfl, rfl, rfl, lk_int rfl (by omega), trivial⟩ (by simp only; omega)
      rw [endsUpto_succ, ← hps]
      unfold endsStep
      have e1 : (ps[es[i].1]'(by omega)).2 = (ps.map Prod.snd).getD es[i].1 [] := by rw [getD_at _ _ (by simp; omega)]; simp
      have hq2 : qs.map Prod.snd = (ps.map Prod.snd).set es[i].1 ((ps.map Prod.snd).getD es[i].1 [] ++ [i]) := by rw [hqs, List.map_set, e1]
      have e2 : (qs[es[i].2]'(by omega)).2 = (qs.map Prod.snd).getD es[i].2 [] := by rw [getD_at _ _ (by simp; omega)]; simp
      simp only [hg, List.map_set]
      rw [e2, hq2]
    · obtain rfl : i = es.length := by omega
      refine s_perm [2,0,0,0,0,0] (TakeAll.cons (by repeat first | exact TakeAt.zero | apply TakeAt.succ) (TakeAll.cons (by repeat first | exact TakeAt.zero | apply TakeAt.succ) (TakeAll.cons (by repeat first | exact TakeAt.zero | apply TakeAt.succ) (TakeAll.cons (by repeat first | exact TakeAt.zero | apply TakeAt.succ) (TakeAll.cons (by repeat first | exact TakeAt.zero | apply TakeAt.succ) (TakeAll.cons (by repeat first | exact TakeAt.zero | apply TakeAt.succ) TakeAll.nil)))))) ?_
      refine s_freeze 0 (by repeat first | exact TakeAt.zero | apply TakeAt.succ) fun K1 hK1 hm1 => ?_
      refine s_freeze 0 (by repeat first | exact TakeAt.zero | apply TakeAt.succ) fun K2 hK2 hm2 => ?_
      repeat' first | (with_reducible refine id_code ?_; first | (refine rt_seq ?_) | (refine s_text ?_) | (refine rt_condF rfl ?_) | (refine rt_ret ?_) | (refine rt_exit ?_)) | (refine id_pur ?_; first | (refine r_move rfl rfl rfl rfl ?_) | (refine r_assign rfl rfl rfl rfl ?_) | (refine kd_bin rfl rfl ?_; (refine r_lss rfl rfl rfl rfl rfl ?_ ?_ <;> intro _hc <;> first | (exfalso; omega) | skip))) | (refine rt_done ?_) | (with_reducible refine rt_then ?_) | (with_reducible refine rt_blockE ?_) | (with_reducible refine rt_thenExit ?_) | (with_reducible refine id_ret ?_; refine rt_ret1 [0,0,0] rfl rfl rfl ?_)
      refine ⟨bs, eu, nu, lu, rfl, by simp [sel], ?_⟩
      have := fl2_of (hm1.fl.mono (New.mono hK2)) hm2
      rwa [hps] at this
end Go.Proofs.Ytmdophgpgojbfaa
