/- Walks: block.at, SameInts. -/
import Derived.Test.YtmdophgpgojbfaaW10
namespace Go.Proofs.Ytmdophgpgojbfaa
open Go.Y
attribute [local irreducible] Go.Y.wpR Go.Y.T Go.Y.Again Go.Y.Out Go.Y.Spec Go.Code.wp Go.Y.Mid
set_option linter.unusedVariables false
set_option linter.unusedSimpArgs false
set_option maxRecDepth 100000
set_option maxHeartbeats 4000000
def o32_8c : List Md := [.pur, .ld true, .pur, .pur, .pur, .ld true, .pur, .ld true, .pur, .pur, .pur, .ld true, .pur, .pur]
def o32_8 : Ord := .step 0 (.pur) <| .step 1 (.ld true) <| .step 2 (.pur) <| .step 3 (.pur) <| .step 4 (.pur) <| .step 5 (.ld true) <| .step 6 (.pur) <| .step 7 (.ld true) <| .step 8 (.pur) <| .step 9 (.pur) <| .step 10 (.pur) <| .step 11 (.ld true) <| .step 12 (.pur) <| .step 13 (.pur) <| .done


theorem contains36 (K : Know) (sv : Value) (xs : List Nat) (x : Nat) (hF : Fl K layN sv xs) (hm : xs.length ≤ 100000) : Spec0 Try.prog 36 #[sv, .int .i64 (x : Int)] K (isB (xs.any fun y => y == x)) := by
  unfold Spec0
  refine spec_enter Try.func36 rfl (by kernel_rfl) Try.ntmps36 rfl ?_; intro C hC0 hCM
  repeat' first | (with_reducible refine id_code ?_; first | (refine rt_seq ?_) | (refine s_text ?_) | (refine rt_ret ?_)) | ((refine id_evt ?_; refine kd_call rfl rfl ?_; refine r_call0 (f := 50) rfl rfl rfl rfl rfl (fun Kc hK hL => index50 Kc sv xs x (hF.mono hK) hm) ?_; rintro _ rfl)) | (refine id_pur ?_; first | (refine r_move rfl rfl rfl rfl ?_) | (refine r_assign rfl rfl rfl rfl ?_) | (refine kd_bin rfl rfl ?_; (refine r_geq rfl rfl rfl rfl rfl ?_ ?_ <;> intro _hc <;> first | (exfalso; omega) | skip))) | (refine rt_done ?_) | (with_reducible refine rt_then ?_) | (with_reducible refine id_ret ?_; refine rt_ret1 [] rfl rfl rfl ?_)
  all_goals exact ⟨rfl, isB_of (by rw [← idxI_any]; simp; omega)⟩

/-- Has a block an edge at a vertex? -/
def touch (es : List (Nat × Nat)) (B : List Nat) (x : Nat) : Bool := B.any fun i => (es.getD i (0, 0)).1 == x || (es.getD i (0, 0)).2 == x
/-- The blocks at a vertex, of the first k. -/
def atB (es : List (Nat × Nat)) (bls : List (List Nat)) (k x : Nat) : List Nat := (List.range k).filter fun j => touch es (bls.getD j []) x
def atRow (es : List (Nat × Nat)) (bls : List (List Nat)) (k : Nat) (c : Nat → Bool) (x : Nat) : List Nat := atB es bls k x ++ if c x then [k] else []
theorem atB_succ (es : List (Nat × Nat)) (bls : List (List Nat)) (k x : Nat) : atB es bls (k + 1) x = atRow es bls k (touch es (bls.getD k [])) x := by
  unfold atRow atB
  rw [List.range_succ, List.filter_append]
  congr 1
  simp only [List.filter_cons, List.filter_nil]
theorem atRow_any (es : List (Nat × Nat)) (bls : List (List Nat)) (k : Nat) (c : Nat → Bool) (x : Nat) : ((atRow es bls k c x).any fun y => y == k) = c x := by
  unfold atRow
  rw [List.any_append]
  have : (atB es bls k x).any (fun y => y == k) = false := by
    rw [List.any_eq_false]
    intro y hy
    have := (List.mem_filter.1 hy).1
    simp at this ⊢; omega
  rw [this]
  cases c x <;> simp
theorem atRow_len (es : List (Nat × Nat)) (bls : List (List Nat)) (k : Nat) (c : Nat → Bool) (x : Nat) : (atRow es bls k c x).length ≤ k + 1 := by
  unfold atRow atB
  have := List.length_filter_le (fun j => touch es (bls.getD j []) x) (List.range k)
  rw [List.length_range] at this
  rw [List.length_append]
  cases c x
  · simp only [Bool.false_eq_true, if_false, List.length_nil]; omega
  · simp only [if_true, List.length_cons, List.length_nil]; omega
theorem touch_take (es : List (Nat × Nat)) (B : List Nat) (d x : Nat) (h : d < B.length) : touch es (B.take (d + 1)) x = (touch es (B.take d) x || ((es.getD B[d] (0, 0)).1 == x || (es.getD B[d] (0, 0)).2 == x)) := by
  unfold touch
  rw [List.take_succ_eq_append_getElem h, List.any_append]
  simp
theorem rows_set {n y : Nat} {f g : Nat → List Nat} (h : ∀ x, x ≠ y → g x = f x) : ((List.range n).map f).set y (g y) = (List.range n).map g := by
  apply List.ext_getElem
  · simp
  · intro i h1 h2
    rw [List.getElem_set]
    split
    · rename_i e; subst e; simp
    · rename_i e
      simp only [List.getElem_map, List.getElem_range]
      exact (h i (Ne.symm e)).symm

def endC (es : List (Nat × Nat)) (B : List Nat) (d q t h x : Nat) : Bool := touch es (B.take d) x || (decide (1 ≤ q) && t == x) || (decide (2 ≤ q) && h == x)

theorem arr73 : Arr2 Try.prog 73 3 := ⟨by kernel_rfl, (tb.oneOk 3 rfl).2, (tb.oneOk 3 rfl).1⟩

theorem at32 (K : Know) (n : Nat) (u bv : Value) (es : List (Nat × Nat)) (ps : List (Value × List Nat)) (hF : Fl K layNN u es) (hB : Fl K layV bv (ps.map Prod.fst)) (hP : ∀ p ∈ ps, Fl K layN p.1 p.2) (hn : n ≤ 1000) (hpl : ps.length ≤ 1000) (hbl : ∀ p ∈ ps, p.2.length ≤ 1000)
    (hes : ∀ i (h : i < es.length), es[i].1 < n ∧ es[i].2 < n) (hin : ∀ p ∈ ps, ∀ i ∈ p.2, i < es.length) :
    Y.Spec Try.prog 32 #[.agg #[.int .i64 (n : Int), u], bv] K [] (fun Kf L' r => ∃ qs : List (Value × List Nat), L' = [.row layV 30 r (qs.map Prod.fst)] ∧ (∀ q ∈ qs, Fl Kf layN q.1 q.2) ∧ qs.map Prod.snd = (List.range n).map (atB es (ps.map Prod.snd) ps.length)) := by
  refine spec_enter Try.func32 rfl (by kernel_rfl) Try.ntmps32 rfl ?_; intro C hC0 hCM
  repeat' first | (with_reducible refine id_code ?_; first | (refine rt_seq ?_) | (refine s_text ?_) | (refine rt_block ?_)) | ((refine id_evt ?_; refine r_make tb layV nilS _ rfl rfl rfl rfl rfl (by rfl) (by rfl) (by rfl) (by rfl) (by rfl) (by omega) (by omega) ?_; intro mu)) | (refine id_pur ?_; first | (refine r_move rfl rfl rfl rfl ?_) | (refine r_assign rfl rfl rfl rfl ?_) | (refine kd_field rfl rfl ?_; (refine r_field tb rfl rfl rfl rfl rfl ?_)) | (refine r_len tb rfl rfl rfl rfl rfl (by (exact len_fl (by assumption))) ?_)) | (refine id_ld ?_; (refine kd_ld1 tb rfl rfl rfl ?_; (refine r_load tb rfl rfl rfl rfl rfl (by (exact cel_blk 0 (by rfl) (by rfl) (by ((intro e; cases e; done))))) ?_))) | (refine id_evt ?_; (refine r_boxA rfl rfl rfl rfl ?_ <;> intro bx)) | (refine rt_done ?_) | (with_reducible refine rt_then ?_)
  refine s_manyNil layN 3 n ?_
  refine rt_loop (ι := Nat × List (Value × List Nat)) (fun g => g.1 ≤ ps.length ∧ g.2.map Prod.snd = (List.range n).map (atB es (ps.map Prod.snd) g.1)) (fun _ => K)
    (fun g => [.many layN 3 g.2, .row layV 30 mu (g.2.map Prod.fst), .blk bx [.int .i64 n, u] 24]) (fun g => [(2, .pointer (some ⟨bx, 0, none⟩)), (5, mu), (15, bv), (16, .int .i64 (ps.length : Int)), (17, .int .i64 (g.1 : Int))]) (fun g => ps.length - g.1) (0, List.replicate n (.slice none 0 0, []))
    ⟨by simp, by apply List.ext_getElem <;> simp [atB]⟩ rfl (by simp) ⟨rfl, rfl, rfl, lk_int rfl (by simp), rfl, trivial⟩ ?_
  rintro ⟨k, qs⟩ ⟨hk, hqs⟩
  simp only at hk hqs ⊢
  by_cases hlt : k < ps.length
  · have hkp : k < (ps.map Prod.fst).length := by simpa using hlt
    have hFk : Fl K layN ((ps.map Prod.fst)[k]) ps[k].2 := by simpa using hP _ (List.getElem_mem hlt)
    have hbk := hbl _ (List.getElem_mem hlt)
    have hik := hin _ (List.getElem_mem hlt)
    have hgk : (ps.map Prod.snd).getD k [] = ps[k].2 := by rw [getD_at _ _ (by simpa using hlt)]; simp
    repeat' first | (with_reducible refine id_code ?_; first | (refine rt_seq ?_) | (refine s_text ?_) | (refine rt_condT rfl ?_) | (refine rt_skip ?_) | (refine rt_block ?_)) | (refine id_pur ?_; first | (refine r_move rfl rfl rfl rfl ?_) | (refine r_assign rfl rfl rfl rfl ?_) | (refine kd_bin rfl rfl ?_; (refine r_lss rfl rfl rfl rfl rfl ?_ ?_ <;> intro _hc <;> first | (exfalso; omega) | skip)) | (refine kd_index rfl rfl ?_; (refine r_index tb _ rfl rfl rfl rfl rfl rfl (by (exact len_fl (by assumption))) rfl (by (omega)) ?_)) | (refine r_len tb rfl rfl rfl rfl rfl (by (exact len_fl (by assumption))) ?_)) | (refine id_ld ?_; (refine kd_ld1 tb rfl rfl rfl ?_; (refine r_load tb rfl rfl rfl rfl rfl (by (exact c_fl0 (by assumption) (by (omega)) (by rfl) (by rfl) (by ((intro e; cases e; done))))) ?_))) | (refine rt_done ?_) | (with_reducible refine rt_then ?_)
    refine rt_loop (ι := Nat × List (Value × List Nat)) (fun g => g.1 ≤ ps[k].2.length ∧ g.2.map Prod.snd = (List.range n).map (atRow es (ps.map Prod.snd) k (touch es (ps[k].2.take g.1)))) (fun _ => K)
      (fun g => [.many layN 3 g.2, .row layV 30 mu (g.2.map Prod.fst), .blk bx [.int .i64 n, u] 24]) (fun g => [(2, .pointer (some ⟨bx, 0, none⟩)), (5, mu), (15, bv), (16, .int .i64 (ps.length : Int)), (17, .int .i64 (k : Int)), (6, .int .i64 (k : Int)), (22, (ps.map Prod.fst)[k]), (23, .int .i64 (ps[k].2.length : Int)), (24, .int .i64 (g.1 : Int))]) (fun g => ps[k].2.length - g.1) (0, qs)
      ⟨by simp, by rw [hqs]; apply List.map_congr_left; intro x _; simp [atRow, touch]⟩ rfl rfl ⟨rfl, rfl, rfl, rfl, rfl, rfl, rfl, rfl, rfl, trivial⟩ ?_
    rintro ⟨d, qs1⟩ ⟨hd, hqs1⟩
    simp only at hd hqs1 ⊢
    by_cases hdl : d < ps[k].2.length
    · have hi := hik _ (List.getElem_mem hdl)
      obtain ⟨ht, hh⟩ := hes _ hi
      repeat' first | (with_reducible refine id_code ?_; first | (refine rt_seq ?_) | (refine s_text ?_) | (refine rt_condT rfl ?_) | (refine rt_skip ?_) | (refine rt_block ?_) | (refine rt_draw (id := 8) mixed none o32_8c o32_8 (by kernel_rfl) ?_)) | ((refine id_pur ?_; refine r_buildA2 tb arr73 rfl rfl rfl rfl rfl rfl rfl ?_)) | (refine id_pur ?_; first | (refine r_move rfl rfl rfl rfl ?_) | (refine r_assign rfl rfl rfl rfl ?_) | (refine kd_field rfl rfl ?_; first | (refine r_field tb rfl rfl rfl rfl rfl ?_) | (refine r_fieldS tb rfl rfl rfl rfl rfl ?_)) | (refine kd_bin rfl rfl ?_; (refine r_lss rfl rfl rfl rfl rfl ?_ ?_ <;> intro _hc <;> first | (exfalso; omega) | skip)) | (refine kd_index rfl rfl ?_; (refine r_index tb _ rfl rfl rfl rfl rfl rfl (by (exact len_fl (by assumption))) rfl (by (omega)) ?_))) | (refine id_ld ?_; (refine kd_ld1 tb rfl rfl rfl ?_; (refine r_load tb rfl rfl rfl rfl rfl (by first | (exact cel_blk 2 (by rfl) (by rfl) (by (exact fun _ => exOk_none))) | (exact c_fl0 (by assumption) (by (omega)) (by rfl) (by rfl) (by first | ((intro e; cases e; done)) | (exact fun _ => exK_none))) | (exact c_fl (by assumption) (by (assumption)) (by rfl) (by rfl) (by (exact fun _ => exK_none)))) ?_))) | (refine rt_done ?_) | (with_reducible refine rt_then ?_)
      refine rt_loop (ι := Nat × List (Value × List Nat)) (fun g => g.1 ≤ 2 ∧ g.2.map Prod.snd = (List.range n).map (atRow es (ps.map Prod.snd) k (endC es ps[k].2 d (g.1) es[ps[k].2[d]].1 es[ps[k].2[d]].2))) (fun _ => K)
        (fun g => [.many layN 3 g.2, .row layV 30 mu (g.2.map Prod.fst), .blk bx [.int .i64 n, u] 24]) (fun g => [(2, .pointer (some ⟨bx, 0, none⟩)), (5, mu), (15, bv), (16, .int .i64 (ps.length : Int)), (17, .int .i64 (k : Int)), (6, .int .i64 (k : Int)), (22, (ps.map Prod.fst)[k]), (23, .int .i64 (ps[k].2.length : Int)), (24, .int .i64 (d : Int)),
          (40, .agg #[.int .i64 (es[ps[k].2[d]].1 : Int), .int .i64 (es[ps[k].2[d]].2 : Int)]), (41, .int .i64 (g.1 : Int))]) (fun g => 2 - g.1) (0, qs1)
        ⟨by simp, by rw [hqs1]; apply List.map_congr_left; intro x _; simp [atRow, endC]⟩ rfl rfl ⟨rfl, rfl, rfl, rfl, rfl, rfl, rfl, rfl, rfl, rfl, rfl, trivial⟩ ?_
      rintro ⟨q, qs2⟩ ⟨hq, hqs2⟩
      simp only at hq hqs2 ⊢
      have hq2l : qs2.length = n := by simpa using congrArg List.length hqs2
      by_cases hq2 : q < 2
      · obtain ⟨y, hy, hyv⟩ : ∃ y : Nat, y < n ∧ (if q = 0 then (es[ps[k].2[d]].1 : Int) else (es[ps[k].2[d]].2 : Int)) = (y : Int) := by
          by_cases e : q = 0
          · exact ⟨_, ht, by rw [if_pos e]⟩
          · exact ⟨_, hh, by rw [if_neg e]⟩
        refine s_focus (i := y) 0 (by repeat first | exact TakeAt.zero | apply TakeAt.succ) (by omega) (v := (qs2.map Prod.fst)[y]'(by simp; omega)) (xs := (qs2[y]'(by omega)).2) (by simp) rfl ?_
        have hxs : (qs2[y]'(by omega)).2 = atRow es (ps.map Prod.snd) k (endC es ps[k].2 d (q) es[ps[k].2[d]].1 es[ps[k].2[d]].2) y := by
          have e1 : (qs2.map Prod.snd)[y]'(by simp; omega) = (qs2[y]'(by omega)).2 := by simp
          rw [← e1]; simp [hqs2]
        have hxl : (qs2[y]'(by omega)).2.length ≤ k + 1 := by rw [hxs]; exact atRow_len _ _ _ _ _
        repeat' first | (with_reducible refine id_code ?_; first | (refine rt_seq ?_) | (refine s_text ?_) | (refine rt_condT rfl ?_) | (refine rt_skip ?_) | (refine rt_block ?_)) | (refine id_pur ?_; (refine kd_bin rfl rfl ?_; (refine r_lss rfl rfl rfl rfl rfl ?_ ?_ <;> intro _hc <;> first | (exfalso; omega) | skip))) | (refine rt_done ?_) | (with_reducible refine rt_then ?_)
        refine r_indexA2 q arr73 rfl rfl rfl rfl rfl rfl hq2 ?_
        rw [hyv]
        repeat' first | (with_reducible refine id_code ?_; first | (refine rt_seq ?_) | (refine s_text ?_)) | (refine id_pur ?_; first | (refine r_move rfl rfl rfl rfl ?_) | (refine r_assign rfl rfl rfl rfl ?_) | (refine kd_index rfl rfl ?_; (refine r_index tb _ rfl rfl rfl rfl rfl rfl (by (exact len_row 2 (by rfl))) rfl (by ((simp only [List.length_set, List.length_replicate, List.length_append, List.length_map, List.length_range, List.length_cons, List.length_nil]; first | assumption | omega))) ?_))) | (refine id_ld ?_; (refine kd_ld1 tb rfl rfl rfl ?_; (refine r_load tb rfl rfl rfl rfl rfl (by (exact c_row0 2 (by rfl) (by ((simp only [List.length_set, List.length_replicate, List.length_append, List.length_map, List.length_range, List.length_cons, List.length_nil]; first | assumption | omega))) (by rfl) (by rfl) (by (exact fun _ => exOk_none)))) ?_))) | (refine rt_done ?_) | (with_reducible refine rt_then ?_)
        have hcs : ∀ x, endC es ps[k].2 d (q + 1) es[ps[k].2[d]].1 es[ps[k].2[d]].2 x = (endC es ps[k].2 d (q) es[ps[k].2[d]].1 es[ps[k].2[d]].2 x || y == x) := by
          intro x
          have hq01 : q = 0 ∨ q = 1 := by omega
          rcases hq01 with rfl | rfl
          · have : es[ps[k].2[d]].1 = y := by rw [if_pos rfl] at hyv; omega
            simp [endC, this]
          · have : es[ps[k].2[d]].2 = y := by rw [if_neg (by omega)] at hyv; omega
            simp [endC, this]
        have hcall : ∀ Kc, (Chunk.row layN 3 ((qs2.map Prod.fst)[y]'(by simp; omega)) (qs2[y]'(by omega)).2).holds Kc → Spec0 Try.prog 36 #[(qs2.map Prod.fst)[y]'(by simp; omega), .int .i64 (k : Int)] Kc
            (isB (endC es ps[k].2 d (q) es[ps[k].2[d]].1 es[ps[k].2[d]].2 y)) := fun Kc hL => by
          have := contains36 Kc _ _ k hL.fl (by omega)
          rw [hxs, atRow_any] at this
          exact this
        refine r_call0 (f := 36) rfl rfl rfl rfl rfl (fun Kc hK hL => hcall Kc (hat0 hL)) ?_
        rintro _ rfl
        repeat' first | (with_reducible refine s_split ?_ ?_ <;> intro _hb) | (with_reducible refine id_code ?_; first | (refine s_text ?_) | (refine rt_condT rfl ?_) | (refine rt_condF rfl ?_) | (refine rt_skip ?_)) | ((refine id_evt ?_; refine r_build1 tb layN _ rfl rfl rfl rfl rfl rfl (by rfl) (by rfl) (by decide) ?_; intro bu)) | (refine id_pur ?_; first | (refine r_move rfl rfl rfl rfl ?_) | (refine kd_bin rfl rfl ?_; (refine r_add rfl rfl rfl rfl rfl (by omega) ?_)) | (refine kd_index rfl rfl ?_; (refine r_index tb _ rfl rfl rfl rfl rfl rfl (by first | (exact len_row 2 (by rfl)) | (exact len_row 3 (by rfl))) rfl (by ((simp only [List.length_set, List.length_replicate, List.length_append, List.length_map, List.length_range, List.length_cons, List.length_nil]; first | assumption | omega))) ?_)) | (refine r_notT rfl rfl rfl rfl ?_) | (refine r_notF rfl rfl rfl rfl ?_)) | (refine id_ld ?_; (refine kd_ld1 tb rfl rfl rfl ?_; (refine r_load tb rfl rfl rfl rfl rfl (by (exact c_row0 2 (by rfl) (by ((simp only [List.length_set, List.length_replicate, List.length_append, List.length_map, List.length_range, List.length_cons, List.length_nil]; first | assumption | omega))) (by rfl) (by rfl) (by (exact fun _ => exOk_none)))) ?_))) | (refine id_evt ?_; first | (refine kd_st1 tb rfl rfl rfl ?_; (refine s_storeRow tb _ 3 rfl rfl rfl rfl (by rfl) (by rfl) (by first | exact Or.inl ⟨rfl, rfl⟩ | exact Or.inr rfl) (by (exact cells1 (by (exact one_len (by (exact len_row 1 (by rfl))))))) (by ((simp only [List.length_set, List.length_replicate, List.length_append, List.length_map, List.length_range, List.length_cons, List.length_nil]; first | assumption | omega))) (by repeat first | exact SetAt.zero | apply SetAt.succ) (by repeat first | exact trivial | refine And.intro (by (exact one_len (by (exact len_row 1 (by rfl))))) ?_) ?_)) | (refine kd_call rfl rfl ?_; (refine s_app tb 1 rfl rfl rfl rfl rfl rfl rfl rfl rfl (by rfl) (by (exact src_row 0 (by rfl))) (by (exact ones_ok okN)) (by ((simp only [List.length_set, List.length_replicate, List.length_append, List.length_map, List.length_range, List.length_cons, List.length_nil]; first | assumption | omega))) (by decide) (by first | (intro e; cases e; done) | exact fun _ => rfl) ?_; intro ua; refine ⟨_, by repeat first | exact SetAt.zero | apply SetAt.succ, ?_⟩))) | (refine rt_done ?_) | (with_reducible refine rt_then ?_) | (with_reducible refine rt_blockN ?_)
        · have hsame : qs2.set y ((qs2.map Prod.fst)[y]'(by simp; omega), (qs2[y]'(by omega)).2) = qs2 := by
            have e : ((qs2.map Prod.fst)[y]'(by simp; omega), (qs2[y]'(by omega)).2) = qs2[y]'(by omega) := by simp
            rw [e, List.set_getElem_self]
          refine s_unfocus (by omega) ?_
          rw [hsame]
          refine rt_again (q + 1, qs2) ⟨by simp only; omega, ?_⟩ rfl rfl ⟨rfl, rfl, rfl, rfl, rfl, rfl, rfl, rfl, rfl, rfl, lk_int rfl (by simp only; omega), trivial⟩ (by simp only; omega)
          simp only
          rw [hqs2]
          apply List.map_congr_left
          intro x _
          unfold atRow
          congr 2
          rw [hcs]
          by_cases e : y = x
          · subst e; rw [_hb]; simp
          · simp [e]
        · refine s_drop 0 (by repeat first | exact TakeAt.zero | apply TakeAt.succ) ?_
          refine s_unfocus (by omega) ?_
          rw [show (qs2.map Prod.fst).set y ua = (qs2.set y (ua, (qs2[y]'(by omega)).2 ++ [k])).map Prod.fst by simp [List.map_set]]
          refine rt_again (q + 1, qs2.set y (ua, (qs2[y]'(by omega)).2 ++ [k])) ⟨by simp only; omega, ?_⟩ rfl rfl ⟨rfl, rfl, rfl, rfl, rfl, rfl, rfl, rfl, rfl, rfl, lk_int rfl (by simp only; omega), trivial⟩ (by simp only; omega)
          simp only [List.map_set]
          rw [hqs2]
          have hnew : (qs2[y]'(by omega)).2 ++ [k] = atRow es (ps.map Prod.snd) k (endC es ps[k].2 d (q + 1) es[ps[k].2[d]].1 es[ps[k].2[d]].2) y := by
            rw [hxs]
            unfold atRow
            rw [hcs, _hb]
            simp
          rw [hnew]
          refine rows_set (y := y) (f := atRow es (ps.map Prod.snd) k (endC es ps[k].2 d (q) es[ps[k].2[d]].1 es[ps[k].2[d]].2)) (g := atRow es (ps.map Prod.snd) k (endC es ps[k].2 d (q + 1) es[ps[k].2[d]].1 es[ps[k].2[d]].2)) fun x hx => ?_
          unfold atRow
          rw [hcs]
          simp [Ne.symm hx]
      · obtain rfl : q = 2 := by omega
        repeat' first | (with_reducible refine id_code ?_; first | (refine rt_seq ?_) | (refine s_text ?_) | (refine rt_condF rfl ?_) | (refine rt_exit ?_)) | (refine id_pur ?_; first | (refine r_move rfl rfl rfl rfl ?_) | (refine kd_bin rfl rfl ?_; first | (refine r_add rfl rfl rfl rfl rfl (by omega) ?_) | (refine r_lss rfl rfl rfl rfl rfl ?_ ?_ <;> intro _hc <;> first | (exfalso; omega) | skip))) | (refine rt_done ?_) | (with_reducible refine rt_then ?_) | (with_reducible refine rt_blockN ?_) | (with_reducible refine rt_blockE ?_) | (with_reducible refine rt_thenExit ?_)
        refine rt_again (d + 1, qs2) ⟨by simp only; omega, ?_⟩ rfl rfl ⟨rfl, rfl, rfl, rfl, rfl, rfl, rfl, rfl, lk_int rfl (by simp only; omega), trivial⟩ (by simp only; omega)
        simp only
        rw [hqs2]
        apply List.map_congr_left
        intro x _
        unfold atRow
        rw [touch_take _ _ _ _ hdl, getD_at _ _ hi]
        simp [endC, Bool.or_assoc]
    · obtain rfl : d = ps[k].2.length := by omega
      repeat' first | (with_reducible refine id_code ?_; first | (refine rt_seq ?_) | (refine s_text ?_) | (refine rt_condF rfl ?_) | (refine rt_exit ?_)) | (refine id_pur ?_; first | (refine r_move rfl rfl rfl rfl ?_) | (refine kd_bin rfl rfl ?_; first | (refine r_add rfl rfl rfl rfl rfl (by omega) ?_) | (refine r_lss rfl rfl rfl rfl rfl ?_ ?_ <;> intro _hc <;> first | (exfalso; omega) | skip))) | (refine rt_done ?_) | (with_reducible refine rt_then ?_) | (with_reducible refine rt_blockN ?_) | (with_reducible refine rt_blockE ?_) | (with_reducible refine rt_thenExit ?_)
      refine rt_again (k + 1, qs1) ⟨by simp only; omega, ?_⟩ rfl rfl ⟨rfl, rfl, rfl, rfl, lk_int rfl (by simp only; omega), trivial⟩ (by simp only; omega)
      simp only
      rw [hqs1]
      apply List.map_congr_left
      intro x _
      rw [atB_succ, hgk, List.take_length]
  · obtain rfl : k = ps.length := by omega
    refine s_freeze 0 (by repeat first | exact TakeAt.zero | apply TakeAt.succ) fun K1 hK1 hm1 => ?_
    repeat' first | (with_reducible refine id_code ?_; first | (refine rt_seq ?_) | (refine s_text ?_) | (refine rt_condF rfl ?_) | (refine rt_ret ?_) | (refine rt_exit ?_)) | (refine id_pur ?_; first | (refine r_move rfl rfl rfl rfl ?_) | (refine r_assign rfl rfl rfl rfl ?_) | (refine kd_bin rfl rfl ?_; (refine r_lss rfl rfl rfl rfl rfl ?_ ?_ <;> intro _hc <;> first | (exfalso; omega) | skip))) | (refine rt_done ?_) | (with_reducible refine rt_then ?_) | (with_reducible refine rt_blockE ?_) | (with_reducible refine rt_thenExit ?_) | (with_reducible refine id_ret ?_; refine rt_ret1 [0] rfl rfl rfl ?_)
    exact ⟨qs, by simp [sel], fun q hq => (show (Chunk.row layN 3 q.1 q.2).holds _ from hm1 q hq).fl, hqs⟩
end Go.Proofs.Ytmdophgpgojbfaa
