/- Walk of the law BlockParts. -/
import Derived.Test.YtmdophgpgojbfaaW13
import Derived.Test.YtmdophgpgojbfaaG7
namespace Go.Proofs.Ytmdophgpgojbfaa
open Go.Y Go.Blk
attribute [local irreducible] Go.Y.wpR Go.Y.T Go.Y.Again Go.Y.Out Go.Y.Spec Go.Code.wp Go.Y.Mid
set_option linter.unusedVariables false
set_option linter.unusedSimpArgs false
set_option maxRecDepth 100000
set_option maxHeartbeats 4000000
def o3_17c : List Md := [.pur, .ld true, .pur, .ld true, .pur, .pur, .ld true, .evt true, .evt true, .pur, .evt false]
def o3_17 : Ord := .step 0 (.pur) <| .step 1 (.ld true) <| .step 2 (.pur) <| .step 3 (.ld true) <| .step 4 (.pur) <| .step 5 (.pur) <| .step 6 (.ld true) <| .step 7 (.evt true) <| .step 8 (.evt true) <| .step 9 (.pur) <| .step 10 (.evt false) <| .done
def o3_18c : List Md := [.pur, .pur, .ld true, .pur, .pur, .pur, .ld true, .pur, .pur, .evt true, .pur, .pur, .pur, .ld true, .pur, .evt false, .pur, .evt false]
def o3_18 : Ord := .step 0 (.pur) <| .step 1 (.pur) <| .step 2 (.ld true) <| .step 3 (.pur) <| .step 4 (.pur) <| .step 5 (.pur) <| .step 6 (.ld true) <| .step 7 (.pur) <| .step 8 (.pur) <| .step 10 (.pur) <| .step 9 (.evt true) <| .step 11 (.pur) <| .step 12 (.pur) <| .step 13 (.ld true) <| .step 14 (.pur) <| .step 15 (.evt false) <| .step 16 (.pur) <| .step 17 (.evt false) <| .done


/-- What is not loose. -/
theorem gr_of_loose {V : Int} {es : List (Int × Int)} (h : looseI V es = false) : ∃ (n : Nat) (es' : List (Nat × Nat)), V = (n : Int) ∧ es = es'.map intE ∧ (∀ e ∈ es, 0 ≤ e.1 ∧ 0 ≤ e.2) ∧ es' = es.map natE ∧ Gr n es' ∧ n ≤ 20 ∧ es'.length ≤ 40 := by
  unfold looseI at h
  simp only [Bool.or_eq_false_iff, decide_eq_false_iff_not] at h
  obtain ⟨h1, h2, h3⟩ := h
  rw [oddI_or] at h3
  simp only [Bool.or_eq_false_iff, Bool.not_eq_false'] at h3
  obtain ⟨h4, h5⟩ := h3
  unfold mayI at h5
  simp only [decide_eq_true_eq] at h5
  obtain ⟨g1, g2, g3, g4⟩ := h5
  have h0 : ∀ e ∈ es, 0 ≤ e.1 ∧ 0 ≤ e.2 := fun e he => by have := g4 e he; unfold okE at this; omega
  have hlen : (es.map natE).length = es.length := by simp
  refine ⟨V.toNat, es.map natE, by omega, ?_, h0, rfl, ⟨⟨fun i hi => ?_, fun i hi => ?_⟩, by omega, by omega, by omega⟩, by omega, by omega⟩
  · rw [List.map_map]
    conv => lhs; rw [← List.map_id es]
    apply List.map_congr_left
    intro e he
    have := h0 e he
    simp only [id, Function.comp_apply, intE, natE]
    ext <;> simp only <;> omega
  · have hi' : i < es.length := by simpa using hi
    rw [getD_at _ _ hi]
    have := g4 _ (List.getElem_mem hi')
    unfold okE at this
    simp only [List.getElem_map, natE]
    omega
  · have hi' : i < es.length := by simpa using hi
    rw [getD_at _ _ hi]
    have := g4 _ (List.getElem_mem hi')
    unfold okE at this
    have h6 := List.any_eq_false.1 h4 _ (List.getElem_mem hi')
    simp only [decide_eq_true_eq] at h6
    simp only [List.getElem_map, natE]
    omega

/-- Which edges are there. -/
def seenL (m : Nat) (l : List Nat) : List Bool := (List.range m).map fun i => decide (i ∈ l)
theorem seenL_len (m : Nat) (l : List Nat) : (seenL m l).length = m := by simp [seenL]
theorem seenL_get (m : Nat) (l : List Nat) (i : Nat) (h : i < (seenL m l).length) : (seenL m l)[i] = decide (i ∈ l) := by simp [seenL]
theorem seenL_set (m : Nat) (l : List Nat) (i : Nat) (h : i < m) : (seenL m l).set i true = seenL m (l ++ [i]) := by
  apply List.ext_getElem
  · simp [seenL]
  · intro j h1 h2
    rw [List.getElem_set]
    split
    · rename_i e; subst e; simp [seenL]
    · rename_i e
      simp only [seenL, List.getElem_map, List.getElem_range, List.mem_append, List.mem_singleton]
      congr 1
      simp [Ne.symm e]
def inL (n : Nat) (es : List (Nat × Nat)) (B : List Nat) : List Bool := (List.range n).map fun v => touch es B v
theorem inL_len (n : Nat) (es : List (Nat × Nat)) (B : List Nat) : (inL n es B).length = n := by simp [inL]
theorem inL_get (n : Nat) (es : List (Nat × Nat)) (B : List Nat) (i : Nat) (h : i < (inL n es B).length) : (inL n es B)[i] = touch es B i := by simp [inL]
theorem inL_set {n : Nat} {es : List (Nat × Nat)} {B : List Nat} {i : Nat} (hi : i < es.length) : ((inL n es B).set es[i].1 true).set es[i].2 true = inL n es (B ++ [i]) := by
  apply List.ext_getElem
  · simp [inL]
  · intro j h1 h2
    simp only [List.getElem_set, inL, List.getElem_map, List.getElem_range]
    have : touch es (B ++ [i]) j = (touch es B j || (es[i].1 == j || es[i].2 == j)) := by
      unfold touch
      rw [List.any_append]
      simp only [List.any_cons, List.any_nil, Bool.or_false, getD_at es (0, 0) hi]
    rw [this]
    split
    · rename_i e; subst e; simp
    · split
      · rename_i e; subst e; simp
      · rename_i e1 e2; simp [e1, e2]

theorem fresh_edge {bls : List (List Nat)} (h : bls.flatten.Nodup) {k d : Nat} (hk : k < bls.length) (hd : d < bls[k].length) : bls[k][d] ∉ (bls.take k).flatten ++ bls[k].take d := by
  have e1 : bls = bls.take k ++ bls[k] :: bls.drop (k + 1) := by rw [← List.drop_eq_getElem_cons hk, List.take_append_drop]
  have e2 : bls[k] = bls[k].take d ++ bls[k][d] :: bls[k].drop (d + 1) := by rw [← List.drop_eq_getElem_cons hd, List.take_append_drop]
  have e3 : bls.flatten = ((bls.take k).flatten ++ bls[k].take d) ++ (bls[k][d] :: (bls[k].drop (d + 1) ++ (bls.drop (k + 1)).flatten)) := by
    have e4 : bls.flatten = (bls.take k).flatten ++ (bls[k] ++ (bls.drop (k + 1)).flatten) := by
      conv => lhs; rw [e1]
      rw [List.flatten_append, List.flatten_cons]
    rw [e4, List.append_assoc]
    congr 1
    have e5 := congrArg (· ++ (bls.drop (k + 1)).flatten) e2
    simp only [List.append_assoc, List.cons_append] at e5
    exact e5
  rw [e3] at h
  intro hm
  exact (List.nodup_append.1 h).2.2 _ hm _ (List.mem_cons_self ..) rfl

theorem law3_loose (K : Know) (V : Int) (u : Value) (es : List (Int × Int)) (hF : Fl K layII u es) (hl : looseI V es = true) : Spec0 Try.prog 3 #[.agg #[.int .i64 V, u]] K (fun r => r = .bool true) := by
  have hm : es.length ≤ 9223372036854775807 := hF.choose_spec.choose_spec.2.2.1
  have hL : ∀ Kc, K.Le Kc → Spec0 Try.prog 9 #[.agg #[.int .i64 V, u]] Kc (fun r => r = .bool true) := fun Kc hK => spec0_mono (loose9 Kc V u es (hF.mono hK) hm) fun v h => isB_eq h hl
  unfold Spec0
  refine spec_enter Try.func3 rfl (by kernel_rfl) Try.ntmps3 rfl ?_; intro C hC0 hCM
  repeat' first | (with_reducible refine id_code ?_; first | (refine rt_seq ?_) | (refine s_text ?_) | (refine rt_condT rfl ?_) | (refine rt_condF rfl ?_) | (refine rt_ret ?_) | (refine rt_skip ?_)) | (first | (refine id_evt ?_; refine kd_call rfl rfl ?_; refine r_call0 (f := 8) rfl rfl rfl rfl rfl (fun Kc hK _ => speaks8 Kc) ?_; rintro _ rfl) | (refine id_evt ?_; refine kd_call rfl rfl ?_; refine r_call0 (f := 9) rfl rfl rfl rfl rfl (fun Kc hK _ => hL Kc hK) ?_; rintro _ rfl)) | (refine id_pur ?_; first | (refine r_assign rfl rfl rfl rfl ?_) | (refine r_notT rfl rfl rfl rfl ?_)) | (refine id_ld ?_; (refine kd_ldA tb rfl rfl rfl ?_; (refine r_loadA tb rfl rfl rfl rfl rfl (by (exact cels_blk 0 (by rfl) (by ((intro e; cases e; done))))) (by rfl) ?_))) | (refine id_evt ?_; (refine r_boxA rfl rfl rfl rfl ?_ <;> intro bx)) | (refine rt_done ?_) | (with_reducible refine rt_then ?_) | (with_reducible refine rt_thenRet ?_) | (with_reducible refine id_ret ?_; refine rt_ret1 [] rfl rfl rfl ?_)
  exact ⟨rfl, rfl⟩

theorem law3_gr (K : Know) (n : Nat) (u : Value) (es : List (Nat × Nat)) (hF : Fl K layNN u es) (hG : Gr n es) (hn : n ≤ 20) (hm : es.length ≤ 40) (hl : looseI (n : Int) (es.map intE) = false) : Spec0 Try.prog 3 #[.agg #[.int .i64 (n : Int), u]] K (fun r => r = .bool true) := by
  have hL : ∀ Kc, K.Le Kc → Spec0 Try.prog 9 #[.agg #[.int .i64 (n : Int), u]] Kc (fun r => r = .bool false) := fun Kc hK => spec0_mono (loose9 Kc n u _ (fl_ii (hF.mono hK)) (by simp; omega)) fun v h => isB_eq h hl
  unfold Spec0
  refine spec_enter Try.func3 rfl (by kernel_rfl) Try.ntmps3 rfl ?_; intro C hC0 hCM
  repeat' first | (with_reducible refine id_code ?_; first | (refine rt_seq ?_) | (refine s_text ?_) | (refine rt_condF rfl ?_) | (refine rt_skip ?_) | (refine rt_block ?_)) | (first | (refine id_evt ?_; refine kd_call rfl rfl ?_; refine r_call0 (f := 8) rfl rfl rfl rfl rfl (fun Kc hK _ => speaks8 Kc) ?_; rintro _ rfl) | (refine id_evt ?_; refine kd_call rfl rfl ?_; refine r_call0 (f := 9) rfl rfl rfl rfl rfl (fun Kc hK _ => hL Kc hK) ?_; rintro _ rfl) | (refine id_evt ?_; refine r_make tb layB false _ rfl rfl rfl rfl rfl (by rfl) (by rfl) (by rfl) (by rfl) (by rfl) (by omega) (by omega) ?_; intro mu) | (refine id_evt ?_; refine kd_call rfl rfl ?_; refine r_callK [] (f := 10) rfl rfl rfl rfl rfl TakeAll.nil (fun _ => rfl) (fun Kc hK hL => blocks10 Kc n u es (hF.mono hK) hG) ?_; rintro cv Kf K1 _ ⟨ps, rfl, hP, hBl⟩ hKf hKK; simp only [List.cons_append, List.nil_append])) | (refine id_pur ?_; first | (refine r_move rfl rfl rfl rfl ?_) | (refine r_assign rfl rfl rfl rfl ?_) | (refine kd_field rfl rfl ?_; (refine r_field tb rfl rfl rfl rfl rfl ?_)) | (refine r_len tb rfl rfl rfl rfl rfl (by first | (exact len_fl (by assumption)) | (exact len_row 0 (by rfl))) ?_) | (refine r_notT rfl rfl rfl rfl ?_)) | (refine id_ld ?_; first | (refine kd_ld1 tb rfl rfl rfl ?_; (refine r_load tb rfl rfl rfl rfl rfl (by (exact cel_blk 0 (by rfl) (by rfl) (by ((intro e; cases e; done))))) ?_)) | (refine kd_ldA tb rfl rfl rfl ?_; (refine r_loadA tb rfl rfl rfl rfl rfl (by first | (exact cels_blk 0 (by rfl) (by ((intro e; cases e; done)))) | (exact cels_blk 1 (by rfl) (by ((intro e; cases e; done))))) (by rfl) ?_))) | (refine id_evt ?_; (refine r_boxA rfl rfl rfl rfl ?_ <;> intro bx)) | (refine rt_done ?_) | (with_reducible refine rt_then ?_)
  have hbl := hBl.len_le
  refine s_freeze 0 (by repeat first | exact TakeAt.zero | apply TakeAt.succ) fun K2 hK2 hm2 => ?_
  have hB : Fl K2 layV cv (ps.map Prod.fst) := (hm2.fl).mono (New.le _ _)
  have hP2 : ∀ p ∈ ps, Fl K2 layN p.1 p.2 := fun p hp => (hP p hp).mono ((hKf.trans (New.le _ _)).trans hK2)
  have hF2 := hF.mono (hKK.trans hK2)
  have hpl : ps.length ≤ 1000 := by have := hbl.1; simp at this; omega
  have hin : ∀ p ∈ ps, ∀ i ∈ p.2, i < es.length := fun p hp i hi => hBl.mem_lt (List.mem_map.2 ⟨p, hp, rfl⟩) hi
  have hpb : ∀ p ∈ ps, p.2.length ≤ 1000 := fun p hp => by have := hbl.2 _ (List.mem_map.2 ⟨p, hp, rfl⟩); omega
  revert mu
  intro sv
  revert bx
  intro gb
  refine rt_loop (fun k : Nat => k ≤ ps.length) (fun _ => K2) (fun k => [.row layB 4 sv (seenL es.length ((ps.map Prod.snd).take k).flatten), .blk gb [.int .i64 n, u] 24]) (fun k => [(1, .pointer (some ⟨gb, 0, none⟩)), (3, sv), (27, cv), (28, .int .i64 (ps.length : Int)), (29, .int .i64 (k : Int))]) (fun k => ps.length - k) 0 (by omega) rfl (by simp [seenL]; apply List.ext_getElem <;> simp)
    ⟨rfl, rfl, rfl, lk_int rfl (by simp), rfl, trivial⟩ ?_
  intro k hk
  have hsl := seenL_len es.length ((ps.map Prod.snd).take k).flatten
  by_cases hlt : k < ps.length
  · have hkp : k < (ps.map Prod.fst).length := by simpa using hlt
    have hFk : Fl K2 layN ((ps.map Prod.fst)[k]) ps[k].2 := by simpa using hP2 _ (List.getElem_mem hlt)
    have hbk := hpb _ (List.getElem_mem hlt)
    have hik := hin _ (List.getElem_mem hlt)
    have hmB : ps[k].2 ∈ ps.map Prod.snd := List.mem_map.2 ⟨_, List.getElem_mem hlt, rfl⟩
    have hfe : ∀ d (hd : d < ps[k].2.length), ps[k].2[d] ∉ ((ps.map Prod.snd).take k).flatten ++ ps[k].2.take d := fun d hd => by
      have := fresh_edge hBl.nd (k := k) (d := d) (by simpa using hlt) (by simpa using hd)
      simpa using this
    repeat' first | (with_reducible refine id_code ?_; first | (refine rt_seq ?_) | (refine s_text ?_) | (refine rt_condT rfl ?_) | (refine rt_skip ?_) | (refine rt_block ?_)) | ((refine id_evt ?_; refine r_make tb layB false _ rfl rfl rfl rfl rfl (by rfl) (by rfl) (by rfl) (by rfl) (by rfl) (by omega) (by omega) ?_; intro mu)) | (refine id_pur ?_; first | (refine r_move rfl rfl rfl rfl ?_) | (refine r_assign rfl rfl rfl rfl ?_) | (refine kd_field rfl rfl ?_; (refine r_field tb rfl rfl rfl rfl rfl ?_)) | (refine kd_bin rfl rfl ?_; (refine r_lss rfl rfl rfl rfl rfl ?_ ?_ <;> intro _hc <;> first | (exfalso; omega) | skip)) | (refine kd_index rfl rfl ?_; (refine r_index tb _ rfl rfl rfl rfl rfl rfl (by (exact len_fl (by assumption))) rfl (by (omega)) ?_)) | (refine r_len tb rfl rfl rfl rfl rfl (by (exact len_fl (by assumption))) ?_) | (refine r_build tb rfl rfl rfl rfl rfl rfl (by repeat first | exact partsNil | (apply partsCons; (exact cells1 (by (exact one_rfl rfl))))) (by rfl) ?_)) | (refine id_ld ?_; (refine kd_ld1 tb rfl rfl rfl ?_; (refine r_load tb rfl rfl rfl rfl rfl (by first | (exact cel_blk 1 (by rfl) (by rfl) (by ((intro e; cases e; done)))) | (exact cel_blk 2 (by rfl) (by rfl) (by ((intro e; cases e; done)))) | (exact c_fl0 (by assumption) (by (omega)) (by rfl) (by rfl) (by ((intro e; cases e; done))))) ?_))) | (refine id_evt ?_; first | (refine r_alloc tb rfl rfl rfl rfl ?_ <;> intro bx) | (refine kd_stA tb rfl rfl rfl ?_; (refine s_storeA tb 0 rfl rfl rfl rfl rfl rfl rfl rfl (by repeat first | exact SetAt.zero | apply SetAt.succ) (by repeat first | exact trivial | refine And.intro (by (exact one_rfl rfl)) ?_) ?_))) | (refine rt_done ?_) | (with_reducible refine rt_then ?_)
    simp only [putC]
    revert mu
    intro mn
    refine s_rowNil layNN 32 ?_
    refine rt_loop (ι := Nat × Value) (fun g => g.1 ≤ ps[k].2.length) (fun _ => K2)
      (fun g => [.row layNN 32 g.2 (sub es (ps[k].2.take g.1)), .row layB 4 mn (inL n es (ps[k].2.take g.1)), .blk bx [.int .i64 n, g.2] 24, .row layB 4 sv (seenL es.length (((ps.map Prod.snd).take k).flatten ++ ps[k].2.take g.1)), .blk gb [.int .i64 n, u] 24])
      (fun g => [(1, .pointer (some ⟨gb, 0, none⟩)), (3, sv), (27, cv), (28, .int .i64 (ps.length : Int)), (29, .int .i64 (k : Int)), (6, .pointer (some ⟨bx, 0, none⟩)), (7, mn), (39, (ps.map Prod.fst)[k]), (40, .int .i64 (ps[k].2.length : Int)), (41, .int .i64 (g.1 : Int))]) (fun g => ps[k].2.length - g.1) (0, .slice none 0 0)
      (by simp) rfl (by simp [sub, inL, touch]; apply List.ext_getElem <;> simp) ⟨rfl, rfl, rfl, rfl, rfl, rfl, rfl, rfl, rfl, rfl, trivial⟩ ?_
    rintro ⟨d, xv⟩ hd
    simp only at hd ⊢
    have hsl2 := seenL_len es.length (((ps.map Prod.snd).take k).flatten ++ ps[k].2.take d)
    have hil := inL_len n es (ps[k].2.take d)
    have hxl : (sub es (ps[k].2.take d)).length = d := by simp [sub]; omega
    by_cases hdl : d < ps[k].2.length
    · have hi := hik _ (List.getElem_mem hdl)
      obtain ⟨ht, hh⟩ := hG.ends _ hi
      have hfr := hfe d hdl
      have hsf : (seenL es.length (((ps.map Prod.snd).take k).flatten ++ ps[k].2.take d))[ps[k].2[d]]'(by omega) = false := by rw [seenL_get]; simpa using hfr
      repeat' first | (with_reducible refine s_split ?_ ?_ <;> intro _hb) | (with_reducible refine id_code ?_; first | (refine rt_seq ?_) | (refine s_text ?_) | (refine rt_condT rfl ?_) | (refine rt_condF rfl ?_) | (refine rt_ret ?_) | (refine rt_skip ?_) | (refine rt_block ?_)) | (refine id_pur ?_; first | (refine r_move rfl rfl rfl rfl ?_) | (refine r_assign rfl rfl rfl rfl ?_) | (refine kd_field rfl rfl ?_; (refine r_field tb rfl rfl rfl rfl rfl ?_)) | (refine kd_bin rfl rfl ?_; first | (refine r_lss rfl rfl rfl rfl rfl ?_ ?_ <;> intro _hc <;> first | (exfalso; omega) | skip) | (refine r_geq rfl rfl rfl rfl rfl ?_ ?_ <;> intro _hc <;> first | (exfalso; omega) | skip)) | (refine kd_index rfl rfl ?_; (refine r_index tb _ rfl rfl rfl rfl rfl rfl (by first | (exact len_fl (by assumption)) | (exact len_row 3 (by rfl))) rfl (by (omega)) ?_)) | (refine r_len tb rfl rfl rfl rfl rfl (by (exact len_fl (by assumption))) ?_) | (refine r_pickF rfl rfl rfl rfl rfl ?_)) | (refine id_ld ?_; (refine kd_ld1 tb rfl rfl rfl ?_; (refine r_load tb rfl rfl rfl rfl rfl (by first | (exact cel_blk 4 (by rfl) (by rfl) (by ((intro e; cases e; done)))) | (exact c_fl0 (by assumption) (by (omega)) (by rfl) (by rfl) (by ((intro e; cases e; done)))) | (exact c_row0 3 (by rfl) (by (omega)) (by rfl) (by rfl) (by (exact fun _ => exOk_none)))) ?_))) | (refine id_evt ?_; (refine kd_st1 tb rfl rfl rfl ?_; (refine s_storeRow tb _ 3 rfl rfl rfl rfl (by rfl) (by rfl) (by first | exact Or.inl ⟨rfl, rfl⟩ | exact Or.inr rfl) (by (exact cells1 (by (exact one_rfl rfl)))) (by (omega)) (by repeat first | exact SetAt.zero | apply SetAt.succ) (by repeat first | exact trivial | refine And.intro (by (exact one_rfl rfl)) ?_) ?_))) | (refine rt_done ?_) | (with_reducible refine rt_then ?_) | (with_reducible refine rt_blockR ?_) | (with_reducible refine rt_thenRet ?_) | (with_reducible refine id_ret ?_; refine rt_ret1 [] rfl rfl rfl ?_)
      · rw [hsf] at _hb; cases _hb
      · refine rt_draw (id := 17) mixed (some xv) o3_17c o3_17 (by kernel_rfl) ?_
        repeat' first | (with_reducible refine id_code ?_; first | (refine s_text ?_) | (refine rt_draw (id := 18) mixed none o3_18c o3_18 (by kernel_rfl) ?_)) | ((refine id_evt ?_; refine r_build1 tb layNN _ rfl rfl rfl rfl rfl rfl (by rfl) (by rfl) (by decide) ?_; intro bu)) | (refine id_pur ?_; first | (refine r_move rfl rfl rfl rfl ?_) | (refine kd_field rfl rfl ?_; first | (refine r_field tb rfl rfl rfl rfl rfl ?_) | (refine r_fieldS tb rfl rfl rfl rfl rfl ?_)) | (refine kd_bin rfl rfl ?_; (refine r_add rfl rfl rfl rfl rfl (by omega) ?_)) | (refine kd_index rfl rfl ?_; (refine r_index tb _ rfl rfl rfl rfl rfl rfl (by first | (exact len_fl (by assumption)) | (exact len_row 2 (by rfl))) rfl (by first | (omega) | ((simp only [List.length_set, List.length_replicate, List.length_append, List.length_map, List.length_range, List.length_cons, List.length_nil]; first | assumption | omega))) ?_))) | (refine id_ld ?_; first | (refine kd_ld1 tb rfl rfl rfl ?_; (refine r_load tb rfl rfl rfl rfl rfl (by first | (exact cel_blk 2 (by rfl) (by rfl) (by (exact fun _ => exOk_at 0 (by rfl) (by rfl) (by rfl)))) | (exact cel_blk 4 (by rfl) (by rfl) (by (exact fun _ => exOk_at 0 (by rfl) (by rfl) (by rfl)))) | (exact cel_blk 5 (by rfl) (by rfl) (by (exact fun _ => exOk_none))) | (exact c_fl0 (by assumption) (by (omega)) (by rfl) (by rfl) (by (exact fun _ => exK_none))) | (exact c_fl (by assumption) (by (assumption)) (by rfl) (by rfl) (by (exact fun _ => exK_none)))) ?_)) | (refine kd_ldA tb rfl rfl rfl ?_; (refine r_loadA tb rfl rfl rfl rfl rfl (by (exact cs_fl (by assumption) (by (omega)) (by rfl) (by (exact fun _ => exK_at 0 (by rfl) (by rfl))))) (by rfl) ?_))) | (refine id_evt ?_; first | (refine kd_st1 tb rfl rfl rfl ?_; first | (refine s_store tb 3 rfl rfl rfl rfl rfl rfl (by repeat first | exact SetAt.zero | apply SetAt.succ) (by repeat first | exact SetAt.zero | apply SetAt.succ) (by first | (exact one_rfl rfl) | (exact one_len (by (exact len_row 1 (by rfl))))) ?_) | (refine s_storeRow tb _ 2 rfl rfl rfl rfl (by rfl) (by rfl) (by first | exact Or.inl ⟨rfl, rfl⟩ | exact Or.inr rfl) (by (exact cells1 (by (exact one_rfl rfl)))) (by first | (omega) | ((simp only [List.length_set, List.length_replicate, List.length_append, List.length_map, List.length_range, List.length_cons, List.length_nil]; first | assumption | omega))) (by repeat first | exact SetAt.zero | apply SetAt.succ) (by repeat first | exact trivial | refine And.intro (by (exact one_rfl rfl)) ?_) ?_)) | (refine kd_call rfl rfl ?_; (refine s_app tb 1 rfl rfl rfl rfl rfl rfl rfl rfl rfl (by rfl) (by (exact src_row 0 (by rfl))) (by (exact ones_ok okNN)) (by ((simp only [List.length_set, List.length_replicate, List.length_append, List.length_map, List.length_range, List.length_cons, List.length_nil]; first | assumption | omega))) (by decide) (by first | (intro e; cases e; done) | exact fun _ => rfl) ?_; intro ua; refine ⟨_, by repeat first | exact SetAt.zero | apply SetAt.succ, ?_⟩)) | (refine kd_ld1 tb rfl rfl rfl ?_; (refine r_loadE tb rfl rfl rfl rfl rfl (by (exact cel_blk 5 (by rfl) (by rfl) (by ((intro e; cases e; done))))) ?_))) | (refine rt_done ?_) | (with_reducible refine rt_then ?_) | (with_reducible refine rt_blockN ?_)
        refine s_drop 0 (by repeat first | exact TakeAt.zero | apply TakeAt.succ) ?_
        have htk : ps[k].2.take (d + 1) = ps[k].2.take d ++ [ps[k].2[d]] := List.take_succ_eq_append_getElem hdl
        refine rt_again (d + 1, ua) (by simp only; omega) rfl ?_ ⟨rfl, rfl, rfl, rfl, rfl, rfl, rfl, rfl, rfl, lk_int rfl (by simp only; omega), trivial⟩ (by simp only; omega)
        simp only
        have hsb : sub es (ps[k].2.take d ++ [ps[k].2[d]]) = sub es (ps[k].2.take d) ++ [es[ps[k].2[d]]] := by simp only [sub, List.map_append, List.map_cons, List.map_nil, getD_at _ _ hi]
        rw [htk, ← List.append_assoc, ← seenL_set _ _ _ hi, ← inL_set hi, hsb]
    · obtain rfl : d = ps[k].2.length := by omega
      rw [List.take_length] at hxl hil
      rw [List.take_length]
      have hBd := sub_bnd (n := n) hG.bnd hik
      have hse : ∀ i (h : i < (sub es ps[k].2).length), (sub es ps[k].2)[i].1 < n ∧ (sub es ps[k].2)[i].2 < n := fun i h => by
        have := hBd i h
        rwa [getD_at _ _ h] at this
      have hpp := fun g (hg : -1 ≤ g) v v' (hv : v < n) (hv' : v' < n) => block_part hG.bnd hG.noloop (hBl.isB _ hmB) hik g hg hv hv'
      repeat' first | (with_reducible refine id_code ?_; first | (refine rt_seq ?_) | (refine s_text ?_) | (refine rt_condF rfl ?_) | (refine rt_exit ?_) | (refine rt_block ?_)) | (refine id_pur ?_; first | (refine r_assign rfl rfl rfl rfl ?_) | (refine kd_bin rfl rfl ?_; (refine r_lss rfl rfl rfl rfl rfl ?_ ?_ <;> intro _hc <;> first | (exfalso; omega) | skip))) | (refine rt_done ?_) | (with_reducible refine rt_then ?_) | (with_reducible refine rt_blockE ?_) | (with_reducible refine rt_thenExit ?_)
      refine rt_loop (fun g : Nat => g ≤ n + 1) (fun _ => K2)
        (fun _ => [.row layNN 32 xv (sub es ps[k].2), .row layB 4 mn (inL n es ps[k].2), .blk bx [.int .i64 n, xv] 24, .row layB 4 sv (seenL es.length (((ps.map Prod.snd).take k).flatten ++ ps[k].2)), .blk gb [.int .i64 n, u] 24])
        (fun g => [(1, .pointer (some ⟨gb, 0, none⟩)), (3, sv), (27, cv), (28, .int .i64 (ps.length : Int)), (29, .int .i64 (k : Int)), (6, .pointer (some ⟨bx, 0, none⟩)), (7, mn), (10, .int .i64 ((g : Int) - 1))]) (fun g => n + 1 - g) 0 (by omega) rfl rfl
        ⟨rfl, rfl, rfl, rfl, rfl, rfl, rfl, lk_int rfl (by omega), trivial⟩ ?_
      intro g hg
      by_cases hgn : g < n + 1
      · have hml : (maskB n es ps[k].2 ((g : Int) - 1)).length = n := by simp [maskB]
        have hpg := hpp ((g : Int) - 1) (by omega)
        repeat' first | (with_reducible refine s_split ?_ ?_ <;> intro _hb) | (with_reducible refine id_code ?_; first | (refine rt_seq ?_) | (refine s_text ?_) | (refine rt_condT rfl ?_) | (refine rt_condF rfl ?_) | (refine rt_exit ?_) | (refine rt_skip ?_) | (refine rt_block ?_)) | (refine id_pur ?_; first | (refine r_move rfl rfl rfl rfl ?_) | (refine r_assign rfl rfl rfl rfl ?_) | (refine kd_field rfl rfl ?_; (refine r_field tb rfl rfl rfl rfl rfl ?_)) | (refine kd_bin rfl rfl ?_; first | (refine r_add rfl rfl rfl rfl rfl (by omega) ?_) | (refine r_lss rfl rfl rfl rfl rfl ?_ ?_ <;> intro _hc <;> first | (exfalso; omega) | skip) | (refine r_geq rfl rfl rfl rfl rfl ?_ ?_ <;> intro _hc <;> first | (exfalso; omega) | skip)) | (refine rt_pass rfl rfl rfl rfl ?_) | (refine kd_index rfl rfl ?_; (refine r_indexZ tb rfl rfl rfl rfl rfl rfl (by (exact len_row 1 (by rfl))) (by omega) (by (omega)) ?_)) | (refine r_pickT rfl rfl rfl rfl rfl ?_) | (refine r_pickF rfl rfl rfl rfl rfl ?_) | (refine r_notT rfl rfl rfl rfl ?_) | (refine r_notF rfl rfl rfl rfl ?_)) | (refine id_ld ?_; first | (refine kd_ld1 tb rfl rfl rfl ?_; (refine r_load tb rfl rfl rfl rfl rfl (by first | (exact cel_blk 4 (by rfl) (by rfl) (by ((intro e; cases e; done)))) | (exact c_row0 1 (by rfl) (by (omega)) (by rfl) (by rfl) (by ((intro e; cases e; done))))) ?_)) | (refine rt_pass rfl rfl rfl rfl ?_)) | (refine rt_done ?_) | (with_reducible refine rt_then ?_) | (with_reducible refine rt_blockE ?_) | (with_reducible refine rt_thenExit ?_)
        rotate_left
        · exact rt_again (g + 1) (by omega) rfl rfl ⟨rfl, rfl, rfl, rfl, rfl, rfl, rfl, lk_int rfl (by omega), trivial⟩ (by omega)
        all_goals
          repeat' first | (with_reducible refine id_code ?_; first | (refine rt_seq ?_) | (refine s_text ?_) | (refine rt_block ?_)) | ((refine id_evt ?_; refine r_make tb layB false _ rfl rfl rfl rfl rfl (by rfl) (by rfl) (by rfl) (by rfl) (by rfl) (by omega) (by omega) ?_; intro mu)) | (refine id_pur ?_; first | (refine r_move rfl rfl rfl rfl ?_) | (refine r_assign rfl rfl rfl rfl ?_) | (refine r_len tb rfl rfl rfl rfl rfl (by (exact len_row 0 (by rfl))) ?_)) | (refine rt_done ?_) | (with_reducible refine rt_then ?_)
          refine rt_loop (fun v : Nat => v ≤ n) (fun _ => K2) (fun v => [.row layB 4 mu (mix v (maskB n es ps[k].2 ((g : Int) - 1)) (List.replicate n false)), .row layNN 32 xv (sub es ps[k].2), .row layB 4 mn (inL n es ps[k].2), .blk bx [.int .i64 n, xv] 24, .row layB 4 sv (seenL es.length (((ps.map Prod.snd).take k).flatten ++ ps[k].2)), .blk gb [.int .i64 n, u] 24])
            (fun v => [(1, .pointer (some ⟨gb, 0, none⟩)), (3, sv), (27, cv), (28, .int .i64 (ps.length : Int)), (29, .int .i64 (k : Int)), (6, .pointer (some ⟨bx, 0, none⟩)), (7, mn), (10, .int .i64 ((g : Int) - 1)), (11, mu), (108, mu), (109, .int .i64 (n : Int)), (110, .int .i64 (v : Int))]) (fun v => n - v) 0 (by omega) rfl (by simp [mix_zero]) ⟨rfl, rfl, rfl, rfl, rfl, rfl, rfl, rfl, rfl, rfl, lk_int rfl (by simp), rfl, trivial⟩ ?_
          intro v hv
          have hmx : (mix v (maskB n es ps[k].2 ((g : Int) - 1)) (List.replicate n false)).length = n := by rw [mix_length (by simp [hml]) (by omega), hml]
          by_cases hvn : v < n
          · have hmg : (maskB n es ps[k].2 ((g : Int) - 1))[v]'(by omega) = (!(inL n es ps[k].2)[v]'(by omega) || decide ((v : Int) = (g : Int) - 1)) := by simp [maskB, inL]
            repeat' first | (with_reducible refine s_split ?_ ?_ <;> intro _hb) | (with_reducible refine id_code ?_; first | (refine rt_seq ?_) | (refine s_text ?_) | (refine rt_condT rfl ?_) | (refine rt_skip ?_) | (refine rt_block ?_)) | (refine id_pur ?_; first | (refine r_move rfl rfl rfl rfl ?_) | (refine r_assign rfl rfl rfl rfl ?_) | (refine kd_bin rfl rfl ?_; first | (refine r_add rfl rfl rfl rfl rfl (by omega) ?_) | (refine r_lss rfl rfl rfl rfl rfl ?_ ?_ <;> intro _hc <;> first | (exfalso; omega) | skip) | (refine r_eql rfl rfl rfl rfl rfl ?_ ?_ <;> intro _hc <;> first | (exfalso; omega) | skip)) | (refine rt_pass rfl rfl rfl rfl ?_) | (refine kd_index rfl rfl ?_; (refine r_index tb _ rfl rfl rfl rfl rfl rfl (by first | (exact len_row 0 (by rfl)) | (exact len_row 2 (by rfl))) rfl (by (omega)) ?_)) | (refine r_pickT rfl rfl rfl rfl rfl ?_) | (refine r_pickF rfl rfl rfl rfl rfl ?_) | (refine r_notT rfl rfl rfl rfl ?_) | (refine r_notF rfl rfl rfl rfl ?_)) | (refine id_ld ?_; (refine kd_ld1 tb rfl rfl rfl ?_; (refine r_load tb rfl rfl rfl rfl rfl (by (exact c_row0 2 (by rfl) (by (omega)) (by rfl) (by rfl) (by (exact fun _ => exOk_none)))) ?_))) | (refine id_evt ?_; (refine kd_st1 tb rfl rfl rfl ?_; (refine s_storeRow tb _ 0 rfl rfl rfl rfl (by rfl) (by rfl) (by first | exact Or.inl ⟨rfl, rfl⟩ | exact Or.inr rfl) (by (exact cells1 (by (exact one_rfl rfl)))) (by (omega)) (by repeat first | exact SetAt.zero | apply SetAt.succ) (by repeat first | exact trivial | refine And.intro (by (exact one_rfl rfl)) ?_) ?_))) | (refine rt_done ?_) | (with_reducible refine rt_then ?_) | (with_reducible refine rt_blockN ?_)
            all_goals
              refine rt_again (v + 1) (by omega) rfl ?_ ⟨rfl, rfl, rfl, rfl, rfl, rfl, rfl, rfl, rfl, rfl, rfl, lk_int rfl (by omega), trivial⟩ (by omega)
              rw [mix_set (by simp [hml]) (by omega) (by rw [hmg]; simp [*])]
          · obtain rfl : v = n := by omega
            rw [mix_all hml (by simp)]
            have hcall : ∀ Kc, (Chunk.row layB 4 mu (maskB v es ps[k].2 ((g : Int) - 1))).holds Kc → (Chunk.row layNN 32 xv (sub es ps[k].2)).holds Kc →
                Y.Spec Try.prog 11 #[.agg #[.int .i64 (v : Int), xv], mu] Kc [] (fun _ L' r => L' = [.row layI 3 r (partAll v (sub es ps[k].2) (maskB v es ps[k].2 ((g : Int) - 1)))]) := fun Kc h1 h2 =>
              part11 Kc v xv mu _ _ h2.fl h1.fl (by omega) (by omega) hml hse
            repeat' first | (with_reducible refine id_code ?_; first | (refine rt_seq ?_) | (refine s_text ?_) | (refine rt_condF rfl ?_) | (refine rt_exit ?_) | (refine rt_block ?_)) | ((refine id_evt ?_; refine kd_call rfl rfl ?_; refine r_callL [] (f := 11) rfl rfl rfl rfl rfl TakeAll.nil (fun _ => rfl) (fun Kc hK hL => hcall Kc (hat0 hL) (hat1 hL)) ?_; rintro pv Kf3 _ rfl; simp only [List.cons_append, List.nil_append])) | (refine id_pur ?_; first | (refine r_move rfl rfl rfl rfl ?_) | (refine r_assign rfl rfl rfl rfl ?_) | (refine kd_bin rfl rfl ?_; (refine r_lss rfl rfl rfl rfl rfl ?_ ?_ <;> intro _hc <;> first | (exfalso; omega) | skip)) | (refine r_len tb rfl rfl rfl rfl rfl (by (exact len_row 1 (by rfl))) ?_)) | (refine id_ld ?_; (refine kd_ldA tb rfl rfl rfl ?_; (refine r_loadA tb rfl rfl rfl rfl rfl (by (exact cels_blk 3 (by rfl) (by ((intro e; cases e; done))))) (by rfl) ?_))) | (refine rt_done ?_) | (with_reducible refine rt_then ?_) | (with_reducible refine rt_blockE ?_) | (with_reducible refine rt_thenExit ?_)
            have hpl2 : (partAll v (sub es ps[k].2) (maskB v es ps[k].2 ((g : Int) - 1))).length = v := by simp [partAll]
            refine rt_loop (ι := Nat × Int) (fun q => q.1 ≤ v ∧ (q.2 = -1 ∨ ∃ v0, v0 < v ∧ (maskB v es ps[k].2 ((g : Int) - 1)).getD v0 false = false ∧ q.2 = partOf v (sub es ps[k].2) (maskB v es ps[k].2 ((g : Int) - 1)) v0)) (fun _ => K2)
              (fun _ => [.row layI 3 pv (partAll v (sub es ps[k].2) (maskB v es ps[k].2 ((g : Int) - 1))), .row layB 4 mu (maskB v es ps[k].2 ((g : Int) - 1)), .row layNN 32 xv (sub es ps[k].2), .row layB 4 mn (inL v es ps[k].2), .blk bx [.int .i64 v, xv] 24, .row layB 4 sv (seenL es.length (((ps.map Prod.snd).take k).flatten ++ ps[k].2)), .blk gb [.int .i64 v, u] 24])
              (fun q => [(1, .pointer (some ⟨gb, 0, none⟩)), (3, sv), (27, cv), (28, .int .i64 (ps.length : Int)), (29, .int .i64 (k : Int)), (6, .pointer (some ⟨bx, 0, none⟩)), (7, mn), (10, .int .i64 ((g : Int) - 1)), (11, mu), (13, pv), (14, .int .i64 q.2), (130, mu), (131, .int .i64 (v : Int)), (132, .int .i64 (q.1 : Int))]) (fun q => v - q.1) (0, -1) ⟨by simp, .inl rfl⟩ rfl rfl ⟨rfl, rfl, rfl, rfl, rfl, rfl, rfl, rfl, rfl, rfl, rfl, rfl, lk_int rfl (by rw [hml]), rfl, trivial⟩ ?_
            rintro ⟨y, fi⟩ ⟨hy, hfi⟩
            simp only at hy hfi ⊢
            by_cases hyn : y < v
            · have hpy : (partAll v (sub es ps[k].2) (maskB v es ps[k].2 ((g : Int) - 1)))[y]'(by omega) = partOf v (sub es ps[k].2) (maskB v es ps[k].2 ((g : Int) - 1)) y := by simp [partAll]
              have hgy : (maskB v es ps[k].2 ((g : Int) - 1)).getD y false = (maskB v es ps[k].2 ((g : Int) - 1))[y]'(by omega) := getD_at _ _ _
              repeat' first | (with_reducible refine s_split ?_ ?_ <;> intro _hb) | (with_reducible refine id_code ?_; first | (refine rt_seq ?_) | (refine s_text ?_) | (refine rt_condT rfl ?_) | (refine rt_condF rfl ?_) | (refine rt_ret ?_) | (refine rt_exit ?_) | (refine rt_skip ?_) | (refine rt_block ?_)) | (refine id_pur ?_; first | (refine r_move rfl rfl rfl rfl ?_) | (refine r_assign rfl rfl rfl rfl ?_) | (refine kd_bin rfl rfl ?_; first | (refine r_add rfl rfl rfl rfl rfl (by omega) ?_) | (refine r_lss rfl rfl rfl rfl rfl ?_ ?_ <;> intro _hc <;> first | (exfalso; omega) | skip) | (refine r_neq rfl rfl rfl rfl rfl ?_ ?_ <;> intro _hc <;> first | (exfalso; omega) | skip)) | (refine kd_index rfl rfl ?_; (refine r_index tb _ rfl rfl rfl rfl rfl rfl (by first | (exact len_row 0 (by rfl)) | (exact len_row 1 (by rfl))) rfl (by (omega)) ?_))) | (refine id_ld ?_; (refine kd_ld1 tb rfl rfl rfl ?_; (refine r_load tb rfl rfl rfl rfl rfl (by first | (exact c_row0 0 (by rfl) (by (omega)) (by rfl) (by rfl) (by ((intro e; cases e; done)))) | (exact c_row0 1 (by rfl) (by (omega)) (by rfl) (by rfl) (by ((intro e; cases e; done))))) ?_))) | (refine rt_done ?_) | (with_reducible refine rt_then ?_) | (with_reducible refine rt_blockN ?_) | (with_reducible refine rt_blockR ?_) | (with_reducible refine rt_blockE ?_) | (with_reducible refine rt_thenRet ?_) | (with_reducible refine rt_thenExit ?_) | (with_reducible refine id_ret ?_; refine rt_ret1 [] rfl rfl rfl ?_)
              · exact rt_again (y + 1, fi) ⟨by simp only; omega, hfi⟩ rfl rfl ⟨rfl, rfl, rfl, rfl, rfl, rfl, rfl, rfl, rfl, rfl, rfl, rfl, rfl, lk_int rfl (by simp only; omega), trivial⟩ (by simp only; omega)
              · exact rt_again (y + 1, (partAll v (sub es ps[k].2) (maskB v es ps[k].2 ((g : Int) - 1)))[y]'(by omega)) ⟨by simp only; omega, .inr ⟨y, hyn, by rw [hgy]; exact _hb, hpy⟩⟩ rfl rfl ⟨rfl, rfl, rfl, rfl, rfl, rfl, rfl, rfl, rfl, rfl, rfl, rfl, rfl, lk_int rfl (by simp only; omega), trivial⟩ (by simp only; omega)
              · exfalso
                rcases hfi with hfi | ⟨v0, hv0, hm0, hfi⟩
                · omega
                · have := hpg v0 y hv0 hyn hm0 (by rw [hgy]; exact _hb)
                  rw [← hpy] at this
                  omega
              · exact rt_again (y + 1, fi) ⟨by simp only; omega, hfi⟩ rfl rfl ⟨rfl, rfl, rfl, rfl, rfl, rfl, rfl, rfl, rfl, rfl, rfl, rfl, rfl, lk_int rfl (by simp only; omega), trivial⟩ (by simp only; omega)
            · obtain rfl : y = v := by omega
              repeat' first | (with_reducible refine id_code ?_; first | (refine rt_seq ?_) | (refine s_text ?_) | (refine rt_condF rfl ?_) | (refine rt_exit ?_)) | (refine id_pur ?_; first | (refine r_move rfl rfl rfl rfl ?_) | (refine r_assign rfl rfl rfl rfl ?_) | (refine kd_bin rfl rfl ?_; first | (refine r_add rfl rfl rfl rfl rfl (by omega) ?_) | (refine r_lss rfl rfl rfl rfl rfl ?_ ?_ <;> intro _hc <;> first | (exfalso; omega) | skip))) | (refine rt_done ?_) | (with_reducible refine rt_then ?_) | (with_reducible refine rt_blockN ?_) | (with_reducible refine rt_blockE ?_) | (with_reducible refine rt_thenExit ?_)
              refine s_keep [2,2,2,2,2] (TakeAll.cons (by repeat first | exact TakeAt.zero | apply TakeAt.succ) (TakeAll.cons (by repeat first | exact TakeAt.zero | apply TakeAt.succ) (TakeAll.cons (by repeat first | exact TakeAt.zero | apply TakeAt.succ) (TakeAll.cons (by repeat first | exact TakeAt.zero | apply TakeAt.succ) (TakeAll.cons (by repeat first | exact TakeAt.zero | apply TakeAt.succ) TakeAll.nil))))) ?_
              exact rt_again (g + 1) (by omega) rfl rfl ⟨rfl, rfl, rfl, rfl, rfl, rfl, rfl, lk_int rfl (by omega), trivial⟩ (by omega)
      · obtain rfl : g = n + 1 := by omega
        repeat' first | (with_reducible refine id_code ?_; first | (refine rt_seq ?_) | (refine s_text ?_) | (refine rt_condF rfl ?_) | (refine rt_exit ?_)) | (refine id_pur ?_; first | (refine r_move rfl rfl rfl rfl ?_) | (refine kd_field rfl rfl ?_; (refine r_field tb rfl rfl rfl rfl rfl ?_)) | (refine kd_bin rfl rfl ?_; first | (refine r_add rfl rfl rfl rfl rfl (by omega) ?_) | (refine r_lss rfl rfl rfl rfl rfl ?_ ?_ <;> intro _hc <;> first | (exfalso; omega) | skip))) | (refine id_ld ?_; (refine kd_ld1 tb rfl rfl rfl ?_; (refine r_load tb rfl rfl rfl rfl rfl (by (exact cel_blk 4 (by rfl) (by rfl) (by ((intro e; cases e; done))))) ?_))) | (refine rt_done ?_) | (with_reducible refine rt_then ?_) | (with_reducible refine rt_blockN ?_) | (with_reducible refine rt_blockE ?_) | (with_reducible refine rt_thenExit ?_)
        refine s_keep [3,3] (TakeAll.cons (by repeat first | exact TakeAt.zero | apply TakeAt.succ) (TakeAll.cons (by repeat first | exact TakeAt.zero | apply TakeAt.succ) TakeAll.nil)) ?_
        have htk : (ps.map Prod.snd).take (k + 1) = (ps.map Prod.snd).take k ++ [ps[k].2] := by
          rw [List.take_succ_eq_append_getElem (by simpa using hlt)]; simp
        refine rt_again (k + 1) (by omega) rfl ?_ ⟨rfl, rfl, rfl, rfl, lk_int rfl (by omega), trivial⟩ (by omega)
        rw [htk]; simp
  · obtain rfl : k = ps.length := by omega
    repeat' first | (with_reducible refine id_code ?_; first | (refine rt_seq ?_) | (refine s_text ?_) | (refine rt_condF rfl ?_) | (refine rt_exit ?_) | (refine rt_block ?_)) | (refine id_pur ?_; first | (refine r_move rfl rfl rfl rfl ?_) | (refine kd_bin rfl rfl ?_; (refine r_lss rfl rfl rfl rfl rfl ?_ ?_ <;> intro _hc <;> first | (exfalso; omega) | skip)) | (refine r_len tb rfl rfl rfl rfl rfl (by (exact len_row 0 (by rfl))) ?_)) | (refine rt_done ?_) | (with_reducible refine rt_then ?_) | (with_reducible refine rt_blockE ?_) | (with_reducible refine rt_thenExit ?_)
    have hall : ∀ i (h : i < (seenL es.length ((ps.map Prod.snd).take ps.length).flatten).length), (seenL es.length ((ps.map Prod.snd).take ps.length).flatten)[i] = true := fun i h => by
      rw [seenL_get]
      have hi : i < es.length := by simpa [seenL_len] using h
      have h1 := (hBl.cov i).2 hi
      have h2 : (ps.map Prod.snd).take ps.length = ps.map Prod.snd := List.take_of_length_le (by simp)
      rw [h2]; simpa using h1
    refine rt_loop (fun i : Nat => i ≤ es.length) (fun _ => K2) (fun _ => [.row layB 4 sv (seenL es.length ((ps.map Prod.snd).take ps.length).flatten), .blk gb [.int .i64 n, u] 24]) (fun i => [(153, sv), (154, .int .i64 (es.length : Int)), (155, .int .i64 (i : Int))]) (fun i => es.length - i) 0 (by omega) rfl rfl
      ⟨rfl, lk_int rfl (by rw [hsl]), rfl, trivial⟩ ?_
    intro i hi
    repeat' first | (with_reducible refine s_split ?_ ?_ <;> intro _hb) | (with_reducible refine id_code ?_; first | (refine rt_seq ?_) | (refine s_text ?_) | (refine rt_condT rfl ?_) | (refine rt_condF rfl ?_) | (refine rt_ret ?_) | (refine rt_exit ?_) | (refine rt_skip ?_) | (refine rt_block ?_)) | (refine id_pur ?_; first | (refine r_move rfl rfl rfl rfl ?_) | (refine r_assign rfl rfl rfl rfl ?_) | (refine kd_bin rfl rfl ?_; first | (refine r_add rfl rfl rfl rfl rfl (by omega) ?_) | (refine r_lss rfl rfl rfl rfl rfl ?_ ?_ <;> intro _hc <;> first | (exfalso; omega) | skip)) | (refine kd_index rfl rfl ?_; (refine r_index tb _ rfl rfl rfl rfl rfl rfl (by (exact len_row 0 (by rfl))) rfl (by (omega)) ?_)) | (refine r_notT rfl rfl rfl rfl ?_) | (refine r_notF rfl rfl rfl rfl ?_)) | (refine id_ld ?_; (refine kd_ld1 tb rfl rfl rfl ?_; (refine r_load tb rfl rfl rfl rfl rfl (by (exact c_row0 0 (by rfl) (by (omega)) (by rfl) (by rfl) (by ((intro e; cases e; done))))) ?_))) | (refine rt_done ?_) | (with_reducible refine rt_then ?_) | (with_reducible refine rt_blockN ?_) | (with_reducible refine rt_blockR ?_) | (with_reducible refine rt_blockE ?_) | (with_reducible refine rt_thenRet ?_) | (with_reducible refine rt_thenExit ?_) | (with_reducible refine id_ret ?_; refine rt_ret1 [] rfl rfl rfl ?_)
    · exact rt_again (i + 1) (by omega) rfl rfl ⟨rfl, rfl, lk_int rfl (by omega), trivial⟩ (by omega)
    · rw [hall] at _hb; cases _hb
    · exact ⟨rfl, rfl⟩

theorem law3 (K : Know) (V : Int) (u : Value) (es : List (Int × Int)) (hF : Fl K layII u es) : Spec0 Try.prog 3 #[.agg #[.int .i64 V, u]] K (fun r => r = .bool true) := by
  cases hl : looseI V es with
  | true => exact law3_loose K V u es hF hl
  | false =>
    obtain ⟨n, es', rfl, h2, h0, h3, hG, hn, hm⟩ := gr_of_loose hl
    have hF' := fl_nn hF h0
    rw [← h3] at hF'
    rw [h2] at hl
    exact law3_gr K n u es' hF' hG hn hm hl
end Go.Proofs.Ytmdophgpgojbfaa
