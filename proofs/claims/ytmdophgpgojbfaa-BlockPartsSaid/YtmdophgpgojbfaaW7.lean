/- Walks: Sorted of Values, Index, other, close. -/
import Derived.Test.YtmdophgpgojbfaaW5
import Derived.Test.YtmdophgpgojbfaaW6
namespace Go.Proofs.Ytmdophgpgojbfaa
open Go.Y
attribute [local irreducible] Go.Y.wpR Go.Y.T Go.Y.Again Go.Y.Out Go.Y.Spec Go.Code.wp Go.Y.Mid
set_option linter.unusedVariables false
set_option linter.unusedSimpArgs false
set_option maxRecDepth 100000
set_option maxHeartbeats 4000000
def o46_1c : List Md := [.pur, .pur, .pur, .pur, .ld true, .pur, .pur, .pur, .ld true, .pur, .pur, .evt true, .evt true, .evt true, .evt true, .pur, .pur, .evt false]
def o46_1 : Ord := .step 0 (.pur) <| .step 1 (.pur) <| .step 2 (.pur) <| .step 3 (.pur) <| .step 4 (.ld true) <| .step 5 (.pur) <| .step 6 (.pur) <| .step 7 (.pur) <| .step 8 (.ld true) <| .step 9 (.pur) <| .step 10 (.pur) <| .step 11 (.evt true) <| .step 12 (.evt true) <| .step 13 (.evt true) <| .step 14 (.evt true) <| .step 15 (.pur) <| .step 16 (.pur) <| .step 17 (.evt false) <| .done


theorem values52' (K : Know) (A : Option Addr) (n c : Nat) : Y.Spec Try.prog 52 #[.slice A n c] K [] (fun Kf L' r => ∃ B, r = .func (.func 65) #[] #[.pointer (some ⟨B, 0, none⟩)] ∧ L' = [.blk B [.slice A n c] 30]) := by
  refine spec_enter Try.func52 rfl (by kernel_rfl) Try.ntmps52 rfl ?_; intro C hC0 hCM
  repeat' first | (with_reducible refine id_code ?_; first | (refine rt_seq ?_) | (refine s_text ?_) | (refine rt_ret ?_)) | (refine id_pur ?_; first | (refine r_assign rfl rfl rfl rfl ?_) | (refine r_makeFunc rfl rfl rfl rfl rfl ?_)) | (refine id_evt ?_; (refine r_box1 rfl rfl rfl rfl rfl ?_ <;> intro bx)) | (refine rt_done ?_) | (with_reducible refine rt_then ?_) | (with_reducible refine id_ret ?_; refine rt_ret1 [0] rfl rfl rfl ?_)
  exact ⟨bx, rfl, rfl⟩
theorem values52 (K : Know) (v : Value) (k sz : Nat) {α : Type} (l : Lay α) (xs : List α) (h : Fl K l v xs) : Y.Spec Try.prog 52 #[sfx v k sz] K [] (fun Kf L' r => ∃ B, r = .func (.func 65) #[] #[.pointer (some ⟨B, 0, none⟩)] ∧ L' = [.blk B [sfx v k sz] 30]) := by
  obtain ⟨A, c, rfl, _⟩ := h
  exact values52' K _ _ _

theorem index50 (K : Know) (sv : Value) (xs : List Nat) (x : Nat) (hF : Fl K layN sv xs) (hm : xs.length ≤ 100000) :
    Spec0 Try.prog 50 #[sv, .int .i64 (x : Int)] K (fun r => r = .int .i64 (idxI (fun y => y == x) xs)) := by
  unfold Spec0
  refine spec_enter Try.func50 rfl (by kernel_rfl) Try.ntmps50 rfl ?_; intro C hC0 hCM
  repeat' first | (with_reducible refine id_code ?_; first | (refine rt_seq ?_) | (refine s_text ?_) | (refine rt_block ?_)) | (refine id_pur ?_; first | (refine r_move rfl rfl rfl rfl ?_) | (refine r_assign rfl rfl rfl rfl ?_) | (refine r_len tb rfl rfl rfl rfl rfl (by (exact len_fl (by assumption))) ?_)) | (refine rt_done ?_) | (with_reducible refine rt_then ?_)
  refine rt_loop (fun k : Nat => k ≤ xs.length ∧ ∀ j (h : j < xs.length), j < k → (xs[j] == x) = false) (fun _ => K) (fun _ => []) (fun k => [(0, sv), (1, .int .i64 (x : Int)), (7, .int .i64 (xs.length : Int)), (8, .int .i64 (k : Int))]) (fun k => xs.length - k) 0 ⟨by omega, by intros; omega⟩ rfl rfl ⟨rfl, rfl, rfl, rfl, trivial⟩ ?_
  intro k ⟨hk, hs⟩
  repeat' first | (with_reducible refine id_code ?_; first | (refine rt_seq ?_) | (refine s_text ?_) | (refine rt_condT rfl ?_) | (refine rt_condF rfl ?_) | (refine rt_ret ?_) | (refine rt_exit ?_) | (refine rt_skip ?_) | (refine rt_block ?_)) | (refine id_pur ?_; first | (refine r_move rfl rfl rfl rfl ?_) | (refine r_assign rfl rfl rfl rfl ?_) | (refine kd_bin rfl rfl ?_; first | (refine r_add rfl rfl rfl rfl rfl (by omega) ?_) | (refine r_lss rfl rfl rfl rfl rfl ?_ ?_ <;> intro _hc <;> first | (exfalso; omega) | skip) | (refine r_eql rfl rfl rfl rfl rfl ?_ ?_ <;> intro _hc <;> first | (exfalso; omega) | skip)) | (refine kd_index rfl rfl ?_; (refine r_index tb _ rfl rfl rfl rfl rfl rfl (by (exact len_fl (by assumption))) rfl (by (omega)) ?_))) | (refine id_ld ?_; (refine kd_ld1 tb rfl rfl rfl ?_; (refine r_load tb rfl rfl rfl rfl rfl (by (exact c_fl0 (by assumption) (by (omega)) (by rfl) (by rfl) (by ((intro e; cases e; done))))) ?_))) | (refine rt_done ?_) | (with_reducible refine rt_then ?_) | (with_reducible refine rt_blockN ?_) | (with_reducible refine rt_blockR ?_) | (with_reducible refine rt_blockE ?_) | (with_reducible refine rt_thenRet ?_) | (with_reducible refine rt_thenExit ?_) | (with_reducible refine id_ret ?_; refine rt_ret1 [] rfl rfl rfl ?_)
  · exact ⟨rfl, by rw [idxI_at (p := fun y => y == x) (by omega) (by simp; omega) hs]⟩
  · refine rt_again (k + 1) ⟨by omega, fun j h h' => ?_⟩ rfl rfl ⟨rfl, rfl, rfl, lk_int rfl (by omega), trivial⟩ (by omega)
    by_cases e : j = k
    · subst e; simp; omega
    · exact hs j h (by omega)
  · obtain rfl : k = xs.length := by omega
    exact ⟨rfl, by rw [idxI_none hs]⟩

theorem other45 (K : Know) (u : Value) (es : List (Nat × Nat)) (bs : Nat) (c : List Value) (V : Value) (i x : Nat) (hF : Fl K layNN u es) (hK : K bs (.cells (V :: u :: c).toArray 53 (0, 0))) (hi : i < es.length) (hx : x ≤ es[i].1 + es[i].2) (h1 : es[i].1 ≤ 1000) (h2 : es[i].2 ≤ 1000) :
    Spec0 Try.prog 45 #[.pointer (some ⟨bs, 0, none⟩), .int .i64 (i : Int), .int .i64 (x : Int)] K (fun r => r = .int .i64 ((es[i].1 + es[i].2 - x : Nat) : Int)) := by
  unfold Spec0
  refine spec_enter Try.func45 rfl (by kernel_rfl) Try.ntmps45 rfl ?_; intro C hC0 hCM
  repeat' first | (with_reducible refine id_code ?_; first | (refine rt_seq ?_) | (refine s_text ?_) | (refine rt_ret ?_)) | (refine id_pur ?_; first | (refine r_move rfl rfl rfl rfl ?_) | (refine r_assign rfl rfl rfl rfl ?_) | (refine kd_field rfl rfl ?_; (refine r_field tb rfl rfl rfl rfl rfl ?_)) | (refine kd_bin rfl rfl ?_; first | (refine r_add rfl rfl rfl rfl rfl (by omega) ?_) | (refine r_sub rfl rfl rfl rfl rfl (by omega) ?_)) | (refine r_nilCheck rfl rfl rfl rfl ?_) | (refine kd_index rfl rfl ?_; (refine r_index tb _ rfl rfl rfl rfl rfl rfl (by (exact len_fl (by assumption))) rfl (by (omega)) ?_))) | (refine id_ld ?_; first | (refine kd_ld1 tb rfl rfl rfl ?_; (refine r_load tb rfl rfl rfl rfl rfl (by first | (exact cel_blk 0 (by rfl) (by rfl) (by ((intro e; cases e; done)))) | (exact cel_K (by assumption) (by rfl) (by ((intro e; cases e; done))))) ?_)) | (refine kd_ldA tb rfl rfl rfl ?_; (refine r_loadA tb rfl rfl rfl rfl rfl (by (exact cs_fl (by assumption) (by (omega)) (by rfl) (by ((intro e; cases e; done))))) (by rfl) ?_))) | (refine id_evt ?_; first | (refine r_alloc tb rfl rfl rfl rfl ?_ <;> intro bx) | (refine kd_stA tb rfl rfl rfl ?_; (refine s_storeA tb 0 rfl rfl rfl rfl rfl rfl rfl rfl (by repeat first | exact SetAt.zero | apply SetAt.succ) (by repeat first | exact trivial | refine And.intro (by (exact one_rfl rfl)) ?_) ?_))) | (refine rt_done ?_) | (with_reducible refine rt_then ?_) | (with_reducible refine id_ret ?_; refine rt_ret1 [] rfl rfl rfl ?_)
  exact ⟨rfl, by congr 1; omega⟩

theorem sorted51 (K : Know) (B : Nat) (sv : Value) (xs : List Nat) (k : Nat) (hF : Fl K layN sv xs) (hKB : K B (.cells #[sfx sv k 1] 30 (0, 0))) (hk : k < xs.length) (hm : xs.length ≤ 100000) :
    Y.Spec Try.prog 51 #[.func (.func 65) #[] #[.pointer (some ⟨B, 0, none⟩)]] K []
      (fun Kf L' r => L' = [.row layN 3 r ((xs.drop k).mergeSort fun x y => decide (x ≤ y))]) := by
  unfold Y.Spec
  refine ⟨⟨_, Try.func51, rfl, by kernel_rfl⟩, fun w ho => ?_⟩
  unfold Y.Out at ho
  have hb : w.heap[B]? = some (.cells #[sfx sv k 1] 30 (0, 0)) := ho.know _ _ hKB
  obtain ⟨A, c, rfl, h1, h2, h3⟩ := hF
  obtain ⟨b, o, arr, T, fr, rfl, hKb, hcell⟩ := h3 (by intro e; subst e; simp at hk)
  have hs : sfx (.slice (some ⟨b, o, none⟩) xs.length c) k 1 = .slice (some ⟨b, o + k, none⟩) (xs.length - k) (c - k) := by
    have : c ≠ k := by omega
    simp [sfx, sliced, this, Addr.add]
  rw [hs] at hb
  have hw : w.heap[b]? = some (.cells arr T fr) := ho.know _ _ hKb
  have hbW : b < w.heap.size := (Array.getElem?_eq_some_iff.1 hw).1
  refine (sorted_calls B (.slice (some ⟨b, o + k, none⟩) (xs.length - k) (c - k)) ((xs.drop k).map fun (x : Nat) => (x : Int)) (by simp; omega) w (Array.getElem?_eq_some_iff.1 hb).1 (by simp [World.cell?, hb]) (.inr ⟨b, o + k, c - k, by simp, hbW, fun j hj => ?_⟩)).mono ?_
  · have hj' : k + j < xs.length := by simp at hj; omega
    have hc1 := Lay.cells_get layN xs (k + j) 0 hj' (by decide)
    have e : (k + j) * layN.sz + 0 = k + j := by show (k + j) * 1 + 0 = k + j; omega
    have hc2 := hcell (k + j) (by show k + j < xs.length * 1; omega)
    rw [e] at hc1
    rw [hc1] at hc2
    have hc3 : arr[o + k + j]? = some (.int .i64 (xs[k + j] : Int)) := by rw [Nat.add_assoc]; exact hc2
    simp [World.cell?, hw, hc3, List.getElem?_drop, hj']
  · rintro e W' ⟨v, rfl, hrow, hB⟩
    have hms : (((xs.drop k).map fun (x : Nat) => (x : Int)).mergeSort fun x y => decide (x ≤ y)).map (Value.int .i64) = layN.cells ((xs.drop k).mergeSort fun x y => decide (x ≤ y)) := by
      have h0 : ((xs.drop k).mergeSort fun x y => decide (x ≤ y)).map (fun (x : Nat) => (x : Int)) = ((xs.drop k).map fun (x : Nat) => (x : Int)).mergeSort fun x y => decide (x ≤ y) :=
        List.map_mergeSort (f := fun (x : Nat) => (x : Int)) (r := fun x y => decide (x ≤ y)) (s := fun x y => decide (x ≤ y)) (fun a _ b _ => by simp)
      rw [← h0]
      generalize ((xs.drop k).mergeSort fun x y => decide (x ≤ y)) = l
      induction l with
      | nil => rfl
      | cons x l ih => simp only [List.map_cons, Lay.cells, List.flatMap_cons] at ih ⊢; rw [ih]; rfl
    rw [hms] at hrow
    have hlen : ((xs.drop k).map fun (x : Nat) => (x : Int)).length = ((xs.drop k).mergeSort fun x y => decide (x ≤ y)).length := by simp
    rw [hlen] at hrow
    refine ⟨v, K, _, rfl, rfl, ?_⟩
    unfold Y.Out
    have hold : ∀ q, q < w.heap.size → W'.heap[q]? = w.heap[q]? := fun q hq => hB.block q hq
    have hv : footV v = [] ∨ ∃ q, footV v = [q] ∧ w.heap.size ≤ q := by
      rcases hrow.2 with ⟨rfl, _⟩ | ⟨q, cap, cur, rfl, h4, _⟩
      · exact .inl rfl
      · exact .inr ⟨q, rfl, h4⟩
    have hKlt : ∀ q o, K q o → q < w.heap.size := fun q o hq => (Array.getElem?_eq_some_iff.1 (ho.know q o hq)).1
    refine { ho with know := ?_, own := ?_, nodup := ?_, apart := ?_, fresh := ?_, frame := ?_, grew := hB.size, os := hB.os, tape := hB.tape, outp := hB.output }
    · intro q o hq
      show W'.heap[q]? = some o
      rw [hold q (hKlt q o hq)]; exact ho.know q o hq
    · intro ch hc
      simp only [List.mem_cons, List.not_mem_nil, or_false] at hc
      subst hc
      · rcases hrow.2 with ⟨rfl, hz⟩ | ⟨q, cap, cur, rfl, h4, h5, h6, h7, h8, h9⟩
        · exact .inl ⟨rfl, List.eq_nil_of_length_eq_zero hz⟩
        · refine .inr ⟨q, cap, cur.toList.drop ((xs.drop k).mergeSort fun x y => decide (x ≤ y)).length, rfl, ?_, ?_, ?_⟩
          · rw [Nat.mul_one] at h9
            rw [← h9, List.take_append_drop]; exact h5
          · have : cur.toList.length = cap * 1 := by rw [Array.length_toList]; exact h8
            show _ * 1 + _ = cap * 1
            rw [List.length_drop]; omega
          · exact h7
    · simp only [List.flatMap_cons, List.flatMap_nil, List.append_nil, Chunk.foot]
      rcases hv with h | ⟨q, h, hq⟩
      · rw [h]; simp
      · rw [h]; simp
    · intro q hq o hk
      have := hKlt q o hk
      simp only [List.flatMap_cons, List.flatMap_nil, List.append_nil, Chunk.foot] at hq
      rcases hv with h | ⟨q', h, hq'⟩
      · rw [h] at hq; cases hq
      · rw [h] at hq; simp at hq; omega
    · intro q hq
      simp only [List.flatMap_cons, List.flatMap_nil, List.append_nil, Chunk.foot] at hq
      rcases hv with h | ⟨q', h, hq'⟩
      · rw [h] at hq; cases hq
      · rw [h] at hq; simp at hq; subst hq; exact .inl hq'
    · intro q o hq _
      rw [hold q (Array.getElem?_eq_some_iff.1 hq).1]; exact hq

theorem close46 (K : Know) (bs : Nat) (V u eu nu lu cnt sv bv : Value) (i k : Nat) (stk : List Nat) (bvs : List Value) (hk : k < stk.length) (hm : stk.length ≤ 100000) (hb : bvs.length ≤ 100000) (hidx : idxI (fun y => y == i) stk = (k : Int)) :
    Y.Spec Try.prog 46 #[.pointer (some ⟨bs, 0, none⟩), .int .i64 (i : Int)] K [.blk bs [V, u, eu, nu, lu, cnt, sv, bv] 53, .row layN 3 sv stk, .row layV 30 bv bvs]
      (fun Kf L' r => ∃ sv' bv' b, L' = [.blk bs [V, u, eu, nu, lu, cnt, sv', bv'] 53, .row layN 3 sv' (stk.take k), .row layV 30 bv' (bvs ++ [b])] ∧ Fl Kf layN b ((stk.drop k).mergeSort fun x y => decide (x ≤ y))) := by
  refine spec_enter Try.func46 rfl (by kernel_rfl) Try.ntmps46 rfl ?_; intro C hC0 hCM
  refine s_slc 1 rfl ?_
  rintro A0 c0 rfl
  repeat' first | (with_reducible refine id_code ?_; first | (refine rt_seq ?_) | (refine s_text ?_)) | (first | (refine id_evt ?_; refine kd_call rfl rfl ?_; refine r_call0 (f := 50) rfl rfl rfl rfl rfl (fun Kc hK hL => index50 Kc _ stk i (hat1 hL).fl hm) ?_; rintro _ rfl)) | (refine id_pur ?_; first | (refine r_move rfl rfl rfl rfl ?_) | (refine r_assign rfl rfl rfl rfl ?_) | (refine kd_field rfl rfl ?_; (refine r_field tb rfl rfl rfl rfl rfl ?_)) | (refine r_nilCheck rfl rfl rfl rfl ?_)) | (refine id_ld ?_; (refine kd_ld1 tb rfl rfl rfl ?_; (refine r_load tb rfl rfl rfl rfl rfl (by (exact cel_blk 0 (by rfl) (by rfl) (by ((intro e; cases e; done))))) ?_))) | (refine rt_done ?_) | (with_reducible refine rt_then ?_)
  simp only [hidx]
  refine rt_draw (id := 1) mixed (some bv) o46_1c o46_1 (by kernel_rfl) ?_
  repeat' first | (with_reducible refine id_code ?_; (refine s_text ?_)) | (first | (refine id_evt ?_; refine kd_call rfl rfl ?_; refine r_callL [] (f := 52) rfl rfl rfl rfl rfl TakeAll.nil (fun _ => rfl) (fun Kc hK hL => values52 Kc _ k 1 layN stk (hat1 hL).fl) ?_; rintro _ Kf _ ⟨B, rfl, rfl⟩) | (refine id_evt ?_; refine kd_call rfl rfl ?_; refine r_callL [] (f := 51) rfl rfl rfl rfl rfl TakeAll.nil (fun _ => rfl) (fun Kc hK hL => sorted51 Kc B _ stk k (hat2 hL).fl (hat0 hL) hk hm) ?_; rintro cv Kf _ rfl; refine s_slc 0 rfl ?_; rintro A c rfl) | (refine id_evt ?_; refine r_build1 tb layV _ rfl rfl rfl rfl rfl rfl (by rfl) (by rfl) (by decide) ?_; intro bu)) | (refine id_pur ?_; first | (refine r_move rfl rfl rfl rfl ?_) | (refine kd_field rfl rfl ?_; (refine r_field tb rfl rfl rfl rfl rfl ?_)) | (refine r_nilCheck rfl rfl rfl rfl ?_) | (refine r_slcL tb _ rfl rfl rfl rfl rfl rfl (by first | (exact len_row 0 (by rfl)) | (exact len_row 1 (by rfl))) rfl (by (omega)) ?_) | (refine r_slcH tb 4 _ rfl rfl rfl rfl rfl rfl rfl rfl (by (omega)) ?_)) | (refine id_ld ?_; (refine kd_ld1 tb rfl rfl rfl ?_; (refine r_load tb rfl rfl rfl rfl rfl (by first | (exact cel_blk 0 (by rfl) (by rfl) (by (exact fun _ => exOk_at 2 (by rfl) (by rfl) (by rfl)))) | (exact cel_blk 3 (by rfl) (by rfl) (by ((intro e; cases e; done))))) ?_))) | (refine id_evt ?_; first | (refine kd_st1 tb rfl rfl rfl ?_; (refine s_store tb 3 rfl rfl rfl rfl rfl rfl (by repeat first | exact SetAt.zero | apply SetAt.succ) (by repeat first | exact SetAt.zero | apply SetAt.succ) (by first | (exact one_rfl rfl) | (exact one_len (by (exact len_row 5 (by rfl))))) ?_)) | (refine kd_call rfl rfl ?_; (refine s_app tb 5 rfl rfl rfl rfl rfl rfl rfl rfl rfl (by rfl) (by (exact src_row 0 (by rfl))) (by (exact onesV rfl)) (by ((simp only [List.length_set, List.length_replicate, List.length_append, List.length_map, List.length_range, List.length_cons, List.length_nil]; first | assumption | omega))) (by decide) (by first | (intro e; cases e; done) | exact fun _ => rfl) ?_; intro ua; refine ⟨_, by repeat first | exact SetAt.zero | apply SetAt.succ, ?_⟩))) | (refine rt_done ?_) | (with_reducible refine rt_then ?_)
  refine s_freeze 1 (by repeat first | exact TakeAt.zero | apply TakeAt.succ) fun K1 hK1 hm1 => ?_
  refine s_pfx 3 k (by repeat first | exact TakeAt.zero | apply TakeAt.succ) (by omega) rfl ?_
  refine rt_end0 [3, 0, 2] rfl rfl ?_
  exact ⟨_, _, _, rfl, hm1.fl⟩
end Go.Proofs.Ytmdophgpgojbfaa
