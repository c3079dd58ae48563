/- Walks: block.Blocks and what it calls. -/
import Derived.Test.YtmdophgpgojbfaaW8
import Derived.Test.YtmdophgpgojbfaaG4
import Derived.Test.YtmdophgpgojbfaaSs
import Derived.TacticsInMore
namespace Go.Proofs.Ytmdophgpgojbfaa
open Go.Y
attribute [local irreducible] Go.Y.wpR Go.Y.T Go.Y.Again Go.Y.Out Go.Y.Spec Go.Code.wp Go.Y.Mid
set_option linter.unusedVariables false
set_option linter.unusedSimpArgs false
set_option maxRecDepth 100000
set_option maxHeartbeats 4000000

theorem cmp28 (b1 o1 n1 c1 b2 o2 n2 c2 : Nat) (x y : Int) (W : World) (h1 : 0 < n1) (h2 : 0 < n2) (hx : W.cell? ⟨b1, o1, none⟩ = some (.int .i64 x)) (hy : W.cell? ⟨b2, o2, none⟩ = some (.int .i64 y)) (hb : 0 ≤ x ∧ x ≤ 1000 ∧ 0 ≤ y ∧ y ≤ 1000) :
    Calls Try.prog 28 #[.slice (some ⟨b1, o1, none⟩) n1 c1, .slice (some ⟨b2, o2, none⟩) n2 c2] W fun e w' => e = .returned (.int .i64 (x - y)) ∧ ∃ q, w' = W.drewN q := by
  go_enter Try.func28, Try.ntmps28
  go_wp2
  go_region
  go_wp2
  go_ret
  exact ⟨rfl, 1, rfl⟩

theorem loop24 (K : Know) (a b : Int) : Spec0 Try.prog 24 #[.agg #[.int .i64 a, .int .i64 b]] K (isB (decide (a = b))) := by
  unfold Spec0
  refine spec_enter Try.func24 rfl (by kernel_rfl) Try.ntmps24 rfl ?_; intro C hC0 hCM
  repeat' first | (with_reducible refine id_code ?_; first | (refine rt_seq ?_) | (refine s_text ?_) | (refine rt_ret ?_)) | (refine id_pur ?_; first | (refine r_assign rfl rfl rfl rfl ?_) | (refine kd_field rfl rfl ?_; (refine r_field tb rfl rfl rfl rfl rfl ?_)) | (refine kd_bin rfl rfl ?_; (refine r_eql rfl rfl rfl rfl rfl ?_ ?_ <;> intro _hc <;> first | (exfalso; omega) | skip))) | (refine id_ld ?_; (refine kd_ld1 tb rfl rfl rfl ?_; (refine r_load tb rfl rfl rfl rfl rfl (by (exact cel_blk 0 (by rfl) (by rfl) (by ((intro e; cases e; done))))) ?_))) | (refine id_evt ?_; (refine r_boxA rfl rfl rfl rfl ?_ <;> intro bx)) | (refine rt_done ?_) | (with_reducible refine rt_then ?_) | (with_reducible refine id_ret ?_; refine rt_ret1 [] rfl rfl rfl ?_)
  all_goals exact ⟨rfl, isB_of (by first | exact decide_eq_true (by assumption) | exact decide_eq_false (by assumption))⟩

section sort
open Go.Sort Go.Shelf
theorem sw_heap {α : Type} [Inhabited α] (enc : α → Value) (w : World) (blk m : Nat) (d : Array α) (os : Array Obj) {c : Array Value} {e : TypeId} {fr : Nat × Nat} (h : w.heap[blk]? = some (.cells c e fr)) (q : Nat) (hq : q < w.heap.size) :
    (sortWorld enc w blk 0 m d os).heap[q]? = if q = blk then some (.cells (putCells enc 0 d c) e fr) else w.heap[q]? := by
  show ((w.heap.modify blk (onCells (putCells enc 0 d))) ++ os)[q]? = _
  rw [Array.getElem?_append_left (by simpa using hq), Array.getElem?_modify]
  by_cases hqb : blk = q
  · subst hqb
    rw [if_pos rfl, if_pos rfl, h]; rfl
  · rw [if_neg hqb, if_neg (Ne.symm hqb)]
theorem sw_size {α : Type} [Inhabited α] (enc : α → Value) (w : World) (blk m : Nat) (d : Array α) (os : Array Obj) : w.heap.size ≤ (sortWorld enc w blk 0 m d os).heap.size := by
  show _ ≤ ((w.heap.modify blk (onCells (putCells enc 0 d))) ++ os).size
  simp

/-- A first number. -/
def hd (B : List Nat) : Nat := B.getD 0 0

theorem sort27 (K : Know) (bv : Value) (ps : List (Value × List Nat)) (hF : ∀ p ∈ ps, Fl K layN p.1 p.2) (hne : ∀ p ∈ ps, p.2 ≠ []) (hnd : (ps.map fun p => hd p.2).Nodup) (hsm : ∀ p ∈ ps, hd p.2 ≤ 1000) (hlen : ps.length ≤ 100000) :
    Y.Spec Try.prog 27 #[bv, .func (.func 28) #[] #[]] K [.row layV 30 bv (ps.map Prod.fst)]
      (fun Kf L' r => ∃ qs : List (Value × List Nat), L' = [.row layV 30 bv (qs.map Prod.fst)] ∧ qs.Perm ps ∧ qs.Pairwise fun a b => hd a.2 ≤ hd b.2) := by
  unfold Y.Spec
  refine ⟨⟨_, Try.func27, rfl, by kernel_rfl⟩, fun w ho => ?_⟩
  have ho' := ho
  unfold Y.Out at ho
  have hrow : rowH (hp w) layV 30 bv (ps.map Prod.fst) := ho.own _ (List.mem_singleton.2 rfl)
  by_cases hps : ps = []
  · subst hps
    have key : ∀ A c, bv = .slice A 0 c → Calls Try.prog 27 #[bv, .func (.func 28) #[] #[]] w (Y.Post (Ctx.mk w ([Chunk.row layV 30 bv (([] : List (Value × List Nat)).map Prod.fst)].flatMap Chunk.foot) K) fun (Kf : Know) (L' : List Chunk) (r : Value) => ∃ qs : List (Value × List Nat), L' = [Chunk.row layV 30 bv (qs.map Prod.fst)] ∧ qs.Perm [] ∧ qs.Pairwise fun a b => hd a.2 ≤ hd b.2) := by
      rintro A c rfl
      have hL : Go.Proofs.SlLaysF0.n6 Try.prog Try.sortL_ren := { Try.sortL with }
      refine (AnyF.slices_SortFunc_none hL A c (.func (.func 28) #[] #[]) w).mono ?_
      rintro e w' ⟨rfl, rfl⟩
      exact ⟨_, K, _, rfl, ⟨[], rfl, List.Perm.refl _, List.Pairwise.nil⟩, ho'⟩
    rcases hrow with ⟨h1, _⟩ | ⟨b, c, junk, h1, _⟩
    · exact key none 0 h1
    · exact key _ c h1
  · rcases hrow with ⟨_, h1⟩ | ⟨b, c, junk, rfl, h1, h2, h3⟩
    · simp at h1; exact absurd h1 hps
    · have hpl : 0 < ps.length := List.length_pos_iff.2 hps
      have hpm : (ps.map Prod.fst).length = ps.length := by simp
      letI : Inhabited (Fin ps.length) := ⟨⟨0, hpl⟩⟩
      have hbw : b < w.heap.size := (Array.getElem?_eq_some_iff.1 h1).1
      have hKlt : ∀ q o, K q o → q < w.heap.size := fun q o hq => (Array.getElem?_eq_some_iff.1 (ho.know q o hq)).1
      have hKb : ∀ q o, K q o → q ≠ b := fun q o hq e => ho.apart q (by simp [Chunk.foot, footV, e]) o hq
      obtain ⟨enc, henc⟩ : ∃ enc : Fin ps.length → Value, enc = fun i => ps[i].1 := ⟨_, rfl⟩
      obtain ⟨cf, hcf⟩ : ∃ cf : Fin ps.length → Fin ps.length → Int, cf = fun i j => (hd ps[i].2 : Int) - hd ps[j].2 := ⟨_, rfl⟩
      obtain ⟨d, hd0⟩ : ∃ d : Array (Fin ps.length), d = (List.finRange ps.length).toArray := ⟨_, rfl⟩
      have hds : d.size = ps.length := by rw [hd0]; simp
      have hlt : ∀ i j, ltOf cf i j = decide (hd ps[i].2 < hd ps[j].2) := fun i j => by
        unfold ltOf; rw [hcf]; simp only; congr 1; simp only [eq_iff_iff]; omega
      have hinj : ∀ i j : Fin ps.length, hd ps[i].2 = hd ps[j].2 → i = j := by
        intro i j hij
        have e1 : (ps.map fun p => hd p.2)[i.1]'(by simp) = (ps.map fun p => hd p.2)[j.1]'(by simp) := by simpa using hij
        have hpw := List.pairwise_iff_getElem.1 hnd
        rcases Nat.lt_trichotomy i.1 j.1 with h5 | h5 | h5
        · exact absurd e1 (hpw i.1 j.1 _ _ h5)
        · exact Fin.ext h5
        · exact absurd e1.symm (hpw j.1 i.1 _ _ h5)
      have hsl : ∀ i : Fin ps.length, ∃ bi oi ni ci, enc i = .slice (some ⟨bi, oi, none⟩) ni ci ∧ 0 < ni ∧ (∃ o, K bi o) ∧ ∀ W : World, K.Le (hp W) → W.cell? ⟨bi, oi, none⟩ = some (.int .i64 (hd ps[i].2 : Int)) := by
        intro i
        have hmem : ps[i] ∈ ps := List.getElem_mem _
        have h4 := hne _ hmem
        have h5 : 0 < ps[i].2.length := List.length_pos_iff.2 h4
        obtain ⟨A, ci, e1, _, _, e2⟩ := hF _ hmem
        obtain ⟨bi, oi, arr, T, fr, rfl, hKi, hcell⟩ := e2 h4
        refine ⟨bi, oi, _, ci, by rw [henc]; exact e1, h5, ⟨_, hKi⟩, fun W hW => ?_⟩
        have h6 := hcell 0 (by show 0 < ps[i].2.length * 1; omega)
        have h7 := Lay.cells_get layN ps[i].2 0 0 h5 (by decide)
        have h8 : arr[oi]? = some (.int .i64 (hd ps[i].2 : Int)) := by
          have e0 : 0 * layN.sz + 0 = 0 := by omega
          rw [e0] at h7
          rw [h7] at h6
          have : hd ps[i].2 = ps[i].2[0] := getD_at _ _ h5
          rw [this]
          simpa [layN] using h6
        exact cel_of (hW _ _ hKi) h8
      have hwld : ∀ (m : Nat) (os : Array Obj) (dk : Array (Fin ps.length)), K.Le (hp (sortWorld enc w b 0 m dk os)) := by
        intro m os dk q o hq
        show (sortWorld enc w b 0 m dk os).heap[q]? = some o
        rw [sw_heap enc w b m dk os h1 q (hKlt q o hq), if_neg (hKb q o hq)]
        exact ho.know q o hq
      have hcmp : CmpLays1 Try.prog 28 #[] enc cf b 0 d.size w := by
        refine CmpReads.lays fun m os dk _ x y => ?_
        obtain ⟨b1, o1, n1, c1, e1, p1, _, q1⟩ := hsl x
        obtain ⟨b2, o2, n2, c2, e2, p2, _, q2⟩ := hsl y
        have := cmp28 b1 o1 n1 c1 b2 o2 n2 c2 _ _ (sortWorld enc w b 0 m dk os) p1 p2 (q1 _ (hwld m os dk)) (q2 _ (hwld m os dk)) (by
          have := hsm _ (List.getElem_mem (l := ps) x.2); have := hsm _ (List.getElem_mem (l := ps) y.2); simp only [Fin.getElem_fin]; omega)
        rw [e1, e2]
        show Calls Try.prog 28 #[_, _] _ _
        rw [hcf]
        exact this
      have hH : Holds enc w b 0 d := by
        intro j hj
        have hj' : j < ps.length := by omega
        have e1 : d[j]! = ⟨j, hj'⟩ := by
          rw [getElem!_pos d j hj]; simp [hd0]
        constructor
        · rw [e1]
          refine cel_of h1 ?_
          have h7 := Lay.cells_get layV (ps.map Prod.fst) j 0 (by simpa using hj') (by decide)
          have e0 : j * layV.sz + 0 = 0 + j := by show j * 1 + 0 = 0 + j; omega
          rw [e0] at h7
          rw [List.getElem?_toArray, List.getElem?_append_left (by rw [layV.cells_length, hpm]; show 0 + j < ps.length * 1; omega), h7, henc]
          simp [layV]
        · have h1' : w.heap[b]? = some (.cells (layV.cells (ps.map Prod.fst) ++ junk).toArray 30 (0, 0)) := h1
          simp [World.frozen?, h1']
      have hT : ∀ x y, ltOf cf x y = false → ltOf cf y x = false → x = y := by
        intro x y h5 h6
        rw [hlt] at h5 h6
        simp only [decide_eq_false_iff_not] at h5 h6
        exact hinj x y (by omega)
      have hO : SWO (ltOf cf) := ⟨fun x => by rw [hlt]; simp, fun x y z h5 h6 => by rw [hlt] at *; simp at *; omega, fun x y z h5 h6 => by rw [hlt] at *; simp at *; omega⟩
      have hone : OneCell enc := fun x => by
        obtain ⟨b1, o1, n1, c1, e1, _⟩ := hsl x
        rw [e1]; rfl
      have hcall := Any.slices_SortFunc_total Try.sortL enc hone cf hO 28 #[] b 0 c d w (enters_of Try.func28 (by kernel_rfl) rfl) hcmp hH hbw (by omega) hT
      rw [hds] at hcall
      rw [hpm]
      refine hcall.mono ?_
      rintro e w' ⟨rfl, n, os, rfl⟩
      obtain ⟨ms, hms⟩ : ∃ ms, ms = d.toList.mergeSort fun x y => !(ltOf cf) y x := ⟨_, rfl⟩
      rw [← hms]
      have hmp : ms.Perm (List.finRange ps.length) := by rw [hms, hd0]; exact List.mergeSort_perm _ _
      have hml : ms.length = ps.length := by rw [hmp.length_eq]; simp
      have hms2 : ms.Pairwise fun i j => hd ps[i].2 ≤ hd ps[j].2 := by
        have := List.pairwise_mergeSort (le := fun x y => !(ltOf cf) y x) (fun a b c h5 h6 => by rw [hlt] at *; simp at *; omega) (fun a b => by rw [hlt, hlt]; simp; omega) d.toList
        rw [← hms] at this
        exact this.imp fun h => by rw [hlt] at h; simpa using h
      refine ⟨_, K, [.row layV 30 (.slice (some ⟨b, 0, none⟩) ps.length c) ((ms.map fun i => ps[i]).map Prod.fst)], rfl, ⟨ms.map fun i => ps[i], rfl, ?_, ?_⟩, ?_⟩
      · have e1 : (List.finRange ps.length).map (fun i => ps[i]) = ps := by
          apply List.ext_getElem
          · simp
          · intro i h5 h6; simp
        exact (hmp.map fun i : Fin ps.length => ps[i]).trans (List.Perm.of_eq e1)
      · exact List.pairwise_map.2 hms2
      · unfold Y.Out
        have hheap := sw_heap enc w b n ms.toArray os h1
        have hcells : putCells enc 0 ms.toArray (layV.cells (ps.map Prod.fst) ++ junk).toArray = (layV.cells ((ms.map fun i => ps[i]).map Prod.fst) ++ junk).toArray := by
          have hc1 : ∀ xs : List Value, layV.cells xs = xs := fun xs => by
            induction xs with
            | nil => rfl
            | cons a r ih => show a :: layV.cells r = _; rw [ih]
          rw [hc1, hc1]
          apply Array.ext_getElem?
          intro k
          simp only [putCells, Array.getElem?_mapIdx, List.getElem?_toArray, List.size_toArray, hml]
          by_cases hk : k < ps.length
          · have hk' : k < ms.length := by omega
            rw [List.getElem?_append_left (by simpa using hk), List.getElem?_append_left (by simpa [hml] using hk)]
            simp [hk, henc, hk', getElem!_pos]
          · rw [List.getElem?_append_right (by simp; omega), List.getElem?_append_right (by simp; omega)]
            simp only [List.length_map, hml]
            cases junk[k - ps.length]? with
            | none => rfl
            | some y => simp; omega
        have hfoot : ([Chunk.row layV 30 (.slice (some ⟨b, 0, none⟩) ps.length c) ((ms.map fun i => ps[i]).map Prod.fst)] : List Chunk).flatMap Chunk.foot = [b] := rfl
        refine { ho with know := ?_, own := ?_, nodup := ?_, apart := ?_, fresh := ?_, frame := ?_, grew := sw_size _ _ _ _ _ _, os := rfl, tape := rfl, outp := rfl }
        · exact hwld n os _
        · intro ch hc
          obtain rfl := List.mem_singleton.1 hc
          refine .inr ⟨b, c, junk, by simp [hml], ?_, ?_, h3⟩
          · show (sortWorld enc w b 0 n ms.toArray os).heap[b]? = _
            rw [hheap b hbw, if_pos rfl, hcells]
          · simp only [List.length_map, hml] at h2 ⊢; exact h2
        · rw [hfoot]; simp
        · intro q hq o hk
          rw [hfoot] at hq
          obtain rfl := List.mem_singleton.1 hq
          exact hKb _ _ hk rfl
        · intro q hq
          rw [hfoot] at hq
          obtain rfl := List.mem_singleton.1 hq
          exact .inr (by simp [Chunk.foot, footV])
        · intro q o hq hm
          have hqb : q ≠ b := fun e => hm (by simp [Chunk.foot, footV, e])
          rw [hheap q (Array.getElem?_eq_some_iff.1 hq).1, if_neg hqb]; exact hq
end sort
end Go.Proofs.Ytmdophgpgojbfaa
