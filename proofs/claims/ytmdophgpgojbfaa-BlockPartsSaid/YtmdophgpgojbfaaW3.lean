/- Walk of arborref03.Part. -/
import Derived.Test.YtmdophgpgojbfaaW2
namespace Go.Proofs.Ytmdophgpgojbfaa
open Go.Y
attribute [local irreducible] Go.Y.wpR Go.Y.T Go.Y.Again Go.Y.Out Go.Y.Spec Go.Code.wp
set_option linter.unusedVariables false
set_option linter.unusedSimpArgs false
set_option maxRecDepth 100000
set_option maxHeartbeats 4000000


/-- The first i of a row, then what was there. -/
def mix {α : Type} (i : Nat) (xs ys : List α) : List α := xs.take i ++ ys.drop i
theorem mix_zero {α : Type} (xs ys : List α) : mix 0 xs ys = ys := by simp [mix]
theorem mix_all {α : Type} {xs ys : List α} {i : Nat} (h : xs.length = i) (h' : ys.length = i) : mix i xs ys = xs := by simp [mix, ← h]; omega
theorem mix_length {α : Type} {xs ys : List α} {i : Nat} (h : xs.length = ys.length) (hi : i ≤ xs.length) : (mix i xs ys).length = xs.length := by simp [mix]; omega
theorem mix_set {α : Type} {xs ys : List α} {i : Nat} {x : α} (h : xs.length = ys.length) (hi : i < xs.length) (hx : xs[i] = x) : (mix i xs ys).set i x = mix (i + 1) xs ys := by
  unfold mix
  rw [List.set_append_right _ _ (by simp; omega)]
  have e : i - (xs.take i).length = 0 := by simp; omega
  rw [e, List.drop_eq_getElem_cons (by omega), List.set_cons_zero, ← hx, List.take_succ_eq_append_getElem hi, List.append_assoc]
  rfl

def cmask (es : List (Nat × Nat)) (wo : List Bool) : List Bool := es.map fun e => !(wo.getD e.1 false) && !(wo.getD e.2 false)
/-- The least one of the last d of n places that is there; -1: none is. -/
def lst (s : List Bool) (w : Bool) (n : Nat) : Nat → Int
  | 0 => -1
  | d + 1 => if s.getD (n - (d + 1)) false && !w then ((n - (d + 1) : Nat) : Int) else lst s w n d
def partOf (n : Nat) (es : List (Nat × Nat)) (wo : List Bool) (x : Nat) : Int := lst (goAll n es x (cmask es wo)) (wo.getD x false) n n
def partAll (n : Nat) (es : List (Nat × Nat)) (wo : List Bool) : List Int := (List.range n).map (partOf n es wo)
theorem goAll_length (n : Nat) (es : List (Nat × Nat)) (x : Nat) (cs : List Bool) : (goAll n es x cs).length = n := by simp [goAll, goOut_length]

theorem part11 (K : Know) (n : Nat) (u wu : Value) (es : List (Nat × Nat)) (wo : List Bool) (hF : Fl K layNN u es) (hW : Fl K layB wu wo) (hn : n ≤ 1000) (hm : es.length ≤ 1000) (hwo : wo.length = n)
    (hes : ∀ i (h : i < es.length), es[i].1 < n ∧ es[i].2 < n) :
    Y.Spec Try.prog 11 #[.agg #[.int .i64 (n : Int), u], wu] K [] (fun _ L' v => L' = [.row layI 3 v (partAll n es wo)]) := by
  refine spec_enter Try.func11 rfl (by kernel_rfl) Try.ntmps11 rfl ?_; intro C hC0 hCM
  repeat' first | (with_reducible refine id_code ?_; first | (refine rt_seq ?_) | (refine s_text ?_) | (refine rt_block ?_)) | (refine id_evt ?_; refine r_callL [] (f := 29) rfl rfl rfl rfl rfl TakeAll.nil (fun _ => rfl) (fun Kc hK hL => every29 Kc _ _ es (hF.mono hK) hm) ?_; rintro cv Kf _ rfl) | (refine id_pur ?_; (refine r_assign rfl rfl rfl rfl ?_)) | (refine id_ld ?_; (refine kd_ldA tb rfl rfl rfl ?_; (refine r_loadA tb rfl rfl rfl rfl rfl (by (exact cels_blk 0 (by rfl) (by ((intro e; cases e; done))))) (by rfl) ?_))) | (refine id_evt ?_; (refine r_boxA rfl rfl rfl rfl ?_ <;> intro bx)) | (refine rt_done ?_) | (with_reducible refine rt_then ?_)
  have hcl : (cmask es wo).length = es.length := by simp [cmask]
  refine rt_loop (fun k : Nat => k ≤ es.length) (fun _ => K) (fun k => [.row layB 4 cv (mix k (cmask es wo) (List.replicate es.length true)), .blk bx [.int .i64 n, u] 24]) (fun k => [(1, wu), (2, .pointer (some ⟨bx, 0, none⟩)), (5, cv), (6, .int .i64 (k : Int))])
    (fun k => es.length - k) 0 (by omega) rfl (by simp [mix_zero]) ⟨rfl, rfl, rfl, rfl, trivial⟩ ?_
  intro k hk
  have hlk : (mix k (cmask es wo) (List.replicate es.length true)).length = es.length := by rw [mix_length (by simp [hcl]) (by omega), hcl]
  by_cases hlt : k < es.length
  · obtain ⟨ht, hh⟩ := hes k hlt
    have hck : (cmask es wo)[k] = (!(wo.getD es[k].1 false) && !(wo.getD es[k].2 false)) := by simp [cmask]
    rw [getD_at wo false (by omega), getD_at wo false (by omega)] at hck
    repeat' first | (with_reducible refine s_split ?_ ?_ <;> intro _hb) | (with_reducible refine id_code ?_; first | (refine rt_seq ?_) | (refine s_text ?_) | (refine rt_condT rfl ?_) | (refine rt_skip ?_) | (refine rt_block ?_)) | (refine id_pur ?_; first | (refine r_move rfl rfl rfl rfl ?_) | (refine r_assign rfl rfl rfl rfl ?_) | (refine kd_field rfl rfl ?_; first | (refine r_field tb rfl rfl rfl rfl rfl ?_) | (refine r_fieldS tb rfl rfl rfl rfl rfl ?_)) | (refine kd_bin rfl rfl ?_; first | (refine r_add rfl rfl rfl rfl rfl (by omega) ?_) | (refine r_lss rfl rfl rfl rfl rfl ?_ ?_ <;> intro _hc <;> first | (exfalso; omega) | skip)) | (refine rt_pass rfl rfl rfl rfl ?_) | (refine kd_index rfl rfl ?_; (refine r_index tb _ rfl rfl rfl rfl rfl rfl (by first | (exact len_fl (by assumption)) | (exact len_row 0 (by rfl))) rfl (by (omega)) ?_)) | (refine r_len tb rfl rfl rfl rfl rfl (by (exact len_fl (by assumption))) ?_) | (refine r_pickT rfl rfl rfl rfl rfl ?_) | (refine r_pickF rfl rfl rfl rfl rfl ?_) | (refine r_notT rfl rfl rfl rfl ?_) | (refine r_notF rfl rfl rfl rfl ?_)) | (refine id_ld ?_; first | (refine kd_ld1 tb rfl rfl rfl ?_; (refine r_load tb rfl rfl rfl rfl rfl (by first | (exact cel_blk 1 (by rfl) (by rfl) (by ((intro e; cases e; done)))) | (exact c_fl0 (by assumption) (by (omega)) (by rfl) (by rfl) (by ((intro e; cases e; done)))) | (exact c_fl (by assumption) (by (assumption)) (by rfl) (by rfl) (by ((intro e; cases e; done))))) ?_)) | (refine rt_pass rfl rfl rfl rfl ?_)) | (refine id_evt ?_; (refine kd_st1 tb rfl rfl rfl ?_; (refine s_storeRow tb _ 0 rfl rfl rfl rfl (by rfl) (by rfl) (by first | exact Or.inl ⟨rfl, rfl⟩ | exact Or.inr rfl) (by (exact cells1 (by (exact one_rfl rfl)))) (by (omega)) (by repeat first | exact SetAt.zero | apply SetAt.succ) (by repeat first | exact trivial | refine And.intro (by (exact one_rfl rfl)) ?_) ?_))) | (refine rt_done ?_) | (with_reducible refine rt_then ?_) | (with_reducible refine rt_blockN ?_)
    all_goals exact rt_again (k + 1) (by omega) rfl (by rw [mix_set (by simp [hcl]) (by omega) (by rw [hck]; simp [*])]) ⟨rfl, rfl, rfl, lk_int rfl (by omega), trivial⟩ (by omega)
  · obtain rfl : k = es.length := by omega
    repeat' first | (with_reducible refine id_code ?_; first | (refine rt_seq ?_) | (refine s_text ?_) | (refine rt_condF rfl ?_) | (refine rt_exit ?_) | (refine rt_block ?_)) | (refine id_evt ?_; refine r_build0 tb layI rfl rfl rfl rfl rfl rfl ?_; intro bu) | (refine id_pur ?_; first | (refine r_move rfl rfl rfl rfl ?_) | (refine r_assign rfl rfl rfl rfl ?_) | (refine kd_field rfl rfl ?_; (refine r_field tb rfl rfl rfl rfl rfl ?_)) | (refine kd_bin rfl rfl ?_; (refine r_lss rfl rfl rfl rfl rfl ?_ ?_ <;> intro _hc <;> first | (exfalso; omega) | skip)) | (refine r_len tb rfl rfl rfl rfl rfl (by (exact len_fl (by assumption))) ?_)) | (refine id_ld ?_; (refine kd_ld1 tb rfl rfl rfl ?_; (refine r_load tb rfl rfl rfl rfl rfl (by (exact cel_blk 1 (by rfl) (by rfl) (by ((intro e; cases e; done))))) ?_))) | (refine rt_done ?_) | (with_reducible refine rt_then ?_) | (with_reducible refine rt_blockE ?_) | (with_reducible refine rt_thenExit ?_)
    rw [mix_all hcl (by simp)]
    refine rt_loop (ι := Nat × Value) (fun x => x.1 ≤ n) (fun _ => K) (fun x => [.row layI 3 x.2 ((List.range x.1).map (partOf n es wo)), .row layB 4 cv (cmask es wo), .blk bx [.int .i64 n, u] 24])
      (fun x => [(1, wu), (2, .pointer (some ⟨bx, 0, none⟩)), (5, cv), (7, x.2), (8, .int .i64 (x.1 : Int))]) (fun x => n - x.1) (0, bu) (by simp) rfl rfl ⟨rfl, rfl, rfl, rfl, rfl, trivial⟩ ?_
    intro ⟨x, ov⟩ hx
    simp only at hx ⊢
    by_cases hlt : x < n
    · repeat' first | (with_reducible refine id_code ?_; first | (refine rt_seq ?_) | (refine s_text ?_) | (refine rt_condT rfl ?_) | (refine rt_skip ?_) | (refine rt_block ?_)) | (refine id_evt ?_; refine r_callL [] (f := 30) rfl rfl rfl rfl rfl TakeAll.nil (fun _ => rfl) (fun Kc hK hL => go30 Kc n _ _ es (cmask es wo) x (hF.mono hK) (hat1 hL).fl hn (by omega) hm hcl hes) ?_; rintro sv Kf _ rfl) | (refine id_pur ?_; first | (refine r_move rfl rfl rfl rfl ?_) | (refine r_assign rfl rfl rfl rfl ?_) | (refine kd_field rfl rfl ?_; (refine r_field tb rfl rfl rfl rfl rfl ?_)) | (refine kd_bin rfl rfl ?_; first | (refine r_lss rfl rfl rfl rfl rfl ?_ ?_ <;> intro _hc <;> first | (exfalso; omega) | skip) | (refine r_sub rfl rfl rfl rfl rfl (by omega) ?_))) | (refine id_ld ?_; first | (refine kd_ld1 tb rfl rfl rfl ?_; (refine r_load tb rfl rfl rfl rfl rfl (by first | (exact cel_blk 2 (by rfl) (by rfl) (by ((intro e; cases e; done)))) | (exact cel_blk 3 (by rfl) (by rfl) (by ((intro e; cases e; done))))) ?_)) | (refine kd_ldA tb rfl rfl rfl ?_; (refine r_loadA tb rfl rfl rfl rfl rfl (by (exact cels_blk 2 (by rfl) (by ((intro e; cases e; done))))) (by rfl) ?_))) | (refine rt_done ?_) | (with_reducible refine rt_then ?_)
      have hsl : (goAll n es x (cmask es wo)).length = n := goAll_length _ _ _ _
      have hpx : partOf n es wo x = lst (goAll n es x (cmask es wo)) (wo.getD x false) n n := rfl
      generalize goAll n es x (cmask es wo) = sl at hsl hpx ⊢
      refine rt_loop (fun dd : Nat => dd ≤ n) (fun _ => K) (fun _ => [.row layB 4 sv sl, .row layI 3 ov ((List.range x).map (partOf n es wo)), .row layB 4 cv (cmask es wo), .blk bx [.int .i64 n, u] 24])
        (fun dd => [(1, wu), (2, .pointer (some ⟨bx, 0, none⟩)), (5, cv), (7, ov), (8, .int .i64 (x : Int)), (9, .int .i64 (lst sl (wo.getD x false) n dd)), (10, sv), (11, .int .i64 ((n : Int) - 1 - dd))]) (fun dd => n - dd) 0 (by omega) rfl rfl
        ⟨rfl, rfl, rfl, rfl, rfl, rfl, rfl, lk_int rfl (by omega), trivial⟩ ?_
      intro dd hdd
      by_cases hd : dd < n
      · obtain ⟨y, hy⟩ : ∃ y : Nat, (n : Int) - 1 - dd = y ∧ n - (dd + 1) = y := ⟨n - (dd + 1), by omega, rfl⟩
        rw [hy.1]
        have hyn : y < n := by omega
        have hst : lst sl (wo.getD x false) n (dd + 1) = if sl.getD y false && !(wo.getD x false) then (y : Int) else lst sl (wo.getD x false) n dd := by rw [lst, hy.2]
        have hxw : x < wo.length := by omega
        rw [getD_at sl false (by omega), getD_at wo false (by omega)] at hst
        repeat' first | (with_reducible refine s_split ?_ ?_ <;> intro _hb) | (with_reducible refine id_code ?_; first | (refine rt_seq ?_) | (refine s_text ?_) | (refine rt_condT rfl ?_) | (refine rt_condF rfl ?_) | (refine rt_skip ?_) | (refine rt_block ?_)) | (refine id_pur ?_; first | (refine r_move rfl rfl rfl rfl ?_) | (refine r_assign rfl rfl rfl rfl ?_) | (refine kd_bin rfl rfl ?_; first | (refine r_geq rfl rfl rfl rfl rfl ?_ ?_ <;> intro _hc <;> first | (exfalso; omega) | skip) | (refine r_sub rfl rfl rfl rfl rfl (by omega) ?_)) | (refine rt_pass rfl rfl rfl rfl ?_) | (refine kd_index rfl rfl ?_; (refine r_index tb _ rfl rfl rfl rfl rfl rfl (by first | (exact len_fl (by assumption)) | (exact len_row 0 (by rfl))) rfl (by (omega)) ?_)) | (refine r_pickT rfl rfl rfl rfl rfl ?_) | (refine r_pickF rfl rfl rfl rfl rfl ?_) | (refine r_notT rfl rfl rfl rfl ?_) | (refine r_notF rfl rfl rfl rfl ?_)) | (refine id_ld ?_; first | (refine kd_ld1 tb rfl rfl rfl ?_; (refine r_load tb rfl rfl rfl rfl rfl (by first | (exact c_fl0 (by assumption) (by (omega)) (by rfl) (by rfl) (by ((intro e; cases e; done)))) | (exact c_row0 0 (by rfl) (by (omega)) (by rfl) (by rfl) (by ((intro e; cases e; done))))) ?_)) | (refine rt_pass rfl rfl rfl rfl ?_)) | (refine rt_done ?_) | (with_reducible refine rt_then ?_) | (with_reducible refine rt_blockN ?_)
        all_goals refine rt_again (dd + 1) (by omega) rfl rfl ⟨rfl, rfl, rfl, rfl, rfl, ?_, rfl, lk_int rfl (by omega), trivial⟩ (by omega)
        all_goals (rw [getD_at wo false (by omega), hst]; simp [*]; rfl)
      · obtain rfl : dd = n := by omega
        repeat' first | (with_reducible refine id_code ?_; first | (refine rt_seq ?_) | (refine s_text ?_) | (refine rt_condF rfl ?_) | (refine rt_exit ?_)) | (refine id_evt ?_; refine r_build1 tb layI _ rfl rfl rfl rfl rfl rfl (by rfl) (by rfl) (by decide) ?_; intro bu) | (refine id_pur ?_; first | (refine r_move rfl rfl rfl rfl ?_) | (refine r_assign rfl rfl rfl rfl ?_) | (refine kd_bin rfl rfl ?_; first | (refine r_add rfl rfl rfl rfl rfl (by omega) ?_) | (refine r_geq rfl rfl rfl rfl rfl ?_ ?_ <;> intro _hc <;> first | (exfalso; omega) | skip))) | (refine id_evt ?_; (refine kd_call rfl rfl ?_; (refine s_app tb 2 rfl rfl rfl rfl rfl rfl rfl rfl rfl (by rfl) (by (exact src_row 0 (by rfl))) (by (exact ones_ok okI)) (by ((simp only [List.length_set, List.length_replicate, List.length_append, List.length_map, List.length_range, List.length_cons, List.length_nil]; first | assumption | omega))) (by decide) (by first | (intro e; cases e; done) | exact fun _ => rfl) ?_; intro ua; refine ⟨_, by repeat first | exact SetAt.zero | apply SetAt.succ, ?_⟩))) | (refine rt_done ?_) | (with_reducible refine rt_then ?_) | (with_reducible refine rt_blockN ?_) | (with_reducible refine rt_blockE ?_) | (with_reducible refine rt_thenExit ?_)
        refine s_keep [2,2,2] (TakeAll.cons (by repeat first | exact TakeAt.zero | apply TakeAt.succ) (TakeAll.cons (by repeat first | exact TakeAt.zero | apply TakeAt.succ) (TakeAll.cons (by repeat first | exact TakeAt.zero | apply TakeAt.succ) TakeAll.nil))) ?_
        exact rt_again (x + 1, ua) (by simp; omega) rfl (by simp [List.range_succ, hpx]) ⟨rfl, rfl, rfl, rfl, lk_int rfl (by simp), trivial⟩ (by simp; omega)
    · obtain rfl : x = n := by omega
      repeat' first | (with_reducible refine id_code ?_; first | (refine rt_seq ?_) | (refine s_text ?_) | (refine rt_condF rfl ?_) | (refine rt_ret ?_) | (refine rt_exit ?_)) | (refine id_pur ?_; first | (refine r_move rfl rfl rfl rfl ?_) | (refine r_assign rfl rfl rfl rfl ?_) | (refine kd_field rfl rfl ?_; (refine r_field tb rfl rfl rfl rfl rfl ?_)) | (refine kd_bin rfl rfl ?_; (refine r_lss rfl rfl rfl rfl rfl ?_ ?_ <;> intro _hc <;> first | (exfalso; omega) | skip))) | (refine id_ld ?_; (refine kd_ld1 tb rfl rfl rfl ?_; (refine r_load tb rfl rfl rfl rfl rfl (by (exact cel_blk 2 (by rfl) (by rfl) (by ((intro e; cases e; done))))) ?_))) | (refine rt_done ?_) | (with_reducible refine rt_then ?_) | (with_reducible refine rt_blockE ?_) | (with_reducible refine rt_thenExit ?_) | (with_reducible refine id_ret ?_; refine rt_ret1 [0] rfl rfl rfl ?_)
      simp [sel, partAll]
end Go.Proofs.Ytmdophgpgojbfaa
