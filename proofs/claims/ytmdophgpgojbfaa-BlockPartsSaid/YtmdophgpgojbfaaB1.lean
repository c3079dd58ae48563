/- From a contract of the calculus to a row. -/
import Derived.Test.YtmdophgpgojbfaaW13
import Derived.Test.YtmdophgpgojbfaaRows
import Derived.ProofKit
import Derived.Lib.SmallJoins
namespace Go.Proofs.Ytmdophgpgojbfaa
open Go.Y Go.ChangeShapes Go.WideShapes Go.ChangeAt Go.RowKit
set_option linter.unusedVariables false
set_option linter.unusedSimpArgs false

theorem Try.own : ownKnob Try.prog.godebug = none := by kernel_rfl
theorem Try.laidOut : laidOutB Try.prog = true := by kernel_rfl

section
variable {H : Type} {enc : TypeId × Value → H} {P : Program}
theorem post_of_below {f : Func} {s : ChangeSpec} {apart fresh handsOn again : Bool} {W W' : World} {args : Array Value} {v : Value} {ds gs : List (DataW H)} {before pa pv : List MemPlace}
    (hW : DataW.Whole enc P f.params.toList s.vars apart W args.toList ds gs before)
    (hres : ∀ (b : Nat) (sp : Nat → Bool) (hd : Bool), DataW.TrodAll enc P W' b sp hd f.resultTypes.toList (v.resultList f.resultTypes.size) (s.fn H (ds ++ gs)).results [])
    (hargs : ∀ sp : Nat → Bool, (∀ p ∈ before, sp p.block = true) → DataW.TrodAll enc P W' 0 sp true f.params.toList args.toList (s.fn H (ds ++ gs)).args pa)
    (hvars : ∀ sp : Nat → Bool, (∀ p ∈ before, sp p.block = true) → DataW.TrodVars enc P W' sp s.vars (s.fn H (ds ++ gs)).vars pv)
    (hps : before = pa ++ pv) (hb : Below W.heap.size W W')
    (hok : ∀ (j : Nat) (t : TypeId) (r : Value), f.resultTypes[j]? = some t → (v.resultList f.resultTypes.size)[j]? = some r → Value.okWide P W' .any 0 t r) :
    s.post enc P f apart fresh handsOn again W args v W' := by
  have hold : ∀ p ∈ before, (fun b => decide (b < W.heap.size)) p.block = true := fun p hp => by simpa using hW.lt p hp
  have hlt : ∀ p ∈ before, p.block < W.heap.size := fun p hp => hW.lt p hp
  refine ⟨ds, gs, before, [], pa, pv, hW, hres _ _ _, hargs _ hold, hvars _ hold, World.keptBut_mono (fun p hp => ⟨hp, ?_⟩) (hb.frame (· ∈ before)), fun _ => ?_⟩
  · rw [hps, List.mem_append] at hp
    exact Or.inr hp
  · obtain ⟨_, _, _, _, _, hz, hn⟩ := hW
    refine ⟨hok, _, _, ([] ++ pa) ++ pv, ⟨[] ++ pa, pv, trodAll_append (hargs _ (fun _ _ => rfl)) (hres _ _ _), hvars _ (fun _ _ => rfl), rfl, ?_, ?_⟩, ?_⟩
    · intro b off hp
      have hp' := hp
      simp only [List.nil_append] at hp'
      rw [← hps] at hp'
      have h2 := hlt _ hp'
      rw [hb.frozen (by exact h2)]
      exact hz b off hp'
    · intro ha
      have := hn ha
      rw [hps] at this
      simpa using this
    · intro p hp _
      rw [hps]
      simpa using hp

/-- A call by its contract, all that is in memory being known. -/
theorem calls_of_spec0 {f : FuncId} {args : Array Value} {W : World} {R : Value → Prop} (h : Spec0 P f args (hp W) R) : Calls P f args W fun e W' => ∃ v, e = .returned v ∧ R v ∧ Below W.heap.size W W' := by
  have h0 : Y.Out ⟨W, [], hp W⟩ (hp W) [] W :=
    { size := rfl
      env := fun t v hv => by simp [lk] at hv
      defs := rfl
      know := fun b o h => h
      own := by simp
      nodup := by simp
      apart := by simp
      fresh := by simp
      knew := fun b o h => .inl h
      frame := fun b o h _ => h
      grew := Nat.le_refl _
      os := rfl
      tape := rfl
      outp := rfl }
  refine Calls.mono (h.2 W h0) ?_
  rintro e W' ⟨v, K', L', rfl, ⟨_, hR⟩, ho⟩
  refine ⟨v, rfl, hR, ⟨ho.os, ho.tape, ho.outp, ho.grew, fun k hk => ?_⟩⟩
  obtain ⟨o, hko⟩ : ∃ o, W.heap[k]? = some o := ⟨_, Array.getElem?_eq_getElem hk⟩
  rw [hko]
  exact ho.frame k o hko (by simp)

/-- A slice of pairs of ints that reads as data. -/
theorem fl_of_trod {t e ti : TypeId} {f0 f1 : Field} {W : World} {sp : Nat → Bool} {held : Bool} {fuel : Nat} {u : Value} {x : DataW H × List MemPlace} (ht : P.underlying t = some (.slice e)) (he : P.underlying e = some (.struct #[f0, f1]))
    (hc : P.cellsOf e = 2) (h0 : f0.type = ti ∧ f0.offset = 0) (h1 : f1.type = ti ∧ f1.offset = 1) (hi : P.underlying ti = some (.int .i64)) (hci : P.cellsOf ti = 1)
    (h : DataW.trod enc P W 0 sp held fuel t [u] = some x) : ∃ es, Fl (hp W) layII u es := by
  rcases DataW.trod_slice ht h with ⟨h2, _⟩ | ⟨a, len, cap, elems, rest, n, _, h2, _, _, hl, hm, hlen, hel, _, _⟩
  · simp only [List.cons.injEq, and_true] at h2
    subst h2
    exact ⟨[], none, 0, rfl, by simp, by simp, fun h => absurd rfl h⟩
  · simp only [List.cons.injEq, and_true] at h2
    subst h2
    have each : ∀ i, i < len → ∃ p : Int × Int, W.cell? (a.add (i * 2)) = some (.int .i64 p.1) ∧ W.cell? (a.add (i * 2 + 1)) = some (.int .i64 p.2) := by
      intro i hi'
      have h3 := hel i hi'
      rw [hc] at h3
      have h4 : ∃ y, elems[i]? = some y := ⟨_, List.getElem?_eq_getElem (by omega)⟩
      obtain ⟨y, hy⟩ := h4
      rw [hy] at h3
      obtain ⟨cs, hcs, htr⟩ := Option.bind_eq_some_iff.1 h3
      obtain ⟨_, hcl, hcell⟩ := World.cells?_some hcs
      obtain ⟨y0, y1, m, _, _, g0, g1⟩ := trod_struct2 he htr
      obtain ⟨c0, c1, rfl⟩ : ∃ c0 c1, cs = [c0, c1] := by
        match cs, hcl with
        | [c0, c1], _ => exact ⟨c0, c1, rfl⟩
      rw [h0.1, h0.2, hci] at g0
      rw [h1.1, h1.2, hci] at g1
      simp only [List.drop_zero, List.drop_succ_cons, List.take_succ_cons, List.take_zero] at g0 g1
      obtain ⟨p0, e0, _⟩ := DataW.trod_int hi g0
      obtain ⟨p1, e1, _⟩ := DataW.trod_int hi g1
      simp only [List.cons.injEq, and_true] at e0 e1
      have k0 := hcell 0 (by omega)
      have k1 := hcell 1 (by omega)
      have hadd : ∀ (a : Addr) (p q : Nat), (a.add p).add q = a.add (p + q) := fun a p q => by
        unfold Addr.add
        by_cases h1 : p = 0
        · subst h1; simp
        · by_cases h2 : q = 0
          · subst h2; simp [h1]
          · simp [h1, h2, Nat.add_assoc]
      rw [hadd] at k0 k1
      exact ⟨(p0, p1), by simpa [e0] using k0, by simpa [e1] using k1⟩
    obtain ⟨es, hes⟩ : ∃ es : List (Int × Int), es.length = len ∧ ∀ i (h : i < es.length), W.cell? (a.add (i * 2)) = some (.int .i64 es[i].1) ∧ W.cell? (a.add (i * 2 + 1)) = some (.int .i64 es[i].2) := by
      refine ⟨(List.range len).attach.map fun i => Classical.choose (each i.1 (List.mem_range.1 i.2)), by simp, fun i hi' => ?_⟩
      have hi2 : i < len := by simpa using hi'
      have := Classical.choose_spec (each i hi2)
      simpa using this
    obtain ⟨hlen2, hcell⟩ := hes
    refine ⟨es, some a, cap, by rw [hlen2], by omega, by unfold maxLen at hm; omega, fun hne => ?_⟩
    have hpos : 0 < es.length := List.length_pos_iff.2 hne
    obtain ⟨c, T, fr, hb, hk0⟩ : ∃ c T fr, W.heap[a.block]? = some (.cells c T fr) ∧ a.spot = none := by
      have h5 := (hcell 0 hpos).1
      unfold World.cell? at h5
      have hbl : a.add (0 * 2) = a := by simp [Addr.add]
      rw [hbl] at h5
      split at h5
      · rename_i c T fr hb
        refine ⟨c, T, fr, hb, ?_⟩
        by_cases hs : a.spot.isSome
        · rw [if_pos hs] at h5; cases h5
        · simpa using hs
      · cases h5
    obtain ⟨ab, ao, asp⟩ := a
    simp only at hk0 hb
    subst hk0
    refine ⟨ab, ao, c, T, fr, rfl, hb, fun k hk => ?_⟩
    have hk2 : k < es.length * 2 := hk
    have hcl : ∀ j v, W.cell? ((⟨ab, ao, none⟩ : Addr).add j) = some v → c[ao + j]? = some v := fun j v hj => by
      rw [Addr.add_none] at hj
      simpa [World.cell?, hb] using hj
    have hd : k = (k / 2) * 2 + k % 2 := by omega
    have hi3 : k / 2 < es.length := by omega
    have hmod : k % 2 = 0 ∨ k % 2 = 1 := by omega
    have hg := Lay.cells_get layII es (k / 2) (k % 2) hi3 (by show k % 2 < 2; omega)
    have e2 : k / 2 * layII.sz + k % 2 = k := by show k / 2 * 2 + k % 2 = k; omega
    rw [e2] at hg
    rw [hg]
    rcases hmod with e | e
    · rw [e]
      have := hcl _ _ (hcell _ hi3).1
      have e3 : k / 2 * 2 = k := by omega
      rw [e3] at this
      rw [this]; rfl
    · rw [e]
      have := hcl _ _ (hcell _ hi3).2
      have e3 : k / 2 * 2 + 1 = k := by omega
      rw [e3] at this
      rw [this]; rfl
end
end Go.Proofs.Ytmdophgpgojbfaa
