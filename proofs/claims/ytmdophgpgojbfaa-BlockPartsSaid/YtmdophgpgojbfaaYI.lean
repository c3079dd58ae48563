/-
  The calculus 'Y': cuts; rows of rows.
-/
import Derived.Test.YtmdophgpgojbfaaYH
namespace Go.Y
set_option linter.unusedVariables false
set_option linter.unusedSimpArgs false

abbrev nilS : Value := .slice none 0 0
/-! ### a struct is built -/
theorem run_mapM_list {P : Program} {α β : Type} (f : α → Sem β) (g : α → β) (w : World) : ∀ (xs : List α), (∀ x ∈ xs, (f x).run P w = .ok (g x) w) → (xs.mapM f).run P w = .ok (xs.map g) w
  | [], _ => by simp
  | x :: r, h => by
    rw [List.mapM_cons]
    simp [h x (by simp), run_mapM_list f g w r fun y hy => h y (by simp [hy])]
theorem run_mapM {P : Program} {α β : Type} (f : α → Sem β) (g : α → β) (w : World) (xs : Array α) (h : ∀ x ∈ xs, (f x).run P w = .ok (g x) w) : (xs.mapM f).run P w = .ok (xs.map g) w := by
  rw [Array.mapM_eq_mapM_toList]
  simp only [Sem.run_map, run_mapM_list f g w xs.toList (by simpa using h), Result.andThen_ok, ← Array.toList_map]

def evp (E : Env) : List (Nat × Operand) → Option (List (Nat × Value))
  | [] => some []
  | (i, x) :: r => match ev E x, evp E r with
    | some v, some vs => some ((i, v) :: vs)
    | _, _ => none
theorem St.evp {n : Nat} {C : Ctx} {K : Know} {L : List Chunk} {E : Env} {a : Act} {w : World} (h : St n C K L E a w) : ∀ {xs : List (Nat × Operand)} {ys : List (Nat × Value)}, evp E xs = some ys → xs.map (fun p => (p.1, a.eval p.2)) = ys
  | [], ys, e => by simp [Y.evp] at e; simp [e]
  | (i, x) :: r, ys, e => by
    simp only [Y.evp] at e
    cases hx : ev E x with
    | none => simp [hx] at e
    | some v =>
      cases hr : Y.evp E r with
      | none => simp [hx, hr] at e
      | some zs =>
        simp [hx, hr] at e
        subst e
        simp [h.eval hx, St.evp h hr]
def nthP : List (Nat × Nat) → Nat → Option (Nat × Nat)
  | [], _ => none
  | x :: _, 0 => some x
  | _ :: r, i + 1 => nthP r i
theorem nthP_eq (l : List (Nat × Nat)) (i : Nat) : nthP l i = l[i]? := by
  induction l generalizing i with
  | nil => simp [nthP]
  | cons o r ih => cases i <;> simp [nthP, ih]
def putC : List Value → Nat → List Value → List Value
  | cs, _, [] => cs
  | [], _, _ => []
  | _ :: cs, 0, v :: vs => v :: putC cs 0 vs
  | c :: cs, i + 1, vs => c :: putC cs i vs
def fillC (pl : List (Nat × Nat)) : List Value → List (Nat × List Value) → Option (List Value)
  | cells, [] => some cells
  | cells, (i, cs) :: r => match nthP pl i with
    | some (off, sz) => bif Nat.beq cs.length sz && Nat.ble (off + cs.length) cells.length then fillC pl (putC cells off cs) r else none
    | none => none
def PartsOk (n : Nat) (C : Ctx) (K : Know) (L : List Chunk) : List (Nat × Value) → List (Nat × List Value) → Prop
  | [], [] => True
  | (i, v) :: r, (j, cs) :: s => (i = j ∧ CellsAre n C K L v cs) ∧ PartsOk n C K L r s
  | _, _ => False
theorem partsNil {n : Nat} {C : Ctx} {K : Know} {L : List Chunk} : PartsOk n C K L [] [] := trivial
theorem partsCons {n : Nat} {C : Ctx} {K : Know} {L : List Chunk} {i : Nat} {v : Value} {cs : List Value} {r : List (Nat × Value)} {s : List (Nat × List Value)} (h : CellsAre n C K L v cs) (h' : PartsOk n C K L r s) : PartsOk n C K L ((i, v) :: r) ((i, cs) :: s) := ⟨⟨rfl, h⟩, h'⟩
theorem putC_length : ∀ (cs : List Value) (off : Nat) (vs : List Value), (putC cs off vs).length = cs.length
  | [], _, [] => rfl
  | [], _, _ :: _ => rfl
  | _ :: _, _, [] => rfl
  | _ :: cs, 0, _ :: vs => by simp [putC, putC_length cs 0 vs]
  | _ :: cs, i + 1, v :: vs => by simp [putC, putC_length cs i (v :: vs)]
theorem foldl_put : ∀ (vs : List Value) (cs : List Value) (off k : Nat), (vs.zipIdx k).foldl (fun (a : Array Value) (x : Value × Nat) => a.setIfInBounds (off + x.2) x.1) cs.toArray = (putC cs (off + k) vs).toArray
  | [], cs, off, k => by cases cs <;> simp [putC]
  | v :: vs, cs, off, k => by
    have hp : ∀ (cs : List Value) (m : Nat), putC (cs.set m v) (m + 1) vs = putC cs m (v :: vs) := by
      intro cs
      induction cs with
      | nil => intro m; cases vs <;> simp [putC]
      | cons c r ih =>
        intro m
        cases m with
        | zero =>
          have e0 : putC (v :: r) (0 + 1) vs = v :: putC r 0 vs := by cases vs <;> simp [putC]
          simpa [putC] using e0
        | succ m =>
          simp only [List.set_cons_succ]
          have e1 : putC (c :: r.set m v) (m + 1 + 1) vs = c :: putC (r.set m v) (m + 1) vs := by cases vs <;> simp [putC]
          rw [e1, ih m]
          simp [putC]
    simp only [List.zipIdx_cons, List.foldl_cons, List.setIfInBounds_toArray]
    rw [foldl_put vs (cs.set (off + k) v) off (k + 1), ← Nat.add_assoc, hp]
theorem fill_eq {n : Nat} {C : Ctx} {K : Know} {L : List Chunk} {E : Env} {a : Act} {w : World} (st : St n C K L E a w) (pl : List (Nat × Nat)) : ∀ {vs : List (Nat × Value)} {css : List (Nat × List Value)} {cells out : List Value}, PartsOk n C K L vs css → fillC pl cells css = some out →
    Instr.fill (fun i => pl[i]?) cells.toArray vs = some out.toArray
  | [], [], cells, out, _, h => by simp [fillC] at h; simp [Instr.fill, h]
  | [], _ :: _, _, _, hp, _ => hp.elim
  | _ :: _, [], _, _, hp, _ => hp.elim
  | (i, v) :: r, (j, cs) :: s, cells, out, hp, h => by
    obtain ⟨⟨rfl, hc⟩, hr⟩ := hp
    have hcv := hc E a w st
    simp only [fillC, nthP_eq] at h
    simp only [Instr.fill]
    cases hpl : pl[i]? with
    | none => simp [hpl] at h
    | some x =>
      obtain ⟨off, sz⟩ := x
      rw [hpl] at h
      simp only at h ⊢
      cases hb : (Nat.beq cs.length sz && Nat.ble (off + cs.length) cells.length) with
      | false => rw [hb] at h; simp at h
      | true =>
        rw [hb] at h
        simp only [cond_true] at h
        simp only [Bool.and_eq_true, Nat.beq_eq, Nat.ble_eq] at hb
        rw [hcv]
        rw [if_neg (by simp; omega)]
        have e := foldl_put cs cells off 0
        simp only [Nat.add_zero] at e
        have e2 : (cs.toArray.zipIdx.foldl (fun cs (x : Value × Nat) => cs.setIfInBounds (off + x.2) x.1) cells.toArray) = (putC cells off cs).toArray := by
          rw [← e, ← Array.foldl_toList]; simp
        exact (congrArg (fun q => Instr.fill (fun i => pl[i]?) q r) e2).trans (fill_eq st pl hr h)

theorem r_build {P : Program} {n : Nat} {C : Ctx} {K : Know} {L : List Chunk} {E : Env} {ex : Option Value} {ops : List Oper} {Q : Act → World → Prop} {i d ty : Nat} {pos : String} {af : Array Edge} {g : Option (Nat × Bool)} {r : Ord} (Tb : Tab P)
    {t : Nat} {parts : Array (Nat × Operand)} {zs out : List Value} {pl : List (Nat × Nat)} {vs : List (Nat × Value)} {css : List (Nat × List Value)} (ho : nth ops i = some ⟨some d, .build t parts, ty, pos, af, g⟩) (hw : wantE ops E g = some true) (hdn : Nat.blt d n = true)
    (hz : Tb.zero t = some zs) (hp : Tb.plc t = some pl) (hv : evp E parts.toList = some vs) (hc : PartsOk n C K L vs css) (hf : fillC pl zs css = some out)
    (h : T n C K L ((d, .agg out.toArray) :: E) (wpR P ex ops Q r)) : T n C K L E (wpR P ex ops Q (.step i .pur r)) :=
  rt_pur ho hw rfl hdn (fun a w st w' => by
    obtain ⟨z, hzr, hzc⟩ := run_zeroValue Tb hz w'
    obtain ⟨fs, hu, hpl⟩ := Tb.plcOk t pl hp
    have hparts : (parts.map fun (i, x) => (i, a.eval x)).toList = vs := by rw [Array.toList_map]; exact st.evp hv
    have hsz : ∀ f ∈ fs, ∃ s, (P.info? f.type).map (·.size) = some s := fun f hf => by
      have hm : (f.offset, (P.info? f.type).map (·.size)) ∈ pl.map (fun x => (x.1, some x.2)) := by
        rw [← hpl]; exact List.mem_map.2 ⟨f, by simpa using hf, rfl⟩
      obtain ⟨x, _, hx⟩ := List.mem_map.1 hm
      exact ⟨x.2, (congrArg Prod.snd hx).symm⟩
    have hmap : (fs.mapM fun f => do pure (f.offset, ← sizeOf f.type) : Sem _).run P w' = .ok (fs.map fun f => (f.offset, ((P.info? f.type).map (·.size)).getD 0)) w' := by
      refine run_mapM _ (fun f => (f.offset, ((P.info? f.type).map (·.size)).getD 0)) w' fs fun f hf => ?_
      obtain ⟨s, hs⟩ := hsz f hf
      simp [run_sizeOf hs, hs]
    have hplaces : (fs.map fun f => (f.offset, ((P.info? f.type).map (·.size)).getD 0)).toList = pl := by
      have : (fs.toList.map (fun f => (f.offset, (P.info? f.type).map (·.size)))).map (fun x => (x.1, x.2.getD 0)) = (pl.map (fun x => (x.1, some x.2))).map (fun x => (x.1, x.2.getD 0)) := by rw [hpl]
      simpa [List.map_map, Function.comp_def] using this
    have hpa : (fs.map fun f => (f.offset, ((P.info? f.type).map (·.size)).getD 0)) = pl.toArray := by rw [← hplaces]
    have hfill := fill_eq st pl hc hf
    have hrun : (Instr.build t (parts.map fun (i, x) => (i, a.eval x))).run P w' = .ok (.agg out.toArray) w' := by
      unfold Instr.build
      simp only [Sem.run_bind, hzr, Result.andThen_ok, run_underlying hu, hmap, hpa, hparts, hzc, Sem.run_pure, List.getElem?_toArray, hfill]
    simp only [execOp, Sem.run_bind, hrun, Result.andThen_ok, Sem.run_pure]) h

theorem s_drop {n : Nat} {C : Ctx} {K : Know} {L L' : List Chunk} {E : Env} {Φ : Act → World → Prop} {c : Chunk} (j : Nat) (hj : TakeAt L j c L') (h : T n C K L' E Φ) : T n C K L E Φ := fun a w st => by
  obtain ⟨h1, h2⟩ := hj.eq
  have hp := perm_at h1
  rw [h2] at hp
  exact h a w (st.keep (hp.trans (List.perm_append_comm (l₁ := [c]))))
/-- Where ways meet again. -/
def Mid {ι : Type _} (n : Nat) (C : Ctx) (p : ι → Prop) (Kx : ι → Know) (Lx : ι → List Chunk) (Ex : ι → Env) (a : Act) (w : World) : Prop :=
  ∃ y, p y ∧ St n C (Kx y) (Lx y) (Ex y) a w

theorem perm_at' {α : Type _} : ∀ {L : List α} {j : Nat} {c : α}, L[j]? = some c → L.Perm (c :: L.eraseIdx j)
  | [], j, c, h => by simp at h
  | x :: L, 0, c, h => by
    simp at h
    subst h
    exact .refl _
  | x :: L, j + 1, c, h => ((perm_at' (by simpa using h : L[j]? = some c)).cons x).trans (.swap c x _)

section
variable {P : Program} {n : Nat} {C : Ctx} {K : Know} {L L' : List Chunk} {E : Env} {Φ : Act → World → Prop} {α : Type} {l : Lay α} {Ty : TypeId} {ps : List (Value × List α)} {v : Value} {xs : List α} {i : Nat}

theorem s_cut {ι : Type _} {x y : Code} {Q : Exit → Act → World → Prop} (p : ι → Prop) (Kx : ι → Know) (Lx : ι → List Chunk) (Ex : ι → Env)
    (h1 : T n C K L E (x.wp P (Exit.then (Mid n C p Kx Lx Ex) Q))) (h2 : ∀ z, p z → T n C (Kx z) (Lx z) (Ex z) (y.wp P Q)) : T n C K L E ((Code.seq x y).wp P Q) := fun a w st =>
  wp_seq (wp_mono (h1 a w st) fun e a w h => by
    cases e <;> first
      | exact h
      | (obtain ⟨z, hz, st⟩ := h; exact h2 z hz a w st))
/-- The same, where the first part stands already. -/
theorem s_cutN {ι : Type _} {x : Code} {N : Act → World → Prop} {Q : Exit → Act → World → Prop} (p : ι → Prop) (Kx : ι → Know) (Lx : ι → List Chunk) (Ex : ι → Env)
    (h1 : T n C K L E (x.wp P (Exit.then (Mid n C p Kx Lx Ex) Q))) (h2 : ∀ z, p z → T n C (Kx z) (Lx z) (Ex z) N) : T n C K L E (x.wp P (Exit.then N Q)) := fun a w st =>
  wp_mono (h1 a w st) fun e a w h => by
    cases e <;> first
      | exact h
      | (obtain ⟨z, hz, st⟩ := h; exact h2 z hz a w st)
theorem s_mid {ι : Type _} {p : ι → Prop} {Kx : ι → Know} {Lx : ι → List Chunk} {Ex : ι → Env} (z : ι) (hp : p z) (hK : K = Kx z) (hL : L = Lx z) (hE : Sub (Ex z) E) : T n C K L E (Mid n C p Kx Lx Ex) := fun a w st => by
  subst hK; subst hL
  exact ⟨z, hp, { st with env := fun t v hv => st.env t v (hE.lk hv) }⟩

/-- No rows, or nil ones, are owned. -/
theorem s_manyNil (l : Lay α) (Ty : TypeId) (m : Nat) (h : T n C K (.many l Ty (List.replicate m (.slice none 0 0, [])) :: L) E Φ) : T n C K L E Φ := fun a w st => by
  have e : (Chunk.many l Ty (List.replicate m (.slice none 0 0, []))).foot = [] := by
    simp only [Chunk.foot]
    rw [List.flatMap_eq_nil_iff]
    intro p hp
    rw [List.eq_of_mem_replicate hp]
    rfl
  exact h a w { st with
    own := fun c hc => by
      rcases List.mem_cons.1 hc with rfl | hc
      · intro p hp
        rw [List.eq_of_mem_replicate hp]
        exact .inl ⟨rfl, rfl⟩
      · exact st.own c hc
    nodup := by rw [List.flatMap_cons, e]; exact st.nodup
    apart := fun b hb => st.apart b (by rw [List.flatMap_cons, e] at hb; exact hb)
    fresh := fun b hb => st.fresh b (by rw [List.flatMap_cons, e] at hb; exact hb) }

theorem s_focus (j : Nat) (hj : TakeAt L j (.many l Ty ps) L') (hi : i < ps.length) (hv : v = ps[i].1) (hx : xs = ps[i].2)
    (h : T n C K (.row l Ty v xs :: .many l Ty (ps.eraseIdx i) :: L') E Φ) : T n C K L E Φ := fun a w st => by
  obtain ⟨h1, h2⟩ := hj.eq
  have hpL := perm_at h1
  rw [h2] at hpL
  have hps : ps.Perm (ps[i] :: ps.eraseIdx i) := perm_at' (List.getElem?_eq_getElem hi)
  refine h a w (st.reshape (fun K' hh c hc => ?_) (.inr ?_))
  · have hm : (Chunk.many l Ty ps).holds K' := hh _ (List.mem_of_getElem? h1)
    rcases List.mem_cons.1 hc with rfl | hc
    · subst hv; subst hx; exact hm _ (List.getElem_mem hi)
    · rcases List.mem_cons.1 hc with rfl | hc
      · exact fun p hp => hm p (List.mem_of_mem_eraseIdx hp)
      · exact hh c (hpL.symm.subset (List.mem_cons_of_mem _ hc))
  · refine List.Perm.trans ?_ (foot_perm hpL).symm
    simp only [List.flatMap_cons, Chunk.foot]
    rw [← List.append_assoc]
    refine List.Perm.append_right _ ?_
    subst hv
    have := (hps.flatMap_right (fun p : Value × List α => footV p.1)).symm
    simpa using this

theorem s_unfocus (hi : i < ps.length) (h : T n C K (.many l Ty (ps.set i (v, xs)) :: L) E Φ) : T n C K (.row l Ty v xs :: .many l Ty (ps.eraseIdx i) :: L) E Φ := fun a w st => by
  have hps : (ps.set i (v, xs)).Perm ((v, xs) :: ps.eraseIdx i) := by
    have := perm_at' (L := ps.set i (v, xs)) (j := i) (c := (v, xs)) (by simp [hi])
    rwa [List.eraseIdx_set_eq] at this
  refine h a w (st.reshape (fun K' hh c hc => ?_) (.inr ?_))
  · rcases List.mem_cons.1 hc with rfl | hc
    · intro p hp
      rcases List.mem_cons.1 (hps.subset hp) with rfl | hp
      · exact hh (.row l Ty v xs) (by simp)
      · exact (hh (.many l Ty (ps.eraseIdx i)) (by simp) : ∀ p ∈ ps.eraseIdx i, rowH K' l Ty p.1 p.2) p hp
    · exact hh c (by simp [hc])
  · simp only [List.flatMap_cons, Chunk.foot]
    rw [← List.append_assoc]
    refine List.Perm.append_right _ ?_
    have := hps.flatMap_right (fun p : Value × List α => footV p.1)
    simpa using this

theorem fl2_of {u : Value} (h1 : Fl K layV u (ps.map Prod.fst)) (h2 : (Chunk.many l Ty ps).holds K) : Fl2 K l u (ps.map Prod.snd) :=
  ⟨ps.map Prod.fst, h1, by simp, fun i a b => by
    have hi : i < ps.length := by simpa using a
    have := (show (Chunk.row l Ty ps[i].1 ps[i].2).holds K from h2 _ (List.getElem_mem hi)).fl
    simpa using this⟩

/-- A row of rows that is known: one of it. -/
theorem Fl2.at {u : Value} {xss : List (List α)} (h : Fl2 K l u xss) : ∃ us : List Value, Fl K layV u us ∧ us.length = xss.length ∧ ∀ i (h : i < us.length) (h' : i < xss.length), Fl K l us[i] xss[i] := h
end
end Go.Y
