/-
  The calculus 'Y': parts of slices.
-/
import Derived.Test.YtmdophgpgojbfaaYI
import Derived.Laws.Small
namespace Go.Y
set_option linter.unusedVariables false
set_option linter.unusedSimpArgs false

/-- What lies from k on, and what lies ahead of k. -/
def sfx (v : Value) (k sz : Nat) : Value := match v with
  | .slice a n c => sliced a k n c sz
  | _ => v
def pfx (v : Value) (k sz : Nat) : Value := match v with
  | .slice a n c => sliced a 0 k c sz
  | _ => v

section
variable {P : Program} {n : Nat} {C : Ctx} {K : Know} {L L' : List Chunk} {E : Env} {ex : Option Value} {ops : List Oper} {Q Φ : Act → World → Prop}
variable {i d ty : Nat} {pos : String} {af : Array Edge} {g : Option (Nat × Bool)} {r : Ord} {s : Bool} (Tb : Tab P)
variable {α : Type} {l : Lay α} {Ty : TypeId} {v v' : Value} {xs : List α}

theorem elem_eq {t e : TypeId} (h : P.underlying t = some (.slice e)) : P.elem t = e := by simp [Program.elem, h]

include Tb in
theorem r_slcL {x lo : Operand} {t e sz : Nat} {u : Value} {m : Nat} {iv : Int} {kd : IntKind} (k : Nat) (ho : nth ops i = some ⟨some d, .slice t x (some lo) none none, ty, pos, af, g⟩) (hw : wantE ops E g = some true) (hdn : Nat.blt d n = true)
    (hx : ev E x = some u) (hi : ev E lo = some (.int kd iv)) (ht : Tb.slc t = some (e, sz)) (hl : Len n C K L u m) (hk : iv = (k : Int)) (hle : k ≤ m)
    (h : T n C K L ((d, sfx u k sz) :: E) (wpR P ex ops Q r)) : T n C K L E (wpR P ex ops Q (.step i .pur r)) :=
  rt_pur ho hw rfl hdn (fun a w st w' => by
    obtain ⟨A, c, rfl, hA⟩ := hl E a w st
    obtain ⟨hu, hs⟩ := Tb.slcOk t e sz ht
    subst hk
    have he := elem_eq hu
    have hr := run_slice_l (P := P) w' t A m c (by rw [he]; exact hu) kd (k : Int) (by omega) (by omega)
    rw [he] at hr
    simp only [execOp, st.eval hx, st.eval hi, Option.map_some, Option.map_none, Sem.run_bind, run_sliceAt_slice (P := P) w' t _ _ _ _ (by rw [he]; exact hu), hr, run_sizeOf hs, Result.andThen_ok, Sem.run_pure, sfx, Int.toNat_natCast]) h

include Tb in
theorem r_slcH {x hi : Operand} {t e sz : Nat} {iv : Int} {kd : IntKind} (j k : Nat) (ho : nth ops i = some ⟨some d, .slice t x none (some hi) none, ty, pos, af, g⟩) (hw : wantE ops E g = some true) (hdn : Nat.blt d n = true)
    (hx : ev E x = some v) (hi : ev E hi = some (.int kd iv)) (ht : Tb.slc t = some (e, sz)) (hj : L[j]? = some (.row l Ty v xs)) (hk : iv = (k : Int)) (hle : k ≤ xs.length)
    (h : T n C K L ((d, pfx v k sz) :: E) (wpR P ex ops Q r)) : T n C K L E (wpR P ex ops Q (.step i .pur r)) :=
  rt_pur ho hw rfl hdn (fun a w st w' => by
    obtain ⟨A, c, hv, hle', _⟩ := (show (Chunk.row l Ty v xs).holds (hp w) from st.own _ (List.mem_of_getElem? hj)).fl
    obtain ⟨hu, hs⟩ := Tb.slcOk t e sz ht
    subst hk
    have he := elem_eq hu
    have hr := run_slice_h (P := P) w' t A xs.length c (by rw [he]; exact hu) kd (k : Int) (by omega) (by omega)
    rw [he] at hr
    rw [hv] at hx
    rw [hv]
    simp only [execOp, st.eval hx, st.eval hi, Option.map_some, Option.map_none, Sem.run_bind, run_sliceAt_slice (P := P) w' t _ _ _ _ (by rw [he]; exact hu), hr, run_sizeOf hs, Result.andThen_ok, Sem.run_pure, pfx, Int.toNat_natCast]) h

theorem r_min {x y : Operand} {ts : Array TypeId} {u v : Nat} (ho : nth ops i = some ⟨some d, .call ⟨.builtin .min, #[x, y], ts⟩, ty, pos, af, g⟩) (hw : wantE ops E g = some true) (hdn : Nat.blt d n = true)
    (hx : ev E x = some (.int .i64 (u : Int))) (hy : ev E y = some (.int .i64 (v : Int)))
    (h : T n C K L ((d, .int .i64 ((min u v : Nat) : Int)) :: E) (wpR P ex ops Q r)) : T n C K L E (wpR P ex ops Q (.step i .pur r)) :=
  rt_pur ho hw rfl hdn (fun a w st w' => by
    simp [execOp, resolve, st.eval hx, st.eval hy, invoke, Go.builtin, run_min_int2]
    split <;> omega) h
/-- What a row's value looks like. -/
theorem s_slc (j : Nat) (hj : L[j]? = some (.row l Ty v xs)) (h : ∀ A c, v = .slice A xs.length c → T n C K L E Φ) : T n C K L E Φ := fun a w st => by
  obtain ⟨A, c, hv, _⟩ := (show (Chunk.row l Ty v xs).holds (hp w) from st.own _ (List.mem_of_getElem? hj)).fl
  exact h A c hv a w st
theorem onesV {v : Value} (h : v.oneCell' = true) : ∀ y ∈ [v], Ones n C K L (layV.f y) := fun y hy => by
  obtain rfl : y = v := by simpa using hy
  exact ⟨fun _ _ _ _ => h, trivial⟩

/-- The row ahead of k. -/
theorem s_pfx (j k : Nat) (hj : TakeAt L j (.row l Ty v xs) L') (hle : k ≤ xs.length) (hpx : pfx v k l.sz = v') (h : T n C K (.row l Ty v' (xs.take k) :: L') E Φ) : T n C K L E Φ := fun a w st => by
  obtain ⟨h1, h2⟩ := hj.eq
  have hpL := perm_at h1
  rw [h2] at hpL
  subst hpx
  have hrow : rowH (hp w) l Ty v xs := st.own _ (List.mem_of_getElem? h1)
  have key : ∀ K' : Know, rowH K' l Ty v xs → rowH K' l Ty (pfx v k l.sz) (xs.take k) ∧ footV (pfx v k l.sz) = footV v := by
    intro K' hr
    rcases hr with ⟨rfl, rfl⟩ | ⟨b, c, junk, rfl, e1, e2, e3⟩
    · refine ⟨.inl ⟨?_, by simp⟩, rfl⟩
      simp at hle; subst hle; rfl
    · have hv : pfx (.slice (some ⟨b, 0, none⟩) xs.length c) k l.sz = .slice (some ⟨b, 0, none⟩) k c := by
        simp [pfx, sliced, Addr.add]
      rw [hv]
      refine ⟨.inr ⟨b, c, l.cells (xs.drop k) ++ junk, by simp [Nat.min_eq_left hle], ?_, ?_, e3⟩, rfl⟩
      · rw [← List.append_assoc, ← Lay.cells_append, List.take_append_drop]; exact e1
      · rw [List.length_append, l.cells_length, List.length_take, List.length_drop, Nat.min_eq_left hle, ← Nat.add_assoc, ← Nat.add_mul, Nat.add_sub_cancel' hle]; exact e2
  have hf := (key (hp w) hrow).2
  refine h a w (st.reshape (fun K' hh c hc => ?_) (.inr ?_))
  · rcases List.mem_cons.1 hc with rfl | hc
    · exact (key K' (hh _ (List.mem_of_getElem? h1))).1
    · exact hh c (hpL.symm.subset (List.mem_cons_of_mem _ hc))
  · have := (foot_perm hpL).symm
    simp only [List.flatMap_cons, Chunk.foot] at this ⊢
    rw [hf]
    exact this
end
end Go.Y
