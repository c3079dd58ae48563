/-
  The calculus 'Y': pairs of whole numbers told as ints, or as nats; arrays of two whole numbers.
-/
import Derived.Test.YtmdophgpgojbfaaYK
namespace Go.Y
set_option linter.unusedVariables false
set_option linter.unusedSimpArgs false

theorem fl_cells {α β : Type} {K : Know} {l : Lay α} {m : Lay β} {v : Value} {xs : List α} {ys : List β} (h : Fl K l v xs) (hl : ys.length = xs.length) (hs : m.sz = l.sz) (hc : m.cells ys = l.cells xs) : Fl K m v ys := by
  obtain ⟨A, c, e, h1, h2, h3⟩ := h
  refine ⟨A, c, by rw [hl]; exact e, by omega, by omega, fun hne => ?_⟩
  obtain ⟨b, o, arr, T, fr, ea, hb, hcell⟩ := h3 (fun e => hne (by subst e; exact List.eq_nil_of_length_eq_zero hl))
  exact ⟨b, o, arr, T, fr, ea, hb, fun k hk => by rw [hc]; exact hcell k (by rw [← hl, ← hs]; exact hk)⟩
def natE (e : Int × Int) : Nat × Nat := (e.1.toNat, e.2.toNat)
def intE (e : Nat × Nat) : Int × Int := ((e.1 : Int), (e.2 : Int))
theorem fl_nn {K : Know} {v : Value} {es : List (Int × Int)} (h : Fl K layII v es) (h0 : ∀ e ∈ es, 0 ≤ e.1 ∧ 0 ≤ e.2) : Fl K layNN v (es.map natE) := by
  refine fl_cells h (by simp) rfl ?_
  clear h
  induction es with
  | nil => rfl
  | cons e r ih =>
    have h1 := h0 e (by simp)
    have e1 : layNN.cells ((e :: r).map natE) = layNN.f (natE e) ++ layNN.cells (r.map natE) := by simp [Lay.cells]
    have e2 : layII.cells (e :: r) = layII.f e ++ layII.cells r := by simp [Lay.cells]
    rw [e1, e2, ih fun x hx => h0 x (by simp [hx])]
    congr 1
    simp only [layNN, layII, natE]
    rw [Int.toNat_of_nonneg h1.1, Int.toNat_of_nonneg h1.2]
theorem fl_ii {K : Know} {v : Value} {es : List (Nat × Nat)} (h : Fl K layNN v es) : Fl K layII v (es.map intE) := by
  refine fl_cells h (by simp) rfl ?_
  clear h
  induction es with
  | nil => rfl
  | cons e r ih =>
    have e1 : layII.cells ((e :: r).map intE) = layII.f (intE e) ++ layII.cells (r.map intE) := by simp [Lay.cells]
    have e2 : layNN.cells (e :: r) = layNN.f e ++ layNN.cells r := by simp [Lay.cells]
    rw [e1, e2, ih]; rfl

theorem fl_n2i {K : Know} {v : Value} {xs : List Nat} (h : Fl K layN v xs) : Fl K layI v (xs.map fun (x : Nat) => (x : Int)) := by
  refine fl_cells h (by simp) rfl ?_
  clear h
  induction xs with
  | nil => rfl
  | cons e r ih =>
    have e1 : layI.cells ((e :: r).map fun (x : Nat) => (x : Int)) = layI.f (e : Int) ++ layI.cells (r.map fun (x : Nat) => (x : Int)) := by simp [Lay.cells]
    have e2 : layN.cells (e :: r) = layN.f e ++ layN.cells r := by simp [Lay.cells]
    rw [e1, e2, ih]; rfl

section
variable {P : Program} {n : Nat} {C : Ctx} {K : Know} {L L' : List Chunk} {E : Env} {ex : Option Value} {ops : List Oper} {Q Φ : Act → World → Prop}
variable {i d ty : Nat} {pos : String} {af : Array Edge} {g : Option (Nat × Bool)} {r : Ord} {s : Bool} (Tb : Tab P)
/-- A nil slice is a row of none. -/
theorem s_rowNil {α : Type} (l : Lay α) (Ty : TypeId) (h : T n C K (.row l Ty (.slice none 0 0) [] :: L) E Φ) : T n C K L E Φ := fun a w st =>
  h a w { st with
    own := fun c hc => by
      rcases List.mem_cons.1 hc with rfl | hc
      · exact .inl ⟨rfl, rfl⟩
      · exact st.own c hc
    nodup := st.nodup
    apart := st.apart
    fresh := st.fresh }
/-- A type of arrays of two whole numbers. -/
structure Arr2 (P : Program) (t e : TypeId) : Prop where
  un : P.underlying t = some (.array 2 e)
  sz : (P.info? e).map (·.size) = some 1
  ag : ∃ d, P.underlying e = some d ∧ (match d with | .struct _ | .array _ _ => False | _ => True)

theorem r_buildA2 {t e : TypeId} {x y : Operand} {kx ky : IntKind} {a b : Int} {zs : List Value} (hA : Arr2 P t e) (hz : Tb.zero t = some zs) (hzl : zs.length = 2) (ho : nth ops i = some ⟨some d, .build t #[(0, x), (1, y)], ty, pos, af, g⟩) (hw : wantE ops E g = some true) (hdn : Nat.blt d n = true)
    (hx : ev E x = some (.int kx a)) (hy : ev E y = some (.int ky b))
    (h : T n C K L ((d, .agg #[.int kx a, .int ky b]) :: E) (wpR P ex ops Q r)) : T n C K L E (wpR P ex ops Q (.step i .pur r)) :=
  rt_pur ho hw rfl hdn (fun ac w st w' => by
    obtain ⟨z, hzr, hzc⟩ := run_zeroValue Tb hz w'
    have h2 : zs.toArray.size = 2 := by simpa using hzl
    obtain ⟨z0, z1, rfl⟩ : ∃ z0 z1, zs = [z0, z1] := by
      match zs, hzl with
      | [z0, z1], _ => exact ⟨z0, z1, rfl⟩
    have hfill : Instr.fill (fun i => some (i * 1, 1)) #[z0, z1] [(0, .int kx a), (1, .int ky b)] = some #[.int kx a, .int ky b] := by simp [Instr.fill, Value.cells]
    have hrun : (Instr.build t #[(0, .int kx a), (1, .int ky b)]).run P w' = .ok (.agg #[.int kx a, .int ky b]) w' := by
      unfold Instr.build
      simp only [Sem.run_bind, hzr, Result.andThen_ok, run_underlying hA.un, run_sizeOf hA.sz, hzc, Sem.run_pure, hfill]
    simp [execOp, st.eval hx, st.eval hy, hrun]) h

theorem r_indexA2 {t e : TypeId} {x ix : Operand} {kx kd : IntKind} {a b iv : Int} (k : Nat) (hA : Arr2 P t e) (ho : nth ops i = some ⟨some d, .index t x ix, ty, pos, af, g⟩) (hw : wantE ops E g = some true) (hdn : Nat.blt d n = true)
    (hx : ev E x = some (.agg #[.int kx a, .int kx b])) (hi : ev E ix = some (.int kd iv)) (hk : iv = (k : Int)) (hk2 : k < 2)
    (h : T n C K L ((d, .int kx (if k = 0 then a else b)) :: E) (wpR P ex ops Q r)) : T n C K L E (wpR P ex ops Q (.step i .pur r)) :=
  rt_pur ho hw rfl hdn (fun ac w st w' => by
    subst hk
    obtain ⟨dd, hu, hd⟩ := hA.ag
    have hagg : (isAgg e).run P w' = .ok false w' := by
      unfold isAgg
      simp only [Sem.run_bind, run_underlying hu, Result.andThen_ok]
      split <;> simp_all
    have hlt : (k : Int) < 2 := by omega
    have hk' : k = 0 ∨ k = 1 := by omega
    rcases hk' with rfl | rfl <;> simp [execOp, Instr.index, asIntOf, run_underlying hA.un, run_sizeOf hA.sz, st.eval hx, st.eval hi, part, hagg]) h

theorem r_build2NN {t e : Nat} {zs : List Value} {x y : Operand} {a b a' b' : Nat} (ho : nth ops i = some ⟨some d, .buildSlice t 2 #[(0, x), (1, y)], ty, pos, af, g⟩) (hw : wantE ops E g = some true) (hdn : Nat.blt d n = true)
    (hx : ev E x = some (.agg #[.int .i64 (a : Int), .int .i64 (b : Int)])) (hy : ev E y = some (.agg #[.int .i64 (a' : Int), .int .i64 (b' : Int)])) (ht : Tb.slc t = some (e, 2)) (hz : Tb.zero e = some zs) (hzl : zs.length = 2)
    (h : ∀ u, T n C K (.row layNN e u [(a, b), (a', b')] :: L) ((d, u) :: E) (wpR P ex ops Q r)) : T n C K L E (wpR P ex ops Q (.step i (.evt s) r)) :=
  r_buildSlice (vs := [(0, .agg #[.int .i64 (a : Int), .int .i64 (b : Int)]), (1, .agg #[.int .i64 (a' : Int), .int .i64 (b' : Int)])]) Tb layNN [(a, b), (a', b')] ho hw hdn ht hz (by simp [hx, hy]) (by omega) (by
    match zs, hzl with
    | [z0, z1], _ =>
      have hr : (Array.range (2 * 2)).map (fun k => [z0, z1].toArray[k % [z0, z1].length]!) = #[z0, z1, z0, z1] := by
        simp [Array.range, Array.ofFn_succ]
      rw [hr]
      simp [Instr.fill, Value.cells, Lay.cells, layNN]) rfl rfl fun u _ => h u
end
end Go.Y
