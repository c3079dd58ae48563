/-
  The calculus 'Y': the rules of operations that make, store and append; of knowledge that grows.
-/
import Derived.Test.YtmdophgpgojbfaaYD
namespace Go.Y
set_option linter.unusedVariables false
set_option linter.unusedSimpArgs false

section
variable {P : Program} {n : Nat} {C : Ctx} {K : Know} {L : List Chunk} {E : Env} {ex : Option Value} {ops : List Oper} {Q Φ : Act → World → Prop}
variable {i d ty : Nat} {pos : String} {af : Array Edge} {g : Option (Nat × Bool)} {r : Ord} {s : Bool} (Tb : Tab P)

theorem stab_alloc (w : World) (o : Obj) : Stab ex w (w.alloc o) := fun b o' _ h => by
  rw [heap_alloc_old w o (Array.getElem?_eq_some_iff.1 h).1]; exact h
theorem hp_alloc (w : World) (o : Obj) : hp (w.alloc o) w.heap.size o := heap_alloc_new w o

/-! ### what is made -/
theorem opG_value {o : Oper} {a : Act} {w w' : World} {v : Value} {N : Value → World → Prop} (h : (execOp a.eval o).run P w = .ok (.value v) w') (hn : N v w') : opG P o a w N := by
  unfold opG; rw [h]; exact hn
theorem opG_skip {o : Oper} {a : Act} {w w' : World} {N : Value → World → Prop} (h : (execOp a.eval o).run P w = .ok .skip w') (hn : N undef w') : opG P o a w N := by
  unfold opG; rw [h]; exact hn

theorem alloc_rw (w : World) (o : Obj) : ({ w with heap := w.heap.push o } : World) = w.alloc o := rfl

theorem r_box1 {x : Operand} {e : Nat} {v : Value} (ho : nth ops i = some ⟨some d, .box e x, ty, pos, af, g⟩) (hw : wantE ops E g = some true) (hdn : Nat.blt d n = true)
    (hx : ev E x = some v) (hv : v.cells = #[v])
    (h : ∀ b, T n C K (.blk b [v] e :: L) ((d, .pointer (some ⟨b, 0, none⟩)) :: E) (wpR P ex ops Q r)) : T n C K L E (wpR P ex ops Q (.step i (.evt s) r)) :=
  rt_evt ho hw (fun a w st => opG_value (v := .pointer (some ⟨w.heap.size, 0, none⟩)) (w' := w.alloc (.cells #[v] e)) (by
      simp [execOp, st.eval hx, Instr.box, newVar, newRow, hv])
    ⟨fun _ => stab_alloc _ _, h _ _ _ ((st.push (.cells #[v] e) (.blk w.heap.size [v] e) (hp_alloc _ _) rfl).put _ (Nat.le_of_ble_eq_true hdn))⟩)

theorem r_boxA {x : Operand} {e : Nat} {vs : List Value} (ho : nth ops i = some ⟨some d, .box e x, ty, pos, af, g⟩) (hw : wantE ops E g = some true) (hdn : Nat.blt d n = true)
    (hx : ev E x = some (.agg vs.toArray))
    (h : ∀ b, T n C K (.blk b vs e :: L) ((d, .pointer (some ⟨b, 0, none⟩)) :: E) (wpR P ex ops Q r)) : T n C K L E (wpR P ex ops Q (.step i (.evt s) r)) :=
  rt_evt ho hw (fun a w st => opG_value (v := .pointer (some ⟨w.heap.size, 0, none⟩)) (w' := w.alloc (.cells vs.toArray e)) (by
      simp [execOp, st.eval hx, Instr.box, newVar, newRow, Value.cells])
    ⟨fun _ => stab_alloc _ _, h _ _ _ ((st.push (.cells vs.toArray e) (.blk w.heap.size vs e) (hp_alloc _ _) rfl).put _ (Nat.le_of_ble_eq_true hdn))⟩)

theorem run_zeroValue {e : Nat} {zs : List Value} (hz : Tb.zero e = some zs) (w : World) : ∃ z, (zeroValue e).run P w = .ok z w ∧ z.cells = zs.toArray := by
  obtain ⟨inf, z, hi, hz', hc, _⟩ := Tb.zeroOk e zs hz
  exact ⟨z, by simp [zeroValue, typeInfo, hi, hz'], hc⟩

theorem r_alloc {e : Nat} {zs : List Value} (ho : nth ops i = some ⟨some d, .alloc e, ty, pos, af, g⟩) (hw : wantE ops E g = some true) (hdn : Nat.blt d n = true) (hz : Tb.zero e = some zs)
    (h : ∀ b, T n C K (.blk b zs e :: L) ((d, .pointer (some ⟨b, 0, none⟩)) :: E) (wpR P ex ops Q r)) : T n C K L E (wpR P ex ops Q (.step i (.evt s) r)) :=
  rt_evt ho hw (fun a w st => opG_value (v := .pointer (some ⟨w.heap.size, 0, none⟩)) (w' := w.alloc (.cells zs.toArray e)) (by
      obtain ⟨z, hr, hc⟩ := run_zeroValue Tb hz w
      simp [execOp, Instr.alloc, hr, newVar, newRow, hc])
    ⟨fun _ => stab_alloc _ _, h _ _ _ ((st.push (.cells zs.toArray e) (.blk w.heap.size zs e) (hp_alloc _ _) rfl).put _ (Nat.le_of_ble_eq_true hdn))⟩)

theorem madeCells_cells {α : Type} (l : Lay α) (x : α) (m : Nat) : (madeCells (l.f x).toArray (m * l.sz)).toList = l.cells (List.replicate m x) := by
  apply List.ext_getElem?
  intro k
  by_cases hk : k < m * l.sz
  · have hd := Nat.div_add_mod k l.sz
    have hm := Nat.mod_lt k l.pos
    have hq : k / l.sz < m := Nat.div_lt_of_lt_mul (by rw [Nat.mul_comm]; exact hk)
    have e : k = (k / l.sz) * l.sz + k % l.sz := by rw [Nat.mul_comm]; exact hd.symm
    have h2 : (l.cells (List.replicate m x))[k]? = (l.f x)[k % l.sz]? := by
      conv => lhs; rw [e]
      rw [l.cells_get _ _ _ (by simpa using hq) hm]
      simp
    rw [h2]
    have hlen := l.len x
    simp only [madeCells, Array.toList_map, Array.toList_range, List.getElem?_map, List.getElem?_range hk, Option.map_some, List.size_toArray, hlen]
    rw [List.getElem?_eq_getElem (show k % l.sz < (l.f x).length by rw [hlen]; exact hm)]
    congr 1
    have hsz : k % l.sz < (l.f x).toArray.size := by simp [hlen, hm]
    rw [getElem!_pos (l.f x).toArray (k % l.sz) hsz]
    simp
  · rw [List.getElem?_eq_none (by simp [madeCells]; omega), List.getElem?_eq_none (by rw [l.cells_length]; simp; omega)]

theorem r_make {α : Type} (l : Lay α) (x0 : α) {t e sz by_ : Nat} {zs : List Value} {x y : Operand} {iv : Int} (m : Nat) (ho : nth ops i = some ⟨some d, .makeSlice t x y, ty, pos, af, g⟩) (hw : wantE ops E g = some true) (hdn : Nat.blt d n = true)
    (hx : ev E x = some (.int .i64 iv)) (hy : ev E y = some (.int .i64 iv)) (ht : Tb.slc t = some (e, sz)) (hz : Tb.zero e = some zs) (hb : Tb.bytes e = some by_) (hl : l.f x0 = zs) (hm : iv = (m : Int)) (hbd : by_ * m ≤ 281474976710656) (hm2 : m ≤ 9223372036854775807)
    (h : ∀ u, T n C K (.row l e u (List.replicate m x0) :: L) ((d, u) :: E) (wpR P ex ops Q r)) : T n C K L E (wpR P ex ops Q (.step i (.evt s) r)) :=
  rt_evt ho hw (fun a w st => by
    obtain ⟨hu, hsz⟩ := Tb.slcOk t e sz ht
    obtain ⟨inf, z, hi, hz', hc, hcs⟩ := Tb.zeroOk e zs hz
    have hbb := Tb.bytesOk e by_ hb
    rw [hi] at hsz hbb
    simp at hsz hbb
    subst hm; subst hl
    have h63 : (m : Int) ≤ 9223372036854775807 := by omega
    have hbd' : (inf.bytes : Int) * (m : Int) ≤ 281474976710656 := by
      have : ((inf.bytes * m : Nat) : Int) ≤ 281474976710656 := by rw [hbb]; omega
      rwa [Int.natCast_mul] at this
    have hr := run_make (P := P) w t e inf z hu hi hz' .i64 .i64 m m (by omega) (Int.le_refl _) hbd' h63
    simp only [Int.toNat_natCast] at hr
    have e1 : inf.size = l.sz := by rw [hcs, l.len]
    refine opG_value (v := .slice (some ⟨w.heap.size, 0, none⟩) m m) (w' := w.alloc (.cells (madeCells z.cells (m * inf.size)) e)) (by
      simp [execOp, st.eval hx, st.eval hy, hr]) ⟨fun _ => stab_alloc _ _, h _ _ _ ((st.push _ (.row l e (.slice (some ⟨w.heap.size, 0, none⟩) m m) (List.replicate m x0)) ?_ rfl).put _ (Nat.le_of_ble_eq_true hdn))⟩
    refine .inr ⟨w.heap.size, m, [], by simp, ?_, by simp, by omega⟩
    rw [hc, e1]
    have e2 : (l.cells (List.replicate m x0) ++ []).toArray = madeCells (l.f x0).toArray (m * l.sz) := by
      rw [List.append_nil, ← madeCells_cells]
    rw [e2]
    exact hp_alloc _ _)

theorem r_buildSlice {α : Type} (l : Lay α) (xs : List α) {t e sz len : Nat} {parts : Array (Nat × Operand)} {vs : List (Nat × Value)} {zs : List Value} (ho : nth ops i = some ⟨some d, .buildSlice t len parts, ty, pos, af, g⟩) (hw : wantE ops E g = some true) (hdn : Nat.blt d n = true)
    (ht : Tb.slc t = some (e, sz)) (hz : Tb.zero e = some zs) (hp : parts.toList.mapM (fun p => (ev E p.2).map (p.1, ·)) = some vs) (hsm : len * sz ≤ 1000)
    (hfill : Instr.fill (fun i => some (i * sz, sz)) ((Array.range (len * sz)).map (fun k => zs.toArray[k % zs.length]!)) vs = some (l.cells xs).toArray) (hlen : xs.length = len)
    (hsz : l.sz = sz)
    (h : ∀ u, (∃ b, u = .slice (some ⟨b, 0, none⟩) len len) → T n C K (.row l e u xs :: L) ((d, u) :: E) (wpR P ex ops Q r)) : T n C K L E (wpR P ex ops Q (.step i (.evt s) r)) :=
  rt_evt ho hw (fun a w st => by
    obtain ⟨hu, hs⟩ := Tb.slcOk t e sz ht
    obtain ⟨z, hr, hc⟩ := run_zeroValue Tb hz w
    have key : ∀ (ps : List (Nat × Operand)) (us : List (Nat × Value)), ps.mapM (fun p => (ev E p.2).map (p.1, ·)) = some us → ps.map (fun p => (p.1, a.eval p.2)) = us := by
      intro ps
      induction ps with
      | nil => intro us e; simp at e; simp [e]
      | cons p r ih =>
        intro us e
        simp only [List.mapM_cons] at e
        cases hx : ev E p.2 with
        | none => simp [hx] at e
        | some v =>
          cases hr : r.mapM (fun p => (ev E p.2).map (p.1, ·)) with
          | none => simp [hx, hr] at e
          | some zs =>
            simp [hx, hr] at e
            subst e
            simp [st.eval hx, ih _ hr]
    have hparts : (parts.map fun (i, x) => (i, a.eval x)).toList = vs := by
      rw [Array.toList_map]; exact key _ _ hp
    have hnot : ¬ (16777216 < len * sz) := by omega
    have hrun : (Instr.buildSlice t len (parts.map fun (i, x) => (i, a.eval x))).run P w = .ok (.slice (some ⟨w.heap.size, 0, none⟩) len len) (w.alloc (.cells (l.cells xs).toArray e)) := by
      unfold Instr.buildSlice
      simp only [Sem.run_bind, run_underlying hu, Result.andThen_ok, run_sizeOf hs]
      have e16 : (2 : Nat) ^ 24 = 16777216 := rfl
      simp only [e16, if_neg hnot, hparts]
      by_cases h0 : len * sz = 0
      · have e3 : ∀ f : Nat → Value, (Array.range (len * sz)).map f = (Array.range (len * sz)).map (fun k => zs.toArray[k % zs.length]!) := by
          rw [h0]; intro f; simp
        rw [if_pos h0]
        simp only [Sem.run_bind, Sem.run_pure, Result.andThen_ok, e3, hfill]
        simp [newRow]
      · rw [if_neg h0]
        have e2 : (fun x => z.cells[x % z.cells.size]!) = fun k => zs.toArray[k % zs.length]! := by rw [hc]; rfl
        simp only [Sem.run_bind, Sem.run_pure, hr, Result.andThen_ok, e2, hfill]
        simp [newRow]
    refine opG_value (v := .slice (some ⟨w.heap.size, 0, none⟩) len len) (w' := w.alloc (.cells (l.cells xs).toArray e)) (by
      simp only [execOp, Sem.run_bind, hrun]; simp) ⟨fun _ => stab_alloc _ _, h _ ⟨_, rfl⟩ _ _ ((st.push _ (.row l e _ xs) ?_ rfl).put _ (Nat.le_of_ble_eq_true hdn))⟩
    refine .inr ⟨w.heap.size, len, [], by rw [hlen], by simpa using hp_alloc w _, by rw [hlen]; simp, by have := Nat.le_mul_of_pos_right len l.pos; rw [hsz] at this; omega⟩)

/-! ### stores -/
theorem one_of_len {u : Value} {A : Option Addr} {m c : Nat} (h : u = .slice A m c) : u.oneCell' = true := by subst h; rfl

/-- A value is one cell's, in every state. -/
def One (n : Nat) (C : Ctx) (K : Know) (L : List Chunk) (v : Value) : Prop := ∀ E a w, St n C K L E a w → v.oneCell' = true
theorem one_rfl {v : Value} (h : v.oneCell' = true) : One n C K L v := fun _ _ _ _ => h
theorem one_len {u : Value} {m : Nat} (h : Len n C K L u m) : One n C K L u := fun E a w st => by
  obtain ⟨A, c, e, _⟩ := h E a w st
  exact one_of_len e

theorem cells_of_one {v : Value} (h : v.oneCell' = true) : v.cells = #[v] := by cases v <;> simp_all [Value.oneCell', Value.cells]

theorem set_eq_take (cs : List Value) (off : Nat) (v : Value) (h : off < cs.length) : cs.take off ++ [v] ++ cs.drop (off + 1) = cs.set off v := by
  rw [List.set_eq_take_append_cons_drop, if_pos h]; simp

theorem r_store {x y : Operand} {t b off : Nat} {v : Value} {cs : List Value} {Ty : TypeId} (j : Nat) (ho : nth ops i = some ⟨none, .store t x y, ty, pos, af, g⟩) (hw : wantE ops E g = some true)
    (hx : ev E x = some (.pointer (some ⟨b, off, none⟩))) (hy : ev E y = some v) (h1 : Tb.one t = true) (hv : One n C K L v) (hj : L[j]? = some (.blk b cs Ty)) (hoff : Nat.blt off cs.length = true)
    (h : T n C K (L.set j (.blk b (cs.set off v) Ty)) E (wpR P ex ops Q r)) : T n C K L E (wpR P ex ops Q (.step i (.evt false) r)) :=
  rt_evt ho hw (fun a w st => by
    have hone := hv E a w st
    obtain ⟨_, hs⟩ := Tb.oneOk t h1
    have hb : w.heap[b]? = some (.cells cs.toArray Ty (0, 0)) := st.own _ (List.mem_of_getElem? hj)
    have hoff' : off < cs.length := Nat.le_of_ble_eq_true hoff
    have hst := run_storeCells_at P b off Ty [v] 0 cs.toArray w hb (by simp; omega) (by simp [hone])
    simp only [Nat.add_zero, List.toList_toArray, List.length_singleton] at hst
    rw [set_eq_take _ _ _ hoff'] at hst
    refine opG_skip (w' := w.setRow b (cs.set off v).toArray) (by
      simp [execOp, st.eval hx, st.eval hy, Instr.storeAt, Instr.sureAddr, storeVar, cells_of_one hone, run_sizeOf hs, hst]) ⟨(fun e => by cases e), h _ _ ?_⟩
    refine st.swap hj _ (fun b' hb' _ => setRow_other w b b' _ (by intro e; subst e; exact hb' (by simp [Chunk.foot]))) (setRow_heap w b _ _ _ _ hb) (by simp [Chunk.foot]) (fun b' hb' => .inl hb') (by simp) rfl rfl rfl)

/-- A whole struct is stored into its own block. -/
theorem r_storeA {x y : Operand} {t b m : Nat} {vs cs : List Value} {Ty : TypeId} (j : Nat) (ho : nth ops i = some ⟨none, .store t x y, ty, pos, af, g⟩) (hw : wantE ops E g = some true)
    (hx : ev E x = some (.pointer (some ⟨b, 0, none⟩))) (hy : ev E y = some (.agg vs.toArray)) (h1 : Tb.agg t = some m) (hm : vs.length = m) (hv : ∀ v ∈ vs, One n C K L v) (hj : L[j]? = some (.blk b cs Ty)) (hl : cs.length = m)
    (h : T n C K (L.set j (.blk b vs Ty)) E (wpR P ex ops Q r)) : T n C K L E (wpR P ex ops Q (.step i (.evt false) r)) :=
  rt_evt ho hw (fun a w st => by
    obtain ⟨_, hs⟩ := Tb.aggOk t m h1
    have hb : w.heap[b]? = some (.cells cs.toArray Ty (0, 0)) := st.own _ (List.mem_of_getElem? hj)
    have hst := run_storeCells_at P b 0 Ty vs 0 cs.toArray w hb (by simp; omega) (fun v hvs => hv v hvs E a w st)
    have e : vs ++ List.drop vs.length cs = vs := by rw [List.drop_of_length_le (by omega)]; simp
    simp [e] at hst
    refine opG_skip (w' := w.setRow b vs.toArray) (by
      simp [execOp, st.eval hx, st.eval hy, Instr.storeAt, Instr.sureAddr, storeVar, Value.cells, run_sizeOf hs, hst, hm]) ⟨(fun e => by cases e), h _ _ ?_⟩
    refine st.swap hj _ (fun b' hb' _ => setRow_other w b b' _ (by intro e; subst e; exact hb' (by simp [Chunk.foot]))) (setRow_heap w b _ _ _ _ hb) (by simp [Chunk.foot]) (fun b' hb' => .inl hb') (by simp) rfl rfl rfl)

def CellsAre (n : Nat) (C : Ctx) (K : Know) (L : List Chunk) (v : Value) (cs : List Value) : Prop := ∀ E a w, St n C K L E a w → v.cells = cs.toArray
theorem cellsA {cs : List Value} : CellsAre n C K L (.agg cs.toArray) cs := fun _ _ _ _ => rfl
theorem cells1 {v : Value} (h : One n C K L v) : CellsAre n C K L v [v] := fun E a w st => cells_of_one (h E a w st)

theorem Lay.cells_set {α : Type} (l : Lay α) : ∀ (xs : List α) (k : Nat) (x' : α), k < xs.length → (l.cells xs).take (k * l.sz) ++ l.f x' ++ (l.cells xs).drop (k * l.sz + l.sz) = l.cells (xs.set k x')
  | x :: xs, 0, x', _ => by
    have e : l.cells (x :: xs) = l.f x ++ l.cells xs := by simp [Lay.cells]
    rw [e]
    simp only [Nat.zero_mul, List.take_zero, List.nil_append, Nat.zero_add, List.set_cons_zero]
    rw [List.drop_left' (l.len x)]
    simp [Lay.cells]
  | x :: xs, k + 1, x', h => by
    have e : ∀ y ys, l.cells (y :: ys) = l.f y ++ l.cells ys := fun y ys => by simp [Lay.cells]
    have ih := Lay.cells_set l xs k x' (by simpa using h)
    have e1 : (k + 1) * l.sz = (l.f x).length + k * l.sz := by rw [l.len, Nat.succ_mul]; omega
    simp only [List.set_cons_succ, e]
    rw [← ih, e1, Nat.add_assoc, List.take_length_add_append, List.drop_length_add_append]
    simp [List.append_assoc]

/-- An element of an owned row is stored. -/
theorem r_storeRow {α : Type} {l : Lay α} {x y : Operand} {t m : Nat} {v u : Value} {xs : List α} {Ty : TypeId} {k : Nat} (x' : α) (j : Nat) (ho : nth ops i = some ⟨none, .store t x y, ty, pos, af, g⟩) (hw : wantE ops E g = some true)
    (hx : ev E x = some (.pointer (some (sAddr u (k * l.sz))))) (hy : ev E y = some v) (hs : (P.info? t).map (·.size) = some l.sz) (hvc : CellsAre n C K L v (l.f x')) (hv1 : ∀ c ∈ l.f x', One n C K L c) (hj : L[j]? = some (.row l Ty u xs)) (hk : k < xs.length)
    (h : T n C K (L.set j (.row l Ty u (xs.set k x'))) E (wpR P ex ops Q r)) : T n C K L E (wpR P ex ops Q (.step i (.evt false) r)) :=
  rt_evt ho hw (fun a w st => by
    have h0 : (Chunk.row l Ty u xs).holds (hp w) := st.own _ (List.mem_of_getElem? hj)
    rcases h0 with ⟨_, rfl⟩ | ⟨b, c, junk, rfl, hb, hlen, hc⟩
    · simp at hk
    have hb' : w.heap[b]? = some (.cells (l.cells xs ++ junk).toArray Ty (0, 0)) := hb
    have hv := hvc E a w st
    have hkl : k * l.sz + l.sz ≤ xs.length * l.sz := by
      have := Nat.mul_le_mul_right l.sz (show k + 1 ≤ xs.length from hk)
      rwa [Nat.succ_mul] at this
    have hcl := l.cells_length xs
    have hst := run_storeCells_at P b (k * l.sz) Ty (l.f x') 0 _ w hb' (by simp [l.len, hcl]; omega) (fun v hv => hv1 v hv E a w st)
    simp only [Nat.add_zero, List.toList_toArray, l.len] at hst
    rw [List.take_append_of_le_length (by omega), List.drop_append_of_le_length (by omega), ← List.append_assoc, l.cells_set xs k x' hk] at hst
    refine opG_skip (w' := w.setRow b (l.cells (xs.set k x') ++ junk).toArray) (by
      have e3 : sAddr (.slice (some ⟨b, 0, none⟩) xs.length c) (k * l.sz) = ⟨b, k * l.sz, none⟩ := by simp [sAddr]
      simp [execOp, st.eval hx, st.eval hy, Instr.storeAt, Instr.sureAddr, storeVar, hv, run_sizeOf hs, l.len, e3, hst]) ⟨(fun e => by cases e), h _ _ ?_⟩
    refine st.swap hj _ (fun b' hb' _ => setRow_other w b b' _ (by intro e; subst e; exact hb' (by simp [Chunk.foot, footV]))) (.inr ⟨b, c, junk, by simp, setRow_heap w b _ _ _ _ hb', by simpa using hlen, hc⟩)
      (by simp [Chunk.foot, footV]) (fun b' hb' => .inl hb') (by simp) rfl rfl rfl)

/-! ### append -/
theorem row_owns {α : Type} {w : World} {l : Lay α} {Ty : TypeId} {u : Value} {xs : List α} (h : (Chunk.row l Ty u xs).holds (hp w)) : w.ownsRow 0 Ty l.sz u xs.length (l.cells xs) := by
  rcases h with ⟨rfl, rfl⟩ | ⟨b, c, junk, rfl, hb, hlen, hc⟩
  · exact ⟨by simp [Lay.cells], .inl ⟨rfl, rfl⟩⟩
  · have hle : xs.length ≤ c := Nat.le_of_mul_le_mul_right (by omega) l.pos
    refine ⟨l.cells_length xs, .inr ⟨b, c, _, rfl, Nat.zero_le _, hb, hle, by simpa [maxLen] using hc, by simp [l.cells_length, hlen], ?_⟩⟩
    simp only [List.toList_toArray]
    rw [← l.cells_length xs, List.take_left]
theorem owns_row {α : Type} {w : World} {l : Lay α} {Ty : TypeId} {u : Value} {xs : List α} (h : w.ownsRow 0 Ty l.sz u xs.length (l.cells xs)) : (Chunk.row l Ty u xs).holds (hp w) := by
  obtain ⟨_, h⟩ := h
  rcases h with ⟨rfl, h0⟩ | ⟨b, c, cur, rfl, _, hb, hle, hc, hs, ht⟩
  · exact .inl ⟨rfl, List.eq_nil_of_length_eq_zero h0⟩
  · refine .inr ⟨b, c, cur.toList.drop (xs.length * l.sz), rfl, ?_, ?_, by simpa [maxLen] using hc⟩
    · rw [← ht, List.take_append_drop]; exact hb
    · have h1 := Nat.mul_le_mul_right l.sz hle
      have h2 : (cur.toList.drop (xs.length * l.sz)).length = c * l.sz - xs.length * l.sz := by rw [List.length_drop, Array.length_toList, hs]
      rw [h2]
      omega

theorem footV_own (v : Value) : footV v = v.ownBlock.toList := by cases v <;> first | rfl | (rename_i a _ _; cases a <;> rfl)

/-- append(u, ys...), u an owned row, ys a slice that is read: of an owned row, or known. -/
theorem r_append {α : Type} {l : Lay α} {x y : Operand} {t e sz by_ : Nat} {u u2 : Value} {xs ys : List α} {zs : List Value} (j : Nat) (ho : nth ops i = some ⟨some d, .call ⟨.builtin .append, #[x, y], #[t, t]⟩, ty, pos, af, g⟩) (hw : wantE ops E g = some true) (hdn : Nat.blt d n = true)
    (hx : ev E x = some u) (hy : ev E y = some u2) (ht : Tb.slc t = some (e, sz)) (hz : Tb.zero e = some zs) (hb : Tb.bytes e = some by_) (hsz : l.sz = sz)
    (hj : L[j]? = some (.row l e u xs)) (h2 : ∀ E a w, St n C K L E a w → Fl (hp w) l u2 ys) (hone : ∀ y ∈ ys, ∀ c ∈ l.f y, One n C K L c) (hbd : (xs.length + ys.length) * by_ ≤ 140737488355328) (hbd2 : xs.length + ys.length ≤ 140737488355328)
    (hs : s = true → ex = some u)
    (h : ∀ u', T n C K (L.set j (.row l e u' (xs ++ ys))) ((d, u') :: E) (wpR P ex ops Q r)) : T n C K L E (wpR P ex ops Q (.step i (.evt s) r)) :=
  rt_evt ho hw (fun a w st => by
    obtain ⟨hu, hsi⟩ := Tb.slcOk t e sz ht
    obtain ⟨inf, z, hi, hz', hc, hcs⟩ := Tb.zeroOk e zs hz
    have hbb := Tb.bytesOk e by_ hb
    rw [hi] at hsi hbb
    simp at hsi hbb
    have h0 : (Chunk.row l e u xs).holds (hp w) := st.own _ (List.mem_of_getElem? hj)
    obtain ⟨A, c2, rfl, hle2, _, hcell⟩ := h2 E a w st
    have hzs : z.cells.size = l.sz := by rw [hc, hsz, ← hsi, hcs]; simp
    have hcellone : ∀ v ∈ l.cells ys, v.oneCell' = true := fun v hv => by
      obtain ⟨q, hq, hv⟩ := List.mem_flatMap.1 hv
      exact hone q hq v hv E a w st
    have run : ∃ v' w', (Builtin.append_ #[t, t] ty #[u, .slice A ys.length c2]).run P w = .ok v' w' ∧ w'.ownsRow 0 e l.sz v' (xs.length + ys.length) (l.cells xs ++ l.cells ys) ∧ w.grownBy w' u.ownBlock ∧
        (v'.ownBlock = u.ownBlock ∨ v'.ownBlock = some w.heap.size) := by
      by_cases hne : ys = []
      · subst hne
        obtain ⟨c', hu'⟩ : ∃ c', ∃ B, u = .slice B xs.length c' ∧ xs.length ≤ c' := by
          obtain ⟨B, c', e, h1, _⟩ := h0.fl
          exact ⟨c', B, e, h1⟩
        obtain ⟨B, rfl, hle⟩ := hu'
        refine ⟨.slice B xs.length c', w, ?_, by simpa [Lay.cells] using row_owns h0, World.grownBy.refl _ _, .inl rfl⟩
        have hfc : ∀ (w : World), (Builtin.firstCells inf.size 0 (.slice A 0 c2)).run P w = .ok #[] w := fun w => by
          cases A <;> simp [Builtin.firstCells, loadCells, loadCellsFrom]
        have hsc : ∀ (w : World) (ad : Addr), (storeCells ad [] 0).run P w = .ok () w := fun w ad => rfl
        cases B <;> simp [Builtin.append_, run_underlying hu, sizeOf, typeInfo, hi, Builtin.lenOf, hle, hfc, hsc]
      · obtain ⟨b2, o2, arr, T2, fr, rfl, hk2, hget⟩ := hcell hne
        obtain ⟨v', w', hr, how, hg, _, hat⟩ := run_append_own_at (P := P) w 0 t ty e inf z l.sz by_ hu hi hz' (by rw [hsi, hsz]) hbb hzs l.pos u xs.length (l.cells xs) (row_owns h0)
          ⟨b2, o2, none⟩ ys.length c2 (l.cells ys) (l.cells_length ys) (fun k v hv => by
            rw [Addr.add_none]
            have hlt := (List.getElem?_eq_some_iff.1 hv).1
            rw [l.cells_length] at hlt
            exact cel_of hk2 (by rw [hget k hlt]; exact hv)) hcellone (by simp only [maxLen]; omega) hbd (Nat.zero_le _)
        exact ⟨v', w', hr, how, hg, hat⟩
    obtain ⟨v', w', hr, how, hg, hat⟩ := run
    refine opG_value (v := v') (w' := w') (by simp [execOp, resolve, st.eval hx, st.eval hy, invoke, Go.builtin, hr]) ⟨fun hs' => ?_, h v' _ _ (St.put ?_ _ (Nat.le_of_ble_eq_true hdn))⟩
    · intro b o hb ho
      have hlt := (Array.getElem?_eq_some_iff.1 ho).1
      rw [hg.block b hlt (fun e => hb u (hs hs') (by rw [footV_own, ← e]; simp))]
      exact ho
    · refine st.swap hj _ (fun b hb hlt => hg.block b hlt (fun e => hb (by rw [Chunk.foot, footV_own, ← e]; simp))) (owns_row (by rw [List.length_append, l.cells_append]; exact how)) ?_ ?_ hg.size hg.os hg.tape hg.output
      · simp only [Chunk.foot, footV_own]; cases v'.ownBlock <;> simp
      · intro b hb
        simp only [Chunk.foot, footV_own] at hb ⊢
        rcases hat with hat | hat
        · rw [hat] at hb; exact .inl hb
        · rw [hat] at hb
          simp at hb
          exact .inr (by omega))

/-! ### knowledge grows -/
/-- An owned chunk is written no more: it is known. -/
theorem perm_at : ∀ {L : List Chunk} {j : Nat} {c : Chunk}, L[j]? = some c → L.Perm (c :: L.eraseIdx j)
  | [], j, c, h => by simp at h
  | x :: L, 0, c, h => by
    simp at h
    subst h
    exact .refl _
  | x :: L, j + 1, c, h => ((perm_at (by simpa using h : L[j]? = some c)).cons x).trans (.swap c x _)

theorem rt_freeze (j : Nat) {c : Chunk} (hj : L[j]? = some c) (h : ∀ K', K.Le K' → c.holds K' → T n C K' (L.eraseIdx j) E Φ) : T n C K L E Φ := fun a w st => by
  have hmem : c ∈ L := List.mem_of_getElem? hj
  have hperm : L.Perm (c :: L.eraseIdx j) := perm_at hj
  have hfp : (L.flatMap Chunk.foot).Perm (c.foot ++ (L.eraseIdx j).flatMap Chunk.foot) := by
    have := hperm.flatMap_right Chunk.foot
    simpa using this
  have hnd := hfp.nodup_iff.1 st.nodup
  obtain ⟨_, hn2, hd⟩ := List.nodup_append.1 hnd
  have hsub : ∀ b ∈ (L.eraseIdx j).flatMap Chunk.foot, b ∈ L.flatMap Chunk.foot := fun b hb => hfp.symm.subset (List.mem_append_right _ hb)
  let K' : Know := fun b o => K b o ∨ (b ∈ c.foot ∧ w.heap[b]? = some o)
  refine h K' (fun b o hk => .inl hk) ((st.own c hmem).local fun b hb o ho => .inr ⟨hb, ho⟩) a w { st with
    know := fun b o hk => by
      rcases hk with hk | ⟨_, hk⟩
      · exact st.know b o hk
      · exact hk
    own := fun c' hc' => st.own c' (List.mem_of_mem_eraseIdx hc')
    nodup := hn2
    apart := fun b hb o hk => by
      rcases hk with hk | ⟨hk, _⟩
      · exact st.apart b (hsub b hb) o hk
      · exact hd b hk b hb rfl
    fresh := fun b hb => st.fresh b (hsub b hb)
    knew := fun b o hk => by
      rcases hk with hk | ⟨hk, _⟩
      · exact st.knew b o hk
      · exact .inr (st.fresh b (List.mem_flatMap.2 ⟨c, hmem, hk⟩)) }

/-- A nil slice is an owned row, whatever it is to be. -/
theorem rt_nil {α : Type} (l : Lay α) (e : TypeId) (h : T n C K (.row l e (.slice none 0 0) [] :: L) E Φ) : T n C K L E Φ := fun a w st => h a w { st with
  own := fun c hc => by
    rcases List.mem_cons.1 hc with rfl | hc
    · exact .inl ⟨rfl, rfl⟩
    · exact st.own c hc
  nodup := by simpa [Chunk.foot, footV] using st.nodup
  apart := fun b hb => st.apart b (by simpa [Chunk.foot, footV] using hb)
  fresh := fun b hb => st.fresh b (by simpa [Chunk.foot, footV] using hb) }

end
end Go.Y
