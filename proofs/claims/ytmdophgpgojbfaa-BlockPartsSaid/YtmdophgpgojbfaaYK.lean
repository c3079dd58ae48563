/-
  The calculus 'Y': loads that stand in a place of their own.
-/
import Derived.Test.YtmdophgpgojbfaaYJ
namespace Go.Y
set_option linter.unusedVariables false
set_option linter.unusedSimpArgs false
section
variable {P : Program} {n : Nat} {C : Ctx} {K : Know} {L L' : List Chunk} {E : Env} {ex : Option Value} {ops : List Oper} {Q Φ : Act → World → Prop}
variable {i d ty : Nat} {pos : String} {af : Array Edge} {g : Option (Nat × Bool)} {r : Ord} {s : Bool} (Tb : Tab P)

theorem rt_ldE {o : Oper} {v : Value} (ho : nth ops i = some o) (hw : wantE ops E o.guard = some true) (hd : o.dst = some d) (hdn : Nat.blt d n = true)
    (hy : ∀ a w, St n C K L E a w → (execOp a.eval o).run P w = .ok (.value v) w) (h : T n C K L ((d, v) :: E) (wpR P ex ops Q r)) :
    T n C K L E (wpR P ex ops Q (.step i (.evt s) r)) :=
  rt_evt ho hw fun a w st => by
    unfold opG
    rw [hy a w st, hd]
    exact ⟨fun _ => Stab.refl _ _, h _ _ (st.put v (Nat.le_of_ble_eq_true hdn))⟩

theorem r_loadE {x : Operand} {t : Nat} {ad : Addr} {v : Value} (ho : nth ops i = some ⟨some d, .load t x, ty, pos, af, g⟩) (hw : wantE ops E g = some true) (hdn : Nat.blt d n = true)
    (hx : ev E x = some (.pointer (some ad))) (h1 : Tb.one t = true) (hc : Cel n C K L none false ad v)
    (h : T n C K L ((d, v) :: E) (wpR P ex ops Q r)) : T n C K L E (wpR P ex ops Q (.step i (.evt s) r)) :=
  rt_ldE ho hw rfl hdn (fun a w st => by
    obtain ⟨⟨ds, hu, hd⟩, hs⟩ := Tb.oneOk t h1
    have hcell := hc E a w st w rfl
    have hagg : (isAgg t).run P w = .ok false w := by
      unfold isAgg
      simp only [Sem.run_bind, run_underlying hu, Result.andThen_ok]
      split <;> simp_all
    simp [execOp, st.eval hx, Instr.loadAt, Instr.sureAddr, loadVar, hagg, hcell]) h

theorem r_loadAE {x : Operand} {t m : Nat} {ad : Addr} {vs : List Value} (ho : nth ops i = some ⟨some d, .load t x, ty, pos, af, g⟩) (hw : wantE ops E g = some true) (hdn : Nat.blt d n = true)
    (hx : ev E x = some (.pointer (some ad))) (h1 : Tb.agg t = some m) (hc : Cels n C K L none false ad vs) (hm : vs.length = m)
    (h : T n C K L ((d, .agg vs.toArray) :: E) (wpR P ex ops Q r)) : T n C K L E (wpR P ex ops Q (.step i (.evt s) r)) :=
  rt_ldE ho hw rfl hdn (fun a w st => by
    obtain ⟨⟨fs, hu⟩, hs⟩ := Tb.aggOk t m h1
    have hagg : (isAgg t).run P w = .ok true w := by
      unfold isAgg
      simp [run_underlying hu]
    subst hm
    have hl := run_loadCells_list (P := P) w ad vs (fun k v hv => hc k v hv E a w st w rfl)
    simp [execOp, st.eval hx, Instr.loadAt, Instr.sureAddr, loadVar, hagg, run_sizeOf hs, hl]) h

theorem id_ret {fn : Func} {A : Ending → World → Prop} {e : Exit} (h : T n C K L E (bodyPost P fn A e)) : T n C K L E (bodyPost P fn A e) := h
theorem kd_ld1 {t : Nat} {x : Operand} {dd : Option Nat} {m : Md} (ho : nth ops i = some ⟨dd, .load t x, ty, pos, af, g⟩) (hw : wantE ops E g = some true) (h1 : Tb.one t = true) (h : T n C K L E (wpR P ex ops Q (.step i m r))) : T n C K L E (wpR P ex ops Q (.step i m r)) := h
theorem kd_ldA {t k : Nat} {x : Operand} {dd : Option Nat} {m : Md} (ho : nth ops i = some ⟨dd, .load t x, ty, pos, af, g⟩) (hw : wantE ops E g = some true) (h1 : Tb.agg t = some k) (h : T n C K L E (wpR P ex ops Q (.step i m r))) : T n C K L E (wpR P ex ops Q (.step i m r)) := h
theorem kd_st1 {t : Nat} {x y : Operand} {dd : Option Nat} {m : Md} (ho : nth ops i = some ⟨dd, .store t x y, ty, pos, af, g⟩) (hw : wantE ops E g = some true) (h1 : Tb.one t = true) (h : T n C K L E (wpR P ex ops Q (.step i m r))) : T n C K L E (wpR P ex ops Q (.step i m r)) := h
theorem kd_stA {t k : Nat} {x y : Operand} {dd : Option Nat} {m : Md} (ho : nth ops i = some ⟨dd, .store t x y, ty, pos, af, g⟩) (hw : wantE ops E g = some true) (h1 : Tb.agg t = some k) (h : T n C K L E (wpR P ex ops Q (.step i m r))) : T n C K L E (wpR P ex ops Q (.step i m r)) := h

include Tb in
theorem r_indexZ {x ix : Operand} {t e sz : Nat} {u : Value} {m : Nat} {iv : Int} {kd : IntKind} (ho : nth ops i = some ⟨some d, .indexAddr t x ix, ty, pos, af, g⟩) (hw : wantE ops E g = some true) (hdn : Nat.blt d n = true)
    (hx : ev E x = some u) (hi : ev E ix = some (.int kd iv)) (ht : Tb.slc t = some (e, sz)) (hl : Len n C K L u m) (h0 : 0 ≤ iv) (hlt : iv.toNat < m)
    (h : T n C K L ((d, .pointer (some (sAddr u (iv.toNat * sz)))) :: E) (wpR P ex ops Q r)) : T n C K L E (wpR P ex ops Q (.step i .pur r)) :=
  r_index Tb iv.toNat ho hw hdn hx hi ht hl (by omega) hlt h

/-- A store that may come ahead of loads that don't look where it writes. -/
theorem s_storeT {x y : Operand} {t b off : Nat} {v : Value} {cs cs' : List Value} {Ty : TypeId} (j : Nat) (ho : nth ops i = some ⟨none, .store t x y, ty, pos, af, g⟩) (hs : s = false) (h : T n C K L E (wpR P ex ops Q (.step i (.evt false) r))) :
    T n C K L E (wpR P ex ops Q (.step i (.evt s) r)) := by subst hs; exact h
end
end Go.Y
