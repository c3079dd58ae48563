/-
  The calculus 'Y': the rules of codes, and of operations that read.
-/
import Derived.Test.YtmdophgpgojbfaaYB
namespace Go.Y
set_option linter.unusedVariables false
set_option linter.unusedSimpArgs false

/-- What a program's tables say of types, as functions that reckon. -/
structure Tab (P : Program) where
  slc : Nat → Option (Nat × Nat)
  slcOk : ∀ t e s, slc t = some (e, s) → P.underlying t = some (.slice e) ∧ (P.info? e).map (·.size) = some s
  fld : Nat → Nat → Option Nat
  fldOk : ∀ t k o, fld t k = some o → ∃ fs f, P.underlying t = some (.struct fs) ∧ fs[k]? = some f ∧ f.offset = o ∧ ∃ i, P.info? f.type = some i ∧ i.size ≠ 0
  agg : Nat → Option Nat
  aggOk : ∀ t n, agg t = some n → (∃ fs, P.underlying t = some (.struct fs)) ∧ (P.info? t).map (·.size) = some n
  one : Nat → Bool
  oneOk : ∀ t, one t = true → (∃ d, P.underlying t = some d ∧ (match d with | .struct _ | .array _ _ => False | _ => True)) ∧ (P.info? t).map (·.size) = some 1
  zero : Nat → Option (List Value)
  zeroOk : ∀ t cs, zero t = some cs → ∃ i z, P.info? t = some i ∧ i.zero = some z ∧ z.cells = cs.toArray ∧ i.size = cs.length
  plc : Nat → Option (List (Nat × Nat))
  plcOk : ∀ t l, plc t = some l → ∃ fs, P.underlying t = some (.struct fs) ∧ fs.toList.map (fun f => (f.offset, (P.info? f.type).map (·.size))) = l.map (fun x => (x.1, some x.2))
  bytes : Nat → Option Nat
  bytesOk : ∀ t n, bytes t = some n → (P.info? t).map (·.bytes) = some n

def wantE (ops : List Oper) (E : Env) : Option (Nat × Bool) → Option Bool
  | none => some true
  | some (g, want) => match nth ops g with
    | some og => match og.dst with
      | some d => match lk E d with
        | some (.bool b) => some (bif want then b else !b)
        | some (.tuple _) => some false
        | _ => none
      | none => none
    | none => none

section
variable {P : Program} {n : Nat} {C : Ctx} {K : Know} {L : List Chunk} {E : Env} {ex : Option Value} {ops : List Oper} {Q : Act → World → Prop}

theorem St.want {a : Act} {w : World} (h : St n C K L E a w) {o : Oper} {b : Bool} (hw : wantE ops E o.guard = some b) : wantedE ops o a = b := by
  unfold wantE at hw
  unfold wantedE Region.wanted
  cases hg : o.guard with
  | none => rw [hg] at hw; simpa using hw
  | some gw =>
    obtain ⟨g, want⟩ := gw
    rw [hg] at hw
    simp only at hw
    rw [nth_eq] at hw
    cases ho : ops[g]? with
    | none => simp [ho] at hw
    | some og =>
      cases hd : og.dst with
      | none => simp [ho, hd] at hw
      | some d =>
        cases hl : lk E d with
        | none => simp [ho, hd, hl] at hw
        | some v =>
          have he := h.env d _ hl
          cases v with
          | tuple vs =>
            simp [ho, hd, hl] at hw
            subst hw
            have hy : yielded ops.toArray a.tmps g = none := by
              unfold yielded
              simp only [List.getElem?_toArray, ho, Option.bind_some, hd]
              rw [Array.getD_eq_getD_getElem?] at he
              cases ht : a.tmps[d]? with
              | none => rfl
              | some q => rw [ht] at he; simp only [Option.getD_some] at he; subst he; rfl
            simp [hy]
          | bool x =>
          simp [ho, hd, hl] at hw
          have hy : yielded ops.toArray a.tmps g = some x := by
            unfold yielded
            simp only [List.getElem?_toArray, ho, Option.bind_some, hd]
            have hlt : d < a.tmps.size := by
              rcases Nat.lt_or_ge d a.tmps.size with h' | h'
              · exact h'
              · simp [Array.getD, Nat.not_lt.2 h'] at he
                cases he
            rw [Array.getD_eq_getD_getElem?, Array.getElem?_eq_getElem hlt] at he
            simp only [Option.getD_some] at he
            simp [Array.getElem?_eq_getElem hlt, he]
          simp only [hy]
          cases want <;> cases x <;> simp_all
          | _ => simp [ho, hd, hl] at hw

/-! ### codes -/
theorem rt_seq {x y : Code} {Q : Exit → Act → World → Prop} (h : T n C K L E (x.wp P (Exit.then (y.wp P Q) Q))) : T n C K L E ((Code.seq x y).wp P Q) := fun a w st => wp_seq (h a w st)
theorem rt_then {N : Act → World → Prop} {Q : Exit → Act → World → Prop} (h : T n C K L E N) : T n C K L E (Exit.then N Q .normal) := h
theorem rt_thenRet {N : Act → World → Prop} {Q : Exit → Act → World → Prop} (h : T n C K L E (Q .ret)) : T n C K L E (Exit.then N Q .ret) := h
theorem rt_thenExit {N : Act → World → Prop} {Q : Exit → Act → World → Prop} {id : Nat} (h : T n C K L E (Q (.exit id))) : T n C K L E (Exit.then N Q (.exit id)) := h
theorem rt_skip {Q : Exit → Act → World → Prop} (h : T n C K L E (Q .normal)) : T n C K L E (Code.skip.wp P Q) := fun a w st => wp_skip (h a w st)
theorem rt_ret {Q : Exit → Act → World → Prop} (h : T n C K L E (Q .ret)) : T n C K L E (Code.ret.wp P Q) := fun a w st => wp_ret (h a w st)
theorem rt_exit {Q : Exit → Act → World → Prop} {id : Nat} (h : T n C K L E (Q (.exit id))) : T n C K L E ((Code.exit id).wp P Q) := fun a w st => wp_exit (h a w st)
theorem rt_label {Q : Exit → Act → World → Prop} {l : Nat} (h : T n C K L E (Q .normal)) : T n C K L E ((Code.label l).wp P Q) := fun a w st => wp_label (h a w st)
theorem rt_block {Q : Exit → Act → World → Prop} {id : Nat} {c : Code} (h : T n C K L E (c.wp P (Exit.inBlock id Q))) : T n C K L E ((Code.block id c).wp P Q) := fun a w st => wp_block (h a w st)
theorem rt_blockN {Q : Exit → Act → World → Prop} {id : Nat} (h : T n C K L E (Q .normal)) : T n C K L E (Exit.inBlock id Q .normal) := h
theorem rt_blockR {Q : Exit → Act → World → Prop} {id : Nat} (h : T n C K L E (Q .ret)) : T n C K L E (Exit.inBlock id Q .ret) := h
theorem rt_blockE {Q : Exit → Act → World → Prop} {id : Nat} (h : T n C K L E (Q .normal)) : T n C K L E (Exit.inBlock id Q (.exit id)) := fun a w st => by
  have := h a w st
  simpa [Exit.inBlock] using this
theorem rt_blockE' {Q : Exit → Act → World → Prop} {id id' : Nat} (hne : Nat.beq id' id = false) (h : T n C K L E (Q (.exit id'))) : T n C K L E (Exit.inBlock id Q (.exit id')) := fun a w st => by
  have := h a w st
  have hne' : ¬ id' = id := fun e => by subst e; simp at hne
  simpa [Exit.inBlock, hne'] using this
theorem rt_condT {Q : Exit → Act → World → Prop} {c : Operand} {x y : Code} (hc : ev E c = some (.bool true)) (h : T n C K L E (x.wp P Q)) : T n C K L E ((Code.cond c x y).wp P Q) :=
  fun a w st => wp_cond_true (st.eval hc) (h a w st)
theorem rt_condF {Q : Exit → Act → World → Prop} {c : Operand} {x y : Code} (hc : ev E c = some (.bool false)) (h : T n C K L E (y.wp P Q)) : T n C K L E ((Code.cond c x y).wp P Q) :=
  fun a w st => wp_cond_false (st.eval hc) (h a w st)
theorem rt_cond {Q : Exit → Act → World → Prop} {c : Operand} {x y : Code} {b : Bool} (hc : ev E c = some (.bool b)) (h1 : b = true → T n C K L E (x.wp P Q)) (h2 : b = false → T n C K L E (y.wp P Q)) :
    T n C K L E ((Code.cond c x y).wp P Q) :=
  fun a w st => wp_cond_split (st.eval hc) (fun hb => h1 hb a w st) (fun hb => h2 hb a w st)

theorem rt_text {id : Nat} {Q : Exit → Act → World → Prop} (cls : List Md) (hl : Nat.beq cls.length ops.length = true) (h : T n C K L E (wpR P none ops (Q .normal) (seqOrd cls 0))) :
    T n C K L E ((Code.region id ops.toArray false).wp P Q) :=
  fun a w st => wp_region_text cls (Nat.eq_of_beq_eq_true hl) (h a w st)
theorem rt_draw {id : Nat} {Q : Exit → Act → World → Prop} (hm : P.follows .mixedOrders = true) (ex : Option Value) (cls : List Md) (o : Ord)
    (hc : (Region.noSelect ops.toArray && chk ops cls ops.length o (Array.replicate ops.length false)) = true) (h : T n C K L E (wpR P ex ops (Q .normal) o)) :
    T n C K L E ((Code.region id ops.toArray true).wp P Q) :=
  fun a w st => wp_region_ord hm cls o hc (h a _ (st.draws _))

theorem rt_done (h : T n C K L E Q) : T n C K L E (wpR P ex ops Q .done) := h
theorem rt_fork {l r : Ord} (h1 : T n C K L E (wpR P ex ops Q l)) (h2 : T n C K L E (wpR P ex ops Q r)) : T n C K L E (wpR P ex ops Q (.fork l r)) := fun a w st => ⟨h1 a w st, h2 a w st⟩

/-! ### an operation that reads -/
theorem rt_pur {i d : Nat} {r : Ord} {o : Oper} {v : Value} (ho : nth ops i = some o) (hw : wantE ops E o.guard = some true) (hd : o.dst = some d) (hdn : Nat.blt d n = true)
    (hy : ∀ a w, St n C K L E a w → ∀ w', (execOp a.eval o).run P w' = .ok (.value v) w') (h : T n C K L ((d, v) :: E) (wpR P ex ops Q r)) : T n C K L E (wpR P ex ops Q (.step i .pur r)) :=
  fun a w st => ⟨o, v, ho, .inl ⟨st.want hw, fun w' _ => hy a w st w'⟩, by rw [hd]; exact h _ _ (st.put v (Nat.le_of_ble_eq_true hdn))⟩

theorem rt_ld {i d : Nat} {s : Bool} {r : Ord} {o : Oper} {v : Value} (ho : nth ops i = some o) (hw : wantE ops E o.guard = some true) (hd : o.dst = some d) (hdn : Nat.blt d n = true)
    (hy : ∀ a w, St n C K L E a w → ∀ w', Md.reach ex (.ld s) w w' → (execOp a.eval o).run P w' = .ok (.value v) w') (h : T n C K L ((d, v) :: E) (wpR P ex ops Q r)) :
    T n C K L E (wpR P ex ops Q (.step i (.ld s) r)) :=
  fun a w st => ⟨o, v, ho, .inl ⟨st.want hw, fun w' hr => hy a w st w' hr⟩, by rw [hd]; exact h _ _ (st.put v (Nat.le_of_ble_eq_true hdn))⟩

theorem rt_evt {i : Nat} {s : Bool} {r : Ord} {o : Oper} (ho : nth ops i = some o) (hw : wantE ops E o.guard = some true)
    (hop : ∀ a w, St n C K L E a w → opG P o a w fun v w' => (s = true → Stab ex w w') ∧ wpR P ex ops Q r (a.put o.dst v) w') : T n C K L E (wpR P ex ops Q (.step i (.evt s) r)) :=
  fun a w st => ⟨o, ho, .inl ⟨st.want hw, hop a w st⟩⟩

/-- A guarded operation that isn't wanted. -/
theorem rt_pass {i d : Nat} {m : Md} {r : Ord} {o : Oper} (ho : nth ops i = some o) (hw : wantE ops E o.guard = some false) (hd : o.dst = some d) (hdn : Nat.blt d n = true)
    (h : T n C K L ((d, undef) :: E) (wpR P ex ops Q r)) : T n C K L E (wpR P ex ops Q (.step i m r)) := fun a w st => by
  have hn := h _ _ (st.put undef (Nat.le_of_ble_eq_true hdn))
  cases m with
  | pur => exact ⟨o, undef, ho, .inr ⟨st.want hw, rfl⟩, by rw [hd]; exact hn⟩
  | ld s => exact ⟨o, undef, ho, .inr ⟨st.want hw, rfl⟩, by rw [hd]; exact hn⟩
  | evt s => exact ⟨o, ho, .inr ⟨st.want hw, by rw [hd]; exact hn⟩⟩
theorem rt_pass0 {i : Nat} {m : Md} {r : Ord} {o : Oper} (ho : nth ops i = some o) (hw : wantE ops E o.guard = some false) (hd : o.dst = none)
    (h : T n C K L E (wpR P ex ops Q r)) : T n C K L E (wpR P ex ops Q (.step i m r)) := fun a w st => by
  have hn := h _ _ st
  cases m with
  | pur => exact ⟨o, undef, ho, .inr ⟨st.want hw, rfl⟩, by rw [hd]; exact hn⟩
  | ld s => exact ⟨o, undef, ho, .inr ⟨st.want hw, rfl⟩, by rw [hd]; exact hn⟩
  | evt s => exact ⟨o, ho, .inr ⟨st.want hw, by rw [hd]; exact hn⟩⟩

section pure
variable {i d ty : Nat} {pos : String} {af : Array Edge} {g : Option (Nat × Bool)} {r : Ord}

theorem r_move {x : Operand} {v : Value} (ho : nth ops i = some ⟨some d, .move x, ty, pos, af, g⟩) (hw : wantE ops E g = some true) (hdn : Nat.blt d n = true) (hv : ev E x = some v)
    (h : T n C K L ((d, v) :: E) (wpR P ex ops Q r)) : T n C K L E (wpR P ex ops Q (.step i .pur r)) :=
  rt_pur ho hw rfl hdn (fun a w st w' => by simp [execOp, st.eval hv]) h

theorem r_assign {x : Operand} {v : Value} (ho : nth ops i = some ⟨some d, .assign x, ty, pos, af, g⟩) (hw : wantE ops E g = some true) (hdn : Nat.blt d n = true) (hv : ev E x = some v)
    (h : T n C K L ((d, v) :: E) (wpR P ex ops Q r)) : T n C K L E (wpR P ex ops Q (.step i .pur r)) :=
  rt_pur ho hw rfl hdn (fun a w st w' => by simp [execOp, st.eval hv]) h

theorem r_nilCheck {x : Operand} {ad : Addr} (ho : nth ops i = some ⟨some d, .nilCheck x, ty, pos, af, g⟩) (hw : wantE ops E g = some true) (hdn : Nat.blt d n = true) (hv : ev E x = some (.pointer (some ad)))
    (h : T n C K L ((d, .pointer (some ad)) :: E) (wpR P ex ops Q r)) : T n C K L E (wpR P ex ops Q (.step i .pur r)) :=
  rt_pur ho hw rfl hdn (fun a w st w' => by simp [execOp, st.eval hv]) h

theorem r_pickT {c x y : Operand} {v : Value} (ho : nth ops i = some ⟨some d, .pick c x y, ty, pos, af, g⟩) (hw : wantE ops E g = some true) (hdn : Nat.blt d n = true) (hc : ev E c = some (.bool true)) (hv : ev E x = some v)
    (h : T n C K L ((d, v) :: E) (wpR P ex ops Q r)) : T n C K L E (wpR P ex ops Q (.step i .pur r)) :=
  rt_pur ho hw rfl hdn (fun a w st w' => by simp [execOp, st.eval hv, st.eval hc, asBool]) h

theorem r_pickF {c x y : Operand} {v : Value} (ho : nth ops i = some ⟨some d, .pick c x y, ty, pos, af, g⟩) (hw : wantE ops E g = some true) (hdn : Nat.blt d n = true) (hc : ev E c = some (.bool false)) (hv : ev E y = some v)
    (h : T n C K L ((d, v) :: E) (wpR P ex ops Q r)) : T n C K L E (wpR P ex ops Q (.step i .pur r)) :=
  rt_pur ho hw rfl hdn (fun a w st w' => by simp [execOp, st.eval hv, st.eval hc, asBool]) h

theorem r_makeFunc {fn : Fn} {first cap : Array Operand} {vs us : List Value} (ho : nth ops i = some ⟨some d, .makeFunc fn first cap, ty, pos, af, g⟩) (hw : wantE ops E g = some true) (hdn : Nat.blt d n = true)
    (h1 : evs E first.toList = some us) (h2 : evs E cap.toList = some vs)
    (h : T n C K L ((d, .func fn us.toArray vs.toArray) :: E) (wpR P ex ops Q r)) : T n C K L E (wpR P ex ops Q (.step i .pur r)) :=
  rt_pur ho hw rfl hdn (fun a w st w' => by
    have e1 : first.map a.eval = us.toArray := by rw [← st.evals h1, ← Array.toList_map]
    have e2 : cap.map a.eval = vs.toArray := by rw [← st.evals h2, ← Array.toList_map]
    simp [execOp, Instr.makeFunc, e1, e2]) h

theorem r_not {x : Operand} {t : Nat} {b : Bool} (ho : nth ops i = some ⟨some d, .unOp .not t x, ty, pos, af, g⟩) (hw : wantE ops E g = some true) (hdn : Nat.blt d n = true) (hv : ev E x = some (.bool b))
    (h : T n C K L ((d, .bool (!b)) :: E) (wpR P ex ops Q r)) : T n C K L E (wpR P ex ops Q (.step i .pur r)) :=
  rt_pur ho hw rfl hdn (fun a w st w' => by simp [execOp, st.eval hv, Op.unary]) h

theorem r_neg {x : Operand} {t : Nat} {m m' : Int} (ho : nth ops i = some ⟨some d, .unOp .neg t x, ty, pos, af, g⟩) (hw : wantE ops E g = some true) (hdn : Nat.blt d n = true) (hv : ev E x = some (.int .i64 m)) (he : IntKind.i64.wrap (0 - m) = m')
    (h : T n C K L ((d, .int .i64 m') :: E) (wpR P ex ops Q r)) : T n C K L E (wpR P ex ops Q (.step i .pur r)) :=
  rt_pur ho hw rfl hdn (fun a w st w' => by simp [execOp, st.eval hv, Op.unary, Op.intArith, ← he]) h

theorem wrap64 {m : Int} (h : -9223372036854775808 ≤ m ∧ m ≤ 9223372036854775807) : IntKind.i64.wrap m = m := by
  simp [IntKind.wrap, IntKind.min, IntKind.bits, IntKind.signed]
  omega

theorem r_add {x y : Operand} {t u : Nat} {m k : Int} (ho : nth ops i = some ⟨some d, .binOp .add t x y u, ty, pos, af, g⟩) (hw : wantE ops E g = some true) (hdn : Nat.blt d n = true)
    (hx : ev E x = some (.int .i64 m)) (hy : ev E y = some (.int .i64 k)) (hb : -9223372036854775808 ≤ m + k ∧ m + k ≤ 9223372036854775807)
    (h : T n C K L ((d, .int .i64 (m + k)) :: E) (wpR P ex ops Q r)) : T n C K L E (wpR P ex ops Q (.step i .pur r)) :=
  rt_pur ho hw rfl hdn (fun a w st w' => by simp [execOp, st.eval hx, st.eval hy, Go.binOp, eqGuard, Op.intArith, wrap64 hb]) h

theorem r_sub {x y : Operand} {t u : Nat} {m k : Int} (ho : nth ops i = some ⟨some d, .binOp .sub t x y u, ty, pos, af, g⟩) (hw : wantE ops E g = some true) (hdn : Nat.blt d n = true)
    (hx : ev E x = some (.int .i64 m)) (hy : ev E y = some (.int .i64 k)) (hb : -9223372036854775808 ≤ m - k ∧ m - k ≤ 9223372036854775807)
    (h : T n C K L ((d, .int .i64 (m - k)) :: E) (wpR P ex ops Q r)) : T n C K L E (wpR P ex ops Q (.step i .pur r)) :=
  rt_pur ho hw rfl hdn (fun a w st w' => by simp [execOp, st.eval hx, st.eval hy, Go.binOp, eqGuard, Op.intArith, wrap64 hb]) h

theorem r_mul {x y : Operand} {t u : Nat} {m k : Int} (ho : nth ops i = some ⟨some d, .binOp .mul t x y u, ty, pos, af, g⟩) (hw : wantE ops E g = some true) (hdn : Nat.blt d n = true)
    (hx : ev E x = some (.int .i64 m)) (hy : ev E y = some (.int .i64 k)) (hb : -9223372036854775808 ≤ m * k ∧ m * k ≤ 9223372036854775807)
    (h : T n C K L ((d, .int .i64 (m * k)) :: E) (wpR P ex ops Q r)) : T n C K L E (wpR P ex ops Q (.step i .pur r)) :=
  rt_pur ho hw rfl hdn (fun a w st w' => by simp [execOp, st.eval hx, st.eval hy, Go.binOp, eqGuard, Op.intArith, wrap64 hb]) h

/-- What a comparison of whole numbers tells. -/
def cmpI : BinOp → Int → Int → Option Bool
  | .eql, x, y => some (x == y)
  | .neq, x, y => some (x != y)
  | .lss, x, y => some (x < y)
  | .leq, x, y => some (x ≤ y)
  | .gtr, x, y => some (x > y)
  | .geq, x, y => some (x ≥ y)
  | _, _, _ => none

theorem r_cmp {x y : Operand} {t u : Nat} {bo : BinOp} {kd : IntKind} {m k : Int} {b : Bool} (ho : nth ops i = some ⟨some d, .binOp bo t x y u, ty, pos, af, g⟩) (hw : wantE ops E g = some true) (hdn : Nat.blt d n = true)
    (hx : ev E x = some (.int kd m)) (hy : ev E y = some (.int kd k)) (hb : cmpI bo m k = some b)
    (h : T n C K L ((d, .bool b) :: E) (wpR P ex ops Q r)) : T n C K L E (wpR P ex ops Q (.step i .pur r)) :=
  rt_pur ho hw rfl hdn (fun a w st w' => by
    cases bo <;> simp only [cmpI, Option.some.injEq, reduceCtorEq] at hb <;> simp [execOp, st.eval hx, st.eval hy, Go.binOp, eqGuard, Op.intCmp, ← hb]) h

/-- A comparison, the ways parted at once. -/
theorem r_lss {x y : Operand} {t u : Nat} {kd : IntKind} {m k : Int} (ho : nth ops i = some ⟨some d, .binOp .lss t x y u, ty, pos, af, g⟩) (hw : wantE ops E g = some true) (hdn : Nat.blt d n = true)
    (hx : ev E x = some (.int kd m)) (hy : ev E y = some (.int kd k))
    (h1 : m < k → T n C K L ((d, .bool true) :: E) (wpR P ex ops Q r)) (h2 : k ≤ m → T n C K L ((d, .bool false) :: E) (wpR P ex ops Q r)) : T n C K L E (wpR P ex ops Q (.step i .pur r)) := by
  by_cases hc : m < k
  · exact r_cmp ho hw hdn hx hy (by simp [cmpI, hc]) (h1 hc)
  · exact r_cmp ho hw hdn hx hy (by simp [cmpI, hc]) (h2 (by omega))
theorem r_leq {x y : Operand} {t u : Nat} {kd : IntKind} {m k : Int} (ho : nth ops i = some ⟨some d, .binOp .leq t x y u, ty, pos, af, g⟩) (hw : wantE ops E g = some true) (hdn : Nat.blt d n = true)
    (hx : ev E x = some (.int kd m)) (hy : ev E y = some (.int kd k))
    (h1 : m ≤ k → T n C K L ((d, .bool true) :: E) (wpR P ex ops Q r)) (h2 : k < m → T n C K L ((d, .bool false) :: E) (wpR P ex ops Q r)) : T n C K L E (wpR P ex ops Q (.step i .pur r)) := by
  by_cases hc : m ≤ k
  · exact r_cmp ho hw hdn hx hy (by simp [cmpI, hc]) (h1 hc)
  · exact r_cmp ho hw hdn hx hy (by simp [cmpI, hc]) (h2 (by omega))
theorem r_gtr {x y : Operand} {t u : Nat} {kd : IntKind} {m k : Int} (ho : nth ops i = some ⟨some d, .binOp .gtr t x y u, ty, pos, af, g⟩) (hw : wantE ops E g = some true) (hdn : Nat.blt d n = true)
    (hx : ev E x = some (.int kd m)) (hy : ev E y = some (.int kd k))
    (h1 : k < m → T n C K L ((d, .bool true) :: E) (wpR P ex ops Q r)) (h2 : m ≤ k → T n C K L ((d, .bool false) :: E) (wpR P ex ops Q r)) : T n C K L E (wpR P ex ops Q (.step i .pur r)) := by
  by_cases hc : k < m
  · exact r_cmp ho hw hdn hx hy (by simp [cmpI, hc]) (h1 hc)
  · exact r_cmp ho hw hdn hx hy (by simp [cmpI, hc]) (h2 (by omega))
theorem r_geq {x y : Operand} {t u : Nat} {kd : IntKind} {m k : Int} (ho : nth ops i = some ⟨some d, .binOp .geq t x y u, ty, pos, af, g⟩) (hw : wantE ops E g = some true) (hdn : Nat.blt d n = true)
    (hx : ev E x = some (.int kd m)) (hy : ev E y = some (.int kd k))
    (h1 : k ≤ m → T n C K L ((d, .bool true) :: E) (wpR P ex ops Q r)) (h2 : m < k → T n C K L ((d, .bool false) :: E) (wpR P ex ops Q r)) : T n C K L E (wpR P ex ops Q (.step i .pur r)) := by
  by_cases hc : k ≤ m
  · exact r_cmp ho hw hdn hx hy (by simp [cmpI, hc]) (h1 hc)
  · exact r_cmp ho hw hdn hx hy (by simp [cmpI, hc]) (h2 (by omega))
theorem r_eql {x y : Operand} {t u : Nat} {kd : IntKind} {m k : Int} (ho : nth ops i = some ⟨some d, .binOp .eql t x y u, ty, pos, af, g⟩) (hw : wantE ops E g = some true) (hdn : Nat.blt d n = true)
    (hx : ev E x = some (.int kd m)) (hy : ev E y = some (.int kd k))
    (h1 : m = k → T n C K L ((d, .bool true) :: E) (wpR P ex ops Q r)) (h2 : m ≠ k → T n C K L ((d, .bool false) :: E) (wpR P ex ops Q r)) : T n C K L E (wpR P ex ops Q (.step i .pur r)) := by
  by_cases hc : m = k
  · exact r_cmp ho hw hdn hx hy (by simp [cmpI, hc]) (h1 hc)
  · exact r_cmp ho hw hdn hx hy (by simp [cmpI, hc]) (h2 hc)
theorem r_neq {x y : Operand} {t u : Nat} {kd : IntKind} {m k : Int} (ho : nth ops i = some ⟨some d, .binOp .neq t x y u, ty, pos, af, g⟩) (hw : wantE ops E g = some true) (hdn : Nat.blt d n = true)
    (hx : ev E x = some (.int kd m)) (hy : ev E y = some (.int kd k))
    (h1 : m ≠ k → T n C K L ((d, .bool true) :: E) (wpR P ex ops Q r)) (h2 : m = k → T n C K L ((d, .bool false) :: E) (wpR P ex ops Q r)) : T n C K L E (wpR P ex ops Q (.step i .pur r)) := by
  by_cases hc : m = k
  · exact r_cmp ho hw hdn hx hy (by simp [cmpI, hc]) (h2 hc)
  · exact r_cmp ho hw hdn hx hy (by simp [cmpI, hc]) (h1 hc)

end pure
end
end Go.Y
