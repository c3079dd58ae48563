/-
  The calculus 'Y': literals of none or one element; append, with its chunks written; calls that hand chunks back; further small rules.
-/
import Derived.Test.YtmdophgpgojbfaaYG
namespace Go.Y
set_option linter.unusedVariables false
set_option linter.unusedSimpArgs false

/-- All that a layout lays is of one cell. -/
def Lay.Ok {α : Type} (l : Lay α) : Prop := ∀ x, ∀ v ∈ l.f x, v.oneCell' = true
theorem okI : layI.Ok := fun x v hv => by simp [layI] at hv; subst hv; rfl
theorem okN : layN.Ok := fun x v hv => by simp [layN] at hv; subst hv; rfl
theorem okB : layB.Ok := fun x v hv => by simp [layB] at hv; subst hv; rfl
theorem okU : layU.Ok := fun x v hv => by simp [layU] at hv; subst hv; rfl
theorem okII : layII.Ok := fun x v hv => by simp [layII] at hv; rcases hv with rfl | rfl <;> rfl
theorem okNN : layNN.Ok := fun x v hv => by simp [layNN] at hv; rcases hv with rfl | rfl <;> rfl
theorem okIII : layIII.Ok := fun x v hv => by simp [layIII] at hv; rcases hv with rfl | rfl | rfl <;> rfl

section
variable {P : Program} {n : Nat} {C : Ctx} {K : Know} {L L' : List Chunk} {E : Env} {ex : Option Value} {ops : List Oper} {Q Φ : Act → World → Prop}
variable {i d ty : Nat} {pos : String} {af : Array Edge} {g : Option (Nat × Bool)} {r : Ord} {s : Bool} (Tb : Tab P)

theorem r_build0 {α : Type} (l : Lay α) {t e sz : Nat} {zs : List Value} (ho : nth ops i = some ⟨some d, .buildSlice t 0 #[], ty, pos, af, g⟩) (hw : wantE ops E g = some true) (hdn : Nat.blt d n = true)
    (ht : Tb.slc t = some (e, sz)) (hz : Tb.zero e = some zs) (hsz : l.sz = sz)
    (h : ∀ u, T n C K (.row l e u [] :: L) ((d, u) :: E) (wpR P ex ops Q r)) : T n C K L E (wpR P ex ops Q (.step i (.evt s) r)) :=
  r_buildSlice (vs := []) Tb l [] ho hw hdn ht hz rfl (by omega) (by
    have e1 : 0 * sz = 0 := by omega
    rw [e1]
    simp [Instr.fill, Lay.cells]) rfl hsz fun u _ => h u

theorem fill_one {v : Value} {sz : Nat} {cs : Array Value} (h1 : v.cells.size = sz) (h2 : cs.size = sz) : Instr.fill (fun i => some (i * sz, sz)) cs [(0, v)] = some v.cells := by
  have key : ∀ (xs : List Value) (k : Nat) (cur : Array Value), k + xs.length = cur.size → ((xs.zipIdx k).foldl (fun (cs : Array Value) (x : Value × Nat) => cs.setIfInBounds x.2 x.1) cur).toList = cur.toList.take k ++ xs := by
    intro xs
    induction xs with
    | nil => intro k cur h; simp at h; subst h; simp [List.take_of_length_le]
    | cons x r ih =>
      intro k cur h
      simp only [List.zipIdx_cons, List.foldl_cons]
      rw [ih (k + 1) _ (by simp at h ⊢; omega)]
      have hk : k < cur.size := by simp at h; omega
      rw [Array.toList_setIfInBounds, List.take_set, List.take_succ_eq_append_getElem (by simpa using hk)]
      rw [List.set_append_right _ _ (by simp; omega)]
      simp [Nat.min_eq_left (Nat.le_of_lt hk)]
  have hnot : ¬ (v.cells.size ≠ sz ∨ 0 * sz + v.cells.size > cs.size) := by omega
  simp only [Instr.fill]
  rw [if_neg (by simp; omega)]
  have e : (v.cells.zipIdx.foldl (fun cs (x : Value × Nat) => cs.setIfInBounds (0 * sz + x.2) x.1) cs) = v.cells := by
    have h0 := key v.cells.toList 0 cs (by simp; omega)
    simp only [List.take_zero, List.nil_append] at h0
    apply Array.toList_inj.1
    rw [← h0]
    rw [← Array.foldl_toList]
    simp [Array.toList_zipIdx]
  exact congrArg some e

theorem r_build1 {α : Type} (l : Lay α) (x : α) {t e sz : Nat} {zs : List Value} {y : Operand} {v : Value} (ho : nth ops i = some ⟨some d, .buildSlice t 1 #[(0, y)], ty, pos, af, g⟩) (hw : wantE ops E g = some true) (hdn : Nat.blt d n = true)
    (hy : ev E y = some v) (ht : Tb.slc t = some (e, sz)) (hz : Tb.zero e = some zs) (hsz : l.sz = sz) (hv : v.cells = (l.f x).toArray) (hsm : sz ≤ 1000)
    (h : ∀ u, T n C K (.row l e u [x] :: L) ((d, u) :: E) (wpR P ex ops Q r)) : T n C K L E (wpR P ex ops Q (.step i (.evt s) r)) :=
  r_buildSlice (vs := [(0, v)]) Tb l [x] ho hw hdn ht hz (by simp [hy]) (by omega) (by
    rw [fill_one (by rw [hv]; simp [l.len, hsz]) (by simp), hv]
    simp [Lay.cells]) rfl hsz fun u _ => h u

theorem s_app {α : Type} {l : Lay α} {x y : Operand} {t e sz by_ : Nat} {u u2 : Value} {xs ys : List α} {zs : List Value} (j : Nat) (ho : nth ops i = some ⟨some d, .call ⟨.builtin .append, #[x, y], #[t, t]⟩, ty, pos, af, g⟩) (hw : wantE ops E g = some true) (hdn : Nat.blt d n = true)
    (hx : ev E x = some u) (hy : ev E y = some u2) (ht : Tb.slc t = some (e, sz)) (hz : Tb.zero e = some zs) (hb : Tb.bytes e = some by_)
    (hj : L[j]? = some (.row l e u xs)) (hsz : l.sz = sz) (h2 : ∀ E a w, St n C K L E a w → Fl (hp w) l u2 ys) (hone : ∀ y ∈ ys, Ones n C K L (l.f y)) (hbd2 : xs.length + ys.length ≤ 1000000) (hby : by_ ≤ 1000)
    (hs : s = true → ex = some u)
    (h : ∀ u', ∃ L', SetAt L j (.row l e u' (xs ++ ys)) L' ∧ T n C K L' ((d, u') :: E) (wpR P ex ops Q r)) : T n C K L E (wpR P ex ops Q (.step i (.evt s) r)) :=
  r_append Tb j ho hw hdn hx hy ht hz hb hsz hj h2 (fun y hy => (hone y hy).all) (Nat.le_trans (Nat.mul_le_mul hbd2 hby) (by omega)) (by omega) hs fun u' => by
    obtain ⟨L', h1, h2⟩ := h u'
    rw [h1.eq]; exact h2
theorem ones_ok {α : Type} {l : Lay α} (h : l.Ok) {ys : List α} : ∀ y ∈ ys, Ones n C K L (l.f y) := fun y _ => by
  have : ∀ vs : List Value, (∀ v ∈ vs, v.oneCell' = true) → Ones n C K L vs := by
    intro vs
    induction vs with
    | nil => intro _; trivial
    | cons v r ih => intro hv; exact ⟨one_rfl (hv v (by simp)), ih fun w hw => hv w (by simp [hw])⟩
  exact this _ (h y)

/-- A call that reads, and hands chunks back. -/
theorem r_callL {d : Tmp} {fx : Operand} {args : Array Operand} {ats : Array TypeId} {f : FuncId} {us vs cs : List Value} {Lm Lr : List Chunk} {R : Know → List Chunk → Value → Prop} (js : List Nat)
    (ho : nth ops i = some ⟨some d, .call ⟨.value fx, args, ats⟩, ty, pos, af, g⟩) (hw : wantE ops E g = some true) (hdn : Nat.blt d n = true)
    (hf : ev E fx = some (.func (.func f) us.toArray cs.toArray)) (ha : evs E args.toList = some vs) (hs : TakeAll L js Lm Lr) (hst : s = true → Lm = [])
    (hspec : ∀ Kc, K.Le Kc → (∀ c ∈ Lr, c.holds Kc) → Spec P f (us ++ vs ++ cs).toArray Kc Lm R)
    (h : ∀ v Kf Lm', R Kf Lm' v → T n C K (Lm' ++ Lr) ((d, v) :: E) (wpR P ex ops Q r)) : T n C K L E (wpR P ex ops Q (.step i (.evt s) r)) :=
  r_call js ho hw hf ha hs.eq hst hspec fun v Kf K' Lm' h1 h2 h3 a w st => h v Kf Lm' h1 _ _ ((st.ofLe h3).put v (Nat.le_of_ble_eq_true hdn))
/-- A call whose result is not kept. -/
theorem r_callL0 {fx : Operand} {args : Array Operand} {ats : Array TypeId} {f : FuncId} {us vs cs : List Value} {Lm Lr : List Chunk} {R : Know → List Chunk → Value → Prop} (js : List Nat)
    (ho : nth ops i = some ⟨none, .call ⟨.value fx, args, ats⟩, ty, pos, af, g⟩) (hw : wantE ops E g = some true)
    (hf : ev E fx = some (.func (.func f) us.toArray cs.toArray)) (ha : evs E args.toList = some vs) (hs : TakeAll L js Lm Lr) (hst : s = true → Lm = [])
    (hspec : ∀ Kc, K.Le Kc → (∀ c ∈ Lr, c.holds Kc) → Spec P f (us ++ vs ++ cs).toArray Kc Lm R)
    (h : ∀ v Kf Lm', R Kf Lm' v → T n C K (Lm' ++ Lr) E (wpR P ex ops Q r)) : T n C K L E (wpR P ex ops Q (.step i (.evt s) r)) :=
  r_call js ho hw hf ha hs.eq hst hspec fun v Kf K' Lm' h1 h2 h3 a w st => h v Kf Lm' h1 _ _ (st.ofLe h3)
/-- A call that hands back what is known, too. -/
theorem r_callK {d : Tmp} {fx : Operand} {args : Array Operand} {ats : Array TypeId} {f : FuncId} {us vs cs : List Value} {Lm Lr : List Chunk} {R : Know → List Chunk → Value → Prop} (js : List Nat)
    (ho : nth ops i = some ⟨some d, .call ⟨.value fx, args, ats⟩, ty, pos, af, g⟩) (hw : wantE ops E g = some true) (hdn : Nat.blt d n = true)
    (hf : ev E fx = some (.func (.func f) us.toArray cs.toArray)) (ha : evs E args.toList = some vs) (hs : TakeAll L js Lm Lr) (hst : s = true → Lm = [])
    (hspec : ∀ Kc, K.Le Kc → (∀ c ∈ Lr, c.holds Kc) → Spec P f (us ++ vs ++ cs).toArray Kc Lm R)
    (h : ∀ v Kf K' Lm', R Kf Lm' v → Kf.Le (New C K') → K.Le K' → T n C K' (Lm' ++ Lr) ((d, v) :: E) (wpR P ex ops Q r)) : T n C K L E (wpR P ex ops Q (.step i (.evt s) r)) :=
  r_callD js ho hw hdn hf ha hs.eq hst hspec h

theorem r_notT {x : Operand} {t : Nat} (ho : nth ops i = some ⟨some d, .unOp .not t x, ty, pos, af, g⟩) (hw : wantE ops E g = some true) (hdn : Nat.blt d n = true) (hv : ev E x = some (.bool true))
    (h : T n C K L ((d, .bool false) :: E) (wpR P ex ops Q r)) : T n C K L E (wpR P ex ops Q (.step i .pur r)) := r_not ho hw hdn hv h
theorem r_notF {x : Operand} {t : Nat} (ho : nth ops i = some ⟨some d, .unOp .not t x, ty, pos, af, g⟩) (hw : wantE ops E g = some true) (hdn : Nat.blt d n = true) (hv : ev E x = some (.bool false))
    (h : T n C K L ((d, .bool true) :: E) (wpR P ex ops Q r)) : T n C K L E (wpR P ex ops Q (.step i .pur r)) := r_not ho hw hdn hv h

theorem hat0 {K : Know} {a : Chunk} {r : List Chunk} (h : ∀ c ∈ a :: r, c.holds K) : a.holds K := h a (by simp)
theorem hat1 {K : Know} {a b : Chunk} {r : List Chunk} (h : ∀ c ∈ a :: b :: r, c.holds K) : b.holds K := h b (by simp)
theorem hat2 {K : Know} {a b d : Chunk} {r : List Chunk} (h : ∀ c ∈ a :: b :: d :: r, c.holds K) : d.holds K := h d (by simp)
theorem hat3 {K : Know} {a b d e : Chunk} {r : List Chunk} (h : ∀ c ∈ a :: b :: d :: e :: r, c.holds K) : e.holds K := h e (by simp)
theorem hat4 {K : Know} {a b d e f : Chunk} {r : List Chunk} (h : ∀ c ∈ a :: b :: d :: e :: f :: r, c.holds K) : f.holds K := h f (by simp)
theorem hat5 {K : Know} {a b d e f g : Chunk} {r : List Chunk} (h : ∀ c ∈ a :: b :: d :: e :: f :: g :: r, c.holds K) : g.holds K := h g (by simp)

/-- A bool is told. -/
abbrev isB (b : Bool) (v : Value) : Prop := v = .bool (sym b)
theorem isB_of {b c : Bool} (h : b = c) : isB b (.bool c) := by subst h; rfl

/-- What holds of each of some chunks. -/
def HoldsAll (K : Know) : List Chunk → Prop
  | [] => True
  | c :: r => c.holds K ∧ HoldsAll K r
theorem HoldsAll.of {K : Know} : ∀ {L : List Chunk}, (∀ c ∈ L, c.holds K) → HoldsAll K L
  | [], _ => trivial
  | c :: r, h => ⟨h c (by simp), HoldsAll.of fun x hx => h x (by simp [hx])⟩
end
end Go.Y
