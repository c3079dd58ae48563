/-
  The calculus 'Y': tables of types out of lists that are looked at once; layouts; rules whose chunks come out written.
-/
import Derived.Test.YtmdophgpgojbfaaYF
namespace Go.Y
set_option linter.unusedVariables false
set_option linter.unusedSimpArgs false

/-! ### tables -/
def at3 : List (Nat × Nat × Nat) → Nat → Option (Nat × Nat)
  | [], _ => none
  | (a, b, c) :: r, t => bif Nat.beq a t then some (b, c) else at3 r t
def at3k : List (Nat × Nat × Nat) → Nat → Nat → Option Nat
  | [], _, _ => none
  | (a, b, c) :: r, t, k => bif Nat.beq a t && Nat.beq b k then some c else at3k r t k
def at2 : List (Nat × Nat) → Nat → Option Nat
  | [], _ => none
  | (a, b) :: r, t => bif Nat.beq a t then some b else at2 r t
def at1 : List Nat → Nat → Bool
  | [], _ => false
  | a :: r, t => Nat.beq a t || at1 r t
def atz : List (Nat × List Value) → Nat → Option (List Value)
  | [], _ => none
  | (a, b) :: r, t => bif Nat.beq a t then some b else atz r t

theorem beqN {a b : Nat} : Nat.beq a b = true ↔ a = b := ⟨Nat.eq_of_beq_eq_true, fun h => by subst h; simp⟩
theorem at3_mem {l : List (Nat × Nat × Nat)} {t b c : Nat} (h : at3 l t = some (b, c)) : (t, b, c) ∈ l := by
  induction l with
  | nil => simp [at3] at h
  | cons x r ih =>
    obtain ⟨a, b', c'⟩ := x
    simp only [at3] at h
    cases hb : Nat.beq a t with
    | true => rw [hb] at h; simp at h; obtain ⟨rfl, rfl⟩ := h; rw [beqN] at hb; subst hb; simp
    | false => rw [hb] at h; exact List.mem_cons_of_mem _ (ih h)
theorem at3k_mem {l : List (Nat × Nat × Nat)} {t k c : Nat} (h : at3k l t k = some c) : (t, k, c) ∈ l := by
  induction l with
  | nil => simp [at3k] at h
  | cons x r ih =>
    obtain ⟨a, b', c'⟩ := x
    simp only [at3k] at h
    cases hb : (Nat.beq a t && Nat.beq b' k) with
    | true => rw [hb] at h; simp at h; subst h; rw [Bool.and_eq_true, beqN, beqN] at hb; obtain ⟨rfl, rfl⟩ := hb; simp
    | false => rw [hb] at h; exact List.mem_cons_of_mem _ (ih h)
theorem at2_mem {l : List (Nat × Nat)} {t b : Nat} (h : at2 l t = some b) : (t, b) ∈ l := by
  induction l with
  | nil => simp [at2] at h
  | cons x r ih =>
    obtain ⟨a, b'⟩ := x
    simp only [at2] at h
    cases hb : Nat.beq a t with
    | true => rw [hb] at h; simp at h; subst h; rw [beqN] at hb; subst hb; simp
    | false => rw [hb] at h; exact List.mem_cons_of_mem _ (ih h)
theorem at1_mem {l : List Nat} {t : Nat} (h : at1 l t = true) : t ∈ l := by
  induction l with
  | nil => simp [at1] at h
  | cons x r ih =>
    simp only [at1, Bool.or_eq_true, beqN] at h
    rcases h with rfl | h
    · simp
    · exact List.mem_cons_of_mem _ (ih h)
theorem atz_mem {l : List (Nat × List Value)} {t : Nat} {b : List Value} (h : atz l t = some b) : (t, b) ∈ l := by
  induction l with
  | nil => simp [atz] at h
  | cons x r ih =>
    obtain ⟨a, b'⟩ := x
    simp only [atz] at h
    cases hb : Nat.beq a t with
    | true => rw [hb] at h; simp at h; subst h; rw [beqN] at hb; subst hb; simp
    | false => rw [hb] at h; exact List.mem_cons_of_mem _ (ih h)

def zeq : Value → Value → Bool
  | .bool a, .bool b => a == b
  | .int k a, .int j b => decide (k = j) && decide (a = b)
  | .slice none a b, .slice none c d => a == c && b == d
  | .pointer none, .pointer none => true
  | .map none, .map none => true
  | .nilFunc, .nilFunc => true
  | .nilIface, .nilIface => true
  | .string a, .string b => decide (a = b)
  | _, _ => false
theorem zeq_eq {a b : Value} (h : zeq a b = true) : a = b := by
  unfold zeq at h
  split at h <;> simp_all
def zeqs : List Value → List Value → Bool
  | [], [] => true
  | a :: r, b :: s => zeq a b && zeqs r s
  | _, _ => false
theorem zeqs_eq : ∀ {a b : List Value}, zeqs a b = true → a = b
  | [], [], _ => rfl
  | [], _ :: _, h => by simp [zeqs] at h
  | _ :: _, [], h => by simp [zeqs] at h
  | a :: r, b :: s, h => by
    simp only [zeqs, Bool.and_eq_true] at h
    rw [zeq_eq h.1, zeqs_eq h.2]

section
variable (P : Program)
def okSlc (x : Nat × Nat × Nat) : Bool := match P.underlying x.1, P.info? x.2.1 with
  | some (.slice e), some i => Nat.beq e x.2.1 && Nat.beq i.size x.2.2
  | _, _ => false
def okFld (x : Nat × Nat × Nat) : Bool := match P.underlying x.1 with
  | some (.struct fs) => match fs[x.2.1]? with
    | some f => match P.info? f.type with
      | some i => Nat.beq f.offset x.2.2 && !(Nat.beq i.size 0)
      | none => false
    | none => false
  | _ => false
def okAgg (x : Nat × Nat) : Bool := match P.underlying x.1, P.info? x.1 with
  | some (.struct _), some i => Nat.beq i.size x.2
  | _, _ => false
def okOne (t : Nat) : Bool := (match P.underlying t with
  | some (.struct _) | some (.array _ _) | none => false
  | _ => true) && (match P.info? t with | some i => Nat.beq i.size 1 | none => false)
def okZero (x : Nat × List Value) : Bool := match P.info? x.1 with
  | some i => (match i.zero with | some z => zeqs z.cells.toList x.2 | none => false) && Nat.beq i.size x.2.length
  | none => false
def okBytes (x : Nat × Nat) : Bool := match P.info? x.1 with
  | some i => Nat.beq i.bytes x.2
  | none => false

def okPlcs : List Field → List (Nat × Nat) → Bool
  | [], [] => true
  | f :: r, x :: s => Nat.beq f.offset x.1 && (match P.info? f.type with | some i => Nat.beq i.size x.2 | none => false) && okPlcs r s
  | _, _ => false
theorem okPlcs_eq : ∀ {fs : List Field} {l : List (Nat × Nat)}, okPlcs P fs l = true → fs.map (fun f => (f.offset, (P.info? f.type).map (·.size))) = l.map (fun x => (x.1, some x.2))
  | [], [], _ => rfl
  | [], _ :: _, h => by simp [okPlcs] at h
  | _ :: _, [], h => by simp [okPlcs] at h
  | f :: r, x :: s, h => by
    simp only [okPlcs, Bool.and_eq_true, beqN] at h
    obtain ⟨⟨h1, h2⟩, h3⟩ := h
    rw [List.map_cons, List.map_cons, okPlcs_eq h3, h1]
    cases hi : P.info? f.type with
    | none => rw [hi] at h2; cases h2
    | some i => rw [hi] at h2; simp only [beqN] at h2; simp [h2]
def okPlc (x : Nat × List (Nat × Nat)) : Bool := match P.underlying x.1 with
  | some (.struct fs) => okPlcs P fs.toList x.2
  | _ => false
def atp : List (Nat × List (Nat × Nat)) → Nat → Option (List (Nat × Nat))
  | [], _ => none
  | (a, b) :: r, t => bif Nat.beq a t then some b else atp r t
theorem atp_mem {l : List (Nat × List (Nat × Nat))} {t : Nat} {b : List (Nat × Nat)} (h : atp l t = some b) : (t, b) ∈ l := by
  induction l with
  | nil => simp [atp] at h
  | cons x r ih =>
    obtain ⟨a, b'⟩ := x
    simp only [atp] at h
    cases hb : Nat.beq a t with
    | true => rw [hb] at h; simp at h; subst h; rw [beqN] at hb; subst hb; simp
    | false => rw [hb] at h; exact List.mem_cons_of_mem _ (ih h)

def mkTab (slcT fldT : List (Nat × Nat × Nat)) (aggT : List (Nat × Nat)) (oneT : List Nat) (zeroT : List (Nat × List Value)) (bytesT : List (Nat × Nat)) (plcT : List (Nat × List (Nat × Nat)))
    (h : (slcT.all (okSlc P) && fldT.all (okFld P) && aggT.all (okAgg P) && oneT.all (okOne P) && zeroT.all (okZero P) && bytesT.all (okBytes P) && plcT.all (okPlc P)) = true) : Tab P :=
  have h' : ((((((∀ x ∈ slcT, okSlc P x = true) ∧ ∀ x ∈ fldT, okFld P x = true) ∧ ∀ x ∈ aggT, okAgg P x = true) ∧ ∀ x ∈ oneT, okOne P x = true) ∧ ∀ x ∈ zeroT, okZero P x = true) ∧ (∀ x ∈ bytesT, okBytes P x = true)) ∧ ∀ x ∈ plcT, okPlc P x = true := by
    simpa only [Bool.and_eq_true, List.all_eq_true] using h
  { slc := at3 slcT
    slcOk := fun t e s ht => by
      have := h'.1.1.1.1.1.1 _ (at3_mem ht)
      unfold okSlc at this
      split at this
      · rename_i e' i h1 h2
        simp only [Bool.and_eq_true, beqN] at this
        obtain ⟨rfl, rfl⟩ := this
        exact ⟨h1, by simp_all⟩
      · cases this
    fld := at3k fldT
    fldOk := fun t k o ht => by
      have := h'.1.1.1.1.1.2 _ (at3k_mem ht)
      unfold okFld at this
      split at this
      · rename_i fs h1
        split at this
        · rename_i f h2
          split at this
          · rename_i i h3
            simp only [Bool.and_eq_true, beqN, Bool.not_eq_true'] at this
            exact ⟨fs, f, h1, h2, this.1, i, h3, fun e => by rw [e] at this; simp at this⟩
          · cases this
        · cases this
      · cases this
    agg := at2 aggT
    aggOk := fun t m ht => by
      have := h'.1.1.1.1.2 _ (at2_mem ht)
      unfold okAgg at this
      split at this
      · rename_i fs i h1 h2
        rw [beqN] at this
        exact ⟨⟨fs, h1⟩, by simp_all⟩
      · cases this
    one := at1 oneT
    oneOk := fun t ht => by
      have := h'.1.1.1.2 _ (at1_mem ht)
      unfold okOne at this
      rw [Bool.and_eq_true] at this
      obtain ⟨h1, h2⟩ := this
      constructor
      · cases hu : P.underlying t with
        | none => rw [hu] at h1; cases h1
        | some d => refine ⟨d, rfl, ?_⟩; rw [hu] at h1; cases d <;> first | trivial | cases h1
      · cases hi : P.info? t with
        | none => rw [hi] at h2; cases h2
        | some i => rw [hi] at h2; simp only [beqN] at h2; simp [h2]
    zero := atz zeroT
    zeroOk := fun t cs ht => by
      have := h'.1.1.2 _ (atz_mem ht)
      unfold okZero at this
      split at this
      · rename_i i h1
        rw [Bool.and_eq_true] at this
        obtain ⟨h2, h3⟩ := this
        cases hz : i.zero with
        | none => rw [hz] at h2; cases h2
        | some z =>
          rw [hz] at h2
          rw [beqN] at h3
          have h4 := zeqs_eq h2
          have h5 : z.cells.toList = cs := h4
          exact ⟨i, z, h1, hz, by rw [← h5], h3⟩
      · cases this
    plc := atp plcT
    plcOk := fun t l ht => by
      have := h'.2 _ (atp_mem ht)
      unfold okPlc at this
      split at this
      · rename_i fs h1
        exact ⟨fs, h1, okPlcs_eq P this⟩
      · cases this
    bytes := at2 bytesT
    bytesOk := fun t m ht => by
      have := h'.1.2 _ (at2_mem ht)
      unfold okBytes at this
      split at this
      · rename_i i h1
        rw [beqN] at this
        simp [h1, this]
      · cases this }
end

/-! ### layouts -/
/-- A bool that isn't parted on yet. -/
def sym (b : Bool) : Bool := b
def layI : Lay Int := ⟨1, fun x => [.int .i64 x], fun _ => rfl, by decide⟩
def layN : Lay Nat := ⟨1, fun x => [.int .i64 (x : Int)], fun _ => rfl, by decide⟩
def layB : Lay Bool := ⟨1, fun x => [.bool (sym x)], fun _ => rfl, by decide⟩
def layV : Lay Value := ⟨1, fun x => [x], fun _ => rfl, by decide⟩
def layU : Lay Nat := ⟨1, fun x => [.int .u64 (x : Int)], fun _ => rfl, by decide⟩
/-- Two whole numbers side by side. -/
def layII : Lay (Int × Int) := ⟨2, fun x => [.int .i64 x.1, .int .i64 x.2], fun _ => rfl, by decide⟩
def layNN : Lay (Nat × Nat) := ⟨2, fun x => [.int .i64 (x.1 : Int), .int .i64 (x.2 : Int)], fun _ => rfl, by decide⟩
def layIII : Lay (Int × Int × Int) := ⟨3, fun x => [.int .i64 x.1, .int .i64 x.2.1, .int .i64 x.2.2], fun _ => rfl, by decide⟩
/-- A slice of slices that is read. -/
def Fl2 {α : Type} (K : Know) (l : Lay α) (v : Value) (xss : List (List α)) : Prop :=
  ∃ us : List Value, Fl K layV v us ∧ us.length = xss.length ∧ ∀ i (h : i < us.length) (h' : i < xss.length), Fl K l us[i] xss[i]
theorem Fl2.mono {α : Type} {K K' : Know} {l : Lay α} {v : Value} {xss : List (List α)} (h : Fl2 K l v xss) (hk : K.Le K') : Fl2 K' l v xss := by
  obtain ⟨us, h1, h2, h3⟩ := h
  exact ⟨us, h1.mono hk, h2, fun i a b => (h3 i a b).mono hk⟩

/-- Values, each of one cell. -/
def Ones (n : Nat) (C : Ctx) (K : Know) (L : List Chunk) : List Value → Prop
  | [] => True
  | v :: r => One n C K L v ∧ Ones n C K L r
theorem Ones.all {n : Nat} {C : Ctx} {K : Know} {L : List Chunk} : ∀ {vs : List Value}, Ones n C K L vs → ∀ v ∈ vs, One n C K L v
  | _ :: _, h, v, hv => by
    rcases List.mem_cons.1 hv with rfl | hv
    · exact h.1
    · exact Ones.all h.2 v hv

/-! ### written chunks -/
inductive SetAt {α : Type _} : List α → Nat → α → List α → Prop where
  | zero {x c : α} {L : List α} : SetAt (x :: L) 0 c (c :: L)
  | succ {x c : α} {L L' : List α} {j : Nat} (h : SetAt L j c L') : SetAt (x :: L) (j + 1) c (x :: L')
theorem SetAt.eq {α : Type _} {L L' : List α} {j : Nat} {c : α} (h : SetAt L j c L') : L.set j c = L' := by
  induction h with
  | zero => rfl
  | succ _ ih => simp [ih]
theorem SetAt.lt {α : Type _} {L L' : List α} {j : Nat} {c : α} (h : SetAt L j c L') : j < L.length := by
  induction h with
  | zero => simp
  | succ _ ih => simpa using ih
inductive TakeAt {α : Type _} : List α → Nat → α → List α → Prop where
  | zero {c : α} {L : List α} : TakeAt (c :: L) 0 c L
  | succ {x c : α} {L L' : List α} {j : Nat} (h : TakeAt L j c L') : TakeAt (x :: L) (j + 1) c (x :: L')
theorem TakeAt.eq {α : Type _} {L L' : List α} {j : Nat} {c : α} (h : TakeAt L j c L') : L[j]? = some c ∧ L.eraseIdx j = L' := by
  induction h with
  | zero => exact ⟨rfl, rfl⟩
  | succ _ ih => exact ⟨by simpa using ih.1, by simp [ih.2]⟩
/-- Several, one behind the other. -/
inductive TakeAll {α : Type _} : List α → List Nat → List α → List α → Prop where
  | nil {L : List α} : TakeAll L [] [] L
  | cons {L L' A B : List α} {j : Nat} {js : List Nat} {c : α} (h : TakeAt L j c L') (h' : TakeAll L' js A B) : TakeAll L (j :: js) (c :: A) B
theorem TakeAll.eq {L : List Chunk} {js : List Nat} {A B : List Chunk} (h : TakeAll L js A B) : sel js L = (A, B) := by
  induction h with
  | nil => rfl
  | cons h _ ih => obtain ⟨h1, h2⟩ := h.eq; simp [sel, h1, h2, ih]

section
variable {P : Program} {n : Nat} {C : Ctx} {K : Know} {L L' : List Chunk} {E : Env} {ex : Option Value} {ops : List Oper} {Q Φ : Act → World → Prop}
variable {i d ty : Nat} {pos : String} {af : Array Edge} {g : Option (Nat × Bool)} {r : Ord} {s : Bool} (Tb : Tab P)

theorem s_store {x y : Operand} {t b off : Nat} {v : Value} {cs cs' : List Value} {Ty : TypeId} (j : Nat) (ho : nth ops i = some ⟨none, .store t x y, ty, pos, af, g⟩) (hw : wantE ops E g = some true)
    (hx : ev E x = some (.pointer (some ⟨b, off, none⟩))) (hy : ev E y = some v) (h1 : Tb.one t = true) (hj : L[j]? = some (.blk b cs Ty)) (hc : SetAt cs off v cs') (hL : SetAt L j (.blk b cs' Ty) L') (hv : One n C K L v)
    (h : T n C K L' E (wpR P ex ops Q r)) : T n C K L E (wpR P ex ops Q (.step i (.evt false) r)) := by
  exact r_store Tb j ho hw hx hy h1 hv hj (Nat.ble_eq ▸ hc.lt) (by rw [hc.eq, hL.eq]; exact h)

theorem s_storeA {x y : Operand} {t b m : Nat} {vs cs : List Value} {Ty : TypeId} (j : Nat) (ho : nth ops i = some ⟨none, .store t x y, ty, pos, af, g⟩) (hw : wantE ops E g = some true)
    (hx : ev E x = some (.pointer (some ⟨b, 0, none⟩))) (hy : ev E y = some (.agg vs.toArray)) (h1 : Tb.agg t = some m) (hm : Nat.beq vs.length m = true) (hj : L[j]? = some (.blk b cs Ty)) (hl : Nat.beq cs.length m = true) (hL : SetAt L j (.blk b vs Ty) L') (hv : Ones n C K L vs)
    (h : T n C K L' E (wpR P ex ops Q r)) : T n C K L E (wpR P ex ops Q (.step i (.evt false) r)) :=
  r_storeA Tb j ho hw hx hy h1 (beqN.1 hm) hv.all hj (beqN.1 hl) (by rw [hL.eq]; exact h)

theorem s_storeRow {α : Type} {l : Lay α} {x y : Operand} {t sz : Nat} {v u : Value} {xs : List α} {Ty : TypeId} {k : Nat} (x' : α) (j : Nat) (ho : nth ops i = some ⟨none, .store t x y, ty, pos, af, g⟩) (hw : wantE ops E g = some true)
    (hx : ev E x = some (.pointer (some (sAddr u (k * sz))))) (hy : ev E y = some v) (hj : L[j]? = some (.row l Ty u xs)) (hsz : l.sz = sz) (hs : (Tb.one t = true ∧ l.sz = 1) ∨ Tb.agg t = some l.sz) (hv : CellsAre n C K L v (l.f x')) (hk : k < xs.length) (hL : SetAt L j (.row l Ty u (xs.set k x')) L') (hv1 : Ones n C K L (l.f x'))
    (h : T n C K L' E (wpR P ex ops Q r)) : T n C K L E (wpR P ex ops Q (.step i (.evt false) r)) :=
  r_storeRow (m := 0) x' j ho hw (hsz ▸ hx) hy (by
    rcases hs with ⟨h1, h2⟩ | h1
    · rw [h2]; exact (Tb.oneOk t h1).2
    · exact (Tb.aggOk t _ h1).2) hv hv1.all hj hk (by rw [hL.eq]; exact h)

theorem s_append {α : Type} {l : Lay α} {x y : Operand} {t e sz by_ : Nat} {u u2 : Value} {xs ys : List α} {zs : List Value} (j : Nat) (ho : nth ops i = some ⟨some d, .call ⟨.builtin .append, #[x, y], #[t, t]⟩, ty, pos, af, g⟩) (hw : wantE ops E g = some true) (hdn : Nat.blt d n = true)
    (hx : ev E x = some u) (hy : ev E y = some u2) (ht : Tb.slc t = some (e, sz)) (hz : Tb.zero e = some zs) (hb : Tb.bytes e = some by_)
    (hj : L[j]? = some (.row l e u xs)) (hsz : Nat.beq l.sz sz = true) (h2 : ∀ E a w, St n C K L E a w → Fl (hp w) l u2 ys) (hone : ∀ y ∈ ys, ∀ c ∈ l.f y, One n C K L c) (hbd : (xs.length + ys.length) * by_ ≤ 140737488355328) (hbd2 : xs.length + ys.length ≤ 140737488355328)
    (hs : s = true → ex = some u)
    (h : ∀ u' L', SetAt L j (.row l e u' (xs ++ ys)) L' → T n C K L' ((d, u') :: E) (wpR P ex ops Q r)) : T n C K L E (wpR P ex ops Q (.step i (.evt s) r)) := by
  refine r_append Tb j ho hw hdn hx hy ht hz hb (beqN.1 hsz) hj h2 hone hbd hbd2 hs fun u' => h u' _ ?_
  have key : ∀ {L : List Chunk} {j : Nat} {c c' : Chunk}, L[j]? = some c → SetAt L j c' (L.set j c') := by
    intro L
    induction L with
    | nil => intro j c c' h; simp at h
    | cons x r ih =>
      intro j c c' h
      cases j with
      | zero => exact .zero
      | succ j => exact .succ (ih (by simpa using h))
  exact key hj

theorem src_row {α : Type} {l : Lay α} {Ty : TypeId} {u : Value} {xs : List α} (j : Nat) (hj : L[j]? = some (.row l Ty u xs)) : ∀ E a w, St n C K L E a w → Fl (hp w) l u xs := fun E a w st =>
  (show (Chunk.row l Ty u xs).holds (hp w) from st.own _ (List.mem_of_getElem? hj)).fl
theorem src_fl {α : Type} {l : Lay α} {u : Value} {xs : List α} (h : Fl K l u xs) : ∀ E a w, St n C K L E a w → Fl (hp w) l u xs := fun E a w st => h.mono st.know

theorem s_freeze (j : Nat) {c : Chunk} (hj : TakeAt L j c L') (h : ∀ K', K.Le K' → c.holds (New C K') → T n C K' L' E Φ) : T n C K L E Φ := by
  obtain ⟨h1, h2⟩ := hj.eq
  intro a w st
  have hfr := st.fresh
  refine rt_freeze j h1 (fun K' hle hc => ?_) a w st
  rw [h2]
  refine h K' hle (hc.local fun b hb o hk => ⟨hk, ?_⟩)
  exact hfr b (List.mem_flatMap.2 ⟨c, List.mem_of_getElem? h1, hb⟩)

theorem s_keep (js : List Nat) {A B : List Chunk} (hs : TakeAll L js A B) (h : T n C K A E Φ) : T n C K L E Φ := rt_keep js (by rw [hs.eq]) h
/-- Chunks in another order. -/
theorem s_perm (js : List Nat) {A B : List Chunk} (hs : TakeAll L js A B) (h : T n C K (A ++ B) E Φ) : T n C K L E Φ := fun a w st => by
  have hp : L.Perm (A ++ B) := by have := sel_perm js L; rwa [hs.eq] at this
  exact h a w (st.reshape (fun K' hh c hc => hh c (hp.symm.subset hc)) (.inr (foot_perm hp).symm))

theorem c_row {α : Type} (j : Nat) {l : Lay α} {Ty : TypeId} {u : Value} {xs : List α} {k sz jj : Nat} {v : Value} (hj : L[j]? = some (.row l Ty u xs)) (hi : k < xs.length) (hsz : l.sz = sz) (hv : (l.f xs[k])[jj]? = some v)
    (hx : s = true → exOk ex L j) : Cel n C K L ex s (sAddr u (k * sz + jj)) v := by subst hsz; exact cel_row j hj hi hv hx
theorem c_row0 {α : Type} (j : Nat) {l : Lay α} {Ty : TypeId} {u : Value} {xs : List α} {k sz : Nat} {v : Value} (hj : L[j]? = some (.row l Ty u xs)) (hi : k < xs.length) (hsz : l.sz = sz) (hv : (l.f xs[k])[0]? = some v)
    (hx : s = true → exOk ex L j) : Cel n C K L ex s (sAddr u (k * sz)) v := c_row (jj := 0) j hj hi hsz hv hx
theorem c_fl {α : Type} {l : Lay α} {u : Value} {xs : List α} {k sz jj : Nat} {v : Value} (hF : Fl K l u xs) (hi : k < xs.length) (hsz : l.sz = sz) (hv : (l.f xs[k])[jj]? = some v)
    (hx : s = true → exK ex L) : Cel n C K L ex s (sAddr u (k * sz + jj)) v := by subst hsz; exact cel_fl hF hi hv hx
theorem c_fl0 {α : Type} {l : Lay α} {u : Value} {xs : List α} {k sz : Nat} {v : Value} (hF : Fl K l u xs) (hi : k < xs.length) (hsz : l.sz = sz) (hv : (l.f xs[k])[0]? = some v)
    (hx : s = true → exK ex L) : Cel n C K L ex s (sAddr u (k * sz)) v := c_fl (jj := 0) hF hi hsz hv hx
theorem cs_row {α : Type} (j : Nat) {l : Lay α} {Ty : TypeId} {u : Value} {xs : List α} {k sz : Nat} (hj : L[j]? = some (.row l Ty u xs)) (hi : k < xs.length) (hsz : l.sz = sz) (hx : s = true → exOk ex L j) :
    Cels n C K L ex s (sAddr u (k * sz)) (l.f xs[k]) := by subst hsz; exact cels_row j hj hi hx
theorem cs_fl {α : Type} {l : Lay α} {u : Value} {xs : List α} {k sz : Nat} (hF : Fl K l u xs) (hi : k < xs.length) (hsz : l.sz = sz) (hx : s = true → exK ex L) :
    Cels n C K L ex s (sAddr u (k * sz)) (l.f xs[k]) := by subst hsz; exact cels_fl hF hi hx

/-- A bool is parted on. -/
theorem s_split {b : Bool} (h1 : b = true → T n C K L ((d, .bool true) :: E) Φ) (h2 : b = false → T n C K L ((d, .bool false) :: E) Φ) : T n C K L ((d, .bool (sym b)) :: E) Φ := by
  cases b
  · exact h2 rfl
  · exact h1 rfl
end

/-! ### which kind of operation stands next -/
section
variable {P : Program} {n : Nat} {C : Ctx} {K : Know} {L : List Chunk} {E : Env} {ex : Option Value} {ops : List Oper} {Q : Act → World → Prop}
variable {i ty : Nat} {d : Option Nat} {pos : String} {af : Array Edge} {g : Option (Nat × Bool)} {r : Ord} {m : Md}
theorem id_code {c : Code} {Q : Exit → Act → World → Prop} (h : T n C K L E (c.wp P Q)) : T n C K L E (c.wp P Q) := h
theorem id_pur (h : T n C K L E (wpR P ex ops Q (.step i .pur r))) : T n C K L E (wpR P ex ops Q (.step i .pur r)) := h
theorem id_ld {s : Bool} (h : T n C K L E (wpR P ex ops Q (.step i (.ld s) r))) : T n C K L E (wpR P ex ops Q (.step i (.ld s) r)) := h
theorem id_evt {s : Bool} (h : T n C K L E (wpR P ex ops Q (.step i (.evt s) r))) : T n C K L E (wpR P ex ops Q (.step i (.evt s) r)) := h
theorem kd_load {t : Nat} {x : Operand} (ho : nth ops i = some ⟨d, .load t x, ty, pos, af, g⟩) (hw : wantE ops E g = some true) (h : T n C K L E (wpR P ex ops Q (.step i m r))) : T n C K L E (wpR P ex ops Q (.step i m r)) := h
theorem kd_store {t : Nat} {x y : Operand} (ho : nth ops i = some ⟨d, .store t x y, ty, pos, af, g⟩) (hw : wantE ops E g = some true) (h : T n C K L E (wpR P ex ops Q (.step i m r))) : T n C K L E (wpR P ex ops Q (.step i m r)) := h
theorem kd_bin {bo : BinOp} {t u : Nat} {x y : Operand} (ho : nth ops i = some ⟨d, .binOp bo t x y u, ty, pos, af, g⟩) (hw : wantE ops E g = some true) (h : T n C K L E (wpR P ex ops Q (.step i m r))) : T n C K L E (wpR P ex ops Q (.step i m r)) := h
theorem kd_index {t : Nat} {x y : Operand} (ho : nth ops i = some ⟨d, .indexAddr t x y, ty, pos, af, g⟩) (hw : wantE ops E g = some true) (h : T n C K L E (wpR P ex ops Q (.step i m r))) : T n C K L E (wpR P ex ops Q (.step i m r)) := h
theorem kd_field {t k : Nat} {x : Operand} (ho : nth ops i = some ⟨d, .fieldAddr t x k, ty, pos, af, g⟩) (hw : wantE ops E g = some true) (h : T n C K L E (wpR P ex ops Q (.step i m r))) : T n C K L E (wpR P ex ops Q (.step i m r)) := h
theorem kd_call {c : Call} (ho : nth ops i = some ⟨d, .call c, ty, pos, af, g⟩) (hw : wantE ops E g = some true) (h : T n C K L E (wpR P ex ops Q (.step i m r))) : T n C K L E (wpR P ex ops Q (.step i m r)) := h
theorem kd_box {e : Nat} {x : Operand} (ho : nth ops i = some ⟨d, .box e x, ty, pos, af, g⟩) (hw : wantE ops E g = some true) (h : T n C K L E (wpR P ex ops Q (.step i m r))) : T n C K L E (wpR P ex ops Q (.step i m r)) := h
theorem kd_guard {o : Oper} (ho : nth ops i = some o) (hw : wantE ops E o.guard = some false) (h : T n C K L E (wpR P ex ops Q (.step i m r))) : T n C K L E (wpR P ex ops Q (.step i m r)) := h
end

/-! ### how an operation is met in the text's order -/
def clsO (o : Oper) : Md := match o.op with
  | .move _ | .assign _ | .pick .. | .nilCheck _ | .unOp .. | .fieldAddr .. | .field .. | .indexAddr .. | .index .. | .slice .. | .extract .. | .makeFunc .. | .makeInterface .. | .build .. => .pur
  | .binOp .. => .pur
  | .convert .. => .pur
  | .load .. => .ld false
  | .call ⟨.builtin .len, _, _⟩ | .call ⟨.builtin .min, _, _⟩ | .call ⟨.builtin .max, _, _⟩ | .call ⟨.builtin .cap, _, _⟩ => .pur
  | _ => .evt false

def textOrd : List Oper → Nat → Ord
  | [], _ => .done
  | o :: r, i => .step i (clsO o) (textOrd r (Nat.succ i))
theorem textOrd_eq : ∀ (l : List Oper) (i : Nat), textOrd l i = seqOrd (l.map clsO) i
  | [], i => rfl
  | o :: r, i => by simp [textOrd, seqOrd, textOrd_eq r]
theorem s_text {P : Program} {n : Nat} {C : Ctx} {K : Know} {L : List Chunk} {E : Env} {ops : List Oper} {id : Nat} {Q : Exit → Act → World → Prop} (h : T n C K L E (wpR P none ops (Q .normal) (textOrd ops 0))) :
    T n C K L E ((Code.region id ops.toArray false).wp P Q) :=
  rt_text (ops.map clsO) (by rw [List.length_map]; simp) (by rw [← textOrd_eq]; exact h)
end Go.Y
