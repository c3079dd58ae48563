/-
  The calculus 'Y' for walks: knowledge, chunks, states; a program-independent text.
-/
import Derived.Orders
import Derived.Tactics
import Derived.KernelRfl
namespace Go.Y
set_option linter.unusedVariables false
set_option linter.unusedSimpArgs false

/-! ### knowledge and layouts -/
def Know := Nat → Obj → Prop
def Know.Le (K K' : Know) : Prop := ∀ b o, K b o → K' b o
def hp (w : World) : Know := fun b o => w.heap[b]? = some o
theorem Know.Le.refl (K : Know) : K.Le K := fun _ _ h => h
theorem Know.Le.trans {K K' K'' : Know} (h : K.Le K') (h' : K'.Le K'') : K.Le K'' := fun b o k => h' b o (h b o k)

structure Lay (α : Type) where
  sz : Nat
  f : α → List Value
  len : ∀ x, (f x).length = sz
  pos : 0 < sz

def Lay.cells {α : Type} (l : Lay α) (xs : List α) : List Value := xs.flatMap l.f

theorem Lay.cells_length {α : Type} (l : Lay α) (xs : List α) : (l.cells xs).length = xs.length * l.sz := by
  induction xs with
  | nil => simp [Lay.cells]
  | cons x xs ih =>
    have e : l.cells (x :: xs) = l.f x ++ l.cells xs := by simp [Lay.cells]
    rw [e, List.length_append, l.len, ih, List.length_cons, Nat.succ_mul]
    omega

theorem Lay.cells_append {α : Type} (l : Lay α) (xs ys : List α) : l.cells (xs ++ ys) = l.cells xs ++ l.cells ys := by
  simp [Lay.cells]

theorem Lay.cells_get {α : Type} (l : Lay α) : ∀ (xs : List α) (i j : Nat) (h : i < xs.length), j < l.sz → (l.cells xs)[i * l.sz + j]? = (l.f xs[i])[j]?
  | x :: xs, 0, j, h, hj => by
    have e : l.cells (x :: xs) = l.f x ++ l.cells xs := by simp [Lay.cells]
    rw [e, Nat.zero_mul, Nat.zero_add, List.getElem?_append_left (by rw [l.len]; exact hj)]
    rfl
  | x :: xs, i + 1, j, h, hj => by
    have e : l.cells (x :: xs) = l.f x ++ l.cells xs := by simp [Lay.cells]
    rw [e, List.getElem?_append_right (by rw [l.len, Nat.succ_mul]; omega), l.len]
    have e2 : (i + 1) * l.sz + j - l.sz = i * l.sz + j := by rw [Nat.succ_mul]; omega
    rw [e2, Lay.cells_get l xs i j (by simpa using h) hj]
    rfl

/-- The footprint of a slice's value. -/
def footV : Value → List Nat
  | .slice (some a) _ _ => [a.block]
  | _ => []

/-- Where cell k of what a slice has is. -/
def sAddr : Value → Nat → Addr
  | .slice (some a) _ _, k => ⟨a.block, a.off + k, none⟩
  | _, k => ⟨0, k, none⟩

/-- A slice that is read. -/
def Fl {α : Type} (K : Know) (l : Lay α) (v : Value) (xs : List α) : Prop :=
  ∃ A c, v = .slice A xs.length c ∧ xs.length ≤ c ∧ xs.length ≤ 9223372036854775807 ∧
    (xs ≠ [] → ∃ b o arr T fr, A = some ⟨b, o, none⟩ ∧ K b (.cells arr T fr) ∧ ∀ k, k < xs.length * l.sz → arr[o + k]? = (l.cells xs)[k]?)

theorem Fl.mono {α : Type} {K K' : Know} {l : Lay α} {v : Value} {xs : List α} (h : Fl K l v xs) (hk : K.Le K') : Fl K' l v xs := by
  obtain ⟨A, c, e, h1, h2, h3⟩ := h
  refine ⟨A, c, e, h1, h2, fun hne => ?_⟩
  obtain ⟨b, o, arr, T, fr, ea, hb, hc⟩ := h3 hne
  exact ⟨b, o, arr, T, fr, ea, hk _ _ hb, hc⟩

inductive Chunk : Type 1 where
  | blk (b : Nat) (cs : List Value) (T : TypeId)
  | row {α : Type} (l : Lay α) (T : TypeId) (v : Value) (xs : List α)
  | obj (b : Nat) (o : Obj)
  | many {α : Type} (l : Lay α) (T : TypeId) (ps : List (Value × List α))

def Chunk.foot : Chunk → List Nat
  | .blk b _ _ => [b]
  | .row _ _ v _ => footV v
  | .obj b _ => [b]
  | .many _ _ ps => ps.flatMap fun p => footV p.1

/-- A slice that is nil, or begins where its block begins. -/
def rowH {α : Type} (K : Know) (l : Lay α) (T : TypeId) (v : Value) (xs : List α) : Prop :=
  (v = .slice none 0 0 ∧ xs = []) ∨
      ∃ b c junk, v = .slice (some ⟨b, 0, none⟩) xs.length c ∧ K b (.cells (l.cells xs ++ junk).toArray T (0, 0)) ∧
        xs.length * l.sz + junk.length = c * l.sz ∧ c ≤ 9223372036854775807

def Chunk.holds (K : Know) : Chunk → Prop
  | .blk b cs T => K b (.cells cs.toArray T (0, 0))
  | .row l T v xs => rowH K l T v xs
  | .obj b o => K b o
  | .many l T ps => ∀ p ∈ ps, rowH K l T p.1 p.2

theorem rowH.local {α : Type} {K K' : Know} {l : Lay α} {T : TypeId} {v : Value} {xs : List α} (h : rowH K l T v xs) (hk : ∀ b ∈ footV v, ∀ o, K b o → K' b o) : rowH K' l T v xs := by
  rcases h with h | ⟨b, c, junk, e, h1, h2⟩
  · exact .inl h
  · exact .inr ⟨b, c, junk, e, hk b (by simp [e, footV]) _ h1, h2⟩

/-- What holds hangs on the footprint alone. -/
theorem Chunk.holds.local {K K' : Know} {c : Chunk} (h : c.holds K) (hk : ∀ b ∈ c.foot, ∀ o, K b o → K' b o) : c.holds K' := by
  cases c with
  | blk b cs T => exact hk b (by simp [Chunk.foot]) _ h
  | obj b o => exact hk b (by simp [Chunk.foot]) _ h
  | row l T v xs => exact rowH.local h hk
  | many l T ps => exact fun p hp => (h p hp).local fun b hb => hk b (List.mem_flatMap.2 ⟨p, hp, hb⟩)
theorem Chunk.holds.mono {K K' : Know} {c : Chunk} (h : c.holds K) (hk : K.Le K') : c.holds K' := h.local fun b _ => hk b

theorem Chunk.row_len {α : Type} {l : Lay α} {xs junk : List α} {c k : Nat} (h : xs.length * l.sz + k = c * l.sz) : xs.length ≤ c :=
  Nat.le_of_mul_le_mul_right (by omega) l.pos

/-- An owned row may be read. -/
theorem Chunk.holds.fl {α : Type} {K : Know} {l : Lay α} {T : TypeId} {v : Value} {xs : List α} (h : (Chunk.row l T v xs).holds K) : Fl K l v xs := by
  rcases h with ⟨rfl, rfl⟩ | ⟨b, c, junk, rfl, h1, h2, h3⟩
  · exact ⟨none, 0, rfl, by simp, by simp, fun h => absurd rfl h⟩
  · have hle : xs.length ≤ c := Nat.le_of_mul_le_mul_right (by omega) l.pos
    refine ⟨_, c, rfl, hle, by omega, fun _ => ⟨b, 0, _, T, _, rfl, h1, fun k hk => ?_⟩⟩
    simp only [Nat.zero_add, List.getElem?_toArray]
    rw [List.getElem?_append_left (by rw [l.cells_length]; exact hk)]

theorem Fl.get {α : Type} {K : Know} {l : Lay α} {v : Value} {xs : List α} (h : Fl K l v xs) {i : Nat} (hi : i < xs.length) :
    ∃ A c b o arr T fr, v = .slice A xs.length c ∧ A = some ⟨b, o, none⟩ ∧ K b (.cells arr T fr) ∧ ∀ j, j < l.sz → arr[o + (i * l.sz + j)]? = (l.f xs[i])[j]? := by
  obtain ⟨A, c, e, _, _, h3⟩ := h
  obtain ⟨b, o, arr, T, fr, ea, hb, hc⟩ := h3 (by intro e; simp [e] at hi)
  refine ⟨A, c, b, o, arr, T, fr, e, ea, hb, fun j hj => ?_⟩
  have hlt : i * l.sz + j < xs.length * l.sz := by
    have := Nat.mul_le_mul_right l.sz (show i + 1 ≤ xs.length from hi)
    rw [Nat.succ_mul] at this
    omega
  rw [hc _ hlt, l.cells_get xs i j hi hj]

/-! ### environments -/
abbrev Env := List (Nat × Value)
def lk : Env → Nat → Option Value
  | [], _ => none
  | (k, v) :: r, t => bif Nat.beq k t then some v else lk r t
def ev (E : Env) : Operand → Option Value
  | .tmp t => lk E t
  | .const v => some v
  | .global g => some (.pointer (some ⟨g, 0, none⟩))
  | .func f => some (.func (.func f) #[] #[])
def evs (E : Env) : List Operand → Option (List Value)
  | [] => some []
  | x :: r => match ev E x, evs E r with
    | some v, some vs => some (v :: vs)
    | _, _ => none
theorem lk_cons (k : Nat) (v : Value) (E : Env) (t : Nat) : lk ((k, v) :: E) t = if k = t then some v else lk E t := by
  simp only [lk]
  by_cases h : k = t
  · subst h; simp
  · have : Nat.beq k t = false := by
      cases hb : Nat.beq k t
      · rfl
      · exact absurd (Nat.eq_of_beq_eq_true hb) h
    rw [this, if_neg h]; rfl
def Sub : Env → Env → Prop
  | [], _ => True
  | (t, v) :: r, E => lk E t = some v ∧ Sub r E
theorem Sub.lk {E1 E : Env} (h : Sub E1 E) {t : Nat} {v : Value} (hl : lk E1 t = some v) : lk E t = some v := by
  induction E1 with
  | nil => simp [Y.lk] at hl
  | cons p r ih =>
    obtain ⟨k, u⟩ := p
    rw [lk_cons] at hl
    split at hl
    · rename_i e; subst e; cases hl; exact h.1
    · exact ih h.2 hl

/-! ### states -/
structure Ctx where
  w0 : World
  M : List Nat
  K0 : Know

structure St (n : Nat) (C : Ctx) (K : Know) (L : List Chunk) (E : Env) (a : Act) (w : World) : Prop where
  size : a.tmps.size = n
  env : ∀ t v, lk E t = some v → a.tmps.getD t undef = v
  defs : a.defers = []
  know : K.Le (hp w)
  own : ∀ c ∈ L, c.holds (hp w)
  nodup : (L.flatMap Chunk.foot).Nodup
  apart : ∀ b ∈ L.flatMap Chunk.foot, ∀ o, ¬ K b o
  fresh : ∀ b ∈ L.flatMap Chunk.foot, C.w0.heap.size ≤ b ∨ b ∈ C.M
  knew : ∀ b o, K b o → C.K0 b o ∨ C.w0.heap.size ≤ b ∨ b ∈ C.M
  frame : ∀ b o, C.w0.heap[b]? = some o → b ∉ C.M → w.heap[b]? = some o
  grew : C.w0.heap.size ≤ w.heap.size
  os : w.os = C.w0.os
  tape : w.tape = C.w0.tape
  outp : w.output = C.w0.output

def T (n : Nat) (C : Ctx) (K : Know) (L : List Chunk) (E : Env) (Φ : Act → World → Prop) : Prop := ∀ a w, St n C K L E a w → Φ a w

section
variable {n : Nat} {C : Ctx} {K : Know} {L : List Chunk} {E : Env} {Φ : Act → World → Prop} {a : Act} {w : World}

theorem St.eval (h : St n C K L E a w) {x : Operand} {v : Value} (hv : ev E x = some v) : a.eval x = v := by
  cases x with
  | tmp t => exact h.env t v hv
  | const u => simpa [ev, Act.eval] using hv
  | global g => simpa [ev, Act.eval] using hv
  | func f => simpa [ev, Act.eval] using hv

theorem St.evals (h : St n C K L E a w) : ∀ {xs : List Operand} {ys : List Value}, evs E xs = some ys → xs.map a.eval = ys
  | [], ys, e => by simp [evs] at e; simp [e]
  | x :: r, ys, e => by
    simp only [evs] at e
    cases hx : ev E x with
    | none => simp [hx] at e
    | some v =>
      cases hr : evs E r with
      | none => simp [hx, hr] at e
      | some zs =>
        simp [hx, hr] at e
        subst e
        simp [h.eval hx, St.evals h hr]

theorem St.put (h : St n C K L E a w) {d : Nat} (v : Value) (hd : d < n) : St n C K L ((d, v) :: E) (a.put (some d) v) w :=
  { h with
    size := by simp [Act.put, h.size]
    env := fun t u hu => by
      rw [lk_cons] at hu
      split at hu
      · rename_i e; subst e; cases hu
        simp [Act.put, Array.getD, h.size, hd]
      · rename_i hne
        have := h.env t u hu
        simp only [Act.put, Array.getD_eq_getD_getElem?] at this ⊢
        rw [Array.getElem?_setIfInBounds_ne hne]
        exact this
    defs := by simp [Act.put, h.defs] }

theorem T.sub {E1 : Env} (h : T n C K L E1 Φ) (hs : Sub E1 E) : T n C K L E Φ := fun a w st => h a w
  { st with env := fun t v hv => st.env t v (hs.lk hv) }

theorem T.mono {Φ' : Act → World → Prop} (h : T n C K L E Φ) (hh : ∀ a w, Φ a w → Φ' a w) : T n C K L E Φ' := fun a w st => hh _ _ (h a w st)
theorem St.mem {c : Chunk} {j : Nat} (hj : L[j]? = some c) : c ∈ L := List.mem_of_getElem? hj
theorem St.foot_mem {c : Chunk} (hc : c ∈ L) {b : Nat} (hb : b ∈ c.foot) : b ∈ L.flatMap Chunk.foot := List.mem_flatMap.2 ⟨c, hc, hb⟩
end

/-- What is quietly another world: its draws alone differ. -/
theorem St.draws {n : Nat} {C : Ctx} {K : Know} {L : List Chunk} {E : Env} {a : Act} {w : World} (h : St n C K L E a w) (k : Nat) : St n C K L E a { w with drawn := k } :=
  { h with }

end Go.Y
