/-
  The calculus 'Y': states behind changes of memory; the rules of operations that load, store, make and append.
-/
import Derived.Test.YtmdophgpgojbfaaYC
import Derived.WalkKit
import Derived.Maps.AppendAt
namespace Go.Y
set_option linter.unusedVariables false
set_option linter.unusedSimpArgs false

section
variable {P : Program} {n : Nat} {C : Ctx} {K : Know} {L : List Chunk} {E : Env} {a : Act} {w w' : World}

theorem rowH.lt {α : Type} {l : Lay α} {T : TypeId} {v : Value} {xs : List α} (h : rowH (hp w) l T v xs) : ∀ b ∈ footV v, b < w.heap.size := by
  intro b hb
  rcases h with ⟨rfl, rfl⟩ | ⟨g, c, junk, rfl, h1, h2⟩
  · simp [footV] at hb
  · obtain rfl : b = g := by simpa [footV] using hb
    exact (Array.getElem?_eq_some_iff.1 h1).1
theorem Chunk.holds.lt {c : Chunk} (h : c.holds (hp w)) : ∀ b ∈ c.foot, b < w.heap.size := by
  intro b hb
  cases c with
  | blk b' cs T =>
    obtain rfl : b = b' := by simpa [Chunk.foot] using hb
    exact (Array.getElem?_eq_some_iff.1 h).1
  | obj b' o =>
    obtain rfl : b = b' := by simpa [Chunk.foot] using hb
    exact (Array.getElem?_eq_some_iff.1 h).1
  | row l T v xs => exact rowH.lt h b hb
  | many l T ps =>
    obtain ⟨p, hp, hb⟩ := List.mem_flatMap.1 hb
    exact (h p hp).lt b hb

theorem St.foot_lt (h : St n C K L E a w) : ∀ b ∈ L.flatMap Chunk.foot, b < w.heap.size := by
  intro b hb
  obtain ⟨c, hc, hb⟩ := List.mem_flatMap.1 hb
  exact (h.own c hc).lt b hb

theorem St.know_lt (h : St n C K L E a w) {b : Nat} {o : Obj} (hk : K b o) : b < w.heap.size := (Array.getElem?_eq_some_iff.1 (h.know b o hk)).1

/-- A new block. -/
theorem St.push (h : St n C K L E a w) (o : Obj) (c : Chunk) (hc : c.holds (hp (w.alloc o))) (hf : c.foot = [w.heap.size]) : St n C K (c :: L) E a (w.alloc o) := by
  have old : ∀ b o', w.heap[b]? = some o' → (w.alloc o).heap[b]? = some o' := fun b o' hb => by
    have hlt := (Array.getElem?_eq_some_iff.1 hb).1
    rw [heap_alloc_old w o hlt]; exact hb
  refine { h with
    know := fun b o' hk => old b o' (h.know b o' hk)
    own := fun c' hc' => ?_
    nodup := ?_
    apart := ?_
    fresh := ?_
    frame := fun b o' hb hm => old b o' (h.frame b o' hb hm)
    grew := Nat.le_trans h.grew (by show w.heap.size ≤ (w.heap.push o).size; simp) }
  · rcases List.mem_cons.1 hc' with rfl | hc'
    · exact hc
    · exact (h.own c' hc').mono fun b o' hb => old b o' hb
  · rw [List.flatMap_cons, hf]
    refine List.nodup_append.2 ⟨by simp, h.nodup, fun x hx y hy e => ?_⟩
    have := h.foot_lt y hy
    simp at hx; omega
  · intro b hb o' hk
    rw [List.flatMap_cons, hf] at hb
    rcases List.mem_append.1 hb with hb | hb
    · have := h.know_lt hk; simp at hb; omega
    · exact h.apart b hb o' hk
  · intro b hb
    rw [List.flatMap_cons, hf] at hb
    rcases List.mem_append.1 hb with hb | hb
    · have := h.grew; simp at hb; omega
    · exact h.fresh b hb

theorem foot_disj : ∀ {L : List Chunk} (hn : (L.flatMap Chunk.foot).Nodup) {j k : Nat} {c c' : Chunk}, L[j]? = some c → L[k]? = some c' → j ≠ k → ∀ b ∈ c.foot, b ∉ c'.foot
  | [], _, j, k, c, c', hj, _, _, b, _, _ => by simp at hj
  | x :: L, hn, j, k, c, c', hj, hk, hne, b, hb, hb' => by
    rw [List.flatMap_cons] at hn
    obtain ⟨_, hn2, hd⟩ := List.nodup_append.1 hn
    cases j with
    | zero =>
      cases k with
      | zero => exact hne rfl
      | succ k =>
        simp at hj hk
        subst hj
        exact hd b hb b (List.mem_flatMap.2 ⟨c', List.mem_of_getElem? hk, hb'⟩) rfl
    | succ j =>
      cases k with
      | zero =>
        simp at hj hk
        subst hk
        exact hd b hb' b (List.mem_flatMap.2 ⟨c, List.mem_of_getElem? hj, hb⟩) rfl
      | succ k => exact foot_disj hn2 (by simpa using hj) (by simpa using hk) (fun e => hne (by rw [e])) b hb hb'

theorem nodup_set : ∀ {L : List Chunk} (hn : (L.flatMap Chunk.foot).Nodup) {j : Nat} {c : Chunk} (c' : Chunk), L[j]? = some c → c'.foot.Nodup →
    (∀ b ∈ c'.foot, b ∈ c.foot ∨ b ∉ L.flatMap Chunk.foot) → ((L.set j c').flatMap Chunk.foot).Nodup
  | [], _, j, c, c', hj, _, _ => by simp at hj
  | x :: L, hn, 0, c, c', hj, h1, h2 => by
    simp at hj
    subst hj
    rw [List.flatMap_cons] at hn
    obtain ⟨_, hn2, hd⟩ := List.nodup_append.1 hn
    simp only [List.set_cons_zero, List.flatMap_cons]
    refine List.nodup_append.2 ⟨h1, hn2, fun p hp q hq e => ?_⟩
    subst e
    rcases h2 p hp with h | h
    · exact hd p h p hq rfl
    · exact h (by simp only [List.flatMap_cons, List.mem_append]; exact .inr hq)
  | x :: L, hn, j + 1, c, c', hj, h1, h2 => by
    rw [List.flatMap_cons] at hn
    obtain ⟨hn1, hn2, hd⟩ := List.nodup_append.1 hn
    simp only [List.set_cons_succ, List.flatMap_cons]
    have hj' : L[j]? = some c := by simpa using hj
    refine List.nodup_append.2 ⟨hn1, nodup_set hn2 c' hj' h1 fun b hb => ?_, fun p hp q hq e => ?_⟩
    · rcases h2 b hb with h | h
      · exact .inl h
      · exact .inr fun hb' => h (by simp only [List.flatMap_cons, List.mem_append]; exact .inr hb')
    · subst e
      obtain ⟨y, hy, hpy⟩ := List.mem_flatMap.1 hq
      rcases List.mem_or_eq_of_mem_set hy with hy | rfl
      · exact hd p hp p (List.mem_flatMap.2 ⟨y, hy, hpy⟩) rfl
      · rcases h2 p hpy with h | h
        · exact hd p hp p (List.mem_flatMap.2 ⟨c, List.mem_of_getElem? hj', h⟩) rfl
        · exact h (by simp only [List.flatMap_cons, List.mem_append]; exact .inl hp)

/-- One chunk is another one behind a step; all else stands. -/
theorem St.swap (h : St n C K L E a w) {j : Nat} {c : Chunk} (hj : L[j]? = some c) (c' : Chunk) (hsame : ∀ b, b ∉ c.foot → b < w.heap.size → w'.heap[b]? = w.heap[b]?)
    (hc : c'.holds (hp w')) (hnd : c'.foot.Nodup) (hf : ∀ b ∈ c'.foot, b ∈ c.foot ∨ w.heap.size ≤ b) (hsz : w.heap.size ≤ w'.heap.size)
    (hos : w'.os = w.os) (htape : w'.tape = w.tape) (hout : w'.output = w.output) : St n C K (L.set j c') E a w' := by
  have hfl := h.foot_lt
  have hcm : ∀ b ∈ c.foot, b ∈ L.flatMap Chunk.foot := fun b hb => List.mem_flatMap.2 ⟨c, List.mem_of_getElem? hj, hb⟩
  have hmem : ∀ b ∈ (L.set j c').flatMap Chunk.foot, b ∈ L.flatMap Chunk.foot ∨ w.heap.size ≤ b := by
    intro b hb
    obtain ⟨y, hy, hby⟩ := List.mem_flatMap.1 hb
    rcases List.mem_or_eq_of_mem_set hy with hy | rfl
    · exact .inl (List.mem_flatMap.2 ⟨y, hy, hby⟩)
    · rcases hf b hby with h' | h'
      · exact .inl (hcm b h')
      · exact .inr h'
  refine { h with
    know := fun b o hk => ?_
    own := fun c2 hc2 => ?_
    nodup := ?_
    apart := ?_
    fresh := ?_
    frame := fun b o hb hm => ?_
    grew := Nat.le_trans h.grew hsz
    os := hos.trans h.os
    tape := htape.trans h.tape
    outp := hout.trans h.outp }
  · show w'.heap[b]? = some o
    rw [hsame b (fun hb => h.apart b (hcm b hb) o hk) (h.know_lt hk)]
    exact h.know b o hk
  · obtain ⟨k, hk⟩ := List.mem_iff_getElem?.1 hc2
    rw [List.getElem?_set] at hk
    split at hk
    · split at hk
      · cases hk; exact hc
      · cases hk
    · rename_i hne
      have hc2' := h.own c2 (List.mem_of_getElem? hk)
      refine hc2'.local fun b hb o ho => ?_
      show w'.heap[b]? = some o
      rw [hsame b (fun hb' => foot_disj h.nodup hj hk hne b hb' hb) (hc2'.lt b hb)]
      exact ho
  · exact nodup_set h.nodup c' hj hnd fun b hb => (hf b hb).imp_right fun hge hb' => by have := hfl b hb'; omega
  · intro b hb o hk
    rcases hmem b hb with hb | hb
    · exact h.apart b hb o hk
    · have := h.know_lt hk; omega
  · intro b hb
    rcases hmem b hb with hb | hb
    · exact h.fresh b hb
    · exact .inl (Nat.le_trans h.grew hb)
  · have hlt : b < w.heap.size := (Array.getElem?_eq_some_iff.1 (h.frame b o hb hm)).1
    rw [hsame b (fun hbc => ?_) hlt]
    · exact h.frame b o hb hm
    · rcases h.fresh b (hcm b hbc) with h' | h'
      · have := (Array.getElem?_eq_some_iff.1 hb).1; omega
      · exact hm h'

/-- Chunks told otherwise. -/
theorem St.reshape (h : St n C K L E a w) {L' : List Chunk} (hh : ∀ K' : Know, (∀ c ∈ L, c.holds K') → ∀ c ∈ L', c.holds K')
    (hf : (L'.flatMap Chunk.foot).Sublist (L.flatMap Chunk.foot) ∨ (L'.flatMap Chunk.foot).Perm (L.flatMap Chunk.foot)) : St n C K L' E a w := by
  have hsub : ∀ b ∈ L'.flatMap Chunk.foot, b ∈ L.flatMap Chunk.foot := fun b hb => by
    rcases hf with hf | hf
    · exact hf.subset hb
    · exact hf.subset hb
  have hnd : (L'.flatMap Chunk.foot).Nodup := by
    rcases hf with hf | hf
    · exact hf.nodup h.nodup
    · exact hf.nodup_iff.2 h.nodup
  exact { h with
    own := hh _ h.own
    nodup := hnd
    apart := fun b hb => h.apart b (hsub b hb)
    fresh := fun b hb => h.fresh b (hsub b hb) }
end

/-! ### where a cell's value is known from -/
section
variable {P : Program} {n : Nat} {C : Ctx} {K : Know} {L : List Chunk} {E : Env} {ex : Option Value} {ops : List Oper} {Q : Act → World → Prop}

/-- The blocks that need not stand still are those of one chunk, and it isn't that one. -/
def exOk (ex : Option Value) (L : List Chunk) (j : Nat) : Prop := ∀ v, ex = some v → ∃ (k : Nat) (c : Chunk), k ≠ j ∧ L[k]? = some c ∧ c.foot = footV v
def exK (ex : Option Value) (L : List Chunk) : Prop := ∀ v, ex = some v → ∃ (k : Nat) (c : Chunk), L[k]? = some c ∧ c.foot = footV v
theorem exOk_none {L : List Chunk} {j : Nat} : exOk none L j := fun v e => by cases e
theorem exK_none {L : List Chunk} : exK none L := fun v e => by cases e
theorem exOk_at {L : List Chunk} {j : Nat} {v : Value} (k : Nat) {c : Chunk} (hne : Nat.beq k j = false) (hk : L[k]? = some c) (hf : c.foot = footV v) : exOk (some v) L j :=
  fun u e => by cases e; exact ⟨k, c, fun h => by subst h; simp at hne, hk, hf⟩
theorem exK_at {L : List Chunk} {v : Value} (k : Nat) {c : Chunk} (hk : L[k]? = some c) (hf : c.foot = footV v) : exK (some v) L :=
  fun u e => by cases e; exact ⟨k, c, hk, hf⟩

theorem St.still {a : Act} {w w' : World} (h : St n C K L E a w) {s : Bool} (hr : Md.reach ex (.ld s) w w') {b : Nat} (hb : s = true → ∀ v, ex = some v → b ∉ footV v) {o : Obj} (ho : w.heap[b]? = some o) : w'.heap[b]? = some o := by
  cases s with
  | true => exact hr b o (hb rfl) ho
  | false => cases hr; exact ho

/-- In every state, and in all worlds that can be reached meanwhile, the cell has the value. -/
def Cel (n : Nat) (C : Ctx) (K : Know) (L : List Chunk) (ex : Option Value) (s : Bool) (ad : Addr) (v : Value) : Prop :=
  ∀ E a w, St n C K L E a w → ∀ w', Md.reach ex (.ld s) w w' → w'.cell? ad = some v

theorem cel_of {w : World} {b off : Nat} {arr : Array Value} {T : TypeId} {fr : Nat × Nat} {v : Value} (h : w.heap[b]? = some (.cells arr T fr)) (hv : arr[off]? = some v) : w.cell? ⟨b, off, none⟩ = some v := by
  simp [World.cell?, h, hv]

theorem cel_blk {s : Bool} (j : Nat) {b off : Nat} {cs : List Value} {Ty : TypeId} {v : Value} (hj : L[j]? = some (.blk b cs Ty)) (hv : cs[off]? = some v) (hx : s = true → exOk ex L j) : Cel n C K L ex s ⟨b, off, none⟩ v := by
  intro E a w st w' hr
  have h0 : w.heap[b]? = some (.cells cs.toArray Ty (0, 0)) := st.own _ (List.mem_of_getElem? hj)
  refine cel_of (st.still hr (fun hs u hu hb => ?_) h0) (by simpa using hv)
  obtain ⟨k, c, hne, hk, hf⟩ := hx hs u hu
  exact foot_disj st.nodup hj hk (Ne.symm hne) b (by simp [Chunk.foot]) (hf ▸ hb)

theorem cel_K {s : Bool} {b off : Nat} {arr : Array Value} {Ty : TypeId} {fr : Nat × Nat} {v : Value} (hk : K b (.cells arr Ty fr)) (hv : arr[off]? = some v) (hx : s = true → exK ex L) : Cel n C K L ex s ⟨b, off, none⟩ v := by
  intro E a w st w' hr
  refine cel_of (st.still hr (fun hs u hu hb => ?_) (st.know _ _ hk)) hv
  obtain ⟨k, c, hk', hf⟩ := hx hs u hu
  exact st.apart b (List.mem_flatMap.2 ⟨c, List.mem_of_getElem? hk', hf ▸ hb⟩) _ hk

theorem cel_row {α : Type} {s : Bool} (j : Nat) {l : Lay α} {Ty : TypeId} {u : Value} {xs : List α} {i jj : Nat} {v : Value} (hj : L[j]? = some (.row l Ty u xs)) (hi : i < xs.length) (hv : (l.f xs[i])[jj]? = some v)
    (hx : s = true → exOk ex L j) : Cel n C K L ex s (sAddr u (i * l.sz + jj)) v := by
  intro E a w st w' hr
  have h0 : (Chunk.row l Ty u xs).holds (hp w) := st.own _ (List.mem_of_getElem? hj)
  obtain ⟨A, c, b, o, arr, T', fr, e1, e2, hb, hc⟩ := h0.fl.get hi
  have hjj : jj < l.sz := by
    have := (List.getElem?_eq_some_iff.1 hv).1
    rwa [l.len] at this
  subst e2; subst e1
  have e3 : sAddr (.slice (some ⟨b, o, none⟩) xs.length c) (i * l.sz + jj) = ⟨b, o + (i * l.sz + jj), none⟩ := rfl
  rw [e3]
  refine cel_of (st.still hr (fun hs u hu hb' => ?_) hb) (by rw [hc jj hjj]; exact hv)
  obtain ⟨k, c', hne, hk, hf⟩ := hx hs u hu
  exact foot_disj st.nodup hj hk (Ne.symm hne) b (by simp [Chunk.foot, footV]) (hf ▸ hb')

theorem cel_fl {α : Type} {s : Bool} {l : Lay α} {u : Value} {xs : List α} {i jj : Nat} {v : Value} (hF : Fl K l u xs) (hi : i < xs.length) (hv : (l.f xs[i])[jj]? = some v)
    (hx : s = true → exK ex L) : Cel n C K L ex s (sAddr u (i * l.sz + jj)) v := by
  intro E a w st w' hr
  obtain ⟨A, c, b, o, arr, T', fr, e1, e2, hb, hc⟩ := hF.get hi
  have hjj : jj < l.sz := by
    have := (List.getElem?_eq_some_iff.1 hv).1
    rwa [l.len] at this
  subst e2; subst e1
  have e3 : sAddr (.slice (some ⟨b, o, none⟩) xs.length c) (i * l.sz + jj) = ⟨b, o + (i * l.sz + jj), none⟩ := rfl
  rw [e3]
  exact cel_K hb (by rw [hc jj hjj]; exact hv) hx E a w st w' hr

/-- Cells side by side. -/
def Cels (n : Nat) (C : Ctx) (K : Know) (L : List Chunk) (ex : Option Value) (s : Bool) (ad : Addr) (vs : List Value) : Prop :=
  ∀ k v, vs[k]? = some v → Cel n C K L ex s (ad.add k) v

theorem Addr.add_none (b o k : Nat) : (⟨b, o, none⟩ : Addr).add k = ⟨b, o + k, none⟩ := by unfold Addr.add; split <;> simp_all
theorem sAddr_add (u : Value) (k j : Nat) : (sAddr u k).add j = sAddr u (k + j) := by
  unfold Addr.add
  split
  · rename_i h; subst h; rfl
  · unfold sAddr; split <;> simp [Nat.add_assoc]

theorem cels_blk {s : Bool} (j : Nat) {b : Nat} {cs : List Value} {Ty : TypeId} (hj : L[j]? = some (.blk b cs Ty)) (hx : s = true → exOk ex L j) : Cels n C K L ex s ⟨b, 0, none⟩ cs := fun k v hv => by
  rw [Addr.add_none]; exact cel_blk j hj (by simpa using hv) hx
theorem cels_K {s : Bool} {b : Nat} {cs : List Value} {Ty : TypeId} {fr : Nat × Nat} (hk : K b (.cells cs.toArray Ty fr)) (hx : s = true → exK ex L) : Cels n C K L ex s ⟨b, 0, none⟩ cs := fun k v hv => by
  rw [Addr.add_none]; exact cel_K hk (by simpa using hv) hx
theorem cels_row {α : Type} {s : Bool} (j : Nat) {l : Lay α} {Ty : TypeId} {u : Value} {xs : List α} {i : Nat} (hj : L[j]? = some (.row l Ty u xs)) (hi : i < xs.length) (hx : s = true → exOk ex L j) :
    Cels n C K L ex s (sAddr u (i * l.sz)) (l.f xs[i]) := fun k v hv => by
  rw [sAddr_add]; exact cel_row j hj hi hv hx
theorem cels_fl {α : Type} {s : Bool} {l : Lay α} {u : Value} {xs : List α} {i : Nat} (hF : Fl K l u xs) (hi : i < xs.length) (hx : s = true → exK ex L) :
    Cels n C K L ex s (sAddr u (i * l.sz)) (l.f xs[i]) := fun k v hv => by
  rw [sAddr_add]; exact cel_fl hF hi hv hx

/-! ### loads and addresses -/
variable {i d ty : Nat} {pos : String} {af : Array Edge} {g : Option (Nat × Bool)} {r : Ord} (Tb : Tab P)

theorem run_sizeOf {t m : Nat} (h : (P.info? t).map (·.size) = some m) (w : World) : (sizeOf t).run P w = .ok m w := by
  cases hi : P.info? t with
  | none => simp [hi] at h
  | some i => simp [hi] at h; simp [sizeOf, typeInfo, hi, h]

theorem r_load {s : Bool} {x : Operand} {t : Nat} {ad : Addr} {v : Value} (ho : nth ops i = some ⟨some d, .load t x, ty, pos, af, g⟩) (hw : wantE ops E g = some true) (hdn : Nat.blt d n = true)
    (hx : ev E x = some (.pointer (some ad))) (h1 : Tb.one t = true) (hc : Cel n C K L ex s ad v)
    (h : T n C K L ((d, v) :: E) (wpR P ex ops Q r)) : T n C K L E (wpR P ex ops Q (.step i (.ld s) r)) :=
  rt_ld ho hw rfl hdn (fun a w st w' hr => by
    obtain ⟨⟨ds, hu, hd⟩, hs⟩ := Tb.oneOk t h1
    have hcell := hc E a w st w' hr
    have hagg : (isAgg t).run P w' = .ok false w' := by
      unfold isAgg
      simp only [Sem.run_bind, run_underlying hu, Result.andThen_ok]
      split <;> simp_all
    simp [execOp, st.eval hx, Instr.loadAt, Instr.sureAddr, loadVar, hagg, hcell]) h

theorem r_loadA {s : Bool} {x : Operand} {t m : Nat} {ad : Addr} {vs : List Value} (ho : nth ops i = some ⟨some d, .load t x, ty, pos, af, g⟩) (hw : wantE ops E g = some true) (hdn : Nat.blt d n = true)
    (hx : ev E x = some (.pointer (some ad))) (h1 : Tb.agg t = some m) (hc : Cels n C K L ex s ad vs) (hm : vs.length = m)
    (h : T n C K L ((d, .agg vs.toArray) :: E) (wpR P ex ops Q r)) : T n C K L E (wpR P ex ops Q (.step i (.ld s) r)) :=
  rt_ld ho hw rfl hdn (fun a w st w' hr => by
    obtain ⟨⟨fs, hu⟩, hs⟩ := Tb.aggOk t m h1
    have hagg : (isAgg t).run P w' = .ok true w' := by
      unfold isAgg
      simp [run_underlying hu]
    subst hm
    have hl := run_loadCells_list (P := P) w' ad vs (fun k v hv => hc k v hv E a w st w' hr)
    simp [execOp, st.eval hx, Instr.loadAt, Instr.sureAddr, loadVar, hagg, run_sizeOf hs, hl]) h

theorem run_fieldAt {t k off : Nat} (h : Tb.fld t k = some off) {ad : Addr} (w : World) : (Instr.fieldAt t (.pointer (some ad)) k).run P w = .ok (.pointer (some (ad.add off))) w := by
  obtain ⟨fs, f, hu, hf, rfl, i, hi, hsz⟩ := Tb.fldOk t k off h
  have hsz' : (sizeOf f.type).run P w = .ok i.size w := run_sizeOf (by simp [hi]) w
  simp [Instr.fieldAt, run_underlying hu, hf, Instr.sureAddr, fieldPlace, hsz', hsz]

theorem r_field {x : Operand} {t k off b o : Nat} (ho : nth ops i = some ⟨some d, .fieldAddr t x k, ty, pos, af, g⟩) (hw : wantE ops E g = some true) (hdn : Nat.blt d n = true)
    (hx : ev E x = some (.pointer (some ⟨b, o, none⟩))) (hf : Tb.fld t k = some off)
    (h : T n C K L ((d, .pointer (some ⟨b, o + off, none⟩)) :: E) (wpR P ex ops Q r)) : T n C K L E (wpR P ex ops Q (.step i .pur r)) :=
  rt_pur ho hw rfl hdn (fun a w st w' => by simp [execOp, st.eval hx, run_fieldAt Tb hf, Addr.add_none]) h
theorem r_fieldS {x : Operand} {t k off q : Nat} {u : Value} (ho : nth ops i = some ⟨some d, .fieldAddr t x k, ty, pos, af, g⟩) (hw : wantE ops E g = some true) (hdn : Nat.blt d n = true)
    (hx : ev E x = some (.pointer (some (sAddr u q)))) (hf : Tb.fld t k = some off)
    (h : T n C K L ((d, .pointer (some (sAddr u (q + off)))) :: E) (wpR P ex ops Q r)) : T n C K L E (wpR P ex ops Q (.step i .pur r)) :=
  rt_pur ho hw rfl hdn (fun a w st w' => by simp [execOp, st.eval hx, run_fieldAt Tb hf, sAddr_add]) h

/-- How long a slice is, in every state. -/
def Len (n : Nat) (C : Ctx) (K : Know) (L : List Chunk) (u : Value) (m : Nat) : Prop := ∀ E a w, St n C K L E a w → ∃ A c, u = .slice A m c ∧ (0 < m → ∃ b o, A = some ⟨b, o, none⟩)
theorem Fl.len {α : Type} {K : Know} {l : Lay α} {u : Value} {xs : List α} (h : Fl K l u xs) : ∃ A c, u = .slice A xs.length c ∧ (0 < xs.length → ∃ b o, A = some ⟨b, o, none⟩) := by
  obtain ⟨A, c, e, _, _, h3⟩ := h
  refine ⟨A, c, e, fun h0 => ?_⟩
  obtain ⟨b, o, _, _, _, ea, _⟩ := h3 (by intro e; simp [e] at h0)
  exact ⟨b, o, ea⟩
theorem len_row {α : Type} (j : Nat) {l : Lay α} {Ty : TypeId} {u : Value} {xs : List α} (hj : L[j]? = some (.row l Ty u xs)) : Len n C K L u xs.length := fun E a w st =>
  (show (Chunk.row l Ty u xs).holds (hp w) from st.own _ (List.mem_of_getElem? hj)).fl.len
theorem len_fl {α : Type} {l : Lay α} {u : Value} {xs : List α} (h : Fl K l u xs) : Len n C K L u xs.length := fun E a w st => h.len

theorem r_len {x : Operand} {t e sz : Nat} {u : Value} {m : Nat} (ho : nth ops i = some ⟨some d, .call ⟨.builtin .len, #[x], #[t]⟩, ty, pos, af, g⟩) (hw : wantE ops E g = some true) (hdn : Nat.blt d n = true)
    (hx : ev E x = some u) (ht : Tb.slc t = some (e, sz)) (hl : Len n C K L u m)
    (h : T n C K L ((d, .int .i64 (m : Int)) :: E) (wpR P ex ops Q r)) : T n C K L E (wpR P ex ops Q (.step i .pur r)) :=
  rt_pur ho hw rfl hdn (fun a w st w' => by
    obtain ⟨A, c, rfl, _⟩ := hl E a w st
    obtain ⟨hu, _⟩ := Tb.slcOk t e sz ht
    simp [execOp, resolve, st.eval hx, invoke, Go.builtin, Builtin.len_, run_underlying hu, goInt]) h

theorem r_index {x ix : Operand} {t e sz : Nat} {u : Value} {m : Nat} {iv : Int} {kd : IntKind} (k : Nat) (ho : nth ops i = some ⟨some d, .indexAddr t x ix, ty, pos, af, g⟩) (hw : wantE ops E g = some true) (hdn : Nat.blt d n = true)
    (hx : ev E x = some u) (hi : ev E ix = some (.int kd iv)) (ht : Tb.slc t = some (e, sz)) (hl : Len n C K L u m) (hk : iv = (k : Int)) (hlt : k < m)
    (h : T n C K L ((d, .pointer (some (sAddr u (k * sz)))) :: E) (wpR P ex ops Q r)) : T n C K L E (wpR P ex ops Q (.step i .pur r)) :=
  rt_pur ho hw rfl hdn (fun a w st w' => by
    obtain ⟨A, c, rfl, hA⟩ := hl E a w st
    obtain ⟨b, o, rfl⟩ := hA (by omega)
    obtain ⟨hu, hs⟩ := Tb.slcOk t e sz ht
    subst hk
    have hlt' : (k : Int) < (m : Int) := by omega
    simp [execOp, st.eval hx, st.eval hi, Instr.indexAt, asIntOf, run_underlying hu, run_sizeOf hs, hlt, Addr.add_none, sAddr]) h

end
end Go.Y
