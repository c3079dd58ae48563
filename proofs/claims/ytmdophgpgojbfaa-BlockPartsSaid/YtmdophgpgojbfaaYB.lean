/-
  The calculus 'Y': regions, in the text's order or in any order that the edges allow.
-/
import Derived.Test.YtmdophgpgojbfaaYA
namespace Go.Y
set_option linter.unusedVariables false
set_option linter.unusedSimpArgs false

/-- How an operation is met: pure; a load (told: its block stands still); an event (told: it leaves the still blocks alone). -/
inductive Md where
  | pur
  | ld (still : Bool)
  | evt (still : Bool)
  deriving DecidableEq

inductive Ord where
  | done
  | step (i : Nat) (m : Md) (r : Ord)
  | fork (l r : Ord)

/-- The blocks that stand still while a region goes on: all, or all but a slice's. -/
def Stab (ex : Option Value) (w w' : World) : Prop :=
  ∀ b o, (∀ v, ex = some v → b ∉ footV v) → w.heap[b]? = some o → w'.heap[b]? = some o
theorem Stab.refl (ex : Option Value) (w : World) : Stab ex w w := fun _ _ _ h => h
theorem Stab.trans {ex : Option Value} {w w' w'' : World} (h : Stab ex w w') (h' : Stab ex w' w'') : Stab ex w w'' := fun b o hb k => h' b o hb (h b o hb k)

def Md.reach (ex : Option Value) : Md → World → World → Prop
  | .pur, _, _ => True
  | .ld true, w, w' => Stab ex w w'
  | .ld false, w, w' => w' = w
  | .evt _, w, w' => w' = w

def nth : List Oper → Nat → Option Oper
  | [], _ => none
  | o :: _, 0 => some o
  | _ :: r, i + 1 => nth r i
theorem nth_eq (l : List Oper) (i : Nat) : nth l i = l[i]? := by
  induction l generalizing i with
  | nil => simp [nth]
  | cons o r ih => cases i <;> simp [nth, ih]

/-- One operation, strictly: it yields a value. -/
def opG (P : Program) (o : Oper) (a : Act) (w : World) (next : Value → World → Prop) : Prop :=
  match (execOp a.eval o).run P w with
  | .ok (.value v) w' => next v w'
  | .ok .skip w' => next undef w'
  | .ok (.enter f args) w' => Calls P f args w' fun e w'' => ∃ v, e = .returned v ∧ next v w''
  | _ => False

theorem opG.mono {P : Program} {o : Oper} {a : Act} {w : World} {N N' : Value → World → Prop} (h : opG P o a w N) (hh : ∀ v w, N v w → N' v w) : opG P o a w N' := by
  unfold opG at *
  split at h
  · exact hh _ _ h
  · exact hh _ _ h
  · exact Calls.mono h fun e w' ⟨v, he, hn⟩ => ⟨v, he, hh _ _ hn⟩
  · exact h.elim

theorem opG.wp {P : Program} {o : Oper} {a : Act} {w : World} {N : Act → World → Prop} {Q : Exit → Act → World → Prop} (h : opG P o a w fun v w' => N (a.put o.dst v) w') : o.wp P a w N Q := by
  unfold opG at h
  unfold Oper.wp
  generalize (execOp a.eval o).run P w = r at *
  cases r with
  | halt x w' => exact h.elim
  | ok x w' =>
    cases x <;> first
      | exact h
      | exact h.elim
      | exact Calls.mono h fun e w'' ⟨v, he, hn⟩ => by subst he; exact hn

def wantedE (ops : List Oper) (o : Oper) (a : Act) : Bool := Region.wanted o (yielded ops.toArray a.tmps)

/-- A float yields its value in all worlds that can be reached meanwhile. -/
def YR (P : Program) (ex : Option Value) (ops : List Oper) (m : Md) (o : Oper) (v : Value) (a : Act) (w : World) : Prop :=
  (wantedE ops o a = true ∧ ∀ w', m.reach ex w w' → (execOp a.eval o).run P w' = .ok (.value v) w') ∨ (wantedE ops o a = false ∧ v = undef)

def wpR (P : Program) (ex : Option Value) (ops : List Oper) (Q : Act → World → Prop) : Ord → Act → World → Prop
  | .done, a, w => Q a w
  | .step i (.evt s) r, a, w => ∃ o, nth ops i = some o ∧
      ((wantedE ops o a = true ∧ opG P o a w fun v w' => (s = true → Stab ex w w') ∧ wpR P ex ops Q r (a.put o.dst v) w') ∨
       (wantedE ops o a = false ∧ wpR P ex ops Q r (a.put o.dst undef) w))
  | .step i m r, a, w => ∃ o v, nth ops i = some o ∧ YR P ex ops m o v a w ∧ wpR P ex ops Q r (a.put o.dst v) w
  | .fork l r, a, w => wpR P ex ops Q l a w ∧ wpR P ex ops Q r a w

section
variable {P : Program} {ex : Option Value} {ops : List Oper} {Q : Act → World → Prop}

theorem YR.upon {m : Md} {o : Oper} {v : Value} {a : Act} {w : World} (h : YR P ex ops m o v a w) (hm : ∀ w, m.reach ex w w) {N : Act → World → Prop} (hn : N (a.put o.dst v) w) :
    (wantedE ops o a = true ∧ opG P o a w fun v w' => N (a.put o.dst v) w') ∨ (wantedE ops o a = false ∧ N (a.put o.dst undef) w) := by
  rcases h with ⟨hw, hr⟩ | ⟨hw, rfl⟩
  · refine .inl ⟨hw, ?_⟩
    unfold opG
    rw [hr w (hm w)]
    exact hn
  · exact .inr ⟨hw, hn⟩

theorem Md.reach_refl (m : Md) (ex : Option Value) (w : World) : m.reach ex w w := by
  cases m with
  | pur => trivial
  | ld s => cases s <;> first | rfl | exact Stab.refl _ _
  | evt s => rfl

/-! #### the text's order -/
def seqOrd : List Md → Nat → Ord
  | [], _ => .done
  | m :: r, i => .step i m (seqOrd r (i + 1))

theorem wpR_text : ∀ (ms : List Md) (k : Nat), k + ms.length = ops.length → ∀ (a : Act) (w : World), wpR P ex ops Q (seqOrd ms k) a w →
    ∀ (Q' : Exit → Act → World → Prop), (∀ a w, Q a w → Q' .normal a w) → wpOps P ops.toArray Q' (List.range' k ms.length) a w := by
  intro ms
  induction ms with
  | nil => intro k _ a w h Q' hq; exact hq _ _ h
  | cons m r ih =>
    intro k hk a w h Q' hq
    have hlen : k + 1 + r.length = ops.length := by simp at hk; omega
    simp only [List.length_cons, List.range'_succ, wpOps, List.getElem?_toArray]
    have key : ∃ o, ops[k]? = some o ∧ ((wantedE ops o a = true ∧ opG P o a w fun v w' => wpR P ex ops Q (seqOrd r (k + 1)) (a.put o.dst v) w') ∨
        (wantedE ops o a = false ∧ wpR P ex ops Q (seqOrd r (k + 1)) (a.put o.dst undef) w)) := by
      cases m with
      | evt s =>
        obtain ⟨o, ho, h⟩ := h
        refine ⟨o, nth_eq ops k ▸ ho, ?_⟩
        rcases h with ⟨hw, h⟩ | h
        · exact .inl ⟨hw, h.mono fun _ _ x => x.2⟩
        · exact .inr h
      | pur =>
        obtain ⟨o, v, ho, hy, hn⟩ := h
        exact ⟨o, nth_eq ops k ▸ ho, hy.upon (Md.reach_refl _ _) hn⟩
      | ld s =>
        obtain ⟨o, v, ho, hy, hn⟩ := h
        exact ⟨o, nth_eq ops k ▸ ho, hy.upon (Md.reach_refl _ _) hn⟩
    obtain ⟨o, ho, h⟩ := key
    simp only [ho]
    rcases h with ⟨hw, h⟩ | ⟨hw, h⟩
    · unfold wantedE at hw
      rw [if_pos hw]
      exact .inl (opG.wp (h.mono fun v w' hn => ih (k + 1) hlen _ _ hn Q' hq))
    · unfold wantedE at hw
      rw [if_neg (by simp [hw])]
      exact ih (k + 1) hlen _ _ h Q' hq

theorem wp_region_text {id : Nat} {Q : Exit → Act → World → Prop} (ms : List Md) (hl : ms.length = ops.length) {a : Act} {w : World}
    (h : wpR P none ops (Q .normal) (seqOrd ms 0) a w) : (Code.region id ops.toArray false).wp P Q a w :=
  wp_region (by
    have := wpR_text ms 0 (by omega) a w h Q (fun _ _ h => h)
    rw [hl] at this
    rw [List.range_eq_range']
    simpa using this)

/-! #### any order -/
/-- The events' and loads' words are kept in one table: number, is it told 'still'? -/
def opsX (P : Program) (ops : List Oper) (i : Nat) (K : Act → World → Prop) (a : Act) (w : World) : Prop :=
  ∃ o, ops[i]? = some o ∧ ((wantedE ops o a = true ∧ opG P o a w fun v w' => K (a.put o.dst v) w') ∨ (wantedE ops o a = false ∧ K (a.put o.dst undef) w))

theorem opsX.mono {i : Nat} {K K' : Act → World → Prop} {a : Act} {w : World} (h : opsX P ops i K a w) (hk : ∀ a w, K a w → K' a w) : opsX P ops i K' a w := by
  obtain ⟨o, ho, h⟩ := h
  refine ⟨o, ho, ?_⟩
  rcases h with ⟨hw, h⟩ | ⟨hw, h⟩
  · exact .inl ⟨hw, h.mono fun _ _ x => hk _ _ x⟩
  · exact .inr ⟨hw, hk _ _ h⟩

theorem opsX.wpOp {i : Nat} {K : Act → World → Prop} {a : Act} {w : World} {Q' : Exit → Act → World → Prop} (h : opsX P ops i K a w) : wpOp P ops.toArray Q' i K a w := by
  obtain ⟨o, ho, h⟩ := h
  unfold Go.wpOp
  simp only [List.getElem?_toArray, ho]
  rcases h with ⟨hw, h⟩ | ⟨hw, h⟩
  · unfold wantedE at hw
    rw [if_pos hw]; exact .inl (opG.wp h)
  · unfold wantedE at hw
    rw [if_neg (by simp [hw])]; exact h

abbrev rdy (ops : List Oper) (listed : Array Bool) : List Nat := Region.ready .any ops.toArray listed

/-- Whatever order is picked; 'tm i': event i leaves the still blocks alone. -/
def anyX (P : Program) (ex : Option Value) (ops : List Oper) (tm : Nat → Bool) (Q : Act → World → Prop) : Nat → Array Bool → Act → World → Prop
  | 0, listed, a, w => rdy ops listed = [] ∧ Q a w
  | fuel + 1, listed, a, w =>
    (rdy ops listed = [] → Q a w) ∧
    ∀ i ∈ rdy ops listed, opsX P ops i (fun a' w' => (tm i = true → Stab ex w w') ∧ anyX P ex ops tm Q fuel (listed.setIfInBounds i true) a' w') a w

theorem anyX.wpAny {tm : Nat → Bool} {Q' : Exit → Act → World → Prop} (hq : ∀ a w, Q a w → Q' .normal a w) : ∀ (fuel : Nat) (listed : Array Bool) (a : Act) (w : World),
    anyX P ex ops tm Q fuel listed a w → wpAny P .any ops.toArray Q' fuel listed a w
  | 0, _, _, _, h => ⟨h.1, hq _ _ h.2⟩
  | fuel + 1, _, _, _, h => ⟨fun hr => hq _ _ (h.1 hr), fun i hi => ((h.2 i hi).mono fun a' w' h' => anyX.wpAny hq fuel _ a' w' h'.2).wpOp⟩

/-- A float's value does not hang on what stands apart from it. -/
theorem YR.of_same {m : Md} {o : Oper} {v : Value} {a a' : Act} {w w' : World} (hy : YR P ex ops m o v a w) (he : execOp a'.eval o = execOp a.eval o)
    (hw : wantedE ops o a' = wantedE ops o a) (hr : ∀ w'', m.reach ex w' w'' → m.reach ex w w'') : YR P ex ops m o v a' w' := by
  unfold YR at *
  rw [he, hw]
  rcases hy with ⟨h1, h2⟩ | h
  · exact .inl ⟨h1, fun w'' h => h2 w'' (hr w'' h)⟩
  · exact .inr h

theorem opsX_put {tm : Bool} {j : Nat} {oi oj : Oper} {v : Value} {m : Md} (hj : ops[j]? = some oj) (hap : oi.apart ops.toArray oj = true)
    (hsi : ∀ cs b, oi.op ≠ .select cs b) (hsj : ∀ cs b, oj.op ≠ .select cs b) (hreach : ∀ w w', (tm = true → Stab ex w w') → ∀ w'', m.reach ex w' w'' → m.reach ex w w'')
    {K : Act → World → Prop} {a : Act} {w : World} (hy : YR P ex ops m oi v a w) (h : opsX P ops j (fun a' w' => (tm = true → Stab ex w w') ∧ K a' w') (a.put oi.dst v) w) :
    opsX P ops j (fun a' w' => (tm = true → Stab ex w w') ∧ YR P ex ops m oi v a' w' ∧ K (a'.put oi.dst v) w') a w := by
  obtain ⟨h1, h2, h3⟩ := Oper.apart_spec hap
  obtain ⟨o, ho, h⟩ := h
  rw [hj] at ho
  cases ho
  refine ⟨oj, hj, ?_⟩
  have hw : wantedE ops oj (a.put oi.dst v) = wantedE ops oj a := wanted_put oj a oi.dst v h1
  have he : execOp (a.put oi.dst v).eval oj = execOp a.eval oj := execOp_put (ops := ops.toArray) oj hsj a oi.dst v h1
  have keep : ∀ u w', (tm = true → Stab ex w w') → YR P ex ops m oi v (a.put oj.dst u) w' := fun u w' hs =>
    hy.of_same (execOp_put (ops := ops.toArray) oi hsi a oj.dst u h3) (wanted_put oi a oj.dst u h3) (hreach w w' hs)
  rw [hw] at h
  rcases h with ⟨hw, h⟩ | ⟨hw, h⟩
  · refine .inl ⟨hw, ?_⟩
    unfold opG at h ⊢
    rw [he] at h
    generalize (execOp a.eval oj).run P w = r at *
    cases r with
    | halt x w' => exact h.elim
    | ok n w' =>
      cases n <;> first
        | exact h.elim
        | (obtain ⟨hs, hk⟩ := h; exact ⟨hs, keep _ _ hs, by rw [← Act.put_comm a v _ h2]; exact hk⟩)
        | exact Calls.mono h fun e w'' ⟨u, hu, hs, hk⟩ => ⟨u, hu, hs, keep _ _ hs, by rw [← Act.put_comm a v _ h2]; exact hk⟩
  · refine .inr ⟨hw, h.1, keep _ _ h.1, ?_⟩
    rw [← Act.put_comm a v _ h2]
    exact h.2

theorem anyX_first {tm : Nat → Bool} {i : Nat} {oi : Oper} {v : Value} {m : Md} (hi : ops[i]? = some oi) (hsel : ∀ (j : Nat) (o : Oper) cs b, ops[j]? = some o → o.op ≠ .select cs b) :
    ∀ (fuel : Nat) (listed : Array Bool) (a : Act) (w : World),
      (∀ j oj, ops[j]? = some oj → j ≠ i → listed.getD j true = false → (∀ e ∈ oj.after, Region.binds .any e = true → e.on ≠ i) → oi.apart ops.toArray oj = true) →
      (∀ j, j ≠ i → listed.getD j true = false → ∀ w w', (tm j = true → Stab ex w w') → (∃ l, listed.size = l.size ∧ l.getD i true = false ∧ j ∈ rdy ops l) → ∀ w'', m.reach ex w' w'' → m.reach ex w w'') →
      i ∈ rdy ops listed → YR P ex ops m oi v a w →
      anyX P ex ops tm Q fuel (listed.setIfInBounds i true) (a.put oi.dst v) w → anyX P ex ops tm Q (fuel + 1) listed a w := by
  intro fuel
  induction fuel with
  | zero =>
    intro listed a w _ _ hr hy H
    refine ⟨fun h => (by rw [h] at hr; cases hr), fun j hj => ?_⟩
    by_cases hji : j = i
    · subst hji
      exact ⟨oi, hi, hy.upon (Md.reach_refl _ _) (N := fun a' w' => (tm j = true → Stab ex w w') ∧ _) ⟨fun _ => Stab.refl _ _, H⟩⟩
    · have := ready_mono hj hji
      rw [show Region.ready .any ops.toArray (listed.setIfInBounds i true) = [] from H.1] at this
      cases this
  | succ fuel ih =>
    intro listed a w hfree hrea hr hy H
    refine ⟨fun h => (by rw [h] at hr; cases hr), fun j hj => ?_⟩
    by_cases hji : j = i
    · subst hji
      exact ⟨oi, hi, hy.upon (Md.reach_refl _ _) (N := fun a' w' => (tm j = true → Stab ex w w') ∧ _) ⟨fun _ => Stab.refl _ _, H⟩⟩
    · have h1 := H.2 j (ready_mono hj hji)
      obtain ⟨hjun, oj, hoj, hall⟩ := mem_ready.1 hj
      have hoj' : ops[j]? = some oj := by simpa using hoj
      have hiun := (mem_ready.1 hr).1
      have hnot : ∀ e ∈ oj.after, Region.binds .any e = true → e.on ≠ i := fun e he hb heq => by
        have h1 := hall e he hb
        rw [heq] at h1
        rcases Nat.lt_or_ge i listed.size with h' | h'
        · simp [h'] at hiun h1; rw [hiun] at h1; cases h1
        · simp [Array.getElem?_eq_none h'] at h1
      have h2 := opsX_put (m := m) hoj' (hfree j oj hoj' hji hjun hnot) (fun cs b => hsel i oi cs b hi) (fun cs b => hsel j oj cs b hoj')
        (fun w w' hs => hrea j hji hjun w w' hs ⟨listed, rfl, hiun, hj⟩) hy h1
      have hun' : ∀ k, (listed.setIfInBounds j true).getD k true = false → listed.getD k true = false := fun k hun => by
        by_cases hjk : j = k
        · subst hjk; exact hjun
        · rw [getD_set_ne true hjk] at hun; exact hun
      refine h2.mono fun a' w' h3 => ⟨h3.1, ih (listed.setIfInBounds j true) a' w' (fun k ok hk hki hun hno => hfree k ok hk hki (hun' k hun) hno)
        (fun k hki hun w w' hs hl => hrea k hki (hun' k hun) w w' hs (by simpa using hl)) (ready_mono hr (Ne.symm hji)) h3.2.1 ?_⟩
      rw [Array.setIfInBounds_comm _ _ hji]
      exact h3.2.2

/-! #### the look at an order -/
def Ord.alts : Ord → List (Nat × Bool × Ord)
  | .done => []
  | .step i (.evt s) r => [(i, s, r)]
  | .step _ _ _ => []
  | .fork l r => l.alts ++ r.alts

def tmOf (cls : List Md) (i : Nat) : Bool := match cls[i]? with
  | some (.evt s) => s
  | some _ => true
  | none => false

def waitsD (ops : List Oper) (j i : Nat) : Bool := match ops[j]? with
  | some o => o.after.any fun e => Region.binds .any e && e.on == i
  | none => true

def loadOk (ops : List Oper) (cls : List Md) (listed : Array Bool) (i : Nat) (s : Bool) : Bool :=
  (List.range ops.length).all fun j => j == i || listed.getD j true || waitsD ops j i || (s && tmOf cls j)

def chk (ops : List Oper) (cls : List Md) : Nat → Ord → Array Bool → Bool
  | 0, .done, listed => rdy ops listed == []
  | 0, _, _ => false
  | _ + 1, .done, _ => false
  | fuel + 1, .step i .pur r, listed => (rdy ops listed).contains i && Region.free .any ops.toArray listed i && tmOf cls i && chk ops cls fuel r (listed.setIfInBounds i true)
  | fuel + 1, .step i (.ld s) r, listed => (rdy ops listed).contains i && Region.free .any ops.toArray listed i && tmOf cls i && loadOk ops cls listed i s && chk ops cls fuel r (listed.setIfInBounds i true)
  | fuel + 1, .step i (.evt s) r, listed => (rdy ops listed == [i]) && (s == tmOf cls i) && chk ops cls fuel r (listed.setIfInBounds i true)
  | fuel + 1, .fork l r, listed =>
    let as := (Ord.fork l r).alts
    !(rdy ops listed).isEmpty && (rdy ops listed).all (fun i => as.any fun x => x.1 == i) && as.attach.all fun x => (x.1.2.1 == tmOf cls x.1.1) && chk ops cls fuel x.1.2.2 (listed.setIfInBounds x.1.1 true)

theorem wpR_alts {o : Ord} : ∀ {a : Act} {w : World}, wpR P ex ops Q o a w → ∀ x ∈ o.alts, wpR P ex ops Q (.step x.1 (.evt x.2.1) x.2.2) a w := by
  induction o with
  | done => intro a w _ x hx; simp [Ord.alts] at hx
  | step i m r ih =>
    intro a w h x hx
    cases m <;> simp [Ord.alts] at hx
    subst hx
    exact h
  | fork l r ihl ihr =>
    intro a w h x hx
    simp only [Ord.alts, List.mem_append] at hx
    rcases hx with hx | hx
    · exact ihl h.1 x hx
    · exact ihr h.2 x hx

theorem opsX_of_evt {i : Nat} {s : Bool} {r : Ord} {tm : Nat → Bool} (hs : s = tm i) {K : Act → World → Prop} {a : Act} {w : World} (h : wpR P ex ops Q (.step i (.evt s) r) a w)
    (hk : ∀ a w, wpR P ex ops Q r a w → K a w) : opsX P ops i (fun a' w' => (tm i = true → Stab ex w w') ∧ K a' w') a w := by
  obtain ⟨o, ho, h⟩ := h
  refine ⟨o, nth_eq ops i ▸ ho, ?_⟩
  rcases h with ⟨hw, h⟩ | ⟨hw, h⟩
  · exact .inl ⟨hw, h.mono fun v w' x => ⟨fun ht => x.1 (hs ▸ ht), hk _ _ x.2⟩⟩
  · exact .inr ⟨hw, fun _ => Stab.refl _ _, hk _ _ h⟩

theorem anyX_of_chk {cls : List Md} (hsel : Region.noSelect ops.toArray = true) : ∀ (fuel : Nat) (o : Ord) (listed : Array Bool) (a : Act) (w : World),
    chk ops cls fuel o listed = true → wpR P ex ops Q o a w → anyX P ex ops (tmOf cls) Q fuel listed a w := by
  have hsel' : ∀ (j : Nat) (o : Oper) cs b, ops[j]? = some o → o.op ≠ .select cs b := fun j o cs b ho => Region.noSelect_spec hsel j o cs b (by simpa using ho)
  intro fuel
  induction fuel with
  | zero =>
    intro o listed a w hc h
    cases o with
    | done => exact ⟨by simpa [chk] using hc, h⟩
    | step i m r => simp [chk] at hc
    | fork l r => simp [chk] at hc
  | succ fuel ih =>
    intro o listed a w hc h
    have float : ∀ i m r, (m = .pur ∨ ∃ s, m = .ld s) → (rdy ops listed).contains i = true → Region.free .any ops.toArray listed i = true → (∀ s, m = .ld s → loadOk ops cls listed i s = true) →
        chk ops cls fuel r (listed.setIfInBounds i true) = true → (∃ oi v, nth ops i = some oi ∧ YR P ex ops m oi v a w ∧ wpR P ex ops Q r (a.put oi.dst v) w) →
        anyX P ex ops (tmOf cls) Q (fuel + 1) listed a w := by
      intro i m r hm h1 h2 h3 h4 ⟨oi, v, ho, hy, hn⟩
      have ho' : ops[i]? = some oi := nth_eq ops i ▸ ho
      refine anyX_first ho' hsel' fuel listed a w (fun j oj hj => Region.free_spec (by simpa using ho') h2 j oj (by simpa using hj)) ?_ (by simpa using h1) hy (ih r _ _ _ h4 hn)
      intro j hji hjun w1 w2 hs ⟨l, hsz, hil, hjl⟩ w3 hr
      rcases hm with rfl | ⟨s, rfl⟩
      · trivial
      · have hl := h3 s rfl
        unfold loadOk at hl
        obtain ⟨hjun', oj, hoj, hall⟩ := mem_ready.1 hjl
        have hjlt : j < ops.length := by
          have := (Array.getElem?_eq_some_iff.1 hoj).1
          simpa using this
        have h5 := List.all_eq_true.1 hl j (List.mem_range.2 hjlt)
        have h6 : waitsD ops j i = false := by
          cases hw : waitsD ops j i with
          | false => rfl
          | true =>
            exfalso
            unfold waitsD at hw
            have hoj' : ops[j]? = some oj := by simpa using hoj
            simp only [hoj', Array.any_eq_true'] at hw
            obtain ⟨e, he, hb⟩ := hw
            simp only [Bool.and_eq_true, beq_iff_eq] at hb
            have := hall e he hb.1
            rw [hb.2] at this
            rcases Nat.lt_or_ge i l.size with h' | h'
            · simp [h'] at hil this; rw [hil] at this; cases this
            · simp [Array.getElem?_eq_none h'] at this
        simp only [Bool.or_eq_true, beq_iff_eq, hji, false_or, hjun, h6, Bool.false_eq_true, Bool.and_eq_true] at h5
        obtain ⟨rfl, h8⟩ := h5
        exact (hs h8).trans hr
    cases o with
    | done => simp [chk] at hc
    | step i m r =>
      cases m with
      | pur =>
        simp only [chk, Bool.and_eq_true] at hc
        exact float i .pur r (.inl rfl) hc.1.1.1 hc.1.1.2 (fun s e => by cases e) hc.2 h
      | ld s =>
        simp only [chk, Bool.and_eq_true] at hc
        exact float i (.ld s) r (.inr ⟨s, rfl⟩) hc.1.1.1.1 hc.1.1.1.2 (fun s' e => by cases e; exact hc.1.2) hc.2 h
      | evt s =>
        simp only [chk, Bool.and_eq_true, beq_iff_eq] at hc
        obtain ⟨⟨h1, h2⟩, h3⟩ := hc
        refine ⟨fun h0 => by simp [h0] at h1, fun j hj => ?_⟩
        rw [h1] at hj
        obtain rfl : j = i := by simpa using hj
        exact opsX_of_evt h2 h fun a w hn => ih r _ a w h3 hn
    | fork l r =>
      simp only [chk, Bool.and_eq_true] at hc
      obtain ⟨⟨h0, h1⟩, h2⟩ := hc
      refine ⟨fun e => by simp [e] at h0, fun j hj => ?_⟩
      have h3 := List.all_eq_true.1 h1 j hj
      obtain ⟨x, hx, hxe⟩ := List.any_eq_true.1 h3
      obtain rfl : x.1 = j := by simpa using hxe
      have h4 := List.all_eq_true.1 h2 ⟨x, hx⟩ (by simp)
      simp only [Bool.and_eq_true, beq_iff_eq] at h4
      exact opsX_of_evt h4.1 (wpR_alts h x hx) fun a w hn => ih _ _ a w h4.2 hn

theorem wp_region_ord {id : Nat} {Q : Exit → Act → World → Prop} (hm : P.follows .mixedOrders = true) (cls : List Md) (o : Ord)
    (hc : (Region.noSelect ops.toArray && chk ops cls ops.length o (Array.replicate ops.length false)) = true) {a : Act} {w : World}
    (h : wpR P ex ops (Q .normal) o a { w with drawn := w.drawn + 1 }) : (Code.region id ops.toArray true).wp P Q a w := by
  simp only [Bool.and_eq_true] at hc
  refine wp_region_any hm ?_
  have := anyX.wpAny (Q' := Q) (fun _ _ h => h) _ _ _ _ (anyX_of_chk hc.1 _ o _ a _ hc.2 h)
  simpa using this

end
end Go.Y
