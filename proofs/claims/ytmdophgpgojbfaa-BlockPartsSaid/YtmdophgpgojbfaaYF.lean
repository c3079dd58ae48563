/-
  The calculus 'Y': what a call does; entering, returning, calling; loops.
-/
import Derived.Test.YtmdophgpgojbfaaYE
namespace Go.Y
set_option linter.unusedVariables false
set_option linter.unusedSimpArgs false

/-- A state without a frame: what is left of it when a call ends. -/
def Out (C : Ctx) (K : Know) (L : List Chunk) (w : World) : Prop := St 0 C K L [] ⟨#[], []⟩ w
theorem St.toOut {n : Nat} {C : Ctx} {K : Know} {L : List Chunk} {E : Env} {a : Act} {w : World} (h : St n C K L E a w) : Out C K L w :=
  { h with
    size := rfl
    env := fun t v hv => by simp [lk] at hv
    defs := rfl }
theorem Out.st {n : Nat} {C C' : Ctx} {K K' : Know} {L L' : List Chunk} {E : Env} {a : Act} {w w' : World} (h : Out C' K' L' w') (h0 : St n C K L E a w)
    (h1 : St 0 C K' L' [] ⟨#[], []⟩ w') : St n C K' L' E a w' :=
  { h1 with
    size := h0.size
    env := h0.env
    defs := h0.defs }

/-- The part of knowledge that is new since the call began, or was lent. -/
def New (C : Ctx) (K : Know) : Know := fun b o => K b o ∧ (C.w0.heap.size ≤ b ∨ b ∈ C.M)
theorem New.le (C : Ctx) (K : Know) : (New C K).Le K := fun _ _ h => h.1
theorem New.mono {C : Ctx} {K K' : Know} (h : K.Le K') : (New C K).Le (New C K') := fun b o k => ⟨h b o k.1, k.2⟩

def Callable (P : Program) (f : FuncId) : Prop := ∃ fn, P.funcs[f]? = some fn ∧ fn.body.isNone = false ∧ (fn.name == "runtime.NumGoroutine") = false

def Post (C : Ctx) (R : Know → List Chunk → Value → Prop) (e : Ending) (w' : World) : Prop :=
  ∃ v K' L', e = .returned v ∧ R (New C K') L' v ∧ Out C K' L' w'

/-- What a call does: it reads what is known, it may write the chunks that are lent; what it hands back is new, or was lent. -/
def Spec (P : Program) (f : FuncId) (args : Array Value) (K : Know) (Lm : List Chunk) (R : Know → List Chunk → Value → Prop) : Prop :=
  Callable P f ∧ ∀ w, Out ⟨w, Lm.flatMap Chunk.foot, K⟩ K Lm w → Calls P f args w (Post ⟨w, Lm.flatMap Chunk.foot, K⟩ R)

/-- A call that reads, and tells one value that is no address. -/
def Spec0 (P : Program) (f : FuncId) (args : Array Value) (K : Know) (R : Value → Prop) : Prop := Spec P f args K [] fun _ L' v => L' = [] ∧ R v

theorem Spec.mono {P : Program} {f : FuncId} {args : Array Value} {K : Know} {Lm : List Chunk} {R R' : Know → List Chunk → Value → Prop} (h : Spec P f args K Lm R) (hr : ∀ K' L' v, R K' L' v → R' K' L' v) : Spec P f args K Lm R' :=
  ⟨h.1, fun w ho => Calls.mono (h.2 w ho) fun e w' ⟨v, K', L', e1, e2, e3⟩ => ⟨v, K', L', e1, hr _ _ _ e2, e3⟩⟩

def envOf : List Value → Nat → Env
  | [], _ => []
  | v :: r, k => (k, v) :: envOf r (k + 1)

theorem envOf_spec : ∀ (vs : List Value) (k t : Nat) (v : Value), lk (envOf vs k) t = some v → k ≤ t ∧ vs[t - k]? = some v
  | [], k, t, v, h => by simp [envOf, lk] at h
  | u :: vs, k, t, v, h => by
    rw [envOf, lk_cons] at h
    split at h
    · rename_i e; subst e; cases h; simp
    · have := envOf_spec vs (k + 1) t v h
      obtain ⟨h1, h2⟩ := this
      refine ⟨by omega, ?_⟩
      have e : t - k = (t - (k + 1)) + 1 := by omega
      rw [e]
      simpa using h2

theorem spec_enter {P : Program} {f : FuncId} {fn : Func} {c : Code} {vs : List Value} {K : Know} {Lm : List Chunk} {R : Know → List Chunk → Value → Prop} {n : Nat}
    (hf : P.funcs[f]? = some fn) (hb : fn.body = some c) (hname : (fn.name == "runtime.NumGoroutine") = false) (hn : fn.ntmps = n) (hargs : Nat.ble vs.length n = true)
    (h : ∀ C : Ctx, C.K0 = K → C.M = Lm.flatMap Chunk.foot → T n C K Lm (envOf vs 0) (c.wp P (bodyPost P fn (Post C R)))) : Spec P f vs.toArray K Lm R := by
  refine ⟨⟨fn, hf, by simp [hb], hname⟩, fun w ho => calls_of_wp hf hb ?_⟩
  have hle : vs.length ≤ n := Nat.le_of_ble_eq_true hargs
  refine h ⟨w, Lm.flatMap Chunk.foot, K⟩ rfl rfl _ _ { ho with
    size := by simp [hn]; omega
    env := fun t v hv => ?_
    defs := rfl }
  obtain ⟨_, h2⟩ := envOf_spec vs 0 t v hv
  simp only [Nat.sub_zero] at h2
  have hlt := (List.getElem?_eq_some_iff.1 h2).1
  simp only [Array.getD_eq_getD_getElem?]
  rw [Array.getElem?_append_left (by simpa using hlt)]
  simp [h2]

section
variable {P : Program} {n : Nat} {C : Ctx} {K : Know} {L : List Chunk} {E : Env} {ex : Option Value} {ops : List Oper} {Q Φ : Act → World → Prop}

def sel : List Nat → List Chunk → List Chunk × List Chunk
  | [], L => ([], L)
  | j :: js, L => match L[j]? with
    | some c => (c :: (sel js (L.eraseIdx j)).1, (sel js (L.eraseIdx j)).2)
    | none => ([], L)
theorem sel_perm : ∀ (js : List Nat) (L : List Chunk), L.Perm ((sel js L).1 ++ (sel js L).2)
  | [], L => .refl _
  | j :: js, L => by
    unfold sel
    split
    · rename_i c hc
      exact (perm_at hc).trans ((sel_perm js _).cons c)
    · exact .refl _

theorem foot_perm {L L' : List Chunk} (h : L.Perm L') : (L.flatMap Chunk.foot).Perm (L'.flatMap Chunk.foot) := h.flatMap_right Chunk.foot

/-- Some chunks are forgotten, the others stand in another order. -/
theorem St.keep {a : Act} {w : World} (h : St n C K L E a w) {A B : List Chunk} (hp : L.Perm (A ++ B)) : St n C K A E a w := by
  have hfp := foot_perm hp
  have hnd := hfp.nodup_iff.1 h.nodup
  rw [List.flatMap_append] at hnd hfp
  have hsub : ∀ b ∈ A.flatMap Chunk.foot, b ∈ L.flatMap Chunk.foot := fun b hb => hfp.symm.subset (List.mem_append_left _ hb)
  exact { h with
    own := fun c hc => h.own c (hp.symm.subset (List.mem_append_left _ hc))
    nodup := (List.nodup_append.1 hnd).1
    apart := fun b hb => h.apart b (hsub b hb)
    fresh := fun b hb => h.fresh b (hsub b hb) }

theorem rt_keep (js : List Nat) {L' : List Chunk} (hs : (sel js L).1 = L') (h : T n C K L' E Φ) : T n C K L E Φ := fun a w st => h a w (st.keep (hs ▸ sel_perm js L))

theorem rt_ret1 {fn : Func} {R : Know → List Chunk → Value → Prop} {t : Nat} {v : Value} (js : List Nat) {L' : List Chunk} (hr : fn.results = #[.tmp t]) (hv : lk E t = some v) (hs : (sel js L).1 = L') (hR : R (New C K) L' v) :
    T n C K L E (bodyPost P fn (Post C R) .ret) := fun a w st =>
  ⟨st.defs, v, by rw [results_tmp hr, st.env t v hv], v, K, L', rfl, hR, (st.keep (hs ▸ sel_perm js L)).toOut⟩
theorem rt_ret2 {fn : Func} {R : Know → List Chunk → Value → Prop} {t u : Nat} {v x : Value} (js : List Nat) {L' : List Chunk} (hr : fn.results = #[.tmp t, .tmp u]) (hv : lk E t = some v) (hx : lk E u = some x) (hs : (sel js L).1 = L') (hR : R (New C K) L' (.tuple #[v, x])) :
    T n C K L E (bodyPost P fn (Post C R) .ret) := fun a w st =>
  ⟨st.defs, .tuple #[v, x], by rw [results_tmp2 hr, st.env t v hv, st.env u x hx], _, K, L', rfl, hR, (st.keep (hs ▸ sel_perm js L)).toOut⟩
theorem rt_ret3 {fn : Func} {R : Know → List Chunk → Value → Prop} {t u q : Nat} {v x y : Value} (js : List Nat) {L' : List Chunk} (hr : fn.results = #[.tmp t, .tmp u, .tmp q]) (hv : lk E t = some v) (hx : lk E u = some x) (hy : lk E q = some y) (hs : (sel js L).1 = L') (hR : R (New C K) L' (.tuple #[v, x, y])) :
    T n C K L E (bodyPost P fn (Post C R) .ret) := fun a w st =>
  ⟨st.defs, .tuple #[v, x, y], by rw [results_tmp3 hr, st.env t v hv, st.env u x hx, st.env q y hy], _, K, L', rfl, hR, (st.keep (hs ▸ sel_perm js L)).toOut⟩
theorem rt_ret0 {fn : Func} {R : Know → List Chunk → Value → Prop} (js : List Nat) {L' : List Chunk} (hr : fn.results = #[]) (hs : (sel js L).1 = L') (hR : R (New C K) L' (.tuple #[])) :
    T n C K L E (bodyPost P fn (Post C R) .ret) := fun a w st =>
  ⟨st.defs, .tuple #[], by rw [results_none hr], _, K, L', rfl, hR, (st.keep (hs ▸ sel_perm js L)).toOut⟩
theorem rt_end0 {fn : Func} {R : Know → List Chunk → Value → Prop} (js : List Nat) {L' : List Chunk} (hr : fn.results = #[]) (hs : (sel js L).1 = L') (hR : R (New C K) L' (.tuple #[])) :
    T n C K L E (bodyPost P fn (Post C R) .normal) := fun a w st =>
  ⟨st.defs, .tuple #[], by rw [results_none hr], _, K, L', rfl, hR, (st.keep (hs ▸ sel_perm js L)).toOut⟩

/-! ### a call -/
theorem opG_call {d : Option Tmp} {ty : Nat} {pos : String} {af : Array Edge} {g : Option (Nat × Bool)} {fx : Operand} {args : Array Operand} {ats : Array TypeId} {f : FuncId} {us vs cs : List Value} {a : Act} {w : World}
    (st : St n C K L E a w) (hf : ev E fx = some (.func (.func f) us.toArray cs.toArray)) (ha : evs E args.toList = some vs) (hc : Callable P f) {N : Value → World → Prop}
    (h : Calls P f (us ++ vs ++ cs).toArray w fun e w' => ∃ v, e = .returned v ∧ N v w') : opG P ⟨d, .call ⟨.value fx, args, ats⟩, ty, pos, af, g⟩ a w N := by
  obtain ⟨fn, h1, h2, h3⟩ := hc
  have he : args.map a.eval = vs.toArray := by rw [← st.evals ha, ← Array.toList_map]
  have hrun : (execOp a.eval ⟨d, .call ⟨.value fx, args, ats⟩, ty, pos, af, g⟩).run P w = .ok (.enter f (us ++ vs ++ cs).toArray) w := by
    simp only [execOp, Sem.run_bind, resolve, st.eval hf, he, Deferred.ofValue, Sem.run_pure, Result.andThen_ok, invoke, callFunc, run_program, h1, h2, h3]
    simp
  unfold opG
  rw [hrun]
  exact h

variable {i ty : Nat} {pos : String} {af : Array Edge} {g : Option (Nat × Bool)} {r : Ord} {s : Bool}

theorem St.call {a : Act} {w w' : World} {E' : Env} {n' : Nat} {a' : Act} (st : St n C K L E a w) {Lm Lr Lm' : List Chunk} {Kc Kf : Know} (hp : L.Perm (Lm ++ Lr)) (ho : Out ⟨w, Lm.flatMap Chunk.foot, Kc⟩ Kf Lm' w')
    : St n C (fun b o => K b o ∨ New ⟨w, Lm.flatMap Chunk.foot, Kc⟩ Kf b o) (Lm' ++ Lr) E a w' := by
  have hfp := foot_perm hp
  have hnd := hfp.nodup_iff.1 st.nodup
  rw [List.flatMap_append] at hnd hfp
  obtain ⟨hn1, hn2, hd⟩ := List.nodup_append.1 hnd
  have hsubm : ∀ b ∈ Lm.flatMap Chunk.foot, b ∈ L.flatMap Chunk.foot := fun b hb => hfp.symm.subset (List.mem_append_left _ hb)
  have hsubr : ∀ b ∈ Lr.flatMap Chunk.foot, b ∈ L.flatMap Chunk.foot := fun b hb => hfp.symm.subset (List.mem_append_right _ hb)
  have hrm : ∀ b ∈ Lr.flatMap Chunk.foot, b ∉ Lm.flatMap Chunk.foot := fun b hb hb' => hd b hb' b hb rfl
  have hlt := st.foot_lt
  have hgrew : w.heap.size ≤ w'.heap.size := ho.grew
  have keepb : ∀ b o, w.heap[b]? = some o → b ∉ Lm.flatMap Chunk.foot → w'.heap[b]? = some o := ho.frame
  exact { st with
    know := fun b o hk => by
      rcases hk with hk | hk
      · exact keepb b o (st.know b o hk) fun hb => st.apart b (hsubm b hb) o hk
      · exact ho.know b o hk.1
    own := fun c hc => by
      rcases List.mem_append.1 hc with hc | hc
      · exact ho.own c hc
      · exact (st.own c (hp.symm.subset (List.mem_append_right _ hc))).local fun b hb o hk => keepb b o hk (hrm b (List.mem_flatMap.2 ⟨c, hc, hb⟩))
    nodup := by
      rw [List.flatMap_append]
      refine List.nodup_append.2 ⟨ho.nodup, hn2, fun x hx y hy e => ?_⟩
      subst e
      rcases ho.fresh x hx with h | h
      · have := hlt x (hsubr x hy); simp only at h; omega
      · exact hrm x hy h
    apart := fun b hb o hk => by
      rw [List.flatMap_append] at hb
      rcases List.mem_append.1 hb with hb | hb
      · rcases hk with hk | hk
        · rcases ho.fresh b hb with h | h
          · have := st.know_lt hk; simp only at h; omega
          · exact st.apart b (hsubm b h) o hk
        · exact ho.apart b hb o hk.1
      · rcases hk with hk | ⟨hk, h | h⟩
        · exact st.apart b (hsubr b hb) o hk
        · have := hlt b (hsubr b hb); simp only at h; omega
        · exact hrm b hb h
    fresh := fun b hb => by
      rw [List.flatMap_append] at hb
      rcases List.mem_append.1 hb with hb | hb
      · rcases ho.fresh b hb with h | h
        · have := st.grew; simp only at h; exact .inl (by omega)
        · exact st.fresh b (hsubm b h)
      · exact st.fresh b (hsubr b hb)
    knew := fun b o hk => by
      rcases hk with hk | ⟨_, h | h⟩
      · exact st.knew b o hk
      · have := st.grew; simp only at h; exact .inr (.inl (by omega))
      · exact .inr (st.fresh b (hsubm b h))
    frame := fun b o hb hm => keepb b o (st.frame b o hb hm) fun hbm => by
      rcases st.fresh b (hsubm b hbm) with h | h
      · have := (Array.getElem?_eq_some_iff.1 hb).1; omega
      · exact hm h
    grew := Nat.le_trans st.grew hgrew
    os := ho.os.trans st.os
    tape := ho.tape.trans st.tape
    outp := ho.outp.trans st.outp }

/-- The knowledge of a call: all that stands, but what is lent. -/
theorem St.lend {a : Act} {w : World} (st : St n C K L E a w) {Lm Lr : List Chunk} (hp : L.Perm (Lm ++ Lr)) :
    ∃ Kc : Know, K.Le Kc ∧ (∀ c ∈ Lr, c.holds Kc) ∧ Out ⟨w, Lm.flatMap Chunk.foot, Kc⟩ Kc Lm w := by
  have hfp := foot_perm hp
  have hnd := hfp.nodup_iff.1 st.nodup
  rw [List.flatMap_append] at hnd hfp
  obtain ⟨hn1, hn2, hd⟩ := List.nodup_append.1 hnd
  have hsubm : ∀ b ∈ Lm.flatMap Chunk.foot, b ∈ L.flatMap Chunk.foot := fun b hb => hfp.symm.subset (List.mem_append_left _ hb)
  refine ⟨fun b o => w.heap[b]? = some o ∧ b ∉ Lm.flatMap Chunk.foot, fun b o hk => ⟨st.know b o hk, fun hb => st.apart b (hsubm b hb) o hk⟩, fun c hc => ?_, ?_⟩
  · exact (st.own c (hp.symm.subset (List.mem_append_right _ hc))).local fun b hb o hk => ⟨hk, fun hb' => hd b hb' b (List.mem_flatMap.2 ⟨c, hc, hb⟩) rfl⟩
  · exact {
      size := rfl
      env := fun t v hv => by simp [lk] at hv
      defs := rfl
      know := fun b o hk => hk.1
      own := fun c hc => st.own c (hp.symm.subset (List.mem_append_left _ hc))
      nodup := hn1
      apart := fun b hb o hk => hk.2 hb
      fresh := fun b hb => .inr hb
      knew := fun b o hk => .inl hk
      frame := fun b o hb _ => hb
      grew := Nat.le_refl _
      os := rfl
      tape := rfl
      outp := rfl }

theorem St.ofLe {a : Act} {w : World} (st : St n C K L E a w) {K' : Know} (h : K'.Le K) : St n C K' L E a w :=
  { st with
    know := fun b o hk => st.know b o (h b o hk)
    apart := fun b hb o hk => st.apart b hb o (h b o hk)
    knew := fun b o hk => st.knew b o (h b o hk) }

/-- A call. -/
theorem r_call {d : Option Tmp} {fx : Operand} {args : Array Operand} {ats : Array TypeId} {f : FuncId} {us vs cs : List Value} {Lm Lr : List Chunk} {R : Know → List Chunk → Value → Prop} (js : List Nat)
    (ho : nth ops i = some ⟨d, .call ⟨.value fx, args, ats⟩, ty, pos, af, g⟩) (hw : wantE ops E g = some true)
    (hf : ev E fx = some (.func (.func f) us.toArray cs.toArray)) (ha : evs E args.toList = some vs) (hs : sel js L = (Lm, Lr)) (hst : s = true → Lm = [])
    (hspec : ∀ Kc, K.Le Kc → (∀ c ∈ Lr, c.holds Kc) → Spec P f (us ++ vs ++ cs).toArray Kc Lm R)
    (h : ∀ v Kf K' Lm', R Kf Lm' v → Kf.Le (New C K') → K.Le K' → ∀ a w, St n C K' (Lm' ++ Lr) E a w → wpR P ex ops Q r (a.put d v) w) : T n C K L E (wpR P ex ops Q (.step i (.evt s) r)) := fun a w st => by
  have hp : L.Perm (Lm ++ Lr) := by have := sel_perm js L; rwa [hs] at this
  obtain ⟨Kc, h1, h2, h3⟩ := st.lend hp
  obtain ⟨hcall, hcalls⟩ := hspec Kc h1 h2
  refine ⟨_, ho, .inl ⟨st.want hw, opG_call st hf ha hcall (Calls.mono (hcalls w h3) ?_)⟩⟩
  rintro e w' ⟨v, Kf, Lm', he, hR, hout⟩
  refine ⟨v, he, fun hs' => ?_, ?_⟩
  · have := hst hs'
    subst this
    intro b o _ hb
    exact hout.frame b o hb (by simp)
  · have st' := St.call (E' := E) (n' := n) (a' := a) st hp hout
    refine h v _ _ Lm' hR ?_ (fun b o hk => .inl hk) a w' st'
    intro b o hk
    refine ⟨.inr hk, ?_⟩
    rcases hk.2 with h | h
    · have := st.grew; simp only at h; exact .inl (by omega)
    · refine st.fresh b ?_
      have hfp := foot_perm hp
      rw [List.flatMap_append] at hfp
      exact hfp.symm.subset (List.mem_append_left _ h)

theorem r_callD {d : Tmp} {fx : Operand} {args : Array Operand} {ats : Array TypeId} {f : FuncId} {us vs cs : List Value} {Lm Lr : List Chunk} {R : Know → List Chunk → Value → Prop} (js : List Nat)
    (ho : nth ops i = some ⟨some d, .call ⟨.value fx, args, ats⟩, ty, pos, af, g⟩) (hw : wantE ops E g = some true) (hdn : Nat.blt d n = true)
    (hf : ev E fx = some (.func (.func f) us.toArray cs.toArray)) (ha : evs E args.toList = some vs) (hs : sel js L = (Lm, Lr)) (hst : s = true → Lm = [])
    (hspec : ∀ Kc, K.Le Kc → (∀ c ∈ Lr, c.holds Kc) → Spec P f (us ++ vs ++ cs).toArray Kc Lm R)
    (h : ∀ v Kf K' Lm', R Kf Lm' v → Kf.Le (New C K') → K.Le K' → T n C K' (Lm' ++ Lr) ((d, v) :: E) (wpR P ex ops Q r)) : T n C K L E (wpR P ex ops Q (.step i (.evt s) r)) :=
  r_call js ho hw hf ha hs hst hspec fun v Kf K' Lm' h1 h2 h3 a w st => h v Kf K' Lm' h1 h2 h3 _ _ (st.put v (Nat.le_of_ble_eq_true hdn))

/-- A call that reads, and tells a value that is no address. -/
theorem r_call0 {d : Tmp} {fx : Operand} {args : Array Operand} {ats : Array TypeId} {f : FuncId} {us vs cs : List Value} {R : Value → Prop}
    (ho : nth ops i = some ⟨some d, .call ⟨.value fx, args, ats⟩, ty, pos, af, g⟩) (hw : wantE ops E g = some true) (hdn : Nat.blt d n = true)
    (hf : ev E fx = some (.func (.func f) us.toArray cs.toArray)) (ha : evs E args.toList = some vs)
    (hspec : ∀ Kc, K.Le Kc → (∀ c ∈ L, c.holds Kc) → Spec0 P f (us ++ vs ++ cs).toArray Kc R)
    (h : ∀ v, R v → T n C K L ((d, v) :: E) (wpR P ex ops Q r)) : T n C K L E (wpR P ex ops Q (.step i (.evt s) r)) :=
  r_call [] ho hw hf ha rfl (fun _ => rfl) hspec fun v Kf K' Lm' h1 h2 h3 a w st => by
    obtain ⟨rfl, hR⟩ := h1
    exact h v hR _ _ ((st.ofLe h3).put v (Nat.le_of_ble_eq_true hdn))

/-! ### a loop -/
theorem wp_loop_ghost {ι : Type _} {c : Code} {Q : Exit → Act → World → Prop} (I : ι → Act → World → Prop) (m : ι → Nat)
    (round : ∀ x a w, I x a w → c.wp P (Exit.then (fun a' w' => ∃ y, I y a' w' ∧ m y < m x) Q) a w) (x : ι) {a : Act} {w : World} (h0 : I x a w) : (Code.loop c).wp P Q a w := by
  intro b k cs
  have key : ∀ n x a w, m x = n → I x a w → ∃ e a' w', Q e a' w' ∧ Arrives P (lone (b.at a (.code c :: .inLoop c :: k)) cs w) b k cs e a' w' := by
    intro n
    induction n using Nat.strongRecOn with
    | _ n ih =>
      intro x a w hn hI
      obtain ⟨e, a₁, w₁, hq, harr⟩ := round x a w hI b (.inLoop c :: k) cs
      cases e with
      | normal =>
        obtain ⟨y, hI₁, hlt⟩ := hq
        obtain ⟨e₂, a₂, w₂, hq₂, harr₂⟩ := ih (m y) (hn ▸ hlt) y a₁ w₁ rfl hI₁
        exact ⟨e₂, a₂, w₂, hq₂, .of_steps (Steps.trans harr (.one step_inLoop)) harr₂⟩
      | exit id => exact ⟨_, a₁, w₁, hq, .pass (x := .inLoop c) rfl (fun _ _ => .inl (by simp)) harr⟩
      | goto l => exact ⟨_, a₁, w₁, hq, .pass (x := .inLoop c) rfl (fun _ _ => .inl (by simp)) harr⟩
      | ret => exact ⟨_, a₁, w₁, hq, .pass (x := .inLoop c) rfl (fun _ _ => .inl (by simp)) harr⟩
      | panic ch => exact ⟨_, a₁, w₁, hq, .pass (x := .inLoop c) rfl (fun _ _ => .inl (by simp)) harr⟩
      | outgrown => exact ⟨_, a₁, w₁, hq, .pass (x := .inLoop c) rfl (fun _ _ => .inl (by simp)) harr⟩
  obtain ⟨e, a', w', hq, harr⟩ := key _ x a w rfl h0
  exact ⟨e, a', w', hq, .of_steps (.one step_loop) harr⟩

/-- What a round leaves behind. -/
def Again {ι : Type _} (n : Nat) (C : Ctx) (p : ι → Prop) (Kx : ι → Know) (Lx : ι → List Chunk) (Ex : ι → Env) (m : ι → Nat) (x : ι) (a : Act) (w : World) : Prop :=
  ∃ y, (p y ∧ St n C (Kx y) (Lx y) (Ex y) a w) ∧ m y < m x

theorem rt_loop {ι : Type _} {c : Code} {Q : Exit → Act → World → Prop} (p : ι → Prop) (Kx : ι → Know) (Lx : ι → List Chunk) (Ex : ι → Env) (m : ι → Nat) (x0 : ι)
    (h0 : p x0) (hK : K = Kx x0) (hL : L = Lx x0) (hE : Sub (Ex x0) E)
    (h : ∀ x, p x → T n C (Kx x) (Lx x) (Ex x) (c.wp P (Exit.then (Again n C p Kx Lx Ex m x) Q))) : T n C K L E ((Code.loop c).wp P Q) := fun a w st => by
  subst hK; subst hL
  exact wp_loop_ghost (fun x a w => p x ∧ St n C (Kx x) (Lx x) (Ex x) a w) m (fun x a w hx => h x hx.1 a w hx.2) x0 ⟨h0, { st with env := fun t v hv => st.env t v (hE.lk hv) }⟩

theorem rt_again {ι : Type _} {p : ι → Prop} {Kx : ι → Know} {Lx : ι → List Chunk} {Ex : ι → Env} {m : ι → Nat} {x : ι} (y : ι) (hp : p y) (hK : K = Kx y) (hL : L = Lx y) (hE : Sub (Ex y) E) (hm : m y < m x) :
    T n C K L E (Again n C p Kx Lx Ex m x) := fun a w st => by
  subst hK; subst hL
  exact ⟨y, ⟨hp, { st with env := fun t v hv => st.env t v (hE.lk hv) }⟩, hm⟩

/-- The environment is told anew. -/
theorem rt_env (E' : Env) (hs : Sub E' E) (h : T n C K L E' Φ) : T n C K L E Φ := h.sub hs
theorem lk_int {E : Env} {t : Nat} {k : IntKind} {a b : Int} (h : lk E t = some (.int k a)) (e : a = b) : lk E t = some (.int k b) := e ▸ h
end
end Go.Y
