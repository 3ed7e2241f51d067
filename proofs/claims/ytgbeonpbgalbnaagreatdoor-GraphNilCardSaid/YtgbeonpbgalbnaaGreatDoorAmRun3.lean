/- STATES, AND REGIONS WHOSE ORDER IS FIXED. -/
import Derived.Test.YtgbeonpbgalbnaaGreatDoorAmRun2
namespace Go.Am
set_option autoImplicit false

structure StOk (E : Env) (N : Nat) (G : Gh) (a : Act) (w : World) (st : St) : Prop where
  size : N ≤ a.tmps.size
  tmps : ∀ i, i < N → Rel G st.H w (a.tmps.getD i undef) (st.tmp i)
  heap : HeapRel G st.H w
  glob : GlobOk E G st.H w
  defers : a.defers = []
def ExRel (G : Gh) (H : Hp) (w : World) : Ex → Exit → Prop
  | .norm, e => e = .normal
  | .ret, e => e = .ret
  | .exit i, e => e = .exit i
  | .pan v, e => ∃ cv, e = .panic [entryOf cv] ∧ Rel G H w cv v
/-- Where code leaves a frame. -/
def After (E : Env) (N : Nat) (G : Gh) (H : Hp) (w : World) (r : Ex × St) (e : Exit) (a : Act) (w' : World) : Prop :=
  ∃ G', Le G H w G' r.2.H w' ∧ Evo H r.2.H ∧ StOk E N G' a w' r.2 ∧ ExRel G' r.2.H w' r.1 e
theorem After.trans {E : Env} {N : Nat} {G G1 : Gh} {H H1 : Hp} {w w1 : World} {r : Ex × St} {e : Exit} {a : Act} {w' : World} (L : Le G H w G1 H1 w1) (ev : Evo H H1)
    (h : After E N G1 H1 w1 r e a w') : After E N G H w r e a w' :=
  let ⟨G', l, v, s, x⟩ := h; ⟨G', L.trans l, ev.trans v, s, x⟩

section
variable {P : Program} {E : Env} {call : Caller} {N : Nat} {G : Gh} {a : Act} {w : World} {st : St}
theorem rel_undef (G : Gh) (H : Hp) (w : World) : Rel G H w undef V.undef := .tuple #[] [] .nil
theorem opd_rel (h : StOk E N G a w st) {x : Operand} {o : Opd} {v : V} (ho : opd N x = some o) (hv : o.ev E st = some v) : Rel G st.H w (a.eval x) v := by
  cases x with
  | tmp t =>
    simp only [opd] at ho
    by_cases ht : t < N
    · rw [bltT ht] at ho
      cases ho
      cases hv
      exact h.tmps t ht
    · rw [bltF ht] at ho; cases ho
  | const c =>
    simp only [opd] at ho
    cases hc : ofConst c with
    | none => rw [hc] at ho; cases ho
    | some u => rw [hc] at ho; cases ho; cases hv; exact ofConst_rel _ _ _ _ _ hc
  | global g =>
    simp only [opd] at ho
    cases ho
    simp only [Opd.ev] at hv
    cases hg : E.glob g with
    | none => rw [hg] at hv; cases hv
    | some u => rw [hg] at hv; cases hv; exact (h.glob g u hg).2
  | func f =>
    simp only [opd] at ho
    cases ho
    cases hv
    exact .fn f #[] #[] [] [] .nil .nil
theorem evAll_cons (x : Opd) (xs : List Opd) : evAll E st (x :: xs) = match x.ev E st with
    | some v => match evAll E st xs with
      | some vs => some (v :: vs)
      | none => none
    | none => none := rfl
theorem opds_rel (h : StOk E N G a w st) : ∀ {xs : List Operand} {os : List Opd} {vs : List V}, opds N xs = some os → evAll E st os = some vs → RelL G st.H w (xs.map a.eval) vs
  | [], os, vs, ho, hv => by
    simp only [opds] at ho
    cases ho
    cases hv
    exact .nil
  | x :: xs, os, vs, ho, hv => by
    simp only [opds] at ho
    cases h1 : opd N x with
    | none => rw [h1] at ho; cases ho
    | some o =>
      cases h2 : opds N xs with
      | none => rw [h1, h2] at ho; cases ho
      | some os' =>
        rw [h1, h2] at ho
        cases ho
        rw [evAll_cons] at hv
        cases e1 : o.ev E st with
        | none => rw [e1] at hv; cases hv
        | some v =>
          cases e2 : evAll E st os' with
          | none => rw [e1, e2] at hv; cases hv
          | some vs' =>
            rw [e1, e2] at hv
            cases hv
            exact .cons _ _ _ _ (opd_rel h h1 e1) (opds_rel h h2 e2)

/-- An operation and the abstract machine's. -/
structure OperIs (P : Program) (N : Nat) (ops : Array Oper) (o : Oper) (ao : AOper) : Prop where
  op : ∃ a xs, opOf P o.op = some (a, xs) ∧ Strict a ao.op ∧ opds N xs = some ao.args
  dst : o.dst = ao.dst
  dlt : ∀ d, ao.dst = some d → d < N
  guard : (o.guard = none ∧ ao.guard = none) ∨ ∃ j want d, o.guard = some (j, want) ∧ ao.guard = some (d, want) ∧ (ops[j]?).bind (·.dst) = some d ∧ d < N
theorem operOf_is {ops : Array Oper} {o : Oper} {ao : AOper} (h : operOf P N ops o = some ao) : OperIs P N ops o ao := by
  unfold operOf at h
  cases h1 : opOf P o.op with
  | none => rw [h1] at h; cases h
  | some q =>
    obtain ⟨a', xs⟩ := q
    rw [h1] at h
    simp only at h
    cases h2 : opds N xs with
    | none => rw [h2] at h; cases h
    | some as =>
      rw [h2] at h
      simp only at h
      have key : ∀ (c : Bool) (X : Option AOper), (bif c then X else none) = some ao → c = true ∧ X = some ao := fun c X h => by
        cases c
        · cases h
        · exact ⟨rfl, h⟩
      obtain ⟨hc, h⟩ := key _ _ h
      have hdlt : ∀ d, o.dst = some d → d < N := fun d e => by
        rw [e] at hc
        exact blt_iff.1 hc
      cases hg : o.guard with
      | none =>
        rw [hg] at h
        cases h
        exact ⟨⟨a', xs, h1, .inl rfl, h2⟩, rfl, hdlt, .inl ⟨hg, rfl⟩⟩
      | some q =>
        obtain ⟨j, want⟩ := q
        rw [hg] at h
        simp only at h
        cases hj : (ops[j]?).bind (·.dst) with
        | none => rw [hj] at h; cases h
        | some d =>
          rw [hj] at h
          simp only at h
          by_cases hlt : d < N
          · rw [bltT hlt] at h
            cases h
            exact ⟨⟨a', xs, h1, .inl rfl, h2⟩, rfl, hdlt, .inr ⟨j, want, d, hg, rfl, hj, hlt⟩⟩
          · rw [bltF hlt] at h; cases h
theorem wanted_eq (h : StOk E N G a w st) {ops : Array Oper} {o : Oper} {ao : AOper} (hi : OperIs P N ops o ao) : Region.wanted o (yielded ops a.tmps) = ao.wanted st := by
  rcases hi.guard with ⟨g1, g2⟩ | ⟨j, want, d, g1, g2, g3, hd⟩
  · simp [Region.wanted, AOper.wanted, g1, g2]
  · have hr := h.tmps d hd
    have hget : a.tmps[d]? = some (a.tmps.getD d undef) := by
      have : d < a.tmps.size := Nat.lt_of_lt_of_le hd h.size
      simp [this]
    simp only [Region.wanted, AOper.wanted, g1, g2]
    unfold yielded
    rw [g3]
    simp only [Option.bind_some, hget]
    generalize a.tmps.getD d undef = c at hr ⊢
    generalize st.tmp d = v at hr ⊢
    cases hr <;> first | rfl | (simp)
/-- A value is put where the operation wants it. -/
theorem StOk.put (h : StOk E N G a w st) {G' : Gh} {H' : Hp} {w' : World} {cv : Value} {v : V} (L : Le G st.H w G' H' w') (hh : HeapRel G' H' w') (hr : Rel G' H' w' cv v) {dst : Option Nat}
    (hd : ∀ d, dst = some d → d < N) : StOk E N G' (a.put dst cv) w' (St.put ⟨st.T, H'⟩ dst v) := by
  cases dst with
  | none => exact ⟨h.size, fun i hi => (h.tmps i hi).mono L, hh, h.glob.mono L, h.defers⟩
  | some d =>
    refine ⟨by simpa [Act.put] using h.size, fun i hi => ?_, hh, h.glob.mono L, h.defers⟩
    have hdN : d < a.tmps.size := Nat.lt_of_lt_of_le (hd d rfl) h.size
    show Rel G' H' w' ((a.tmps.setIfInBounds d cv).getD i undef) (((st.T.set v d).get i).getD V.undef)
    rw [Tr.get_set]
    by_cases e : d = i
    · subst e
      simp [hdN]
      exact hr
    · rw [if_neg e]
      have : (a.tmps.setIfInBounds d cv).getD i undef = a.tmps.getD i undef := by
        simp [e]
      rw [this]
      exact (h.tmps i hi).mono L
theorem StOk.same (h : StOk E N G a w st) {G' : Gh} {H' : Hp} {w' : World} (L : Le G st.H w G' H' w') (hh : HeapRel G' H' w') : StOk E N G' a w' ⟨st.T, H'⟩ :=
  ⟨h.size, fun i hi => (h.tmps i hi).mono L, hh, h.glob.mono L, h.defers⟩

/-- One operation. -/
theorem step_ok (hcall : CallOk P E call) (hin : IntrOk P E) (h : StOk E N G a w st) {ops : Array Oper} {o : Oper} {ao : AOper} (hi : OperIs P N ops o ao) {vs : List V} (hv : evAll E st ao.args = some vs)
    {r : OpR} (hr : ao.run E call vs st.H = some r) {next : Act → World → Prop} {Q : Exit → Act → World → Prop}
    (hval : ∀ v H', r = .val v H' → ∀ G' cv w', Le G st.H w G' H' w' → Evo st.H H' → StOk E N G' (a.put o.dst cv) w' (St.put ⟨st.T, H'⟩ ao.dst v) → next (a.put o.dst cv) w')
    (hpan : ∀ v H', r = .pan v H' → ∀ G' cv w', Le G st.H w G' H' w' → Evo st.H H' → StOk E N G' a w' ⟨st.T, H'⟩ → Rel G' H' w' cv v → Q (.panic [entryOf cv]) a w') : o.wp P a w next Q := by
  obtain ⟨aop, xs, h1, h2, h3⟩ := hi.op
  have hd := op_done (ρ := a.eval) (fun _ => rfl) hcall hin h1 h2 h.heap h.glob (opds_rel h h3 hv) hr
  unfold Oper.wp
  have fin : ∀ {cv : Value} {v : V} {H' : Hp} {w' : World}, r = .val v H' → Outs G st.H w cv v H' w' → next (a.put o.dst cv) w' := fun e ⟨G', L, hh, hr', ev⟩ =>
    hval _ _ e G' _ _ L ev (by rw [hi.dst]; exact h.put L hh hr' hi.dlt)
  have finp : ∀ {cv : Value} {v : V} {H' : Hp} {w' : World}, r = .pan v H' → Outs G st.H w cv v H' w' → Q (.panic [entryOf cv]) a w' := fun e ⟨G', L, hh, hr', ev⟩ =>
    hpan _ _ e G' _ _ L ev (h.same L hh) hr'
  cases r with
  | val v H' =>
    rcases hd with ⟨cv, w', hs | ⟨hs, hcv⟩, ho⟩ | ⟨f, cargs, hs, hc⟩
    · rw [hs]; exact fin rfl ho
    · rw [hs]; subst hcv; exact fin rfl ho
    · rw [hs]
      show Calls P f cargs w _
      exact hc.mono fun e w' ⟨cv, he, ho⟩ => by subst he; exact fin rfl ho
  | pan v H' =>
    rcases hd with ⟨cv, w', hs, ho⟩ | ⟨f, cargs, hs, hc⟩
    · rw [hs]; exact finp rfl ho
    · rw [hs]
      show Calls P f cargs w _
      exact hc.mono fun e w' ⟨cv, he, ho⟩ => by subst he; exact finp rfl ho
theorem runOps_cons (o : AOper) (os : List AOper) : runOps E call (o :: os) = stepOp E call o (runOps E call os) := rfl
theorem region_ok (hcall : CallOk P E call) (hin : IntrOk P E) {ops : Array Oper} : ∀ (os : List Oper) (aos : List AOper) (i : Nat), opersOf P N ops os = some aos → (∀ j, ops[i + j]? = os[j]?) →
    ∀ (G : Gh) (a : Act) (w : World) (st : St) (r : Ex × St), StOk E N G a w st → runOps E call aos st = some r →
      ∀ Q : Exit → Act → World → Prop, (∀ e a' w', After E N G st.H w r e a' w' → Q e a' w') → wpOps P ops Q (List.range' i os.length) a w
  | [], aos, i, h, _, G, a, w, st, r, hst, hr, Q, hQ => by
    simp only [opersOf] at h
    cases h
    cases hr
    exact hQ _ _ _ ⟨G, Le.refl _ _ _, Evo.refl _, hst, rfl⟩
  | o :: os, aos, i, h, hops, G, a, w, st, r, hst, hr, Q, hQ => by
    simp only [opersOf] at h
    cases h1 : operOf P N ops o with
    | none => rw [h1] at h; cases h
    | some ao =>
      cases h2 : opersOf P N ops os with
      | none => rw [h1, h2] at h; cases h
      | some aos' =>
        rw [h1, h2] at h
        cases h
        have hi := operOf_is h1
        have hops0 : ops[i]? = some o := by simpa using hops 0
        have hops' : ∀ j, ops[i + 1 + j]? = os[j]? := fun j => by
          have := hops (j + 1)
          rw [show i + (j + 1) = i + 1 + j by omega] at this
          simpa using this
        have rest := region_ok hcall hin os aos' (i + 1) h2 hops'
        rw [runOps_cons] at hr
        unfold stepOp at hr
        simp only [List.length_cons, List.range'_succ, wpOps, hops0]
        rw [wanted_eq hst hi]
        cases hw : ao.wanted st with
        | false =>
          rw [hw] at hr
          simp only [cond_false] at hr
          simp only [Bool.false_eq_true, if_false]
          have hput := hst.put (Le.refl _ _ _) hst.heap (rel_undef G st.H w) hi.dlt
          rw [← hi.dst] at hput
          refine rest G _ w _ r (by rw [hi.dst] at hput ⊢; exact hput) hr Q ?_
          have hH : (St.put st ao.dst V.undef).H = st.H := by cases ao.dst <;> rfl
          rw [hH]
          exact hQ
        | true =>
          rw [hw] at hr
          simp only [cond_true] at hr
          simp only [if_true]
          refine .inl ?_
          unfold runWith at hr
          cases hv : evAll E st ao.args with
          | none => rw [hv] at hr; cases hr
          | some vs =>
            rw [hv] at hr
            simp only at hr
            cases ho : ao.run E call vs st.H with
            | none => rw [ho] at hr; cases hr
            | some res =>
              rw [ho] at hr
              refine step_ok hcall hin hst hi hv ho (fun v H' e G' cv w' L ev hs => ?_) fun v H' e G' cv w' L ev hs hrel => ?_
              · subst e
                simp only [afterOp] at hr
                refine rest G' _ w' _ r hs hr Q fun e a' w'' hA => hQ _ _ _ ?_
                have hH : (St.put ⟨st.T, H'⟩ ao.dst v).H = H' := by cases ao.dst <;> rfl
                rw [hH] at hA
                exact hA.trans L ev
              · subst e
                simp only [afterOp] at hr
                cases hr
                exact hQ _ _ _ ⟨G', L, ev, hs, cv, rfl, hrel⟩
end
end Go.Am
