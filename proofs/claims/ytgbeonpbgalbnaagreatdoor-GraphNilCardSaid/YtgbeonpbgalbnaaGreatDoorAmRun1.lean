/- ONE OPERATION, CALLS AND PANICS AMONG THEM. -/
import Derived.Test.YtgbeonpbgalbnaaGreatDoorAmBack
namespace Go.Am
set_option autoImplicit false

/-! ### what calls and variables are taken to give -/
/-- The variables that the abstract machine knows hold what it takes them to hold, and nothing changes them. -/
def GlobOk (E : Env) (G : Gh) (H : Hp) (w : World) : Prop :=
  ∀ n v, E.glob n = some v → v.pure = true ∧ Rel G H w (.pointer (some ⟨n, 0, none⟩)) (.pp v)
theorem GlobOk.mono {E : Env} {G G' : Gh} {H H' : Hp} {w w' : World} (h : GlobOk E G H w) (L : Le G H w G' H' w') : GlobOk E G' H' w' :=
  fun n v hv => ⟨(h n v hv).1, (h n v hv).2.mono L⟩
theorem pure_pp {v : V} (h : v.pure = true) : (V.pp v).pure = true := (refs_pp (p := fun _ => false) v).trans h
theorem GlobOk.move {E : Env} {G G' : Gh} {H H' : Hp} {w : World} (h : GlobOk E G H w) (hu : ∀ b, ¬ own G H b → ¬ own G' H' b) : GlobOk E G' H' w :=
  fun n v hv => ⟨(h n v hv).1, Rel.move (fun _ => false) (fun _ h => by cases h) hu (h n v hv).2 (pure_pp (h n v hv).1)⟩

def entryOf (v : Value) : PanicEntry := { v, recovered := false }
def OutRel (G : Gh) (H : Hp) (w : World) : Out → Ending → World → Prop
  | .ok v H', e, w' => ∃ cv, e = .returned cv ∧ Outs G H w cv v H' w'
  | .pan v H', e, w' => ∃ cv, e = .panicked [entryOf cv] ∧ Outs G H w cv v H' w'
def Known (P : Program) (f : Nat) : Prop := ∃ F, P.funcs[f]? = some F ∧ (F.name == "runtime.NumGoroutine") = false ∧ F.body.isNone = false
def CallOk (P : Program) (E : Env) (call : Caller) : Prop :=
  ∀ f args H out, call f args H = some out → Known P f ∧ ∀ G w (cargs : Array Value), HeapRel G H w → GlobOk E G H w → RelL G H w cargs.toList args → Calls P f cargs w (OutRel G H w out)
/-- What a function known by its law gives: at once, or by a call. -/
def IntrGives (P : Program) (f : Nat) (cargs : Array Value) (G : Gh) (H : Hp) (w : World) (v : V) : Prop :=
  (∃ cv w', (callFunc f cargs).run P w = .ok (.value cv) w' ∧ HeapRel G H w' ∧ Le G H w G H w' ∧ Rel G H w' cv v) ∨
    ((callFunc f cargs).run P w = .ok (.enter f cargs) w ∧ Calls P f cargs w fun e w' => ∃ cv, e = .returned cv ∧ HeapRel G H w' ∧ Le G H w G H w' ∧ Rel G H w' cv v)
def IntrOk (P : Program) (E : Env) : Prop :=
  ∀ f g, E.intr f = some g → ∀ args v, g args = some v → ∀ G H w (cargs : Array Value), HeapRel G H w → GlobOk E G H w → RelL G H w cargs.toList args → IntrGives P f cargs G H w v

/-- How a call ends. -/
def ResRel (G : Gh) (H : Hp) (w : World) : OpR → Ending → World → Prop
  | .val v H', e, w' => ∃ cv, e = .returned cv ∧ Outs G H w cv v H' w'
  | .pan v H', e, w' => ∃ cv, e = .panicked [entryOf cv] ∧ Outs G H w cv v H' w'
/-- What the model's operation comes to. -/
def OpDone (P : Program) (s : Result Next) (G : Gh) (H : Hp) (w : World) : OpR → Prop
  | .val v H' => (∃ cv w', (s = .ok (.value cv) w' ∨ (s = .ok .skip w' ∧ cv = undef)) ∧ Outs G H w cv v H' w') ∨
      ∃ f cargs, s = .ok (.enter f cargs) w ∧ Calls P f cargs w fun e w' => ∃ cv, e = .returned cv ∧ Outs G H w cv v H' w'
  | .pan v H' => (∃ cv w', s = .halt (.panic cv) w' ∧ Outs G H w cv v H' w') ∨
      ∃ f cargs, s = .ok (.enter f cargs) w ∧ Calls P f cargs w fun e w' => ∃ cv, e = .panicked [entryOf cv] ∧ Outs G H w cv v H' w'

section
variable {P : Program} {E : Env} {call : Caller} {G : Gh} {H : Hp} {w : World}
theorem run_callFunc {f : Nat} (h : Known P f) (cargs : Array Value) : (callFunc f cargs).run P w = .ok (.enter f cargs) w := by
  obtain ⟨F, hF, hn, hb⟩ := h
  simp only [callFunc, Sem.run_bind, run_program, Result.andThen_ok, hF, hn, hb]
  rfl

/-! ### a call -/
/-- The caller's heap is foreign to a call that begins with an empty one. -/
def Gh.away (G : Gh) (H : Hp) : Gh := ⟨G.ι, G.β, G.σ, own G H⟩
theorem away_heap (hH : HeapRel G H w) : HeapRel (G.away H) Hp.empty w := HeapRel.empty _ _ fun b hb => hb.elim (hH.fb b) fun ⟨_, hl, e⟩ => e ▸ hH.lt hl
theorem away_own {b : Nat} (h : ¬ own G H b) : ¬ own (G.away H) Hp.empty b := not_own_empty _ b h
theorem Outs.fl {cv : Value} {v : V} {H1 : Hp} {w' : World} (h : Outs G H.fresh w cv v H1 w') : Outs G H w cv v { H1 with fl := Nat.min H.fl H1.fl } w' := by
  obtain ⟨G', L, hh, hr, ev⟩ := h
  refine ⟨G', ((Le.fl G H w H.n).trans L).trans (Le.fl _ _ _ _), hh.fl _, hr.mono (Le.fl _ _ _ _), ev.n, Nat.min_le_left _ _, fun j hj hn => ?_⟩
  exact ev.same j (Nat.lt_of_lt_of_le hj (Nat.min_le_right _ _)) hn
theorem pure_outs (hH : HeapRel G H w) {cv : Value} {v : V} {H1 : Hp} {w' : World} (h : Outs (G.away H) Hp.empty w cv v H1 w') :
    (v.pure = true → Outs G H w cv v H w') ∧ Outs G H w cv (v.shift H.n) (H.addAll H1 H1.n 0) w' := by
  obtain ⟨G1, L, hh, hr, ev⟩ := h
  refine ⟨fun hp => ?_, pure_back hH rfl hh L hr⟩
  obtain ⟨a, b, c⟩ := pure_same (G1 := G1) (H1 := H1) hH rfl L
  exact ⟨G, b, a, c hp hr, Evo.refl _⟩
theorem doCall_ok (hc : CallOk P E call) {f : Nat} {args : List V} {r : OpR} (h : doCall call f args H = some r) (hH : HeapRel G H w) (hG : GlobOk E G H w) {cargs : Array Value}
    (ha : RelL G H w cargs.toList args) : Known P f ∧ Calls P f cargs w (ResRel G H w r) := by
  unfold doCall at h
  by_cases hp : V.pureL args = true
  · rw [hp] at h
    simp only [cond_true] at h
    cases ho : call f args Hp.empty with
    | none => rw [ho] at h; cases h
    | some out =>
      obtain ⟨k, c⟩ := hc f args Hp.empty out ho
      refine ⟨k, (c (G.away H) w cargs (away_heap hH) (hG.move fun b => away_own) (RelL.move (fun _ => false) (fun _ h => by cases h) (fun b => away_own) ha hp)).mono fun e w' he => ?_⟩
      rw [ho] at h
      cases out with
      | ok v H1 =>
        obtain ⟨cv, he, hout⟩ := he
        obtain ⟨o1, o2⟩ := pure_outs hH hout
        unfold pureOut at h
        simp only at h
        cases hv : v.pure with
        | true => rw [hv] at h; cases h; exact ⟨cv, he, o1 hv⟩
        | false => rw [hv] at h; cases h; exact ⟨cv, he, o2⟩
      | pan v H1 =>
        obtain ⟨cv, he, hout⟩ := he
        obtain ⟨o1, o2⟩ := pure_outs hH hout
        unfold pureOut at h
        simp only at h
        cases hv : v.pure with
        | true => rw [hv] at h; cases h; exact ⟨cv, he, o1 hv⟩
        | false => rw [hv] at h; cases h; exact ⟨cv, he, o2⟩
  · simp only [Bool.not_eq_true] at hp
    rw [hp] at h
    simp only [cond_false] at h
    cases ho : call f args H.fresh with
    | none => rw [ho] at h; cases h
    | some out =>
      obtain ⟨k, c⟩ := hc f args H.fresh out ho
      refine ⟨k, (c G w cargs (hH.fl H.n) (hG.mono (Le.fl G H w H.n)) (ha.mono (Le.fl G H w H.n))).mono fun e w' he => ?_⟩
      rw [ho] at h
      cases out with
      | ok v H1 =>
        obtain ⟨cv, he, hout⟩ := he
        cases h
        exact ⟨cv, he, hout.fl⟩
      | pan v H1 =>
        obtain ⟨cv, he, hout⟩ := he
        cases h
        exact ⟨cv, he, hout.fl⟩
theorem doCallP_ok (hc : CallOk P E call) {f : Nat} {args : List V} {v : V} (h : doCallP call f args = some v) (hH : HeapRel G H w) (hG : GlobOk E G H w) {cargs : Array Value}
    (ha : RelL G H w cargs.toList args) : Known P f ∧ Calls P f cargs w fun e w' => ∃ cv, e = .returned cv ∧ HeapRel G H w' ∧ Le G H w G H w' ∧ Rel G H w' cv v := by
  unfold doCallP at h
  by_cases hp : V.pureL args = true
  · rw [hp] at h
    simp only [cond_true] at h
    cases ho : call f args Hp.empty with
    | none => rw [ho] at h; cases h
    | some out =>
      obtain ⟨k, c⟩ := hc f args Hp.empty out ho
      refine ⟨k, (c (G.away H) w cargs (away_heap hH) (hG.move fun b => away_own) (RelL.move (fun _ => false) (fun _ h => by cases h) (fun b => away_own) ha hp)).mono fun e w' he => ?_⟩
      rw [ho] at h
      cases out with
      | ok u H1 =>
        obtain ⟨cv, he, G1, L, hh, hr, ev⟩ := he
        unfold onlyPure at h
        simp only at h
        cases hv : u.pure with
        | false => rw [hv] at h; cases h
        | true =>
          rw [hv] at h
          cases h
          obtain ⟨a, b, c⟩ := pure_same (G1 := G1) (H1 := H1) hH rfl L
          exact ⟨cv, he, a, b, c hv hr⟩
      | pan v H1 => cases h
  · simp only [Bool.not_eq_true] at hp
    rw [hp] at h
    cases h
end

/-! ### what is a call, what is a panic -/
theorem opOf_inv {P : Program} {op : Op} {a : AOp} {xs : List Operand} (hc : opOf P op = some (a, xs)) (hk : a.kind ≠ .plain) :
    (∃ c, op = .call c ∧ callOf P c = some (a, xs)) ∨ ∃ x, op = .panic x ∧ a = .panic ∧ xs = [x] := by
  have no : ∀ {α : Type} {o : Option α} {f : α → AOp × List Operand}, (∀ q, (f q).1.kind = .plain) → o.map f = some (a, xs) → False := fun {α o f} hf h => by
    cases o with
    | none => cases h
    | some q => have := Option.some.inj h; have h2 := hf q; rw [this] at h2; exact hk h2
  unfold opOf at hc
  split at hc
  all_goals try (first | exact .inl ⟨_, rfl, hc⟩ | exact .inr ⟨_, rfl, by cases hc; rfl, by cases hc; rfl⟩)
  all_goals (try simp only [cond_eq_ite] at hc)
  all_goals (repeat' split at hc)
  all_goals first
    | (cases hc; exact absurd rfl hk)
    | cases hc
    | exact (no (fun _ => rfl) hc).elim
theorem callOf_inv {P : Program} {c : Call} {a : AOp} {xs : List Operand} (hc : callOf P c = some (a, xs)) (hk : a.kind ≠ .plain) :
    (∃ f, c.callee = .value (.func f) ∧ a = .call f ∧ xs = c.args.toList) ∨ (∃ f, c.callee = .value f ∧ a = .callv ∧ xs = f :: c.args.toList) ∨
      ∃ x, c.callee = .builtin .panic ∧ c.args = #[x] ∧ a = .panic ∧ xs = [x] := by
  have no : ∀ {α : Type} {o : Option α} {f : α → AOp × List Operand}, (∀ q, (f q).1.kind = .plain) → o.map f = some (a, xs) → False := fun {α o f} hf h => by
    cases o with
    | none => cases h
    | some q => have := Option.some.inj h; have h2 := hf q; rw [this] at h2; exact hk h2
  unfold callOf at hc
  split at hc
  · rename_i f hf; cases hc; exact .inl ⟨f, hf, rfl, rfl⟩
  · rename_i f _ hf; cases hc; exact .inr (.inl ⟨_, hf, rfl, rfl⟩)
  · cases hc
  · rename_i b hb
    refine .inr (.inr ?_)
    simp only [cond_eq_ite] at hc
    split at hc
    all_goals (repeat' split at hc)
    all_goals first
      | (cases hc; exact absurd rfl hk)
      | exact (no (fun _ => rfl) hc).elim
      | (rename_i x hx; cases hc; exact ⟨x, hb, by rw [← Array.toList_inj, hx], rfl, rfl⟩)
      | cases hc
end Go.Am
