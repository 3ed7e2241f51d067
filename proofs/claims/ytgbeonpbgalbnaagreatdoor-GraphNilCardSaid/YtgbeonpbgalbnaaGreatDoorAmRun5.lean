/- FUNCTIONS: what the abstract machine computes is what the model's calls return. -/
import Derived.Test.YtgbeonpbgalbnaaGreatDoorAmRun4
namespace Go.Am
set_option autoImplicit false

/-- The loaded functions are those of the program. -/
def FnsOk (P : Program) (E : Env) : Prop :=
  ∀ f fn, E.fns.get f = some fn → ∃ F pol, P.funcs[f]? = some F ∧ (F.name == "runtime.NumGoroutine") = false ∧ fnOf P pol F = some fn

section
variable {P : Program} {E : Env} {call : Caller} {N : Nat}
theorem initT_get : ∀ (vs : List V) (k : Nat) (T : Tr V) (j : Nat), (initT vs k T).get j = if k ≤ j ∧ j < k + vs.length then vs[j - k]? else T.get j
  | [], k, T, j => by
    show T.get j = _
    rw [if_neg (by simp)]
  | v :: vs, k, T, j => by
    show (initT vs (k + 1) (T.set v k)).get j = _
    rw [initT_get vs (k + 1) (T.set v k) j, Tr.get_set]
    simp only [List.length_cons]
    by_cases h1 : k + 1 ≤ j ∧ j < k + 1 + vs.length
    · rw [if_pos h1, if_pos (by omega), show j - k = (j - (k + 1)) + 1 by omega]
      rfl
    · rw [if_neg h1]
      by_cases h2 : k = j
      · subst h2
        rw [if_pos rfl, if_pos (by omega)]
        simp
      · rw [if_neg h2, if_neg (by omega)]
theorem start_ok {G : Gh} {H : Hp} {w : World} (hH : HeapRel G H w) (hG : GlobOk E G H w) {cargs : Array Value} {args : List V} (ha : RelL G H w cargs.toList args) (N : Nat) :
    StOk E N G { tmps := cargs ++ Array.replicate (N - cargs.size) undef, defers := [] } w ⟨initT args 0 .nil, H⟩ := by
  have hl : cargs.size = args.length := by have := ha.length; simpa using this
  refine ⟨by simp; omega, fun i hi => ?_, hH, hG, rfl⟩
  show Rel G H w _ (((initT args 0 .nil).get i).getD V.undef)
  rw [initT_get]
  by_cases h : i < args.length
  · rw [if_pos (by omega)]
    obtain ⟨v, hv⟩ : ∃ v, args[i]? = some v := ⟨_, List.getElem?_eq_getElem h⟩
    obtain ⟨c, hc, hr⟩ := ha.get hv
    simp only [Nat.sub_zero, hv, Option.getD_some]
    have : (cargs ++ Array.replicate (N - cargs.size) undef).getD i undef = c := by
      have h1 : cargs[i]? = some c := by simpa using hc
      have hlt : i < cargs.size := by omega
      simp [Array.getD_eq_getD_getElem?, Array.getElem?_append_left hlt, h1]
    rw [this]
    exact hr
  · rw [if_neg (by omega)]
    have : (cargs ++ Array.replicate (N - cargs.size) undef).getD i undef = undef := by
      rw [Array.getD_eq_getD_getElem?, Array.getElem?_append_right (by omega)]
      simp [Array.getElem?_replicate]
      split <;> rfl
    rw [this, Tr.get_nil]
    exact rel_undef G H w

/-! ### results -/
def resOne (tmps : Array Value) : ResultVar → Sem Value
  | .tmp t => pure (tmps.getD t undef)
  | .cell a t => do loadVar t (← asAddr (tmps.getD a undef))
theorem results_eq (fn : Func) (tmps : Array Value) : results fn tmps = (do let vs ← fn.results.mapM (resOne tmps); pure (if h : vs.size = 1 then vs[0] else .tuple vs)) := by
  unfold results
  congr 1
theorem res_rel {G : Gh} {a : Act} {w : World} {st : St} (h : StOk E N G a w st) : ∀ {rs : List ResultVar} {as : List ARes} {vs : List V}, resOf P N rs = some as → resAll st as = some vs →
    ∃ cs, (rs.mapM (resOne a.tmps)).run P w = .ok cs w ∧ RelL G st.H w cs vs
  | [], as, vs, h1, h2 => by
    simp only [resOf] at h1
    cases h1
    simp only [resAll] at h2
    cases h2
    exact ⟨[], rfl, .nil⟩
  | r :: rs, as, vs, h1, h2 => by
    have glue : ∀ {x : ARes} {as' : List ARes}, as = x :: as' → resOf P N rs = some as' → (∀ v, x.ev st = some v → ∃ c, (resOne a.tmps r).run P w = .ok c w ∧ Rel G st.H w c v) →
        ∃ cs, ((r :: rs).mapM (resOne a.tmps)).run P w = .ok cs w ∧ RelL G st.H w cs vs := by
      intro x as' e hrs hone
      subst e
      simp only [resAll] at h2
      cases hx : x.ev st with
      | none => rw [hx] at h2; cases h2
      | some v =>
        rw [hx] at h2
        simp only at h2
        cases hr : resAll st as' with
        | none => rw [hr] at h2; cases h2
        | some us =>
          rw [hr] at h2
          cases h2
          obtain ⟨c, hc, hcr⟩ := hone v hx
          obtain ⟨cs, hcs, hcsr⟩ := res_rel h hrs hr
          refine ⟨c :: cs, ?_, .cons _ _ _ _ hcr hcsr⟩
          rw [List.mapM_cons]
          simp [hc, hcs]
    cases r with
    | tmp t =>
      simp only [resOf] at h1
      by_cases ht : t < N
      · rw [bltT ht] at h1
        cases hr : resOf P N rs with
        | none => rw [hr] at h1; cases h1
        | some as' =>
          rw [hr] at h1
          cases h1
          refine glue rfl hr fun v hv => ?_
          cases hv
          exact ⟨_, rfl, h.tmps t ht⟩
      · rw [bltF ht] at h1; cases h1
    | cell t ty =>
      simp only [resOf] at h1
      cases hc : cellT P ty with
      | none => rw [hc] at h1; cases h1
      | some q =>
        obtain ⟨n, ag⟩ := q
        rw [hc] at h1
        simp only at h1
        by_cases ht : t < N
        · rw [bltT ht] at h1
          cases hr : resOf P N rs with
          | none => rw [hr] at h1; cases h1
          | some as' =>
            rw [hr] at h1
            cases h1
            refine glue rfl hr fun v hv => ?_
            simp only [ARes.ev] at hv
            cases he : (AOp.load ag n).ev [st.tmp t] st.H with
            | none => rw [he] at hv; cases hv
            | some q =>
              obtain ⟨v', H'⟩ := q
              rw [he] at hv
              cases hv
              refine load_spec (P := P) (ρ := fun _ => a.tmps.getD t undef) (x := .tmp t) hc h.heap (h.tmps t ht) he fun p cv hp hl hrel hh => ⟨cv, ?_, hrel⟩
              have hp : a.tmps.getD t undef = .pointer (some p) := hp
              simp only [resOne, hp, asAddr, Sem.run_bind, Sem.run_pure, Result.andThen_ok]
              exact hl
        · rw [bltF ht] at h1; cases h1
theorem results_rel {G : Gh} {a : Act} {w : World} {st : St} (h : StOk E N G a w st) {F : Func} {as : List ARes} {vs : List V} (h1 : resOf P N F.results.toList = some as) (h2 : resAll st as = some vs) :
    ∃ cv, (results F a.tmps).run P w = .ok cv w ∧ Rel G st.H w cv (resV vs) := by
  obtain ⟨cs, hcs, hr⟩ := res_rel h h1 h2
  have hm : (F.results.mapM (resOne a.tmps)).run P w = .ok cs.toArray w := by
    rw [Array.mapM_eq_mapM_toList]
    simp [hcs]
  rw [results_eq]
  refine ⟨_, by rw [Sem.run_bind, hm, Result.andThen_ok, Sem.run_pure], ?_⟩
  cases hr with
  | nil => exact .tuple _ _ .nil
  | cons c v cs' vs' hc hs =>
    cases hs with
    | nil => exact hc
    | cons c2 v2 cs2 vs2 hc2 hs2 =>
      rw [dif_neg (by simp)]
      exact .tuple _ _ (.cons _ _ _ _ hc (.cons _ _ _ _ hc2 hs2))

/-! ### a function -/
theorem fnOf_spec {pol : Nat} {F : Func} {fn : AFn} (h : fnOf P pol F = some fn) : ∃ c b rs, F.body = some c ∧ codeOf P F.ntmps c = some b ∧ resOf P F.ntmps F.results.toList = some rs ∧ fn = ⟨F.ntmps, rs, b, pol⟩ := by
  unfold fnOf at h
  cases hb : F.body with
  | none => rw [hb] at h; cases h
  | some c =>
    rw [hb] at h
    simp only at h
    cases h1 : codeOf P F.ntmps c with
    | none => rw [h1] at h; cases h
    | some b =>
      cases h2 : resOf P F.ntmps F.results.toList with
      | none => rw [h1, h2] at h; cases h
      | some rs =>
        rw [h1, h2] at h
        simp only at h
        cases hc : Nat.ble (F.params.size + F.nfree) F.ntmps with
        | false => rw [hc] at h; cases h
        | true => rw [hc] at h; cases h; exact ⟨c, b, rs, rfl, h1, rfl, rfl⟩
theorem enter_ok (hm : P.follows .mixedOrders = true) (hf : FnsOk P E) (hin : IntrOk P E) (hcall : CallOk P E call) (n : Nat) : CallOk P E (enter E n call) := by
  intro f args H out h
  unfold enter at h
  cases hfn : E.fns.get f with
  | none => rw [hfn] at h; cases h
  | some fn =>
    rw [hfn] at h
    simp only at h
    obtain ⟨F, pol, hF, hname, hof⟩ := hf f fn hfn
    obtain ⟨c, b, rs, hb, hcode, hres, rfl⟩ := fnOf_spec hof
    refine ⟨⟨F, hF, hname, by rw [hb]; rfl⟩, fun G w cargs hH hG ha => ?_⟩
    refine calls_of_wp hF hb ?_
    cases hex : exec E call n b ⟨initT args 0 .nil, H⟩ with
    | none => rw [hex] at h; cases h
    | some r =>
      rw [hex] at h
      refine code_ok hm hcall hin n c b hcode _ r hex G _ w (start_ok hH hG ha F.ntmps) _ fun e a' w' ⟨G', L, ev, hst, hx⟩ => ?_
      have ret : ∀ {st : St}, StOk E F.ntmps G' a' w' st → Le G H w G' st.H w' → Evo H st.H → answer ⟨F.ntmps, rs, b, pol⟩ H st = some out →
          a'.defers = [] ∧ ∃ v, (results F a'.tmps).run P w' = .ok v w' ∧ OutRel G H w out (.returned v) w' := by
        intro st hst L ev hans
        unfold answer at hans
        cases hr : resAll st rs with
        | none => simp only [hr] at hans; cases hans
        | some vs =>
          simp only [hr] at hans
          obtain ⟨cv, h1, h2⟩ := results_rel hst hres hr
          obtain ⟨u, K, hl, ho⟩ := leave_rel (pol := pol) hH hst.heap L ev h2
          rw [hl] at hans
          cases hans
          exact ⟨hst.defers, cv, h1, cv, rfl, ho⟩
      obtain ⟨ex, st⟩ := r
      cases ex with
      | norm => cases hx; exact ret hst L ev h
      | ret => cases hx; exact ret hst L ev h
      | exit i => cases h
      | pan v =>
        obtain ⟨cv, rfl, hrel⟩ := hx
        cases h
        exact ⟨hst.defers, cv, rfl, G', L, hst.heap, hrel, ev⟩
theorem callN_ok (hm : P.follows .mixedOrders = true) (hf : FnsOk P E) (hin : IntrOk P E) : ∀ n, CallOk P E (callN E n)
  | 0 => fun f args H out h => by cases h
  | n + 1 => enter_ok hm hf hin (callN_ok hm hf hin n) n
end
end Go.Am
