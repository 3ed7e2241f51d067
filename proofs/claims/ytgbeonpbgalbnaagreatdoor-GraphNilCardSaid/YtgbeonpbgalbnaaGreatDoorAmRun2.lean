/- THE STEPS OF A REGION. -/
import Derived.Test.YtgbeonpbgalbnaaGreatDoorAmRun1
namespace Go.Am
set_option autoImplicit false

/-- The operation itself, or a call that must leave the heap alone. -/
def Strict (a b : AOp) : Prop := b = a ∨ (∃ f, a = .call f ∧ b = .callp f) ∨ (a = .callv ∧ b = .callvp)

section
variable {P : Program} {E : Env} {call : Caller} {G : Gh} {H : Hp} {w : World} {ρ : Operand → Value} {o : Oper}
theorem outs_same {cv : Value} {v : V} {w' : World} (h1 : HeapRel G H w') (h2 : Le G H w G H w') (h3 : Rel G H w' cv v) : Outs G H w cv v H w' := ⟨G, h2, h1, h3, Evo.refl _⟩
/-- The same with the callee known. -/
theorem done_enter {f : Nat} {cargs : Array Value} {s : Result Next} (hs : s = .ok (.enter f cargs) w) {r : OpR}
    (hc : Calls P f cargs w (ResRel G H w r)) : OpDone P s G H w r := by
  cases r with
  | val v H' => exact .inr ⟨f, cargs, hs, hc⟩
  | pan v H' => exact .inr ⟨f, cargs, hs, hc⟩
/-- A function value's call. -/
theorem run_value {c : Call} (ho : o.op = .call c) {f : Operand} (hf : c.callee = .value f) {g : Nat} {first caps : Array Value} (hg : ρ f = .func (.func g) first caps) :
    (execOp ρ o).run P w = (callFunc g (first ++ c.args.map ρ ++ caps)).run P w := by
  unfold execOp
  simp only [ho]
  simp only [resolve, hf, hg, Deferred.ofValue, Sem.run_bind, Sem.run_pure, Result.andThen_ok, invoke]
theorem intr_done {g : List V → Option V} {vs : List V} {r : OpR} (h : intrOf g vs H = some r) {f : Nat} {cargs : Array Value} {s : Result Next} (hs : s = (callFunc f cargs).run P w)
    (hc : ∀ v, g vs = some v → IntrGives P f cargs G H w v) : OpDone P s G H w r := by
  unfold intrOf at h
  cases hg : g vs with
  | none => rw [hg] at h; cases h
  | some v =>
    rw [hg] at h
    cases h
    rcases hc v hg with ⟨cv, w', h1, a, b, c⟩ | ⟨h1, h2⟩
    · exact .inl ⟨cv, w', .inl (hs.trans h1), outs_same a b c⟩
    · exact .inr ⟨f, cargs, hs.trans h1, h2.mono fun e w' ⟨cv, he, a, b, c⟩ => ⟨cv, he, outs_same a b c⟩⟩
theorem gives_calls {f : Nat} (hk : Known P f) {cargs : Array Value} {v : V} (h : Calls P f cargs w fun e w' => ∃ cv, e = .returned cv ∧ HeapRel G H w' ∧ Le G H w G H w' ∧ Rel G H w' cv v) : IntrGives P f cargs G H w v :=
  .inr ⟨run_callFunc hk _, h⟩
theorem intr_known {g : List V → Option V} {vs : List V} {r : OpR} (h : intrOf g vs H = some r) : ∃ v, g vs = some v := by
  unfold intrOf at h
  cases hg : g vs with
  | none => rw [hg] at h; cases h
  | some v => exact ⟨v, rfl⟩
theorem doCallP_known (hc : CallOk P E call) {f : Nat} {args : List V} {v : V} (h : doCallP call f args = some v) : Known P f := by
  unfold doCallP at h
  cases hp : V.pureL args with
  | false => rw [hp] at h; cases h
  | true =>
    rw [hp] at h
    simp only [cond_true] at h
    cases ho : call f args Hp.empty with
    | none => rw [ho] at h; cases h
    | some out => exact (hc f args _ out ho).1
theorem args_rel {xs : Array Operand} {vs : List V} (h : RelL G H w (xs.toList.map ρ) vs) : RelL G H w (xs.map ρ).toList vs := by simpa using h
theorem fn_args {first caps : Array Value} {fs cs vs : List V} {xs : Array Operand} (h1 : RelL G H w first.toList fs) (h2 : RelL G H w caps.toList cs) (h : RelL G H w (xs.toList.map ρ) vs) :
    RelL G H w (first ++ xs.map ρ ++ caps).toList (fs ++ vs ++ cs) := by
  simp only [Array.toList_append]
  exact (h1.append (args_rel h)).append h2
theorem op_done (hρ : ∀ f, ρ (.func f) = .func (.func f) #[] #[]) (hcall : CallOk P E call) (hin : IntrOk P E) {a : AOp} {xs : List Operand} (hc : opOf P o.op = some (a, xs)) {ao : AOper} (hs : Strict a ao.op) (hH : HeapRel G H w) (hG : GlobOk E G H w)
    {vs : List V} (hr : RelL G H w (xs.map ρ) vs) {r : OpR} (h : ao.run E call vs H = some r) : OpDone P ((execOp ρ o).run P w) G H w r := by
  by_cases hk : a.kind = .plain
  · have hop : ao.op = a := by
      rcases hs with h | ⟨f, h, _⟩ | ⟨h, _⟩
      · exact h
      · rw [h] at hk; cases hk
      · rw [h] at hk; cases hk
    unfold AOper.run at h
    rw [hop, hk] at h
    simp only at h
    cases he : a.ev vs H with
    | none => rw [he] at h; cases h
    | some q =>
      obtain ⟨v, H'⟩ := q
      rw [he] at h
      cases h
      obtain ⟨G', w', cv, h1, h2, h3, h4⟩ := op_sim hc rfl hk hH hr he
      exact .inl ⟨cv, w', h1, G', h2, h3, h4, ev_evo he⟩
  · rcases opOf_inv hc hk with ⟨c, ho, hc⟩ | ⟨x, ho, rfl, rfl⟩
    · rcases callOf_inv hc hk with ⟨f, hf, rfl, rfl⟩ | ⟨f, hf, rfl, rfl⟩ | ⟨x, hf, hx, rfl, rfl⟩
      · obtain ⟨hop, hrun⟩ : (ao.op = .call f ∨ ao.op = .callp f) ∧ True := ⟨(by
          rcases hs with h | ⟨g, h, h'⟩ | ⟨h, _⟩
          · exact .inl h
          · cases h; exact .inr h'
          · cases h), trivial⟩
        have hargs : RelL G H w (#[] ++ c.args.map ρ ++ #[] : Array Value).toList vs := by simpa using hr
        have enter := run_value (w := w) ho hf (hρ f) (P := P)
        rcases hop with hop | hop <;> unfold AOper.run at h <;> rw [hop] at h <;> simp only [AOp.kind] at h <;> cases hi : E.intr f <;> rw [hi] at h <;> simp only at h
        · obtain ⟨hkn, hcalls⟩ := doCall_ok hcall h hH hG hargs
          exact done_enter (enter.trans (run_callFunc hkn _)) hcalls
        · rename_i g
          exact intr_done h enter fun v hv => hin f g hi vs v hv G H w _ hH hG hargs
        · exact intr_done h enter fun v hv => gives_calls (doCallP_known hcall hv) (doCallP_ok hcall hv hH hG hargs).2
        · rename_i g
          exact intr_done h enter fun v hv => hin f g hi vs v hv G H w _ hH hG hargs
      · obtain ⟨hop, hrun⟩ : (ao.op = .callv ∨ ao.op = .callvp) ∧ True := ⟨(by
          rcases hs with h | ⟨g, h, h'⟩ | ⟨h, h'⟩
          · exact .inl h
          · cases h
          · exact .inr h'), trivial⟩
        rcases hop with hop | hop <;> unfold AOper.run at h <;> rw [hop] at h <;> simp only [AOp.kind] at h <;> split at h <;> try cases h
        · rename_i g first caps vs'
          simp only [List.map_cons] at hr
          generalize hgv : ρ f = cvf at hr
          cases hr with
          | cons _ _ _ _ hv hr =>
            cases hv with
            | fn _ cf cc _ _ h1 h2 =>
              obtain ⟨hkn, hcalls⟩ := doCall_ok hcall h hH hG (fn_args h1 h2 hr)
              exact done_enter ((run_value ho hf hgv).trans (run_callFunc hkn _)) hcalls
        · rename_i g first caps vs'
          simp only [List.map_cons] at hr
          generalize hgv : ρ f = cvf at hr
          cases hr with
          | cons _ _ _ _ hv hr =>
            cases hv with
            | fn _ cf cc _ _ h1 h2 =>
              exact intr_done h (run_value ho hf hgv) fun v hv => gives_calls (doCallP_known hcall hv) (doCallP_ok hcall hv hH hG (fn_args h1 h2 hr)).2
      · have hop : ao.op = .panic := by
          rcases hs with h | ⟨g, h, h'⟩ | ⟨h, h'⟩
          · exact h
          · cases h
          · cases h
        unfold AOper.run at h
        rw [hop] at h
        simp only [AOp.kind] at h
        split at h
        · rename_i t y
          cases h
          simp only [List.map_cons, List.map_nil] at hr
          generalize hgv : ρ x = cvf at hr
          cases hr with
          | cons _ _ _ _ hv hr =>
            cases hv with
            | iface _ cv _ hv =>
              refine .inl ⟨.iface t cv, w, ?_, outs_same hH (Le.refl _ _ _) (.iface _ _ _ hv)⟩
              unfold execOp
              simp [ho, resolve, hf, hx, hgv, invoke, builtin, Instr.panic, goPanic]
        · cases h
    · have hop : ao.op = .panic := by
        rcases hs with h | ⟨g, h, h'⟩ | ⟨h, h'⟩
        · exact h
        · cases h
        · cases h
      unfold AOper.run at h
      rw [hop] at h
      simp only [AOp.kind] at h
      split at h
      · rename_i t y
        cases h
        simp only [List.map_cons, List.map_nil] at hr
        generalize hgv : ρ x = cvf at hr
        cases hr with
        | cons _ _ _ _ hv hr =>
          cases hv with
          | iface _ cv _ hv =>
            refine .inl ⟨.iface t cv, w, ?_, outs_same hH (Le.refl _ _ _) (.iface _ _ _ hv)⟩
            unfold execOp
            simp [ho, hgv, Instr.panic, goPanic]
      · cases h
end
end Go.Am
