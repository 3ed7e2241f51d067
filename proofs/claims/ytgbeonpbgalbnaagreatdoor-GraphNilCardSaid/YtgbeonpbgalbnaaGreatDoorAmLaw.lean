/- FROM WHAT THE ABSTRACT MACHINE COMPUTES TO WHAT A STATEMENT ASKS: for laws that return true and leave all as it was. -/
import Derived.Test.YtgbeonpbgalbnaaGreatDoorAmTab
import Derived.Carry
namespace Go.Am
set_option autoImplicit false
open Go.RowKit Go.WideShapes Go.ChangeShapes Go.ChangeAt

/-- At the outermost call nothing is the abstract heap's. -/
def outer : Gh := ⟨fun _ => 0, fun _ => 0, fun _ => 0, fun _ => False⟩
theorem outer_own (b : Nat) : ¬ own outer Hp.empty b := not_own_empty outer b fun h => h
theorem below_of {G' : Gh} {H' : Hp} {w w' : World} (L : Le outer Hp.empty w G' H' w') : Below w.heap.size w w' :=
  ⟨L.os, L.tape, L.output, L.size, fun k hk => (L.mem k hk (outer_own k)).2⟩
def isTrue : Option Out → Bool
  | some (.ok (.bool true) _) => true
  | _ => false
/-- A call that the abstract machine takes to return true. -/
theorem calls_true {P : Program} {E : Env} (hm : P.follows .mixedOrders = true) (hf : FnsOk P E) (hin : IntrOk P E) {n f : Nat} {args : List V} (h : isTrue (callN E n f args Hp.empty) = true)
    {W : World} (hG : GlobOk E outer Hp.empty W) {cargs : Array Value} (ha : RelL outer Hp.empty W cargs.toList args) : Calls P f cargs W fun e w' => e = .returned (.bool true) ∧ Below W.heap.size W w' := by
  cases ho : callN E n f args Hp.empty with
  | none => rw [ho] at h; cases h
  | some out =>
    rw [ho] at h
    refine ((callN_ok hm hf hin n f args Hp.empty out ho).2 outer W cargs (HeapRel.empty outer W fun _ h => h.elim) hG ha).mono fun e w' he => ?_
    cases out with
    | pan v H => cases h
    | ok v H =>
      obtain ⟨cv, he, G', L, _, hr, _⟩ := he
      cases v <;> try cases h
      rename_i b
      cases b
      · cases h
      · cases hr
        exact ⟨he, below_of L⟩
section
variable {H : Type} {enc : TypeId × Value → H} {P : Program} {W W' : World}
theorem trodAll_below (hl : laidOutB P = true) (hb : Below W.heap.size W W') : ∀ {ts : List TypeId} {vs : List Value} {ds : List (DataW H)} {ps : List MemPlace}, DataW.TrodAll enc P W 0 (fun _ => true) true ts vs ds ps →
    (∀ t ∈ ts, P.readableRec t = true ∧ t < P.types.size) → (∀ x ∈ ps, x.block < W.heap.size) → DataW.TrodAll enc P W' 0 (fun b => decide (b < W.heap.size)) true ts vs ds ps
  | [], [], [], _, h, _, _ => h
  | t :: ts, v :: vs, d :: ds, ps, h, hr, hlt => by
    obtain ⟨p, q, h1, h2, rfl⟩ := h
    refine ⟨p, q, Below.trod hl (hr t (by simp)).1 (hr t (by simp)).2 h1 hb fun x hx => hlt x (List.mem_append.2 (.inl hx)), ?_, rfl⟩
    exact trodAll_below hl hb h2 (fun t ht => hr t (by simp [ht])) fun x hx => hlt x (List.mem_append.2 (.inr hx))
  | [], _ :: _, _, _, h, _, _ => h.elim
  | [], [], _ :: _, _, h, _, _ => h.elim
  | _ :: _, [], _, _, h, _, _ => h.elim
  | _ :: _, _ :: _, [], _, h, _, _ => h.elim
/-- What a law asks that returns true and leaves all as it was. -/
theorem post_law {f : Func} {s : ChangeSpec} {args : Array Value} {ds : List (DataW H)} {before : List MemPlace} (hv : s.vars = []) (hW : DataW.Whole enc P f.params.toList s.vars false W args.toList ds [] before)
    (hB : Below W.heap.size W W') (hfn : s.fn H (ds ++ []) = { results := [.lit (.bool true)], args := ds }) {t : TypeId} (hrt : f.resultTypes = #[t]) (hbool : P.underlying t = some .bool)
    (hl : laidOutB P = true) (hrd : ∀ t ∈ f.params.toList, P.readableRec t = true ∧ t < P.types.size) : s.post enc P f false true false false W args (.bool true) W' := by
  have hW' := hW
  have hlt := hW.lt
  obtain ⟨p, q, hA, hV, rfl, _, _⟩ := hW
  rw [hv] at hV
  have hq : q = [] := hV
  subst hq
  refine ⟨ds, [], p ++ [], [], p, [], hW', ?_, ?_, ?_, Below.frame hB _, fun h => by cases h⟩
  · rw [hfn, hrt]
    exact trodAll_cons_mk (shut_bool hbool true) trodAll_mk0
  · rw [hfn]
    exact trodAll_below hl hB hA hrd fun x hx => hlt x (by simpa using hx)
  · rw [hfn, hv]
    exact rfl
end
end Go.Am
