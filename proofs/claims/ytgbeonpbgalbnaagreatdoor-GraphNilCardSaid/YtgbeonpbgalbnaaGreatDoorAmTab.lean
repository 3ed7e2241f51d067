/- THE TABLE OF FUNCTIONS: that it is the program's. -/
import Derived.Test.YtgbeonpbgalbnaaGreatDoorAmOpen
namespace Go.Am
set_option autoImplicit false

namespace Tr
variable {α : Type}
def entries : Tr α → List (Nat × α)
  | .nil => []
  | .node l v r => (match v with | some x => [(0, x)] | none => []) ++ (l.entries.map fun q => (2 * q.1 + 1, q.2)) ++ r.entries.map fun q => (2 * q.1 + 2, q.2)
theorem get_mem : ∀ {t : Tr α} {i : Nat} {x : α}, t.get i = some x → (i, x) ∈ t.entries
  | .nil, i, x, h => by cases h
  | .node l v r, i, x, h => by
    rw [get_node] at h
    unfold entries
    by_cases h0 : i = 0
    · subst h0
      rw [if_pos rfl] at h
      subst h
      simp
    · rw [if_neg h0] at h
      by_cases h1 : i % 2 = 1
      · rw [if_pos h1] at h
        refine List.mem_append.2 (.inl (List.mem_append.2 (.inr (List.mem_map.2 ⟨(i / 2, x), get_mem h, ?_⟩))))
        simp
        omega
      · rw [if_neg h1] at h
        refine List.mem_append.2 (.inr (List.mem_map.2 ⟨(i / 2 - 1, x), get_mem h, ?_⟩))
        simp
        omega
end Tr
def Good (P : Program) (f : Nat) (fn : AFn) : Prop := ∃ F pol, P.funcs[f]? = some F ∧ (F.name == "runtime.NumGoroutine") = false ∧ fnOf P pol F = some fn
theorem good {P : Program} {f : Nat} {F : Func} {pol : Nat} (h : P.funcs[f]? = some F) (hn : (F.name == "runtime.NumGoroutine") = false) (hs : (fnOf P pol F).isSome = true) : Good P f ((fnOf P pol F).getD default) := by
  cases he : fnOf P pol F with
  | none => rw [he] at hs; cases hs
  | some fn => exact ⟨F, pol, h, hn, he⟩
theorem allNil {P : Program} : ∀ x ∈ ([] : List (Nat × AFn)), Good P x.1 x.2 := by simp
theorem allCons {P : Program} {f : Nat} {fn : AFn} {l : List (Nat × AFn)} (h : Good P f fn) (hs : ∀ x ∈ l, Good P x.1 x.2) : ∀ x ∈ (f, fn) :: l, Good P x.1 x.2 := by
  intro x hx
  rcases List.mem_cons.1 hx with rfl | hx
  · exact h
  · exact hs x hx
theorem fnsOk_of {P : Program} {E : Env} (h : ∀ x ∈ E.fns.entries, Good P x.1 x.2) : FnsOk P E := fun f fn hf => h (f, fn) (Tr.get_mem hf)
end Go.Am
