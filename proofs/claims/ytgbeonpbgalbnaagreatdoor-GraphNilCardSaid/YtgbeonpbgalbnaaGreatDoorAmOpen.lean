/- WHAT A STATEMENT's ARGUMENTS AND LISTED VARIABLES ARE TO THE ABSTRACT MACHINE. -/
import Derived.Test.YtgbeonpbgalbnaaGreatDoorAmRun5
import Derived.ProofKit
import Derived.OpenShut
import Derived.Lib.LaidU8
namespace Go.Am
set_option autoImplicit false

section
variable {H : Type}
/-- Data laid one behind the other: each at its place, in its type's number of cells. -/
def openParts (P : Program) (f : TypeId → DataW H → Option (List V)) : Nat → List (Nat × TypeId) → List (DataW H) → Option (List V × Nat)
  | pos, [], [] => some ([], pos)
  | pos, (off, ty) :: ps, d :: ds => bif Nat.beq off pos then
      match f ty d, openParts P f (pos + P.cellsOf ty) ps ds with
      | some a, some (b, e) => some (a ++ b, e)
      | _, _ => none
    else none
  | _, _, _ => none
/-- The cells of a datum, as the abstract machine has them. -/
def openD (P : Program) : Nat → TypeId → DataW H → Option (List V)
  | 0, _, _ => none
  | n + 1, t, d =>
    match P.underlying t, d with
    | some .bool, .lit (.bool b) => some [.bool b]
    | some (.int _), .lit (.int k z) => some [.int k z]
    | some .string, .lit (.string s) => some [.str s]
    | some (.struct fs), .agg ds => match openParts P (openD P n) 0 (fs.toList.map fun f => (f.offset, f.type)) ds with
      | some (vs, e) => bif Nat.beq e (P.cellsOf t) then some vs else none
      | none => none
    | some (.array k e), .agg ds => match openParts P (openD P n) 0 ((List.range k).map fun i => (i * P.cellsOf e, e)) ds with
      | some (vs, e) => bif Nat.beq e (P.cellsOf t) then some vs else none
      | none => none
    | _, _ => none
end
section
variable {H : Type} {enc : TypeId × Value → H} {P : Program} {w : World} {base : Nat} {sp : Nat → Bool} {held : Bool} {G : Gh} {K : Hp}
theorem parts_rel {f : TypeId → DataW H → Option (List V)} {cs : List Value} : ∀ {ps : List (Nat × TypeId)} {ds : List (DataW H)} {pos e : Nat} {vs : List V}, openParts P f pos ps ds = some (vs, e) →
    (∀ (j : Nat) off ty d a, ps[j]? = some (off, ty) → ds[j]? = some d → f ty d = some a → RelL G K w ((cs.drop off).take (P.cellsOf ty)) a ∧ ∀ x ∈ a, x.one = true) → cs.length = e →
    RelL G K w (cs.drop pos) vs ∧ ∀ x ∈ vs, x.one = true
  | [], ds, pos, e, vs, h, _, hl => by
    cases ds with
    | nil =>
      simp only [openParts] at h
      cases h
      rw [List.drop_of_length_le (by omega)]
      exact ⟨.nil, by simp⟩
    | cons d ds => simp [openParts] at h
  | (off, ty) :: ps, ds, pos, e, vs, h, hf, hl => by
    cases ds with
    | nil => simp [openParts] at h
    | cons d ds =>
      simp only [openParts] at h
      by_cases ho : off = pos
      · subst ho
        rw [beqT rfl] at h
        simp only [cond_true] at h
        cases h1 : f ty d with
        | none => rw [h1] at h; cases h
        | some a =>
          cases h2 : openParts P f (off + P.cellsOf ty) ps ds with
          | none => rw [h1, h2] at h; cases h
          | some q =>
            obtain ⟨b, e'⟩ := q
            rw [h1, h2] at h
            cases h
            obtain ⟨r1, o1⟩ := hf 0 off ty d a rfl rfl h1
            obtain ⟨r2, o2⟩ := parts_rel h2 (fun j off' ty' d' a' hp hd ha => hf (j + 1) off' ty' d' a' (by simpa using hp) (by simpa using hd) ha) hl
            refine ⟨?_, fun x hx => (List.mem_append.1 hx).elim (o1 x) (o2 x)⟩
            have : cs.drop off = (cs.drop off).take (P.cellsOf ty) ++ cs.drop (off + P.cellsOf ty) := by
              rw [← List.drop_drop, List.take_append_drop]
            rw [this]
            exact r1.append r2
      · rw [beqF ho] at h; cases h
theorem open_rel : ∀ (n fuel : Nat) (t : TypeId) (cs : List Value) (d : DataW H) (p : List MemPlace) (vs : List V), DataW.trod enc P w base sp held fuel t cs = some (d, p) → openD P n t d = some vs →
    RelL G K w cs vs ∧ ∀ x ∈ vs, x.one = true := by
  intro n
  induction n with
  | zero => intro fuel t cs d p vs _ h; cases h
  | succ n ih =>
    intro fuel t cs d p vs ht ho
    unfold openD at ho
    split at ho
    · rename_i hu
      obtain ⟨b, rfl, hx⟩ := DataW.trod_bool hu ht
      cases hx
      cases ho
      exact ⟨.cons _ _ _ _ (.bool _) .nil, by simp [V.one]⟩
    · rename_i hu
      obtain ⟨b, rfl, hx, _⟩ := DataW.trod_int hu ht
      cases hx
      cases ho
      exact ⟨.cons _ _ _ _ (.int _ _) .nil, by simp [V.one]⟩
    · rename_i hu
      obtain ⟨b, rfl, hx, _⟩ := DataW.trod_string hu ht
      cases hx
      cases ho
      exact ⟨.cons _ _ _ _ (.str _ _ rfl) .nil, by simp [V.one]⟩
    · rename_i fs ds hu
      obtain ⟨xs, m, rfl, hx, hl, hn, hall⟩ := DataW.trod_struct hu ht
      cases hx
      cases hp : openParts P (openD P n) 0 (fs.toList.map fun f => (f.offset, f.type)) (xs.map (·.1)) with
      | none => rw [hp] at ho; cases ho
      | some q =>
        obtain ⟨us, e⟩ := q
        rw [hp] at ho
        simp only at ho
        by_cases he : e = P.cellsOf t
        · rw [beqT he] at ho
          cases ho
          have := parts_rel (cs := cs) (w := w) (G := G) (K := K) hp (fun j off ty d a hj hd ha => ?_) (by omega)
          · simpa using this
          · rw [List.getElem?_map] at hj hd
            cases hf : fs.toList[j]? with
            | none => rw [hf] at hj; cases hj
            | some f =>
              rw [hf] at hj
              cases hj
              cases hxj : xs[j]? with
              | none => rw [hxj] at hd; cases hd
              | some xj =>
                rw [hxj] at hd
                cases hd
                have h1 := hall j f (by simpa using hf)
                rw [hxj] at h1
                exact ih m _ _ xj.1 xj.2 a h1 ha
        · rw [beqF he] at ho; cases ho
    · rename_i k e ds hu
      obtain ⟨xs, m, rfl, hx, hl, hn, hall⟩ := DataW.trod_array hu ht
      cases hx
      cases hp : openParts P (openD P n) 0 ((List.range k).map fun i => (i * P.cellsOf e, e)) (xs.map (·.1)) with
      | none => rw [hp] at ho; cases ho
      | some q =>
        obtain ⟨us, e'⟩ := q
        rw [hp] at ho
        simp only at ho
        by_cases he : e' = P.cellsOf t
        · rw [beqT he] at ho
          cases ho
          have := parts_rel (cs := cs) (w := w) (G := G) (K := K) hp (fun j off ty d a hj hd ha => ?_) (by omega)
          · simpa using this
          · rw [range_map_get] at hj
            rw [List.getElem?_map] at hd
            split at hj
            · rename_i hjk
              cases hj
              cases hxj : xs[j]? with
              | none => rw [hxj] at hd; cases hd
              | some xj =>
                rw [hxj] at hd
                cases hd
                have h1 := hall j hjk
                rw [hxj] at h1
                exact ih m _ _ xj.1 xj.2 a h1 ha
            · cases hj
        · rw [beqF he] at ho; cases ho
    · cases ho
/-- A listed variable. -/
theorem glob_open {W : World} {laid : List (String × DataW Unit)} (h : laidMet P laid W) {name : String} {d : DataW Unit} (hm : (name, d) ∈ laid) {g : Nat} {t : TypeId} (hg : P.globalNamed name = some g)
    (ht : (P.globals[g]?).map (·.type) = some t) {n : Nat} {vs : List V} (ho : openD P n t d = some vs) (hu : ¬ own G K g) : Rel G K W (.pointer (some ⟨g, 0, none⟩)) (.pp (.agg vs)) := by
  obtain ⟨g', t', cs, fuel, p, hg', ht', hvar, hd⟩ := Lib.laidMet.reads h hm
  obtain rfl := Option.some.inj (hg.symm.trans hg')
  obtain rfl := Option.some.inj (ht.symm.trans ht')
  obtain ⟨r, o⟩ := open_rel (G := G) (K := K) n fuel t cs.toList d p vs hd ho
  unfold World.var? at hvar
  rw [hg] at hvar
  simp only [Option.bind_some] at hvar
  split at hvar
  · rename_i c e fr hb
    cases hvar
    have hl := r.length
    simp at hl
    exact .pp g 0 _ e fr (.agg vs) hb hu (by show 0 + vs.length ≤ _; omega) (by
      show RelL G K W ((List.drop 0 _).take vs.length) vs
      rw [List.drop_zero, List.take_of_length_le (by simp; omega)]
      exact r) o rfl
  · cases hvar
end
end Go.Am
