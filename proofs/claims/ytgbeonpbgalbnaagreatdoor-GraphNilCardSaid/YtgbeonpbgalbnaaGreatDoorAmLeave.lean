/- WHAT BECOMES OF VALUES WHEN A CALL IS LEFT: taken over into another heap, frozen, renumbered. -/
import Derived.Test.YtgbeonpbgalbnaaGreatDoorAmSim
namespace Go.Am
set_option autoImplicit false

/-! ### the numbers in a value -/
section
variable {p : Nat → Bool}
theorem refs_list (p : Nat → Bool) : ∀ (vs : List V), (V.rec_1 (motive_1 := fun _ => Bool) (motive_2 := fun _ => Bool) (fun _ _ => true) (fun _ => true) (fun _ => true) (fun _ h => h) (fun _ h => h) (fun i _ => p i) true (fun _ h => h)
    (fun i _ _ _ _ _ => p i) (fun _ _ h => h) true (fun i => p i) (fun _ _ h g => h && g) true (fun _ _ _ h g => h && g) true (fun _ _ h => h) true true (fun _ _ h g => h && g) vs : Bool) = V.allRefsL p vs
  | [] => rfl
  | v :: vs => congrArg (v.allRefs p && ·) (refs_list p vs)
theorem refs_agg (vs : List V) : (V.agg vs).allRefs p = V.allRefsL p vs := refs_list p vs
theorem refs_tuple (vs : List V) : (V.tuple vs).allRefs p = V.allRefsL p vs := refs_list p vs
theorem refs_psl (vs : List V) (f : Bool) : (V.psl vs f).allRefs p = V.allRefsL p vs := refs_list p vs
theorem refs_pmap (ks vs : List V) : (V.pmap ks vs).allRefs p = (V.allRefsL p ks && V.allRefsL p vs) := by rw [← refs_list p ks, ← refs_list p vs]; rfl
theorem refs_fn (f : Nat) (a b : List V) : (V.fn f a b).allRefs p = (V.allRefsL p a && V.allRefsL p b) := by rw [← refs_list p a, ← refs_list p b]; rfl
theorem refs_pp (v : V) : (V.pp v).allRefs p = v.allRefs p := rfl
theorem refs_iface (t : Nat) (v : V) : (V.iface t v).allRefs p = v.allRefs p := rfl
theorem refs_ptr (i o : Nat) : (V.ptr i o).allRefs p = p i := rfl
theorem refs_sl (i o n : Nat) (c : Option Nat) (es : Nat) (ag : Bool) : (V.sl i o n c es ag).allRefs p = p i := rfl
theorem refs_map (i : Nat) : (V.map i).allRefs p = p i := rfl
theorem refs_cons (v : V) (vs : List V) : V.allRefsL p (v :: vs) = (v.allRefs p && V.allRefsL p vs) := rfl
theorem refsL_iff {vs : List V} : V.allRefsL p vs = true ↔ ∀ v ∈ vs, v.allRefs p = true := by
  induction vs with
  | nil => simp [V.allRefsL]
  | cons v vs ih => rw [refs_cons]; simp [ih]
theorem refs_flat {v : V} (h : v.allRefs p = true) : V.allRefsL p v.flat = true := by
  cases v with
  | agg vs => rw [refs_agg] at h; exact h
  | tuple vs => rfl
  | _ => show (_ && true) = true; rw [h]; rfl
theorem refs_flatMap {vs : List V} (h : V.allRefsL p vs = true) : V.allRefsL p (vs.flatMap V.flat) = true := by
  rw [refsL_iff] at *
  intro v hv
  obtain ⟨u, hu, hv⟩ := List.mem_flatMap.1 hv
  exact (refsL_iff.1 (refs_flat (h u hu))) v hv
theorem flat_refs {v : V} (ht : v.isTup = false) (h : V.allRefsL p v.flat = true) : v.allRefs p = true := by
  cases v with
  | agg vs => rw [refs_agg]; exact h
  | tuple vs => cases ht
  | _ => have h : (_ && true) = true := h; simpa using h
end
theorem refs_mono {p q : Nat → Bool} (h : ∀ i, p i = true → q i = true) {v : V} (hv : v.allRefs p = true) : v.allRefs q = true := by
  have : ∀ v : V, v.allRefs p = true → v.allRefs q = true := fun v =>
    V.rec (motive_1 := fun v => v.allRefs p = true → v.allRefs q = true) (motive_2 := fun vs => V.allRefsL p vs = true → V.allRefsL q vs = true)
      (fun _ _ _ => rfl) (fun _ _ => rfl) (fun _ _ => rfl) (fun _ ih h => by rw [refs_agg] at *; exact ih h) (fun _ ih h => by rw [refs_tuple] at *; exact ih h)
      (fun i _ hi => h i hi) (fun _ => rfl) (fun _ ih h => ih h) (fun i _ _ _ _ _ hi => h i hi) (fun _ _ ih h => by rw [refs_psl] at *; exact ih h) (fun _ => rfl) (fun i hi => h i hi)
      (fun _ _ i1 i2 h => by rw [refs_pmap] at *; simp only [Bool.and_eq_true] at *; exact ⟨i1 h.1, i2 h.2⟩) (fun _ => rfl)
      (fun _ _ _ i1 i2 h => by rw [refs_fn] at *; simp only [Bool.and_eq_true] at *; exact ⟨i1 h.1, i2 h.2⟩) (fun _ => rfl) (fun _ _ ih h => ih h) (fun _ => rfl) (fun _ => rfl)
      (fun _ _ i1 i2 h => by rw [refs_cons] at *; simp only [Bool.and_eq_true] at *; exact ⟨i1 h.1, i2 h.2⟩) v
  exact this v hv

/-! ### the same value, seen from another heap -/
section
variable {G G' : Gh} {H H' : Hp} {w : World}
mutual
theorem Rel.move (p : Nat → Bool) (hp : ∀ i, p i = true → i < H'.n ∧ (H'.live i → H.live i ∧ G'.ι i = G.ι i ∧ G'.β i = G.β i ∧ G'.σ i = G.σ i)) (hu' : ∀ b, ¬ own G H b → ¬ own G' H' b) :
    ∀ {c : Value} {v : V}, Rel G H w c v → v.allRefs p = true → Rel G' H' w c v
  | _, _, .int k n, _ => .int k n
  | _, _, .bool b, _ => .bool b
  | _, _, .str s l h, _ => .str s l h
  | _, _, .agg cs vs h h1, hr => .agg cs vs (RelL.move p hp hu' h (by rw [refs_agg] at hr; exact hr)) h1
  | _, _, .tuple cs vs h, hr => .tuple cs vs (RelL.move p hp hu' h (by rw [refs_tuple] at hr; exact hr))
  | _, _, .ptr i o a hi ha, hr => .ptr i o a (hp i hr).1 fun hl => by
      obtain ⟨l, e1, e2, _⟩ := (hp i hr).2 hl
      rw [e1, e2]; exact ha l
  | _, _, .nilp, _ => .nilp
  | _, _, .pp b o c e fr v hb hu hs h h1 ht, hr => .pp b o c e fr v hb (hu' b hu) hs (RelL.move p hp hu' h (refs_flat hr)) h1 ht
  | _, _, .sl i o n kc es ag a cap hi hn hk ha, hr => .sl i o n kc es ag a cap (hp i hr).1 hn hk fun hl hc => by
      obtain ⟨l, e1, e2, e3⟩ := (hp i hr).2 hl
      rw [e1, e2, e3]; exact ha l hc
  | _, _, .psl b o n cap c e fr vs full es hl hn hf hb hu he hs h h1 ht, hr =>
      .psl b o n cap c e fr vs full es hl hn hf hb (hu' b hu) he hs (RelL.move p hp hu' h (refs_flatMap (by rw [refs_psl] at hr; exact hr))) h1 ht
  | _, _, .pslNone full, _ => .pslNone full
  | _, _, .pslEmpty a cap full hf, _ => .pslEmpty a cap full hf
  | _, _, .nils, _ => .nils
  | _, _, .map i r hi hr', hr => .map i r (hp i hr).1 fun hl => by
      obtain ⟨l, e1, _⟩ := (hp i hr).2 hl
      rw [e1]; exact hr' l
  | _, _, .pmap r es clock ks vs hb hu hk hv, hr => .pmap r es clock ks vs hb (hu' r hu) (RelL.move p hp hu' hk (by rw [refs_pmap] at hr; simp only [Bool.and_eq_true] at hr; exact hr.1))
      (RelL.move p hp hu' hv (by rw [refs_pmap] at hr; simp only [Bool.and_eq_true] at hr; exact hr.2))
  | _, _, .nilm, _ => .nilm
  | _, _, .fn f first caps fs cs hf hc, hr => .fn f first caps fs cs (RelL.move p hp hu' hf (by rw [refs_fn] at hr; simp only [Bool.and_eq_true] at hr; exact hr.1))
      (RelL.move p hp hu' hc (by rw [refs_fn] at hr; simp only [Bool.and_eq_true] at hr; exact hr.2))
  | _, _, .nilf, _ => .nilf
  | _, _, .iface t v x h, hr => .iface t v x (Rel.move p hp hu' h hr)
  | _, _, .nili, _ => .nili
theorem RelL.move (p : Nat → Bool) (hp : ∀ i, p i = true → i < H'.n ∧ (H'.live i → H.live i ∧ G'.ι i = G.ι i ∧ G'.β i = G.β i ∧ G'.σ i = G.σ i)) (hu' : ∀ b, ¬ own G H b → ¬ own G' H' b) :
    ∀ {cs : List Value} {vs : List V}, RelL G H w cs vs → V.allRefsL p vs = true → RelL G' H' w cs vs
  | _, _, .nil, _ => .nil
  | _, _, .cons v x vs xs h hs, hr => by
      rw [refs_cons] at hr
      simp only [Bool.and_eq_true] at hr
      exact .cons v x vs xs (Rel.move p hp hu' h hr.1) (RelL.move p hp hu' hs hr.2)
end
mutual
/-- The numbers in a value are those of objects that there are. -/
theorem Rel.lt : ∀ {c : Value} {v : V}, Rel G H w c v → v.lt H.n = true
  | _, _, .int _ _ => rfl
  | _, _, .bool _ => rfl
  | _, _, .str _ _ _ => rfl
  | _, _, .agg _ vs h _ => (refs_agg vs).trans (RelL.lt h)
  | _, _, .tuple _ vs h => (refs_tuple vs).trans (RelL.lt h)
  | _, _, .ptr _ _ _ hi _ => bltT hi
  | _, _, .nilp => rfl
  | _, _, .pp _ _ _ _ _ v _ _ _ h _ ht => (refs_pp v).trans (flat_refs ht (RelL.lt h))
  | _, _, .sl _ _ _ _ _ _ _ _ hi _ _ _ => bltT hi
  | _, _, .psl _ _ _ _ _ _ _ vs f _ _ _ _ _ _ _ _ h _ ht => (refs_psl vs f).trans (refsL_iff.2 fun v hv => flat_refs (ht v hv) (refsL_iff.2 fun x hx =>
      (refsL_iff.1 (RelL.lt h)) x (List.mem_flatMap.2 ⟨v, hv, hx⟩)))
  | _, _, .pslNone _ => rfl
  | _, _, .pslEmpty _ _ _ _ => rfl
  | _, _, .nils => rfl
  | _, _, .map _ _ hi _ => bltT hi
  | _, _, .pmap _ _ _ ks vs _ _ hk hv => by
      have h1 := RelL.lt hk
      have h2 := RelL.lt hv
      exact (refs_pmap ks vs).trans (by rw [h1, h2]; rfl)
  | _, _, .nilm => rfl
  | _, _, .fn f _ _ fs cs hf hc => by
      have h1 := RelL.lt hf
      have h2 := RelL.lt hc
      exact (refs_fn f fs cs).trans (by rw [h1, h2]; rfl)
  | _, _, .nilf => rfl
  | _, _, .iface t _ x h => (refs_iface t x).trans (Rel.lt h)
  | _, _, .nili => rfl
theorem RelL.lt : ∀ {cs : List Value} {vs : List V}, RelL G H w cs vs → V.allRefsL (fun i => Nat.blt i H.n) vs = true
  | _, _, .nil => rfl
  | _, _, .cons _ x _ xs h hs => by
      have h1 := Rel.lt h
      have h2 := RelL.lt hs
      exact (refs_cons x xs).trans (by rw [h2]; simpa [V.lt] using h1)
end
end

/-! ### what is frozen -/
section
variable {G G0 : Gh} {H H0 : Hp} {w : World}
theorem mapM_spec {f : V → Option V} : ∀ {vs us : List V}, vs.mapM f = some us → us.length = vs.length ∧ ∀ (i : Nat) v, vs[i]? = some v → ∃ u, us[i]? = some u ∧ f v = some u
  | [], us, h => by simp at h; subst h; simp
  | v :: vs, us, h => by
    rw [List.mapM_cons] at h
    cases h1 : f v with
    | none => simp [h1] at h
    | some u =>
      cases h2 : vs.mapM f with
      | none => simp [h1, h2] at h
      | some us' =>
        simp [h1, h2] at h
        subst h
        obtain ⟨l, r⟩ := mapM_spec h2
        refine ⟨by simp [l], fun i x hx => ?_⟩
        cases i with
        | zero => simp at hx; subst hx; exact ⟨u, rfl, h1⟩
        | succ i => simpa using r i x (by simpa using hx)
theorem RelL.mapM {cs : List Value} {vs us : List V} {f : V → Option V} (h : RelL G H w cs vs) (hm : vs.mapM f = some us) (hf : ∀ c v u, Rel G H w c v → f v = some u → Rel G0 H0 w c u) : RelL G0 H0 w cs us := by
  obtain ⟨l, r⟩ := mapM_spec hm
  refine RelL.of_get (by rw [h.length, l]) fun i c u hc hu => ?_
  obtain ⟨v, hv⟩ : ∃ v, vs[i]? = some v := by
    have : i < vs.length := by
      rcases Nat.lt_or_ge i us.length with h' | h'
      · omega
      · rw [List.getElem?_eq_none h'] at hu; cases hu
    exact ⟨_, List.getElem?_eq_getElem this⟩
  obtain ⟨c', hc', hr⟩ := h.get hv
  rw [hc] at hc'
  cases hc'
  obtain ⟨u', hu', hfu⟩ := r i v hv
  rw [hu] at hu'
  cases hu'
  exact hf c v u hr hfu
theorem one_map {α : Type} {o : Option α} {f : α → V} {u : V} (hf : ∀ a, (f a).one = true) (h : o.map f = some u) : u.one = true := by
  cases o with
  | none => cases h
  | some a => cases h; exact hf a
theorem freeze_one {m d : Nat} {v u : V} (h : freeze H m d v = some u) (h1 : v.one = true) : u.one = true := by
  cases d with
  | zero => cases h
  | succ d =>
    unfold freeze at h
    split at h
    · cases h; exact h1
    · split at h
      · cases h1
      · cases h1
      · exact one_map (fun _ => rfl) h
      · exact one_map (fun _ => rfl) h
      · exact one_map (fun _ => rfl) h
      · split at h
        · cases h; rfl
        · cases h
      · split at h
        · cases h; rfl
        · cases h
      · split at h
        · split at h
          · cases h
          · split at h
            · exact one_map (fun _ => rfl) h
            · split at h
              · split at h
                · cases h
                · exact one_map (fun _ => rfl) h
              · cases h
        · cases h
      · split at h
        · split at h
          · cases h
          · exact one_map (fun _ => rfl) h
        · cases h
      · split at h
        · split at h
          · cases h; rfl
          · cases h
        · cases h
      · cases h; exact h1
theorem chunk_spec (es : Nat) (ag : Bool) (hes : 0 < es) (ha : ag = false → es = 1) : ∀ (n : Nat) (l : List V), l.length = n * es → (∀ x ∈ l, x.one = true) →
    (chunk es ag n l).length = n ∧ (chunk es ag n l).flatMap V.flat = l ∧ ∀ v ∈ chunk es ag n l, v.flat.length = es ∧ v.isTup = false ∧ ∀ x ∈ v.flat, x.one = true
  | 0, l, hl, _ => by
    have : l = [] := List.length_eq_zero_iff.1 (by simpa using hl)
    subst this
    simp [chunk]
  | n + 1, l, hl, h1 => by
    rw [Nat.succ_mul] at hl
    obtain ⟨i1, i2, i3⟩ := chunk_spec es ag hes ha n (l.drop es) (by simp; omega) (fun x hx => h1 x (List.mem_of_mem_drop hx))
    have head : (if ag then V.agg (l.take es) else l.headD V.undef).flat = l.take es ∧ (if ag then V.agg (l.take es) else l.headD V.undef).isTup = false := by
      cases ag with
      | true => exact ⟨rfl, rfl⟩
      | false =>
        have := ha rfl
        subst this
        cases l with
        | nil => simp at hl
        | cons x xs =>
          have := h1 x (by simp)
          simp only [Bool.false_eq_true, if_false, List.headD_cons, List.take_succ_cons, List.take_zero]
          cases x <;> first | exact ⟨rfl, rfl⟩ | simp [V.one] at this
    refine ⟨by simp [chunk, i1], ?_, fun v hv => ?_⟩
    · simp only [chunk, List.flatMap_cons, head.1, i2, List.take_append_drop]
    · simp only [chunk, List.mem_cons] at hv
      rcases hv with rfl | hv
      · refine ⟨by rw [head.1]; simp; omega, head.2, fun x hx => ?_⟩
        rw [head.1] at hx
        exact h1 x (List.mem_of_mem_take hx)
      · exact i3 v hv
theorem RelL.split {cs : List Value} {a b : List V} (h : RelL G H w cs (a ++ b)) : ∃ c1 c2, cs = c1 ++ c2 ∧ RelL G H w c1 a ∧ RelL G H w c2 b := by
  induction a generalizing cs with
  | nil => exact ⟨[], cs, rfl, .nil, h⟩
  | cons x a ih =>
    cases h with
    | cons c _ cs' _ h hs =>
      obtain ⟨c1, c2, rfl, h1, h2⟩ := ih hs
      exact ⟨c :: c1, c2, rfl, .cons _ _ _ _ h h1, h2⟩
theorem rel_from_agg {c : Array Value} {l : V} (h : Rel G H w (.agg c) l) : ∃ us, l = .agg us ∧ RelL G H w c.toList us ∧ ∀ x ∈ us, x.one = true := by
  cases h with | agg _ us h h1 => exact ⟨us, rfl, h, h1⟩
/-- The cells of one element, frozen. -/
theorem elem_cells {f : V → Option V} (ih : ∀ c v u, Rel G H w c v → f v = some u → Rel G0 H0 w c u) (ho : ∀ {v u : V}, f v = some u → v.one = true → u.one = true) {cs : List Value} {v u : V} (h : RelL G H w cs v.flat) (h1 : ∀ x ∈ v.flat, x.one = true)
    (ht : v.isTup = false) (hf : f v = some u) : RelL G0 H0 w cs u.flat ∧ u.flat.length = v.flat.length ∧ u.isTup = false ∧ ∀ x ∈ u.flat, x.one = true := by
  have whole : v.one = true → RelL G0 H0 w cs u.flat ∧ u.flat.length = v.flat.length ∧ u.isTup = false ∧ ∀ x ∈ u.flat, x.one = true := by
    intro hv
    have hu := ho hf hv
    have flat1 : ∀ {x : V}, x.one = true → x.flat = [x] ∧ x.isTup = false := fun {x} h => by cases x <;> first | exact ⟨rfl, rfl⟩ | cases h
    rw [(flat1 hv).1] at h ⊢
    rw [(flat1 hu).1]
    cases h with
    | cons c _ cs' _ h hs =>
      cases hs
      exact ⟨.cons _ _ _ _ (ih _ _ _ h hf) .nil, rfl, (flat1 hu).2, fun x hx => by simp at hx; subst hx; exact hu⟩
  cases v with
  | agg vs =>
    obtain ⟨us, rfl, h2, h3⟩ := rel_from_agg (ih (.agg cs.toArray) _ _ (.agg _ _ (by simpa using h) h1) hf)
    exact ⟨(by show RelL G0 H0 w cs us; simpa using h2), by have := h2.length; have := h.length; simp [V.flat] at *; omega, rfl, h3⟩
  | tuple vs => cases ht
  | _ => exact whole rfl
theorem elems_cells {f : V → Option V} (ih : ∀ c v u, Rel G H w c v → f v = some u → Rel G0 H0 w c u) (ho : ∀ {v u : V}, f v = some u → v.one = true → u.one = true) : ∀ {vs us : List V} {cs : List Value}, RelL G H w cs (vs.flatMap V.flat) →
    (∀ v ∈ vs, ∀ x ∈ v.flat, x.one = true) → (∀ v ∈ vs, v.isTup = false) → vs.mapM f = some us →
    RelL G0 H0 w cs (us.flatMap V.flat) ∧ us.length = vs.length ∧ (∀ es, (∀ v ∈ vs, v.flat.length = es) → ∀ u ∈ us, u.flat.length = es) ∧ (∀ u ∈ us, u.isTup = false) ∧ ∀ u ∈ us, ∀ x ∈ u.flat, x.one = true
  | [], us, cs, h, _, _, hm => by
    simp at hm
    subst hm
    cases h
    exact ⟨.nil, rfl, by simp, by simp, by simp⟩
  | v :: vs, us, cs, h, h1, ht, hm => by
    rw [List.mapM_cons] at hm
    cases hf : f v with
    | none => simp [hf] at hm
    | some u =>
      cases h2 : vs.mapM f with
      | none => simp [hf, h2] at hm
      | some us' =>
        simp [hf, h2] at hm
        subst hm
        rw [List.flatMap_cons] at h
        obtain ⟨c1, c2, rfl, e1, e2⟩ := h.split
        obtain ⟨a1, a2, a3, a4⟩ := elem_cells ih ho e1 (h1 v (by simp)) (ht v (by simp)) hf
        obtain ⟨b1, b2, b3, b4, b5⟩ := elems_cells ih ho e2 (fun x hx => h1 x (by simp [hx])) (fun x hx => ht x (by simp [hx])) h2
        refine ⟨by rw [List.flatMap_cons]; exact a1.append b1, by simp [b2], fun es he x hx => ?_, fun x hx => ?_, fun x hx => ?_⟩
        · rcases List.mem_cons.1 hx with rfl | hx
          · rw [a2]; exact he v (by simp)
          · exact b3 es (fun y hy => he y (by simp [hy])) x hx
        · rcases List.mem_cons.1 hx with rfl | hx
          · exact a3
          · exact b4 x hx
        · rcases List.mem_cons.1 hx with rfl | hx
          · exact a4
          · exact b5 x hx
/-- A frozen value, seen from the heap that there was before. -/
theorem freeze_rel (hH : HeapRel G H w) {m : Nat} (hp : ∀ i, i < m → i < H0.n ∧ (H0.live i → H.live i ∧ G0.ι i = G.ι i ∧ G0.β i = G.β i ∧ G0.σ i = G.σ i)) (hu : ∀ b, ¬ own G H b → ¬ own G0 H0 b)
    (hnew : ∀ i, m ≤ i → H.live i → ¬ own G0 H0 (G.ι i)) : ∀ (d : Nat) (c : Value) (v u : V), Rel G H w c v → freeze H m d v = some u → Rel G0 H0 w c u := by
  intro d
  induction d with
  | zero => intro c v u _ h; cases h
  | succ d ih =>
    intro c v u hr h
    have mapL : ∀ {cs : List Value} {vs us : List V}, RelL G H w cs vs → vs.mapM (freeze H m d) = some us → RelL G0 H0 w cs us := fun h1 h2 => h1.mapM h2 ih
    have oneL : ∀ {vs us : List V}, vs.mapM (freeze H m d) = some us → (∀ x ∈ vs, x.one = true) → ∀ x ∈ us, x.one = true := by
      intro vs us hm h1 x hx
      obtain ⟨l, r⟩ := mapM_spec hm
      obtain ⟨i, hi, hxe⟩ := List.mem_iff_getElem.1 hx
      have hiv : i < vs.length := by omega
      obtain ⟨u', hu', hf⟩ := r i vs[i] (List.getElem?_eq_getElem hiv)
      rw [List.getElem?_eq_getElem hi] at hu'
      cases hu'
      rw [← hxe]
      exact freeze_one hf (h1 _ (List.getElem_mem hiv))
    unfold freeze at h
    split at h
    · rename_i hlt
      cases h
      exact Rel.move (fun i => Nat.blt i m) (fun i hi => hp i (blt_iff.1 hi)) hu hr hlt
    · rename_i hlt
      have hge : ∀ i, v.allRefs (fun j => Nat.blt j m) = Nat.blt i m → m ≤ i := fun i e => by
        rcases Nat.lt_or_ge i m with h' | h'
        · rw [bltT h'] at e; exact absurd e hlt
        · exact h'
      cases hr with
      | agg cs vs hr h1 =>
        simp only at h
        cases hm : vs.mapM (freeze H m d) with
        | none => simp [hm] at h
        | some l => simp [hm] at h; subst h; exact .agg _ _ (mapL hr hm) (oneL hm h1)
      | tuple cs vs hr =>
        simp only at h
        cases hm : vs.mapM (freeze H m d) with
        | none => simp [hm] at h
        | some l => simp [hm] at h; subst h; exact .tuple _ _ (mapL hr hm)
      | iface t c' x hr =>
        simp only at h
        cases hm : freeze H m d x with
        | none => simp [hm] at h
        | some l => simp [hm] at h; subst h; exact .iface _ _ _ (ih _ _ _ hr hm)
      | fn f a b fs cs h1 h2 =>
        simp only at h
        cases hm : fs.mapM (freeze H m d) with
        | none => simp [hm] at h
        | some l =>
          cases hm2 : cs.mapM (freeze H m d) with
          | none => simp [hm, hm2] at h
          | some l2 => simp [hm, hm2] at h; subst h; exact .fn _ _ _ _ _ (mapL h1 hm) (mapL h2 hm2)
      | pmap r es clock ks vs hb hu' hk hv =>
        simp only at h
        cases hm : ks.mapM (freeze H m d) with
        | none => simp [hm] at h
        | some l =>
          cases hm2 : vs.mapM (freeze H m d) with
          | none => simp [hm, hm2] at h
          | some l2 => simp [hm, hm2] at h; subst h; exact .pmap _ _ _ _ _ hb (hu r hu') (mapL hk hm) (mapL hv hm2)
      | map i r hi hri =>
        simp only at h
        cases hg : H.get i with
        | none => simp [hg] at h
        | some ob =>
          cases ob <;> simp only [hg] at h <;> try cases h
          rename_i ks vs
          have hlive : H.live i := ⟨_, hg, rfl⟩
          cases hm : ks.mapM (freeze H m d) with
          | none => simp [hm] at h
          | some l =>
            cases hm2 : vs.mapM (freeze H m d) with
            | none => simp [hm, hm2] at h
            | some l2 =>
              simp [hm, hm2] at h
              subst h
              cases hH.obj i _ hg with
              | map _ _ es clock hb hk hv =>
                rw [hri hlive]
                exact .pmap _ _ _ _ _ hb (hnew i (hge i rfl) hlive) (mapL hk hm) (mapL hv hm2)
      | pp b o ar e fr x hb hu' hs hr h1 ht =>
        simp only at h
        cases hm : freeze H m d x with
        | none => simp [hm] at h
        | some l =>
          simp [hm] at h
          subst h
          obtain ⟨a1, a2, a3, a4⟩ := elem_cells ih freeze_one hr h1 ht hm
          exact .pp _ _ _ _ _ _ hb (hu b hu') (by omega) (by rw [a2]; exact a1) a4 a3
      | psl b o n cap ar e fr vs full es hl hn hf hb hu' he hs hr h1 ht =>
        simp only at h
        cases hm : vs.mapM (freeze H m d) with
        | none => simp [hm] at h
        | some l =>
          simp [hm] at h
          subst h
          obtain ⟨a1, a2, a3, a4, a5⟩ := elems_cells ih freeze_one hr h1 ht hm
          exact .psl _ _ _ _ _ _ _ _ _ es (by omega) hn hf hb (hu b hu') (a3 es he) hs a1 a5 a4
      | ptr i o a hi ha =>
        simp only at h
        cases hg : H.get i with
        | none => simp [hg] at h
        | some ob =>
          cases ob <;> simp only [hg] at h <;> try cases h
          rename_i es ag cs
          have hlive : H.live i := ⟨_, hg, rfl⟩
          have hno := hnew i (hge i rfl) hlive
          rw [ha hlive]
          cases hH.obj i _ hg with
          | cells _ _ _ ar e fr hb hs hl hf hr h1 =>
            split at h
            · cases h
            · rename_i hcond
              have hes : 0 < es ∧ o + es ≤ cs.length := by omega
              split at h
              · cases hm : ((cs.drop o).take es).mapM (freeze H m d) with
                | none => simp [hm] at h
                | some l =>
                  simp [hm] at h
                  subst h
                  have hll := (mapM_spec hm).1
                  have hlen : l.length = es := by rw [hll]; simp; omega
                  refine .pp _ _ _ _ _ _ hb hno (by show G.β i + o + l.length ≤ _; omega) ?_ (oneL hm (sub_one h1 _ _)) rfl
                  show RelL G0 H0 w ((ar.toList.drop (G.β i + o)).take l.length) l
                  rw [hlen]
                  exact mapL (cells_range hr hes.2) hm
              · cases hc : cs[o]? with
                | none => simp [hc] at h
                | some x =>
                  have hx1 := part_one h1 hc
                  simp only [hc] at h
                  have hfz : ∃ l, freeze H m d x = some l ∧ u = .pp l := by
                    cases x <;> simp only at h <;> first
                      | cases h
                      | (obtain ⟨l, hl, he⟩ := Option.map_eq_some_iff.1 h; exact ⟨l, hl, he.symm⟩)
                  obtain ⟨l, hm, rfl⟩ := hfz
                  obtain ⟨cv, hcv, hrel⟩ := cells_at hr hc
                  have hl1 := freeze_one hm hx1
                  have hfl : l.flat = [l] ∧ l.isTup = false := by cases l <;> first | exact ⟨rfl, rfl⟩ | cases hl1
                  have hlt : G.β i + o < ar.toList.length := by
                    rcases Nat.lt_or_ge (G.β i + o) ar.toList.length with h' | h'
                    · exact h'
                    · rw [List.getElem?_eq_none h'] at hcv; cases hcv
                  refine .pp _ _ _ _ _ _ hb hno (by rw [hfl.1]; simp at hlt ⊢; omega) ?_ (by rw [hfl.1]; intro y hy; simp at hy; subst hy; exact hl1) hfl.2
                  rw [hfl.1]
                  have : (ar.toList.drop (G.β i + o)).take [l].length = [cv] := by
                    rw [List.drop_eq_getElem_cons hlt]
                    rw [List.getElem?_eq_getElem hlt] at hcv
                    cases hcv
                    rfl
                  rw [this]
                  exact .cons _ _ _ _ (ih _ _ _ hrel hm) .nil
      | sl i o n kc es ag a cap hi hn hk ha =>
        simp only at h
        cases hg : H.get i with
        | none => simp [hg] at h
        | some ob =>
          cases ob <;> simp only [hg] at h <;> try cases h
          rename_i eo ago cs
          have hlive : H.live i := ⟨_, hg, rfl⟩
          have hno := hnew i (hge i rfl) hlive
          cases hH.obj i _ hg with
          | cells _ _ _ ar e fr hb hs hl hf hr h1 =>
            split at h
            · cases h
            · rename_i hcond
              have hes : 0 < es ∧ o + n * es ≤ cs.length ∧ (ag = false → es = 1) := by
                refine ⟨by omega, by omega, fun e => ?_⟩
                rcases Nat.eq_zero_or_pos (es - 1) with h' | h'
                · omega
                · exact absurd (.inr (.inr ⟨e, by omega⟩)) hcond
              cases hm : ((cs.drop o).take (n * es)).mapM (freeze H m d) with
              | none => simp [hm] at h
              | some l =>
                simp [hm] at h
                subst h
                have hll := (mapM_spec hm).1
                have hlen : l.length = n * es := by rw [hll]; simp; omega
                obtain ⟨c1, c2, c3⟩ := chunk_spec es ag hes.1 hes.2.2 n l hlen (oneL hm (sub_one h1 _ _))
                have hfull : (kc == some n) = true → cap = n := fun e => hk n (eq_of_beq e)
                by_cases hc0 : cap = 0
                · have hn0 : n = 0 := by omega
                  subst hn0
                  exact .pslEmpty _ _ _ fun e => hc0
                · obtain ⟨hae, hbd⟩ := ha hlive hc0
                  rw [hae]
                  refine .psl _ _ _ _ _ _ _ _ _ es c1 hn hfull hb hno (fun v hv => (c3 v hv).1) (by omega) ?_ (fun v hv => (c3 v hv).2.2) (fun v hv => (c3 v hv).2.1)
                  rw [c2]
                  exact mapL (cells_range hr hes.2.1) hm
      | _ => simp only at h; cases h; constructor <;> assumption
end
end Go.Am
