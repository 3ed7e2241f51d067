/- A CALL'S ANSWER, TAKEN BACK INTO THE CALLER'S HEAP. -/
import Derived.Test.YtgbeonpbgalbnaaGreatDoorAmEvo
namespace Go.Am
set_option autoImplicit false

section
variable {G : Gh} {H : Hp} {w : World}
/-- The floor alone is another. -/
theorem get_fl (H : Hp) (k i : Nat) : Hp.get { H with fl := k } i = H.get i := rfl
theorem live_fl {k i : Nat} : Hp.live { H with fl := k } i ↔ H.live i := Iff.rfl
theorem own_fl {k b : Nat} : own G { H with fl := k } b ↔ own G H b := Iff.rfl
theorem Le.fl (G : Gh) (H : Hp) (w : World) (k : Nat) : Le G H w G { H with fl := k } w :=
  ⟨Nat.le_refl _, fun _ _ h => ⟨h, rfl, rfl, rfl⟩, fun _ _ h => ⟨h, rfl⟩, Nat.le_refl _, rfl, rfl, rfl, rfl, fun _ _ _ => rfl⟩
theorem HeapRel.fl (h : HeapRel G H w) (k : Nat) : HeapRel G { H with fl := k } w :=
  ⟨h.inj, fun i o ho => (h.obj i o ho).mono (Le.fl G H w k) rfl rfl rfl fun _ => rfl, h.nf, h.fb⟩

/-! ### a frame's answer -/
/-- The heap at the end of a call, taken to be the one at its beginning. -/
theorem back_heap {G' : Gh} {H' : Hp} {w' : World} (hH : HeapRel G H w) (hH' : HeapRel G' H' w') (L : Le G H w G' H' w') (E : Evo H H') (hfl : H.n ≤ H'.fl) :
    HeapRel G H w' ∧ Le G H w G H w' ∧ (∀ i, i < H.n → H.live i → H'.live i ∧ G.ι i = G'.ι i ∧ G.β i = G'.β i ∧ G.σ i = G'.σ i) ∧ (∀ b, ¬ own G' H' b → ¬ own G H b) := by
  have hs : ∀ i, i < H.n → H'.get i = H.get i := fun i hi => E.same i (Nat.lt_of_lt_of_le hi hfl) hi
  have hk : ∀ i, i < H.n → H.live i → H'.live i ∧ G.ι i = G'.ι i ∧ G.β i = G'.β i ∧ G.σ i = G'.σ i := fun i hi ⟨o, ho, ha⟩ => by
    have hl : H'.live i := ⟨o, (hs i hi).trans ho, ha⟩
    obtain ⟨_, a, b, c⟩ := L.keep i hi hl
    exact ⟨hl, a.symm, b.symm, c.symm⟩
  have hu : ∀ b, ¬ own G' H' b → ¬ own G H b := fun b h h' => h (h'.elim (fun f => .inl (by rw [L.F]; exact f)) fun ⟨i, hi, e⟩ => .inr ⟨i, (hk i hi.lt hi).1, by rw [← (hk i hi.lt hi).2.1]; exact e⟩)
  have hL : Le G H w G H w' := ⟨Nat.le_refl _, fun _ _ h => ⟨h, rfl, rfl, rfl⟩, fun b hb h => ⟨h, (L.mem b hb h).2⟩, L.size, L.tape, L.os, L.output, rfl, L.foreign⟩
  refine ⟨⟨hH.inj, fun i o ho => ?_, hH.nf, fun b hF => Nat.lt_of_lt_of_le (hH.fb b hF) L.size⟩, hL, hk, hu⟩
  have hi : i < H.n := Hp.lt_of_get ho
  have ho' : H'.get i = some o := (hs i hi).trans ho
  have mv : ∀ {c : Value} {v : V}, v.lt H.n = true → Rel G' H' w' c v → Rel G H w' c v := fun hv h =>
    Rel.move (fun j => Nat.blt j H.n) (fun j hj => ⟨blt_iff.1 hj, hk j (blt_iff.1 hj)⟩) hu h hv
  have mvL : ∀ {c : List Value} {v : List V}, V.allRefsL (fun j => Nat.blt j H.n) v = true → RelL G' H' w' c v → RelL G H w' c v := fun hv h =>
    RelL.move (fun j => Nat.blt j H.n) (fun j hj => ⟨blt_iff.1 hj, hk j (blt_iff.1 hj)⟩) hu h hv
  have h1 := hH.obj i o ho
  have h2 := hH'.obj i o ho'
  cases h1 with
  | dead => exact .dead
  | cells es ag cs c e fr hb hs hl hf hr hone =>
    obtain ⟨_, a, b, c⟩ := hk i hi ⟨_, ho, rfl⟩
    cases h2 with
    | cells _ _ _ c' e' fr' hb' hs' hl' hf' hr' hone' =>
      exact .cells es ag cs c' e' fr' (by rw [a]; exact hb') (by rw [c]; exact hs') (by rw [b]; exact hl') hf' (by rw [b]; exact mvL (RelL.lt hr) hr') hone'
  | map ks vs es clock hb hk' hv =>
    obtain ⟨_, a, b, c⟩ := hk i hi ⟨_, ho, rfl⟩
    cases h2 with
    | map _ _ es' clock' hb' hk'' hv' => exact .map ks vs es' clock' (by rw [a]; exact hb') (mvL (RelL.lt hk') hk'') (mvL (RelL.lt hv) hv')
  | iter s pos sb hb h0 h =>
    obtain ⟨_, a, b, c⟩ := hk i hi ⟨_, ho, rfl⟩
    cases h2 with
    | iter _ _ sb' hb' h0' h' => exact .iter s pos sb' (by rw [a]; exact hb') (by rw [b]; exact h0') h'

/-- What a call comes to, as the caller sees it. -/
def Outs (G : Gh) (H : Hp) (w : World) (cv : Value) (v : V) (H' : Hp) (w' : World) : Prop :=
  ∃ G', Le G H w G' H' w' ∧ HeapRel G' H' w' ∧ Rel G' H' w' cv v ∧ Evo H H'
theorem leave_rel {G' : Gh} {H' : Hp} {w' : World} {pol : Nat} {cv : Value} {v : V} (hH : HeapRel G H w) (hH' : HeapRel G' H' w') (L : Le G H w G' H' w') (E : Evo H H') (hv : Rel G' H' w' cv v) :
    ∃ u K, leave pol H v H' = .ok u K ∧ Outs G H w cv u K w' := by
  have keep : ∃ u K, Out.ok v H' = .ok u K ∧ Outs G H w cv u K w' := ⟨v, H', rfl, G', L, hH', hv, E⟩
  unfold leave
  by_cases hfl : H.n ≤ H'.fl
  · rw [bleT hfl]
    simp only [cond_true]
    obtain ⟨b1, b2, b3, b4⟩ := back_heap hH hH' L E hfl
    cases hl : leaveV pol H.n v H' with
    | none => exact keep
    | some u =>
      refine ⟨u, H, rfl, G, b2, b1, ?_, Evo.refl _⟩
      unfold leaveV at hl
      split at hl
      · by_cases hlt : v.lt H.n = true
        · rw [hlt] at hl
          cases hl
          exact Rel.move (fun j => Nat.blt j H.n) (fun j hj => ⟨blt_iff.1 hj, b3 j (blt_iff.1 hj)⟩) b4 hv hlt
        · simp only [Bool.not_eq_true] at hlt
          rw [hlt] at hl
          cases hl
      · refine freeze_rel hH' (m := H.n) (fun i hi => ⟨hi, b3 i hi⟩) b4 (fun i hi hli ho => ?_) 100 cv v u hv hl
        rcases ho with hF | ⟨j, hj, e⟩
        · exact hH'.nf i hli (by rw [L.F]; exact hF)
        · obtain ⟨l, a, _⟩ := b3 j hj.lt hj
          have := hH'.inj i j hli l (by rw [← a, e])
          have := hj.lt
          omega
  · rw [bleF hfl]
    exact keep

/-! ### a call that began with an empty heap -/
theorem addAll_n (H1 : Hp) : ∀ (k i : Nat) (H : Hp), (H.addAll H1 k i).n = H.n + k
  | 0, _, _ => rfl
  | k + 1, i, H => by
    show (Hp.addAll _ H1 k (i + 1)).n = _
    rw [addAll_n H1 k]
    show H.n + 1 + k = H.n + (k + 1)
    omega
theorem addAll_fl (H1 : Hp) : ∀ (k i : Nat) (H : Hp), (H.addAll H1 k i).fl = H.fl
  | 0, _, _ => rfl
  | k + 1, i, H => by
    show (Hp.addAll _ H1 k (i + 1)).fl = _
    rw [addAll_fl H1 k]
    rfl
theorem addAll_get (H1 : Hp) : ∀ (k i : Nat) (H : Hp) (j : Nat), i ≤ H.n →
    (H.addAll H1 k i).get j = if j < H.n then H.get j else if j < H.n + k then some (((H1.get (i + (j - H.n))).getD .dead).shift (H.n - i)) else none
  | 0, i, H, j, _ => by
    show H.get j = _
    by_cases h : j < H.n
    · rw [if_pos h]
    · rw [if_neg h, if_neg (by omega), Hp.get_eq, if_neg h]
  | k + 1, i, H, j, hi => by
    show (Hp.addAll (H.push ((((H1.get i).getD .dead)).shift (H.n - i))) H1 k (i + 1)).get j = _
    rw [addAll_get H1 k (i + 1) _ j (show i + 1 ≤ H.n + 1 by omega)]
    show (if j < H.n + 1 then _ else if j < H.n + 1 + k then some (((H1.get (i + 1 + (j - (H.n + 1)))).getD .dead).shift (H.n + 1 - (i + 1))) else none) = _
    rw [Hp.get_push]
    by_cases h : j < H.n
    · rw [if_pos (by omega), if_pos h, if_neg (by omega)]
    · rw [if_neg h]
      by_cases e : j = H.n
      · subst e
        rw [if_pos (by omega), if_pos rfl, if_pos (by omega), Nat.sub_self, Nat.add_zero]
      · rw [if_neg (by omega)]
        by_cases h2 : j < H.n + 1 + k
        · rw [if_pos h2, if_pos (by omega), show i + 1 + (j - (H.n + 1)) = i + (j - H.n) by omega, show H.n + 1 - (i + 1) = H.n - i by omega]
        · rw [if_neg h2, if_neg (by omega)]
theorem shiftL_eq (d : Nat) : ∀ (vs : List V), V.shiftL d vs = vs.map (V.shift d)
  | [] => by simp [V.shiftL]
  | v :: vs => by simp [V.shiftL, shiftL_eq d vs]
theorem shift_one (d : Nat) (v : V) : (v.shift d).one = v.one := by cases v <;> simp [V.shift, V.one]
theorem shift_tup (d : Nat) (v : V) : (v.shift d).isTup = v.isTup := by cases v <;> simp [V.shift, V.isTup]
theorem shift_flat (d : Nat) (v : V) : (v.shift d).flat = v.flat.map (V.shift d) := by cases v <;> simp [V.shift, V.flat, shiftL_eq]
theorem shift_flatMap (d : Nat) (vs : List V) : (vs.map (V.shift d)).flatMap V.flat = (vs.flatMap V.flat).map (V.shift d) := by
  induction vs with
  | nil => rfl
  | cons v vs ih => simp [shift_flat, ih]
theorem shift_ones {d : Nat} {vs : List V} (h : ∀ v ∈ vs, v.one = true) : ∀ v ∈ vs.map (V.shift d), v.one = true := by
  intro v hv
  obtain ⟨u, hu, rfl⟩ := List.mem_map.1 hv
  rw [shift_one]; exact h u hu
def Gh.join (G : Gh) (H : Hp) (G1 : Gh) : Gh :=
  ⟨fun i => if i < H.n then G.ι i else G1.ι (i - H.n), fun i => if i < H.n then G.β i else G1.β (i - H.n), fun i => if i < H.n then G.σ i else G1.σ (i - H.n), G.F⟩
theorem Obj.shift_alive (d : Nat) (o : Obj) : (o.shift d).alive = o.alive := by cases o <;> rfl
section
variable {G1 : Gh} {H1 : Hp} {w' : World}
theorem join_old (G1 : Gh) {i : Nat} (h : i < H.n) : (G.join H G1).ι i = G.ι i ∧ (G.join H G1).β i = G.β i ∧ (G.join H G1).σ i = G.σ i := by simp [Gh.join, h]
theorem join_new (G1 : Gh) (i : Nat) : (G.join H G1).ι (i + H.n) = G1.ι i ∧ (G.join H G1).β (i + H.n) = G1.β i ∧ (G.join H G1).σ (i + H.n) = G1.σ i := by
  have : ¬ i + H.n < H.n := by omega
  simp [Gh.join, this]
theorem join_get_old (H H1 : Hp) {i : Nat} (h : i < H.n) : (H.addAll H1 H1.n 0).get i = H.get i := by rw [addAll_get _ _ _ _ _ (Nat.zero_le _), if_pos h]
theorem join_get_new (H H1 : Hp) (i : Nat) (h : i < H1.n) : (H.addAll H1 H1.n 0).get (i + H.n) = some (((H1.get i).getD .dead).shift H.n) := by
  rw [addAll_get _ _ _ _ _ (Nat.zero_le _), if_neg (by omega), if_pos (by omega)]
  simp
theorem join_lt {i : Nat} (h : i < (H.addAll H1 H1.n 0).n) (hn : ¬ i < H.n) : ∃ j, j < H1.n ∧ i = j + H.n := by
  rw [addAll_n] at h
  exact ⟨i - H.n, by omega, by omega⟩
theorem join_live_new {i : Nat} : (H.addAll H1 H1.n 0).live (i + H.n) ↔ H1.live i := by
  constructor
  · intro h
    have hlt := h.lt
    rw [addAll_n] at hlt
    obtain ⟨o, ho, ha⟩ := h
    rw [join_get_new H H1 i (by omega)] at ho
    cases ho
    rw [Obj.shift_alive] at ha
    cases hg : H1.get i with
    | none => rw [hg] at ha; cases ha
    | some o => rw [hg] at ha; exact ⟨o, hg, ha⟩
  · intro ⟨o, ho, ha⟩
    exact ⟨o.shift H.n, by rw [join_get_new H H1 i (Hp.lt_of_get ho), ho]; rfl, by rw [Obj.shift_alive]; exact ha⟩
theorem join_live_old {i : Nat} (h : i < H.n) : (H.addAll H1 H1.n 0).live i ↔ H.live i := by unfold Hp.live; rw [join_get_old H H1 h]
theorem join_own (hF : G1.F = own G H) (b : Nat) : own (G.join H G1) (H.addAll H1 H1.n 0) b ↔ own G1 H1 b := by
  constructor
  · rintro (h | ⟨i, hl, e⟩)
    · exact .inl (by rw [hF]; exact .inl h)
    · by_cases hi : i < H.n
      · exact .inl (by rw [hF]; exact .inr ⟨i, (join_live_old hi).1 hl, by rw [← e]; exact (join_old G1 hi).1.symm⟩)
      · obtain ⟨j, hj, rfl⟩ := join_lt hl.lt hi
        exact .inr ⟨j, join_live_new.1 hl, by rw [← e]; exact (join_new G1 j).1.symm⟩
  · rintro (h | ⟨i, hl, e⟩)
    · rw [hF] at h
      rcases h with h | ⟨i, hl, e⟩
      · exact .inl h
      · exact .inr ⟨i, (join_live_old hl.lt).2 hl, by rw [← e]; exact (join_old G1 hl.lt).1⟩
    · exact .inr ⟨i + H.n, join_live_new.2 hl, by rw [← e]; exact (join_new G1 i).1⟩
mutual
theorem Rel.join (hF : G1.F = own G H) : ∀ {c : Value} {v : V}, Rel G1 H1 w' c v → Rel (G.join H G1) (H.addAll H1 H1.n 0) w' c (v.shift H.n)
  | _, _, .int k n => by simp only [V.shift]; exact .int k n
  | _, _, .bool b => by simp only [V.shift]; exact .bool b
  | _, _, .str s l h => by simp only [V.shift]; exact .str s l h
  | _, _, .agg cs vs h h1 => by simp only [V.shift, shiftL_eq]; exact .agg cs _ (RelL.join hF h) (shift_ones h1)
  | _, _, .tuple cs vs h => by simp only [V.shift, shiftL_eq]; exact .tuple cs _ (RelL.join hF h)
  | _, _, .ptr i o a hi ha => by
      simp only [V.shift]
      refine .ptr _ o a (by rw [addAll_n]; omega) fun hl => ?_
      rw [(join_new G1 i).1, (join_new G1 i).2.1]
      exact ha (join_live_new.1 hl)
  | _, _, .nilp => by simp only [V.shift]; exact .nilp
  | _, _, .pp b o c e fr v hb hu hs h h1 ht => by
      simp only [V.shift]
      refine .pp b o c e fr _ hb (fun h => hu ((join_own hF b).1 h)) (by rw [shift_flat]; simpa using hs) ?_ (by rw [shift_flat]; exact shift_ones h1) (by rw [shift_tup]; exact ht)
      rw [shift_flat, List.length_map]
      exact RelL.join hF h
  | _, _, .sl i o n kc es ag a cap hi hn hk ha => by
      simp only [V.shift]
      refine .sl _ o n kc es ag a cap (by rw [addAll_n]; omega) hn hk fun hl hc => ?_
      rw [(join_new G1 i).1, (join_new G1 i).2.1, (join_new G1 i).2.2]
      exact ha (join_live_new.1 hl) hc
  | _, _, .psl b o n cap c e fr vs full es hl hn hf hb hu he hs h h1 ht => by
      simp only [V.shift, shiftL_eq]
      refine .psl b o n cap c e fr _ full es (by simpa using hl) hn hf hb (fun h => hu ((join_own hF b).1 h)) ?_ hs ?_ ?_ ?_
      · intro v hv
        obtain ⟨u, hu, rfl⟩ := List.mem_map.1 hv
        rw [shift_flat, List.length_map]
        exact he u hu
      · rw [shift_flatMap]
        exact RelL.join hF h
      · intro v hv
        obtain ⟨u, hu, rfl⟩ := List.mem_map.1 hv
        rw [shift_flat]
        exact shift_ones (h1 u hu)
      · intro v hv
        obtain ⟨u, hu, rfl⟩ := List.mem_map.1 hv
        rw [shift_tup]
        exact ht u hu
  | _, _, .pslNone full => by simp only [V.shift, shiftL_eq]; exact .pslNone full
  | _, _, .pslEmpty a cap full hf => by simp only [V.shift, shiftL_eq]; exact .pslEmpty a cap full hf
  | _, _, .nils => by simp only [V.shift]; exact .nils
  | _, _, .map i r hi hr => by
      simp only [V.shift]
      refine .map _ r (by rw [addAll_n]; omega) fun hl => ?_
      rw [(join_new G1 i).1]
      exact hr (join_live_new.1 hl)
  | _, _, .pmap r es clock ks vs hb hu hk hv => by
      simp only [V.shift, shiftL_eq]
      exact .pmap r es clock _ _ hb (fun h => hu ((join_own hF r).1 h)) (RelL.join hF hk) (RelL.join hF hv)
  | _, _, .nilm => by simp only [V.shift]; exact .nilm
  | _, _, .fn f first caps fs cs hf hc => by simp only [V.shift, shiftL_eq]; exact .fn f first caps _ _ (RelL.join hF hf) (RelL.join hF hc)
  | _, _, .nilf => by simp only [V.shift]; exact .nilf
  | _, _, .iface t v x h => by simp only [V.shift]; exact .iface t v _ (Rel.join hF h)
  | _, _, .nili => by simp only [V.shift]; exact .nili
theorem RelL.join (hF : G1.F = own G H) : ∀ {c : List Value} {v : List V}, RelL G1 H1 w' c v → RelL (G.join H G1) (H.addAll H1 H1.n 0) w' c (v.map (V.shift H.n))
  | _, _, .nil => .nil
  | _, _, .cons v x vs xs h hs => .cons v _ vs _ (Rel.join hF h) (RelL.join hF hs)
end
/-- The answer of a call that began with an empty heap, the caller's being foreign to it. -/
theorem pure_back {G0 : Gh} (hH : HeapRel G H w) (hF : G0.F = own G H) (h1 : HeapRel G1 H1 w') (L : Le G0 Hp.empty w G1 H1 w') {cv : Value} {v : V} (hv : Rel G1 H1 w' cv v) :
    Outs G H w cv (v.shift H.n) (H.addAll H1 H1.n 0) w' := by
  have hF1 : G1.F = own G H := L.F.trans hF
  have hfor : ∀ b, own G H b → b < w.heap.size → w'.heap[b]? = w.heap[b]? := fun b h hb => L.foreign b (by rw [hF]; exact h) hb
  have hLe : Le G H w (G.join H G1) (H.addAll H1 H1.n 0) w' := by
    refine ⟨by rw [addAll_n]; omega, fun i hi hl => ⟨(join_live_old hi).1 hl, join_old G1 hi⟩, fun b hb hu => ?_, L.size, L.tape, L.os, L.output, rfl, fun b hb hs => hfor b (.inl hb) hs⟩
    have h0 : ¬ own G0 Hp.empty b := not_own_empty G0 b (by rw [hF]; exact hu)
    obtain ⟨a, e⟩ := L.mem b hb h0
    exact ⟨fun h => a ((join_own hF1 b).1 h), e⟩
  refine ⟨G.join H G1, hLe, ⟨?_, ?_, ?_, ?_⟩, Rel.join hF1 hv, ⟨by rw [addAll_n]; omega, by rw [addAll_fl]; exact Nat.le_refl _, fun j _ hj => join_get_old H H1 hj⟩⟩
  · intro i j hi hj e
    have cross : ∀ {a b : Nat}, a < H.n → H.live a → H1.live b → G.ι a = G1.ι b → False := fun ha hl hl1 e =>
      h1.nf _ hl1 (by rw [hF1, ← e]; exact own_of_live hl)
    by_cases hi' : i < H.n <;> by_cases hj' : j < H.n
    · rw [(join_old G1 hi').1, (join_old G1 hj').1] at e
      exact hH.inj i j ((join_live_old hi').1 hi) ((join_live_old hj').1 hj) e
    · obtain ⟨k, hk, rfl⟩ := join_lt hj.lt hj'
      rw [(join_old G1 hi').1, (join_new G1 k).1] at e
      exact (cross hi' ((join_live_old hi').1 hi) (join_live_new.1 hj) e).elim
    · obtain ⟨k, hk, rfl⟩ := join_lt hi.lt hi'
      rw [(join_old G1 hj').1, (join_new G1 k).1] at e
      exact (cross hj' ((join_live_old hj').1 hj) (join_live_new.1 hi) e.symm).elim
    · obtain ⟨k, hk, rfl⟩ := join_lt hi.lt hi'
      obtain ⟨l, hl, rfl⟩ := join_lt hj.lt hj'
      rw [(join_new G1 k).1, (join_new G1 l).1] at e
      rw [h1.inj k l (join_live_new.1 hi) (join_live_new.1 hj) e]
  · intro i o ho
    by_cases hi : i < H.n
    · rw [join_get_old H H1 hi] at ho
      refine (hH.obj i o ho).mono hLe (join_old G1 hi).1 (join_old G1 hi).2.1 (join_old G1 hi).2.2 fun ha => ?_
      exact hfor _ (own_of_live ⟨o, ho, ha⟩) (hH.lt ⟨o, ho, ha⟩)
    · obtain ⟨k, hk, rfl⟩ := join_lt (Hp.lt_of_get ho) hi
      rw [join_get_new H H1 k hk] at ho
      cases ho
      obtain ⟨a, b, c⟩ := join_new (G := G) (H := H) G1 k
      cases hg : H1.get k with
      | none => exact .dead
      | some o =>
        have := h1.obj k o hg
        cases this with
        | dead => exact .dead
        | cells es ag cs c' e fr hb hs hl hf hr hone =>
          show ObjRel _ _ _ _ (.cells es ag (V.shiftL H.n cs))
          rw [shiftL_eq]
          exact .cells es ag _ c' e fr (by rw [a]; exact hb) (by rw [c]; exact hs) (by rw [b, List.length_map]; exact hl) hf (by rw [b, List.length_map]; exact RelL.join hF1 hr) (shift_ones hone)
        | map ks vs es clock hb hk hv =>
          show ObjRel _ _ _ _ (.map (V.shiftL H.n ks) (V.shiftL H.n vs))
          rw [shiftL_eq, shiftL_eq]
          exact .map _ _ es clock (by rw [a]; exact hb) (RelL.join hF1 hk) (RelL.join hF1 hv)
        | iter s pos sb hb h0 h => exact .iter s pos sb (by rw [a]; exact hb) (by rw [b]; exact h0) h
  · intro i hi hFi
    by_cases hi' : i < H.n
    · rw [(join_old G1 hi').1] at hFi
      exact hH.nf i ((join_live_old hi').1 hi) hFi
    · obtain ⟨k, hk, rfl⟩ := join_lt hi.lt hi'
      rw [(join_new G1 k).1] at hFi
      exact h1.nf k (join_live_new.1 hi) (by rw [hF1]; exact .inl hFi)
  · intro b hb
    exact Nat.lt_of_lt_of_le (hH.fb b hb) L.size
/-- The same where the answer holds no number. -/
theorem pure_same {G0 : Gh} (hH : HeapRel G H w) (hF : G0.F = own G H) (L : Le G0 Hp.empty w G1 H1 w') :
    HeapRel G H w' ∧ Le G H w G H w' ∧ ∀ {cv : Value} {v : V}, v.pure = true → Rel G1 H1 w' cv v → Rel G H w' cv v := by
  have hF1 : G1.F = own G H := L.F.trans hF
  have hfor : ∀ b, own G H b → b < w.heap.size → w'.heap[b]? = w.heap[b]? := fun b h hb => L.foreign b (by rw [hF]; exact h) hb
  have hLe : Le G H w G H w' := by
    refine ⟨Nat.le_refl _, fun i hi hl => ⟨hl, rfl, rfl, rfl⟩, fun b hb hu => ⟨hu, ?_⟩, L.size, L.tape, L.os, L.output, rfl, fun b hb hs => hfor b (.inl hb) hs⟩
    exact (L.mem b hb (not_own_empty G0 b (by rw [hF]; exact hu))).2
  refine ⟨⟨hH.inj, fun i o ho => (hH.obj i o ho).mono hLe rfl rfl rfl fun ha => hfor _ (own_of_live ⟨o, ho, ha⟩) (hH.lt ⟨o, ho, ha⟩), hH.nf, fun b hb => Nat.lt_of_lt_of_le (hH.fb b hb) L.size⟩, hLe, fun hp h => ?_⟩
  exact Rel.move (fun _ => false) (fun _ h => by cases h) (fun b h h' => h (.inl (by rw [hF1]; exact h'))) h hp
end
end
end Go.Am
