/- REGIONS THAT DRAW THEIR ORDER: every order gives what the lexical run gives. -/
import Derived.Test.YtgbeonpbgalbnaaGreatDoorAmDraw2
import Derived.Orders
namespace Go.Am
set_option autoImplicit false

/-! ### counting -/
theorem countP_add {l : List Nat} (hn : l.Nodup) (p : Nat → Bool) (i : Nat) (hp : p i = false) : l.countP (fun e => p e || e == i) = l.countP p + (if i ∈ l then 1 else 0) := by
  induction l with
  | nil => simp
  | cons x l ih =>
    have hx := List.nodup_cons.1 hn
    rw [List.countP_cons, List.countP_cons, ih hx.2]
    by_cases e : x = i
    · subst e
      simp [hp, hx.1]
    · have e' : ¬ i = x := fun h => e h.symm
      simp [e, e']
      omega
theorem countP_two {l : List Nat} (p q : Nat → Bool) (h : ∀ e ∈ l, p e = true → q e = true → False) : l.countP p + l.countP q ≤ l.length := by
  induction l with
  | nil => simp
  | cons x l ih =>
    have := ih fun e he => h e (List.mem_cons_of_mem _ he)
    have hx := h x (by simp)
    simp only [List.countP_cons, List.length_cons]
    cases hp : p x <;> cases hq : q x <;> simp [hp, hq] at hx ⊢ <;> omega
theorem countP_le {l : List Nat} (p q : Nat → Bool) (h : ∀ e ∈ l, p e = true → q e = true) : l.countP p ≤ l.countP q := List.countP_mono_left h

/-- The movers' places. -/
def moverIdx (aos : List (AOper × List Nat)) : List Nat := (List.range aos.length).filter fun e => (aos.getD e default).1.op.moves
theorem mem_moverIdx {aos : List (AOper × List Nat)} {e : Nat} : e ∈ moverIdx aos ↔ ∃ x, aos[e]? = some x ∧ x.1.op.moves = true := by
  simp only [moverIdx, List.mem_filter, List.mem_range]
  constructor
  · intro ⟨h, hm⟩
    rw [List.getD_eq_getElem?_getD, List.getElem?_eq_getElem h] at hm
    exact ⟨_, List.getElem?_eq_getElem h, hm⟩
  · intro ⟨x, hx, hm⟩
    have hlt : e < aos.length := by
      rcases Nat.lt_or_ge e aos.length with h | h
      · exact h
      · rw [List.getElem?_eq_none h] at hx; cases hx
    refine ⟨hlt, ?_⟩
    rw [List.getD_eq_getElem?_getD, hx]
    exact hm
theorem nodup_moverIdx (aos : List (AOper × List Nat)) : (moverIdx aos).Nodup := List.nodup_range.filter _
def cAt (aos : List (AOper × List Nat)) (i : Nat) : Nat := (moverIdx aos).countP fun e => Nat.blt e i
theorem cAt_zero (aos : List (AOper × List Nat)) : cAt aos 0 = 0 := by
  unfold cAt
  rw [List.countP_eq_zero]
  intro e _ h
  have := blt_iff.1 h
  omega
theorem cAt_succ (aos : List (AOper × List Nat)) (i : Nat) : cAt aos (i + 1) = cAt aos i + (if i ∈ moverIdx aos then 1 else 0) := by
  unfold cAt
  rw [← countP_add (nodup_moverIdx aos) (fun e => Nat.blt e i) i (bltF (by omega))]
  refine List.countP_congr fun e _ => ?_
  simp only [Bool.or_eq_true, blt_iff, beq_iff_eq]
  omega
theorem movers_take (aos : List (AOper × List Nat)) : ∀ i, i ≤ aos.length → movers (aos.take i) = cAt aos i
  | 0, _ => by rw [cAt_zero]; simp [movers]
  | i + 1, h => by
    have hi : i < aos.length := h
    rw [cAt_succ, ← movers_take aos i (by omega), List.take_succ_eq_append_getElem hi]
    simp only [movers, List.countP_append, List.countP_cons, List.countP_nil]
    congr 1
    by_cases hm : aos[i].1.op.moves = true
    · rw [if_pos (mem_moverIdx.2 ⟨_, List.getElem?_eq_getElem hi, hm⟩)]
      simp [hm]
    · have hno : ¬ i ∈ moverIdx aos := fun h => by
        obtain ⟨x, hx, hm'⟩ := mem_moverIdx.1 h
        rw [List.getElem?_eq_getElem hi] at hx
        cases hx
        exact hm hm'
      rw [if_neg hno]
      simp [hm]

/-- What the compiler has looked at. -/
structure DrawIs (P : Program) (N : Nat) (ops : Array Oper) (aos : List (AOper × List Nat)) (bs : List Nat) : Prop where
  len : aos.length = ops.size
  is : ∀ (i : Nat) o x, ops[i]? = some o → aos[i]? = some x → OperIs P N ops o x.1
  edges : edgesOk 0 ops.toList = true
  hbs : bs = beforesFrom ops.toList []
  pairs : ∀ (i j : Nat) x y, i < j → aos[i]? = some x → aos[j]? = some y → pairOk (bs.getD j 0) i x.1 y.1 = true
  dist : ∀ (i j : Nat) x y d, aos[i]? = some x → aos[j]? = some y → x.1.dst = some d → y.1.dst = some d → i = j
  stages : ∀ (i : Nat) x, aos[i]? = some x → x.1.op.reads = true → ∀ m, (moverIdx aos).countP (fun e => (bs.getD i 0).testBit e) ≤ m →
    m + (moverIdx aos).countP (fun e => (bs.getD e 0).testBit i) ≤ (moverIdx aos).length → m ≠ cAt aos i → m ∈ x.2

theorem tmp_put (st : St) (dst : Option Nat) (v : V) (t : Nat) : (St.put st dst v).tmp t = if dst = some t then v else st.tmp t := by
  cases dst with
  | none => simp [St.put]
  | some d =>
    show ((st.T.set v d).get t).getD V.undef = _
    rw [Tr.get_set]
    by_cases e : d = t
    · subst e; simp
    · rw [if_neg e, if_neg (by simpa using e)]; rfl
theorem kind_moves (a : AOp) (h1 : a.kind ≠ .plain) (h2 : ∀ f, a.kind ≠ .callp f) (h3 : a.kind ≠ .callvp) : a.moves = true := by
  cases a
  case call => rfl
  case callv => rfl
  case panic => rfl
  case callp f => exact absurd rfl (h2 f)
  case callvp => exact absurd rfl h3
  all_goals exact absurd rfl h1
theorem run_lies {E : Env} {call : Caller} {o : AOper} (hm : o.op.moves = false) {vs : List V} {H H' : Hp} {v : V} (h : o.run E call vs H = some (.val v H')) : H' = H := by
  unfold AOper.run at h
  cases hk : o.op.kind with
  | plain =>
    rw [hk] at h
    simp only at h
    cases he : o.op.ev vs H with
    | none => rw [he] at h; cases h
    | some q => rw [he] at h; cases h; exact ev_lies hm he
  | call f => exact absurd (kind_moves o.op (by rw [hk]; exact fun h => by cases h) (by rw [hk]; exact fun _ h => by cases h) (by rw [hk]; exact fun h => by cases h)) (by rw [hm]; exact fun h => by cases h)
  | callv => exact absurd (kind_moves o.op (by rw [hk]; exact fun h => by cases h) (by rw [hk]; exact fun _ h => by cases h) (by rw [hk]; exact fun h => by cases h)) (by rw [hm]; exact fun h => by cases h)
  | panic => exact absurd (kind_moves o.op (by rw [hk]; exact fun h => by cases h) (by rw [hk]; exact fun _ h => by cases h) (by rw [hk]; exact fun h => by cases h)) (by rw [hm]; exact fun h => by cases h)
  | callp f =>
    rw [hk] at h
    simp only at h
    split at h <;> unfold intrOf at h <;> split at h <;> cases h <;> rfl
  | callvp =>
    rw [hk] at h
    simp only at h
    split at h
    · unfold intrOf at h; split at h <;> cases h; rfl
    · cases h
/-- What neither moves nor reads gives the same in every heap. -/
theorem run_blind {E : Env} {call : Caller} {o : AOper} (hm : o.op.moves = false) {vs : List V} {H H' K : Hp} {v : V} (h : o.run E call vs H = some (.val v H'))
    (hs : o.op.kind = .plain → o.op.reads = true → ∃ K', o.op.ev vs K = some (v, K')) : o.run E call vs K = some (.val v K) := by
  unfold AOper.run at h ⊢
  cases hk : o.op.kind with
  | plain =>
    rw [hk] at h
    simp only at h ⊢
    cases he : o.op.ev vs H with
    | none => rw [he] at h; cases h
    | some q =>
      obtain ⟨v', H''⟩ := q
      rw [he] at h
      cases h
      cases hr : o.op.reads with
      | true =>
        obtain ⟨K', e⟩ := hs hk hr
        rw [e, ev_lies hm e]
        rfl
      | false => rw [ev_blind hm hr vs H K, he]; rfl
  | call f => exact absurd (kind_moves o.op (by rw [hk]; exact fun h => by cases h) (by rw [hk]; exact fun _ h => by cases h) (by rw [hk]; exact fun h => by cases h)) (by rw [hm]; exact fun h => by cases h)
  | callv => exact absurd (kind_moves o.op (by rw [hk]; exact fun h => by cases h) (by rw [hk]; exact fun _ h => by cases h) (by rw [hk]; exact fun h => by cases h)) (by rw [hm]; exact fun h => by cases h)
  | panic => exact absurd (kind_moves o.op (by rw [hk]; exact fun h => by cases h) (by rw [hk]; exact fun _ h => by cases h) (by rw [hk]; exact fun h => by cases h)) (by rw [hm]; exact fun h => by cases h)
  | callp f =>
    rw [hk] at h
    simp only at h ⊢
    split at h <;> unfold intrOf at h ⊢ <;> split at h <;> cases h <;> simp_all
  | callvp =>
    rw [hk] at h
    simp only at h ⊢
    split at h
    · unfold intrOf at h ⊢; split at h <;> cases h; simp_all
    · cases h
theorem evAll_same {E : Env} {s t : St} : ∀ {xs : List Opd}, (∀ i, Opd.t i ∈ xs → s.tmp i = t.tmp i) → evAll E s xs = evAll E t xs
  | [], _ => rfl
  | x :: xs, h => by
    rw [evAll_cons, evAll_cons, evAll_same fun i hi => h i (List.mem_cons_of_mem _ hi)]
    have : x.ev E s = x.ev E t := by
      cases x with
      | t i => exact congrArg some (h i (by simp))
      | c v => rfl
      | g n => rfl
    rw [this]
theorem wanted_same {s t : St} {o : AOper} (h : ∀ d w, o.guard = some (d, w) → s.tmp d = t.tmp d) : o.wanted s = o.wanted t := by
  unfold AOper.wanted
  cases hg : o.guard with
  | none => rfl
  | some q => simp only [h q.1 q.2 hg]
theorem mem_reads_arg {o : AOper} {t : Nat} (h : Opd.t t ∈ o.args) : t ∈ readsOf o := by
  unfold readsOf
  refine List.mem_append.2 (.inl (List.mem_filterMap.2 ⟨_, h, rfl⟩))
theorem mem_reads_guard {o : AOper} {t : Nat} {w : Bool} (h : o.guard = some (t, w)) : t ∈ readsOf o := by
  unfold readsOf
  rw [h]
  simp
theorem pair_spec {bj i : Nat} {a b : AOper} (h : pairOk bj i a b = true) (hb : bj.testBit i = false) :
    (∀ d, a.dst = some d → d ∉ readsOf b) ∧ (∀ d, b.dst = some d → d ∉ readsOf a) ∧ ¬ (a.op.moves = true ∧ b.op.moves = true) := by
  unfold pairOk at h
  rw [hb] at h
  simp only [Bool.false_or, Bool.and_eq_true] at h
  refine ⟨fun d hd => ?_, fun d hd => ?_, fun hm => ?_⟩
  · have := h.1.1
    rw [hd] at this
    simp at this
    exact this.1
  · have := h.1.2
    rw [hd] at this
    simpa using this
  · have := h.2
    rw [hm.1, hm.2] at this
    cases this
end Go.Am
