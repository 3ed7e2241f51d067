/- REGIONS THAT DRAW THEIR ORDER: the lexical run. -/
import Derived.Test.YtgbeonpbgalbnaaGreatDoorAmDraw1
namespace Go.Am
set_option autoImplicit false

def movers (l : List (AOper × List Nat)) : Nat := l.countP fun x => x.1.op.moves
structure LexStep (E : Env) (call : Caller) (ds : List Did) (x : AOper × List Nat) (s s' : St) (v : V) : Prop where
  put : s' = St.put ⟨s.T, s'.H⟩ x.1.dst v
  how : (x.1.wanted s = false ∧ v = V.undef ∧ s'.H = s.H) ∨ (x.1.wanted s = true ∧ ∃ vs, evAll E s x.1.args = some vs ∧ x.1.run E call vs s.H = some (.val v s'.H) ∧ (⟨x.1.op, vs, v, x.2⟩ : Did) ∈ ds)
theorem put_H (st : St) (d : Option Nat) (v : V) : (St.put st d v).H = st.H := by cases d <;> rfl
theorem lex_spec {E : Env} {call : Caller} : ∀ (l : List (AOper × List Nat)) (st : St) (hs : List Hp) (ds : List Did) (hs' : List Hp) (st' : St), lexRun E call l st hs = some (ds, hs', st') →
    ∃ (sts : Nat → St) (vals : Nat → V), sts 0 = st ∧ sts l.length = st' ∧ (∃ X, hs' = X ++ hs ∧ X.length = movers l) ∧
      ∀ i x, l[i]? = some x → LexStep E call ds x (sts i) (sts (i + 1)) (vals i) ∧ (x.1.op.moves = true → hs'.reverse[hs.length + movers (l.take i)]? = some (sts (i + 1)).H)
  | [], st, hs, ds, hs', st', h => by
    unfold lexRun at h
    cases h
    exact ⟨fun _ => st, fun _ => V.undef, rfl, rfl, ⟨[], rfl, rfl⟩, fun i x hx => by simp at hx⟩
  | (o, ms) :: os, st, hs, ds, hs', st', h => by
    -- the rest is run from s1 with the heaps hs1
    have glue : ∀ (s1 : St) (v : V) (hs1 : List Hp) (dsr : List Did), lexRun E call os s1 hs1 = some (dsr, hs', st') → hs1 = (if o.op.moves then s1.H :: hs else hs) →
        (∀ d ∈ dsr, d ∈ ds) → LexStep E call ds (o, ms) st s1 v →
        ∃ (sts : Nat → St) (vals : Nat → V), sts 0 = st ∧ sts ((o, ms) :: os).length = st' ∧ (∃ X, hs' = X ++ hs ∧ X.length = movers ((o, ms) :: os)) ∧
          ∀ i x, ((o, ms) :: os)[i]? = some x → LexStep E call ds x (sts i) (sts (i + 1)) (vals i) ∧
            (x.1.op.moves = true → hs'.reverse[hs.length + movers (((o, ms) :: os).take i)]? = some (sts (i + 1)).H) := by
      intro s1 v hs1 dsr hr hhs hsub hstep
      obtain ⟨sts, vals, h0, hl, ⟨X, hX, hXl⟩, hall⟩ := lex_spec os s1 hs1 dsr hs' st' hr
      refine ⟨fun i => match i with | 0 => st | i + 1 => sts i, fun i => match i with | 0 => v | i + 1 => vals i, rfl, hl, ?_, ?_⟩
      · cases hm : o.op.moves with
        | true =>
          rw [hm, if_pos rfl] at hhs
          exact ⟨X ++ [s1.H], by rw [hX, hhs]; simp, by simp [movers, hm] at hXl ⊢; exact hXl⟩
        | false =>
          rw [hm, if_neg (by simp)] at hhs
          exact ⟨X, by rw [hX, hhs], by simp [movers, hm] at hXl ⊢; exact hXl⟩
      · intro i x hx
        cases i with
        | zero =>
          simp at hx
          subst hx
          refine ⟨by show LexStep E call ds (o, ms) st (sts 0) v; rw [h0]; exact hstep, fun hm => ?_⟩
          have hm : o.op.moves = true := hm
          rw [hm, if_pos rfl] at hhs
          show hs'.reverse[hs.length + movers []]? = some (sts 0).H
          rw [hX, hhs, h0]
          simp [movers]
        | succ i =>
          obtain ⟨a, b⟩ := hall i x (by simpa using hx)
          refine ⟨⟨a.put, a.how.imp id fun ⟨w, vs, e1, e2, e3⟩ => ⟨w, vs, e1, e2, hsub _ e3⟩⟩, fun hm => ?_⟩
          have hb := b hm
          show hs'.reverse[hs.length + movers ((o, ms) :: os.take i)]? = some (sts (i + 1)).H
          rw [← hb]
          congr 1
          cases hm' : o.op.moves with
          | true =>
            rw [hm', if_pos rfl] at hhs
            rw [hhs]
            simp [movers, hm']
            omega
          | false =>
            rw [hm', if_neg (by simp)] at hhs
            rw [hhs]
            simp [movers, hm']
    unfold lexRun at h
    cases hw : o.wanted st with
    | false =>
      rw [hw, if_neg (by simp)] at h
      refine glue (st.put o.dst V.undef) V.undef _ ds h (by rw [put_H]) (fun _ h => h) ⟨?_, .inl ⟨hw, rfl, put_H _ _ _⟩⟩
      rw [put_H]
    | true =>
      rw [hw, if_pos rfl] at h
      cases hv : evAll E st o.args with
      | none => rw [hv] at h; cases h
      | some vs =>
        rw [hv] at h
        simp only at h
        cases hr : o.run E call vs st.H with
        | none => rw [hr] at h; cases h
        | some res =>
          rw [hr] at h
          cases res with
          | pan v H => cases h
          | val v H =>
            simp only at h
            cases hrest : lexRun E call os (St.put ⟨st.T, H⟩ o.dst v) (if o.op.moves then H :: hs else hs) with
            | none => rw [hrest] at h; cases h
            | some q =>
              obtain ⟨dsr, hsr, str⟩ := q
              rw [hrest] at h
              cases h
              refine glue (St.put ⟨st.T, H⟩ o.dst v) v _ dsr hrest (by rw [put_H]) (fun _ h => List.mem_cons_of_mem _ h) ⟨?_, .inr ⟨hw, vs, hv, ?_, List.mem_cons_self⟩⟩
              · rw [put_H]
              · rw [put_H]; exact hr

/-! ### what the order keeps -/
theorem befores_getD : ∀ (os : List Oper) (acc : List Nat) (k : Nat), k < acc.length → (beforesFrom os acc).getD k 0 = acc.getD k 0
  | [], _, _, _ => rfl
  | o :: os, acc, k, h => by
    unfold beforesFrom
    rw [befores_getD os _ k (by simp; omega)]
    simp [List.getElem?_append_left h]
theorem foldl_bits {acc : List Nat} {k : Nat} : ∀ (es : List Edge) (s : Nat), (es.foldl (fun s e => bif Region.binds .any e then s ||| 2 ^ e.on ||| acc.getD e.on 0 else s) s).testBit k = true →
    s.testBit k = true ∨ ∃ e ∈ es, Region.binds .any e = true ∧ (k = e.on ∨ (acc.getD e.on 0).testBit k = true)
  | [], s, h => .inl h
  | e :: es, s, h => by
    rw [List.foldl_cons] at h
    rcases foldl_bits es _ h with h | ⟨e', he, h⟩
    · cases hb : Region.binds .any e with
      | false => rw [hb] at h; exact .inl h
      | true =>
        rw [hb] at h
        simp only [cond_true, Nat.testBit_or, Bool.or_eq_true] at h
        rcases h with (h | h) | h
        · exact .inl h
        · rw [Nat.testBit_two_pow] at h
          have h' : e.on = k := by simpa using h
          exact .inr ⟨e, by simp, hb, .inl h'.symm⟩
        · exact .inr ⟨e, by simp, hb, .inr h⟩
    · exact .inr ⟨e', by simp [he], h⟩
theorem befores_spec : ∀ (os : List Oper) (acc : List Nat) (i : Nat) (o : Oper), os[i]? = some o → edgesOk acc.length os = true → ∀ k, ((beforesFrom os acc).getD (acc.length + i) 0).testBit k = true →
    ∃ e ∈ o.after, Region.binds .any e = true ∧ e.on < acc.length + i ∧ (k = e.on ∨ ((beforesFrom os acc).getD e.on 0).testBit k = true)
  | [], _, _, _, h, _, _, _ => by simp at h
  | o' :: os, acc, i, o, h, he, k, hk => by
    unfold edgesOk at he
    simp only [Bool.and_eq_true] at he
    unfold beforesFrom at hk ⊢
    cases i with
    | zero =>
      simp at h
      subst h
      rw [befores_getD _ _ _ (by simp)] at hk
      simp only [Nat.add_zero, List.getD_eq_getElem?_getD, List.getElem?_append_right (Nat.le_refl _), Nat.sub_self, List.getElem?_cons_zero, Option.getD_some] at hk
      have hk' : (o'.after.toList.foldl (fun s e => bif Region.binds .any e then s ||| 2 ^ e.on ||| acc.getD e.on 0 else s) 0).testBit k = true := by
        simpa using hk
      rcases foldl_bits _ _ hk' with h0 | ⟨e, hm, hb, hc⟩
      · simp at h0
      · have hlt : e.on < acc.length := by
          have := List.all_eq_true.1 he.1 e hm
          simp only [hb, Bool.not_true, Bool.false_or, blt_iff] at this
          exact this
        refine ⟨e, by simpa using hm, hb, hlt, hc.imp id fun hc => ?_⟩
        rw [befores_getD _ _ _ (by simp; omega)]
        simpa [List.getElem?_append_left hlt] using hc
    | succ i =>
      have := befores_spec os (acc ++ [o'.after.toList.foldl (fun s e => bif Region.binds .any e then s ||| 2 ^ e.on ||| acc.getD e.on 0 else s) 0]) i o (by simpa using h) (by simpa using he.2) k
        (by
          have e1 : ∀ X : Nat, (acc ++ [X]).length + i = acc.length + (i + 1) := fun X => by simp; omega
          rw [e1]; exact hk)
      obtain ⟨e, hm, hb, hlt, hc⟩ := this
      exact ⟨e, hm, hb, by simp at hlt; omega, hc⟩
theorem edges_lt : ∀ (os : List Oper) (n i : Nat) (o : Oper), os[i]? = some o → edgesOk n os = true → ∀ e ∈ o.after, Region.binds .any e = true → e.on < n + i
  | [], _, _, _, h, _, _, _, _ => by simp at h
  | o' :: os, n, i, o, h, he, e, hm, hb => by
    unfold edgesOk at he
    simp only [Bool.and_eq_true] at he
    cases i with
    | zero =>
      simp at h
      subst h
      have := List.all_eq_true.1 he.1 e (by simpa using hm)
      simp only [hb, Bool.not_true, Bool.false_or, blt_iff] at this
      exact this
    | succ i =>
      have := edges_lt os (n + 1) i o (by simpa using h) he.2 e hm hb
      omega
/-- A set of operations that holds what comes directly before each of its own holds all that comes before. -/
theorem closed {os : List Oper} (he : edgesOk 0 os = true) {L : Nat → Prop} (hL : ∀ i o, os[i]? = some o → L i → ∀ e ∈ o.after, Region.binds .any e = true → L e.on) :
    ∀ (i : Nat), i < os.length → L i → ∀ k, ((beforesFrom os []).getD i 0).testBit k = true → L k := by
  intro i
  induction i using Nat.strongRecOn with
  | _ i ih =>
    intro hi hLi k hk
    obtain ⟨e, hm, hb, hlt, hc⟩ := befores_spec os [] i os[i] (List.getElem?_eq_getElem hi) he k (by simpa using hk)
    have hLe := hL i _ (List.getElem?_eq_getElem hi) hLi e hm hb
    simp at hlt
    rcases hc with rfl | hc
    · exact hLe
    · exact ih e.on hlt (by omega) hLe k hc
/-- The same for one whose direct ones are all in it. -/
theorem closed_ready {os : List Oper} (he : edgesOk 0 os = true) {L : Nat → Prop} (hL : ∀ i o, os[i]? = some o → L i → ∀ e ∈ o.after, Region.binds .any e = true → L e.on)
    {i : Nat} {o : Oper} (hi : os[i]? = some o) (hd : ∀ e ∈ o.after, Region.binds .any e = true → L e.on) {k : Nat} (hk : ((beforesFrom os []).getD i 0).testBit k = true) : L k := by
  obtain ⟨e, hm, hb, hlt, hc⟩ := befores_spec os [] i o hi he k (by simpa using hk)
  have hil : i < os.length := by
    rcases Nat.lt_or_ge i os.length with h | h
    · exact h
    · rw [List.getElem?_eq_none h] at hi; cases hi
  simp at hlt
  rcases hc with rfl | hc
  · exact hd e hm hb
  · exact closed he hL e.on (by omega) (hd e hm hb) k hc
end Go.Am
