/- REGIONS THAT DRAW THEIR ORDER: the walk over every order. -/
import Derived.Test.YtgbeonpbgalbnaaGreatDoorAmDraw3
namespace Go.Am
set_option autoImplicit false

structure Lex (E : Env) (call : Caller) (aos : List (AOper × List Nat)) (ds : List Did) (hs : List Hp) (st0 : St) (sts : Nat → St) (vals : Nat → V) : Prop where
  step : ∀ (i : Nat) x, aos[i]? = some x → LexStep E call ds x (sts i) (sts (i + 1)) (vals i)
  hp : ∀ i, i ≤ aos.length → hs[cAt aos i]? = some (sts i).H
  tmpS : ∀ i, i ≤ aos.length → ∀ (j : Nat) x d, j < i → aos[j]? = some x → x.1.dst = some d → (sts i).tmp d = vals j
  tmpN : ∀ i, i ≤ aos.length → ∀ t, (∀ (j : Nat) x, j < i → aos[j]? = some x → x.1.dst ≠ some t) → (sts i).tmp t = st0.tmp t
  still : ∀ d ∈ ds, d.still hs = true
  zero : sts 0 = st0
theorem lex_make {E : Env} {call : Caller} {aos : List (AOper × List Nat)} {st0 st' : St} {ds : List Did} {hs' : List Hp} (h : lexRun E call aos st0 [st0.H] = some (ds, hs', st')) (hs : ds.all (Did.still hs'.reverse) = true)
    (dist : ∀ (i j : Nat) x y d, aos[i]? = some x → aos[j]? = some y → x.1.dst = some d → y.1.dst = some d → i = j) :
    ∃ sts vals, Lex E call aos ds hs'.reverse st0 sts vals ∧ sts aos.length = st' := by
  obtain ⟨sts, vals, h0, hl, ⟨X, hX, _⟩, hall⟩ := lex_spec aos st0 [st0.H] ds hs' st' h
  have get : ∀ i, i < aos.length → ∃ x, aos[i]? = some x := fun i hi => ⟨_, List.getElem?_eq_getElem hi⟩
  refine ⟨sts, vals, ⟨fun i x hx => (hall i x hx).1, fun i => ?_, fun i => ?_, fun i => ?_, List.all_eq_true.1 hs, h0⟩, hl⟩
  · induction i with
    | zero => intro _; rw [cAt_zero, hX, h0]; simp
    | succ i ih =>
      intro hi
      obtain ⟨x, hx⟩ := get i hi
      obtain ⟨a, b⟩ := hall i x hx
      rw [cAt_succ]
      cases hm : x.1.op.moves with
      | true =>
        have := b hm
        rw [movers_take aos i (by omega)] at this
        rw [if_pos (mem_moverIdx.2 ⟨x, hx, hm⟩), Nat.add_comm]
        exact this
      | false =>
        have hno : ¬ i ∈ moverIdx aos := fun h => by
          obtain ⟨y, hy, hm'⟩ := mem_moverIdx.1 h
          rw [hx] at hy
          cases hy
          rw [hm] at hm'
          cases hm'
        rw [if_neg hno, Nat.add_zero, ih (by omega)]
        congr 1
        rcases a.how with ⟨_, _, e⟩ | ⟨_, vs, _, e, _⟩
        · exact e.symm
        · exact (run_lies hm e).symm
  · induction i with
    | zero => intro _ j x d hj; omega
    | succ i ih =>
      intro hi j x d hj hx hd
      obtain ⟨y, hy⟩ := get i hi
      rw [(hall i y hy).1.put, tmp_put]
      by_cases e : j = i
      · subst e
        rw [hx] at hy
        cases hy
        rw [if_pos hd]
      · rw [if_neg fun hd' => e (dist j i x y d hx hy hd hd')]
        exact ih (by omega) j x d (by omega) hx hd
  · induction i with
    | zero => intro _ t _; rw [h0]
    | succ i ih =>
      intro hi t ht
      obtain ⟨y, hy⟩ := get i hi
      rw [(hall i y hy).1.put, tmp_put, if_neg (ht i y (by omega) hy)]
      exact ih (by omega) t fun j x hj hx => ht j x (by omega) hx

structure Inv (E : Env) (N : Nat) (ops : Array Oper) (aos : List (AOper × List Nat)) (hs : List Hp) (st0 : St) (vals : Nat → V) (G0 : Gh) (H0 : Hp) (w0 : World)
    (listed : Array Bool) (fuel : Nat) (a : Act) (w : World) (G : Gh) (st : St) (m : Nat) : Prop where
  sz : listed.size = ops.size
  fuel : fuel + (List.range ops.size).countP (fun i => listed.getD i false) = ops.size
  clo : ∀ (i : Nat) o, ops[i]? = some o → listed.getD i false = true → ∀ e ∈ o.after, Region.binds .any e = true → listed.getD e.on false = true
  cnt : (moverIdx aos).countP (fun e => listed.getD e false) = m
  le : Le G0 H0 w0 G st.H w
  evo : Evo H0 st.H
  ok : StOk E N G a w st
  hp : hs[m]? = some st.H
  tmpS : ∀ (i : Nat) x d, aos[i]? = some x → listed.getD i false = true → x.1.dst = some d → st.tmp d = vals i
  tmpN : ∀ t, (∀ (i : Nat) x, aos[i]? = some x → listed.getD i false = true → x.1.dst ≠ some t) → st.tmp t = st0.tmp t
theorem run_plain_ev {E : Env} {call : Caller} {o : AOper} {vs : List V} {H H' : Hp} {v : V} (hk : o.op.kind = .plain) (h : o.run E call vs H = some (.val v H')) : o.op.ev vs H = some (v, H') := by
  unfold AOper.run at h
  rw [hk] at h
  simp only at h
  cases he : o.op.ev vs H with
  | none => rw [he] at h; cases h
  | some q => rw [he] at h; cases h; rfl

section
variable {P : Program} {E : Env} {call : Caller} {N : Nat} {ops : Array Oper} {aos : List (AOper × List Nat)} {bs : List Nat} {st0 : St} {hs : List Hp} {ds : List Did} {sts : Nat → St} {vals : Nat → V}
  {G0 : Gh} {H0 : Hp} {w0 : World}
theorem getD_lt {l : Array Bool} {i : Nat} (h : i < l.size) (a b : Bool) : l.getD i a = l.getD i b := by simp [h]
/-- All listed: the state is the lexical run's. -/
theorem draw_end (D : DrawIs P N ops aos bs) (X : Lex E call aos ds hs st0 sts vals) {listed : Array Bool} {fuel m : Nat} {a : Act} {w : World} {G : Gh} {st : St}
    (I : Inv E N ops aos hs st0 vals G0 H0 w0 listed fuel a w G st m) (hall : ∀ i, i < ops.size → listed.getD i false = true) :
    Le G0 H0 w0 G (sts aos.length).H w ∧ Evo H0 (sts aos.length).H ∧ StOk E N G a w (sts aos.length) := by
  have hin : ∀ {e : Nat} {x}, aos[e]? = some x → e < ops.size := fun {e x} h => by
    rw [← D.len]
    rcases Nat.lt_or_ge e aos.length with h' | h'
    · exact h'
    · rw [List.getElem?_eq_none h'] at h; cases h
  have hm : m = cAt aos aos.length := by
    rw [← I.cnt]
    refine List.countP_congr fun e he => ?_
    obtain ⟨x, hx, _⟩ := mem_moverIdx.1 he
    simp only [hall e (hin hx), blt_iff, true_iff]
    rw [D.len]; exact hin hx
  have hH : st.H = (sts aos.length).H := by
    have h1 := I.hp
    rw [hm, X.hp _ (Nat.le_refl _)] at h1
    exact (Option.some.inj h1).symm
  have ht : ∀ t, st.tmp t = (sts aos.length).tmp t := fun t => by
    by_cases hex : ∃ (j : Nat) (y : AOper × List Nat), aos[j]? = some y ∧ y.1.dst = some t
    · obtain ⟨j, y, hy, hd⟩ := hex
      rw [I.tmpS j y t hy (hall j (hin hy)) hd, X.tmpS _ (Nat.le_refl _) j y t (by rw [D.len]; exact hin hy) hy hd]
    · rw [I.tmpN t fun i x hx _ hd => hex ⟨i, x, hx, hd⟩, X.tmpN _ (Nat.le_refl _) t fun j x _ hx hd => hex ⟨j, x, hx, hd⟩]
  refine ⟨hH ▸ I.le, hH ▸ I.evo, ⟨I.ok.size, fun i hi => ?_, hH ▸ I.ok.heap, hH ▸ I.ok.glob, I.ok.defers⟩⟩
  rw [← ht i, ← hH]
  exact I.ok.tmps i hi
theorem draw_go (hcall : CallOk P E call) (hin : IntrOk P E) (D : DrawIs P N ops aos bs) (X : Lex E call aos ds hs st0 sts vals) {Q : Exit → Act → World → Prop}
    (hQ : ∀ a w G, Le G0 H0 w0 G (sts aos.length).H w → Evo H0 (sts aos.length).H → StOk E N G a w (sts aos.length) → Q .normal a w) :
    ∀ (fuel : Nat) (listed : Array Bool) (a : Act) (w : World) (G : Gh) (st : St) (m : Nat), Inv E N ops aos hs st0 vals G0 H0 w0 listed fuel a w G st m → wpAny P .any ops Q fuel listed a w := by
  intro fuel
  induction fuel with
  | zero =>
    intro listed a w G st m I
    have hall : ∀ i, i < ops.size → listed.getD i false = true := fun i hi => by
      have h1 := I.fuel
      rw [Nat.zero_add] at h1
      have h2 : (List.range ops.size).countP (fun i => listed.getD i false) = (List.range ops.size).length := by rw [h1]; simp
      exact List.countP_eq_length.1 h2 i (List.mem_range.2 hi)
    refine ⟨?_, ?_⟩
    · cases hr : Region.ready .any ops listed with
      | nil => rfl
      | cons i l =>
        have hi : i ∈ Region.ready .any ops listed := by rw [hr]; simp
        obtain ⟨h1, o, ho, _⟩ := mem_ready.1 hi
        have hlt : i < ops.size := by
          rcases Nat.lt_or_ge i ops.size with h | h
          · exact h
          · rw [Array.getElem?_eq_none h] at ho; cases ho
        rw [getD_lt (by rw [I.sz]; exact hlt) true false, hall i hlt] at h1
        cases h1
    · obtain ⟨h1, h2, h3⟩ := draw_end D X I hall
      exact hQ a w G h1 h2 h3
  | succ fuel ih =>
    intro listed a w G st m I
    have L := fun i : Nat => listed.getD i false
    refine ⟨fun hr => ?_, fun i hi => ?_⟩
    · -- nothing is ready: all are listed
      have hall : ∀ i, i < ops.size → listed.getD i false = true := fun i => by
        induction i using Nat.strongRecOn with
        | _ i ihi =>
          intro hi
          cases hl : listed.getD i false with
          | true => rfl
          | false =>
            have : i ∈ Region.ready .any ops listed := by
              refine mem_ready.2 ⟨by rw [getD_lt (by rw [I.sz]; exact hi) true false]; exact hl, ops[i], Array.getElem?_eq_getElem hi, fun e he hb => ?_⟩
              have := edges_lt ops.toList 0 i ops[i] (by simp [hi]) D.edges e he hb
              exact ihi e.on (by omega) (by omega)
            rw [hr] at this
            cases this
      obtain ⟨h1, h2, h3⟩ := draw_end D X I hall
      exact hQ a w G h1 h2 h3
    · obtain ⟨hl, o, ho, hedges⟩ := mem_ready.1 hi
      have hlt : i < ops.size := by
        rcases Nat.lt_or_ge i ops.size with h | h
        · exact h
        · rw [Array.getElem?_eq_none h] at ho; cases ho
      have hil : i < aos.length := by rw [D.len]; exact hlt
      obtain ⟨x, hx⟩ : ∃ x, aos[i]? = some x := ⟨_, List.getElem?_eq_getElem hil⟩
      rw [getD_lt (by rw [I.sz]; exact hlt) true false] at hl
      have hol : ops.toList[i]? = some o := by simpa using ho
      have hclo : ∀ j o, ops.toList[j]? = some o → listed.getD j false = true → ∀ e ∈ o.after, Region.binds .any e = true → listed.getD e.on false = true := fun j o h => I.clo j o (by simpa using h)
      have hbef : ∀ k, (bs.getD i 0).testBit k = true → listed.getD k false = true := fun k hk => by
        rw [D.hbs] at hk
        exact closed_ready D.edges (L := fun i => listed.getD i false = true) hclo hol hedges hk
      have haft : ∀ j, j < aos.length → (bs.getD j 0).testBit i = true → listed.getD j false = true → False := fun j hj hk hlj => by
        rw [D.hbs] at hk
        have := closed D.edges (L := fun i => listed.getD i false = true) hclo j (by rw [D.len] at hj; simpa using hj) hlj i hk
        rw [hl] at this
        cases this
      have inb : ∀ {e : Nat} {y}, aos[e]? = some y → e < aos.length := fun {e y} h => by
        rcases Nat.lt_or_ge e aos.length with h' | h'
        · exact h'
        · rw [List.getElem?_eq_none h'] at h; cases h
      have hreads : ∀ t, t ∈ readsOf x.1 → st.tmp t = (sts i).tmp t := fun t ht => by
        by_cases hex : ∃ (j : Nat) (y : AOper × List Nat), aos[j]? = some y ∧ y.1.dst = some t
        · obtain ⟨j, y, hy, hd⟩ := hex
          have uniq : ∀ (k : Nat) z, aos[k]? = some z → z.1.dst = some t → k = j := fun k z hz hd' => D.dist k j z y t hz hy hd' hd
          rcases Nat.lt_trichotomy j i with hji | hji | hji
          · cases hb : (bs.getD i 0).testBit j with
            | true => rw [I.tmpS j y t hy (hbef j hb) hd, X.tmpS i (by omega) j y t hji hy hd]
            | false => exact absurd ht ((pair_spec (D.pairs j i y x hji hy hx) hb).1 t hd)
          · subst hji
            rw [I.tmpN t (fun k z hz hlk hd' => by rw [uniq k z hz hd', hl] at hlk; cases hlk), X.tmpN _ (by omega) t (fun k z hk hz hd' => by have := uniq k z hz hd'; omega)]
          · cases hb : (bs.getD j 0).testBit i with
            | true =>
              rw [I.tmpN t (fun k z hz hlk hd' => by rw [uniq k z hz hd'] at hlk; exact haft j (inb hy) hb hlk), X.tmpN _ (by omega) t (fun k z hk hz hd' => by have := uniq k z hz hd'; omega)]
            | false => exact absurd ht ((pair_spec (D.pairs i j x y hji hx hy) hb).2.1 t hd)
        · rw [I.tmpN t fun i x hx _ hd => hex ⟨i, x, hx, hd⟩, X.tmpN _ (by omega) t fun j x _ hx hd => hex ⟨j, x, hx, hd⟩]
      have hwant : x.1.wanted st = x.1.wanted (sts i) := wanted_same fun d b hg => hreads d (mem_reads_guard hg)
      have hargs : evAll E st x.1.args = evAll E (sts i) x.1.args := evAll_same fun t ht => hreads t (mem_reads_arg ht)
      have hmv : i ∈ moverIdx aos → m = cAt aos i := fun hmem => by
        obtain ⟨x', hx', hm⟩ := mem_moverIdx.1 hmem
        rw [hx] at hx'
        cases hx'
        rw [← I.cnt]
        refine List.countP_congr fun e he => ?_
        obtain ⟨y, hy, hm'⟩ := mem_moverIdx.1 he
        rw [blt_iff]
        rcases Nat.lt_trichotomy e i with h | h | h
        · cases hb : (bs.getD i 0).testBit e with
          | true => simp [hbef e hb, h]
          | false => exact absurd ⟨hm', hm⟩ (pair_spec (D.pairs e i y x h hy hx) hb).2.2
        · subst h; simp [hl]
        · cases hb : (bs.getD e 0).testBit i with
          | true =>
            constructor
            · intro h'; exact (haft e (inb hy) hb h').elim
            · intro h'; omega
          | false => exact absurd ⟨hm, hm'⟩ (pair_spec (D.pairs i e x y h hx hy) hb).2.2
      have hstep := X.step i x hx
      -- what follows when it is listed
      have next : ∀ (G' : Gh) (a' : Act) (w' : World) (Hn : Hp), Le G0 H0 w0 G' Hn w' → Evo H0 Hn → StOk E N G' a' w' (St.put ⟨st.T, Hn⟩ x.1.dst (vals i)) →
          hs[m + (if i ∈ moverIdx aos then 1 else 0)]? = some Hn → wpAny P .any ops Q fuel (listed.setIfInBounds i true) a' w' := by
        intro G' a' w' Hn hle hev hok hhp
        have set_i : (listed.setIfInBounds i true).getD i false = true := by simp [I.sz, hlt]
        have set_ne : ∀ e, e ≠ i → (listed.setIfInBounds i true).getD e false = listed.getD e false := fun e he => getD_set_ne false (Ne.symm he)
        have hcongr : ∀ e, ((listed.setIfInBounds i true).getD e false = true) ↔ ((listed.getD e false || e == i) = true) := fun e => by
          by_cases h : e = i
          · subst h; rw [set_i]; simp
          · rw [set_ne e h]; simp [h]
        have tmp' : ∀ d, (St.put ⟨st.T, Hn⟩ x.1.dst (vals i)).tmp d = if x.1.dst = some d then vals i else st.tmp d := fun d => tmp_put _ _ _ _
        refine ih _ a' w' G' (St.put ⟨st.T, Hn⟩ x.1.dst (vals i)) (m + (if i ∈ moverIdx aos then 1 else 0)) ⟨by simp [I.sz], ?_, fun j oj hj hlj e he hb => ?_, ?_, by rw [put_H]; exact hle, by rw [put_H]; exact hev, hok,
          by rw [put_H]; exact hhp, fun j y d hy hlj hd => ?_, fun t ht => ?_⟩
        · rw [List.countP_congr (fun e _ => hcongr e), countP_add List.nodup_range _ i hl, if_pos (List.mem_range.2 hlt)]
          have := I.fuel
          omega
        · by_cases h : j = i
          · subst h
            rw [ho] at hj
            cases hj
            exact getD_set_true (hedges e he hb)
          · rw [set_ne j h] at hlj
            exact getD_set_true (I.clo j oj hj hlj e he hb)
        · rw [List.countP_congr (fun e _ => hcongr e), countP_add (nodup_moverIdx aos) _ i hl, I.cnt]
        · rw [tmp']
          by_cases h : j = i
          · subst h
            rw [hx] at hy
            cases hy
            rw [if_pos hd]
          · rw [set_ne j h] at hlj
            rw [if_neg fun hd' => h (D.dist j i y x d hy hx hd hd')]
            exact I.tmpS j y d hy hlj hd
        · rw [tmp', if_neg (ht i x hx set_i)]
          exact I.tmpN t fun j y hy hlj => ht j y hy (getD_set_true hlj)
      unfold wpOp
      simp only [ho]
      have his := D.is i o x ho hx
      rw [wanted_eq I.ok his, hwant]
      rcases hstep.how with ⟨hw, hv, hHsame⟩ | ⟨hw, vs, hvs, hrun, hmem⟩
      · rw [hw]
        simp only [Bool.false_eq_true, if_false]
        have hput := I.ok.put (Le.refl _ _ _) I.ok.heap (rel_undef G st.H w) his.dlt
        rw [← hv] at hput
        refine next G _ w st.H I.le I.evo (by rw [his.dst]; exact hput) ?_
        by_cases hmem : i ∈ moverIdx aos
        · rw [if_pos hmem]
          have h1 := X.hp (i + 1) (by omega)
          rw [cAt_succ, if_pos hmem, ← hmv hmem, hHsame] at h1
          have h2 := I.hp
          rw [hmv hmem, X.hp i (by omega)] at h2
          rw [h1]
          exact h2
        · rw [if_neg hmem]; exact I.hp
      · rw [hw]
        simp only [if_true]
        refine .inl ?_
        -- what it gives here
        have hhere : ∃ Hn, x.1.run E call vs st.H = some (.val (vals i) Hn) ∧ hs[m + (if i ∈ moverIdx aos then 1 else 0)]? = some Hn := by
          by_cases hmem' : i ∈ moverIdx aos
          · rw [if_pos hmem']
            have h2 := I.hp
            rw [hmv hmem', X.hp i (by omega)] at h2
            have h2 := Option.some.inj h2
            refine ⟨(sts (i + 1)).H, by rw [← h2]; exact hrun, ?_⟩
            have h1 := X.hp (i + 1) (by omega)
            rw [cAt_succ, if_pos hmem', ← hmv hmem'] at h1
            exact h1
          · rw [if_neg hmem']
            have hm : x.1.op.moves = false := by
              cases h : x.1.op.moves with
              | true => exact absurd (mem_moverIdx.2 ⟨x, hx, h⟩) hmem'
              | false => rfl
            refine ⟨st.H, run_blind hm hrun fun hk hrd => ?_, I.hp⟩
            by_cases hc : m = cAt aos i
            · have h2 := I.hp
              rw [hc, X.hp i (by omega)] at h2
              have h2 := Option.some.inj h2
              exact ⟨_, by rw [← h2]; exact run_plain_ev hk hrun⟩
            · have hst := D.stages i x hx hrd m
                (by rw [← I.cnt]; exact countP_le _ _ fun e _ he => hbef e he)
                (by
                  rw [← I.cnt]
                  refine countP_two _ _ fun e he h1 h2 => ?_
                  obtain ⟨y, hy, _⟩ := mem_moverIdx.1 he
                  exact haft e (inb hy) h2 h1) hc
              have hsd := X.still _ hmem
              unfold Did.still at hsd
              have hsd := List.all_eq_true.1 hsd m hst
              rw [I.hp] at hsd
              simp only at hsd
              cases he : x.1.op.ev vs st.H with
              | none => rw [he] at hsd; cases hsd
              | some q =>
                rw [he] at hsd
                exact ⟨q.2, by rw [← same_eq _ _ hsd]⟩
        obtain ⟨Hn, hrun', hhp⟩ := hhere
        refine step_ok hcall hin I.ok his (by rw [hargs]; exact hvs) hrun' (fun v H' e G' cv w' Lx ev hs' => ?_) fun v H' e => by cases e
        cases e
        exact next G' _ w' Hn (I.le.trans Lx) (I.evo.trans ev) hs' hhp
end
end Go.Am
