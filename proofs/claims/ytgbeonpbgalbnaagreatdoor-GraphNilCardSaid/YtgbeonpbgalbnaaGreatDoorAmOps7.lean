/- EACH OPERATION, SIMULATED: the seventh part: copying, clearing, maps, texts gone through, structs made. -/
import Derived.Test.YtgbeonpbgalbnaaGreatDoorAmOps6
namespace Go.Am
set_option autoImplicit false

section
variable {P : Program} {G : Gh} {H H' : Hp} {w : World} {ρ : Operand → Value} {o : Oper} {v : V}

theorem zeroCells_eq (z : Array Value) (n : Nat) : Builtin.zeroCells z n = madeCells z (n * z.size) := rfl
theorem sim_clear {c : Call} {x : Operand} {t e : TypeId} {es : Nat} {ag : Bool} {z : List V} (ho : o.op = .call c) (hb : c.callee = .builtin .clear) (ha : c.args.toList = [x]) (ht : c.argTypes.toList = [t])
    (hu : P.underlying t = some (.slice e)) (hc : roomT P e = some (es, ag, z)) (hH : HeapRel G H w) {vs : List V} (hr : RelL G H w ([x].map ρ) vs) (he : evClear es z vs H = some (v, H')) :
    Gives P (execOp ρ o) G H w v H' := by
  obtain ⟨a, rfl, ha'⟩ := one_arg hr
  have hty : c.argTypes = #[t] := by apply Array.ext'; simp [ht]
  obtain ⟨i, zc, hi, hz, hsz, hzs, hzl, hzr⟩ := roomT_info hc
  cases a <;> simp only [evClear] at he <;> try cases he
  · rename_i i q n kc es' ag'
    obtain ⟨ad, cap, hx, hi', hmc, hk, had⟩ := rel_sl ha'
    cases hg : H.get i with
    | none => simp [hg] at he
    | some ob =>
      cases ob <;> simp only [hg] at he <;> try cases he
      rename_i eo ago cs
      cases hq : (Nat.beq es' es && Nat.beq z.length es && Nat.ble (q + n * es) cs.length) with
      | false => simp [hq] at he
      | true =>
        simp only [hq, cond_true, Option.some.injEq, Prod.mk.injEq] at he
        obtain ⟨rfl, rfl⟩ := he
        simp only [Bool.and_eq_true, beq_iff, ble_iff] at hq
        obtain ⟨⟨rfl, _⟩, hfit⟩ := hq
        have hlive : H.live i := ⟨_, hg, rfl⟩
        have hσ : G.β i + cs.length ≤ G.σ i := by cases hH.obj i _ hg with | cells _ _ _ c e fr hb hs hl hf h h1 => omega
        have hlen : (List.replicate n z).flatten.length = n * es' := by simp [hzl]
        have hrel : RelL G H w (madeCells zc.cells (n * es')).toList (List.replicate n z).flatten := by
          have := made_rel (G := G) (H := H) (w := w) (hzr G H w).1 n
          rwa [hzl] at this
        obtain ⟨w', hst, L, hH', _⟩ := write_cells (P := P) hH hg (q := q) (by omega) (by rw [hlen]; omega) hrel (ones_replicate (hzr G H w).2 n)
        by_cases hn0 : n = 0
        · subst hn0
          refine ⟨G, w', .tuple #[], .inl ?_, L, hH', .tuple _ _ .nil⟩
          have hw : w' = w := by simp [madeCells, storeCells] at hst; exact hst.symm
          rw [builtin_run ho hb ha, hty, hw]
          simp [Go.builtin, Builtin.clear_, hx, run_underlying hu]
        · refine ⟨G, w', .tuple #[], .inl ?_, L, hH', .tuple _ _ .nil⟩
          rw [builtin_run ho hb ha, hty]
          rw [(had hlive (by omega)).1] at hx
          obtain ⟨m, rfl⟩ : ∃ m, n = m + 1 := ⟨n - 1, by omega⟩
          simp [Go.builtin, Builtin.clear_, hx, run_underlying hu, zeroValue, typeInfo, hi, hz, zeroCells_eq, hzs, hst]
  · have hx : ρ x = .slice none 0 0 := by cases hz : ρ x <;> rw [hz] at ha' <;> cases ha'; rfl
    refine gives_same hH (.tuple #[]) ?_ (.tuple _ _ .nil)
    rw [builtin_run ho hb ha, hty]
    simp [Go.builtin, Builtin.clear_, hx, run_underlying hu]
theorem sim_copy {c : Call} {x y : Operand} {t1 t2 e : TypeId} {es : Nat} {ag : Bool} (ho : o.op = .call c) (hb : c.callee = .builtin .copy) (ha : c.args.toList = [x, y]) (ht : c.argTypes.toList = [t1, t2])
    (hu : P.underlying t1 = some (.slice e)) (hc : cellT P e = some (es, ag)) (hH : HeapRel G H w) {vs : List V} (hr : RelL G H w ([x, y].map ρ) vs) (he : evCopy es vs H = some (v, H')) :
    Gives P (execOp ρ o) G H w v H' := by
  obtain ⟨a, b, rfl, ha', hb'⟩ := two_args hr
  have hty : c.argTypes = #[t1, t2] := by apply Array.ext'; simp [ht]
  have hes := (cellT_spec hc).2.2.1
  cases a <;> simp only [evCopy] at he <;> try cases he
  case nils =>
    have hx : ρ x = .slice none 0 0 := by cases hz : ρ x <;> rw [hz] at ha' <;> cases ha'; rfl
    cases hm : lenV b with
    | none => simp [hm] at he
    | some m =>
      simp only [hm, Option.some.injEq, Prod.mk.injEq] at he
      obtain ⟨rfl, rfl⟩ := he
      refine gives_same hH (goInt 0) ?_ (.int _ _)
      rw [builtin_run ho hb ha, hty]
      rcases lenV_slice hb' hm with ⟨p, cp, hy⟩ | ⟨s, hy, hs, hxs⟩
      · cases p <;> simp [Go.builtin, Builtin.copy_, hx, run_underlying hu, hy, Builtin.lenOf, run_size w (cellT_spec hc).1, Builtin.firstCells, loadCells, loadCellsFrom]
      · simp [Go.builtin, Builtin.copy_, hx, run_underlying hu, hy, Builtin.lenOf, run_size w (cellT_spec hc).1, Builtin.firstCells]
  rename_i i q n kc es' ag'
  obtain ⟨ad, cap, hx, hi', hmc, hk, had⟩ := rel_sl ha'
  cases hm : lenV b with
  | none => simp [hm] at he
  | some m =>
    simp only [hm] at he
    cases hcs : cellsOf H es (Nat.min m n) b with
    | none => simp [hcs] at he
    | some new =>
      simp only [hcs] at he
      cases hg : H.get i with
      | none => simp [hg] at he
      | some ob =>
        cases ob <;> simp only [hg] at he <;> try cases he
        rename_i eo ago cs
        cases hq : (Nat.beq es' es && Nat.ble (q + new.length) cs.length) with
        | false => simp [hq] at he
        | true =>
          simp only [hq, cond_true, Option.some.injEq, Prod.mk.injEq] at he
          obtain ⟨rfl, rfl⟩ := he
          simp only [Bool.and_eq_true, beq_iff, ble_iff] at hq
          obtain ⟨rfl, hfit⟩ := hq
          have hlive : H.live i := ⟨_, hg, rfl⟩
          have hσ : G.β i + cs.length ≤ G.σ i := by cases hH.obj i _ hg with | cells _ _ _ c e fr hb hs hl hf h h1 => omega
          obtain ⟨news, h1, h2, h3⟩ := cellsOf_spec (P := P) hH hb' hcs (fun k hk => by rw [hm] at hk; cases hk; exact Nat.min_le_left _ _)
          have hsrc : (Builtin.lenOf (ρ y)).run P w = .ok m w ∧ (Builtin.firstCells es' (Nat.min m n) (ρ y)).run P w = .ok news.toArray w := by
            rcases lenV_slice hb' hm with ⟨p, cp, hy⟩ | ⟨s, hy, hs, hxs⟩
            · refine ⟨by simp [hy, Builtin.lenOf], ?_⟩
              rcases h3 with ⟨_, ⟨p', m', cp', hy', _, hrun⟩ | ⟨⟨p', cp', hy'⟩, h0, rfl⟩⟩ | ⟨s, hy', _⟩
              · rw [hy'] ; simp [Builtin.firstCells, hrun w (fun _ => rfl)]
              · rw [hy']
                cases p' <;> simp [Builtin.firstCells, h0, loadCells, loadCellsFrom]
              · rw [hy] at hy'; cases hy'
            · refine ⟨by simp [hy, Builtin.lenOf, hs], ?_⟩
              rcases h3 with ⟨_, ⟨p', m', cp', hy', _, hrun⟩ | ⟨⟨p', cp', hy'⟩, h0, rfl⟩⟩ | ⟨s', hy', _, rfl, _⟩
              · rw [hy] at hy'; cases hy'
              · rw [hy] at hy'; cases hy'
              · rw [hy]
                rw [hy] at hy'
                cases hy'
                simp [Builtin.firstCells]
                apply Array.ext'
                simp [List.extract_eq_take_drop]
          obtain ⟨w', hst, L, hH', _⟩ := write_cells (P := P) hH hg (q := q) (by omega) (by omega) h1 h2
          have hstore : (storeCells ad news).run P w = .ok () w' := by
            by_cases hc0 : cap = 0
            · have hn : news = [] := by
                rcases h3 with ⟨hl, _⟩ | ⟨_, _, _, _, hl⟩
                · have : new.length = 0 := by rw [hl, show n = 0 by omega]; simp
                  exact List.length_eq_zero_iff.1 (by rw [h1.length]; exact this)
                · have : new.length = 0 := by rw [hl, show n = 0 by omega]; simp
                  exact List.length_eq_zero_iff.1 (by rw [h1.length]; exact this)
              subst hn
              simpa [storeCells] using hst
            · rw [(had hlive hc0).1]; exact hst
          refine ⟨G, w', goInt (Nat.min m n), .inl ?_, L, hH', .int _ _⟩
          rw [builtin_run ho hb ha, hty]
          obtain ⟨hl, hf⟩ := hsrc
          simp [Go.builtin, Builtin.copy_, hx, run_underlying hu, hl, run_size w (cellT_spec hc).1, hf, hstore]

/-! ### maps -/
theorem run_checkKey {kt : TypeId} {kk : KeyK} (hk : keyT P kt = some kk) {c : Value} {k : V} (h : Rel G H w c k) (hok : keyOk kk k = true) (b : Bool) (n : Nat) :
    (Instr.checkKey b (n + 2) kt c).run P w = .ok () w := by
  have sc : ∀ {t : TypeId} {s : SK} (_ : skT P t = some s) (c : Value) (m : Nat), (Instr.checkKey b (m + 1) t c).run P w = .ok () w := by
    intro t s hs c m
    rcases skT_eq hs with ⟨_, k, hu⟩ | ⟨_, hu⟩ | ⟨_, hu⟩ <;> simp [Instr.checkKey, run_underlying hu]
  unfold keyT at hk
  cases hs : skT P kt with
  | some s => exact sc hs c (n + 1)
  | none =>
    simp only [hs] at hk
    cases hss : scalarsT P kt with
    | none => simp [hss] at hk
    | some ss =>
      simp [hss] at hk
      subst hk
      cases k <;> simp only [keyOk] at hok <;> try cases hok
      rename_i vs
      obtain ⟨xs, rfl, hxs, _⟩ := rel_agg h
      obtain ⟨fs, hu, hf, _, _⟩ := scalarsT_spec hss
      unfold Instr.checkKey
      simp only [Sem.run_bind, run_underlying hu, Result.andThen_ok]
      rw [← Array.forIn_toList]
      have go : ∀ (fl : List Field) (k : Nat) (ss : List SK) (us : List V), fieldsK P k fl = some ss → sksOk ss us = true → RelL G H w (xs.toList.drop k) us →
          (forIn fl PUnit.unit fun f (_ : PUnit) => do
            if f.name ≠ "_" then Instr.checkKey b (n + 1) f.type (← part f.type xs f.offset)
            pure (ForInStep.yield PUnit.unit) : Sem PUnit).run P w = .ok PUnit.unit w := by
        intro fl
        induction fl with
        | nil => intro k ss us _ _ _; simp
        | cons f fl ih =>
          intro k ss us h1 h2 h3
          have hl := (fieldsK_spec h1).1
          cases ss with
          | nil => simp at hl
          | cons s ss =>
            obtain ⟨e1, e2, e3, e4⟩ := (fieldsK_spec h1).2 0 f s rfl rfl
            cases us with
            | nil => simp [sksOk] at h2
            | cons u us =>
              simp only [sksOk, Bool.and_eq_true] at h2
              have h1' : fieldsK P (k + 1) fl = some ss := by
                simp only [fieldsK] at h1
                split at h1
                · rename_i s' ss' e1 e2 e3
                  cases hb : (Nat.beq f.offset k && f.name != "_") <;> simp [hb] at h1
                  rw [e3, h1.2]
                · cases h1
              obtain ⟨p, hp, _⟩ := h3.get (i := 0) rfl
              simp at hp
              have hpart := run_part_one (P := P) (w := w) e4 (cs := xs) (q := f.offset) (a := p) (by rw [e1]; simpa using hp)
              have ih' := ih (k + 1) ss us h1' h2.2 (by have := h3.drop 1; simpa [Nat.add_comm] using this)
              rw [List.forIn_cons]
              simp only [Sem.run_bind, ne_eq, e2, not_false_eq_true, if_true, hpart, Result.andThen_ok, sc e3 p n, Sem.run_pure]
              exact ih'
      have := go fs.toList 0 ss vs hf hok (by simpa using hxs)
      simp at this ⊢
      rw [this]
      rfl
theorem keyIdx_cons {k x : V} {xs : List V} {r : Option Nat} (h : keyIdx k (x :: xs) = some r) :
    (sameKey k x = some true ∧ r = some 0) ∨ (sameKey k x = some false ∧ ∃ r', keyIdx k xs = some r' ∧ r = r'.map (· + 1)) := by
  simp only [keyIdx] at h
  cases hs : sameKey k x with
  | none => simp [hs] at h
  | some b =>
    cases b with
    | true => simp [hs] at h; exact .inl ⟨rfl, h.symm⟩
    | false =>
      simp only [hs] at h
      cases hr : keyIdx k xs with
      | none => simp [hr] at h
      | some r' => cases r' <;> simp [hr] at h <;> subst h <;> exact .inr ⟨rfl, _, rfl, rfl⟩
theorem sameNow_of {s : SK} {d : TypeDesc} (hd : (s = .int ∧ ∃ k, d = .int k) ∨ (s = .bool ∧ d = .bool) ∨ (s = .str ∧ d = .string)) {a b : Value} {x y : V} (ha : Rel G H w a x) (hb : Rel G H w b y) (hx : skOk s x = true) {r : Bool}
    (h : sameKey x y = some r) : Instr.sameNow d a b = some r := by
  rcases hd with ⟨rfl, k, rfl⟩ | ⟨rfl, rfl⟩ | ⟨rfl, rfl⟩
  · cases x <;> simp [skOk] at hx
    cases y <;> simp only [sameKey] at h <;> try cases h
    rw [rel_int ha, rel_int hb]
    exact h
  · cases x <;> simp [skOk] at hx
    cases y <;> simp only [sameKey] at h <;> cases h
    rw [rel_bool ha, rel_bool hb]
    rfl
  · cases x <;> simp [skOk] at hx
    cases y <;> simp only [sameKey] at h <;> cases h
    obtain ⟨p, rfl, rfl⟩ := rel_str ha
    obtain ⟨q, rfl, rfl⟩ := rel_str hb
    simp only [Instr.sameNow]
    rw [beq_toListBytes, toList_data, toList_data]
def entryAt (es : List MapEntry) (i : Nat) : Option Nat → Option (Nat × Value)
  | some j => (es[j]?).map fun e => (i + j, e.val)
  | none => none
theorem entryAt_cons (e : MapEntry) (es : List MapEntry) (i : Nat) (r : Option Nat) : entryAt (e :: es) i (r.map (· + 1)) = entryAt es (i + 1) r := by
  cases r with
  | none => rfl
  | some j =>
    simp only [entryAt, Option.map_some, List.getElem?_cons_succ]
    congr 1
    funext e
    rw [show i + 1 + j = i + (j + 1) by omega]
theorem run_findKey {kt : TypeId} {kk : KeyK} (hk : keyT P kt = some kk) {c : Value} {k : V} (h : Rel G H w c k) (hok : keyOk kk k = true) {es : List MapEntry} {ks : List V} (hr : RelL G H w (es.map (·.key)) ks) {r : Option Nat} (hi : keyIdx k ks = some r) :
    (Instr.findKey kt c es).run P w = .ok (entryAt es 0 r) w := by
  unfold keyT at hk
  cases hs : skT P kt with
  | some s =>
    simp only [hs, Option.some.injEq] at hk
    subst hk
    have hd := skT_eq hs
    obtain ⟨d, hu, hd'⟩ : ∃ d, P.underlying kt = some d ∧ ((s = .int ∧ ∃ k, d = .int k) ∨ (s = .bool ∧ d = .bool) ∨ (s = .str ∧ d = .string)) := by
      rcases hd with ⟨a, k, b⟩ | ⟨a, b⟩ | ⟨a, b⟩
      · exact ⟨_, b, .inl ⟨a, k, rfl⟩⟩
      · exact ⟨_, b, .inr (.inl ⟨a, rfl⟩)⟩
      · exact ⟨_, b, .inr (.inr ⟨a, rfl⟩)⟩
    have go : ∀ (es : List MapEntry) (ks : List V) (r : Option Nat) (i : Nat), RelL G H w (es.map (·.key)) ks → keyIdx k ks = some r →
        Instr.findNow d c es i = some (entryAt es i r) := by
      intro es
      induction es with
      | nil =>
        intro ks r i h1 h2
        cases h1
        simp [keyIdx] at h2
        subst h2
        rfl
      | cons e es ih =>
        intro ks r i h1 h2
        cases h1 with
        | cons _ x _ xs h1 hs1 =>
          rcases keyIdx_cons h2 with ⟨e1, rfl⟩ | ⟨e1, r', e2, rfl⟩
          · simp [Instr.findNow, sameNow_of hd' h h1 hok e1, entryAt]
          · simp only [Instr.findNow, sameNow_of hd' h h1 hok e1]
            rw [ih xs r' (i + 1) hs1 e2, entryAt_cons]
    unfold Instr.findKey
    simp only [Sem.run_bind, run_underlying hu, Result.andThen_ok, go es ks r 0 hr hi, Sem.run_pure]
  | none =>
    simp only [hs] at hk
    cases hss : scalarsT P kt with
    | none => simp [hss] at hk
    | some ss =>
      simp [hss] at hk
      subst hk
      cases k <;> simp only [keyOk] at hok <;> try cases hok
      rename_i vs
      obtain ⟨xs, rfl, hxs, _⟩ := rel_agg h
      obtain ⟨fs, hu, _, _, _⟩ := scalarsT_spec hss
      have go : ∀ (es : List MapEntry) (ks : List V) (r : Option Nat) (i : Nat), RelL G H w (es.map (·.key)) ks → keyIdx (.agg vs) ks = some r →
          (Instr.findAsking kt (.agg xs) es i).run P w = .ok (entryAt es i r) w := by
        intro es
        induction es with
        | nil =>
          intro ks r i h1 h2
          cases h1
          simp [keyIdx] at h2
          subst h2
          rfl
        | cons e es ih =>
          intro ks r i h1 h2
          cases h1 with
          | cons _ x _ xs' h1 hs1 =>
            have ex : ∀ b, sameKey (.agg vs) x = some b → (Op.equal kt (.agg xs) e.key).run P w = .ok b w := by
              intro b hb
              cases x <;> simp only [sameKey] at hb <;> try cases hb
              obtain ⟨ys, hy, hys, _⟩ := rel_agg h1
              have hy : e.key = .agg ys := hy
              rw [hy]
              exact run_eqAgg hss hxs hys hok hb
            rcases keyIdx_cons h2 with ⟨e1, rfl⟩ | ⟨e1, r', e2, rfl⟩
            · simp [Instr.findAsking, ex true e1, entryAt]
            · simp only [Instr.findAsking, Sem.run_bind, ex false e1, Result.andThen_ok, Bool.false_eq_true, if_false]
              rw [ih xs' r' (i + 1) hs1 e2, entryAt_cons]
      unfold Instr.findKey
      simp only [Sem.run_bind, run_underlying hu, Result.andThen_ok]
      cases es with
      | nil =>
        cases hr
        simp [keyIdx] at hi
        subst hi
        simp [Instr.findNow, entryAt]
      | cons e es =>
        have : Instr.findNow (.struct fs) (.agg xs) (e :: es) 0 = none := by simp [Instr.findNow, Instr.sameNow]
        rw [this]
        exact go (e :: es) ks r 0 hr hi
def orZero (z : Value) : Option (Nat × Value) → Value × Bool
  | some (_, v) => (v, true)
  | none => (z, false)
theorem sim_lookup {t kt e : TypeId} {x y : Operand} {ok : Bool} {kk : KeyK} {z : V} (ho : o.op = .lookup t x y ok) (hu : P.underlying t = some (.map kt e)) (hk : keyT P kt = some kk) (hz : zeroT P e = some z) (hH : HeapRel G H w) {vs : List V}
    (hr : RelL G H w ([x, y].map ρ) vs) (he : evLookup kk z ok vs H = some (v, H')) : Gives P (execOp ρ o) G H w v H' := by
  obtain ⟨a, b, rfl, ha, hb⟩ := two_args hr
  obtain ⟨zc, hzr, hzc⟩ := zeroT_spec hz w
  have hzrel := ofConst_rel G H w zc z hzc
  simp only [evLookup] at he
  cases hok : keyOk kk b with
  | false => simp [hok] at he
  | true =>
    simp only [hok, cond_true] at he
    cases hm : mapOf H a with
    | none => simp [hm] at he
    | some p =>
      obtain ⟨ks, us⟩ := p
      simp only [hm] at he
      cases hi : keyIdx b ks with
      | none => simp [hi] at he
      | some r =>
        have both : ∃ es : Array MapEntry, RelL G H w (es.toList.map (·.key)) ks ∧ RelL G H w (es.toList.map (·.val)) us ∧
            ∀ (cv : Value) (bo : Bool), orZero zc (entryAt es.toList 0 r) = (cv, bo) →
              (execOp ρ o).run P w = .ok (.value (if ok then .tuple #[cv, .bool bo] else cv)) w := by
          rcases mapOf_spec hH ha hm with ⟨hx, rfl, rfl⟩ | ⟨m, es, clock, hx, hg, h1, h2⟩
          · refine ⟨#[], .nil, .nil, fun cv bo hc => ?_⟩
            have hfk := run_findKey (P := P) hk hb hok (es := []) .nil hi
            have hck := run_checkKey hk hb hok true 9998
            have hr0 : entryAt [] 0 r = none := by cases r <;> rfl
            have hr1 : entryAt (#[] : Array MapEntry).toList 0 r = none := hr0
            rw [hr1] at hc
            rw [hr0] at hfk
            simp only [orZero, Prod.mk.injEq] at hc
            obtain ⟨rfl, rfl⟩ := hc
            unfold execOp
            simp [ho, Instr.lookup, run_underlying hu, hx, hck, hfk, hzr]
          · refine ⟨es, h1, h2, fun cv bo hc => ?_⟩
            have hfk := run_findKey (P := P) hk hb hok h1 hi
            have hck := run_checkKey hk hb hok es.isEmpty 9998
            unfold execOp
            simp only [ho, Instr.lookup, Sem.run_bind, run_underlying hu, Result.andThen_ok, hx, run_getMap hg, Sem.run_pure, hck, hfk]
            generalize entryAt es.toList 0 r = q at hc
            cases q with
            | none =>
              simp only [orZero, Prod.mk.injEq] at hc
              obtain ⟨rfl, rfl⟩ := hc
              simp [hzr]
            | some q =>
              simp only [orZero, Prod.mk.injEq] at hc
              obtain ⟨rfl, rfl⟩ := hc
              simp
        obtain ⟨es, h1, h2, hrun⟩ := both
        have fin : ∀ (cv : Value) (u : V) (bo : Bool), Rel G H w cv u → (execOp ρ o).run P w = .ok (.value (if ok then .tuple #[cv, .bool bo] else cv)) w → v = (bif ok then .tuple [u, .bool bo] else u) → H' = H → Gives P (execOp ρ o) G H w v H' := by
          intro cv u bo hrel hrun hv hh
          subst hv; subst hh
          refine gives_same hH _ hrun ?_
          cases ok with
          | false => exact hrel
          | true => exact .tuple _ _ (.cons _ _ _ _ hrel (.cons _ _ _ _ (.bool bo) .nil))
        cases r with
        | none =>
          simp only [hi, Option.some.injEq, Prod.mk.injEq] at he
          exact fin zc z false hzrel (hrun zc false rfl) he.1.symm he.2.symm
        | some j =>
          simp only [hi] at he
          cases hj : us[j]? with
          | none => simp [hj] at he
          | some u =>
            simp [hj] at he
            obtain ⟨cv, hcv, hrel⟩ := h2.get hj
            rw [List.getElem?_map] at hcv
            cases hje : es.toList[j]? with
            | none => simp [hje] at hcv
            | some e =>
              simp [hje] at hcv
              subst hcv
              exact fin e.val u true hrel (hrun e.val true (by simp [entryAt, hje, orZero])) he.1.symm he.2.symm
end
end Go.Am
