/- EACH OPERATION, SIMULATED: the third part: addresses, parts, lengths, conversions, interfaces. -/
import Derived.Test.YtgbeonpbgalbnaaGreatDoorAmOps2
namespace Go.Am
set_option autoImplicit false

section
variable {P : Program} {G : Gh} {H H' : Hp} {w : World} {ρ : Operand → Value} {o : Oper} {v : V}

/-- A part of a struct or an array. -/
theorem run_partV {t : TypeId} {n : Nat} {ag : Bool} (hc : cellT P t = some (n, ag)) {cs : Array Value} {vs : List V} (hr : RelL G H w cs.toList vs) (h1 : ∀ x ∈ vs, x.one = true) {off : Nat} {u : V}
    (hu : partV off n ag vs = some u) : ∃ c, (part t cs off).run P w = .ok c w ∧ Rel G H w c u := by
  obtain ⟨hs, ha, hn, h1'⟩ := cellT_spec hc
  unfold part
  rw [Sem.run_bind, run_agg w ha]
  unfold partV at hu
  cases ag with
  | true =>
    simp only [if_true] at hu
    split at hu
    · cases hu
      refine ⟨.agg (cs.extract off (off + n)), by simp [run_size w hs], .agg _ _ ?_ (sub_one h1 _ _)⟩
      have := (hr.drop off).take n
      rw [Array.toList_extract]
      simpa [List.extract_eq_take_drop] using this
    · cases hu
  | false =>
    simp only [Bool.false_eq_true, if_false] at hu
    obtain ⟨c, hc', hr'⟩ := hr.get hu
    exact ⟨c, by have : cs[off]? = some c := by simpa using hc'
                 simp [this], hr'⟩
/-- The address of a part. -/
theorem partV_flat {off n : Nat} {ag : Bool} {vs : List V} (h1 : ∀ x ∈ vs, x.one = true) (hag : ag = false → n = 1) {u : V} (hu : partV off n ag vs = some u) :
    u.flat = (vs.drop off).take n ∧ off + n ≤ vs.length ∧ u.flat.length = n := by
  unfold partV at hu
  cases ag with
  | true =>
    simp only [if_true] at hu
    split at hu
    · rename_i h
      cases hu
      exact ⟨rfl, h, by simp [V.flat]; omega⟩
    · cases hu
  | false =>
    simp only [Bool.false_eq_true, if_false] at hu
    have hn := hag rfl
    subst hn
    have hone := part_one h1 hu
    have hlt : off < vs.length := by
      rcases Nat.lt_or_ge off vs.length with h | h
      · exact h
      · simp [List.getElem?_eq_none h] at hu
    have hf : u.flat = [u] := by cases u <;> first | rfl | simp [V.one] at hone
    refine ⟨?_, by omega, by rw [hf]; rfl⟩
    rw [List.getElem?_eq_getElem hlt] at hu
    cases hu
    rw [hf, List.drop_eq_getElem_cons hlt]
    rfl
theorem partV_tup {off n : Nat} {ag : Bool} {vs us : List V} (h1 : ∀ x ∈ vs, x.one = true) (hu : partV off n ag vs = some (.tuple us)) : False := by
  unfold partV at hu
  cases ag with
  | true => simp only [if_true] at hu; split at hu <;> cases hu
  | false => simp only [Bool.false_eq_true, if_false] at hu; have := part_one h1 hu; cases this
theorem pp_part {b q : Nat} {vs : List V} (h : Rel G H w (.pointer (some ⟨b, q, none⟩)) (.pp (.agg vs))) {off n : Nat} {ag : Bool} (hag : ag = false → n = 1) {u : V} (hu : partV off n ag vs = some u) :
    Rel G H w (.pointer (some ⟨b, q + off, none⟩)) (.pp u) := by
  cases h with
  | pp _ _ c e fr _ hb hu' hs h h1 ht =>
    have h1 : ∀ x ∈ vs, x.one = true := h1
    have hs : q + vs.length ≤ c.size := hs
    have h : RelL G H w ((c.toList.drop q).take vs.length) vs := h
    obtain ⟨e1, e2, e3⟩ := partV_flat h1 hag hu
    refine .pp b (q + off) c e fr u hb hu' ?_ ?_ ?_ (by
      cases u with
      | tuple us => exact (partV_tup h1 hu).elim
      | _ => rfl)
    · rw [e3]; omega
    · rw [e3, e1]
      exact cells_range (s := q) (c := c) (cs := vs) h e2
    · rw [e1]; exact sub_one h1 _ _
theorem run_fieldPlace {f : Field} {n : Nat} {ag : Bool} (hc : cellT P f.type = some (n, ag)) (a : Addr) : (fieldPlace a f).run P w = .ok (a.add f.offset) w := by
  obtain ⟨hs, _, hn, _⟩ := cellT_spec hc
  unfold fieldPlace
  rw [Sem.run_bind, run_size w hs]
  have : ¬ n = 0 := by omega
  simp [this]
theorem sim_faddr {s : TypeId} {x : Operand} {f : Nat} {fs : Array Field} {fd : Field} {n : Nat} {ag : Bool} (ho : o.op = .fieldAddr s x f) (hu : P.underlying s = some (.struct fs)) (hf : fs[f]? = some fd)
    (hc : cellT P fd.type = some (n, ag)) (hH : HeapRel G H w) {vs : List V} (hr : RelL G H w ([x].map ρ) vs) (he : evFaddr fd.offset n ag vs H = some (v, H')) : Gives P (execOp ρ o) G H w v H' := by
  obtain ⟨a, rfl, ha⟩ := one_arg hr
  have hex : ∀ (p : Addr), ρ x = .pointer (some p) → Rel G H w (.pointer (some (p.add fd.offset))) v → H' = H → Gives P (execOp ρ o) G H w v H' := by
    intro p hp hrel hh
    subst hh
    refine gives_same hH _ ?_ hrel
    unfold execOp
    simp [ho, Instr.fieldAt, run_underlying hu, hf, hp, Instr.sureAddr, run_fieldPlace hc]
  cases a <;> simp only [evFaddr] at he <;> try cases he
  case ptr i q =>
    obtain ⟨p, hx, hi, hp⟩ := rel_ptr ha
    refine hex p hx (.ptr _ _ _ hi fun hl => ?_) rfl
    rw [hp hl, add_plain]
    simp [Nat.add_assoc]
  case pp u =>
    cases u <;> simp only at he <;> try cases he
    rename_i us
    cases hp : partV fd.offset n ag us with
    | none => simp [hp] at he
    | some u =>
      simp [hp] at he
      obtain ⟨rfl, rfl⟩ := he
      cases hx : ρ x <;> rw [hx] at ha
      case pointer p =>
        cases p with
        | none => cases ha
        | some p =>
          obtain ⟨b, q, sp⟩ := p
          have : sp = none := by cases ha; rfl
          subst this
          refine hex _ hx ?_ rfl
          rw [add_plain]
          exact pp_part ha (cellT_spec hc).2.2.2 hp
      all_goals cases ha
theorem sim_field {s : TypeId} {x : Operand} {f : Nat} {fs : Array Field} {fd : Field} {n : Nat} {ag : Bool} (ho : o.op = .field s x f) (hu : P.underlying s = some (.struct fs)) (hf : fs[f]? = some fd)
    (hc : cellT P fd.type = some (n, ag)) (hH : HeapRel G H w) {vs : List V} (hr : RelL G H w ([x].map ρ) vs) (he : evField fd.offset n ag vs H = some (v, H')) : Gives P (execOp ρ o) G H w v H' := by
  obtain ⟨a, rfl, ha⟩ := one_arg hr
  cases a <;> simp only [evField] at he <;> try cases he
  rename_i us
  cases hp : partV fd.offset n ag us with
  | none => simp [hp] at he
  | some u =>
    simp [hp] at he
    obtain ⟨rfl, rfl⟩ := he
    obtain ⟨cs, hx, hcs, h1⟩ := rel_agg ha
    obtain ⟨c, hrun, hrel⟩ := run_partV (P := P) hc hcs h1 hp
    refine gives_same hH c ?_ hrel
    unfold execOp
    simp [ho, Instr.field, run_underlying hu, hf, hx, asAgg, hrun]
theorem idxOf_spec {i : Int} {n k : Nat} (h : idxOf i n = some k) : 0 ≤ i ∧ i < n ∧ i.toNat = k := by
  cases i with
  | ofNat j =>
    simp only [idxOf] at h
    cases hb : Nat.blt j n with
    | false => simp [hb] at h
    | true =>
      simp [hb] at h
      subst h
      have := blt_iff.1 hb
      exact ⟨by simp, by simpa using this, by simp⟩
  | negSucc j => simp [idxOf] at h
theorem rel_sl {c : Value} {i q n es : Nat} {kc : Option Nat} {ag : Bool} (h : Rel G H w c (.sl i q n kc es ag)) :
    ∃ a cap, c = .slice (some a) n cap ∧ i < H.n ∧ n ≤ cap ∧ (∀ c, kc = some c → cap = c) ∧ (H.live i → cap ≠ 0 → a = ⟨G.ι i, G.β i + q, none⟩ ∧ G.β i + q + cap * es ≤ G.σ i) := by
  cases h with | sl _ _ _ _ _ _ a cap hi hn hk ha => exact ⟨a, cap, rfl, hi, hn, hk, ha⟩
/-- An element of a slice that stands still. -/
theorem psl_elem {c : Value} {vs : List V} {full : Bool} (h : Rel G H w c (.psl vs full)) {k : Nat} {u : V} (hk : vs[k]? = some u) {es : Nat} (he : u.flat.length = es) :
    ∃ b q cap, c = .slice (some ⟨b, q, none⟩) vs.length cap ∧ Rel G H w (.pointer (some ⟨b, q + k * es, none⟩)) (.pp u) := by
  have hlt : k < vs.length := by
    rcases Nat.lt_or_ge k vs.length with h | h
    · exact h
    · simp [List.getElem?_eq_none h] at hk
  cases h with
  | pslNone => simp at hk
  | pslEmpty => simp at hk
  | psl b q n cap ar e fr _ _ es' hl hn hf hb hu hes hs h h1 ht =>
    have hmem : u ∈ vs := List.mem_of_getElem? hk
    have hee : es' = es := by rw [← hes u hmem, he]
    subst hee
    refine ⟨b, q, cap, by rw [hl], .pp b (q + k * es') ar e fr u hb hu ?_ ?_ (h1 u hmem) (ht u hmem)⟩
    · have : k * es' + es' ≤ n * es' := by rw [← Nat.succ_mul]; exact Nat.mul_le_mul_right _ (by omega)
      rw [he]; omega
    · have hfm : ∀ (l : List V), (∀ v ∈ l, v.flat.length = es') → (l.flatMap V.flat).length = l.length * es' := by
        intro l
        induction l with
        | nil => intro _; simp
        | cons a l ih => intro hl; simp only [List.flatMap_cons, List.length_append, hl a (by simp), ih (fun v hv => hl v (by simp [hv])), List.length_cons]; rw [Nat.succ_mul]; omega
      have hsplit : vs.flatMap V.flat = (vs.take k).flatMap V.flat ++ (u.flat ++ (vs.drop (k + 1)).flatMap V.flat) := by
        have : vs = vs.take k ++ u :: vs.drop (k + 1) := by
          rw [List.getElem?_eq_getElem hlt] at hk
          cases hk
          rw [← List.drop_eq_getElem_cons hlt, List.take_append_drop]
        conv => lhs; rw [this]
        simp
      have hlen := hfm vs hes
      have h0 : ((vs.take k).flatMap V.flat).length = k * es' := by
        rw [hfm _ (fun v hv => hes v (List.mem_of_mem_take hv))]
        simp; rw [Nat.min_eq_left (by omega)]
      have hr : RelL G H w ((ar.toList.drop q).take ((vs.flatMap V.flat).length)) (vs.flatMap V.flat) := by rw [hlen, hl]; exact h
      have hle : k * es' + es' ≤ (vs.flatMap V.flat).length := by
        rw [hlen, ← Nat.succ_mul]; exact Nat.mul_le_mul_right _ (by omega)
      have := cells_range hr hle
      rw [hsplit, List.drop_left' h0, List.take_left' he] at this
      rw [he]
      exact this
theorem run_indexAt {t e : TypeId} {n k : Nat} {i : Int} {es : Nat} {ag : Bool} {kd : IntKind} (hc : cellT P e = some (es, ag)) (a : Addr) (hk : idxOf i n = some k)
    (hu : P.underlying t = some (.slice e)) (cap : Nat) : (Instr.indexAt t (.slice (some a) n cap) (.int kd i)).run P w = .ok (.pointer (some (a.add (k * es)))) w := by
  obtain ⟨h0, h1, h2⟩ := idxOf_spec hk
  unfold Instr.indexAt
  simp [asIntOf, run_underlying hu, h0, h1, run_size w (cellT_spec hc).1, h2]
theorem run_indexAtA {t e : TypeId} {n k : Nat} {i : Int} {es : Nat} {ag : Bool} {kd : IntKind} (hc : cellT P e = some (es, ag)) (a : Addr) (hk : idxOf i n = some k)
    (hu : P.underlying t = some (.array n e)) : (Instr.indexAt t (.pointer (some a)) (.int kd i)).run P w = .ok (.pointer (some (a.add (k * es)))) w := by
  obtain ⟨h0, h1, h2⟩ := idxOf_spec hk
  unfold Instr.indexAt
  simp [asIntOf, run_underlying hu, h0, h1, run_size w (cellT_spec hc).1, h2, Instr.sureAddr]
theorem sim_iaddr {t e : TypeId} {x y : Operand} {es : Nat} {ag : Bool} (ho : o.op = .indexAddr t x y) (hu : P.underlying t = some (.slice e)) (hc : cellT P e = some (es, ag)) (hH : HeapRel G H w) {vs : List V}
    (hr : RelL G H w ([x, y].map ρ) vs) (he : evIaddr es vs H = some (v, H')) : Gives P (execOp ρ o) G H w v H' := by
  obtain ⟨a, b, rfl, ha, hb⟩ := two_args hr
  cases a <;> cases b <;> simp only [evIaddr] at he <;> try cases he
  · rename_i i q n kc es' ag' k j
    cases hq : Nat.beq es' es with
    | false => simp [hq] at he
    | true =>
      have := beq_iff.1 hq
      subst this
      simp only [hq, cond_true] at he
      cases hj : idxOf j n with
      | none => simp [hj] at he
      | some m =>
        simp [hj] at he
        obtain ⟨rfl, rfl⟩ := he
        obtain ⟨p, cap, hx, hi, hn, hk, hp⟩ := rel_sl ha
        have hy := rel_int hb
        obtain ⟨h0, h1, h2⟩ := idxOf_spec hj
        refine gives_same hH (.pointer (some (p.add (m * es')))) ?_ (.ptr _ _ _ hi fun hl => ?_)
        · unfold execOp
          simp [ho, hx, hy, run_indexAt hc p hj hu]
        · rw [(hp hl (by omega)).1, add_plain]
          simp [Nat.add_assoc]
  · rename_i us full k j
    cases hj : idxOf j us.length with
    | none => simp [hj] at he
    | some m =>
      simp only [hj] at he
      cases hm : us[m]? with
      | none => simp [hm] at he
      | some u =>
        simp only [hm] at he
        cases hq : Nat.beq u.flat.length es with
        | false => simp [hq] at he
        | true =>
          simp [hq] at he
          obtain ⟨rfl, rfl⟩ := he
          obtain ⟨p, q, cap, hx, hrel⟩ := psl_elem ha hm (beq_iff.1 hq)
          have hy := rel_int hb
          refine gives_same hH _ ?_ hrel
          unfold execOp
          simp [ho, hx, hy, run_indexAt hc _ hj hu, add_plain]
theorem sim_iaddrA {t e : TypeId} {x y : Operand} {n es : Nat} {ag : Bool} (ho : o.op = .indexAddr t x y) (hu : P.underlying t = some (.array n e)) (hc : cellT P e = some (es, ag)) (hH : HeapRel G H w) {vs : List V}
    (hr : RelL G H w ([x, y].map ρ) vs) (he : evIaddrA n es ag vs H = some (v, H')) : Gives P (execOp ρ o) G H w v H' := by
  obtain ⟨a, b, rfl, ha, hb⟩ := two_args hr
  have hex : ∀ (p : Addr) (kd : IntKind) (j : Int) (m : Nat), ρ x = .pointer (some p) → ρ y = .int kd j → idxOf j n = some m → Rel G H w (.pointer (some (p.add (m * es)))) v → H' = H → Gives P (execOp ρ o) G H w v H' := by
    intro p kd j m hx hy hm hrel hh
    subst hh
    refine gives_same hH _ ?_ hrel
    unfold execOp
    simp [ho, hx, hy, run_indexAtA hc p hm hu]
  cases a <;> cases b <;> simp only [evIaddrA] at he <;> try cases he
  · rename_i i q kd j
    cases hj : idxOf j n with
    | none => simp [hj] at he
    | some m =>
      simp [hj] at he
      obtain ⟨rfl, rfl⟩ := he
      obtain ⟨p, hx, hi, hp⟩ := rel_ptr ha
      refine hex p kd j m hx (rel_int hb) hj (.ptr _ _ _ hi fun hl => ?_) rfl
      rw [hp hl, add_plain]
      simp [Nat.add_assoc]
  · rename_i u kd j
    cases u <;> simp only at he <;> try cases he
    rename_i us
    cases hj : idxOf j n with
    | none => simp [hj] at he
    | some m =>
      simp only [hj] at he
      cases hp : partV (m * es) es ag us with
      | none => simp [hp] at he
      | some u =>
        simp [hp] at he
        obtain ⟨rfl, rfl⟩ := he
        cases hx : ρ x <;> rw [hx] at ha
        case pointer p =>
          cases p with
          | none => cases ha
          | some p =>
            obtain ⟨b', q, sp⟩ := p
            have : sp = none := by cases ha; rfl
            subst this
            refine hex _ kd j m hx (rel_int hb) hj ?_ rfl
            rw [add_plain]
            exact pp_part ha (cellT_spec hc).2.2.2 hp
        all_goals cases ha
theorem sim_idxS {t : TypeId} {x y : Operand} (ho : o.op = .index t x y) (hu : P.underlying t = some .string) (hH : HeapRel G H w) {vs : List V}
    (hr : RelL G H w ([x, y].map ρ) vs) (he : evIdxS vs H = some (v, H')) : Gives P (execOp ρ o) G H w v H' := by
  obtain ⟨a, b, rfl, ha, hb⟩ := two_args hr
  cases a <;> cases b <;> simp only [evIdxS] at he <;> try cases he
  rename_i s kd j
  cases hj : idxOf j s.length with
  | none => simp [hj] at he
  | some m =>
    simp only [hj] at he
    cases hm : s[m]? with
    | none => simp [hm] at he
    | some c =>
      simp [hm] at he
      obtain ⟨rfl, rfl⟩ := he
      obtain ⟨p, hx, rfl⟩ := rel_str ha
      have hy := rel_int hb
      obtain ⟨h0, h1, h2⟩ := idxOf_spec hj
      have hget : p[m]? = some c := by
        have hlt : m < p.size := by
          have : m < p.data.toList.length := by
            rcases Nat.lt_or_ge m p.data.toList.length with h | h
            · exact h
            · rw [List.getElem?_eq_none h] at hm; cases hm
          simpa using this
        rw [getElem?_pos p m hlt]
        rw [List.getElem?_eq_getElem (by simpa using hlt)] at hm
        cases hm
        rfl
      refine gives_same hH (.int .u8 c.toNat) ?_ (.int _ _)
      unfold execOp
      simp [ho, Instr.index, hx, hy, asIntOf, run_underlying hu, h0, h2, hget]
theorem sim_idxA {t e : TypeId} {x y : Operand} {n es : Nat} {ag : Bool} (ho : o.op = .index t x y) (hu : P.underlying t = some (.array n e)) (hc : cellT P e = some (es, ag)) (hH : HeapRel G H w) {vs : List V}
    (hr : RelL G H w ([x, y].map ρ) vs) (he : evIdxA n es ag vs H = some (v, H')) : Gives P (execOp ρ o) G H w v H' := by
  obtain ⟨a, b, rfl, ha, hb⟩ := two_args hr
  cases a <;> cases b <;> simp only [evIdxA] at he <;> try cases he
  rename_i us kd j
  cases hj : idxOf j n with
  | none => simp [hj] at he
  | some m =>
    simp only [hj] at he
    cases hp : partV (m * es) es ag us with
    | none => simp [hp] at he
    | some u =>
      simp [hp] at he
      obtain ⟨rfl, rfl⟩ := he
      obtain ⟨cs, hx, hcs, h1'⟩ := rel_agg ha
      have hy := rel_int hb
      obtain ⟨h0, h1, h2⟩ := idxOf_spec hj
      obtain ⟨c, hrun, hrel⟩ := run_partV (P := P) hc hcs h1' hp
      refine gives_same hH c ?_ hrel
      unfold execOp
      simp [ho, Instr.index, hx, hy, asIntOf, run_underlying hu, h0, h1, h2, run_size w (cellT_spec hc).1, hrun]
theorem sim_extract {x : Operand} {n : Nat} (ho : o.op = .extract x n) (hH : HeapRel G H w) {vs : List V}
    (hr : RelL G H w ([x].map ρ) vs) (he : evExtract n vs H = some (v, H')) : Gives P (execOp ρ o) G H w v H' := by
  obtain ⟨a, rfl, ha⟩ := one_arg hr
  cases a <;> simp only [evExtract] at he <;> try cases he
  rename_i us
  cases hp : us[n]? with
  | none => simp [hp] at he
  | some u =>
    simp [hp] at he
    obtain ⟨rfl, rfl⟩ := he
    obtain ⟨cs, hx, hcs⟩ := rel_tuple ha
    obtain ⟨c, hc, hrel⟩ := hcs.get hp
    refine gives_same hH c ?_ hrel
    unfold execOp
    have : cs[n]? = some c := by simpa using hc
    simp [ho, hx, Instr.extract, this]
theorem sim_mkfn {f : FuncId} {first caps : Array Operand} (ho : o.op = .makeFunc (.func f) first caps) (hH : HeapRel G H w) {vs : List V}
    (hr : RelL G H w ((first.toList ++ caps.toList).map ρ) vs) (he : evMkfn f first.size vs H = some (v, H')) : Gives P (execOp ρ o) G H w v H' := by
  simp only [evMkfn, Option.some.injEq, Prod.mk.injEq] at he
  obtain ⟨rfl, rfl⟩ := he
  refine gives_same hH (.func (.func f) (first.map ρ) (caps.map ρ)) ?_ (.fn _ _ _ _ _ ?_ ?_)
  · unfold execOp
    simp [ho, Instr.makeFunc]
  · have := hr.take first.size
    rw [List.map_append, List.take_append_of_le_length (by simp), List.take_of_length_le (by simp)] at this
    simpa using this
  · have := hr.drop first.size
    rw [List.map_append, List.drop_append_of_le_length (by simp), List.drop_of_length_le (by simp)] at this
    simpa using this
theorem sim_mkiface {t : TypeId} {x : Operand} {d : TypeDesc} (ho : o.op = .makeInterface t x) (hu : P.underlying t = some d) (hd : ∀ m, d ≠ .interface m) (hH : HeapRel G H w) {vs : List V}
    (hr : RelL G H w ([x].map ρ) vs) (he : evMkiface t vs H = some (v, H')) : Gives P (execOp ρ o) G H w v H' := by
  obtain ⟨a, rfl, ha⟩ := one_arg hr
  simp only [evMkiface, Option.some.injEq, Prod.mk.injEq] at he
  obtain ⟨rfl, rfl⟩ := he
  refine gives_same hH (.iface t (ρ x)) ?_ (.iface _ _ _ ha)
  unfold execOp
  cases d <;> first | (exfalso; exact hd _ rfl) | simp [ho, Instr.makeInterface, run_underlying hu]
theorem sim_tassert {x : Operand} {t a : TypeId} {ok : Bool} {d : TypeDesc} {z : V} (ho : o.op = .typeAssert x t a ok) (hu : P.underlying a = some d) (hd : ∀ m, d ≠ .interface m) (hz : zeroT P a = some z)
    (hH : HeapRel G H w) {vs : List V} (hr : RelL G H w ([x].map ρ) vs) (he : evTassert a ok z vs H = some (v, H')) : Gives P (execOp ρ o) G H w v H' := by
  obtain ⟨y, rfl, ha⟩ := one_arg hr
  obtain ⟨c, hzr, hzc⟩ := zeroT_spec hz w
  have hzrel := ofConst_rel G H w c z hzc
  have two : ∀ {p : Value} {q : V} (b : Bool), Rel G H w p q → Rel G H w (.tuple #[p, .bool b]) (.tuple [q, .bool b]) := fun b h => .tuple _ _ (.cons _ _ _ _ h (.cons _ _ _ _ (.bool b) .nil))
  cases y <;> simp only [evTassert] at he <;> try cases he
  · rename_i u y
    cases hx : ρ x <;> rw [hx] at ha <;> cases ha
    rename_i p hp
    cases hq : Nat.beq u a with
    | true =>
      have := beq_iff.1 hq
      subst this
      simp only [hq, cond_true, Option.some.injEq, Prod.mk.injEq] at he
      obtain ⟨rfl, rfl⟩ := he
      refine gives_same hH (if ok then .tuple #[p, .bool true] else p) ?_ (by cases ok <;> first | exact hp | exact two true hp)
      unfold execOp
      cases d <;> first | (exfalso; exact hd _ rfl) | (cases ok <;> simp [ho, Instr.typeAssert, run_underlying hu, hx])
    | false =>
      have hne : ¬ u = a := fun e => by rw [beqT e] at hq; cases hq
      cases ok with
      | false => simp [hq] at he
      | true =>
        simp only [hq, cond_true, cond_false, Option.some.injEq, Prod.mk.injEq] at he
        obtain ⟨rfl, rfl⟩ := he
        refine gives_same hH (.tuple #[c, .bool false]) ?_ (two false hzrel)
        unfold execOp
        cases d <;> first | (exfalso; exact hd _ rfl) | simp [ho, Instr.typeAssert, run_underlying hu, hx, hne, hzr]
  · cases hx : ρ x <;> rw [hx] at ha <;> cases ha
    cases ok with
    | false => simp at he
    | true =>
      simp only [cond_true, Option.some.injEq, Prod.mk.injEq] at he
      obtain ⟨rfl, rfl⟩ := he
      refine gives_same hH (.tuple #[c, .bool false]) ?_ (two false hzrel)
      unfold execOp
      cases d <;> first | (exfalso; exact hd _ rfl) | simp [ho, Instr.typeAssert, run_underlying hu, hx, hzr]

/-! ### builtins that only look -/
theorem builtin_run {c : Call} {b : Builtin} {args : List Operand} (ho : o.op = .call c) (hb : c.callee = .builtin b) (ha : c.args.toList = args) :
    (execOp ρ o).run P w = (Go.builtin b c.argTypes o.type (c.args.map fun | .const _ => true | _ => false) (args.map ρ).toArray).run P w := by
  have hargs : c.args.map ρ = (args.map ρ).toArray := by
    apply Array.ext'
    simp [← ha]
  unfold execOp
  simp only [ho, resolve, hb, Sem.run_bind, Sem.run_pure, Result.andThen_ok, invoke, hargs]
  rfl
theorem lenV_slice {c : Value} {x : V} (h : Rel G H w c x) {n : Nat} (hn : lenV x = some n) : (∃ a cap, c = .slice a n cap) ∨ ∃ s : ByteArray, c = .string s ∧ s.size = n ∧ x = .str s.data.toList := by
  cases h with
  | str s l h => simp [lenV] at hn; right; exact ⟨s, rfl, by rw [← hn, ← h]; simp, by rw [h]⟩
  | nils => simp [lenV] at hn; left; subst hn; exact ⟨_, _, rfl⟩
  | sl => simp [lenV] at hn; left; subst hn; exact ⟨_, _, rfl⟩
  | psl b q n' cap ar e fr vs full es hl => simp [lenV] at hn; left; subst hn; exact ⟨_, _, by rw [hl]⟩
  | pslNone => simp [lenV] at hn; left; subst hn; exact ⟨_, _, rfl⟩
  | pslEmpty => simp [lenV] at hn; left; subst hn; exact ⟨_, _, rfl⟩
  | _ => simp [lenV] at hn
/-- A map and its entries. -/
theorem mapOf_spec (hH : HeapRel G H w) {c : Value} {x : V} (h : Rel G H w c x) {ks vs : List V} (hm : mapOf H x = some (ks, vs)) :
    (c = .map none ∧ ks = [] ∧ vs = []) ∨ ∃ r es clock, c = .map (some r) ∧ w.heap[r]? = some (.map es clock) ∧ RelL G H w (es.toList.map (·.key)) ks ∧ RelL G H w (es.toList.map (·.val)) vs := by
  cases h with
  | nilm => simp [mapOf] at hm; exact .inl ⟨rfl, hm.1, hm.2⟩
  | pmap r es clock ks' vs' hb hu hk hv =>
    simp [mapOf] at hm
    obtain ⟨rfl, rfl⟩ := hm
    exact .inr ⟨r, es, clock, rfl, hb, hk, hv⟩
  | map i r hi hr =>
    simp only [mapOf] at hm
    cases hg : H.get i with
    | none => simp [hg] at hm
    | some ob =>
      cases ob <;> simp [hg] at hm
      obtain ⟨rfl, rfl⟩ := hm
      have hl : H.live i := ⟨_, hg, rfl⟩
      cases hH.obj i _ hg with
      | map _ _ es clock hb hk hv => exact .inr ⟨r, es, clock, rfl, by rw [hr hl]; exact hb, hk, hv⟩
  | _ => simp [mapOf] at hm
theorem run_getMap {r : Nat} {es : Array MapEntry} {clock : Nat} (h : w.heap[r]? = some (.map es clock)) : (getObj r).run P w = .ok (.map es clock) w := by
  simp [getObj, Sem.run, h]
theorem slice_of {c : Value} {x : V} (h : Rel G H w c x) (hs : isSlice x = true) {n : Nat} (hn : lenV x = some n) : ∃ a cap, c = .slice a n cap := by
  rcases lenV_slice h hn with h' | ⟨s, _, _, rfl⟩
  · exact h'
  · cases hs
/-- What a length is asked of. -/
def lenD : LenK → TypeDesc → Prop
  | .str, d => d = .string
  | .slice, d => ∃ e, d = .slice e
  | .map, d => ∃ k e, d = .map k e
theorem sim_len {c : Call} {x : Operand} {t : TypeId} {d : TypeDesc} {k : LenK} (ho : o.op = .call c) (hb : c.callee = .builtin .len) (ha : c.args.toList = [x]) (ht : c.argTypes.toList = [t])
    (hu : P.underlying t = some d) (hd : lenD k d) (hH : HeapRel G H w) {vs : List V}
    (hr : RelL G H w ([x].map ρ) vs) (he : evLen k vs H = some (v, H')) : Gives P (execOp ρ o) G H w v H' := by
  obtain ⟨a, rfl, ha'⟩ := one_arg hr
  have hty : c.argTypes = #[t] := by apply Array.ext'; simp [ht]
  have fin : ∀ n : Nat, (Builtin.len_ #[t] o.type #[ρ x]).run P w = .ok (goInt n) w → v = .int .i64 n → H' = H → Gives P (execOp ρ o) G H w v H' := by
    intro n hrun hv hh
    subst hv; subst hh
    refine gives_same hH (goInt n) ?_ (.int _ _)
    rw [builtin_run ho hb ha, hty]
    simp [Go.builtin, hrun]
  cases k
  · have hd : d = .string := hd
    subst hd
    cases a <;> simp only [evLen] at he <;> try cases he
    obtain ⟨p, hx, rfl⟩ := rel_str ha'
    exact fin p.size (by simp [Builtin.len_, hx, run_underlying hu]) (by simp) rfl
  · obtain ⟨e, rfl⟩ : ∃ e, d = .slice e := hd
    simp only [evLen] at he
    cases hs : isSlice a with
    | false => simp [hs] at he
    | true =>
      cases hl : lenV a with
      | none => simp [hs, hl] at he
      | some n =>
        simp [hs, hl] at he
        obtain ⟨p, cap, hx⟩ := slice_of ha' hs hl
        exact fin n (by simp [Builtin.len_, hx, run_underlying hu]) he.1.symm he.2.symm
  · obtain ⟨k, e, rfl⟩ : ∃ k e, d = .map k e := hd
    simp only [evLen] at he
    cases hm : mapOf H a with
    | none => simp [hm] at he
    | some p =>
      obtain ⟨ks, us⟩ := p
      simp [hm] at he
      rcases mapOf_spec hH ha' hm with ⟨hx, rfl, _⟩ | ⟨r, es, clock, hx, hg, hk, _⟩
      · exact fin 0 (by simp [Builtin.len_, hx, run_underlying hu]) he.1.symm he.2.symm
      · have hl : es.size = ks.length := by have := hk.length; simpa using this
        exact fin ks.length (by simp [Builtin.len_, hx, run_underlying hu, run_getMap hg, hl]) he.1.symm he.2.symm
theorem sim_lenA {c : Call} {x : Operand} {t : TypeId} {n : Nat} (ho : o.op = .call c) (hb : c.callee = .builtin .len) (ha : c.args.toList = [x]) (ht : c.argTypes.toList = [t])
    (hu : ∀ y : Value, (Builtin.len_ #[t] o.type #[y]).run P w = .ok (goInt n) w) (hH : HeapRel G H w) {vs : List V} (he : evLenA n vs H = some (v, H')) : Gives P (execOp ρ o) G H w v H' := by
  have hty : c.argTypes = #[t] := by apply Array.ext'; simp [ht]
  simp only [evLenA, Option.some.injEq, Prod.mk.injEq] at he
  obtain ⟨rfl, rfl⟩ := he
  refine gives_same hH (goInt n) ?_ (.int _ _)
  rw [builtin_run ho hb ha, hty]
  simp [Go.builtin, hu]
theorem sim_cap {c : Call} {x : Operand} {t e : TypeId} (ho : o.op = .call c) (hb : c.callee = .builtin .cap) (ha : c.args.toList = [x]) (ht : c.argTypes.toList = [t])
    (hu : P.underlying t = some (.slice e)) (hH : HeapRel G H w) {vs : List V} (hr : RelL G H w ([x].map ρ) vs) (he : evCap vs H = some (v, H')) : Gives P (execOp ρ o) G H w v H' := by
  obtain ⟨a, rfl, ha'⟩ := one_arg hr
  have hty : c.argTypes = #[t] := by apply Array.ext'; simp [ht]
  cases a <;> simp only [evCap] at he <;> try cases he
  · rename_i i q n kc es ag
    cases kc with
    | none => cases he
    | some k =>
      simp only [Option.some.injEq, Prod.mk.injEq] at he
      obtain ⟨rfl, rfl⟩ := he
      obtain ⟨p, cap, hx, _, _, hk, _⟩ := rel_sl ha'
      refine gives_same hH (goInt k) ?_ (.int _ _)
      rw [builtin_run ho hb ha, hty]
      simp [Go.builtin, Builtin.cap_, hx, run_underlying hu, hk k rfl]
  · cases hx : ρ x <;> rw [hx] at ha' <;> cases ha'
    refine gives_same hH (goInt 0) ?_ (.int _ _)
    rw [builtin_run ho hb ha, hty]
    simp [Go.builtin, Builtin.cap_, hx, run_underlying hu]
end
end Go.Am
