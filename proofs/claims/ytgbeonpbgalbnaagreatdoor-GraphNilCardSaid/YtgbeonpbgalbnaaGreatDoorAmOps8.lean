/- EACH OPERATION, SIMULATED: the eighth part: maps written, texts gone through, structs and lists made. -/
import Derived.Test.YtgbeonpbgalbnaaGreatDoorAmOps7
namespace Go.Am
set_option autoImplicit false

section
variable {P : Program} {G : Gh} {H H' : Hp} {w : World} {ρ : Operand → Value} {o : Oper} {v : V}

/-! ### maps -/
/-- The world with another object in a block. -/
def setBlock (w : World) (r : Nat) (x : Go.Obj) : World := { w with heap := w.heap.setIfInBounds r x }
theorem run_setMap {r : Nat} {es : Array MapEntry} {clock : Nat} (h : w.heap[r]? = some (.map es clock)) (x : Go.Obj) : (setObj r x).run P w = .ok () (setBlock w r x) := by
  simp [setObj, Sem.run, h, setBlock]
theorem setBlock_other (w : World) (r b : Nat) (x : Go.Obj) (h : b ≠ r) : (setBlock w r x).heap[b]? = w.heap[b]? := by
  simp [setBlock, Ne.symm h]
theorem setBlock_same {r : Nat} {y : Go.Obj} (h : w.heap[r]? = some y) (x : Go.Obj) : (setBlock w r x).heap[r]? = some x := by
  simp [setBlock, lt_of_heap h]
theorem put_obj (hH : HeapRel G H w) {i : Nat} {ob ob' : Obj} (hg : H.get i = some ob) (ha : ob.alive = true) {x : Go.Obj}
    (hn : Le G H w G (H.put i ob') (setBlock w (G.ι i) x) → ObjRel G (H.put i ob') (setBlock w (G.ι i) x) i ob') :
    Le G H w G (H.put i ob') (setBlock w (G.ι i) x) ∧ HeapRel G (H.put i ob') (setBlock w (G.ι i) x) := by
  have hl : H.live i := ⟨ob, hg, ha⟩
  have hw : ∀ b, b ≠ G.ι i → (setBlock w (G.ι i) x).heap[b]? = w.heap[b]? := fun b hne => setBlock_other w _ b x hne
  have L := put_le (o := ob') hl (hH.nf i hl) hw (by simp [setBlock]) rfl rfl rfl
  exact ⟨L, put_heap hH hl hw L (hn L)⟩
theorem sameBits_of {k x : V} {c d : Value} (hc : Rel G H w c k) (hd : Rel G H w d x) (h : sameKey k x = some true) : ∀ n, Instr.sameBits (n + 1) d c = true := by
  have scal : ∀ {k x : V} {c d : Value} (_ : Rel G H w c k) (_ : Rel G H w d x) (_ : sameKey k x = some true) (_ : k.one = true), ∀ n, Instr.sameBits n d c = true := by
    intro k x c d hc hd h h1 n
    cases k <;> cases x <;> simp only [sameKey] at h <;> try cases h
    · split at h
      · rename_i hk
        subst hk
        simp at h
        subst h
        rw [rel_int hc, rel_int hd]
        simp [Instr.sameBits]
      · cases h
    · simp at h
      subst h
      rw [rel_bool hc, rel_bool hd]
      simp [Instr.sameBits]
    · simp at h
      subst h
      obtain ⟨p, rfl, hp⟩ := rel_str hc
      obtain ⟨q, rfl, hq⟩ := rel_str hd
      simp only [Instr.sameBits]
      rw [beq_toListBytes, toList_data, toList_data, hp, hq]
      simp
    · cases h1
  intro n
  by_cases h1 : k.one = true
  · exact scal hc hd h h1 _
  · cases k <;> simp [V.one] at h1
    · cases x <;> simp only [sameKey] at h <;> try cases h
      rename_i as bs
      obtain ⟨xs, rfl, hxs, ho1⟩ := rel_agg hc
      obtain ⟨ys, rfl, hys, _⟩ := rel_agg hd
      have go : ∀ (as bs : List V) (xl yl : List Value), RelL G H w xl as → RelL G H w yl bs → (∀ v ∈ as, v.one = true) → scalarsEq as bs = some true →
          xl.length = yl.length ∧ (yl.zip xl).all (fun (x, y) => Instr.sameBits n x y) = true := by
        intro as
        induction as with
        | nil =>
          intro bs xl yl h1 h2 _ h3
          cases bs with
          | nil => cases h1; cases h2; exact ⟨rfl, rfl⟩
          | cons _ _ => simp [scalarsEq] at h3
        | cons a as ih =>
          intro bs xl yl h1 h2 h3 h4
          cases bs with
          | nil => cases a <;> simp [scalarsEq] at h4
          | cons b bs =>
            obtain ⟨r1, r2, e1, e2, e3⟩ := scalarsEq_cons h4 (h3 a (by simp))
            cases h1 with
            | cons p _ ps _ h1 hs1 =>
              cases h2 with
              | cons q _ qs _ h2 hs2 =>
                have e3 : r1 = true ∧ r2 = true := by simpa using e3.symm
                obtain ⟨rfl, rfl⟩ := e3
                obtain ⟨l1, l2⟩ := ih bs ps qs hs1 hs2 (fun v hv => h3 v (by simp [hv])) e2
                exact ⟨by simp [l1], by simp only [List.zip_cons_cons, List.all_cons, Bool.and_eq_true]; exact ⟨scal h1 h2 e1 (h3 a (by simp)) n, l2⟩⟩
      obtain ⟨l1, l2⟩ := go as bs xs.toList ys.toList hxs hys ho1 h
      simp only [Instr.sameBits, Bool.and_eq_true]
      exact ⟨by simpa using l1.symm, l2⟩
    · cases x <;> simp [sameKey] at h
theorem keyIdx_some {k : V} {xs : List V} {j : Nat} (h : keyIdx k xs = some (some j)) : ∃ x, xs[j]? = some x ∧ sameKey k x = some true := by
  induction xs generalizing j with
  | nil => simp [keyIdx] at h
  | cons x xs ih =>
    rcases keyIdx_cons h with ⟨e1, e2⟩ | ⟨e1, r', e2, e3⟩
    · cases e2; exact ⟨x, rfl, e1⟩
    · cases r' with
      | none => cases e3
      | some i => simp at e3; subst e3; obtain ⟨y, h1, h2⟩ := ih e2; exact ⟨y, by simpa using h1, h2⟩
theorem scalarsEq_eq : ∀ {a b : List V}, scalarsEq a b = some true → a = b := by
  intro a
  induction a with
  | nil => intro b h; cases b <;> simp [scalarsEq] at h; rfl
  | cons x xs ih =>
    intro b h
    cases b with
    | nil => cases x <;> simp [scalarsEq] at h
    | cons y ys =>
      cases x <;> cases y <;> simp only [scalarsEq] at h <;> try cases h
      · split at h
        · rename_i hk
          subst hk
          cases h2 : scalarsEq xs ys with
          | none => simp [h2] at h
          | some r => simp [h2] at h; obtain ⟨rfl, rfl⟩ := h; rw [ih h2]
        · cases h
      · cases h2 : scalarsEq xs ys with
        | none => simp [h2] at h
        | some r => simp [h2] at h; obtain ⟨rfl, rfl⟩ := h; rw [ih h2]
      · cases h2 : scalarsEq xs ys with
        | none => simp [h2] at h
        | some r => simp [h2] at h; obtain ⟨rfl, rfl⟩ := h; rw [ih h2]
theorem sameKey_eq {k x : V} (h : sameKey k x = some true) : k = x := by
  cases k <;> cases x <;> simp only [sameKey] at h <;> try cases h
  · split at h
    · rename_i hk; subst hk; simp at h; rw [h]
    · cases h
  · simp at h; rw [h]
  · simp at h; rw [h]
  · rw [scalarsEq_eq h]
theorem RelL.set {vs : List Value} {xs : List V} (h : RelL G H w vs xs) {j : Nat} {c : Value} {x : V} (hc : Rel G H w c x) : RelL G H w (vs.set j c) (xs.set j x) := by
  induction vs generalizing xs j with
  | nil => cases h; exact .nil
  | cons v vs ih =>
    cases h with
    | cons _ y _ ys h hs =>
      cases j with
      | zero => exact .cons _ _ _ _ hc hs
      | succ j => exact .cons _ _ _ _ h (ih hs)
theorem sim_mapset {t kt e : TypeId} {x y z : Operand} {kk : KeyK} (ho : o.op = .mapUpdate t x y z ∨ o.op = .insert t x y z) (hu : P.underlying t = some (.map kt e)) (hk : keyT P kt = some kk) (hH : HeapRel G H w) {vs : List V}
    (hr : RelL G H w ([x, y, z].map ρ) vs) (he : evMapset kk vs H = some (v, H')) : Gives P (execOp ρ o) G H w v H' := by
  obtain ⟨a, b, d, rfl, ha, hb, hd⟩ := three_args hr
  cases a <;> simp only [evMapset] at he <;> try cases he
  rename_i i
  cases hok : keyOk kk b with
  | false => simp [hok] at he
  | true =>
    simp only [hok, cond_true] at he
    cases hg : H.get i with
    | none => simp [hg] at he
    | some ob =>
      cases ob <;> simp only [hg] at he <;> try cases he
      rename_i ks us
      have hlive : H.live i := ⟨_, hg, rfl⟩
      cases hx : ρ x <;> rw [hx] at ha <;> cases ha
      rename_i r hi hri
      cases hH.obj i _ hg with
      | map _ _ es clock hbk h1 h2 =>
        have hre := hri hlive
        subst hre
        have hck := run_checkKey hk hb hok false 9998
        have ex : ∀ w', (Instr.mapUpdate t (.map (some (G.ι i))) (ρ y) (ρ z)).run P w = .ok () w' → (execOp ρ o).run P w = .ok .skip w' := by
          intro w' hrun
          unfold execOp
          rcases ho with ho | ho <;> simp [ho, hx, hrun]
        cases hj : keyIdx b ks with
        | none => simp [hj] at he
        | some q =>
          have hfk := run_findKey (P := P) hk hb hok h1 hj
          cases q with
          | none =>
            simp only [hj, Option.some.injEq, Prod.mk.injEq] at he
            obtain ⟨rfl, rfl⟩ := he
            obtain ⟨L, hH'⟩ := put_obj (ob' := .map (ks ++ [b]) (us ++ [d])) hH hg rfl (x := .map (es.push { key := ρ y, val := ρ z, born := clock }) (clock + 1)) fun L =>
              .map _ _ _ _ (setBlock_same hbk _) (by simpa using (RelL.mono L h1).append (.cons _ _ _ _ (Rel.mono L hb) .nil)) (by simpa using (RelL.mono L h2).append (.cons _ _ _ _ (Rel.mono L hd) .nil))
            refine ⟨G, _, undef, .inr ⟨ex _ ?_, rfl⟩, L, hH', .tuple _ _ .nil⟩
            simp only [Instr.mapUpdate, Sem.run_bind, run_underlying hu, Result.andThen_ok, run_getMap hbk, hck, hfk, entryAt, run_setMap hbk]
          | some j =>
            simp only [hj, Option.some.injEq, Prod.mk.injEq] at he
            obtain ⟨rfl, rfl⟩ := he
            obtain ⟨k', hk1, hk2⟩ := keyIdx_some hj
            obtain ⟨ck, hck1, hck2⟩ := h1.get hk1
            rw [List.getElem?_map] at hck1
            cases hje : es.toList[j]? with
            | none => simp [hje] at hck1
            | some en =>
              simp [hje] at hck1
              subst hck1
              have hje' : es[j]? = some en := by simpa using hje
              have hbits := sameBits_of hb hck2 hk2 9999
              have hstay : (Instr.keyThatStays en.key (ρ y)).run P w = .ok (ρ y) w := by
                unfold Instr.keyThatStays
                rw [if_pos (show Instr.sameBits 10000 en.key (ρ y) = true from hbits)]
                rfl
              have hkb := sameKey_eq hk2
              obtain ⟨L, hH'⟩ := put_obj (ob' := .map ks (us.set j d)) hH hg rfl (x := .map (es.modify j fun e => { e with key := ρ y, val := ρ z }) clock) fun L => by
                refine .map _ _ _ _ (setBlock_same hbk _) ?_ ?_
                · have e1 : (es.modify j fun e => { e with key := ρ y, val := ρ z }).toList.map (·.key) = (es.toList.map (·.key)).set j (ρ y) := by
                    apply List.ext_getElem?
                    intro m
                    simp only [Array.toList_modify, List.getElem?_map, List.getElem?_set, List.getElem?_modify]
                    by_cases e : j = m
                    · subst e; simp [hje]
                      exact (List.getElem?_eq_some_iff.1 hje).1
                    · simp [e]
                  rw [e1]
                  have e2 : ks = ks.set j b := by
                    apply List.ext_getElem?
                    intro m
                    simp only [List.getElem?_set]
                    by_cases e : j = m
                    · subst e
                      rw [if_pos rfl, if_pos (List.getElem?_eq_some_iff.1 hk1).1, hk1, hkb]
                    · rw [if_neg e]
                  have := (RelL.mono L h1).set (j := j) (Rel.mono L hb)
                  rwa [← e2] at this
                · have e1 : (es.modify j fun e => { e with key := ρ y, val := ρ z }).toList.map (·.val) = (es.toList.map (·.val)).set j (ρ z) := by
                    apply List.ext_getElem?
                    intro m
                    simp only [Array.toList_modify, List.getElem?_map, List.getElem?_set, List.getElem?_modify]
                    by_cases e : j = m
                    · subst e; simp [hje]
                      exact (List.getElem?_eq_some_iff.1 hje).1
                    · simp [e]
                  rw [e1]
                  exact (RelL.mono L h2).set (j := j) (Rel.mono L hd)
              refine ⟨G, _, undef, .inr ⟨ex _ ?_, rfl⟩, L, hH', .tuple _ _ .nil⟩
              simp only [Instr.mapUpdate, Sem.run_bind, run_underlying hu, Result.andThen_ok, run_getMap hbk, hck, hfk, entryAt, hje, Option.map_some, Nat.zero_add, hje', Option.getD_some, hstay, run_setMap hbk]

/-! ### texts, gone through -/
theorem run_getIter {r pos : Nat} {s : ByteArray} (h : w.heap[r]? = some (.stringIter s pos)) : (getObj r).run P w = .ok (.stringIter s pos) w := by
  simp [getObj, Sem.run, h]
theorem sim_range {t : TypeId} {x : Operand} (ho : o.op = .range t x) (hu : P.underlying t = some .string) (hH : HeapRel G H w) {vs : List V} (hr : RelL G H w ([x].map ρ) vs) (he : evRange vs H = some (v, H')) :
    Gives P (execOp ρ o) G H w v H' := by
  obtain ⟨a, rfl, ha⟩ := one_arg hr
  cases a <;> simp only [evRange] at he <;> try cases he
  obtain ⟨p, hx, rfl⟩ := rel_str ha
  obtain ⟨L, hH'⟩ := new_obj hH (.stringIter p 0) (.iter p.data.toList 0) (fun _ => .iter _ _ p (by rw [more_ι]; exact heap_new _ _) (by simp [Gh.more]) rfl)
  refine ⟨_, _, .pointer (some ⟨w.heap.size, 0, none⟩), .inl ?_, L, hH', (ptr_new G H w _ _).any_world⟩
  unfold execOp
  simp only [ho, Instr.range, Sem.run_bind, run_underlying hu, Result.andThen_ok, hx, Sem.run_pure, run_newObj]
  rfl
theorem sim_next {x : Operand} (ho : o.op = .next x true) (hH : HeapRel G H w) {vs : List V} (hr : RelL G H w ([x].map ρ) vs) (he : evNext vs H = some (v, H')) : Gives P (execOp ρ o) G H w v H' := by
  obtain ⟨a, rfl, ha⟩ := one_arg hr
  cases a <;> simp only [evNext] at he <;> try cases he
  rename_i i q
  cases q with
  | succ q => cases he
  | zero =>
    simp only at he
    cases hg : H.get i with
    | none => simp [hg] at he
    | some ob =>
      cases ob <;> simp only [hg] at he <;> try cases he
      rename_i s pos
      have hlive : H.live i := ⟨_, hg, rfl⟩
      obtain ⟨p, hx, hi, hp⟩ := rel_ptr ha
      cases hH.obj i _ hg with
      | iter _ _ sb hb h0 hs =>
        have hpe : p = ⟨G.ι i, 0, none⟩ := by rw [hp hlive, h0]
        subst hpe
        have hlen : s.length = sb.size := by rw [← hs]; simp
        have hsb : (⟨s.toArray⟩ : ByteArray) = sb := by
          rw [← hs]
        have hu : (execOp ρ o).run P w = ((Instr.next (.pointer (some ⟨G.ι i, 0, none⟩)) true o.type).run P w).andThen fun v w => .ok (.value v) w := by
          unfold execOp; simp [ho, hx]
        cases hq : Nat.blt pos s.length with
        | false =>
          simp only [hq, cond_false, Option.some.injEq, Prod.mk.injEq] at he
          obtain ⟨rfl, rfl⟩ := he
          have hn : ¬ pos < sb.size := by rw [← hlen]; intro h; rw [bltT h] at hq; cases hq
          refine gives_same hH (.tuple #[.bool false]) ?_ (.tuple _ _ (.cons _ _ _ _ (.bool _) .nil))
          rw [hu]
          simp [Instr.next, run_getIter hb, hn]
        | true =>
          simp only [hq, cond_true] at he
          have hlt : pos < sb.size := by rw [← hlen]; exact blt_iff.1 hq
          rw [hsb] at he
          obtain ⟨⟨c, wd⟩, hd⟩ : ∃ p, Utf8.decode sb pos = p := ⟨_, rfl⟩
          rw [hd] at he
          simp only [Option.some.injEq, Prod.mk.injEq] at he
          obtain ⟨rfl, rfl⟩ := he
          obtain ⟨L, hH'⟩ := put_obj (ob' := .iter s (pos + wd)) hH hg rfl (x := .stringIter sb (pos + wd)) fun _ => .iter _ _ sb (setBlock_same hb _) h0 hs
          refine ⟨G, _, .tuple #[.bool true, goInt pos, .int .i32 c], .inl ?_, L, hH', .tuple _ _ (.cons _ _ _ _ (.bool _) (.cons _ _ _ _ (.int _ _) (.cons _ _ _ _ (.int _ _) .nil)))⟩
          rw [hu]
          have hset : (setObj (G.ι i) (.stringIter sb (pos + wd))).run P w = .ok () (setBlock w (G.ι i) (.stringIter sb (pos + wd))) := by
            simp [setObj, Sem.run, hb, setBlock]
          simp [Instr.next, run_getIter hb, hlt, hd, hset]

/-! ### structs and lists made -/
/-- Cells laid one behind the other. -/
theorem lay_cells (off : Nat) : ∀ (xs : List Value) (k : Nat) (cs : Array Value), off + k + xs.length ≤ cs.size →
    ((xs.zipIdx k).foldl (fun cs (p : Value × Nat) => cs.setIfInBounds (off + p.2) p.1) cs).toList = cs.toList.take (off + k) ++ xs ++ cs.toList.drop (off + k + xs.length)
  | [], k, cs, _ => by simp
  | x :: xs, k, cs, h => by
    simp only [List.zipIdx_cons, List.foldl_cons]
    rw [lay_cells off xs (k + 1) _ (by simp at h ⊢; omega)]
    have := list_seg_step cs.toList (off + k) x xs (by simp at h ⊢; omega)
    simpa [Array.toList_setIfInBounds, Nat.add_assoc] using this
theorem RelL.splice {cs : List Value} {vs : List V} (h : RelL G H w cs vs) {xs : List Value} {us : List V} (hx : RelL G H w xs us) (off : Nat) :
    RelL G H w (cs.take off ++ xs ++ cs.drop (off + xs.length)) (splice vs off us) := by
  unfold Am.splice
  rw [hx.length]
  exact ((h.take off).append hx).append (h.drop _)
theorem fill_rel {place : Nat → Option (Nat × Nat)} : ∀ (ps : List (Nat × Operand)) (pl : List (Nat × Nat)) (cells : Array Value) (zs us : List V) (out : List V),
    pl.length = ps.length → (∀ (j : Nat) p q, ps[j]? = some p → pl[j]? = some q → place p.1 = some q ∧ 0 < q.2) → RelL G H w cells.toList zs → (∀ v ∈ zs, v.one = true) → RelL G H w (ps.map fun p => ρ p.2) us → fillA zs pl us = some out →
    ∃ cs, Instr.fill place cells (ps.map fun p => (p.1, ρ p.2)) = some cs ∧ cs.size = cells.size ∧ RelL G H w cs.toList out ∧ ∀ v ∈ out, v.one = true
  | [], pl, cells, zs, us, out, hl, _, hz, h1, hu, hf => by
    cases pl with
    | cons _ _ => simp at hl
    | nil =>
      cases hu
      simp only [fillA, Option.some.injEq] at hf
      subst hf
      exact ⟨cells, rfl, rfl, hz, h1⟩
  | p :: ps, pl, cells, zs, us, out, hl, hp, hz, h1, hu, hf => by
    cases pl with
    | nil => simp at hl
    | cons q pl =>
      cases hu with
      | cons _ u _ us hu hus =>
        obtain ⟨off, size⟩ := q
        simp only [fillA] at hf
        cases hq : (Nat.beq u.flat.length size && Nat.ble (off + size) zs.length) with
        | false => simp [hq] at hf
        | true =>
          simp only [hq, cond_true] at hf
          simp only [Bool.and_eq_true, beq_iff, ble_iff] at hq
          obtain ⟨hsz, hfit⟩ := hq
          obtain ⟨hpl, hpos⟩ := hp 0 p (off, size) rfl rfl
          have hpos : 0 < size := hpos
          obtain ⟨h2, h3⟩ := hu.flat_all (.inl (by omega))
          have h2 : (ρ p.2).cells.size = u.flat.length := h2
          have h3 : RelL G H w (ρ p.2).cells.toList u.flat := h3
          have hcz : cells.size = zs.length := by have := hz.length; simpa using this
          have hlay := lay_cells off (ρ p.2).cells.toList 0 cells (by simp; omega)
          simp only [Nat.add_zero] at hlay
          have hfold : ((ρ p.2).cells.zipIdx.foldl (fun cs (c, j) => cs.setIfInBounds (off + j) c) cells).toList = cells.toList.take off ++ (ρ p.2).cells.toList ++ cells.toList.drop (off + (ρ p.2).cells.toList.length) := by
            rw [← hlay, ← Array.foldl_toList, Array.toList_zipIdx]
          have hr := hz.splice h3 off
          rw [← hfold] at hr
          have hone : ∀ v ∈ splice zs off u.flat, v.one = true := fun v hv => by
            rcases splice_mem hv with h | h
            · exact h1 v h
            · exact hu.flat_one v h
          obtain ⟨cs, e1, e2, e3, e4⟩ := fill_rel ps pl _ _ us out (by simpa using hl) (fun j p q a b => hp (j + 1) p q (by simpa using a) (by simpa using b)) hr hone hus hf
          have hsize : ((ρ p.2).cells.zipIdx.foldl (fun cs (c, j) => cs.setIfInBounds (off + j) c) cells).size = cells.size := by
            rw [← Array.length_toList, hfold]
            simp; omega
          refine ⟨cs, ?_, e2.trans hsize, e3, e4⟩
          simp only [List.map_cons, Instr.fill, hpl]
          have hno : ((ρ p.2).cells.size ≠ size || off + (ρ p.2).cells.size > cells.size) = false := by
            simp; exact ⟨by omega, by omega⟩
          rw [hno]
          simpa using e1
theorem placesOf_spec : ∀ {fs : List Field} {pl : List (Nat × Nat)}, placesOf P fs = some pl → ∀ (w : World), (fs.mapM fun f => do pure (f.offset, ← sizeOf f.type) : Sem (List (Nat × Nat))).run P w = .ok pl w ∧ ∀ q ∈ pl, 0 < q.2
  | [], pl, h, w => by simp [placesOf] at h; subst h; exact ⟨rfl, by simp⟩
  | f :: fs, pl, h, w => by
    simp only [placesOf] at h
    split at h
    · rename_i n ag ps hc hp
      simp only [Option.some.injEq] at h
      subst h
      obtain ⟨h1, h2⟩ := placesOf_spec hp w
      refine ⟨?_, fun q hq => ?_⟩
      · rw [List.mapM_cons]
        simp only [Sem.run_bind, run_size w (cellT_spec hc).1, Result.andThen_ok, Sem.run_pure, h1]
      · cases hq with
        | head => exact (cellT_spec hc).2.2.1
        | tail _ hq => exact h2 q hq
    · cases h
theorem partsOf_spec {pl : List (Nat × Nat)} : ∀ {is : List Nat} {l : List (Nat × Nat)}, partsOf pl is = some l → l.length = is.length ∧ ∀ (j : Nat) i q, is[j]? = some i → l[j]? = some q → pl[i]? = some q
  | [], l, h => by simp [partsOf] at h; subst h; simp
  | i :: is, l, h => by
    simp only [partsOf] at h
    split at h
    · rename_i p ps h1 h2
      simp only [Option.some.injEq] at h
      subst h
      obtain ⟨l1, l2⟩ := partsOf_spec h2
      refine ⟨by simp [l1], fun j i' q a b => ?_⟩
      cases j with
      | zero => simp at a b; subst a; subst b; exact h1
      | succ j => exact l2 j i' q (by simpa using a) (by simpa using b)
    · cases h
theorem zero_cells {t : TypeId} {z : V} (hz : zeroT P t = some z) (hne : 0 < z.flat.length) : ∃ c, (∀ w : World, (zeroValue t).run P w = .ok c w) ∧ ∀ (G : Gh) (H : Hp) (w : World), RelL G H w c.cells.toList z.flat ∧ ∀ v ∈ z.flat, v.one = true := by
  obtain ⟨c, hr, ho⟩ := zeroT_spec hz ⟨#[], fun _ _ => 0, 0, default, #[]⟩
  refine ⟨c, fun w => ?_, fun G H w => ?_⟩
  · obtain ⟨c', hr', ho'⟩ := zeroT_spec hz w
    have : c' = c := by
      simp only [zeroValue, typeInfo, Sem.run_bind, run_program, Result.andThen_ok] at hr hr'
      cases hi : P.info? t with
      | none => simp [hi] at hr
      | some i =>
        simp only [hi, Sem.run_pure, Result.andThen_ok] at hr hr'
        cases hzz : i.zero with
        | none => simp [hzz] at hr
        | some c2 => simp [hzz] at hr hr'; rw [← hr, ← hr']
    rw [← this]; exact hr'
  · have hrel := ofConst_rel G H w c z ho
    exact ⟨(hrel.flat_all (.inl hne)).2, hrel.flat_one⟩
theorem sim_build_struct {t : TypeId} {ps : Array (Nat × Operand)} {fs : Array Field} {z : V} {pl l : List (Nat × Nat)} (ho : o.op = .build t ps) (hu : P.underlying t = some (.struct fs)) (hz : zeroT P t = some z)
    (hpl : placesOf P fs.toList = some pl) (hl : partsOf pl (ps.toList.map (·.1)) = some l) (hne : 0 < z.flat.length) (hH : HeapRel G H w) {vs : List V} (hr : RelL G H w ((ps.toList.map (·.2)).map ρ) vs)
    (he : evBuild z.flat l vs H = some (v, H')) : Gives P (execOp ρ o) G H w v H' := by
  cases hf : fillA z.flat l vs with
  | none => simp [evBuild, hf] at he
  | some out =>
    simp [evBuild, hf] at he
    obtain ⟨rfl, rfl⟩ := he
    obtain ⟨c, hzr, hzc⟩ := zero_cells hz hne
    obtain ⟨l1, l2⟩ := partsOf_spec hl
    obtain ⟨hm, hpos⟩ := placesOf_spec hpl w
    obtain ⟨cs, e1, _, e3, e4⟩ := fill_rel (ρ := ρ) (place := (pl.toArray[·]?)) ps.toList l c.cells z.flat vs out (by simpa using l1)
      (fun j p q hp hq => by
        have := l2 j p.1 q (by simp [hp]) hq
        exact ⟨by simpa using this, hpos q (List.mem_of_getElem? this)⟩)
      (hzc G H w).1 (hzc G H w).2 (by rw [List.map_map] at hr; exact hr) hf
    refine gives_same hH (.agg cs) ?_ (.agg _ _ e3 e4)
    have hmap : (fs.mapM fun f => do pure (f.offset, ← sizeOf f.type) : Sem (Array (Nat × Nat))).run P w = .ok pl.toArray w := by
      rw [Array.mapM_eq_mapM_toList]
      simp only [Sem.run_map, hm, Result.andThen_ok]
    have hparts : (ps.map fun (i, x) => (i, ρ x)).toList = ps.toList.map fun p => (p.1, ρ p.2) := by simp
    unfold execOp
    simp only [ho, Instr.build, Sem.run_bind, hzr w, Result.andThen_ok, run_underlying hu, hmap, hparts, e1, Sem.run_pure]
theorem sim_build_array {t e : TypeId} {k : Nat} {ps : Array (Nat × Operand)} {z : V} {n : Nat} {ag : Bool} (ho : o.op = .build t ps) (hu : P.underlying t = some (.array k e)) (hz : zeroT P t = some z)
    (hc : cellT P e = some (n, ag)) (hne : 0 < z.flat.length) (hH : HeapRel G H w) {vs : List V} (hr : RelL G H w ((ps.toList.map (·.2)).map ρ) vs)
    (he : evBuild z.flat (ps.toList.map fun (i, _) => (i * n, n)) vs H = some (v, H')) : Gives P (execOp ρ o) G H w v H' := by
  cases hf : fillA z.flat (ps.toList.map fun (i, _) => (i * n, n)) vs with
  | none => simp [evBuild, hf] at he
  | some out =>
    simp [evBuild, hf] at he
    obtain ⟨rfl, rfl⟩ := he
    obtain ⟨c, hzr, hzc⟩ := zero_cells hz hne
    obtain ⟨cs, e1, _, e3, e4⟩ := fill_rel (ρ := ρ) (place := fun i => some (i * n, n)) ps.toList (ps.toList.map fun (i, _) => (i * n, n)) c.cells z.flat vs out (by simp)
      (fun j p q hp hq => by
        simp only [List.getElem?_map, hp, Option.map_some, Option.some.injEq] at hq
        subst hq
        exact ⟨rfl, (cellT_spec hc).2.2.1⟩)
      (hzc G H w).1 (hzc G H w).2 (by rw [List.map_map] at hr; exact hr) hf
    refine gives_same hH (.agg cs) ?_ (.agg _ _ e3 e4)
    have hparts : (ps.map fun (i, x) => (i, ρ x)).toList = ps.toList.map fun p => (p.1, ρ p.2) := by simp
    unfold execOp
    simp only [ho, Instr.build, Sem.run_bind, hzr w, Result.andThen_ok, run_underlying hu, run_size w (cellT_spec hc).1, hparts, e1, Sem.run_pure]
theorem sim_bslice {t e : TypeId} {len : Nat} {ps : Array (Nat × Operand)} {z : List V} {n : Nat} {ag : Bool} (ho : o.op = .buildSlice t len ps) (hu : P.underlying t = some (.slice e)) (hc : roomT P e = some (n, ag, z))
    (hlen : len * n ≤ 65536) (hH : HeapRel G H w) {vs : List V} (hr : RelL G H w ((ps.toList.map (·.2)).map ρ) vs)
    (he : evBslice n ag (List.replicate len z).flatten (ps.toList.map fun (i, _) => (i * n, n)) vs H = some (v, H')) : Gives P (execOp ρ o) G H w v H' := by
  obtain ⟨i, zc, hi, hz, hsz, hzs, hzl, hzr⟩ := roomT_info hc
  have hn := (cellT_spec (roomT_spec hc).1).2.2.1
  have hs := run_size w (cellT_spec (roomT_spec hc).1).1
  cases hf : fillA (List.replicate len z).flatten (ps.toList.map fun (i, _) => (i * n, n)) vs with
  | none => simp [evBslice, hf] at he
  | some out =>
    simp [evBslice, hf] at he
    obtain ⟨rfl, rfl⟩ := he
    have hmade : RelL G H w (madeCells zc.cells (len * n)).toList (List.replicate len z).flatten := by
      have := made_rel (G := G) (H := H) (w := w) (hzr G H w).1 len
      rwa [hzl] at this
    obtain ⟨cs, e1, e2, e3, e4⟩ := fill_rel (ρ := ρ) (place := fun i => some (i * n, n)) ps.toList (ps.toList.map fun (i, _) => (i * n, n)) (madeCells zc.cells (len * n)) (List.replicate len z).flatten vs out (by simp)
      (fun j p q hp hq => by
        simp only [List.getElem?_map, hp, Option.map_some, Option.some.injEq] at hq
        subst hq
        exact ⟨rfl, hn⟩)
      hmade (ones_replicate (hzr G H w).2 len) (by rw [List.map_map] at hr; exact hr) hf
    have hcs : cs.size = len * n := by rw [e2]; simp [madeCells]
    have hol : out.length = len * n := by have := e3.length; simp at this; omega
    have hdiv : out.length / n = len := by rw [hol]; exact Nat.mul_div_cancel _ hn
    obtain ⟨L, hH'⟩ := new_cells hH e cs n ag out (by omega) (by rw [List.take_of_length_le (by simp; omega)]; exact e3) e4
    rw [hdiv]
    refine ⟨_, _, .slice (some ⟨w.heap.size, 0, none⟩) len len, .inl ?_, L, hH', (sl_new G H w _ _ len len n (some len) ag (Nat.le_refl _) (fun c e => by cases e; rfl) (by omega)).sl_world⟩
    have hparts : (ps.map fun (i, x) => (i, ρ x)).toList = ps.toList.map fun p => (p.1, ρ p.2) := by simp
    have hsmall : ¬ len * n > 2 ^ 24 := by omega
    have hrun : (Instr.buildSlice t len (ps.map fun (i, x) => (i, ρ x))).run P w = .ok (.slice (some ⟨w.heap.size, 0, none⟩) len len) (w.alloc (.cells cs e)) := by
      by_cases h0 : len * n = 0
      · have h0' : len * i.size = 0 := by rw [hsz]; exact h0
        have e1' : Instr.fill (fun j => some (j * i.size, i.size)) #[] (ps.toList.map fun p => (p.1, ρ p.2)) = some cs := by
          rw [hsz]; rw [show madeCells zc.cells (len * n) = #[] by simp [madeCells, h0]] at e1; exact e1
        have hr0 : ∀ f : Nat → Value, (Array.range 0).map f = #[] := fun f => by simp
        simp only [Instr.buildSlice, Sem.run_bind, run_underlying hu, Result.andThen_ok, sizeOf, typeInfo, run_program, hi, Sem.run_pure, hparts]
        rw [if_neg (by rw [h0']; omega), if_pos h0']
        simp only [Sem.run_bind, Sem.run_pure, Result.andThen_ok, h0', hr0, e1', run_newRow]
      · have h0' : ¬ len * i.size = 0 := by rw [hsz]; exact h0
        have hs' : ¬ 2 ^ 24 < len * i.size := by rw [hsz]; omega
        have e1' : Instr.fill (fun j => some (j * i.size, i.size)) ((Array.range (len * i.size)).map (zc.cells[· % zc.cells.size]!)) (ps.toList.map fun p => (p.1, ρ p.2)) = some cs := by
          rw [hsz]; exact e1
        have hs2 : ¬ 16777216 < len * i.size := hs'
        simp only [Instr.buildSlice, Sem.run_bind, run_underlying hu, Result.andThen_ok, sizeOf, typeInfo, run_program, hi, Sem.run_pure, hparts]
        rw [if_neg hs', if_neg h0']
        simp [zeroValue, typeInfo, hi, hz, e1', run_newRow]
    unfold execOp
    simp [ho, hrun]
end
end Go.Am
