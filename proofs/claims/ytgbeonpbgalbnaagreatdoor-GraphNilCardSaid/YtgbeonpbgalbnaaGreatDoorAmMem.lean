/- READING, WRITING AND MAKING MEMORY: the model's side of the abstract machine's heap. -/
import Derived.Test.YtgbeonpbgalbnaaGreatDoorAmRel
import Derived.Test.YtgbeonpbgalbnaaGreatDoorAmCompile
import Derived.Laws.CopyRow
namespace Go.Am
set_option autoImplicit false

/-! ### what is known of types -/
section
variable {P : Program} {t : TypeId} (w : World)
theorem run_size {n : Nat} (h : sizeT P t = some n) : (sizeOf t).run P w = .ok n w := by
  unfold sizeT at h
  cases hi : P.info? t with
  | none => simp [hi] at h
  | some i => simp [hi] at h; simp [sizeOf, typeInfo, hi, h]
theorem run_bytes {n : Nat} (h : bytesT P t = some n) : ∃ i, P.info? t = some i ∧ i.bytes = n := by
  unfold bytesT at h
  cases hi : P.info? t with
  | none => simp [hi] at h
  | some i => simp [hi] at h; exact ⟨i, rfl, h⟩
theorem run_agg {b : Bool} (h : aggT P t = some b) : (isAgg t).run P w = .ok b w := by
  unfold aggT at h
  cases hu : P.underlying t with
  | none => simp [hu] at h
  | some d => cases d <;> simp [hu] at h <;> subst h <;> simp [isAgg, underlying, hu]
theorem cellT_spec {n : Nat} {ag : Bool} (h : cellT P t = some (n, ag)) : sizeT P t = some n ∧ aggT P t = some ag ∧ 0 < n ∧ (ag = false → n = 1) := by
  unfold cellT at h
  cases hs : sizeT P t with
  | none => simp [hs] at h
  | some m =>
    cases ha : aggT P t with
    | none => simp [hs, ha] at h
    | some g =>
      simp only [hs, ha] at h
      cases hb : (Nat.blt 0 m && (g || Nat.beq m 1)) with
      | false => simp [hb] at h
      | true =>
        simp [hb] at h
        obtain ⟨rfl, rfl⟩ := h
        simp only [Bool.and_eq_true, blt_iff, Bool.or_eq_true, beq_iff] at hb
        refine ⟨rfl, rfl, hb.1, fun e => ?_⟩
        rcases hb.2 with h | h
        · rw [h] at e; cases e
        · exact h
end

/-! ### constants -/
theorem ofConst1_rel (G : Gh) (H : Hp) (w : World) : ∀ (c : Value) (v : V), ofConst1 c = some v → Rel G H w c v ∧ v.one = true := by
  intro c v h
  unfold ofConst1 at h
  split at h
  all_goals first | cases h | skip
  · exact ⟨.bool _, rfl⟩
  · exact ⟨.int _ _, rfl⟩
  · exact ⟨.str _ _ rfl, rfl⟩
  · exact ⟨.nilp, rfl⟩
  · exact ⟨.nils, rfl⟩
  · exact ⟨.nilm, rfl⟩
  · exact ⟨.nilf, rfl⟩
  · exact ⟨.nili, rfl⟩
  · rename_i f a b
    cases hb : (a.isEmpty && b.isEmpty) with
    | false => simp [hb] at h
    | true =>
      simp only [hb, cond_true, Option.some.injEq] at h
      subst h
      simp only [Bool.and_eq_true, Array.isEmpty_iff] at hb
      obtain ⟨rfl, rfl⟩ := hb
      exact ⟨.fn _ _ _ _ _ .nil .nil, rfl⟩
theorem ofConsts_rel (G : Gh) (H : Hp) (w : World) : ∀ (cs : List Value) (vs : List V), ofConsts ofConst1 cs = some vs → RelL G H w cs vs ∧ ∀ v ∈ vs, v.one = true
  | [], vs, h => by simp [ofConsts] at h; subst h; exact ⟨.nil, by simp⟩
  | c :: cs, vs, h => by
    simp only [ofConsts] at h
    cases h1 : ofConst1 c with
    | none => simp [h1] at h
    | some x =>
      cases h2 : ofConsts ofConst1 cs with
      | none => simp [h1, h2] at h
      | some xs =>
        simp [h1, h2] at h
        subst h
        obtain ⟨a, b⟩ := ofConst1_rel G H w c x h1
        obtain ⟨a', b'⟩ := ofConsts_rel G H w cs xs h2
        exact ⟨.cons _ _ _ _ a a', by simp [b]; exact b'⟩
theorem ofConst_rel (G : Gh) (H : Hp) (w : World) (c : Value) (v : V) (h : ofConst c = some v) : Rel G H w c v := by
  unfold ofConst at h
  split at h
  · rename_i cs
    cases h1 : ofConsts ofConst1 cs.toList with
    | none => simp [h1] at h
    | some vs =>
      simp [h1] at h
      subst h
      obtain ⟨a, b⟩ := ofConsts_rel G H w _ _ h1
      exact .agg cs vs a b
  · exact (ofConst1_rel G H w c v h).1
/-- The cells of a value. -/
theorem Rel.flat {G : Gh} {H : Hp} {w : World} {c : Value} {v : V} (h : Rel G H w c v) : RelL G H w (c.cells.toList.take v.flat.length) v.flat := by
  cases h with
  | agg cs vs h h1 =>
    show RelL G H w (cs.toList.take vs.length) vs
    rw [List.take_of_length_le (by rw [h.length]; exact Nat.le_refl _)]
    exact h
  | tuple cs vs h => exact .nil
  | _ => exact .cons _ _ _ _ (by constructor <;> assumption) .nil
theorem Rel.flat_one {G : Gh} {H : Hp} {w : World} {c : Value} {v : V} (h : Rel G H w c v) : ∀ x ∈ v.flat, x.one = true := by
  cases h with
  | agg cs vs h h1 => exact h1
  | tuple cs vs h => intro x hx; cases hx
  | _ => intro x hx; simp [V.flat] at hx; subst hx; rfl
theorem Rel.flat_all {G : Gh} {H : Hp} {w : World} {c : Value} {v : V} (h : Rel G H w c v) (hl : 0 < v.flat.length ∨ ∃ vs, v = .agg vs) :
    c.cells.size = v.flat.length ∧ RelL G H w c.cells.toList v.flat := by
  cases h with
  | agg cs vs h h1 => exact ⟨by have := h.length; simpa [Value.cells, V.flat] using this, h⟩
  | tuple cs vs h =>
    rcases hl with h | ⟨_, h⟩
    · simp [V.flat] at h
    · cases h
  | _ => exact ⟨rfl, .cons _ _ _ _ (by constructor <;> assumption) .nil⟩
theorem Rel.one {G : Gh} {H : Hp} {w : World} {c : Value} {v : V} (h : Rel G H w c v) (h1 : v.one = true) : c.oneCell' = true := by
  cases h <;> first | rfl | cases h1
theorem RelL.ones {G : Gh} {H : Hp} {w : World} : ∀ {cs : List Value} {vs : List V}, RelL G H w cs vs → (∀ v ∈ vs, v.one = true) → ∀ c ∈ cs, c.oneCell' = true
  | _, _, .nil, _ => by simp
  | _, _, .cons _ _ _ _ h hs, h1 => by
    intro c hc
    cases hc with
    | head => exact h.one (h1 _ (by simp))
    | tail _ hc => exact RelL.ones hs (fun v hv => h1 v (by simp [hv])) c hc
theorem zeroT_spec {P : Program} {t : TypeId} {z : V} (h : zeroT P t = some z) (w : World) :
    ∃ c, (zeroValue t).run P w = .ok c w ∧ ofConst c = some z := by
  unfold zeroT at h
  cases hi : P.info? t with
  | none => simp [hi] at h
  | some i =>
    simp only [hi] at h
    cases hz : i.zero with
    | none => simp [hz] at h
    | some c =>
      simp only [hz, Option.bind_some] at h
      exact ⟨c, by simp [zeroValue, typeInfo, hi, hz], h⟩
theorem roomT_spec {P : Program} {t : TypeId} {n : Nat} {ag : Bool} {z : List V} (h : roomT P t = some (n, ag, z)) :
    cellT P t = some (n, ag) ∧ z.length = n ∧ ∀ (w : World), ∃ c, (zeroValue t).run P w = .ok c w ∧ c.cells.size = n ∧
      ∀ (G : Gh) (H : Hp) (w' : World), RelL G H w' c.cells.toList z ∧ ∀ v ∈ z, v.one = true := by
  unfold roomT at h
  cases hc : cellT P t with
  | none => simp [hc] at h
  | some x =>
    obtain ⟨m, g⟩ := x
    cases hz : zeroT P t with
    | none => simp [hc, hz] at h
    | some v =>
      simp only [hc, hz] at h
      cases hb : Nat.beq v.flat.length m with
      | false => simp [hb] at h
      | true =>
        simp [hb] at h
        obtain ⟨rfl, rfl, rfl⟩ := h
        have hl := beq_iff.1 hb
        have hn := (cellT_spec hc).2.2.1
        refine ⟨rfl, hl, fun w => ?_⟩
        obtain ⟨c, hr, ho⟩ := zeroT_spec hz w
        have hrel := fun G H w' => ofConst_rel G H w' c v ho
        have ha := fun G H w' => (hrel G H w').flat_all (.inl (by omega))
        exact ⟨c, hr, by rw [(ha ⟨fun _ => 0, fun _ => 0, fun _ => 0, fun _ => False⟩ Hp.empty w).1, hl], fun G H w' => ⟨(ha G H w').2, (hrel G H w').flat_one⟩⟩

/-! ### cells -/
section
variable {P : Program} {w : World} {b : Nat} {c : Array Value} {e : TypeId} {fr : Nat × Nat}
theorem cell_at (hb : w.heap[b]? = some (.cells c e fr)) (o : Nat) : w.cell? ⟨b, o, none⟩ = c[o]? := by simp [World.cell?, hb]
theorem add_plain (b o n : Nat) : (⟨b, o, none⟩ : Addr).add n = ⟨b, o + n, none⟩ := by unfold Addr.add; split <;> simp_all
theorem run_cells (hb : w.heap[b]? = some (.cells c e fr)) {s n : Nat} (hs : s + n ≤ c.size) :
    (loadCells ⟨b, s, none⟩ n).run P w = .ok ((c.toList.drop s).take n).toArray w := by
  have hl : ((c.toList.drop s).take n).length = n := by simp; omega
  have := run_loadCells_list (P := P) w ⟨b, s, none⟩ ((c.toList.drop s).take n) (fun j v hv => by
    rw [add_plain, cell_at hb]
    rw [List.getElem?_take] at hv
    split at hv
    · rw [List.getElem?_drop] at hv; simpa using hv
    · cases hv)
  rwa [hl] at this
theorem run_cell (hb : w.heap[b]? = some (.cells c e fr)) {s : Nat} {v : Value} (hs : c.toList[s]? = some v) : (load ⟨b, s, none⟩).run P w = .ok v w := by
  rw [run_load, cell_at hb]
  have : c[s]? = some v := by simpa using hs
  rw [this]
theorem setRow_keeps (w : World) (b : Nat) (cs : Array Value) : (w.setRow b cs).tape = w.tape ∧ (w.setRow b cs).os = w.os ∧ (w.setRow b cs).output = w.output ∧ (w.setRow b cs).heap.size = w.heap.size := by
  simp
theorem run_storeRow : ∀ (vs : List Value) (i o : Nat) (c : Array Value) (w : World), w.heap[b]? = some (.cells c e fr) → (∀ k, k < c.size → ¬ (fr.1 ≤ k ∧ k < fr.2)) →
    o + i + vs.length ≤ c.size → (∀ v ∈ vs, v.oneCell' = true) →
    (storeCells ⟨b, o, none⟩ vs i).run P w = .ok () (w.setRow b (c.toList.take (o + i) ++ vs ++ c.toList.drop (o + i + vs.length)).toArray)
  | [], i, o, c, w, hb, _, _, _ => by
    simp only [storeCells, List.append_nil, List.length_nil, Nat.add_zero, List.take_append_drop, Array.toArray_toList]
    rw [setRow_self w b c e fr hb]
    rfl
  | v :: rest, i, o, c, w, hb, hf, hl, h1 => by
    have hi : o + i < c.size := by simp at hl; omega
    have hcell : w.cell? ⟨b, o + i, none⟩ = some c[o + i] := by simp [World.cell?, hb, hi]
    have hfro : w.frozen? ⟨b, o + i, none⟩ = false := by
      have := hf (o + i) hi
      simp only [World.frozen?, hb]
      rcases Nat.lt_or_ge (o + i) fr.1 with h | h
      · simp; intro h'; omega
      · simp; intro _; omega
    have hst : (store ((⟨b, o, none⟩ : Addr).add i) v).run P w = .ok () (w.setRow b (c.setIfInBounds (o + i) v)) := by
      rw [add_plain, run_store P w _ v _ (h1 v (by simp)), hcell]
      simp only [hfro]
      simp [setCell_eq_setRow w b (o + i) c e fr v hb]
    have ih := run_storeRow rest (i + 1) o (c.setIfInBounds (o + i) v) (w.setRow b (c.setIfInBounds (o + i) v)) (setRow_heap w b c _ e _ hb) (by simpa using hf) (by simp at hl ⊢; omega) (fun x hx => h1 x (by simp [hx]))
    simp only [storeCells, Sem.run_bind, hst, Result.andThen_ok, ih, setRow_setRow]
    congr 3
    have q := list_seg_step c.toList (o + i) v rest (by simp at hl ⊢; omega)
    simpa [Array.toList_setIfInBounds, Nat.add_assoc] using q
end

/-! ### the abstract heap's changes -/
section
variable {G : Gh} {H : Hp} {w : World}
theorem own_of_live {i : Nat} (h : H.live i) : own G H (G.ι i) := .inr ⟨i, h, rfl⟩
/-- The world has drawn. -/
theorem Le.drew (G : Gh) (H : Hp) (w : World) : Le G H w G H w.drew := ⟨Nat.le_refl _, fun _ _ h => ⟨h, rfl, rfl, rfl⟩, fun _ _ h => ⟨h, rfl⟩, Nat.le_refl _, rfl, rfl, rfl, rfl, fun _ _ _ => rfl⟩
theorem ObjRel.mono {G' : Gh} {H' : Hp} {w' : World} (L : Le G H w G' H' w') {i : Nat} {o : Obj} (h : ObjRel G H w i o) (hι : G'.ι i = G.ι i) (hβ : G'.β i = G.β i) (hσ : G'.σ i = G.σ i)
    (hb : o.alive = true → w'.heap[G.ι i]? = w.heap[G.ι i]?) : ObjRel G' H' w' i o := by
  cases h with
  | cells es ag cs c e fr hb' hs hl hf h h1 => exact .cells es ag cs c e fr (by rw [hι, hb rfl]; exact hb') (by rw [hσ]; exact hs) (by rw [hβ]; exact hl) hf (by rw [hβ]; exact RelL.mono L h) h1
  | map ks vs es clock hb' hk hv => exact .map ks vs es clock (by rw [hι, hb rfl]; exact hb') (RelL.mono L hk) (RelL.mono L hv)
  | iter s pos sb hb' h0 h => exact .iter s pos sb (by rw [hι, hb rfl]; exact hb') (by rw [hβ]; exact h0) h
  | dead => exact .dead
theorem HeapRel.drew (h : HeapRel G H w) : HeapRel G H w.drew := ⟨h.inj, fun i o ho => (h.obj i o ho).mono (Le.drew G H w) rfl rfl rfl fun _ => rfl, h.nf, h.fb⟩

/-- An object takes another's place in its block. -/
theorem put_le {i : Nat} {o : Obj} (hl : H.live i) (hnf : ¬ G.F (G.ι i)) {w' : World} (hw : ∀ b, b ≠ G.ι i → w'.heap[b]? = w.heap[b]?) (hz : w'.heap.size = w.heap.size)
    (ht : w'.tape = w.tape) (hos : w'.os = w.os) (hout : w'.output = w.output) : Le G H w G (H.put i o) w' := by
  have hlive : ∀ j, (H.put i o).live j → H.live j := fun j ⟨x, hx, ha⟩ => by
    rw [Hp.get_put H i o hl.lt] at hx
    by_cases e : j = i
    · subst e; exact hl
    · rw [if_neg e] at hx; exact ⟨x, hx, ha⟩
  refine ⟨Nat.le_refl _, fun j _ h => ⟨hlive j h, rfl, rfl, rfl⟩, fun b hb hu => ⟨fun h => hu (h.elim .inl fun ⟨j, hj, e⟩ => .inr ⟨j, hlive j hj, e⟩), hw b fun e => hu (.inr ⟨i, hl, e.symm⟩)⟩, Nat.le_of_eq hz.symm, ht, hos, hout, rfl,
    fun b hF _ => hw b fun e => hnf (e ▸ hF)⟩
theorem put_heap (h : HeapRel G H w) {i : Nat} {o : Obj} (hl : H.live i) {w' : World} (hw : ∀ b, b ≠ G.ι i → w'.heap[b]? = w.heap[b]?)
    (L : Le G H w G (H.put i o) w') (hn : ObjRel G (H.put i o) w' i o) : HeapRel G (H.put i o) w' := by
  have hlive : ∀ j, (H.put i o).live j → H.live j := fun j ⟨x, hx, ha⟩ => by
    rw [Hp.get_put H i o hl.lt] at hx
    by_cases e : j = i
    · subst e; exact hl
    · rw [if_neg e] at hx; exact ⟨x, hx, ha⟩
  refine ⟨fun a b ha hb => h.inj a b (hlive a ha) (hlive b hb), fun j x hx => ?_, fun j hj => h.nf j (hlive j hj), fun b hF => Nat.lt_of_lt_of_le (h.fb b hF) L.size⟩
  rw [Hp.get_put H i o hl.lt] at hx
  by_cases e : j = i
  · subst e; rw [if_pos rfl] at hx; cases hx; exact hn
  · rw [if_neg e] at hx
    refine (h.obj j x hx).mono L rfl rfl rfl fun ha => hw _ fun e' => e (h.inj j i ⟨x, hx, ha⟩ hl e')

/-- A new object behind the others. -/
def Gh.more (G : Gh) (i b o s : Nat) : Gh := ⟨fun j => if j = i then b else G.ι j, fun j => if j = i then o else G.β j, fun j => if j = i then s else G.σ j, G.F⟩
theorem push_le {o : Obj} {b p s : Nat} (hb' : b ≥ w.heap.size) {w' : World} (hw : ∀ k, k < w.heap.size → w'.heap[k]? = w.heap[k]?) (hz : w.heap.size ≤ w'.heap.size)
    (ht : w'.tape = w.tape) (hos : w'.os = w.os) (hout : w'.output = w.output) : Le G H w (G.more H.n b p s) (H.push o) w' := by
  refine ⟨Nat.le_succ _, fun i hi hl => ?_, fun k hk hu => ⟨fun h => h.elim (fun h => hu (.inl h)) fun ⟨i, hl, e⟩ => ?_, hw k hk⟩, hz, ht, hos, hout, rfl, fun k _ hk => hw k hk⟩
  · obtain ⟨x, hx, ha⟩ := hl
    rw [Hp.get_push] at hx
    have hne : ¬ i = H.n := by omega
    rw [if_neg hne] at hx
    exact ⟨⟨x, hx, ha⟩, by simp [Gh.more, hne]⟩
  · obtain ⟨x, hx, ha⟩ := hl
    rw [Hp.get_push] at hx
    by_cases hi : i = H.n
    · simp [Gh.more, hi] at e; omega
    · rw [if_neg hi] at hx
      simp [Gh.more, hi] at e
      exact hu (.inr ⟨i, ⟨x, hx, ha⟩, e⟩)
theorem push_heap (h : HeapRel G H w) {o : Obj} {b p s : Nat} (hb : b ≥ w.heap.size) {w' : World} (hw : ∀ k, k < w.heap.size → w'.heap[k]? = w.heap[k]?)
    (L : Le G H w (G.more H.n b p s) (H.push o) w') (hn : ObjRel (G.more H.n b p s) (H.push o) w' H.n o) : HeapRel (G.more H.n b p s) (H.push o) w' := by
  have old : ∀ i, ¬ i = H.n → (H.push o).live i → H.live i := fun i hi ⟨x, hx, ha⟩ => by
    rw [Hp.get_push, if_neg hi] at hx; exact ⟨x, hx, ha⟩
  refine ⟨fun i j hi hj e => ?_, fun i x hx => ?_, fun i hi hF => ?_, fun b hF => Nat.lt_of_lt_of_le (h.fb b hF) L.size⟩
  · by_cases ei : i = H.n <;> by_cases ej : j = H.n
    · rw [ei, ej]
    · have := h.lt (old j ej hj); simp [Gh.more, ei, ej] at e; omega
    · have := h.lt (old i ei hi); simp [Gh.more, ei, ej] at e; omega
    · simp [Gh.more, ei, ej] at e; exact h.inj i j (old i ei hi) (old j ej hj) e
  · rw [Hp.get_push] at hx
    by_cases ei : i = H.n
    · rw [if_pos ei] at hx; cases hx; rw [ei]; exact hn
    · rw [if_neg ei] at hx
      exact (h.obj i x hx).mono L (by simp [Gh.more, ei]) (by simp [Gh.more, ei]) (by simp [Gh.more, ei]) fun ha => hw _ (h.lt ⟨x, hx, ha⟩)
  · by_cases ei : i = H.n
    · simp [Gh.more, ei] at hF; have := h.fb _ hF; omega
    · simp [Gh.more, ei] at hF; exact h.nf i (old i ei hi) hF

/-- The range of cells of an object. -/
theorem take_drop_take {α : Type} (X : List α) (L o n : Nat) (h : o + n ≤ L) : ((X.take L).drop o).take n = (X.drop o).take n := by
  apply List.ext_getElem?
  intro j
  simp only [List.getElem?_take, List.getElem?_drop]
  by_cases hj : j < n
  · simp [hj, show o + j < L by omega]
  · simp [hj]
theorem cells_range {s : Nat} {c : Array Value} {cs : List V} (h : RelL G H w ((c.toList.drop s).take cs.length) cs) {o n : Nat} (hs : o + n ≤ cs.length) :
    RelL G H w ((c.toList.drop (s + o)).take n) ((cs.drop o).take n) := by
  have := (h.drop o).take n
  rwa [take_drop_take _ _ _ _ hs, List.drop_drop] at this
theorem cells_at {s : Nat} {c : Array Value} {cs : List V} (h : RelL G H w ((c.toList.drop s).take cs.length) cs) {o : Nat} {v : V} (hv : cs[o]? = some v) :
    ∃ cv, c.toList[s + o]? = some cv ∧ Rel G H w cv v := by
  obtain ⟨cv, h1, h2⟩ := h.get hv
  refine ⟨cv, ?_, h2⟩
  rw [List.getElem?_take] at h1
  split at h1
  · rwa [List.getElem?_drop] at h1
  · cases h1
end

/-! ### what an operation gives -/
/-- The operation ends, with a value that the abstract machine's stands for, in a later state. -/
def Gives (P : Program) (s : Sem Next) (G : Gh) (H : Hp) (w : World) (v : V) (H' : Hp) : Prop :=
  ∃ G' w' cv, (s.run P w = .ok (.value cv) w' ∨ (s.run P w = .ok .skip w' ∧ cv = undef)) ∧ Le G H w G' H' w' ∧ HeapRel G' H' w' ∧ Rel G' H' w' cv v
theorem gives_same {P : Program} {s : Sem Next} {G : Gh} {H : Hp} {w : World} {v : V} (hH : HeapRel G H w) (cv : Value) (hr : s.run P w = .ok (.value cv) w) (h : Rel G H w cv v) :
    Gives P s G H w v H := ⟨G, w, cv, .inl hr, Le.refl _ _ _, hH, h⟩
end Go.Am
