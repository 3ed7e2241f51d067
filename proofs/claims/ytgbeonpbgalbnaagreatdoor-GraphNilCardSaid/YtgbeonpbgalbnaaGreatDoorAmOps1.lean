/- EACH OPERATION, SIMULATED: the first part. -/
import Derived.Test.YtgbeonpbgalbnaaGreatDoorAmMem
namespace Go.Am
set_option autoImplicit false

section
variable {P : Program} {G : Gh} {H H' : Hp} {w : World} {ρ : Operand → Value} {o : Oper} {v : V}

theorem rel1 {xs : List Value} {x : V} (h : RelL G H w xs [x]) : ∃ a, xs = [a] ∧ Rel G H w a x := by
  cases h with | cons a _ _ _ h hs => cases hs; exact ⟨a, rfl, h⟩
theorem rel2 {xs : List Value} {x y : V} (h : RelL G H w xs [x, y]) : ∃ a b, xs = [a, b] ∧ Rel G H w a x ∧ Rel G H w b y := by
  cases h with | cons a _ _ _ h hs => obtain ⟨b, rfl, hb⟩ := rel1 hs; exact ⟨a, b, rfl, h, hb⟩
theorem rel3 {xs : List Value} {x y z : V} (h : RelL G H w xs [x, y, z]) : ∃ a b c, xs = [a, b, c] ∧ Rel G H w a x ∧ Rel G H w b y ∧ Rel G H w c z := by
  cases h with | cons a _ _ _ h hs => obtain ⟨b, c, rfl, hb, hc⟩ := rel2 hs; exact ⟨a, b, c, rfl, h, hb, hc⟩
/-- The operands' values, one by one. -/
theorem one_arg {x : Operand} {vs : List V} (h : RelL G H w ([x].map ρ) vs) : ∃ a, vs = [a] ∧ Rel G H w (ρ x) a := by
  cases h with | cons _ a _ _ h hs => cases hs; exact ⟨a, rfl, h⟩
theorem two_args {x y : Operand} {vs : List V} (h : RelL G H w ([x, y].map ρ) vs) : ∃ a b, vs = [a, b] ∧ Rel G H w (ρ x) a ∧ Rel G H w (ρ y) b := by
  cases h with | cons _ a _ _ h hs => obtain ⟨b, rfl, hb⟩ := one_arg (x := y) hs; exact ⟨a, b, rfl, h, hb⟩
theorem three_args {x y z : Operand} {vs : List V} (h : RelL G H w ([x, y, z].map ρ) vs) :
    ∃ a b c, vs = [a, b, c] ∧ Rel G H w (ρ x) a ∧ Rel G H w (ρ y) b ∧ Rel G H w (ρ z) c := by
  cases h with | cons _ a _ _ h hs => obtain ⟨b, c, rfl, hb, hc⟩ := two_args (x := y) (y := z) hs; exact ⟨a, b, c, rfl, h, hb, hc⟩

theorem sim_mov {x : Operand} (ho : o.op = .move x ∨ o.op = .assign x) (hH : HeapRel G H w) {vs : List V} (hr : RelL G H w ([x].map ρ) vs) (he : evMov vs H = some (v, H')) :
    Gives P (execOp ρ o) G H w v H' := by
  obtain ⟨a, rfl, ha⟩ := one_arg hr
  simp only [evMov, Option.some.injEq, Prod.mk.injEq] at he
  obtain ⟨rfl, rfl⟩ := he
  refine gives_same hH (ρ x) ?_ ha
  unfold execOp
  rcases ho with ho | ho <;> simp [ho]
theorem sim_pick {c x y : Operand} (ho : o.op = .pick c x y) (hH : HeapRel G H w) {vs : List V} (hr : RelL G H w ([c, x, y].map ρ) vs) (he : evPick vs H = some (v, H')) :
    Gives P (execOp ρ o) G H w v H' := by
  obtain ⟨a, b, d, rfl, ha, hb, hd⟩ := three_args hr
  cases a <;> simp [evPick] at he
  rename_i t
  obtain ⟨rfl, rfl⟩ := he
  have hc : ρ c = .bool t := by cases hz : ρ c <;> rw [hz] at ha <;> cases ha; rfl
  refine gives_same hH (if t then ρ x else ρ y) ?_ ?_
  · unfold execOp; simp [ho, hc, asBool]
  · cases t
    · exact hd
    · exact hb

/-! ### making memory -/
theorem heap_alloc (w : World) (x : Go.Obj) : (w.alloc x).heap = w.heap.push x := rfl
theorem heap_new (w : World) (x : Go.Obj) : (w.alloc x).heap[w.heap.size]? = some x := by rw [heap_alloc]; simp
theorem more_ι (G : Gh) (i b p s : Nat) : (G.more i b p s).ι i = b := by simp [Gh.more]
theorem new_cells (hH : HeapRel G H w) (e : TypeId) (c : Array Value) (es : Nat) (ag : Bool) (cs : List V) (hl : cs.length ≤ c.size)
    (h : RelL G H w (c.toList.take cs.length) cs) (h1 : ∀ x ∈ cs, x.one = true) :
    Le G H w (G.more H.n w.heap.size 0 c.size) (H.push (.cells es ag cs)) (w.alloc (.cells c e)) ∧
    HeapRel (G.more H.n w.heap.size 0 c.size) (H.push (.cells es ag cs)) (w.alloc (.cells c e)) := by
  have hw : ∀ k, k < w.heap.size → (w.alloc (.cells c e)).heap[k]? = w.heap[k]? := fun k hk => by
    simp only [World.alloc, Array.getElem?_push]
    rw [if_neg (by omega)]
  have L : Le G H w (G.more H.n w.heap.size 0 c.size) (H.push (.cells es ag cs)) (w.alloc (.cells c e)) :=
    push_le (Nat.le_refl _) hw (by simp) rfl rfl rfl
  refine ⟨L, push_heap hH (Nat.le_refl _) hw L (.cells es ag cs c e (0, 0) ?_ ?_ ?_ ?_ ?_ h1)⟩
  · rw [more_ι]; exact heap_new _ _
  · simp [Gh.more]
  · simpa [Gh.more] using hl
  · intro k _ hk; omega
  · simpa [Gh.more] using RelL.mono L h
theorem new_obj (hH : HeapRel G H w) (x : Go.Obj) (ob : Obj) (hn : Le G H w (G.more H.n w.heap.size 0 0) (H.push ob) (w.alloc x) → ObjRel (G.more H.n w.heap.size 0 0) (H.push ob) (w.alloc x) H.n ob) :
    Le G H w (G.more H.n w.heap.size 0 0) (H.push ob) (w.alloc x) ∧ HeapRel (G.more H.n w.heap.size 0 0) (H.push ob) (w.alloc x) := by
  have hw : ∀ k, k < w.heap.size → (w.alloc x).heap[k]? = w.heap[k]? := fun k hk => by
    simp only [World.alloc, Array.getElem?_push]
    rw [if_neg (by omega)]
  have L : Le G H w (G.more H.n w.heap.size 0 0) (H.push ob) (w.alloc x) := push_le (Nat.le_refl _) hw (by simp) rfl rfl rfl
  exact ⟨L, push_heap hH (Nat.le_refl _) hw L (hn L)⟩
theorem live_push (H : Hp) (o : Obj) (h : o.alive = true) : (H.push o).live H.n := ⟨o, by rw [Hp.get_push]; simp, h⟩
theorem run_newRow (e : TypeId) (c : Array Value) : (newRow e c).run P w = .ok ⟨w.heap.size, 0, none⟩ (w.alloc (.cells c e)) := by
  unfold newRow
  rw [Sem.run_bind, run_newObj]; rfl
theorem ptr_new (G : Gh) (H : Hp) (w : World) (ob : Obj) (s : Nat) :
    Rel (G.more H.n w.heap.size 0 s) (H.push ob) w (.pointer (some ⟨w.heap.size, 0, none⟩)) (.ptr H.n 0) :=
  .ptr _ _ _ (Nat.lt_succ_self _) fun _ => by simp [Gh.more]
theorem Rel.any_world {w' : World} {i q : Nat} {a : Addr} (h : Rel G H w (.pointer (some a)) (.ptr i q)) : Rel G H w' (.pointer (some a)) (.ptr i q) := by
  cases h with | ptr _ _ _ hi ha => exact .ptr _ _ _ hi ha

theorem sim_alloc {e : TypeId} {n : Nat} {ag : Bool} {z : List V} (ho : o.op = .alloc e) (hc : roomT P e = some (n, ag, z)) (hH : HeapRel G H w) {vs : List V}
    (he : evAlloc n ag z vs H = some (v, H')) : Gives P (execOp ρ o) G H w v H' := by
  obtain ⟨_, hz, hs⟩ := roomT_spec hc
  obtain ⟨c, hr, hcs, hrel⟩ := hs w
  cases vs <;> simp [evAlloc] at he
  obtain ⟨rfl, rfl⟩ := he
  obtain ⟨L, hH'⟩ := new_cells hH e c.cells n ag z (by rw [hcs, hz]; exact Nat.le_refl _)
    (by rw [List.take_of_length_le (by simp [hcs, hz])]; exact (hrel G H w).1) (hrel G H w).2
  refine ⟨_, _, .pointer (some ⟨w.heap.size, 0, none⟩), .inl ?_, L, hH', (ptr_new G H w _ _).any_world⟩
  unfold execOp
  simp [ho, Instr.alloc, hr, newVar, run_newRow]
theorem flat_le {c : Value} (h : Rel G H w c v) : v.flat.length ≤ c.cells.size := by
  cases h with
  | agg cs vs h h1 => have := h.length; simp [V.flat, Value.cells] at *; omega
  | tuple cs vs h => simp [V.flat]
  | _ => simp [V.flat, Value.cells]
theorem sim_box {e : TypeId} {x : Operand} {n : Nat} {ag : Bool} (ho : o.op = .box e x) (hH : HeapRel G H w) {vs : List V} (hr : RelL G H w ([x].map ρ) vs)
    (he : evBox n ag vs H = some (v, H')) : Gives P (execOp ρ o) G H w v H' := by
  obtain ⟨a, rfl, ha⟩ := one_arg hr
  simp [evBox] at he
  obtain ⟨rfl, rfl⟩ := he
  obtain ⟨L, hH'⟩ := new_cells hH e (ρ x).cells n ag a.flat (flat_le ha) ha.flat ha.flat_one
  refine ⟨_, _, .pointer (some ⟨w.heap.size, 0, none⟩), .inl ?_, L, hH', (ptr_new G H w _ _).any_world⟩
  unfold execOp
  simp [ho, Instr.box, newVar, run_newRow]
theorem sim_mkmap {t : TypeId} (ho : o.op = .makeMap t none) (hH : HeapRel G H w) {vs : List V} (he : evMkmap vs H = some (v, H')) : Gives P (execOp ρ o) G H w v H' := by
  simp [evMkmap] at he
  obtain ⟨rfl, rfl⟩ := he
  obtain ⟨L, hH'⟩ := new_obj hH (.map #[] 0) (.map [] []) (fun _ => .map [] [] #[] 0 (by rw [more_ι]; exact heap_new _ _) .nil .nil)
  refine ⟨_, _, .map (some w.heap.size), .inl ?_, L, hH', .map _ _ (Nat.lt_succ_self _) fun _ => by simp [Gh.more]⟩
  unfold execOp
  simp only [ho, Instr.makeMap, Sem.run_bind, Sem.run_pure]
  rfl

/-! ### reading and writing memory -/
theorem part_one {cs : List V} (h1 : ∀ x ∈ cs, x.one = true) {off : Nat} {x : V} (hx : cs[off]? = some x) : x.one = true := h1 x (List.mem_of_getElem? hx)
theorem sub_one {cs : List V} (h1 : ∀ x ∈ cs, x.one = true) (off n : Nat) : ∀ x ∈ (cs.drop off).take n, x.one = true :=
  fun x hx => h1 x (List.mem_of_mem_drop (List.mem_of_mem_take hx))
theorem run_loadVar {t : TypeId} {n : Nat} {ag : Bool} (hc : cellT P t = some (n, ag)) (a : Addr) :
    (loadVar t a).run P w = if ag then (loadCells a n).run P w |>.andThen (fun cs w => .ok (.agg cs) w) else (load a).run P w := by
  obtain ⟨hs, ha, _, _⟩ := cellT_spec hc
  unfold loadVar
  rw [Sem.run_bind, run_agg w ha]
  cases ag <;> simp [run_size _ hs]
theorem load_spec {t : TypeId} {x : Operand} {n : Nat} {ag : Bool} (hc : cellT P t = some (n, ag)) (hH : HeapRel G H w) {a : V} (ha : Rel G H w (ρ x) a) (he : evLoad ag n [a] H = some (v, H')) {C : Prop}
    (hex : ∀ (p : Addr) (cv : Value), ρ x = .pointer (some p) → (loadVar t p).run P w = .ok cv w → Rel G H w cv v → H' = H → C) : C := by
  have hn := (cellT_spec hc).2.2
  cases a <;> simp only [evLoad] at he <;> try cases he
  case ptr i q =>
    cases hx : ρ x <;> rw [hx] at ha <;> cases ha
    rename_i p hi hp
    cases hg : H.get i with
    | none => simp [hg] at he
    | some ob =>
      cases ob <;> simp [hg] at he
      rename_i es ag' cs
      obtain ⟨u, hu, rfl, rfl⟩ := he
      have hlive : H.live i := ⟨_, hg, rfl⟩
      rw [hp hlive] at hx
      cases hH.obj i _ hg with
      | cells _ _ _ c e fr hb hs hl hf h h1 =>
        unfold partV at hu
        cases ag with
        | true =>
          simp only [if_true] at hu
          split at hu
          · rename_i hle
            cases hu
            refine hex _ _ hx (by rw [run_loadVar hc, if_pos rfl, run_cells hb (by omega)]; rfl) (.agg _ _ ?_ (sub_one h1 _ _)) rfl
            simpa [Nat.add_assoc] using cells_range h hle
          · cases hu
        | false =>
          simp only [Bool.false_eq_true, if_false] at hu
          obtain ⟨cv, h2, h3⟩ := cells_at h hu
          refine hex _ _ hx (by rw [run_loadVar hc, if_neg (by simp), run_cell hb h2]) h3 rfl
  case pp u =>
    cases hl : loadPp ag n u with
    | none => simp [hl] at he
    | some u' =>
      simp [hl] at he
      obtain ⟨rfl, rfl⟩ := he
      cases hx : ρ x <;> rw [hx] at ha <;> cases ha
      rename_i b q c e fr hb hu hs h h1 ht
      cases u with
      | agg us =>
        simp only [loadPp] at hl
        cases hq : (ag && Nat.beq us.length n) with
        | false => simp [hq] at hl
        | true =>
          simp [hq] at hl
          subst hl
          simp only [Bool.and_eq_true, beq_iff] at hq
          obtain ⟨rfl, rfl⟩ := hq
          exact hex _ _ hx (by rw [run_loadVar hc, if_pos rfl, run_cells hb (n := us.length) hs]; rfl) (.agg _ _ h h1) rfl
      | tuple us => simp [loadPp] at hl
      | _ =>
        simp only [loadPp] at hl
        cases ag with
        | true => simp at hl
        | false =>
          simp at hl
          subst hl
          simp only [V.flat, List.length_singleton] at h hs
          obtain ⟨cv, h2, h3⟩ := h.get (i := 0) rfl
          simp at h2
          exact hex _ _ hx (by rw [run_loadVar hc, if_neg (by simp), run_cell hb (s := q) (by simpa using h2)]) h3 rfl
theorem sim_load {t : TypeId} {x : Operand} {n : Nat} {ag : Bool} (ho : o.op = .load t x) (hc : cellT P t = some (n, ag)) (hH : HeapRel G H w) {vs : List V}
    (hr : RelL G H w ([x].map ρ) vs) (he : evLoad ag n vs H = some (v, H')) : Gives P (execOp ρ o) G H w v H' := by
  obtain ⟨a, rfl, ha⟩ := one_arg hr
  refine load_spec hc hH ha he fun p cv hp hl hrel hh => ?_
  subst hh
  refine gives_same hH cv ?_ hrel
  unfold execOp
  simp [ho, Instr.loadAt, hp, Instr.sureAddr, hl]
theorem splice_length (cs xs : List V) (q : Nat) (h : q + xs.length ≤ cs.length) : (splice cs q xs).length = cs.length := by
  simp [splice]; omega
theorem splice_mem {cs xs : List V} {q : Nat} {x : V} (h : x ∈ splice cs q xs) : x ∈ cs ∨ x ∈ xs := by
  unfold splice at h
  rcases List.mem_append.1 h with h | h
  · rcases List.mem_append.1 h with h | h
    · exact .inl (List.mem_of_mem_take h)
    · exact .inr h
  · exact .inl (List.mem_of_mem_drop h)
/-- Cells written over an object's: the world and the heap behind it. -/
theorem write_cells (hH : HeapRel G H w) {i es : Nat} {ag : Bool} {cs : List V} (hg : H.get i = some (.cells es ag cs)) {q : Nat} {new : List V} {cnew : List Value}
    (hq : q ≤ cs.length) (hsz : G.β i + q + new.length ≤ G.σ i) (hrel : RelL G H w cnew new) (h1n : ∀ x ∈ new, x.one = true) :
    ∃ w', (storeCells ⟨G.ι i, G.β i + q, none⟩ cnew).run P w = .ok () w' ∧ Le G H w G (H.put i (.cells es ag (splice cs q new))) w' ∧
      HeapRel G (H.put i (.cells es ag (splice cs q new))) w' ∧
      ∃ c e fr, w.heap[G.ι i]? = some (.cells c e fr) ∧ w' = w.setRow (G.ι i) (c.toList.take (G.β i + q) ++ cnew ++ c.toList.drop (G.β i + q + cnew.length)).toArray := by
  have hlive : H.live i := ⟨_, hg, rfl⟩
  cases hH.obj i _ hg with
  | cells _ _ _ c e fr hb hs hl hf h h1 =>
    have hlen := hrel.length
    have hrun := run_storeRow (P := P) cnew 0 (G.β i + q) c w hb hf (by omega) (hrel.ones h1n)
    simp only [Nat.add_zero] at hrun
    refine ⟨_, hrun, ?_⟩
    have hw : ∀ b, b ≠ G.ι i → (w.setRow (G.ι i) (c.toList.take (G.β i + q) ++ cnew ++ c.toList.drop (G.β i + q + cnew.length)).toArray).heap[b]? = w.heap[b]? :=
      fun b hne => setRow_other w _ b _ hne
    have L := put_le (o := .cells es ag (splice cs q new)) hlive (hH.nf i hlive) hw (by simp) (by simp) (by simp) (by simp)
    refine ⟨L, put_heap hH hlive hw L ?_, c, e, fr, hb, rfl⟩
    have hsz' : (c.toList.take (G.β i + q) ++ cnew ++ c.toList.drop (G.β i + q + cnew.length)).length = c.size := by simp; omega
    refine .cells es ag _ _ e fr (setRow_heap w _ c _ e fr hb) (by simpa using hsz'.trans hs) ?_ ?_ ?_ ?_
    · have : (splice cs q new).length ≤ max cs.length (q + new.length) := by simp [splice]; omega
      simp only [List.size_toArray, hsz']; omega
    · intro k hk; exact hf k (by rw [List.size_toArray, hsz'] at hk; exact hk)
    · refine RelL.mono L ?_
      have e1 : (((c.toList.take (G.β i + q) ++ cnew ++ c.toList.drop (G.β i + q + cnew.length)).toArray.toList.drop (G.β i)).take (splice cs q new).length) =
          ((c.toList.drop (G.β i)).take cs.length).take q ++ cnew ++ ((c.toList.drop (G.β i)).take cs.length).drop (q + cnew.length) := by
        apply List.ext_getElem?
        intro j
        have hc1 : c.toList.length = c.size := by simp
        have hsl : (splice cs q new).length = max cs.length (q + new.length) := by simp [splice]; omega
        simp only [List.getElem?_take, List.getElem?_drop, List.getElem?_append, List.length_append, List.length_take, List.length_drop, hsl, hc1]
        have m1 : min (G.β i + q) c.size = G.β i + q := by omega
        have m2 : min q (min cs.length (c.size - G.β i)) = q := by omega
        rw [m1, m2]
        by_cases j1 : j < q
        · have : G.β i + j < G.β i + q := by omega
          simp [j1, this, show G.β i + j < G.β i + q + cnew.length by omega, show j < q + cnew.length by omega, show j < max cs.length (q + new.length) by omega, show j < cs.length by omega]
        · by_cases j2 : j < q + cnew.length
          · have : ¬ G.β i + j < G.β i + q := by omega
            simp [j1, j2, this, show G.β i + j < G.β i + q + cnew.length by omega, show j < max cs.length (q + new.length) by omega, show G.β i + j - (G.β i + q) = j - q by omega]
          · have h3 : ¬ G.β i + j < G.β i + q + cnew.length := by omega
            simp only [j2, h3, if_false]
            by_cases j3 : j < cs.length
            · simp [show j < max cs.length (q + new.length) by omega, show q + cnew.length + (j - (q + cnew.length)) = j by omega, j3,
                show G.β i + q + cnew.length + (G.β i + j - (G.β i + q + cnew.length)) = G.β i + j by omega]
            · simp [show ¬ j < max cs.length (q + new.length) by omega, show ¬ q + cnew.length + (j - (q + cnew.length)) < cs.length by omega]
      rw [e1, hlen]
      unfold splice
      have := (((h.take q).append hrel).append (h.drop (q + new.length)))
      simpa using this
    · intro x hx
      rcases splice_mem hx with h' | h'
      · exact h1 x h'
      · exact h1n x h'
theorem sim_store {t : TypeId} {x y : Operand} {n : Nat} {ag : Bool} (ho : o.op = .store t x y) (hc : cellT P t = some (n, ag)) (hH : HeapRel G H w) {vs : List V}
    (hr : RelL G H w ([x, y].map ρ) vs) (he : evStore n vs H = some (v, H')) : Gives P (execOp ρ o) G H w v H' := by
  obtain ⟨a, b, rfl, ha, hb⟩ := two_args hr
  cases a <;> simp only [evStore] at he <;> try cases he
  rename_i i q
  cases hx : ρ x <;> rw [hx] at ha <;> cases ha
  rename_i p hi hp
  cases hg : H.get i with
  | none => simp [hg] at he
  | some ob =>
    cases ob <;> simp only [hg] at he <;> try cases he
    rename_i es ag' cs
    cases hq : (Nat.beq b.flat.length n && Nat.ble (q + n) cs.length) with
    | false => simp [hq] at he
    | true =>
      simp only [hq, cond_true, Option.some.injEq, Prod.mk.injEq] at he
      obtain ⟨rfl, rfl⟩ := he
      simp only [Bool.and_eq_true, beq_iff, ble_iff] at hq
      have hlive : H.live i := ⟨_, hg, rfl⟩
      obtain ⟨hsz, _, hn0, _⟩ := cellT_spec hc
      obtain ⟨h2, h3⟩ := hb.flat_all (.inl (by omega))
      have hσ : G.β i + cs.length ≤ G.σ i := by cases hH.obj i _ hg with | cells _ _ _ c e fr hb hs hl hf h h1 => omega
      obtain ⟨w', hrun, L, hH', _⟩ := write_cells (P := P) hH hg (q := q) (by omega) (by omega) h3 hb.flat_one
      refine ⟨G, w', undef, .inr ⟨?_, rfl⟩, L, hH', .tuple _ _ .nil⟩
      unfold execOp
      rw [hp hlive] at hx
      have : (ρ y).cells.size = n := by omega
      simp [ho, Instr.storeAt, hx, Instr.sureAddr, storeVar, run_size _ hsz, this, hrun]
end
end Go.Am
