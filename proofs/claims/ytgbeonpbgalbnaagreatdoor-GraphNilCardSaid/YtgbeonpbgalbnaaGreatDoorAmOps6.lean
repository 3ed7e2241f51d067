/- EACH OPERATION, SIMULATED: the sixth part: making, appending, copying, clearing slices. -/
import Derived.Test.YtgbeonpbgalbnaaGreatDoorAmOps5
namespace Go.Am
set_option autoImplicit false

section
variable {P : Program} {G : Gh} {H H' : Hp} {w : World} {ρ : Operand → Value} {o : Oper} {v : V}

theorem wrap_small {n : Nat} (h : n ≤ 2 ^ 40) : IntKind.i64.wrap (n : Int) = n := by rw [IntKind.wrap_i64]; omega
theorem roomT_info {t : TypeId} {n : Nat} {ag : Bool} {z : List V} (h : roomT P t = some (n, ag, z)) :
    ∃ i c, P.info? t = some i ∧ i.zero = some c ∧ i.size = n ∧ c.cells.size = n ∧ z.length = n ∧ ∀ (G : Gh) (H : Hp) (w' : World), RelL G H w' c.cells.toList z ∧ ∀ v ∈ z, v.one = true := by
  obtain ⟨hc, hz, hs⟩ := roomT_spec h
  have hsz := (cellT_spec hc).1
  unfold sizeT at hsz
  cases hi : P.info? t with
  | none => simp [hi] at hsz
  | some i =>
    simp [hi] at hsz
    obtain ⟨c, hr, h1, h2⟩ := hs ⟨#[], fun _ _ => 0, 0, default, #[]⟩
    simp only [zeroValue, typeInfo, Sem.run_bind, run_program, Result.andThen_ok, hi] at hr
    cases hzz : i.zero with
    | none => simp [hzz] at hr
    | some c' =>
      simp [hzz] at hr
      exact ⟨i, c, rfl, by rw [hzz, hr], hsz, h1, hz, h2⟩
theorem sl_new (G : Gh) (H : Hp) (w : World) (ob : Obj) (s n cap es : Nat) (kc : Option Nat) (ag : Bool) (hn : n ≤ cap) (hk : ∀ c, kc = some c → cap = c) (hs : cap * es ≤ s) :
    Rel (G.more H.n w.heap.size 0 s) (H.push ob) w (.slice (some ⟨w.heap.size, 0, none⟩) n cap) (.sl H.n 0 n kc es ag) :=
  .sl _ _ _ _ _ _ _ _ (Nat.lt_succ_self _) hn hk fun _ _ => by simp [Gh.more]; exact hs
theorem Rel.sl_world {w' : World} {a : Addr} {n cap i q es : Nat} {kc : Option Nat} {ag : Bool} (h : Rel G H w (.slice (some a) n cap) (.sl i q n kc es ag)) : Rel G H w' (.slice (some a) n cap) (.sl i q n kc es ag) := by
  cases h with | sl _ _ _ _ _ _ _ _ hi hn hk ha => exact .sl _ _ _ _ _ _ _ _ hi hn hk ha

theorem sim_mkslice {t e : TypeId} {l c : Operand} {n b : Nat} {ag : Bool} {z : List V} (ho : o.op = .makeSlice t l c) (hu : P.underlying t = some (.slice e)) (hc : roomT P e = some (n, ag, z)) (hb : bytesT P e = some b)
    (hH : HeapRel G H w) {vs : List V} (hr : RelL G H w ([l, c].map ρ) vs) (he : evMkslice n ag b z vs H = some (v, H')) : Gives P (execOp ρ o) G H w v H' := by
  obtain ⟨x, y, rfl, hx, hy⟩ := two_args hr
  cases x <;> cases y <;> simp only [evMkslice] at he <;> try cases he
  rename_i kl li kc ci
  cases li <;> cases ci <;> simp only at he <;> try cases he
  rename_i ln cn
  cases hq : (Nat.ble ln cn && Nat.ble (cn * (b + 1)) limit) with
  | false => simp [hq] at he
  | true =>
    simp only [hq, cond_true, Option.some.injEq, Prod.mk.injEq] at he
    obtain ⟨rfl, rfl⟩ := he
    simp only [Bool.and_eq_true, ble_iff] at hq
    obtain ⟨i, zc, hi, hz, hsz, hzs, hzl, hzr⟩ := roomT_info hc
    obtain ⟨i', hi', hby⟩ := run_bytes hb
    rw [hi] at hi'
    cases hi'
    have hlim : cn * (b + 1) ≤ 2 ^ 40 := hq.2
    have hcn : cn ≤ 2 ^ 40 := Nat.le_trans (Nat.le_mul_of_pos_right _ (by omega)) hlim
    have hcb : b * cn ≤ 2 ^ 40 := by rw [Nat.mul_comm]; exact Nat.le_trans (Nat.mul_le_mul_left _ (by omega)) hlim
    have hrun := run_make (P := P) w t e i zc hu hi hz kl kc (Int.ofNat ln) (Int.ofNat cn) (by simp) (by simpa using hq.1) (by rw [hby]; simp; omega) (by simp; omega)
    simp only [Int.ofNat_eq_natCast, Int.toNat_natCast] at hrun
    have hn := (cellT_spec (roomT_spec hc).1).2.2.1
    have hrel : ∀ G H w', RelL G H w' (madeCells zc.cells (cn * n)).toList (List.replicate cn z).flatten := fun G H w' => by
      have := made_rel (G := G) (H := H) (w := w') (hzr G H w').1 cn
      rwa [hzl] at this
    have hlen : (List.replicate cn z).flatten.length = cn * n := by simp [hzl]
    obtain ⟨L, hH'⟩ := new_cells hH e (madeCells zc.cells (cn * n)) n ag (List.replicate cn z).flatten (by rw [hlen]; simp [madeCells])
      (by rw [List.take_of_length_le (by rw [hlen]; simp [madeCells])]; exact hrel _ _ _) (ones_replicate (hzr G H w).2 cn)
    refine ⟨_, _, _, .inl ?_, L, hH', (sl_new G H w _ _ ln cn n (some cn) ag hq.1 (fun c e => by cases e; rfl) (by simp [madeCells])).sl_world⟩
    unfold execOp
    have e1 := rel_int hx
    have e2 := rel_int hy
    simp only [Int.ofNat_eq_natCast] at e1 e2
    rw [hsz] at hrun
    simp [ho, e1, e2, hrun]

/-! ### append -/
/-- What 'append' reads and where it puts it. -/
theorem append_args {c : Call} {x y : Operand} {t1 t2 : TypeId} (ho : o.op = .call c) (hb : c.callee = .builtin .append) (ha : c.args.toList = [x, y]) (ht : c.argTypes.toList = [t1, t2]) :
    (execOp ρ o).run P w = ((Builtin.append_ #[t1, t2] o.type #[ρ x, ρ y]).run P w).andThen fun v w => .ok (.value v) w := by
  have hty : c.argTypes = #[t1, t2] := by apply Array.ext'; simp [ht]
  rw [builtin_run ho hb ha, hty]
  simp [Go.builtin]
/-- The second operand of an append, read: n elements of 'es' cells, in any world that has this one's memory. -/
def Src (P : Program) (w : World) (c : Value) (n es : Nat) (cs : List Value) : Prop :=
  (Builtin.lenOf c).run P w = .ok n w ∧ ∀ w' : World, (∀ b : Nat, w'.heap[b]? = w.heap[b]?) → (Builtin.lenOf c).run P w' = .ok n w' ∧ (Builtin.firstCells es n c).run P w' = .ok cs.toArray w'
theorem src_of (hH : HeapRel G H w) {c : Value} {x : V} (h : Rel G H w c x) {es n : Nat} {new : List V} (hc : cellsOf H es n x = some new) (hn : lenV x = some n) (hes : 0 < es) (hstr : (∃ s, x = .str s) → es = 1) :
    ∃ cs, Src P w c n es cs ∧ RelL G H w cs new ∧ (∀ v ∈ new, v.one = true) ∧ new.length = n * es := by
  obtain ⟨cs, h1, h2, h3⟩ := cellsOf_spec (P := P) hH h hc (fun m hm => by rw [hn] at hm; cases hm; exact Nat.le_refl _)
  rcases h3 with ⟨hl, ⟨a, m, cap, rfl, hm, hrun⟩ | ⟨⟨a, cap, rfl⟩, h0, rfl⟩⟩ | ⟨s, rfl, hs, rfl, hl⟩
  · have hmn : m = n := by
      rcases lenV_slice h hn with ⟨_, _, e⟩ | ⟨_, e, _⟩ <;> cases e
      rfl
    subst hmn
    exact ⟨cs, ⟨by simp [Builtin.lenOf], fun w' hw' => ⟨by simp [Builtin.lenOf], by simp [Builtin.firstCells, hrun w' hw']⟩⟩, h1, h2, hl⟩
  · have hn0 : n = 0 := by
      rcases Nat.eq_zero_or_pos n with e | e
      · exact e
      · have := Nat.mul_pos e hes; omega
    subst hn0
    refine ⟨[], ⟨by simp [Builtin.lenOf], fun w' _ => ⟨by simp [Builtin.lenOf], ?_⟩⟩, h1, h2, hl⟩
    cases a with
    | none => simp [Builtin.firstCells]
    | some a => simp [Builtin.firstCells, loadCells, loadCellsFrom]
  · have hsx : ∃ s, x = .str s := by cases h with | str _ l _ => exact ⟨l, rfl⟩
    have hsn : s.size = n := by
      rcases lenV_slice h hn with ⟨_, _, e⟩ | ⟨s', e, hs', _⟩
      · cases e
      · cases e; exact hs'
    have he1 := hstr hsx
    subst he1
    refine ⟨_, ⟨by simp [Builtin.lenOf, hsn], fun w' _ => ⟨by simp [Builtin.lenOf, hsn], ?_⟩⟩, h1, h2, by omega⟩
    simp [Builtin.firstCells]
    apply Array.ext'
    simp [List.extract_eq_take_drop]
/-- An append that moves to new memory. -/
theorem append_grow {c : Call} {x y : Operand} {t1 t2 e : TypeId} {es b : Nat} {ag : Bool} {z : List V} (ho : o.op = .call c) (hb : c.callee = .builtin .append) (ha : c.args.toList = [x, y]) (ht : c.argTypes.toList = [t1, t2])
    (hu1 : P.underlying t1 = some (.slice e)) (hu2 : (∃ e', P.underlying t2 = some (.slice e')) ∨ P.underlying t2 = some .string) (hc : roomT P e = some (es, ag, z)) (hby : bytesT P e = some b) (hH : HeapRel G H w)
    {base : Option Addr} {m cap n : Nat} (hx : ρ x = .slice base m cap) {olds : List Value} {oldV : List V} (hold : ∀ w' : World, (∀ b : Nat, w'.heap[b]? = w.heap[b]?) → (Builtin.firstCells es m (.slice base m cap)).run P w' = .ok olds.toArray w')
    (hor : RelL G H w olds oldV) (ho1 : ∀ v ∈ oldV, v.one = true) (hol : oldV.length = m * es) {news : List Value} {newV : List V} (hsrc : Src P w (ρ y) n es news) (hnr : RelL G H w news newV) (hn1 : ∀ v ∈ newV, v.one = true)
    (hnl : newV.length = n * es) (hg : cap < m + n) (hlim : (m + n) * (b + 1) ≤ limit) :
    Gives P (execOp ρ o) G H w (.sl H.n 0 (m + n) none es ag) (H.push (.cells es ag (oldV ++ newV))) := by
  obtain ⟨i, zc, hi, hz, hsz, hzs, hzl, hzr⟩ := roomT_info hc
  obtain ⟨i', hi', hby'⟩ := run_bytes hby
  rw [hi] at hi'
  cases hi'
  have hlim' : (m + n) * (b + 1) ≤ 2 ^ 40 := hlim
  have hmn : m + n ≤ 2 ^ 40 := Nat.le_trans (Nat.le_mul_of_pos_right _ (by omega)) hlim'
  have hmb : (m + n) * b ≤ 2 ^ 40 := Nat.le_trans (Nat.mul_le_mul_left _ (by omega)) hlim'
  have hfit : Builtin.nextslicecap (m + n) cap * i.bytes ≤ 281474976710656 := growslice_fits hg (by rw [hby']; omega)
  have hn' : ¬ (m + n ≤ cap) := by omega
  have h63 : ¬ (9223372036854775807 < ((m : Int) + (n : Int))) := by omega
  have h48 : ¬ (281474976710656 < Builtin.nextslicecap (m + n) cap * i.bytes) := by omega
  have hzeros : ∀ d, P.underlying t2 = some d → (d matches .int _) = false := by
    intro d hd
    rcases hu2 with ⟨e', h⟩ | h <;> rw [h] at hd <;> cases hd <;> rfl
  let g := grownCap w (m + n) cap e
  have hrow : (Builtin.append_ #[t1, t2] o.type #[ρ x, ρ y]).run P w = .ok (.slice (some ⟨w.heap.size, 0, none⟩) (m + n) g) (w.drew.alloc (.cells (olds.toArray ++ news.toArray ++ Builtin.zeroCells zc.cells (g - (m + n))) e)) := by
    obtain ⟨hl0, hlw⟩ := hsrc
    obtain ⟨hl1, hf1⟩ := hlw w.drew (fun _ => rfl)
    have hfo := hold w.drew (fun _ => rfl)
    rw [← hsz] at hf1 hfo
    rcases hu2 with ⟨e', hu2⟩ | hu2 <;>
      (rw [hx]; simp [Builtin.append_, run_underlying hu1, run_underlying hu2, sizeOf, typeInfo, zeroValue, hi, hz, hl0, hn', h63, h48, Question.forced, hf1, hfo, newRow, g, grownCap]; congr 2; apply Array.ext'; simp [List.append_assoc])
  have hgn : m + n ≤ g := grownCap_le' w (m + n) cap e
  have holen : olds.length = m * es := by rw [hor.length, hol]
  have hnlen : news.length = n * es := by rw [hnr.length, hnl]
  have hsize : (olds.toArray ++ news.toArray ++ Builtin.zeroCells zc.cells (g - (m + n))).size = g * es := by
    simp [Builtin.zeroCells, holen, hnlen, hzs]
    rw [← Nat.add_mul, ← Nat.add_mul]; congr 1; omega
  have hne : (oldV ++ newV).length = (m + n) * es := by simp [hol, hnl, Nat.add_mul]
  have hH1 := hH.drew
  have L0 := Le.drew G H w
  obtain ⟨L, hH'⟩ := new_cells hH1 e (olds.toArray ++ news.toArray ++ Builtin.zeroCells zc.cells (g - (m + n))) es ag (oldV ++ newV) (by rw [hne, hsize]; exact Nat.mul_le_mul_right _ hgn)
    (by
      have e1 : (olds.toArray ++ news.toArray ++ Builtin.zeroCells zc.cells (g - (m + n))).toList.take (oldV ++ newV).length = olds ++ news := by
        simp only [Array.toList_append]
        exact List.take_left' (by simp [holen, hnlen, hol, hnl])
      rw [e1]
      exact (RelL.mono L0 hor).append (RelL.mono L0 hnr))
    (fun v hv => by rcases List.mem_append.1 hv with h | h
                    · exact ho1 v h
                    · exact hn1 v h)
  refine ⟨_, _, _, .inl ?_, L0.trans L, hH', (sl_new G H w.drew _ _ (m + n) g es none ag hgn (fun c e => by cases e) (by rw [hsize]; exact Nat.le_refl _)).sl_world⟩
  rw [append_args ho hb ha ht, hrow]
  rfl
/-- An append in place. -/
theorem append_room {c : Call} {x y : Operand} {t1 t2 e : TypeId} {es : Nat} {ag : Bool} (ho : o.op = .call c) (hb : c.callee = .builtin .append) (ha : c.args.toList = [x, y]) (ht : c.argTypes.toList = [t1, t2])
    (hu1 : P.underlying t1 = some (.slice e)) (hu2 : (∃ e', P.underlying t2 = some (.slice e')) ∨ P.underlying t2 = some .string) (hc : cellT P e = some (es, ag))
    {a : Addr} {m cap n : Nat} (hx : ρ x = .slice (some a) m cap) {news : List Value} (hsrc : Src P w (ρ y) n es news) (hg : m + n ≤ cap) {w' : World} (hst : (storeCells (a.add (m * es)) news).run P w = .ok () w') :
    (execOp ρ o).run P w = .ok (.value (.slice (some a) (m + n) cap)) w' := by
  obtain ⟨hl0, hlw⟩ := hsrc
  obtain ⟨_, hf1⟩ := hlw w (fun _ => rfl)
  rw [append_args ho hb ha ht]
  rcases hu2 with ⟨e', hu2⟩ | hu2 <;>
    (rw [hx]; simp [Builtin.append_, run_underlying hu1, run_underlying hu2, run_size w (cellT_spec hc).1, hl0, hg, hf1, hst])
/-- An object is given up, another one in its block takes its place. -/
theorem regrow {i : Nat} {es eo : Nat} {ag ago : Bool} {cs : List V} (hH : HeapRel G H w) (hg : H.get i = some (.cells eo ago cs)) {q : Nat} (hq : q ≤ cs.length) {new : List V} {cnew : List Value}
    (hsz : G.β i + cs.length + new.length ≤ G.σ i) (hrel : RelL G H w cnew new) (h1n : ∀ x ∈ new, x.one = true) :
    ∃ w', (storeCells ⟨G.ι i, G.β i + cs.length, none⟩ cnew).run P w = .ok () w' ∧
      Le G H w (G.more H.n (G.ι i) (G.β i + q) (G.σ i)) ((H.put i .dead).push (.cells es ag (cs.drop q ++ new))) w' ∧
      HeapRel (G.more H.n (G.ι i) (G.β i + q) (G.σ i)) ((H.put i .dead).push (.cells es ag (cs.drop q ++ new))) w' := by
  obtain ⟨w', hrun, L, hH', c, e, fr, hb, hw'⟩ := write_cells (P := P) hH hg (q := cs.length) (Nat.le_refl _) hsz hrel h1n
  have hlive : H.live i := ⟨_, hg, rfl⟩
  have hsp : splice cs cs.length new = cs ++ new := by simp [splice]
  rw [hsp] at L hH'
  have hin : i ≠ H.n := Nat.ne_of_lt hlive.lt
  -- the heap behind it: i is dead, H.n is the new one
  have gets : ∀ j, ((H.put i .dead).push (.cells es ag (cs.drop q ++ new))).get j = if j = H.n then some (.cells es ag (cs.drop q ++ new)) else if j = i then some .dead else H.get j := fun j => by
    rw [Hp.get_push, Hp.get_put H i .dead hlive.lt]
    rfl
  have lives : ∀ j, ((H.put i .dead).push (.cells es ag (cs.drop q ++ new))).live j → j = H.n ∨ (j ≠ i ∧ j ≠ H.n ∧ H.live j) := fun j ⟨x, hx, ha⟩ => by
    rw [gets] at hx
    by_cases e1 : j = H.n
    · exact .inl e1
    · rw [if_neg e1] at hx
      by_cases e2 : j = i
      · rw [if_pos e2] at hx; cases hx; cases ha
      · rw [if_neg e2] at hx; exact .inr ⟨e2, e1, x, hx, ha⟩
  have hw : ∀ b, b ≠ G.ι i → w'.heap[b]? = w.heap[b]? := fun b hne => by rw [hw']; exact setRow_other w _ b _ hne
  have L2 : Le G H w (G.more H.n (G.ι i) (G.β i + q) (G.σ i)) ((H.put i .dead).push (.cells es ag (cs.drop q ++ new))) w' := by
    refine ⟨Nat.le_succ _, fun j hj hl => ?_, fun b hb' hu => ⟨fun h => h.elim (fun h => hu (.inl h)) fun ⟨j, hl, e⟩ => ?_, hw b fun e => hu (.inr ⟨i, hlive, e.symm⟩)⟩, L.size, L.tape, L.os, L.output, rfl, L.foreign⟩
    · rcases lives j hl with e1 | ⟨_, e2, hl'⟩
      · omega
      · exact ⟨hl', by simp [Gh.more, e2]⟩
    · rcases lives j hl with e1 | ⟨_, e2, hl'⟩
      · simp [Gh.more, e1] at e; exact hu (.inr ⟨i, hlive, e⟩)
      · simp [Gh.more, e2] at e; exact hu (.inr ⟨j, hl', e⟩)
  refine ⟨w', hrun, L2, fun j k hj hk e => ?_, fun j x hx => ?_, fun j hj hF => ?_, hH'.fb⟩
  · rcases lives j hj with e1 | ⟨e1, e2, hl1⟩ <;> rcases lives k hk with e3 | ⟨e3, e4, hl2⟩
    · rw [e1, e3]
    · simp [Gh.more, e1, e4] at e; exact absurd (hH.inj i k hlive hl2 e).symm e3
    · simp [Gh.more, e3, e2] at e; exact absurd (hH.inj j i hl1 hlive e) e1
    · simp [Gh.more, e2, e4] at e; exact hH.inj j k hl1 hl2 e
  · rw [gets] at hx
    by_cases e1 : j = H.n
    · rw [if_pos e1] at hx
      cases hx
      subst e1
      cases hH.obj i _ hg with
      | cells _ _ _ c0 e0 fr0 hb0 hs0 hl0 hf0 h0 h10 =>
        rw [hb0] at hb
        cases hb
        have hlen := hrel.length
        have hsz' : (c.toList.take (G.β i + cs.length) ++ cnew ++ c.toList.drop (G.β i + cs.length + cnew.length)).length = c.size := by simp; omega
        refine .cells es ag _ _ e fr (by rw [more_ι, hw']; exact setRow_heap w _ c _ e fr hb0) (by simp [Gh.more]; omega) ?_ ?_ ?_ ?_
        · simp only [Gh.more, if_true, List.size_toArray, hsz', List.length_append, List.length_drop]; omega
        · intro k hk; exact hf0 k (by rw [List.size_toArray, hsz'] at hk; exact hk)
        · refine RelL.mono L2 ?_
          have e1 : ((c.toList.take (G.β i + cs.length) ++ cnew ++ c.toList.drop (G.β i + cs.length + cnew.length)).toArray.toList.drop (G.β i + q)).take (cs.drop q ++ new).length =
              ((c.toList.drop (G.β i)).take cs.length).drop q ++ cnew := by
            have e2 : (c.toList.take (G.β i + cs.length) ++ cnew ++ c.toList.drop (G.β i + cs.length + cnew.length)) = c.toList.take (G.β i + q) ++ ((((c.toList.drop (G.β i)).take cs.length).drop q ++ cnew) ++ c.toList.drop (G.β i + cs.length + cnew.length)) := by
              rw [← List.append_assoc, ← List.append_assoc]
              congr 2
              apply List.ext_getElem?
              intro j
              simp only [List.getElem?_take, List.getElem?_append, List.getElem?_drop, List.length_take]
              have hm : min (G.β i + q) c.toList.length = G.β i + q := by simp; omega
              rw [hm]
              by_cases j1 : j < G.β i + q
              · simp [j1, show j < G.β i + cs.length by omega]
              · by_cases j2 : j < G.β i + cs.length
                · simp [j1, j2, show q + (j - (G.β i + q)) < cs.length by omega, show G.β i + (q + (j - (G.β i + q))) = j by omega]
                · simp [j1, j2, show ¬ q + (j - (G.β i + q)) < cs.length by omega]
            rw [List.toList_toArray, e2, List.drop_left' (by simp; omega)]
            exact List.take_left' (by simp; omega)
          simp only [Gh.more, if_true]
          rw [e1]
          exact (h0.drop q).append hrel
        · intro x hx
          rcases List.mem_append.1 hx with h | h
          · exact h10 x (List.mem_of_mem_drop h)
          · exact h1n x h
    · rw [if_neg e1] at hx
      by_cases e2 : j = i
      · rw [if_pos e2] at hx; cases hx; exact .dead
      · rw [if_neg e2] at hx
        exact (hH.obj j x hx).mono L2 (by simp [Gh.more, e1]) (by simp [Gh.more, e1]) (by simp [Gh.more, e1]) fun ha => hw _ fun e' => e2 (hH.inj j i ⟨x, hx, ha⟩ hlive e')
  · rcases lives j hj with e1 | ⟨_, e2, hl'⟩
    · simp [Gh.more, e1] at hF; exact hH.nf i hlive hF
    · simp [Gh.more, e2] at hF; exact hH.nf j hl' hF
/-- A heap with fewer living objects. -/
theorem less_le {H2 : Hp} (hn : H2.n = H.n) (h : ∀ j x, H2.get j = some x → x = .dead ∨ H.get j = some x) : Le G H w G H2 w := by
  have lives : ∀ j, H2.live j → H.live j := fun j ⟨x, hx, ha⟩ => by
    rcases h j x hx with rfl | h'
    · cases ha
    · exact ⟨x, h', ha⟩
  exact ⟨Nat.le_of_eq hn.symm, fun i _ hl => ⟨lives i hl, rfl, rfl, rfl⟩, fun b _ hu => ⟨fun h => hu (h.elim .inl fun ⟨i, hl, e⟩ => .inr ⟨i, lives i hl, e⟩), rfl⟩, Nat.le_refl _, rfl, rfl, rfl, rfl, fun _ _ _ => rfl⟩
theorem less_heap {H2 : Hp} (hH : HeapRel G H w) (hn : H2.n = H.n) (h : ∀ j x, H2.get j = some x → x = .dead ∨ H.get j = some x) : HeapRel G H2 w := by
  have lives : ∀ j, H2.live j → H.live j := fun j ⟨x, hx, ha⟩ => by
    rcases h j x hx with rfl | h'
    · cases ha
    · exact ⟨x, h', ha⟩
  refine ⟨fun i j hi hj => hH.inj i j (lives i hi) (lives j hj), fun i x hx => ?_, fun i hi => hH.nf i (lives i hi), hH.fb⟩
  rcases h i x hx with rfl | h'
  · exact .dead
  · exact (hH.obj i x h').mono (less_le hn h) rfl rfl rfl fun _ => rfl
theorem Gives.less {s : Sem Next} {H1 H2 : Hp} (g : Gives P s G H w v H1) (hn : H2.n = H1.n) (h : ∀ j x, H2.get j = some x → x = .dead ∨ H1.get j = some x) : Gives P s G H w v H2 := by
  obtain ⟨G', w', cv, hr, L, hH', hrel⟩ := g
  exact ⟨G', w', cv, hr, L.trans (less_le hn h), less_heap hH' hn h, Rel.mono (less_le hn h) hrel⟩
theorem slice_cap {c : Value} {x : V} (h : Rel G H w c x) (hs : isSlice x = true) {n : Nat} (hn : lenV x = some n) : ∃ a cap, c = .slice a n cap ∧ n ≤ cap := by
  cases h <;> simp [isSlice] at hs <;> simp [lenV] at hn
  · subst hn; exact ⟨_, _, rfl, by assumption⟩
  · subst hn; rename_i hl hn _ _ _ _ _ _ _ _; exact ⟨_, _, by rw [hl], by rw [hl]; exact hn⟩
  · subst hn; exact ⟨_, _, rfl, Nat.le_refl _⟩
  · subst hn; exact ⟨_, _, rfl, Nat.zero_le _⟩
  · subst hn; exact ⟨_, _, rfl, Nat.le_refl _⟩
theorem sim_append {c : Call} {x y : Operand} {t1 t2 e : TypeId} {es b : Nat} {ag : Bool} {z : List V} (ho : o.op = .call c) (hb : c.callee = .builtin .append) (ha : c.args.toList = [x, y]) (ht : c.argTypes.toList = [t1, t2])
    (hu1 : P.underlying t1 = some (.slice e)) (hu2 : (∃ e', P.underlying t2 = some (.slice e')) ∨ P.underlying t2 = some .string) (hc : roomT P e = some (es, ag, z)) (hby : bytesT P e = some b)
    (hH : HeapRel G H w) {vs : List V} (hr : RelL G H w ([x, y].map ρ) vs) (he : evAppend es ag b vs H = some (v, H')) : Gives P (execOp ρ o) G H w v H' := by
  obtain ⟨a1, a2, rfl, hx, hy⟩ := two_args hr
  have hcell := (roomT_spec hc).1
  have hes := (cellT_spec hcell).2.2.1
  simp only [evAppend, appendV] at he
  cases hn : lenV a2 with
  | none => simp [hn] at he
  | some n =>
    cases hm : lenV a1 with
    | none => simp [hn, hm] at he
    | some m =>
      simp only [hn, hm] at he
      cases hcs : cellsOf H es n a2 with
      | none => simp [hcs] at he
      | some new =>
        simp only [hcs] at he
        have hstr : (∃ s, a2 = .str s) → es = 1 := by
          rintro ⟨s, rfl⟩
          simp only [cellsOf] at hcs
          cases hq : Nat.beq es 1 with
          | false => simp [hq] at hcs
          | true => exact beq_iff.1 hq
        obtain ⟨news, hsrc, hnr, hn1, hnl⟩ := src_of (P := P) hH hy hcs hn hes hstr
        by_cases hn0 : n = 0
        · rw [if_pos hn0] at he
          cases hsl : isSlice a1 with
          | false => simp [hsl] at he
          | true =>
            simp [hsl] at he
            obtain ⟨rfl, rfl⟩ := he
            obtain ⟨base, cap, hxe, hmc⟩ := slice_cap hx hsl hm
            refine gives_same hH (ρ x) ?_ hx
            have hnil : news = [] := List.length_eq_zero_iff.1 (by rw [hnr.length, hnl, hn0]; simp)
            subst hn0
            subst hnil
            obtain ⟨hl0, hlw⟩ := hsrc
            obtain ⟨_, hf1⟩ := hlw w (fun _ => rfl)
            rw [append_args ho hb ha ht]
            rcases hu2 with ⟨e', hu2⟩ | hu2 <;>
              (rw [hxe]; cases base <;> simp [Builtin.append_, run_underlying hu1, run_underlying hu2, run_size w (cellT_spec hcell).1, hl0, hmc, hf1, storeCells])
        · rw [if_neg hn0] at he
          split at he
          · cases he
          · rename_i hlim
            have hlim : (m + n) * (b + 1) ≤ limit := Nat.le_of_not_lt hlim
            have grow := fun (base : Option Addr) (cap : Nat) (hxe : ρ x = .slice base m cap) (olds : List Value) (oldV : List V) h1 h2 h3 h4 h5 =>
              append_grow (P := P) ho hb ha ht hu1 hu2 hc hby hH (base := base) (cap := cap) hxe (olds := olds) (oldV := oldV) h1 h2 h3 h4 hsrc hnr hn1 hnl h5 hlim
            cases a1 <;> simp only [appendTo] at he <;> try cases he
            · -- an array of its own
              rename_i i q m' kc es' ag'
              have : m' = m := by simpa [lenV] using hm
              subst this
              obtain ⟨ad, cap, hxe, hi, hmc, hk, had⟩ := rel_sl hx
              cases hg : H.get i with
              | none => simp [hg] at he
              | some ob =>
                cases ob <;> simp only [hg] at he <;> try cases he
                rename_i eo ago cs
                split at he
                · rename_i hfit
                  obtain ⟨rfl, hfit⟩ := hfit
                  have hlive : H.live i := ⟨_, hg, rfl⟩
                  have hcells : ∃ cc e0 fr, w.heap[G.ι i]? = some (.cells cc e0 fr) ∧ cc.size = G.σ i ∧ G.β i + cs.length ≤ cc.size ∧ RelL G H w ((cc.toList.drop (G.β i)).take cs.length) cs ∧ ∀ v ∈ cs, v.one = true := by
                    cases hH.obj i _ hg with
                    | cells _ _ _ c0 e0 fr hb0 hs0 hl0 hf0 h0 h10 => exact ⟨c0, e0, fr, hb0, hs0, hl0, h0, h10⟩
                  obtain ⟨cc, e0, fr, hb0, hs0, hl0, h0, h10⟩ := hcells
                  have hold : (∀ w' : World, (∀ b : Nat, w'.heap[b]? = w.heap[b]?) → (Builtin.firstCells es' m' (.slice (some ad) m' cap)).run P w' = .ok ((cc.toList.drop (G.β i + q)).take (m' * es')).toArray w') ∧ RelL G H w ((cc.toList.drop (G.β i + q)).take (m' * es')) ((cs.drop q).take (m' * es')) ∧ ((cs.drop q).take (m' * es')).length = m' * es' := by
                    refine ⟨fun w' hw' => ?_, cells_range h0 hfit, by simp; omega⟩
                    by_cases hc0 : cap = 0
                    · have : m' = 0 := by omega
                      subst this
                      simp [Builtin.firstCells, loadCells, loadCellsFrom]
                    · rw [(had hlive hc0).1]
                      simp only [Builtin.firstCells]
                      exact run_cells ((hw' _).trans hb0) (by omega)
                  cases kc with
                  | some k =>
                    have hcap := hk k rfl
                    subst hcap
                    simp only at he
                    split at he
                    · rename_i hroom
                      simp only [Option.some.injEq, Prod.mk.injEq] at he
                      obtain ⟨rfl, rfl⟩ := he
                      obtain ⟨hade, hbd⟩ := had hlive (by omega)
                      have hmul : (m' + n) * es' ≤ cap * es' := Nat.mul_le_mul_right _ hroom
                      have hadd : (m' + n) * es' = m' * es' + n * es' := Nat.add_mul _ _ _
                      obtain ⟨w', hst, L, hH', _⟩ := write_cells (P := P) hH hg (q := q + m' * es') hfit (by omega) hnr hn1
                      refine ⟨G, w', .slice (some ad) (m' + n) cap, .inl ?_, L, hH', ?_⟩
                      · refine append_room ho hb ha ht hu1 hu2 hcell hxe hsrc hroom ?_
                        rw [hade, add_plain]
                        rw [show G.β i + q + m' * es' = G.β i + (q + m' * es') by omega]
                        exact hst
                      · exact .sl _ _ _ _ _ _ _ _ hi hroom (fun c e => by cases e; rfl) fun _ hc => had hlive hc
                    · rename_i hroom
                      simp only [Option.some.injEq, Prod.mk.injEq] at he
                      obtain ⟨rfl, rfl⟩ := he
                      exact grow _ _ hxe _ _ hold.1 hold.2.1 (sub_one h10 _ _) hold.2.2 (by omega)
                  | none =>
                    simp only at he
                    split at he
                    · rename_i hfront
                      simp only [Option.some.injEq, Prod.mk.injEq] at he
                      obtain ⟨rfl, rfl⟩ := he
                      have hall : (cs.drop q).take (m' * es') = cs.drop q := List.take_of_length_le (by simp; omega)
                      have hdrop : (cs.drop q).length = m' * es' := by simp; omega
                      by_cases hroom : m' + n ≤ cap
                      · obtain ⟨hade, hbd⟩ := had hlive (by omega)
                        have hmul : (m' + n) * es' ≤ cap * es' := Nat.mul_le_mul_right _ hroom
                        have hadd : (m' + n) * es' = m' * es' + n * es' := Nat.add_mul _ _ _
                        obtain ⟨w', hst, L, hH'⟩ := regrow (P := P) (es := es') (ag := ag) hH hg (q := q) (by omega) (by omega) hnr hn1
                        refine ⟨_, w', .slice (some ad) (m' + n) cap, .inl ?_, L, hH', ?_⟩
                        · refine append_room ho hb ha ht hu1 hu2 hcell hxe hsrc hroom ?_
                          rw [hade, add_plain]
                          rw [show G.β i + q + m' * es' = G.β i + cs.length by omega]
                          exact hst
                        · refine .sl _ _ _ _ _ _ _ _ (Nat.lt_succ_self _) hroom (fun c e => by cases e) fun _ _ => ?_
                          simp only [Gh.more, if_true]
                          exact ⟨by simp [hade], by omega⟩
                      · -- it moves: then the old object is given up
                        have hgr := grow _ _ hxe _ _ hold.1 hold.2.1 (sub_one h10 _ _) hold.2.2 (by omega)
                        rw [hall] at hgr
                        refine hgr.less rfl fun j o hj => ?_
                        rw [Hp.get_push, Hp.get_put H i .dead hlive.lt] at hj
                        rw [Hp.get_push]
                        by_cases e1 : j = H.n
                        · rw [if_pos e1]; rw [if_pos (show j = (H.put i .dead).n from e1)] at hj; exact .inr hj
                        · rw [if_neg e1]; rw [if_neg (show ¬ j = (H.put i .dead).n from e1)] at hj
                          by_cases e2 : j = i
                          · rw [if_pos e2] at hj; cases hj; exact .inl rfl
                          · rw [if_neg e2] at hj; exact .inr hj
                    · cases he
                · cases he
            · -- one that stands still, full
              rename_i us full
              split at he
              · rename_i hfull
                subst hfull
                cases hold : cellsOf H es us.length (.psl us true) with
                | none => simp [hold] at he
                | some old =>
                  simp only [hold, Option.some.injEq, Prod.mk.injEq] at he
                  obtain ⟨rfl, rfl⟩ := he
                  have hm' : us.length = m := by simpa [lenV] using hm
                  obtain ⟨ad, cap, hxe, hmc⟩ := slice_cap hx rfl hm
                  have hcap : cap = m := by
                    generalize hz : ρ x = z at hx
                    rw [hxe] at hz
                    cases hx with
                    | psl b q n' cap' ar e fr _ _ es' hl hn hf => cases hz; exact hf rfl
                    | pslNone => cases hz; rfl
                    | pslEmpty _ _ _ hf => cases hz; exact hf rfl
                  subst hcap
                  obtain ⟨olds, ⟨_, hlw⟩, hor, ho1, hol⟩ := src_of (P := P) hH hx (hm' ▸ hold) hm hes (fun ⟨_, h⟩ => by cases h)
                  exact grow _ _ hxe olds old (fun w' hw' => hxe ▸ (hlw w' hw').2) hor ho1 hol (by omega)
              · cases he
            · -- nil
              have hm0 : m = 0 := by simpa [lenV] using hm.symm
              subst hm0
              have hxe : ρ x = .slice none 0 0 := by cases hz : ρ x <;> rw [hz] at hx <;> cases hx; rfl
              have := grow none 0 hxe [] [] (fun w' _ => by simp [Builtin.firstCells]) .nil (by simp) (by simp) (by omega)
              simpa using this
end
end Go.Am
