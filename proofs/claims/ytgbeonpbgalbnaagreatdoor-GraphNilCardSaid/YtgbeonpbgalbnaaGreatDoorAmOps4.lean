/- EACH OPERATION, SIMULATED: the fourth part: slices, and conversions. -/
import Derived.Test.YtgbeonpbgalbnaaGreatDoorAmOps3
import Derived.Laws.Append
import Derived.Laws.MakeOwn
import Derived.Laws.BytesString
import Derived.Lib.Strings
namespace Go.Am
set_option autoImplicit false

section
variable {P : Program} {G : Gh} {H H' : Hp} {w : World} {ρ : Operand → Value} {o : Oper} {v : V}

/-! ### lists of elements' cells -/
theorem flatMap_length {es : Nat} : ∀ (l : List V), (∀ v ∈ l, v.flat.length = es) → (l.flatMap V.flat).length = l.length * es
  | [], _ => by simp
  | a :: l, h => by
    simp only [List.flatMap_cons, List.length_append, h a (by simp), flatMap_length l (fun v hv => h v (by simp [hv])), List.length_cons]
    rw [Nat.succ_mul]; omega
theorem flatMap_drop {es : Nat} : ∀ (l : List V) (k : Nat), (∀ v ∈ l, v.flat.length = es) → (l.flatMap V.flat).drop (k * es) = (l.drop k).flatMap V.flat
  | l, 0, _ => by simp
  | [], k + 1, _ => by simp
  | a :: l, k + 1, h => by
    rw [List.flatMap_cons, Nat.succ_mul, Nat.add_comm, ← List.drop_drop, List.drop_left' (h a (by simp))]
    exact flatMap_drop l k fun v hv => h v (by simp [hv])
theorem flatMap_take {es : Nat} : ∀ (l : List V) (k : Nat), (∀ v ∈ l, v.flat.length = es) → (l.flatMap V.flat).take (k * es) = (l.take k).flatMap V.flat
  | l, 0, _ => by simp
  | [], k + 1, _ => by simp
  | a :: l, k + 1, h => by
    rw [List.flatMap_cons, Nat.succ_mul, Nat.add_comm, List.take_append, h a (by simp), List.take_of_length_le (by rw [h a (by simp)]; omega), List.take_succ_cons, List.flatMap_cons]
    congr 1
    rw [show es + k * es - es = k * es by omega]
    exact flatMap_take l k fun v hv => h v (by simp [hv])
theorem RelL.of_get {vs : List Value} {xs : List V} (hl : vs.length = xs.length) (h : ∀ (i : Nat) (v : Value) (x : V), vs[i]? = some v → xs[i]? = some x → Rel G H w v x) : RelL G H w vs xs := by
  induction vs generalizing xs with
  | nil => cases xs with
    | nil => exact .nil
    | cons _ _ => simp at hl
  | cons v vs ih => cases xs with
    | nil => simp at hl
    | cons x xs => exact .cons _ _ _ _ (h 0 v x rfl rfl) (ih (by simpa using hl) fun i v x hv hx => h (i + 1) v x (by simpa using hv) (by simpa using hx))
theorem get_replicate {α : Type} (z : List α) : ∀ (c i : Nat), i < c * z.length → ((List.replicate c z).flatten)[i]? = z[i % z.length]?
  | 0, i, h => by simp at h
  | c + 1, i, h => by
    rw [List.replicate_succ, List.flatten_cons, List.getElem?_append]
    by_cases hi : i < z.length
    · rw [if_pos hi, Nat.mod_eq_of_lt hi]
    · rw [if_neg hi, get_replicate z c (i - z.length) (by rw [Nat.succ_mul] at h; omega)]
      congr 1
      conv => rhs; rw [show i = i - z.length + z.length by omega]
      rw [Nat.add_mod_right]
theorem made_rel {z : Array Value} {zl : List V} (h : RelL G H w z.toList zl) (c : Nat) : RelL G H w (madeCells z (c * zl.length)).toList (List.replicate c zl).flatten := by
  have hz : z.size = zl.length := by simpa using h.length
  refine RelL.of_get (by simp [madeCells]) fun i u x hu hx => ?_
  have hi : i < c * zl.length := by
    rcases Nat.lt_or_ge i (c * zl.length) with h' | h'
    · exact h'
    · rw [List.getElem?_eq_none (by simpa [madeCells] using h')] at hu; cases hu
  rw [get_replicate zl c i hi] at hx
  obtain ⟨u', hu', hr⟩ := h.get hx
  have : u = u' := by
    simp only [madeCells, Array.toList_map, Array.toList_range, List.getElem?_map, List.getElem?_range hi, Option.map_some, Option.some.injEq] at hu
    rw [hz] at hu
    have h1 : z[i % zl.length]? = some u' := by simpa using hu'
    rw [getElem!_def, h1] at hu
    exact hu.symm
  rw [this]; exact hr
theorem ones_replicate {zl : List V} (h : ∀ v ∈ zl, v.one = true) (c : Nat) : ∀ v ∈ (List.replicate c zl).flatten, v.one = true := by
  intro v hv
  obtain ⟨l, hl, hv⟩ := List.mem_flatten.1 hv
  rw [List.eq_of_mem_replicate hl] at hv
  exact h v hv
/-- The cells of a slice or a string, for reading. -/
theorem cellsOf_spec (hH : HeapRel G H w) {c : Value} {x : V} (h : Rel G H w c x) {es n : Nat} {new : List V} (hc : cellsOf H es n x = some new) (hn : ∀ m, lenV x = some m → n ≤ m) :
    ∃ cs : List Value, RelL G H w cs new ∧ (∀ v ∈ new, v.one = true) ∧
      ((new.length = n * es ∧ ((∃ (a : Addr) (m cap : Nat), c = .slice (some a) m cap ∧ n ≤ m ∧ ∀ w' : World, (∀ b : Nat, w'.heap[b]? = w.heap[b]?) → (loadCells a (n * es)).run P w' = .ok cs.toArray w') ∨ ((∃ a cap, c = .slice a 0 cap) ∧ n * es = 0 ∧ cs = []))) ∨
       ∃ s : ByteArray, c = .string s ∧ n ≤ s.size ∧ cs = ((s.extract 0 n).data.map fun b => Value.int .u8 b.toNat).toList ∧ new.length = n) := by
  cases h with
  | nils =>
    simp [cellsOf] at hc
    subst hc
    have hn0 : n = 0 := by have := hn 0 rfl; omega
    subst hn0
    exact ⟨[], .nil, by simp, .inl ⟨by simp, .inr ⟨⟨_, _, rfl⟩, by simp, rfl⟩⟩⟩
  | str s l hs =>
    have hc : (l.take n).map (fun b => V.int .u8 b.toNat) = new := by
      simp only [cellsOf] at hc
      cases hq : Nat.beq es 1 with
      | false => simp [hq] at hc
      | true => simpa [hq] using hc
    have hl : l.length = s.size := by rw [← hs]; simp
    have hnl : n ≤ s.size := by have := hn l.length rfl; omega
    have hnew : new = (l.take n).map fun b => V.int .u8 b.toNat := hc.symm
    have hex : (s.extract 0 n).data.toList = l.take n := by rw [Lib.extract_data, hs]; simp
    refine ⟨_, ?_, ?_, .inr ⟨s, rfl, hnl, rfl, by rw [hnew]; simp [hl]; omega⟩⟩
    · rw [hnew, Array.toList_map, hex]
      refine RelL.of_get (by simp) fun i u x hu hx => ?_
      simp only [List.getElem?_map] at hu hx
      cases hq : (l.take n)[i]? with
      | none => simp [hq] at hu
      | some b => simp [hq] at hu hx; subst hu; subst hx; exact .int _ _
    · rw [hnew]; intro v hv
      obtain ⟨b, _, rfl⟩ := List.mem_map.1 hv
      rfl
  | sl i q m kc es' ag a cap hi hnc hk ha =>
    simp only [cellsOf] at hc
    cases hg : H.get i with
    | none => simp [hg] at hc
    | some ob =>
      cases ob <;> simp [hg] at hc
      rename_i eo ago cs
      obtain ⟨⟨rfl, hle⟩, rfl⟩ := hc
      have hlive : H.live i := ⟨_, hg, rfl⟩
      have hnm : n ≤ m := hn m rfl
      cases hH.obj i _ hg with
      | cells _ _ _ c e fr hb hs hl hf h h1 =>
        have hr := cells_range h hle
        refine ⟨_, hr, sub_one h1 _ _, .inl ⟨by simp; omega, ?_⟩⟩
        by_cases hc0 : cap = 0
        · have hn0 : n = 0 := by omega
          subst hn0
          exact .inr ⟨⟨_, _, by rw [show m = 0 by omega]⟩, by simp, by simp⟩
        · obtain ⟨hae, hbd⟩ := ha hlive hc0
          refine .inl ⟨a, m, cap, rfl, hnm, fun w' hw' => ?_⟩
          rw [hae]
          exact run_cells ((hw' _).trans hb) (by omega)
  | psl b q m cap c e fr vs full es' hl hnc hf hb hu he hs h h1 =>
    simp only [cellsOf] at hc
    split at hc
    · rename_i hall
      cases hc
      have hall' : ∀ v ∈ vs.take n, v.flat.length = es := by
        intro v hv
        have := List.all_eq_true.1 hall v hv
        simpa using this
      have hnm : n ≤ m := by have := hn vs.length rfl; omega
      have hone : ∀ v ∈ (vs.take n).flatMap V.flat, v.one = true := by
        intro v hv
        obtain ⟨u, hu, hv⟩ := List.mem_flatMap.1 hv
        exact h1 u (List.mem_of_mem_take hu) v hv
      have hlen := flatMap_length _ hall'
      have htl : (vs.take n).length = n := by simp; omega
      rw [htl] at hlen
      cases n with
      | zero =>
        refine ⟨[], by simpa using RelL.nil, hone, .inl ⟨hlen, .inl ⟨_, _, _, rfl, by omega, fun w' _ => ?_⟩⟩⟩
        simp [loadCells, loadCellsFrom]
      | succ n =>
        have hee : es' = es := by
          cases vs with
          | nil => simp at hl; omega
          | cons u us => rw [← he u (by simp), hall' u (by simp)]
        subst hee
        have hle : (n + 1) * es' ≤ m * es' := Nat.mul_le_mul_right _ hnm
        have hr := h.take ((n + 1) * es')
        rw [flatMap_take vs (n + 1) he, List.take_take, Nat.min_eq_left hle] at hr
        refine ⟨_, hr, hone, .inl ⟨hlen, .inl ⟨_, _, _, rfl, hnm, fun w' hw' => ?_⟩⟩⟩
        exact run_cells ((hw' _).trans hb) (by omega)
    · cases hc
  | pslNone full =>
    simp [cellsOf] at hc
    subst hc
    have hn0 : n = 0 := by have := hn 0 rfl; omega
    subst hn0
    exact ⟨[], .nil, by simp, .inl ⟨by simp, .inr ⟨⟨_, _, rfl⟩, by simp, rfl⟩⟩⟩
  | pslEmpty a cap full hf =>
    simp [cellsOf] at hc
    subst hc
    have hn0 : n = 0 := by have := hn 0 rfl; omega
    subst hn0
    exact ⟨[], .nil, by simp, .inl ⟨by simp, .inr ⟨⟨_, _, rfl⟩, by simp, rfl⟩⟩⟩
  | _ => simp [cellsOf] at hc

/-! ### conversions -/
theorem bytesOf_spec : ∀ {vs : List V} {bs : List UInt8}, bytesOf vs = some bs → ∃ ns : List Int, vs = ns.map (V.int .u8) ∧ bs = ns.map fun n => UInt8.ofNat n.toNat
  | [], bs, h => by simp [bytesOf] at h; exact ⟨[], by simp, by simp [h]⟩
  | v :: vs, bs, h => by
    have : ∃ n, v = .int .u8 n := by
      cases v with
      | int k n => cases k <;> first | exact ⟨n, rfl⟩ | cases h
      | _ => cases h
    obtain ⟨n, rfl⟩ := this
    have h : (bytesOf vs).map (UInt8.ofNat n.toNat :: ·) = some bs := h
    cases h1 : bytesOf vs with
    | none => simp [h1] at h
    | some bs' =>
      simp [h1] at h
      subst h
      obtain ⟨ns, rfl, rfl⟩ := bytesOf_spec h1
      exact ⟨n :: ns, by simp, by simp⟩
theorem push_all (l : List UInt8) : ∀ (s : ByteArray), (l.foldl (fun r b => r.push b) s).data.toList = s.data.toList ++ l := by
  induction l with
  | nil => intro s; simp
  | cons b l ih => intro s; simp only [List.foldl_cons]; rw [ih]; simp [ByteArray.push]
theorem run_forced (need old : Nat) (e : TypeId) : (choose (.appendCap need old e)).run P w = .ok (grownCap w need old e) w.drew := by
  rw [run_choose]; rfl
theorem grownCap_le' (w : World) (need old : Nat) (e : TypeId) : need ≤ grownCap w need old e := by simp [grownCap, Question.cut]
theorem sim_conv {s d : TypeId} {x : Operand} {k : ConvK} (ho : o.op = .convert s d x) (hH : HeapRel G H w) {vs : List V} (hr : RelL G H w ([x].map ρ) vs)
    (hk : match k with
      | .int i => (∃ j, P.underlying s = some (.int j)) ∧ P.underlying d = some (.int i)
      | .same => P.underlying s = some .string ∧ P.underlying d = some .string
      | .bytesStr => ∃ e, P.underlying s = some (.slice e) ∧ P.underlying d = some .string ∧ P.underlying e = some (.int .u8)
      | .strBytes => ∃ e, P.underlying s = some .string ∧ P.underlying d = some (.slice e) ∧ P.underlying e = some (.int .u8)
      | .runeStr => (∃ j, P.underlying s = some (.int j)) ∧ P.underlying d = some .string)
    (he : evConv k vs H = some (v, H')) : Gives P (execOp ρ o) G H w v H' := by
  obtain ⟨a, rfl, ha⟩ := one_arg hr
  have ex : (execOp ρ o).run P w = ((convert s d (ρ x)).run P w).andThen fun v w => .ok (.value v) w := by unfold execOp; simp [ho]
  cases k with
  | int i =>
    obtain ⟨⟨j, h1⟩, h2⟩ := hk
    cases a <;> simp [evConv] at he
    obtain ⟨rfl, rfl⟩ := he
    have hx := rel_int ha
    refine gives_same hH _ ?_ (.int _ _)
    rw [ex, hx]
    simp [convert, run_underlying h1, run_underlying h2, Conv.intToInt]
  | same =>
    obtain ⟨h1, h2⟩ := hk
    cases a <;> simp [evConv] at he
    obtain ⟨rfl, rfl⟩ := he
    obtain ⟨p, hx, rfl⟩ := rel_str ha
    refine gives_same hH _ ?_ (.str p _ rfl)
    rw [ex, hx]
    simp [convert, run_underlying h1, run_underlying h2]
  | runeStr =>
    obtain ⟨⟨j, h1⟩, h2⟩ := hk
    cases a <;> simp [evConv] at he
    obtain ⟨rfl, rfl⟩ := he
    have hx := rel_int ha
    refine gives_same hH _ ?_ (.str _ _ rfl)
    rw [ex, hx]
    simp [convert, run_underlying h1, run_underlying h2, Conv.intToString]
  | bytesStr =>
    obtain ⟨e, h1, h2, h3⟩ := hk
    simp only [evConv] at he
    cases hs : isSlice a with
    | false => simp [hs] at he
    | true =>
      simp only [hs, cond_true, convBytes] at he
      cases hl : lenV a with
      | none => simp [hl] at he
      | some n =>
        simp only [hl] at he
        cases hc : cellsOf H 1 n a with
        | none => simp [hc] at he
        | some cs =>
          simp only [hc] at he
          cases hb : bytesOf cs with
          | none => simp [hb] at he
          | some bs =>
            simp [hb] at he
            obtain ⟨rfl, rfl⟩ := he
            obtain ⟨ns, rfl, rfl⟩ := bytesOf_spec hb
            obtain ⟨p, cap, hx⟩ := slice_of ha hs hl
            have hcv : ∀ r, (Conv.bytesToString (ρ x)).run P w = .ok r w → (execOp ρ o).run P w = .ok (.value r) w := by
              intro r hr
              rw [ex, hx] at *
              simp [convert, run_underlying h1, run_underlying h2, run_underlying h3, hr]
            obtain ⟨cv, hrel, hone, hcase⟩ := cellsOf_spec (P := P) hH ha hc (fun m hm => by rw [hl] at hm; cases hm; exact Nat.le_refl _)
            have hcv' : cv = ns.map (Value.int .u8) := by
              apply List.ext_getElem?
              intro i
              have hlen := hrel.length
              by_cases hi : i < ns.length
              · obtain ⟨u, hu, hur⟩ := hrel.get (i := i) (x := .int .u8 ns[i]) (by simp [hi])
                rw [hu, rel_int hur]; simp [hi]
              · rw [List.getElem?_eq_none (by simp at hlen; omega), List.getElem?_eq_none (by simp; omega)]
            have fin : (Conv.bytesToString (ρ x)).run P w = .ok (.string (ns.foldl (fun r n => r.push (UInt8.ofNat n.toNat)) ByteArray.empty)) w → Gives P (execOp ρ o) G H w (.str (ns.map fun n => UInt8.ofNat n.toNat)) H := by
              intro hrun
              refine gives_same hH _ (hcv _ hrun) (.str _ _ ?_)
              have := push_all (ns.map fun n => UInt8.ofNat n.toNat) ByteArray.empty
              rw [List.foldl_map] at this
              simpa using this
            rcases hcase with ⟨hlen, h' | ⟨⟨p', cap', hx'⟩, h0, rfl⟩⟩ | ⟨st, hst, _⟩
            · obtain ⟨p', m, cap', hx', hm, hrun⟩ := h'
              rw [hx] at hx'
              cases hx'
              have := hrun w (fun _ => rfl)
              rw [hcv'] at this
              have := run_bytesToString w p' n cap ns (by simpa using this)
              exact fin (by rw [hx]; exact this)
            · have hns : ns = [] := by
                have := hrel.length
                simp only [List.length_nil, List.length_map] at this
                exact List.length_eq_zero_iff.1 this.symm
              subst hns
              have hn0 : n = 0 := by simpa using h0
              subst hn0
              cases p with
              | none => exact fin (by rw [hx]; simp [Conv.bytesToString])
              | some p => exact fin (by rw [hx]; exact run_bytesToString w p 0 cap [] (by simp [loadCells, loadCellsFrom]))
            · rw [hx] at hst; cases hst
  | strBytes =>
    obtain ⟨e, h1, h2, h3⟩ := hk
    cases a <;> simp [evConv] at he
    rename_i l
    obtain ⟨rfl, rfl⟩ := he
    obtain ⟨p, hx, rfl⟩ := rel_str ha
    let cap := grownCap w p.size 0 e
    let cells : Array Value := p.data.map (fun b => Value.int .u8 b.toNat) ++ Array.replicate (cap - p.size) (.int .u8 0)
    have hcap : p.size ≤ cap := grownCap_le' w p.size 0 e
    have hsize : cells.size = cap := by simp [cells]; show p.data.size + _ = cap; have : p.data.size = p.size := rfl; omega
    have hH1 := hH.drew
    have hrun : (execOp ρ o).run P w = .ok (.value (.slice (some ⟨w.heap.size, 0, none⟩) p.size cap)) ((w.drew.alloc (.cells cells e)).freeze ⟨w.heap.size, cap, none⟩ 1) := by
      rw [ex, hx]
      have hsh : (w.drew.alloc (.cells cells e)).shape? w.drew.heap.size = some (e, cap) := by
        simp only [World.shape?, heap_new]
        show some (e, cells.size) = _
        rw [hsize]
      simp only [convert, Sem.run_bind, run_underlying h1, run_underlying h2, run_underlying h3, Result.andThen_ok, Conv.stringToBytes, run_forced, run_newRow, markStringish, run_shape]
      simp only [cells, cap] at hsh ⊢
      rw [hsh]
      rfl
    have hw : ∀ k, k < w.heap.size → ((w.drew.alloc (.cells cells e)).freeze ⟨w.heap.size, cap, none⟩ 1).heap[k]? = w.heap[k]? := by
      intro k hk
      simp only [World.freeze, show ¬ (1 : Nat) = 0 by omega, if_false, Array.getElem?_modify]
      rw [if_neg (by omega), heap_alloc, Array.getElem?_push, if_neg (by show ¬ k = w.heap.size; omega)]
      rfl
    have hnew : ((w.drew.alloc (.cells cells e)).freeze ⟨w.heap.size, cap, none⟩ 1).heap[w.heap.size]? = some (.cells cells e (cap, cap + 1)) := by
      simp only [World.freeze, show ¬ (1 : Nat) = 0 by omega, if_false, Array.getElem?_modify]
      have := heap_new w.drew (.cells cells e)
      rw [show w.drew.heap.size = w.heap.size from rfl] at this
      rw [if_pos trivial, this]
      simp
    have L : Le G H w (G.more H.n w.heap.size 0 cap) (H.push (.cells 1 false (p.data.toList.map fun b => .int .u8 b.toNat))) ((w.drew.alloc (.cells cells e)).freeze ⟨w.heap.size, cap, none⟩ 1) :=
      push_le (Nat.le_refl _) hw (by simp [World.freeze]) (by simp [World.freeze]) (by simp [World.freeze]; rfl) (by simp [World.freeze]; rfl)
    refine ⟨_, _, _, .inl hrun, L, push_heap hH (Nat.le_refl _) hw L ?_, ?_⟩
    · refine .cells 1 false _ cells e (cap, cap + 1) (by rw [more_ι]; exact hnew) (by simp [Gh.more, hsize]) ?_ ?_ ?_ ?_
      · have : p.data.toList.length = p.size := by simp
        simp [Gh.more, hsize]; show p.data.size ≤ cap; exact hcap
      · intro k hk h'; rw [hsize] at hk; omega
      · have e1 : ((cells.toList.drop ((G.more H.n w.heap.size 0 cap).β H.n)).take (p.data.toList.map fun b => V.int .u8 b.toNat).length) = p.data.toList.map fun b => Value.int .u8 b.toNat := by
          simp only [Gh.more, if_true, List.drop_zero, cells, Array.toList_append, Array.toList_map]
          exact List.take_left' (by simp)
        rw [e1]
        refine RelL.of_get (by simp) fun i u x hu hx => ?_
        simp only [List.getElem?_map] at hu hx
        cases hq : p.data.toList[i]? with
        | none => simp [hq] at hu
        | some b => simp [hq] at hu hx; subst hu; subst hx; exact .int _ _
      · intro x hx
        obtain ⟨b, _, rfl⟩ := List.mem_map.1 hx
        rfl
    · have hlen : p.data.toList.length = p.size := by simp
      rw [hlen]
      exact .sl _ _ _ _ _ _ _ _ (Nat.lt_succ_self _) hcap (by simp) fun _ _ => by simp [Gh.more]

end
end Go.Am
