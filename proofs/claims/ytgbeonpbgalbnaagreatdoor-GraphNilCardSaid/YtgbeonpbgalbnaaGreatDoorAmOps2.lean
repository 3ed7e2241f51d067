/- EACH OPERATION, SIMULATED: the second part: what only computes. -/
import Derived.Test.YtgbeonpbgalbnaaGreatDoorAmOps1
import Derived.Laws.StructEq
namespace Go.Am
set_option autoImplicit false

section
variable {P : Program} {G : Gh} {H H' : Hp} {w : World} {ρ : Operand → Value} {o : Oper} {v : V}

theorem rel_int {c : Value} {k : IntKind} {n : Int} (h : Rel G H w c (.int k n)) : c = .int k n := by cases h; rfl
theorem rel_bool {c : Value} {b : Bool} (h : Rel G H w c (.bool b)) : c = .bool b := by cases h; rfl
theorem rel_str {c : Value} {s : List UInt8} (h : Rel G H w c (.str s)) : ∃ b : ByteArray, c = .string b ∧ b.data.toList = s := by cases h with | str b _ h => exact ⟨b, rfl, h⟩
theorem rel_agg {c : Value} {vs : List V} (h : Rel G H w c (.agg vs)) : ∃ cs : Array Value, c = .agg cs ∧ RelL G H w cs.toList vs ∧ ∀ v ∈ vs, v.one = true := by
  cases h with | agg cs _ h h1 => exact ⟨cs, rfl, h, h1⟩
theorem rel_tuple {c : Value} {vs : List V} (h : Rel G H w c (.tuple vs)) : ∃ cs : Array Value, c = .tuple cs ∧ RelL G H w cs.toList vs := by
  cases h with | tuple cs _ h => exact ⟨cs, rfl, h⟩
theorem rel_ptr {c : Value} {i q : Nat} (h : Rel G H w c (.ptr i q)) : ∃ a, c = .pointer (some a) ∧ i < H.n ∧ (H.live i → a = ⟨G.ι i, G.β i + q, none⟩) := by
  cases h with | ptr _ _ a hi ha => exact ⟨a, rfl, hi, ha⟩
theorem toList_data (b : ByteArray) : b.toList = b.data.toList := ByteArray.toList_eq b
theorem str_rel (b : ByteArray) : Rel G H w (.string b) (.str b.data.toList) := .str b _ rfl

theorem sim_nilchk {x : Operand} (ho : o.op = .nilCheck x) (hH : HeapRel G H w) {vs : List V} (hr : RelL G H w ([x].map ρ) vs) (he : evNilchk vs H = some (v, H')) :
    Gives P (execOp ρ o) G H w v H' := by
  obtain ⟨a, rfl, ha⟩ := one_arg hr
  have hc := ha
  cases a <;> simp [evNilchk] at he <;> obtain ⟨rfl, rfl⟩ := he <;> cases hx : ρ x <;> rw [hx] at ha <;> cases ha <;>
    (refine gives_same hH (ρ x) ?_ hc; unfold execOp; simp [ho, hx])

/-! ### numbers and texts -/
theorem run_intBin {op : BinOp} {k : IntKind} {a b : Int} {u : V} (t : TypeId) (h1 : op ≠ .shl) (h2 : op ≠ .shr) (h : intBin op k a b = some u) :
    ∃ c, (Go.binOp op t (.int k a) (.int k b)).run P w = .ok c w ∧ Rel G H w c u := by
  cases op <;> simp only [intBin] at h <;> try cases h
  case add => exact ⟨_, by simp [Go.binOp, Op.intArith], .int _ _⟩
  case sub => exact ⟨_, by simp [Go.binOp, Op.intArith], .int _ _⟩
  case mul => exact ⟨_, by simp [Go.binOp, Op.intArith], .int _ _⟩
  case quo =>
    split at h
    · cases h
    · rename_i hb; cases h; exact ⟨_, by simp [Go.binOp, Op.intDiv, hb], .int _ _⟩
  case rem =>
    split at h
    · cases h
    · rename_i hb; cases h; exact ⟨_, by simp [Go.binOp, Op.intDiv, hb], .int _ _⟩
  case and => exact ⟨_, by simp [Go.binOp, Op.intBits], .int _ _⟩
  case or => exact ⟨_, by simp [Go.binOp, Op.intBits], .int _ _⟩
  case xor => exact ⟨_, by simp [Go.binOp, Op.intBits], .int _ _⟩
  case andNot => exact ⟨_, by simp [Go.binOp, Op.intBits], .int _ _⟩
  case eql => exact ⟨_, by simp [Go.binOp, Op.intCmp], .bool _⟩
  case neq => exact ⟨_, by simp [Go.binOp, Op.intCmp], .bool _⟩
  case lss => exact ⟨_, by simp [Go.binOp, Op.intCmp], .bool _⟩
  case leq => exact ⟨_, by simp [Go.binOp, Op.intCmp], .bool _⟩
  case gtr => exact ⟨_, by simp [Go.binOp, Op.intCmp], .bool _⟩
  case geq => exact ⟨_, by simp [Go.binOp, Op.intCmp], .bool _⟩
theorem run_shiftBin {op : BinOp} {k k' : IntKind} {a b : Int} {u : V} (t : TypeId) (h12 : op = .shl ∨ op = .shr) (h : shiftBin op k a b = some u) :
    ∃ c, (Go.binOp op t (.int k a) (.int k' b)).run P w = .ok c w ∧ Rel G H w c u := by
  unfold shiftBin at h
  split at h
  · cases h
  · rename_i hb
    rcases h12 with rfl | rfl <;> cases h
    · exact ⟨_, by simp [Go.binOp, Op.shift, hb], .int _ _⟩
    · exact ⟨_, by simp [Go.binOp, Op.shift, hb], .int _ _⟩
theorem run_strBin {op : BinOp} {a b : ByteArray} {u : V} (t : TypeId) (h : strBin op a.data.toList b.data.toList = some u) :
    ∃ c, (Go.binOp op t (.string a) (.string b)).run P w = .ok c w ∧ Rel G H w c u := by
  cases op <;> simp only [strBin] at h <;> try cases h
  case add =>
    split at h
    · rename_i hl
      cases h
      have e : ¬ ((a.size + b.size : Nat) : Int) > IntKind.i64.max := by
        have h1 : a.data.toList.length = a.size := by simp
        have h2 : b.data.toList.length = b.size := by simp
        have : IntKind.i64.max = 9223372036854775807 := rfl
        rw [this]; omega
      refine ⟨.string (a ++ b), ?_, .str _ _ (by simp [ByteArray.data_append])⟩
      simp only [Go.binOp, Op.stringOp]
      rw [if_neg e]; rfl
    · cases h
  case eql => exact ⟨_, by simp only [Go.binOp, Op.stringOp, Sem.run_pure, toList_data], .bool _⟩
  case neq => exact ⟨_, by simp only [Go.binOp, Op.stringOp, Sem.run_pure, toList_data], .bool _⟩
  case lss => exact ⟨_, by simp only [Go.binOp, Op.stringOp, Sem.run_pure, toList_data], .bool _⟩
  case leq => exact ⟨_, by simp only [Go.binOp, Op.stringOp, Sem.run_pure, toList_data], .bool _⟩
  case gtr => exact ⟨_, by simp only [Go.binOp, Op.stringOp, Sem.run_pure, toList_data], .bool _⟩
  case geq => exact ⟨_, by simp only [Go.binOp, Op.stringOp, Sem.run_pure, toList_data], .bool _⟩
theorem sim_bin {op : BinOp} {t t' : TypeId} {x y : Operand} (ho : o.op = .binOp op t x y t') (hH : HeapRel G H w) {vs : List V} (hr : RelL G H w ([x, y].map ρ) vs)
    (he : evBin op vs H = some (v, H')) : Gives P (execOp ρ o) G H w v H' := by
  obtain ⟨a, b, rfl, ha, hb⟩ := two_args hr
  cases hv : binV op a b with
  | none => simp [evBin, hv] at he
  | some u =>
    simp [evBin, hv] at he
    obtain ⟨rfl, rfl⟩ := he
    have fin : ∀ c, (∀ (q : Operand), True) → (eqGuard op t x y (ρ x) (ρ y)).run P w = .ok () w → (Go.binOp op t (ρ x) (ρ y)).run P w = .ok c w → Rel G H w c u → Gives P (execOp ρ o) G H w u H := by
      intro c _ hg hrun hrel
      refine gives_same hH c ?_ hrel
      unfold execOp
      simp [ho, hg, hrun]
    cases a <;> cases b <;> simp only [binV] at hv <;> try cases hv
    · rename_i k n k' n'
      have hx := rel_int ha
      have hy := rel_int hb
      have hg : (eqGuard op t x y (ρ x) (ρ y)).run P w = .ok () w := by rw [hx, hy]; unfold eqGuard; cases op <;> simp
      by_cases h12 : op = .shl ∨ op = .shr
      · have hs : shiftBin op k n n' = some u := by rcases h12 with rfl | rfl <;> exact hv
        obtain ⟨c, h1, h2⟩ := run_shiftBin (P := P) (w := w) (G := G) (H := H) (k' := k') t h12 hs
        exact fin c (fun _ => trivial) hg (by rw [hx, hy]; exact h1) h2
      · have hs : (if k = k' then intBin op k n n' else none) = some u := by
          cases op <;> first | exact hv | simp at h12
        split at hs
        · rename_i hk
          subst hk
          obtain ⟨c, h1, h2⟩ := run_intBin (P := P) (w := w) (G := G) (H := H) t (fun e => h12 (.inl e)) (fun e => h12 (.inr e)) hs
          exact fin c (fun _ => trivial) hg (by rw [hx, hy]; exact h1) h2
        · cases hs
    · obtain ⟨p, hx, rfl⟩ := rel_str ha
      obtain ⟨q, hy, rfl⟩ := rel_str hb
      have hg : (eqGuard op t x y (ρ x) (ρ y)).run P w = .ok () w := by rw [hx, hy]; unfold eqGuard; cases op <;> simp
      obtain ⟨c, h1, h2⟩ := run_strBin (P := P) (w := w) (G := G) (H := H) t hv
      exact fin c (fun _ => trivial) hg (by rw [hx, hy]; exact h1) h2
theorem sim_un {op : UnOp} {t : TypeId} {x : Operand} (ho : o.op = .unOp op t x) (hH : HeapRel G H w) {vs : List V} (hr : RelL G H w ([x].map ρ) vs)
    (he : evUn op vs H = some (v, H')) : Gives P (execOp ρ o) G H w v H' := by
  obtain ⟨a, rfl, ha⟩ := one_arg hr
  cases hv : unV op a with
  | none => simp [evUn, hv] at he
  | some u =>
    simp [evUn, hv] at he
    obtain ⟨rfl, rfl⟩ := he
    cases op <;> cases a <;> simp only [unV] at hv <;> try cases hv
    · have hx := rel_int ha
      refine gives_same hH _ ?_ (.int _ _)
      unfold execOp; simp [ho, hx, Op.unary, Op.intArith]
    · have hx := rel_int ha
      refine gives_same hH _ ?_ (.int _ _)
      unfold execOp; simp [ho, hx, Op.unary, Op.intBits]
    · have hx := rel_bool ha
      refine gives_same hH _ ?_ (.bool _)
      unfold execOp; simp [ho, hx, Op.unary]
theorem sim_minmax {x y : Operand} {c : Call} (ho : o.op = .call c) (hb : c.callee = .builtin .min ∨ c.callee = .builtin .max) (ha : c.args.toList = [x, y]) (hH : HeapRel G H w) {vs : List V}
    (hr : RelL G H w ([x, y].map ρ) vs) (he : (if c.callee matches .builtin .min then evMin else evMax) vs H = some (v, H')) : Gives P (execOp ρ o) G H w v H' := by
  obtain ⟨a, b, rfl, ha', hb'⟩ := two_args hr
  have hargs : c.args = #[x, y] := by rw [← Array.toArray_toList (xs := c.args), ha]
  rcases hb with hb | hb <;> simp only [hb] at he
  · cases a <;> cases b <;> simp [evMin] at he
    obtain ⟨rfl, rfl⟩ := he
    have hx := rel_int ha'
    have hy := rel_int hb'
    refine gives_same hH _ ?_ (.int _ _)
    unfold execOp
    simp [ho, resolve, hb, hargs, hx, hy, invoke, Go.builtin, Builtin.min_, Builtin.min2]
  · cases a <;> cases b <;> simp [evMax] at he
    obtain ⟨rfl, rfl⟩ := he
    have hx := rel_int ha'
    have hy := rel_int hb'
    refine gives_same hH _ ?_ (.int _ _)
    unfold execOp
    simp [ho, resolve, hb, hargs, hx, hy, invoke, Go.builtin, Builtin.max_, Builtin.max2]

/-! ### comparing -/
theorem fieldsK_spec {ss : List SK} : ∀ {fs : List Field} {k : Nat}, fieldsK P k fs = some ss → fs.length = ss.length ∧
    ∀ j f s, fs[j]? = some f → ss[j]? = some s → f.offset = k + j ∧ f.name ≠ "_" ∧ skT P f.type = some s ∧ cellT P f.type = some (1, false) := by
  induction ss with
  | nil =>
    intro fs k h
    cases fs with
    | nil => exact ⟨rfl, by simp⟩
    | cons f fs =>
      simp only [fieldsK] at h
      split at h
      · cases hb : (Nat.beq f.offset k && f.name != "_") <;> simp [hb] at h
      · cases h
  | cons s ss ih =>
    intro fs k h
    cases fs with
    | nil => simp [fieldsK] at h
    | cons f fs =>
      simp only [fieldsK] at h
      split at h
      · rename_i s' ss' h1 h2 h3
        cases hb : (Nat.beq f.offset k && f.name != "_") with
        | false => simp [hb] at h
        | true =>
          simp only [hb, cond_true, Option.some.injEq, List.cons.injEq] at h
          obtain ⟨rfl, rfl⟩ := h
          obtain ⟨hl, hr⟩ := ih h3
          simp only [Bool.and_eq_true, beq_iff, bne_iff_ne] at hb
          refine ⟨by simp [hl], fun j g u hg hu => ?_⟩
          cases j with
          | zero =>
            simp at hg hu
            subst hg; subst hu
            exact ⟨by simp [hb.1], hb.2, h1, h2⟩
          | succ j =>
            obtain ⟨a, b, c, d⟩ := hr j g u (by simpa using hg) (by simpa using hu)
            exact ⟨by omega, b, c, d⟩
      · cases h
/-- A plain value's kind and its type. -/
theorem skT_eq {t : TypeId} {s : SK} (h : skT P t = some s) : (s = .int ∧ ∃ k, P.underlying t = some (.int k)) ∨ (s = .bool ∧ P.underlying t = some .bool) ∨ (s = .str ∧ P.underlying t = some .string) := by
  unfold skT at h
  split at h <;> try cases h
  · exact .inr (.inl ⟨rfl, by assumption⟩)
  · exact .inl ⟨rfl, _, by assumption⟩
  · exact .inr (.inr ⟨rfl, by assumption⟩)
theorem run_eqOne {t : TypeId} {s : SK} (hs : skT P t = some s) {x y : V} {a b : Value} (ha : Rel G H w a x) (hb : Rel G H w b y) (hx : skOk s x = true) {r : Bool} (h : sameKey x y = some r) (d : Nat) :
    (Op.equalIn (d + 1) t a b).run P w = .ok r w := by
  rcases skT_eq hs with ⟨rfl, k, hu⟩ | ⟨rfl, hu⟩ | ⟨rfl, hu⟩
  · cases x <;> simp [skOk] at hx
    cases y <;> simp only [sameKey] at h <;> try cases h
    split at h
    · rename_i hk
      cases h
      rw [rel_int ha, rel_int hb, hk]
      exact run_equalIn_int w d t _ k _ _ hu
    · cases h
  · cases x <;> simp [skOk] at hx
    cases y <;> simp only [sameKey] at h <;> cases h
    rw [rel_bool ha, rel_bool hb]
    exact run_equalIn_bool' w d t _ _ hu
  · cases x <;> simp [skOk] at hx
    cases y <;> simp only [sameKey] at h <;> cases h
    obtain ⟨p, e1, e2⟩ := rel_str ha
    obtain ⟨q, e3, e4⟩ := rel_str hb
    rw [e1, e3, run_equalIn_string w d t _ _ hu, toList_data, toList_data, e2, e4]
theorem scalarsEq_cons {x y : V} {xs ys : List V} {r : Bool} (h : scalarsEq (x :: xs) (y :: ys) = some r) (h1 : x.one = true) :
    ∃ r1 r2, sameKey x y = some r1 ∧ scalarsEq xs ys = some r2 ∧ r = (r1 && r2) := by
  cases x <;> cases y <;> simp only [scalarsEq] at h <;> try cases h
  · split at h
    · rename_i hk
      cases h2 : scalarsEq xs ys with
      | none => simp [h2] at h
      | some r2 => simp [h2] at h; exact ⟨_, r2, by simp only [sameKey]; rw [if_pos hk], rfl, h.symm⟩
    · cases h
  · cases h2 : scalarsEq xs ys with
    | none => simp [h2] at h
    | some r2 => simp [h2] at h; exact ⟨_, r2, rfl, rfl, h.symm⟩
  · cases h2 : scalarsEq xs ys with
    | none => simp [h2] at h
    | some r2 => simp [h2] at h; exact ⟨_, r2, rfl, rfl, h.symm⟩
theorem skOk_one {s : SK} {x : V} (h : skOk s x = true) : x.one = true := by cases s <;> cases x <;> simp [skOk] at h <;> rfl
theorem run_part_one {t : TypeId} (hc : cellT P t = some (1, false)) {cs : Array Value} {q : Nat} {a : Value} (ha : cs.toList[q]? = some a) : (part t cs q).run P w = .ok a w := by
  have h2 : cs[q]? = some a := by simpa using ha
  unfold part
  rw [Sem.run_bind, run_agg w (cellT_spec hc).2.1]
  simp [h2]
theorem run_eqFields {xs ys : Array Value} (d : Nat) : ∀ (fs : List Field) (ss : List SK) (k : Nat) (as bs : List V) (r : Bool), fieldsK P k fs = some ss →
    RelL G H w (xs.toList.drop k) as → RelL G H w (ys.toList.drop k) bs → sksOk ss as = true → scalarsEq as bs = some r → (Op.eqFields (d + 1) xs ys fs).run P w = .ok r w
  | [], ss, k, as, bs, r, hf, ha, hb, hk, h => by
    simp only [fieldsK, Option.some.injEq] at hf
    subst hf
    cases as with
    | cons _ _ => simp [sksOk] at hk
    | nil =>
      cases bs with
      | cons _ _ => simp [scalarsEq] at h
      | nil => simp only [scalarsEq, Option.some.injEq] at h; subst h; rfl
  | f :: fs, ss, k, as, bs, r, hf, ha, hb, hk, h => by
    have hl := (fieldsK_spec hf).1
    cases ss with
    | nil => simp at hl
    | cons s ss =>
      obtain ⟨ho, hn, hs, hc⟩ := (fieldsK_spec hf).2 0 f s rfl rfl
      cases as with
      | nil => simp [sksOk] at hk
      | cons x as =>
        cases bs with
        | nil => cases x <;> simp [scalarsEq] at h
        | cons y bs =>
          simp only [sksOk, Bool.and_eq_true] at hk
          obtain ⟨r1, r2, h1, h2, rfl⟩ := scalarsEq_cons h (skOk_one hk.1)
          have hf' : fieldsK P (k + 1) fs = some ss := by
            simp only [fieldsK] at hf
            split at hf
            · rename_i s' ss' e1 e2 e3
              cases hb : (Nat.beq f.offset k && f.name != "_") <;> simp [hb] at hf
              rw [e3, hf.2]
            · cases hf
          obtain ⟨p, hp, hpr⟩ := ha.get (i := 0) rfl
          obtain ⟨q, hq, hqr⟩ := hb.get (i := 0) rfl
          simp at hp hq
          have e1 := run_part_one (P := P) (w := w) hc (cs := xs) (q := k) (by simpa using hp)
          have e2 := run_part_one (P := P) (w := w) hc (cs := ys) (q := k) (by simpa using hq)
          have e3 := run_eqOne hs hpr hqr hk.1 h1 d
          have ih := run_eqFields d fs ss (k + 1) as bs r2 hf' (by have := ha.drop 1; simpa [Nat.add_comm] using this) (by have := hb.drop 1; simpa [Nat.add_comm] using this) hk.2 h2
          simp only [Nat.add_zero] at ho
          simp only [Op.eqFields, ho]
          rw [if_pos hn, Sem.run_bind, e1, Result.andThen_ok, Sem.run_bind, e2, Result.andThen_ok, Sem.run_bind, e3, Result.andThen_ok]
          cases r1
          · simp
          · simpa using ih
theorem scalarsT_spec {t : TypeId} {ss : List SK} (h : scalarsT P t = some ss) : ∃ fs, P.underlying t = some (.struct fs) ∧ fieldsK P 0 fs.toList = some ss ∧ P.stoodInHeld t = false ∧ P.eqGuardType P.depth t = false := by
  unfold scalarsT at h
  split at h
  · rename_i fs hu
    cases hb : (!P.stoodInHeld t && !P.eqGuardType P.depth t) with
    | false => simp [hb] at h
    | true =>
      simp only [hb, cond_true] at h
      simp only [Bool.and_eq_true, Bool.not_eq_true'] at hb
      exact ⟨fs, hu, h, hb.1, hb.2⟩
  · cases h
theorem run_eqAgg {t : TypeId} {ss : List SK} (ht : scalarsT P t = some ss) {as bs : List V} {xs ys : Array Value} (ha : RelL G H w xs.toList as) (hb : RelL G H w ys.toList bs)
    (hk : sksOk ss as = true) {r : Bool} (h : scalarsEq as bs = some r) : (Op.equal t (.agg xs) (.agg ys)).run P w = .ok r w := by
  obtain ⟨fs, hu, hf, hp, _⟩ := scalarsT_spec ht
  have hfo : P.fieldsOf t = fs := by unfold Program.fieldsOf; rw [hu]
  show (Op.equalIn (9999 + 1) t (.agg xs) (.agg ys)).run P w = _
  rw [run_equalIn_struct w 9999 t xs ys (by rw [hfo, hu]) hp, hfo]
  exact run_eqFields 9998 fs.toList ss 0 as bs r hf (by simpa using ha) (by simpa using hb) hk h
theorem eqNil_spec {a b : Option Bool} {r : Bool} (h : eqNil a b = some r) : ∃ p q, a = some p ∧ b = some q ∧ (p || q) = true ∧ r = (p && q) := by
  cases a with
  | none => simp [eqNil] at h
  | some p =>
    cases b with
    | none => cases p <;> simp [eqNil] at h
    | some q => cases p <;> cases q <;> simp [eqNil] at h <;> subst h <;> exact ⟨_, _, rfl, rfl, rfl, rfl⟩
theorem nil_ptr {c : Value} {x : V} {b : Bool} (h : Rel G H w c x) (hn : isNilK .ptr x = some b) : ∃ p, c = .pointer p ∧ p.isNone = b := by
  cases h <;> simp [isNilK] at hn <;> subst hn <;> exact ⟨_, rfl, rfl⟩
theorem nil_slice {c : Value} {x : V} {b : Bool} (h : Rel G H w c x) (hn : isNilK .slice x = some b) : ∃ p n k, c = .slice p n k ∧ p.isNone = b := by
  cases h with
  | psl b' q n cap ar e fr vs full es hl hnc hf hb hu he hs h h1 ht => cases vs <;> simp [isNilK] at hn; subst hn; exact ⟨_, _, _, rfl, rfl⟩
  | _ => simp [isNilK] at hn <;> subst hn <;> exact ⟨_, _, _, rfl, rfl⟩
theorem nil_map {c : Value} {x : V} {b : Bool} (h : Rel G H w c x) (hn : isNilK .map x = some b) : ∃ p, c = .map p ∧ p.isNone = b := by
  cases h <;> simp [isNilK] at hn <;> subst hn <;> exact ⟨_, rfl, rfl⟩
theorem nil_func {c : Value} {x : V} {b : Bool} (h : Rel G H w c x) (hn : isNilK .func x = some b) : (c = .nilFunc ∧ b = true) ∨ ∃ f a d, c = .func f a d ∧ b = false := by
  cases h <;> simp [isNilK] at hn <;> subst hn
  · exact .inr ⟨_, _, _, rfl, rfl⟩
  · exact .inl ⟨rfl, rfl⟩
theorem nil_iface {c : Value} {x : V} {b : Bool} (h : Rel G H w c x) (hn : isNilK .iface x = some b) : (c = .nilIface ∧ b = true) ∨ ∃ t v, c = .iface t v ∧ b = false := by
  cases h <;> simp [isNilK] at hn <;> subst hn
  · exact .inr ⟨_, _, rfl, rfl⟩
  · exact .inl ⟨rfl, rfl⟩
theorem eqAt {t : TypeId} {x y : Value} {r : Bool} (h : ∀ n, (Op.equalIn (n + 1) t x y).run P w = .ok r w) : (Op.equal t x y).run P w = .ok r w := h 9999
section
variable {t : TypeId}
theorem eqIn_ptr {e : TypeId} (hu : P.underlying t = some (.pointer e)) (p q : Option Addr) (h : (p.isNone || q.isNone) = true) :
    (Op.equal t (.pointer p) (.pointer q)).run P w = .ok (p.isNone && q.isNone) w := by
  cases p <;> cases q <;> simp at h <;> exact eqAt fun n => by simp [Op.equalIn, run_underlying hu]
theorem eqIn_slice {e : TypeId} (hu : P.underlying t = some (.slice e)) (p q : Option Addr) (m n k l : Nat) (h : (p.isNone || q.isNone) = true) :
    (Op.equal t (.slice p m n) (.slice q k l)).run P w = .ok (p.isNone && q.isNone) w := by
  cases p <;> cases q <;> simp at h <;> exact eqAt fun n => by simp [Op.equalIn, run_underlying hu]
theorem eqIn_map {e d : TypeId} (hu : P.underlying t = some (.map e d)) (p q : Option Nat) (h : (p.isNone || q.isNone) = true) :
    (Op.equal t (.map p) (.map q)).run P w = .ok (p.isNone && q.isNone) w := by
  cases p <;> cases q <;> simp at h <;> exact eqAt fun n => by simp [Op.equalIn, run_underlying hu]
theorem eqIn_func {a b : Array TypeId} {c : Bool} (hu : P.underlying t = some (.func a b c)) (f g : Fn) (x y x' y' : Array Value) :
    (Op.equal t .nilFunc .nilFunc).run P w = .ok true w ∧ (Op.equal t .nilFunc (.func f x y)).run P w = .ok false w ∧ (Op.equal t (.func g x' y') .nilFunc).run P w = .ok false w := by
  refine ⟨?_, ?_, ?_⟩ <;> exact eqAt fun n => by simp [Op.equalIn, run_underlying hu]
theorem eqIn_iface {m : Array (String × TypeId)} (hu : P.underlying t = some (.interface m)) (e d : TypeId) (x y : Value) :
    (Op.equal t .nilIface .nilIface).run P w = .ok true w ∧ (Op.equal t .nilIface (.iface e x)).run P w = .ok false w ∧ (Op.equal t (.iface d y) .nilIface).run P w = .ok false w := by
  refine ⟨?_, ?_, ?_⟩ <;> exact eqAt fun n => by simp [Op.equalIn, run_underlying hu]
theorem guardNo (x y : Operand) (c d : Value) (h1 : ∀ z, c ≠ .agg z) (h2 : c = .nilIface → d ≠ .nilIface) (op : BinOp) : (eqGuard op t x y c d).run P w = .ok () w := by
  unfold eqGuard
  cases op <;> simp
  all_goals cases c <;> cases d <;> simp_all
/-- What == and != do where they compare by the type. -/
def BinAs (P : Program) (w : World) (t : TypeId) (c d : Value) : Prop := ∀ op, op = .eql ∨ op = .neq →
  (Go.binOp op t c d).run P w = ((Op.equal t c d).run P w).andThen fun r w => .ok (.bool (if op = .eql then r else !r)) w
theorem binNo (c d : Value) (h1 : ∀ k n, c ≠ .int k n) (h2 : ∀ k n, c ≠ .float k n) (h3 : ∀ k n m, c ≠ .complex k n m) (h4 : ∀ s, c ≠ .string s) : BinAs P w t c d := by
  intro op hop
  rcases hop with rfl | rfl <;> cases c <;> first | (exfalso; first | exact h1 _ _ rfl | exact h2 _ _ rfl | exact h3 _ _ _ rfl | exact h4 _ rfl) | (simp [Go.binOp])
end
/-- The comparison's three parts. -/
def EqRuns (P : Program) (w : World) (t : TypeId) (x y : Operand) (c d : Value) (r : Bool) : Prop :=
  (Op.equal t c d).run P w = .ok r w ∧ (∀ op, (eqGuard op t x y c d).run P w = .ok () w) ∧ BinAs P w t c d
theorem run_eqK {x y : Operand} {t : TypeId} {k : EqK} (hk : eqOf P x y t = some (some k)) {a b : V} {c d : Value} (ha : Rel G H w c a) (hb : Rel G H w d b) {r : Bool} (h : eqV k a b = some r) :
    EqRuns P w t x y c d r := by
  unfold eqOf at hk
  split at hk <;> try cases hk
  · -- bool
    rename_i hu
    cases a <;> cases b <;> simp only [eqV, eqBool] at h <;> cases h
    rw [rel_bool ha, rel_bool hb]
    exact ⟨run_equalIn_bool' w 9999 t _ _ hu, guardNo _ _ _ _ (by simp) (by simp), binNo _ _ (by simp) (by simp) (by simp) (by simp)⟩
  · -- pointers
    rename_i e hu
    cases hc : cellT P e with
    | none => simp [hc] at hk
    | some z =>
      simp [hc] at hk
      subst hk
      obtain ⟨p, q, h1, h2, h3, rfl⟩ := eqNil_spec h
      obtain ⟨c1, rfl, rfl⟩ := nil_ptr ha h1
      obtain ⟨c2, rfl, rfl⟩ := nil_ptr hb h2
      exact ⟨eqIn_ptr hu _ _ h3, guardNo _ _ _ _ (by simp) (by simp), binNo _ _ (by simp) (by simp) (by simp) (by simp)⟩
  · -- slices
    rename_i e hu
    obtain ⟨p, q, h1, h2, h3, rfl⟩ := eqNil_spec h
    obtain ⟨c1, m1, k1, rfl, rfl⟩ := nil_slice ha h1
    obtain ⟨c2, m2, k2, rfl, rfl⟩ := nil_slice hb h2
    exact ⟨eqIn_slice hu _ _ _ _ _ _ h3, guardNo _ _ _ _ (by simp) (by simp), binNo _ _ (by simp) (by simp) (by simp) (by simp)⟩
  · -- maps
    rename_i e1 e2 hu
    obtain ⟨p, q, h1, h2, h3, rfl⟩ := eqNil_spec h
    obtain ⟨c1, rfl, rfl⟩ := nil_map ha h1
    obtain ⟨c2, rfl, rfl⟩ := nil_map hb h2
    exact ⟨eqIn_map hu _ _ h3, guardNo _ _ _ _ (by simp) (by simp), binNo _ _ (by simp) (by simp) (by simp) (by simp)⟩
  · -- functions
    rename_i e1 e2 e3 hu
    obtain ⟨p, q, h1, h2, h3, rfl⟩ := eqNil_spec h
    rcases nil_func ha h1 with ⟨rfl, rfl⟩ | ⟨f1, a1, b1, rfl, rfl⟩ <;> rcases nil_func hb h2 with ⟨rfl, rfl⟩ | ⟨f2, a2, b2, rfl, rfl⟩
    · exact ⟨(eqIn_func hu (.func 0) (.func 0) #[] #[] #[] #[]).1, guardNo _ _ _ _ (by simp) (by simp), binNo _ _ (by simp) (by simp) (by simp) (by simp)⟩
    · exact ⟨(eqIn_func hu f2 (.func 0) a2 b2 #[] #[]).2.1, guardNo _ _ _ _ (by simp) (by simp), binNo _ _ (by simp) (by simp) (by simp) (by simp)⟩
    · exact ⟨(eqIn_func hu (.func 0) f1 #[] #[] a1 b1).2.2, guardNo _ _ _ _ (by simp) (by simp), binNo _ _ (by simp) (by simp) (by simp) (by simp)⟩
    · cases h3
  · -- interfaces
    rename_i e1 hu
    cases hc : (isConstO x || isConstO y) with
    | false => simp [hc] at hk
    | true =>
      simp [hc] at hk
      subst hk
      obtain ⟨p, q, h1, h2, h3, rfl⟩ := eqNil_spec h
      rcases nil_iface ha h1 with ⟨rfl, rfl⟩ | ⟨t1, v1, rfl, rfl⟩ <;> rcases nil_iface hb h2 with ⟨rfl, rfl⟩ | ⟨t2, v2, rfl, rfl⟩
      · refine ⟨(eqIn_iface hu 0 0 .nilFunc .nilFunc).1, fun op => ?_, binNo _ _ (by simp) (by simp) (by simp) (by simp)⟩
        unfold eqGuard
        cases x <;> cases y <;> simp [isConstO] at hc <;> cases op <;> simp
      · exact ⟨(eqIn_iface hu t2 0 v2 .nilFunc).2.1, guardNo _ _ _ _ (by simp) (by simp), binNo _ _ (by simp) (by simp) (by simp) (by simp)⟩
      · exact ⟨(eqIn_iface hu 0 t1 .nilFunc v1).2.2, guardNo _ _ _ _ (by simp) (by simp), binNo _ _ (by simp) (by simp) (by simp) (by simp)⟩
      · cases h3
  · -- structs
    rename_i fs hu
    cases hs : scalarsT P t with
    | none => simp [hs] at hk
    | some ss =>
      simp [hs] at hk
      subst hk
      cases a <;> cases b <;> simp only [eqV, eqAgg] at h <;> try cases h
      rename_i as bs
      cases hq : sksOk ss as with
      | false => simp [hq] at h
      | true =>
        simp only [hq, cond_true] at h
        obtain ⟨xs, rfl, r1, _⟩ := rel_agg ha
        obtain ⟨ys, rfl, r2, _⟩ := rel_agg hb
        exact ⟨run_eqAgg hs r1 r2 hq h, fun op => run_eqGuard_agg w op t x y xs ys (scalarsT_spec hs).choose_spec.2.2.2, binNo _ _ (by simp) (by simp) (by simp) (by simp)⟩
theorem sim_eq {op : BinOp} {t t' : TypeId} {x y : Operand} {k : EqK} (hop : op = .eql ∨ op = .neq) (ho : o.op = .binOp op t x y t') (hk : eqOf P x y t = some (some k)) (hH : HeapRel G H w) {vs : List V}
    (hr : RelL G H w ([x, y].map ρ) vs) (he : evEq (op == .neq) k vs H = some (v, H')) : Gives P (execOp ρ o) G H w v H' := by
  obtain ⟨a, b, rfl, ha, hb⟩ := two_args hr
  cases hv : eqV k a b with
  | none => simp [evEq, hv] at he
  | some r =>
    simp only [evEq, hv, Option.map_some, Option.some.injEq, Prod.mk.injEq] at he
    obtain ⟨rfl, rfl⟩ := he
    obtain ⟨h1, h2, h3⟩ := run_eqK hk ha hb hv
    refine gives_same hH (.bool (if op = .eql then r else !r)) ?_ ?_
    · unfold execOp
      simp [ho, h2 op, h3 op hop, h1]
    · rcases hop with rfl | rfl <;> cases r <;> exact .bool _
end
end Go.Am
