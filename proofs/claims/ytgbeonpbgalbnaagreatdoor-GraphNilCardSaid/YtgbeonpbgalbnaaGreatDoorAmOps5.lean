/- EACH OPERATION, SIMULATED: the fifth part: cutting, making, appending, copying, clearing slices. -/
import Derived.Test.YtgbeonpbgalbnaaGreatDoorAmOps4
namespace Go.Am
set_option autoImplicit false

section
variable {P : Program} {G : Gh} {H H' : Hp} {w : World} {ρ : Operand → Value} {o : Oper} {v : V}

/-! ### bounds -/
/-- An operand that may be missing. -/
def OptRel (G : Gh) (H : Hp) (w : World) : Option Value → Option V → Prop
  | none, none => True
  | some c, some x => Rel G H w c x
  | _, _ => False
theorem run_bound {c : Value} {x : V} (h : Rel G H w c x) {top y k : Nat} (hk : inTop x top = some k) (hy : top ≤ y) (code : BoundsCode) :
    (Instr.sliceBound c y code).run P w = .ok k w ∧ k ≤ top := by
  cases x <;> simp only [inTop] at hk <;> try cases hk
  rename_i kd i
  obtain ⟨h0, h1, h2⟩ := idxOf_spec hk
  rw [rel_int h]
  have h3 : i ≤ y := by omega
  exact ⟨by simp [Instr.sliceBound, asIntOf, h0, h3, h2], by omega⟩
theorem run_bounds {len cap : Nat} {kc : Option Nat} {lo hi mx : Option V} {clo chi cmx : Option Value} {l h : Nat} {m : Option Nat} (hb : bounds len kc lo hi mx = some (l, h, m))
    (hk : ∀ c, kc = some c → cap = c) (hl : len ≤ cap) (rl : OptRel G H w clo lo) (rh : OptRel G H w chi hi) (rm : OptRel G H w cmx mx) (isSl : Bool) :
    ∃ mc, (Instr.sliceBounds isSl len cap clo chi cmx).run P w = .ok (l, h, mc) w ∧ l ≤ h ∧ h ≤ mc ∧ mc ≤ cap ∧ (∀ m', m = some m' → mc = m') ∧ (kc = none → h ≤ len) := by
  have htop : kc.getD len ≤ cap := by
    cases kc with
    | none => exact hl
    | some c => rw [hk c rfl]; exact Nat.le_refl _
  unfold bounds at hb
  cases hm : boundM kc (kc.getD len) mx with
  | none => simp [hm] at hb
  | some m1 =>
    simp only [hm] at hb
    cases hh : boundH len (kc.getD len) m1 hi mx with
    | none => simp [hh] at hb
    | some h1 =>
      simp only [hh] at hb
      cases hlo : boundL h1 lo with
      | none => simp [hlo] at hb
      | some l1 =>
        simp only [hlo, Option.some.injEq, Prod.mk.injEq] at hb
        obtain ⟨rfl, rfl, rfl⟩ := hb
        have hL : (lo = none ∧ clo = none ∧ l1 = 0) ∨ ∃ c, clo = some c ∧ ∀ code, (Instr.sliceBound c h1 code).run P w = .ok l1 w := by
          cases lo with
          | none => cases clo with
            | some _ => exact rl.elim
            | none => simp [boundL] at hlo; exact .inl ⟨rfl, rfl, hlo.symm⟩
          | some x => cases clo with
            | none => exact rl.elim
            | some c => exact .inr ⟨c, rfl, fun code => (run_bound (P := P) rl hlo (Nat.le_refl _) code).1⟩
        have hlh : l1 ≤ h1 := by
          cases lo with
          | none => simp [boundL] at hlo; omega
          | some x => cases clo with
            | none => exact rl.elim
            | some c => exact (run_bound (P := P) rl hlo (Nat.le_refl _) .index).2
        cases mx with
        | some x =>
          cases cmx with
          | none => exact rm.elim
          | some c =>
            cases hi with
            | none => simp [boundH] at hh
            | some y =>
              cases chi with
              | none => exact rh.elim
              | some d =>
                simp only [boundM] at hm
                cases hi1 : inTop x (kc.getD len) with
                | none => simp [hi1] at hm
                | some mm =>
                  simp [hi1] at hm
                  subst hm
                  simp only [boundH, Option.getD_some] at hh
                  obtain ⟨r1, r2⟩ := run_bound (P := P) rm hi1 htop (if isSl then .slice3Acap else .slice3Alen)
                  obtain ⟨r3, r4⟩ := run_bound (P := P) rh hh (Nat.le_refl _) .slice3B
                  refine ⟨mm, ?_, hlh, r4, by omega, fun m' e => by cases e; rfl, fun e => by subst e; simp at r2; omega⟩
                  rcases hL with ⟨_, rfl, rfl⟩ | ⟨e, rfl, r5⟩
                  · simp [Instr.sliceBounds, r1, r3]
                  · simp [Instr.sliceBounds, r1, r3, r5]
        | none =>
          cases cmx with
          | some _ => exact rm.elim
          | none =>
            simp only [boundM, Option.some.injEq] at hm
            subst hm
            cases hi with
            | none => cases chi with
              | some _ => exact rh.elim
              | none =>
                simp [boundH] at hh
                subst hh
                refine ⟨cap, ?_, hlh, hl, Nat.le_refl _, fun m' e => hk m' e, fun _ => Nat.le_refl _⟩
                rcases hL with ⟨_, rfl, rfl⟩ | ⟨e, rfl, r5⟩
                · simp [Instr.sliceBounds]
                · simp [Instr.sliceBounds, r5]
            | some y => cases chi with
              | none => exact rh.elim
              | some d =>
                simp only [boundH] at hh
                obtain ⟨r3, r4⟩ := run_bound (P := P) rh hh htop (if isSl then .sliceAcap else .sliceAlen)
                refine ⟨cap, ?_, hlh, by omega, Nat.le_refl _, fun m' e => hk m' e, fun e => by subst e; simpa using r4⟩
                rcases hL with ⟨_, rfl, rfl⟩ | ⟨e, rfl, r5⟩
                · simp [Instr.sliceBounds, r3]
                · simp [Instr.sliceBounds, r3, r5]
theorem sliceArgs_spec {l h m : Option Operand} {bs : List V} (hr : RelL G H w ((l.toList ++ h.toList ++ m.toList).map ρ) bs) {a b c : Option V} (hs : sliceArgs l.isSome h.isSome m.isSome bs = (a, b, c)) :
    OptRel G H w (l.map ρ) a ∧ OptRel G H w (h.map ρ) b ∧ OptRel G H w (m.map ρ) c := by
  have nilOf : ∀ {xs : List V}, RelL G H w [] xs → xs = [] := fun h => by cases h; rfl
  have consOf : ∀ {y : Value} {ys : List Value} {xs : List V}, RelL G H w (y :: ys) xs → ∃ z zs, xs = z :: zs ∧ Rel G H w y z ∧ RelL G H w ys zs := fun h => by cases h with | cons _ z _ zs h hs => exact ⟨z, zs, rfl, h, hs⟩
  cases l <;> cases h <;> cases m <;> simp [sliceArgs] at hr hs
  · obtain ⟨rfl, rfl, rfl⟩ := hs; exact ⟨trivial, trivial, trivial⟩
  · obtain ⟨z, zs, rfl, r, _⟩ := consOf hr; simp at hs; obtain ⟨rfl, rfl, rfl⟩ := hs; exact ⟨trivial, trivial, r⟩
  · obtain ⟨z, zs, rfl, r, _⟩ := consOf hr; simp at hs; obtain ⟨rfl, rfl, rfl⟩ := hs; exact ⟨trivial, r, trivial⟩
  · obtain ⟨z, zs, rfl, r, r'⟩ := consOf hr; obtain ⟨z', zs', rfl, r2, _⟩ := consOf r'; simp at hs; obtain ⟨rfl, rfl, rfl⟩ := hs; exact ⟨trivial, r, r2⟩
  · obtain ⟨z, zs, rfl, r, _⟩ := consOf hr; simp at hs; obtain ⟨rfl, rfl, rfl⟩ := hs; exact ⟨r, trivial, trivial⟩
  · obtain ⟨z, zs, rfl, r, r'⟩ := consOf hr; obtain ⟨z', zs', rfl, r2, _⟩ := consOf r'; simp at hs; obtain ⟨rfl, rfl, rfl⟩ := hs; exact ⟨r, trivial, r2⟩
  · obtain ⟨z, zs, rfl, r, r'⟩ := consOf hr; obtain ⟨z', zs', rfl, r2, _⟩ := consOf r'; simp at hs; obtain ⟨rfl, rfl, rfl⟩ := hs; exact ⟨r, r2, trivial⟩
  · obtain ⟨z, zs, rfl, r, r'⟩ := consOf hr; obtain ⟨z', zs', rfl, r2, r''⟩ := consOf r'; obtain ⟨z2, zs2, rfl, r3, _⟩ := consOf r''; simp at hs; obtain ⟨rfl, rfl, rfl⟩ := hs; exact ⟨r, r2, r3⟩

/-! ### cutting -/
theorem sl_cut {a : Addr} {i q n cap es : Nat} {kc : Option Nat} {ag : Bool} (hx : Rel G H w (.slice (some a) n cap) (.sl i q n kc es ag)) {l h mc : Nat} {m : Option Nat} (h1 : l ≤ h) (h2 : h ≤ mc) (h3 : mc ≤ cap)
    (h4 : ∀ m', m = some m' → mc = m') : Rel G H w (.slice (if mc = l then some a else some (a.add (l * es))) (h - l) (mc - l)) (.sl i (q + l * es) (h - l) (m.map (· - l)) es ag) := by
  obtain ⟨a', cap', e, hi, hn, hk, ha⟩ := rel_sl hx
  cases e
  have hks : ∀ c, m.map (· - l) = some c → mc - l = c := fun c hc => by
    cases m with
    | none => simp at hc
    | some m' => simp at hc; have := h4 m' rfl; omega
  by_cases e : mc = l
  · rw [if_pos e]
    exact .sl _ _ _ _ _ _ _ _ hi (by omega) hks fun _ h0 => absurd (by omega) h0
  · rw [if_neg e]
    refine .sl _ _ _ _ _ _ _ _ hi (by omega) hks fun hl _ => ?_
    obtain ⟨e1, e2⟩ := ha hl (by omega)
    have hmul : l * es + (mc - l) * es = mc * es := by rw [← Nat.add_mul]; congr 1; omega
    have hle : mc * es ≤ cap * es := Nat.mul_le_mul_right _ h3
    refine ⟨?_, by omega⟩
    rw [e1, add_plain]
    simp [Nat.add_assoc]
theorem psl_cut {c : Value} {vs : List V} {full : Bool} (hx : Rel G H w c (.psl vs full)) {es : Nat} (hes : ∀ v ∈ vs, v.flat.length = es) {a : Option Addr} {n cap : Nat} (hc : c = .slice a n cap) {l h mc : Nat} {m : Option Nat} (h1 : l ≤ h) (h2 : h ≤ mc)
    (h3 : mc ≤ cap) (h4 : ∀ m', m = some m' → mc = m') (h5 : h ≤ vs.length) : Rel G H w (.slice (if mc = l then a else a.map (·.add (l * es))) (h - l) (mc - l)) (.psl ((vs.take h).drop l) (m == some h)) := by
  have hfull : (m == some h) = true → mc - l = h - l := by
    intro e
    have := eq_of_beq e
    have := h4 h this
    omega
  have hlen : ((vs.take h).drop l).length = h - l := by simp; omega
  have empty : h - l = 0 → Rel G H w (.slice (if mc = l then a else a.map (·.add (l * es))) (h - l) (mc - l)) (.psl ((vs.take h).drop l) (m == some h)) ∨ (a = none ∧ mc - l ≠ 0) := by
    intro e0
    have : (vs.take h).drop l = [] := List.length_eq_zero_iff.1 (by omega)
    rw [this, e0]
    cases a with
    | some a =>
      left
      have : (if mc = l then some a else (some a).map (·.add (l * es))) = some (if mc = l then a else a.add (l * es)) := by split <;> rfl
      rw [this]
      exact .pslEmpty _ _ _ fun e => by have := hfull e; omega
    | none =>
      by_cases h0 : mc - l = 0
      · left
        have : (if mc = l then (none : Option Addr) else Option.map (fun x : Addr => x.add (l * es)) none) = none := by split <;> rfl
        rw [this, h0]; exact .pslNone _
      · exact .inr ⟨rfl, h0⟩
  cases hx with
  | pslNone f =>
    cases hc
    rcases empty (by simp at h5; omega) with h' | ⟨_, h'⟩
    · exact h'
    · omega
  | pslEmpty b cap' f hf =>
    cases hc
    rcases empty (by simp at h5; omega) with h' | ⟨h', _⟩
    · exact h'
    · cases h'
  | psl b q n' cap' ar e fr _ _ es' hl hn hf hb hu he hs hr hone htup =>
    simp only [Value.slice.injEq] at hc
    obtain ⟨rfl, rfl, rfl⟩ := hc
    by_cases e0 : h - l = 0
    · rcases empty e0 with h' | ⟨h', _⟩
      · exact h'
      · cases h'
    · have hee : es' = es := by
        cases vs with
        | nil => simp at h5; omega
        | cons u us => rw [← he u (by simp), hes u (by simp)]
      subst hee
      have hne : ¬ mc = l := by omega
      rw [if_neg hne]
      have hmul : l * es' + (h - l) * es' = h * es' := by rw [← Nat.add_mul]; congr 1; omega
      have hle : h * es' ≤ n' * es' := Nat.mul_le_mul_right _ (by omega)
      have hlenAll := flatMap_length vs he
      have hr' : RelL G H w ((ar.toList.drop q).take (vs.flatMap V.flat).length) (vs.flatMap V.flat) := by rw [hlenAll, hl]; exact hr
      have := cells_range hr' (o := l * es') (n := (h - l) * es') (by rw [hlenAll, hl]; omega)
      rw [flatMap_drop vs l he, flatMap_take (vs.drop l) (h - l) (fun v hv => he v (List.mem_of_mem_drop hv))] at this
      have e2 : (vs.drop l).take (h - l) = (vs.take h).drop l := by rw [List.drop_take]
      rw [e2] at this
      simp only [Option.map_some, add_plain]
      exact Rel.psl b (q + l * es') (h - l) (mc - l) ar e fr _ _ es' hlen (by omega) hfull hb hu (fun v hv => he v (List.mem_of_mem_take (List.mem_of_mem_drop hv))) (by omega) this
        (fun v hv => hone v (List.mem_of_mem_take (List.mem_of_mem_drop hv))) (fun v hv => htup v (List.mem_of_mem_take (List.mem_of_mem_drop hv)))
theorem sim_slice {t : TypeId} {x : Operand} {l h m : Option Operand} {es : Option Nat} (ho : o.op = .slice t x l h m)
    (hu : (es = none ∧ P.underlying t = some .string) ∨ ∃ n ag e, es = some n ∧ P.underlying t = some (.slice e) ∧ cellT P e = some (n, ag)) (hH : HeapRel G H w) {vs : List V}
    (hr : RelL G H w ((x :: (l.toList ++ h.toList ++ m.toList)).map ρ) vs) (he : evSlice es l.isSome h.isSome m.isSome vs H = some (v, H')) : Gives P (execOp ρ o) G H w v H' := by
  cases hr with
  | cons _ a _ bs ha hbs =>
    simp only [evSlice] at he
    obtain ⟨⟨la, ha', ma⟩, hargs⟩ : ∃ p, sliceArgs l.isSome h.isSome m.isSome bs = p := ⟨_, rfl⟩
    rw [hargs] at he
    obtain ⟨rl, rh, rm⟩ := sliceArgs_spec hbs hargs
    cases hv : sliceV es a la ha' ma with
    | none => simp [hv] at he
    | some u =>
      simp [hv] at he
      obtain ⟨rfl, rfl⟩ := he
      have fin : ∀ c, (Instr.slice t (ρ x) (l.map ρ) (h.map ρ) (m.map ρ)).run P w = .ok c w → Rel G H w c u → (∀ n e, P.underlying t ≠ some (.array n e)) → Gives P (execOp ρ o) G H w u H := by
        intro c hrun hrel hna
        refine gives_same hH c ?_ hrel
        unfold execOp
        rcases hu with ⟨_, hu⟩ | ⟨n, ag, e, _, hu, _⟩ <;> simp [ho, Instr.sliceAt, run_underlying hu, hrun]
      rcases hu with ⟨rfl, hu⟩ | ⟨n, ag, e, rfl, hu, hc⟩
      · cases a <;> simp only [sliceV] at hv <;> try cases hv
        rename_i s
        cases ma with
        | some _ => cases hv
        | none =>
          simp only at hv
          cases hb : bounds s.length (some s.length) la ha' none with
          | none => simp [hb] at hv
          | some p =>
            obtain ⟨lo, hi, mo⟩ := p
            simp [hb] at hv
            subst hv
            obtain ⟨p, hx, rfl⟩ := rel_str ha
            have hsz : p.data.toList.length = p.size := by simp
            have hm0 : m.map ρ = none := by cases m with
              | none => rfl
              | some _ => exact rm.elim
            rw [hm0] at rm
            obtain ⟨mc, hrun, h1, h2, h3, h4, _⟩ := run_bounds (P := P) (cap := p.size) hb (fun c e => by cases e; exact hsz.symm) (by omega) rl rh rm false
            rw [hsz] at hrun
            refine fin (.string (p.extract lo hi)) ?_ (.str _ _ ?_) (fun n e h' => by rw [hu] at h'; cases h')
            · simp [Instr.slice, hx, run_underlying hu, hm0, hrun]
            · rw [Lib.extract_data, List.drop_take]
      · have hna : ∀ n e, P.underlying t ≠ some (.array n e) := fun n e h' => by rw [hu] at h'; cases h'
        have hsl : ∀ (ad : Option Addr) (len cap : Nat) (lo hi mc : Nat), ρ x = .slice ad len cap → (Instr.sliceBounds true len cap (l.map ρ) (h.map ρ) (m.map ρ)).run P w = .ok (lo, hi, mc) w →
            (Instr.slice t (ρ x) (l.map ρ) (h.map ρ) (m.map ρ)).run P w = .ok (.slice (if mc = lo then ad else ad.map (·.add (lo * n))) (hi - lo) (mc - lo)) w := by
          intro ad len cap lo hi mc hx hrun
          simp [Instr.slice, hx, run_underlying hu, hrun, run_size w (cellT_spec hc).1]
        cases a <;> simp only [sliceV] at hv <;> try cases hv
        · rename_i i q k kc es' ag'
          split at hv
          · rename_i hee
            subst hee
            cases hb : bounds k kc la ha' ma with
            | none => simp [hb] at hv
            | some p =>
              obtain ⟨lo, hi, mo⟩ := p
              simp [hb] at hv
              subst hv
              obtain ⟨ad, cap, hx, hi', hn, hk, _⟩ := rel_sl ha
              obtain ⟨mc, hrun, h1, h2, h3, h4, _⟩ := run_bounds (P := P) hb hk hn rl rh rm true
              rw [hx] at ha
              have := sl_cut ha h1 h2 h3 h4
              refine fin _ (hsl _ _ _ _ _ _ hx hrun) ?_ hna
              simpa using this
          · cases hv
        · rename_i us full
          split at hv
          · rename_i hall
            cases hb : bounds us.length (if full then some us.length else none) la ha' ma with
            | none => simp [hb] at hv
            | some p =>
              obtain ⟨lo, hi, mo⟩ := p
              simp [hb] at hv
              subst hv
              have hes : ∀ v ∈ us, v.flat.length = n := fun v hv => by simpa using List.all_eq_true.1 hall v hv
              obtain ⟨ad, cap, hx⟩ := slice_of ha rfl rfl
              have hcap : us.length ≤ cap ∧ (full = true → cap = us.length) := by
                generalize hz : ρ x = z at ha
                rw [hx] at hz
                cases ha with
                | psl b q n' cap' ar e fr _ _ es' hl hn hf => cases hz; exact ⟨hn, hf⟩
                | pslNone => cases hz; exact ⟨Nat.le_refl _, fun _ => rfl⟩
                | pslEmpty _ _ _ hf => cases hz; exact ⟨Nat.zero_le _, fun h => hf h⟩
              obtain ⟨mc, hrun, h1, h2, h3, h4, h5⟩ := run_bounds (P := P) (cap := cap) hb (fun c e => by split at e <;> cases e; exact hcap.2 (by assumption)) hcap.1 rl rh rm true
              refine fin _ (hsl _ _ _ _ _ _ hx hrun) (psl_cut ha hes hx h1 h2 h3 h4 ?_) hna
              cases full with
              | true => have := hcap.2 rfl; omega
              | false => exact h5 rfl
          · cases hv
        · cases hb : bounds 0 (some 0) la ha' ma with
          | none => simp [hb] at hv
          | some p =>
            obtain ⟨lo, hi, mo⟩ := p
            simp [hb] at hv
            subst hv
            have hx : ρ x = .slice none 0 0 := by cases hx : ρ x <;> rw [hx] at ha <;> cases ha; rfl
            obtain ⟨mc, hrun, h1, h2, h3, h4, _⟩ := run_bounds (P := P) (cap := 0) hb (fun c e => by cases e; rfl) (Nat.le_refl _) rl rh rm true
            refine fin _ (hsl _ _ _ _ _ _ hx hrun) ?_ hna
            have e1 : hi - lo = 0 := by omega
            have e2 : mc - lo = 0 := by omega
            rw [e1, e2]
            have : (if mc = lo then (none : Option Addr) else Option.map (fun x : Addr => x.add (lo * n)) none) = none := by split <;> rfl
            rw [this]; exact .nils
theorem sim_slarr {t e : TypeId} {x : Operand} {l h m : Option Operand} {k n : Nat} {ag : Bool} (ho : o.op = .slice t x l h m) (hu : P.underlying t = some (.array k e)) (hc : cellT P e = some (n, ag)) (hH : HeapRel G H w) {vs : List V}
    (hr : RelL G H w ((x :: (l.toList ++ h.toList ++ m.toList)).map ρ) vs) (he : evSlarr k n ag l.isSome h.isSome m.isSome vs H = some (v, H')) : Gives P (execOp ρ o) G H w v H' := by
  cases hr with
  | cons _ a _ bs ha hbs =>
    cases a <;> simp only [evSlarr] at he <;> try cases he
    rename_i i q
    cases hg : H.get i with
    | none => simp [hg] at he
    | some ob =>
      cases ob <;> simp only [hg] at he <;> try cases he
      rename_i eo ago cs
      cases hq : Nat.ble (q + k * n) cs.length with
      | false => simp [hq] at he
      | true =>
        simp only [hq, cond_true] at he
        obtain ⟨⟨la, ha', ma⟩, hargs⟩ : ∃ p, sliceArgs l.isSome h.isSome m.isSome bs = p := ⟨_, rfl⟩
        rw [hargs] at he
        obtain ⟨rl, rh, rm⟩ := sliceArgs_spec hbs hargs
        cases hb : bounds k (some k) la ha' ma with
        | none => simp [hb] at he
        | some p =>
          obtain ⟨lo, hi, mo⟩ := p
          simp [hb] at he
          obtain ⟨rfl, rfl⟩ := he
          obtain ⟨ad, hx, hi', hp⟩ := rel_ptr ha
          obtain ⟨mc, hrun, h1, h2, h3, h4, _⟩ := run_bounds (P := P) (cap := k) hb (fun c e => by cases e; rfl) (Nat.le_refl _) rl rh rm false
          have hsl : Rel G H w (.slice (some ad) k k) (.sl i q k (some k) n ag) := by
            refine .sl _ _ _ _ _ _ _ _ hi' (Nat.le_refl _) (fun c e => by cases e; rfl) fun hl _ => ⟨hp hl, ?_⟩
            cases hH.obj i _ hg with
            | cells _ _ _ c e fr hb hs hl' hf h h1 => have := ble_iff.1 hq; omega
          have := sl_cut hsl h1 h2 h3 h4
          refine gives_same hH _ ?_ this
          unfold execOp
          simp [ho, Instr.sliceAt, run_underlying hu, hx, Instr.sureAddr, hrun, run_size w (cellT_spec hc).1]
          split <;> rfl
end
end Go.Am
