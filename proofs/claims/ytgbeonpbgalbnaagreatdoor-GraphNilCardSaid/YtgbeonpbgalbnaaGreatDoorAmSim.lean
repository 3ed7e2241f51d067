/- EVERY OPERATION OTHER THAN A CALL AND A PANIC, SIMULATED. -/
import Derived.Test.YtgbeonpbgalbnaaGreatDoorAmOps8
namespace Go.Am
set_option autoImplicit false

section
variable {P : Program} {G : Gh} {H H' : Hp} {w : World} {ρ : Operand → Value} {o : Oper} {v : V}

theorem lenA_run {t : TypeId} {n : Nat} {d : TypeDesc} (hu : P.underlying t = some d) (hd : (∃ e, d = .array n e) ∨ ∃ a e, d = .pointer a ∧ P.underlying a = some (.array n e)) (ty : TypeId) (y : Value) :
    (Builtin.len_ #[t] ty #[y]).run P w = .ok (goInt n) w := by
  rcases hd with ⟨e, rfl⟩ | ⟨a, e, rfl, ha⟩
  · simp [Builtin.len_, run_underlying hu]
  · simp [Builtin.len_, run_underlying hu, run_underlying ha]

theorem call_sim {c : Call} {a : AOp} {xs : List Operand} (hc : callOf P c = some (a, xs)) (ho : o.op = .call c) (hk : a.kind = .plain) (hH : HeapRel G H w) {vs : List V} (hr : RelL G H w (xs.map ρ) vs) (he : a.ev vs H = some (v, H')) :
    Gives P (execOp ρ o) G H w v H' := by
  unfold callOf at hc
  split at hc
  · cases hc; cases hk
  · cases hc; cases hk
  · cases hc
  · rename_i b hcal
    obtain ⟨tys, htys⟩ : ∃ l, c.argTypes.toList = l := ⟨_, rfl⟩
    obtain ⟨as, has⟩ : ∃ l, c.args.toList = l := ⟨_, rfl⟩
    rw [htys, has] at hc
    split at hc <;> try cases hc
    · -- append
      rename_i e y x1 x2 heq
      cases tys with
      | nil => simp at heq
      | cons t1 tys =>
        cases tys with
        | nil => simp at heq
        | cons t2 tys =>
          cases tys with
          | cons _ _ => simp at heq
          | nil =>
            simp only [List.map_cons, List.map_nil, List.cons.injEq, and_true] at heq
            obtain ⟨h1, h2⟩ := heq
            have main : ∀ {n : Nat} {ag : Bool} {k : Nat} {z : V}, cellT P e = some (n, ag) → bytesT P e = some k → zeroT P e = some z → ((bif Nat.beq z.flat.length n then some (AOp.append n ag k, [x1, x2]) else none) = some (a, xs)) →
                ((∃ e', P.underlying t2 = some (.slice e')) ∨ P.underlying t2 = some .string) → Gives P (execOp ρ o) G H w v H' := by
              intro n ag k z e1 e2 e3 hc hu2
              cases hz : Nat.beq z.flat.length n with
              | false => simp [hz] at hc
              | true =>
                simp only [hz, cond_true, Option.some.injEq, Prod.mk.injEq] at hc
                obtain ⟨rfl, rfl⟩ := hc
                exact sim_append ho hcal has htys h1 hu2 (z := z.flat) (by unfold roomT; rw [e1, e3]; simp [hz]) e2 hH hr he
            split at hc
            · split at hc
              · rename_i e1 e2 e3
                exact main e1 e2 e3 hc (.inl ⟨_, h2⟩)
              · cases hc
            · split at hc
              · rename_i e1 e2 e3
                exact main e1 e2 e3 hc (.inr h2)
              · cases hc
            · cases hc
    · -- len
      rename_i d x1 heq
      cases tys with
      | nil => simp at heq
      | cons t1 tys =>
        cases tys with
        | cons _ _ => simp at heq
        | nil =>
          simp only [List.map_cons, List.map_nil, List.cons.injEq, and_true] at heq
          split at hc
          · simp only [Option.some.injEq, Prod.mk.injEq] at hc
            obtain ⟨rfl, rfl⟩ := hc
            exact sim_len ho hcal has htys heq (show lenD .str _ from rfl) hH hr he
          · simp only [Option.some.injEq, Prod.mk.injEq] at hc
            obtain ⟨rfl, rfl⟩ := hc
            exact sim_len ho hcal has htys heq (show lenD .slice _ from ⟨_, rfl⟩) hH hr he
          · simp only [Option.some.injEq, Prod.mk.injEq] at hc
            obtain ⟨rfl, rfl⟩ := hc
            exact sim_len ho hcal has htys heq (show lenD .map _ from ⟨_, _, rfl⟩) hH hr he
          · simp only [Option.some.injEq, Prod.mk.injEq] at hc
            obtain ⟨rfl, rfl⟩ := hc
            exact sim_lenA (vs := vs) ho hcal has htys (fun y => lenA_run heq (.inl ⟨_, rfl⟩) _ y) hH he
          · split at hc
            · rename_i hp
              simp only [Option.some.injEq, Prod.mk.injEq] at hc
              obtain ⟨rfl, rfl⟩ := hc
              exact sim_lenA (vs := vs) ho hcal has htys (fun y => lenA_run heq (.inr ⟨_, _, rfl, hp⟩) _ y) hH he
            · cases hc
          · cases hc
    · -- cap
      rename_i e x1 heq
      cases tys with
      | nil => simp at heq
      | cons t1 tys =>
        cases tys with
        | cons _ _ => simp at heq
        | nil =>
          simp only [List.map_cons, List.map_nil, List.cons.injEq, and_true] at heq
          exact sim_cap ho hcal has htys heq hH hr he
    · -- copy
      rename_i e d x1 x2 heq
      cases tys with
      | nil => simp at heq
      | cons t1 tys =>
        cases tys with
        | nil => simp at heq
        | cons t2 tys =>
          cases tys with
          | cons _ _ => simp at heq
          | nil =>
            simp only [List.map_cons, List.map_nil, List.cons.injEq, and_true] at heq
            cases hce : cellT P e with
            | none => simp [hce] at hc
            | some q =>
              simp only [hce, Option.map_some, Option.some.injEq, Prod.mk.injEq] at hc
              obtain ⟨rfl, rfl⟩ := hc
              exact sim_copy ho hcal has htys heq.1 hce hH hr he
    · -- clear
      rename_i e x1 heq
      cases tys with
      | nil => simp at heq
      | cons t1 tys =>
        cases tys with
        | cons _ _ => simp at heq
        | nil =>
          simp only [List.map_cons, List.map_nil, List.cons.injEq, and_true] at heq
          cases hce : roomT P e with
          | none => simp [hce] at hc
          | some q =>
            simp only [hce, Option.map_some, Option.some.injEq, Prod.mk.injEq] at hc
            obtain ⟨rfl, rfl⟩ := hc
            exact sim_clear ho hcal has htys heq hce hH hr he
    · -- min
      exact sim_minmax ho (.inl hcal) has hH hr (by rw [hcal]; exact he)
    · -- max
      exact sim_minmax ho (.inr hcal) has hH hr (by rw [hcal]; exact he)
    · cases hk

set_option maxHeartbeats 1000000 in
theorem op_sim {op : Op} {a : AOp} {xs : List Operand} (hc : opOf P op = some (a, xs)) (ho : o.op = op) (hk : a.kind = .plain) (hH : HeapRel G H w) {vs : List V} (hr : RelL G H w (xs.map ρ) vs) (he : a.ev vs H = some (v, H')) :
    Gives P (execOp ρ o) G H w v H' := by
  cases op <;> simp only [opOf] at hc <;> try cases hc
  case move x => exact sim_mov (.inl ho) hH hr he
  case assign x => exact sim_mov (.inr ho) hH hr he
  case pick c x y => exact sim_pick ho hH hr he
  case nilCheck x => exact sim_nilchk ho hH hr he
  case unOp p t x => exact sim_un ho hH hr he
  case extract t i => exact sim_extract ho hH hr he
  case panic x => cases hk
  case alloc e =>
    cases h : roomT P e with
    | none => simp [h] at hc
    | some q => simp only [h, Option.map_some, Option.some.injEq, Prod.mk.injEq] at hc; obtain ⟨rfl, rfl⟩ := hc; exact sim_alloc (vs := vs) ho h hH he
  case box e x =>
    cases h : cellT P e with
    | none => simp [h] at hc
    | some q => simp only [h, Option.map_some, Option.some.injEq, Prod.mk.injEq] at hc; obtain ⟨rfl, rfl⟩ := hc; exact sim_box ho hH hr he
  case build t ps =>
    split at hc
    · rename_i fs z hu hz
      split at hc
      · rename_i pl hpl
        cases hl : partsOf pl (ps.toList.map (·.1)) with
        | none => simp [hl] at hc
        | some l =>
          simp only [hl] at hc
          cases hb : Nat.blt 0 z.flat.length with
          | false => simp [hb] at hc
          | true =>
            simp only [hb, cond_true, Option.some.injEq, Prod.mk.injEq] at hc
            obtain ⟨rfl, rfl⟩ := hc
            exact sim_build_struct ho hu hz hpl hl (blt_iff.1 hb) hH hr he
      · cases hc
    · rename_i k e z hu hz
      cases h : cellT P e with
      | none => simp [h] at hc
      | some q =>
        simp only [h] at hc
        cases hb : Nat.blt 0 z.flat.length with
        | false => simp [hb] at hc
        | true =>
          simp only [hb, cond_true, Option.some.injEq, Prod.mk.injEq] at hc
          obtain ⟨rfl, rfl⟩ := hc
          exact sim_build_array ho hu hz h (blt_iff.1 hb) hH hr he
    · cases hc
  case buildSlice t len ps =>
    split at hc
    · rename_i e hu
      split at hc
      · rename_i n ag z h
        cases hb : Nat.ble (len * n) 65536 with
        | false => simp [hb] at hc
        | true =>
          simp only [hb, cond_true, Option.some.injEq, Prod.mk.injEq] at hc
          obtain ⟨rfl, rfl⟩ := hc
          exact sim_bslice ho hu h (ble_iff.1 hb) hH hr he
      · cases hc
    · cases hc
  case load t x =>
    cases h : cellT P t with
    | none => simp [h] at hc
    | some q => simp only [h, Option.map_some, Option.some.injEq, Prod.mk.injEq] at hc; obtain ⟨rfl, rfl⟩ := hc; exact sim_load ho h hH hr he
  case store t x y =>
    cases h : cellT P t with
    | none => simp [h] at hc
    | some q => simp only [h, Option.map_some, Option.some.injEq, Prod.mk.injEq] at hc; obtain ⟨rfl, rfl⟩ := hc; exact sim_store ho h hH hr he
  case binOp p t x y u =>
    have fin : ∀ q, (match eqOf P x y t with | some none => some (AOp.bin q, [x, y]) | some (some k) => some (AOp.eq (q == .neq) k, [x, y]) | none => none) = some (a, xs) → (q = .eql ∨ q = .neq) → p = q → Gives P (execOp ρ o) G H w v H' := by
      intro q hc hq hpq
      subst hpq
      split at hc
      · simp only [Option.some.injEq, Prod.mk.injEq] at hc; obtain ⟨rfl, rfl⟩ := hc; exact sim_bin ho hH hr he
      · rename_i k hkq
        simp only [Option.some.injEq, Prod.mk.injEq] at hc; obtain ⟨rfl, rfl⟩ := hc; exact sim_eq hq ho hkq hH hr he
      · cases hc
    split at hc
    · exact fin _ hc (.inl rfl) rfl
    · exact fin _ hc (.inr rfl) rfl
    · split at hc <;> try cases hc
      · exact sim_bin ho hH hr he
      · exact sim_bin ho hH hr he
  case convert s d x =>
    split at hc
    · rename_i h1 h2
      simp only [Option.some.injEq, Prod.mk.injEq] at hc; obtain ⟨rfl, rfl⟩ := hc
      exact sim_conv ho hH hr (show _ ∧ _ from ⟨⟨_, h1⟩, h2⟩) he
    · rename_i h1 h2
      simp only [Option.some.injEq, Prod.mk.injEq] at hc; obtain ⟨rfl, rfl⟩ := hc
      exact sim_conv ho hH hr (show _ ∧ _ from ⟨h1, h2⟩) he
    · rename_i e h1 h2
      split at hc
      · rename_i h3
        simp only [Option.some.injEq, Prod.mk.injEq] at hc; obtain ⟨rfl, rfl⟩ := hc
        exact sim_conv ho hH hr (show ∃ e, _ from ⟨e, h1, h2, h3⟩) he
      · cases hc
    · rename_i e h1 h2
      split at hc
      · rename_i h3
        simp only [Option.some.injEq, Prod.mk.injEq] at hc; obtain ⟨rfl, rfl⟩ := hc
        exact sim_conv ho hH hr (show ∃ e, _ from ⟨e, h1, h2, h3⟩) he
      · cases hc
    · rename_i h1 h2
      simp only [Option.some.injEq, Prod.mk.injEq] at hc; obtain ⟨rfl, rfl⟩ := hc
      exact sim_conv ho hH hr (show _ ∧ _ from ⟨⟨_, h1⟩, h2⟩) he
    · cases hc
  case makeInterface t x =>
    split at hc
    · cases hc
    · rename_i d hd hu
      simp only [Option.some.injEq, Prod.mk.injEq] at hc; obtain ⟨rfl, rfl⟩ := hc
      exact sim_mkiface ho hu (fun m e => hd m (by rw [e])) hH hr he
    · cases hc
  case makeFunc f first caps =>
    cases f <;> simp only at hc <;> try cases hc
    exact sim_mkfn ho hH hr he
  case makeMap t r =>
    cases r <;> simp only at hc <;> try cases hc
    split at hc
    · rename_i k e hu
      cases h : keyT P k with
      | none => simp [h] at hc
      | some q => simp only [h, Option.map_some, Option.some.injEq, Prod.mk.injEq] at hc; obtain ⟨rfl, rfl⟩ := hc; exact sim_mkmap (vs := vs) ho hH he
    · cases hc
  case makeSlice t l c =>
    split at hc
    · rename_i e hu
      split at hc
      · rename_i n ag z b h1 h2
        simp only [Option.some.injEq, Prod.mk.injEq] at hc; obtain ⟨rfl, rfl⟩ := hc
        exact sim_mkslice ho hu h1 h2 hH hr he
      · cases hc
    · cases hc
  case slice t x l h m =>
    split at hc
    · rename_i hu
      simp only [Option.some.injEq, Prod.mk.injEq] at hc; obtain ⟨rfl, rfl⟩ := hc
      exact sim_slice ho (.inl ⟨rfl, hu⟩) hH hr he
    · rename_i e hu
      cases hq : cellT P e with
      | none => simp [hq] at hc
      | some q => simp only [hq, Option.map_some, Option.some.injEq, Prod.mk.injEq] at hc; obtain ⟨rfl, rfl⟩ := hc; exact sim_slice ho (.inr ⟨_, _, _, rfl, hu, hq⟩) hH hr he
    · rename_i k e hu
      cases hq : cellT P e with
      | none => simp [hq] at hc
      | some q => simp only [hq, Option.map_some, Option.some.injEq, Prod.mk.injEq] at hc; obtain ⟨rfl, rfl⟩ := hc; exact sim_slarr ho hu hq hH hr he
    · cases hc
  case fieldAddr s x f =>
    split at hc
    · rename_i fs hu
      split at hc
      · rename_i fd hf
        cases hq : cellT P fd.type with
        | none => simp [hq] at hc
        | some q => simp only [hq, Option.map_some, Option.some.injEq, Prod.mk.injEq] at hc; obtain ⟨rfl, rfl⟩ := hc; exact sim_faddr ho hu hf hq hH hr he
      · cases hc
    · cases hc
  case field s x f =>
    split at hc
    · rename_i fs hu
      split at hc
      · rename_i fd hf
        cases hq : cellT P fd.type with
        | none => simp [hq] at hc
        | some q => simp only [hq, Option.map_some, Option.some.injEq, Prod.mk.injEq] at hc; obtain ⟨rfl, rfl⟩ := hc; exact sim_field ho hu hf hq hH hr he
      · cases hc
    · cases hc
  case indexAddr t x i =>
    split at hc
    · rename_i e hu
      cases hq : cellT P e with
      | none => simp [hq] at hc
      | some q => simp only [hq, Option.map_some, Option.some.injEq, Prod.mk.injEq] at hc; obtain ⟨rfl, rfl⟩ := hc; exact sim_iaddr ho hu hq hH hr he
    · rename_i k e hu
      cases hq : cellT P e with
      | none => simp [hq] at hc
      | some q => simp only [hq, Option.map_some, Option.some.injEq, Prod.mk.injEq] at hc; obtain ⟨rfl, rfl⟩ := hc; exact sim_iaddrA ho hu hq hH hr he
    · cases hc
  case index t x i =>
    split at hc
    · rename_i hu
      simp only [Option.some.injEq, Prod.mk.injEq] at hc; obtain ⟨rfl, rfl⟩ := hc; exact sim_idxS ho hu hH hr he
    · rename_i k e hu
      cases hq : cellT P e with
      | none => simp [hq] at hc
      | some q => simp only [hq, Option.map_some, Option.some.injEq, Prod.mk.injEq] at hc; obtain ⟨rfl, rfl⟩ := hc; exact sim_idxA ho hu hq hH hr he
    · cases hc
  case lookup t x k ok =>
    split at hc
    · rename_i kt e hu
      split at hc
      · rename_i kk z h1 h2
        simp only [Option.some.injEq, Prod.mk.injEq] at hc; obtain ⟨rfl, rfl⟩ := hc
        exact sim_lookup ho hu h1 h2 hH hr he
      · cases hc
    · cases hc
  case mapUpdate t m k x =>
    split at hc
    · rename_i kt e hu
      cases hq : keyT P kt with
      | none => simp [hq] at hc
      | some q => simp only [hq, Option.map_some, Option.some.injEq, Prod.mk.injEq] at hc; obtain ⟨rfl, rfl⟩ := hc; exact sim_mapset (.inl ho) hu hq hH hr he
    · cases hc
  case insert t m k x =>
    split at hc
    · rename_i kt e hu
      cases hq : keyT P kt with
      | none => simp [hq] at hc
      | some q => simp only [hq, Option.map_some, Option.some.injEq, Prod.mk.injEq] at hc; obtain ⟨rfl, rfl⟩ := hc; exact sim_mapset (.inr ho) hu hq hH hr he
    · cases hc
  case range t x =>
    split at hc
    · rename_i hu
      simp only [Option.some.injEq, Prod.mk.injEq] at hc; obtain ⟨rfl, rfl⟩ := hc; exact sim_range ho hu hH hr he
    · cases hc
  case next it s =>
    cases s <;> simp only at hc <;> try cases hc
    exact sim_next ho hH hr he
  case typeAssert x t b ok =>
    split at hc
    · cases hc
    · rename_i d z hd hu hz
      simp only [Option.some.injEq, Prod.mk.injEq] at hc; obtain ⟨rfl, rfl⟩ := hc
      exact sim_tassert ho hu (fun m e => hd m (by rw [e])) hz hH hr he
    · cases hc
  case call c => exact call_sim hc ho hk hH hr he
end
end Go.Am
