/- CODE. -/
import Derived.Test.YtgbeonpbgalbnaaGreatDoorAmDraw4
namespace Go.Am
set_option autoImplicit false

/-! ### a region that draws, from what the compiler looks at -/
theorem opersOf_spec {P : Program} {N : Nat} {ops : Array Oper} : ∀ {os : List Oper} {as : List AOper}, opersOf P N ops os = some as →
    as.length = os.length ∧ ∀ (i : Nat) o a, os[i]? = some o → as[i]? = some a → operOf P N ops o = some a
  | [], as, h => by simp only [opersOf] at h; cases h; exact ⟨rfl, fun i o a h => by simp at h⟩
  | o :: os, as, h => by
    simp only [opersOf] at h
    cases h1 : operOf P N ops o with
    | none => rw [h1] at h; cases h
    | some a =>
      cases h2 : opersOf P N ops os with
      | none => rw [h1, h2] at h; cases h
      | some as' =>
        rw [h1, h2] at h
        cases h
        obtain ⟨l, r⟩ := opersOf_spec h2
        refine ⟨by simp [l], fun i o' a' ho ha => ?_⟩
        cases i with
        | zero => simp at ho ha; subst ho; subst ha; exact h1
        | succ i => exact r i o' a' (by simpa using ho) (by simpa using ha)
theorem strict_is {P : Program} {N : Nat} {ops : Array Oper} {o : Oper} {ao : AOper} (h : OperIs P N ops o ao) (bs : List Nat) (as : List AOper) (i : Nat) : OperIs P N ops o (strictCall bs as i ao) := by
  unfold strictCall
  simp only
  split
  · exact h
  · split
    · rename_i f hf
      obtain ⟨a, xs, h1, h2, h3⟩ := h.op
      refine ⟨⟨a, xs, h1, .inr (.inl ⟨f, ?_, rfl⟩), h3⟩, h.dst, h.dlt, h.guard⟩
      rw [hf] at h2
      rcases h2 with h | ⟨_, _, h⟩ | ⟨_, h⟩
      · exact h.symm
      · cases h
      · cases h
    · rename_i hf
      obtain ⟨a, xs, h1, h2, h3⟩ := h.op
      refine ⟨⟨a, xs, h1, .inr (.inr ⟨?_, rfl⟩), h3⟩, h.dst, h.dlt, h.guard⟩
      rw [hf] at h2
      rcases h2 with h | ⟨_, _, h⟩ | ⟨_, h⟩
      · exact h.symm
      · cases h
      · cases h
    · exact h
theorem distinct_spec : ∀ {as : List AOper}, distinct (as.filterMap (·.dst)) = true → ∀ (i j : Nat) x y d, as[i]? = some x → as[j]? = some y → x.dst = some d → y.dst = some d → i = j
  | [], _, i, j, x, y, d, hi, _, _, _ => by simp at hi
  | a :: as, h, i, j, x, y, d, hi, hj, hx, hy => by
    have key : distinct (as.filterMap (·.dst)) = true ∧ ∀ d, a.dst = some d → ∀ (k : Nat) z, as[k]? = some z → z.dst = some d → False := by
      cases ha : a.dst with
      | none => rw [List.filterMap_cons, ha] at h; exact ⟨h, fun d hd => by cases hd⟩
      | some e =>
        rw [List.filterMap_cons, ha] at h
        simp only [distinct, Bool.and_eq_true] at h
        refine ⟨h.2, fun d hd k z hz hzd => ?_⟩
        cases hd
        have hmem : e ∈ as.filterMap (·.dst) := List.mem_filterMap.2 ⟨z, List.mem_of_getElem? hz, hzd⟩
        have := h.1
        simp at this
        exact this z (List.mem_of_getElem? hz) hzd
    cases i with
    | zero =>
      simp at hi
      subst hi
      cases j with
      | zero => rfl
      | succ j => exact (key.2 d hx j y (by simpa using hj) hy).elim
    | succ i =>
      cases j with
      | zero =>
        simp at hj
        subst hj
        exact (key.2 d hy i x (by simpa using hi) hx).elim
      | succ j => rw [distinct_spec key.1 i j x y d (by simpa using hi) (by simpa using hj) hx hy]
theorem range_map_get {α : Type} (n : Nat) (f : Nat → α) (i : Nat) : ((List.range n).map f)[i]? = if i < n then some (f i) else none := by
  rw [List.getElem?_map]
  by_cases h : i < n
  · rw [List.getElem?_range h, if_pos h]; rfl
  · rw [List.getElem?_eq_none (by simpa using h), if_neg h]; rfl
theorem drawOf_is {P : Program} {N : Nat} {ops : Array Oper} {as0 : List AOper} (h0 : opersOf P N ops ops.toList = some as0) {ac : ACode} (h : drawOf ops as0 = some ac) :
    ∃ aos bs, ac = .dregion aos ∧ DrawIs P N ops aos bs := by
  unfold drawOf at h
  simp only at h
  obtain ⟨l0, r0⟩ := opersOf_spec h0
  generalize hbs : beforesFrom ops.toList [] = bs at h
  generalize has : (List.range as0.length).map (fun i => strictCall bs as0 i (as0.getD i default)) = as at h
  have hlen : as.length = as0.length := by rw [← has]; simp
  cases hc : (edgesOk 0 ops.toList && pairsOk bs as && distinct (as.filterMap (·.dst))) with
  | false => rw [hc] at h; cases h
  | true =>
    rw [hc] at h
    simp only [cond_true, Option.some.injEq] at h
    simp only [Bool.and_eq_true] at hc
    have hget : ∀ i a, as[i]? = some a → ∃ a0, as0[i]? = some a0 ∧ a = strictCall bs as0 i a0 := fun i a hi => by
      rw [← has, range_map_get] at hi
      split at hi
      · rename_i hlt
        cases hi
        exact ⟨as0[i], List.getElem?_eq_getElem hlt, by simp [hlt]⟩
      · cases hi
    refine ⟨_, bs, h.symm, ?_⟩
    generalize haos : (List.range as.length).map (fun i => (as.getD i default, stagesOf bs as i)) = aos
    have haget : ∀ i x, aos[i]? = some x → as[i]? = some x.1 ∧ x.2 = stagesOf bs as i ∧ i < as.length := fun i x hi => by
      rw [← haos, range_map_get] at hi
      split at hi
      · rename_i hlt
        cases hi
        exact ⟨by simp [hlt], rfl, hlt⟩
      · cases hi
    have halen : aos.length = as.length := by rw [← haos]; simp
    have hmi : moverIdx aos = (List.range as.length).filter fun e => (as.getD e default).op.moves := by
      unfold moverIdx
      rw [halen]
      refine List.filter_congr fun e he => ?_
      have hlt : e < as.length := by simpa using he
      have : aos[e]? = some (as.getD e default, stagesOf bs as e) := by rw [← haos, range_map_get, if_pos hlt]
      rw [List.getD_eq_getElem?_getD, this]
      rfl
    refine ⟨by rw [halen, hlen, l0]; simp, fun i o x ho hx => ?_, hc.1.1, hbs.symm, fun i j x y hij hx hy => ?_, fun i j x y d hx hy hdx hdy => ?_, fun i x hx hr m h1 h2 h3 => ?_⟩
    · obtain ⟨h1, _, _⟩ := haget i x hx
      obtain ⟨a0, ha0, e⟩ := hget i _ h1
      rw [e]
      exact strict_is (operOf_is (r0 i o a0 (by simpa using ho) ha0)) _ _ _
    · obtain ⟨h1, _, l1⟩ := haget i x hx
      obtain ⟨h2, _, l2⟩ := haget j y hy
      have hp := hc.1.2
      unfold pairsOk at hp
      have hp := List.all_eq_true.1 (List.all_eq_true.1 hp j (List.mem_range.2 l2)) i (List.mem_range.2 hij)
      rw [List.getD_eq_getElem?_getD (l := as) (i := i), h1, List.getD_eq_getElem?_getD (l := as) (i := j), h2] at hp
      exact hp
    · exact distinct_spec hc.2 i j x.1 y.1 d (haget i x hx).1 (haget j y hy).1 hdx hdy
    · obtain ⟨g1, g2, g3⟩ := haget i x hx
      rw [g2]
      unfold stagesOf
      simp only
      have hga : as.getD i default = x.1 := by rw [List.getD_eq_getElem?_getD, g1]; rfl
      rw [hga, hr, if_pos rfl]
      unfold cAt at h3
      rw [hmi] at h1 h2 h3
      rw [List.countP_eq_length_filter] at h1 h2 h3
      refine List.mem_filter.2 ⟨List.mem_range.2 (by omega), ?_⟩
      simp only [Bool.and_eq_true, ble_iff, Bool.not_eq_true']
      exact ⟨h1, beqF h3⟩

/-! ### code -/
theorem least {p : Nat → Prop} (h : ∃ m, p m) : ∃ m, p m ∧ ∀ k, p k → m ≤ k := by
  obtain ⟨m, hm⟩ := h
  induction m using Nat.strongRecOn with
  | _ m ih =>
    by_cases hk : ∃ k, k < m ∧ p k
    · obtain ⟨k, hkm, hpk⟩ := hk
      exact ih k hkm hpk
    · refine ⟨m, hm, fun k hpk => ?_⟩
      rcases Nat.lt_or_ge k m with h | h
      · exact absurd ⟨k, h, hpk⟩ hk
      · exact h
/-- A loop whose rounds are numbered down. -/
theorem wp_loop_nat {P : Program} {Q : Exit → Act → World → Prop} {c : Code} (I : Nat → Act → World → Prop) {n : Nat} {a : Act} {w : World} (h0 : I n a w)
    (round : ∀ m a w, I m a w → c.wp P (Exit.then (fun a' w' => ∃ k, k < m ∧ I k a' w') Q) a w) : (Code.loop c).wp P Q a w := by
  classical
  let μ : Act → World → Nat := fun a w => if h : ∃ m, I m a w then (least h).choose else 0
  refine wp_loop (fun a w => ∃ m, I m a w) μ ⟨n, h0⟩ fun a w hI => ?_
  have hμ : μ a w = (least hI).choose := dif_pos hI
  refine wp_mono (round _ a w (least hI).choose_spec.1) fun e a' w' hq => ?_
  cases e with
  | normal =>
    obtain ⟨k, hk, hI'⟩ := hq
    refine ⟨⟨k, hI'⟩, ?_⟩
    have hex : ∃ m, I m a' w' := ⟨k, hI'⟩
    have h2 : μ a' w' = (least hex).choose := dif_pos hex
    have h3 := (least hex).choose_spec.2 k hI'
    rw [← h2] at h3
    rw [← hμ] at hk
    exact Nat.lt_of_le_of_lt h3 hk
  | _ => exact hq

section
variable {P : Program} {E : Env} {call : Caller} {N : Nat}
def CodeOk (P : Program) (E : Env) (N : Nat) (c : Code) (f : Run) : Prop :=
  ∀ st r, f st = some r → ∀ G a w, StOk E N G a w st → ∀ Q : Exit → Act → World → Prop, (∀ e a' w', After E N G st.H w r e a' w' → Q e a' w') → c.wp P Q a w
theorem exit_then {G : Gh} {H : Hp} {w : World} {r : Ex × St} {e : Exit} {a : Act} {w' : World} {Q : Exit → Act → World → Prop} {next : Act → World → Prop} (h : After E N G H w r e a w')
    (hn : r.1 ≠ .norm) (hQ : Q e a w') : Exit.then next Q e a w' := by
  obtain ⟨_, _, _, _, x⟩ := h
  obtain ⟨ex, st⟩ := r
  cases ex with
  | norm => exact absurd rfl hn
  | ret => cases x; exact hQ
  | exit i => cases x; exact hQ
  | pan v => obtain ⟨cv, rfl, _⟩ := x; exact hQ
theorem seq_ok {x y : Code} {f g : Run} (hx : CodeOk P E N x f) (hy : CodeOk P E N y g) : CodeOk P E N (.seq x y) (seqR f g) := by
  intro st r hr G a w hst Q hQ
  refine wp_seq ?_
  unfold seqR at hr
  cases hf : f st with
  | none => rw [hf] at hr; cases hr
  | some q =>
    rw [hf] at hr
    refine hx st q hf G a w hst _ fun e a' w' hA => ?_
    obtain ⟨ex, st1⟩ := q
    cases ex with
    | norm =>
      obtain ⟨G1, L, ev, hst1, he⟩ := hA
      subst he
      exact hy st1 r hr G1 a' w' hst1 Q fun e a'' w'' hA' => hQ _ _ _ (hA'.trans L ev)
    | ret => cases hr; exact exit_then hA (fun h => by cases h) (hQ _ _ _ hA)
    | exit i => cases hr; exact exit_then hA (fun h => by cases h) (hQ _ _ _ hA)
    | pan v => cases hr; exact exit_then hA (fun h => by cases h) (hQ _ _ _ hA)
theorem loop_ok {x : Code} {f : Run} (hx : CodeOk P E N x f) (n : Nat) : CodeOk P E N (.loop x) (loopN f n) := by
  intro st r hr G a w hst Q hQ
  refine wp_loop_nat (fun m a' w' => ∃ G1 st1, loopN f m st1 = some r ∧ StOk E N G1 a' w' st1 ∧ Le G st.H w G1 st1.H w' ∧ Evo st.H st1.H) (n := n) ⟨G, st, hr, hst, Le.refl _ _ _, Evo.refl _⟩ ?_
  intro m a1 w1 ⟨G1, st1, hr1, hst1, L, ev⟩
  cases m with
  | zero => cases hr1
  | succ m =>
    have hr1 : onNorm (loopN f m) (f st1) = some r := hr1
    cases hf : f st1 with
    | none => rw [hf] at hr1; cases hr1
    | some q =>
      rw [hf] at hr1
      refine hx st1 q hf G1 a1 w1 hst1 _ fun e a' w' hA => ?_
      have hA' := hA.trans L ev
      obtain ⟨ex, st2⟩ := q
      cases ex with
      | norm =>
        obtain ⟨G2, L2, ev2, hst2, he⟩ := hA'
        subst he
        exact ⟨m, Nat.lt_succ_self _, G2, st2, hr1, hst2, L2, ev2⟩
      | ret => cases hr1; exact exit_then hA' (fun h => by cases h) (hQ _ _ _ hA')
      | exit i => cases hr1; exact exit_then hA' (fun h => by cases h) (hQ _ _ _ hA')
      | pan v => cases hr1; exact exit_then hA' (fun h => by cases h) (hQ _ _ _ hA')
theorem block_ok {id : Nat} {x : Code} {f : Run} (hx : CodeOk P E N x f) : CodeOk P E N (.block id x) (blockR id f) := by
  intro st r hr G a w hst Q hQ
  refine wp_block ?_
  unfold blockR at hr
  cases hf : f st with
  | none => rw [hf] at hr; cases hr
  | some q =>
    rw [hf] at hr
    refine hx st q hf G a w hst _ fun e a' w' hA => ?_
    obtain ⟨ex, st1⟩ := q
    cases ex with
    | norm =>
      cases hr
      have hq := hQ _ _ _ hA
      obtain ⟨_, _, _, _, he⟩ := hA
      subst he
      exact hq
    | ret =>
      cases hr
      have hq := hQ _ _ _ hA
      obtain ⟨_, _, _, _, he⟩ := hA
      subst he
      exact hq
    | pan v =>
      cases hr
      have hq := hQ _ _ _ hA
      obtain ⟨_, _, _, _, cv, he, _⟩ := hA
      subst he
      exact hq
    | exit i =>
      simp only [onExit] at hr
      obtain ⟨G1, L, ev, hst1, he⟩ := hA
      subst he
      by_cases h : i = id
      · rw [beqT h] at hr
        cases hr
        simp only [Exit.inBlock, h, if_true]
        exact hQ _ _ _ ⟨G1, L, ev, hst1, rfl⟩
      · rw [beqF h] at hr
        cases hr
        simp only [Exit.inBlock, h, if_false]
        exact hQ _ _ _ ⟨G1, L, ev, hst1, rfl⟩
theorem cond_ok {c : Operand} {o : Opd} (ho : opd N c = some o) {x y : Code} {f g : Run} (hx : CodeOk P E N x f) (hy : CodeOk P E N y g) : CodeOk P E N (.cond c x y) (condR E o f g) := by
  intro st r hr G a w hst Q hQ
  unfold condR at hr
  cases hv : o.ev E st with
  | none => rw [hv] at hr; cases hr
  | some v =>
    rw [hv] at hr
    have hrel := opd_rel hst ho hv
    cases v <;> simp only at hr <;> try cases hr
    rename_i b
    generalize hc : a.eval c = cv at hrel
    cases hrel
    refine wp_cond hc ?_
    cases b with
    | true => exact hx st r hr G a w hst Q hQ
    | false => exact hy st r hr G a w hst Q hQ
theorem fixed_ok (hcall : CallOk P E call) (hin : IntrOk P E) {id : Nat} {ops : Array Oper} {as : List AOper} (h : opersOf P N ops ops.toList = some as) :
    CodeOk P E N (.region id ops false) (runOps E call as) := by
  intro st r hr G a w hst Q hQ
  refine wp_region ?_
  rw [List.range_eq_range']
  have := region_ok hcall hin ops.toList as 0 h (fun j => by simp) G a w st r hst hr Q hQ
  simpa using this
theorem drew_ok {G : Gh} {a : Act} {w : World} {st : St} (h : StOk E N G a w st) : StOk E N G a { w with drawn := w.drawn + 1 } st :=
  ⟨h.size, fun i hi => (h.tmps i hi).mono (Le.drew G st.H w), h.heap.drew, h.glob.mono (Le.drew G st.H w), h.defers⟩
theorem draw_ok (hm : P.follows .mixedOrders = true) (hcall : CallOk P E call) (hin : IntrOk P E) {id : Nat} {ops : Array Oper} {aos : List (AOper × List Nat)} {bs : List Nat} (D : DrawIs P N ops aos bs) :
    CodeOk P E N (.region id ops true) (runD E call aos) := by
  intro st r hr G a w hst Q hQ
  refine wp_region_any hm ?_
  unfold runD at hr
  cases hl : lexRun E call aos st [st.H] with
  | none => rw [hl] at hr; cases hr
  | some q =>
    obtain ⟨ds, hs, st'⟩ := q
    rw [hl] at hr
    simp only at hr
    by_cases hs' : ds.all (Did.still hs.reverse) = true
    · rw [if_pos hs'] at hr
      cases hr
      obtain ⟨sts, vals, X, hend⟩ := lex_make hl hs' D.dist
      refine draw_go hcall hin D X (G0 := G) (H0 := st.H) (w0 := { w with drawn := w.drawn + 1 }) (fun a' w' G' hle hev hok => ?_) ops.size _ a _ G st 0 ?_
      · rw [hend] at hle hev hok
        exact hQ _ _ _ ⟨G', (Le.drew G st.H w).trans hle, hev, hok, rfl⟩
      · have none_listed : ∀ i, (Array.replicate ops.size false).getD i false = false := fun i => by
          by_cases h : i < ops.size <;> simp [h]
        have no : ∀ {C : Prop} {i : Nat}, (Array.replicate ops.size false).getD i false = true → C := fun {C i} h => by rw [none_listed] at h; cases h
        refine ⟨by simp, ?_, fun i o _ h => no h, ?_, Le.refl _ _ _, Evo.refl _, drew_ok hst, ?_, fun i x d _ h => no h, fun _ _ => rfl⟩
        · rw [List.countP_eq_zero.2 fun i _ h => no h]
          rfl
        · exact List.countP_eq_zero.2 fun i _ h => no h
        · have := X.hp 0 (Nat.zero_le _)
          rw [cAt_zero, X.zero] at this
          exact this
    · rw [if_neg hs'] at hr; cases hr
theorem code_ok (hm : P.follows .mixedOrders = true) (hcall : CallOk P E call) (hin : IntrOk P E) (n : Nat) : ∀ (c : Code) (ac : ACode), codeOf P N c = some ac → CodeOk P E N c (exec E call n ac)
  | .skip, ac, h => by
    simp only [codeOf] at h
    cases h
    intro st r hr G a w hst Q hQ
    cases hr
    exact wp_skip (hQ _ _ _ ⟨G, Le.refl _ _ _, Evo.refl _, hst, rfl⟩)
  | .region id ops draw, ac, h => by
    simp only [codeOf] at h
    cases h1 : opersOf P N ops ops.toList with
    | none => rw [h1] at h; cases h
    | some as =>
      rw [h1] at h
      simp only at h
      cases draw with
      | true =>
        simp only [if_true] at h
        obtain ⟨aos, bs, rfl, D⟩ := drawOf_is h1 h
        exact draw_ok hm hcall hin D
      | false =>
        simp only [Bool.false_eq_true, if_false] at h
        cases h
        exact fixed_ok hcall hin h1
  | .seq x y, ac, h => by
    simp only [codeOf] at h
    cases h1 : codeOf P N x with
    | none => rw [h1] at h; cases h
    | some a =>
      cases h2 : codeOf P N y with
      | none => rw [h1, h2] at h; cases h
      | some b =>
        rw [h1, h2] at h
        cases h
        exact seq_ok (code_ok hm hcall hin n x a h1) (code_ok hm hcall hin n y b h2)
  | .cond c x y, ac, h => by
    simp only [codeOf] at h
    cases h0 : opd N c with
    | none => rw [h0] at h; cases h
    | some o =>
      cases h1 : codeOf P N x with
      | none => rw [h0, h1] at h; cases h
      | some a =>
        cases h2 : codeOf P N y with
        | none => rw [h0, h1, h2] at h; cases h
        | some b =>
          rw [h0, h1, h2] at h
          cases h
          exact cond_ok h0 (code_ok hm hcall hin n x a h1) (code_ok hm hcall hin n y b h2)
  | .block id x, ac, h => by
    simp only [codeOf] at h
    cases h1 : codeOf P N x with
    | none => rw [h1] at h; cases h
    | some a => rw [h1] at h; cases h; exact block_ok (code_ok hm hcall hin n x a h1)
  | .loop x, ac, h => by
    simp only [codeOf] at h
    cases h1 : codeOf P N x with
    | none => rw [h1] at h; cases h
    | some a => rw [h1] at h; cases h; exact loop_ok (code_ok hm hcall hin n x a h1) n
  | .exit id, ac, h => by
    simp only [codeOf] at h
    cases h
    intro st r hr G a w hst Q hQ
    cases hr
    exact wp_exit (hQ _ _ _ ⟨G, Le.refl _ _ _, Evo.refl _, hst, rfl⟩)
  | .ret, ac, h => by
    simp only [codeOf] at h
    cases h
    intro st r hr G a w hst Q hQ
    cases hr
    exact wp_ret (hQ _ _ _ ⟨G, Le.refl _ _ _, Evo.refl _, hst, rfl⟩)
  | .rangeFunc .., ac, h => by simp only [codeOf] at h; cases h
  | .scope _, ac, h => by simp only [codeOf] at h; cases h
  | .label _, ac, h => by simp only [codeOf] at h; cases h
  | .goto _, ac, h => by simp only [codeOf] at h; cases h
  | .refuse _, ac, h => by simp only [codeOf] at h; cases h
end
end Go.Am
