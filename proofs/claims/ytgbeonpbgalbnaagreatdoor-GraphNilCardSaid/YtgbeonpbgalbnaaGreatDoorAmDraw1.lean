/- REGIONS THAT DRAW THEIR ORDER: which operations mind the heap. -/
import Derived.Test.YtgbeonpbgalbnaaGreatDoorAmRun3
namespace Go.Am
set_option autoImplicit false

mutual
theorem same_eq : ∀ (a b : V), a.same b = true → a = b
  | .int j a, b, h => by cases b <;> simp_all [V.same]
  | .bool a, b, h => by cases b <;> simp_all [V.same]
  | .str a, b, h => by cases b <;> simp_all [V.same]
  | .agg a, b, h => by cases b <;> simp only [V.same] at h <;> first | cases h | (rw [sameL_eq _ _ h])
  | .tuple a, b, h => by cases b <;> simp only [V.same] at h <;> first | cases h | (rw [sameL_eq _ _ h])
  | .ptr i o, b, h => by cases b <;> simp_all [V.same]
  | .nilp, b, h => by cases b <;> simp_all [V.same]
  | .pp a, b, h => by cases b <;> simp only [V.same] at h <;> first | cases h | (rw [same_eq _ _ h])
  | .sl i o n c es ag, b, h => by cases b <;> simp_all [V.same]
  | .psl a f, b, h => by
    cases b <;> simp only [V.same] at h <;> first | cases h | (simp only [Bool.and_eq_true] at h; rw [sameL_eq _ _ h.1, eq_of_beq h.2])
  | .nils, b, h => by cases b <;> simp_all [V.same]
  | .map i, b, h => by cases b <;> simp_all [V.same]
  | .pmap a c, b, h => by
    cases b <;> simp only [V.same] at h <;> first | cases h | (simp only [Bool.and_eq_true] at h; rw [sameL_eq _ _ h.1, sameL_eq _ _ h.2])
  | .nilm, b, h => by cases b <;> simp_all [V.same]
  | .fn f a c, b, h => by
    cases b <;> simp only [V.same] at h <;> first | cases h | (simp only [Bool.and_eq_true, beq_iff] at h; rw [h.1.1, sameL_eq _ _ h.1.2, sameL_eq _ _ h.2])
  | .nilf, b, h => by cases b <;> simp_all [V.same]
  | .iface t a, b, h => by
    cases b <;> simp only [V.same] at h <;> first | cases h | (simp only [Bool.and_eq_true, beq_iff] at h; rw [h.1, same_eq _ _ h.2])
  | .nili, b, h => by cases b <;> simp_all [V.same]
theorem sameL_eq : ∀ (a b : List V), V.sameL a b = true → a = b
  | [], b, h => by cases b <;> simp_all [V.sameL]
  | x :: a, b, h => by
    cases b with
    | nil => simp [V.sameL] at h
    | cons y b =>
      simp only [V.sameL, Bool.and_eq_true] at h
      rw [same_eq _ _ h.1, sameL_eq _ _ h.2]
end

/-- What does not move the heap leaves it. -/
theorem map_snd {α : Type} {o : Option α} {f : α → V × Hp} {v : V} {H H' : Hp} (hf : ∀ a, (f a).2 = H) (h : o.map f = some (v, H')) : H' = H := by
  cases o with
  | none => cases h
  | some a => have := Option.some.inj h; have h2 := hf a; rw [this] at h2; exact h2
theorem ev_lies {a : AOp} (hm : a.moves = false) {vs : List V} {H H' : Hp} {v : V} (h : a.ev vs H = some (v, H')) : H' = H := by
  cases a <;> simp only [AOp.moves, Bool.true_eq_false] at hm <;> simp only [AOp.ev] at h
  case mov => unfold evMov at h; ((try simp only [cond_eq_ite] at h); (repeat' split at h); all_goals first | contradiction | (cases h; rfl) | exact map_snd (fun _ => rfl) h | cases h)
  case pick => unfold evPick at h; ((try simp only [cond_eq_ite] at h); (repeat' split at h); all_goals first | contradiction | (cases h; rfl) | exact map_snd (fun _ => rfl) h | cases h)
  case build => unfold evBuild at h; ((try simp only [cond_eq_ite] at h); (repeat' split at h); all_goals first | contradiction | (cases h; rfl) | exact map_snd (fun _ => rfl) h | cases h)
  case load => unfold evLoad at h; ((try simp only [cond_eq_ite] at h); (repeat' split at h); all_goals first | contradiction | (cases h; rfl) | exact map_snd (fun _ => rfl) h | cases h)
  case nilchk => unfold evNilchk at h; ((try simp only [cond_eq_ite] at h); (repeat' split at h); all_goals first | contradiction | (cases h; rfl) | exact map_snd (fun _ => rfl) h | cases h)
  case bin => unfold evBin at h; ((try simp only [cond_eq_ite] at h); (repeat' split at h); all_goals first | contradiction | (cases h; rfl) | exact map_snd (fun _ => rfl) h | cases h)
  case eq => unfold evEq at h; ((try simp only [cond_eq_ite] at h); (repeat' split at h); all_goals first | contradiction | (cases h; rfl) | exact map_snd (fun _ => rfl) h | cases h)
  case un => unfold evUn at h; ((try simp only [cond_eq_ite] at h); (repeat' split at h); all_goals first | contradiction | (cases h; rfl) | exact map_snd (fun _ => rfl) h | cases h)
  case conv k => cases k <;> simp only [Bool.true_eq_false] at hm <;> unfold evConv at h <;> (try unfold convBytes at h) <;> ((try simp only [cond_eq_ite] at h); (repeat' split at h); all_goals first | contradiction | (cases h; rfl) | exact map_snd (fun _ => rfl) h | cases h)
  case mkfn => unfold evMkfn at h; ((try simp only [cond_eq_ite] at h); (repeat' split at h); all_goals first | contradiction | (cases h; rfl) | exact map_snd (fun _ => rfl) h | cases h)
  case slice => unfold evSlice at h; ((try simp only [cond_eq_ite] at h); (repeat' split at h); all_goals first | contradiction | (cases h; rfl) | exact map_snd (fun _ => rfl) h | cases h)
  case slarr => unfold evSlarr at h; ((try simp only [cond_eq_ite] at h); (repeat' split at h); all_goals first | contradiction | (cases h; rfl) | exact map_snd (fun _ => rfl) h | cases h)
  case faddr => unfold evFaddr at h; ((try simp only [cond_eq_ite] at h); (repeat' split at h); all_goals first | contradiction | (cases h; rfl) | exact map_snd (fun _ => rfl) h | cases h)
  case iaddr => unfold evIaddr at h; ((try simp only [cond_eq_ite] at h); (repeat' split at h); all_goals first | contradiction | (cases h; rfl) | exact map_snd (fun _ => rfl) h | cases h)
  case iaddrA => unfold evIaddrA at h; ((try simp only [cond_eq_ite] at h); (repeat' split at h); all_goals first | contradiction | (cases h; rfl) | exact map_snd (fun _ => rfl) h | cases h)
  case field => unfold evField at h; ((try simp only [cond_eq_ite] at h); (repeat' split at h); all_goals first | contradiction | (cases h; rfl) | exact map_snd (fun _ => rfl) h | cases h)
  case idxS => unfold evIdxS at h; ((try simp only [cond_eq_ite] at h); (repeat' split at h); all_goals first | contradiction | (cases h; rfl) | exact map_snd (fun _ => rfl) h | cases h)
  case idxA => unfold evIdxA at h; ((try simp only [cond_eq_ite] at h); (repeat' split at h); all_goals first | contradiction | (cases h; rfl) | exact map_snd (fun _ => rfl) h | cases h)
  case lookup => unfold evLookup at h; ((try simp only [cond_eq_ite] at h); (repeat' split at h); all_goals first | contradiction | (cases h; rfl) | exact map_snd (fun _ => rfl) h | cases h)
  case extract => unfold evExtract at h; ((try simp only [cond_eq_ite] at h); (repeat' split at h); all_goals first | contradiction | (cases h; rfl) | exact map_snd (fun _ => rfl) h | cases h)
  case len k => cases k <;> unfold evLen at h <;> ((try simp only [cond_eq_ite] at h); (repeat' split at h); all_goals first | contradiction | (cases h; rfl) | exact map_snd (fun _ => rfl) h | cases h)
  case lenA => unfold evLenA at h; ((try simp only [cond_eq_ite] at h); (repeat' split at h); all_goals first | contradiction | (cases h; rfl) | exact map_snd (fun _ => rfl) h | cases h)
  case cap => unfold evCap at h; ((try simp only [cond_eq_ite] at h); (repeat' split at h); all_goals first | contradiction | (cases h; rfl) | exact map_snd (fun _ => rfl) h | cases h)
  case min => unfold evMin at h; ((try simp only [cond_eq_ite] at h); (repeat' split at h); all_goals first | contradiction | (cases h; rfl) | exact map_snd (fun _ => rfl) h | cases h)
  case max => unfold evMax at h; ((try simp only [cond_eq_ite] at h); (repeat' split at h); all_goals first | contradiction | (cases h; rfl) | exact map_snd (fun _ => rfl) h | cases h)
  case mkiface => unfold evMkiface at h; ((try simp only [cond_eq_ite] at h); (repeat' split at h); all_goals first | contradiction | (cases h; rfl) | exact map_snd (fun _ => rfl) h | cases h)
  case tassert => unfold evTassert at h; ((try simp only [cond_eq_ite] at h); (repeat' split at h); all_goals first | contradiction | (cases h; rfl) | exact map_snd (fun _ => rfl) h | cases h)
  all_goals (unfold evNone at h; cases h)
/-- What neither moves nor reads the heap gives the same in every heap. -/
theorem ev_blind {a : AOp} (hm : a.moves = false) (hr : a.reads = false) : ∀ (vs : List V) (H K : Hp), a.ev vs K = (a.ev vs H).map fun x => (x.1, K) := by
  cases a <;> simp only [AOp.moves, Bool.true_eq_false] at hm <;> simp only [AOp.reads, Bool.true_eq_false] at hr <;> simp only [AOp.ev]
  case mov => unfold evMov; (intro vs H K; (try simp only [cond_eq_ite]); (repeat' split); all_goals first | rfl | (simp only [Option.map_map]; rfl) | simp_all)
  case pick => unfold evPick; (intro vs H K; (try simp only [cond_eq_ite]); (repeat' split); all_goals first | rfl | (simp only [Option.map_map]; rfl) | simp_all)
  case build => unfold evBuild; (intro vs H K; (try simp only [cond_eq_ite]); (repeat' split); all_goals first | rfl | (simp only [Option.map_map]; rfl) | simp_all)
  case nilchk => unfold evNilchk; (intro vs H K; (try simp only [cond_eq_ite]); (repeat' split); all_goals first | rfl | (simp only [Option.map_map]; rfl) | simp_all)
  case bin => unfold evBin; (intro vs H K; (try simp only [cond_eq_ite]); (repeat' split); all_goals first | rfl | (simp only [Option.map_map]; rfl) | simp_all)
  case eq => unfold evEq; (intro vs H K; (try simp only [cond_eq_ite]); (repeat' split); all_goals first | rfl | (simp only [Option.map_map]; rfl) | simp_all)
  case un => unfold evUn; (intro vs H K; (try simp only [cond_eq_ite]); (repeat' split); all_goals first | rfl | (simp only [Option.map_map]; rfl) | simp_all)
  case conv k => cases k <;> simp only [Bool.true_eq_false] at hm hr <;> unfold evConv <;> (intro vs H K; (try simp only [cond_eq_ite]); (repeat' split); all_goals first | rfl | (simp only [Option.map_map]; rfl) | simp_all)
  case mkfn => unfold evMkfn; (intro vs H K; (try simp only [cond_eq_ite]); (repeat' split); all_goals first | rfl | (simp only [Option.map_map]; rfl) | simp_all)
  case slice => unfold evSlice; (intro vs H K; (try simp only [cond_eq_ite]); (repeat' split); all_goals first | rfl | (simp only [Option.map_map]; rfl) | simp_all)
  case faddr => unfold evFaddr; (intro vs H K; (try simp only [cond_eq_ite]); (repeat' split); all_goals first | rfl | (simp only [Option.map_map]; rfl) | simp_all)
  case iaddr => unfold evIaddr; (intro vs H K; (try simp only [cond_eq_ite]); (repeat' split); all_goals first | rfl | (simp only [Option.map_map]; rfl) | simp_all)
  case iaddrA => unfold evIaddrA; (intro vs H K; (try simp only [cond_eq_ite]); (repeat' split); all_goals first | rfl | (simp only [Option.map_map]; rfl) | simp_all)
  case field => unfold evField; (intro vs H K; (try simp only [cond_eq_ite]); (repeat' split); all_goals first | rfl | (simp only [Option.map_map]; rfl) | simp_all)
  case idxS => unfold evIdxS; (intro vs H K; (try simp only [cond_eq_ite]); (repeat' split); all_goals first | rfl | (simp only [Option.map_map]; rfl) | simp_all)
  case idxA => unfold evIdxA; (intro vs H K; (try simp only [cond_eq_ite]); (repeat' split); all_goals first | rfl | (simp only [Option.map_map]; rfl) | simp_all)
  case extract => unfold evExtract; (intro vs H K; (try simp only [cond_eq_ite]); (repeat' split); all_goals first | rfl | (simp only [Option.map_map]; rfl) | simp_all)
  case lenA => unfold evLenA; (intro vs H K; (try simp only [cond_eq_ite]); (repeat' split); all_goals first | rfl | (simp only [Option.map_map]; rfl) | simp_all)
  case cap => unfold evCap; (intro vs H K; (try simp only [cond_eq_ite]); (repeat' split); all_goals first | rfl | (simp only [Option.map_map]; rfl) | simp_all)
  case min => unfold evMin; (intro vs H K; (try simp only [cond_eq_ite]); (repeat' split); all_goals first | rfl | (simp only [Option.map_map]; rfl) | simp_all)
  case max => unfold evMax; (intro vs H K; (try simp only [cond_eq_ite]); (repeat' split); all_goals first | rfl | (simp only [Option.map_map]; rfl) | simp_all)
  case mkiface => unfold evMkiface; (intro vs H K; (try simp only [cond_eq_ite]); (repeat' split); all_goals first | rfl | (simp only [Option.map_map]; rfl) | simp_all)
  case tassert => unfold evTassert; (intro vs H K; (try simp only [cond_eq_ite]); (repeat' split); all_goals first | rfl | (simp only [Option.map_map]; rfl) | simp_all)
  all_goals (unfold evNone; (intro vs H K; (try simp only [cond_eq_ite]); (repeat' split); all_goals first | rfl | (simp only [Option.map_map]; rfl) | simp_all))
end Go.Am
