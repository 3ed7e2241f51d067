/- GraphNil returns true, for every key, and leaves all as it was; hornbook/ins.forms holds what its text lays. -/
import Derived.Test.YtgbeonpbgalbnaaGreatDoorAmEnv
import Derived.Test.YtgbeonpbgalbnaaGreatDoorAmLaw
import Derived.Test.YtgbeonpbgalbnaaGreatDoorCards
import Derived.Test.YtgbeonpbgalbnaaGreatDoorTie
import Derived.WalkKit
import Derived.ProofKit
import Derived.OpenShut
import Derived.Deep.DeepHandedRow
import Derived.Lib.LaidTab
import Derived.Lay
namespace Go.Proofs.YtgbeonpbgalbnaaGreatDoor.graphNil
open Go.ChangeShapes Go.WideShapes Go.ChangeAt Go.RowKit Go.Am
set_option maxRecDepth 100000

noncomputable def forms : List V := (openD (H := Unit) Tryz.prog 5 225 Rows.laid_hornbook_ins_forms).getD []
noncomputable def E : Env := { fns := Go.Am.fns, glob := fun g => bif Nat.beq g 0 then some (.agg forms) else none, intr := fun _ => none }
theorem runs (a b : List UInt8) : isTrue (callN E 300 5 [.agg [.str a, .str b]] Hp.empty) = true := by kernel_rfl
theorem gForms : Tryz.prog.globalNamed "hornbook/ins.forms" = some 0 := by kernel_rfl
theorem tForms : (Tryz.prog.globals[0]?).map (·.type) = some 225 := by kernel_rfl
theorem oForms : (openD (H := Unit) Tryz.prog 5 225 Rows.laid_hornbook_ins_forms).isSome = true := by kernel_rfl
theorem pForms : (V.agg forms).pure = true := by kernel_rfl
theorem globOk {W : World} (h : laidMet Tryz.prog Rows.graphNilRow.laid W) : GlobOk E outer Hp.empty W := by
  intro n v hv
  by_cases hn : n = 0
  · subst hn
    have hv : some (V.agg forms) = some v := hv
    cases hv
    refine ⟨pForms, glob_open h (name := "hornbook/ins.forms") (d := Rows.laid_hornbook_ins_forms) (by simp [Rows.graphNilRow]) gForms tForms (n := 5) ?_ (outer_own 0)⟩
    unfold forms
    cases ho : openD (H := Unit) Tryz.prog 5 225 Rows.laid_hornbook_ins_forms with
    | none => have := oForms; rw [ho] at this; cases this
    | some l => rfl
  · have hv : (bif Nat.beq n 0 then some (V.agg forms) else none) = some v := hv
    rw [beqF hn] at hv
    cases hv
theorem contract (H : Type) (enc : TypeId × Value → H) (W : World) (base : Nat) (args : Array Value) (ds gs : List (DataW H)) (before : List MemPlace)
    (hval : ∀ (j : Nat) t v, Tryz.f5.params[j]? = some t → args[j]? = some v → Value.okWide Tryz.prog W .any base t v)
    (hW : DataW.Whole enc Tryz.prog Tryz.f5.params.toList Rows.graphNilSpec.vars false W args.toList ds gs before) (hL : laidMetH Tryz.prog Rows.graphNilRow.laid W) :
    Calls Tryz.prog 5 args W fun e W' => ∃ v, e = .returned v ∧ Rows.graphNilSpec.post enc Tryz.prog Tryz.f5 false true false false W args v W' := by
  have hW' := hW
  obtain ⟨p, q, hA0, hV, rfl, hfz, hnd⟩ := hW
  have hA : DataW.TrodAll enc Tryz.prog W 0 (fun _ => true) true Tryz.f5.params.toList args.toList ds p := hA0
  rw [Tryz.params5] at hA hval
  obtain ⟨v0, vs0, d0, ds0, p0, q0, hargs, rfl, rfl, h0, r0⟩ := trodAll_cons hA
  obtain ⟨rfl, rfl, rfl⟩ := trodAll_nil r0
  obtain rfl : args = #[v0] := by cases args; simp_all
  obtain ⟨rfl, rfl⟩ := trodVars_none hV
  have hk := hval 0 24 v0 rfl rfl
  unfold Value.okWide at hk
  rw [Tryz.underlying24] at hk
  obtain ⟨cs, rfl, hsz, -⟩ := hk
  obtain ⟨fuel, h⟩ := h0
  obtain ⟨xs, m, rfl, hx, hl, hn, hall⟩ := DataW.trod_struct Tryz.underlying24 h
  have e0 := hall 0 _ rfl
  have e1 := hall 1 _ rfl
  have hn2 : xs.length = 2 := hn
  obtain ⟨x0, x1, rfl⟩ : ∃ x0 x1, xs = [x0, x1] := by
    match xs, hn2 with
    | [a, b], _ => exact ⟨a, b, rfl⟩
  have c9 : Tryz.prog.cellsOf 9 = 1 := by kernel_rfl
  have c24 : Tryz.prog.cellsOf 24 = 2 := by kernel_rfl
  have u9 : Tryz.prog.underlying 9 = some .string := by kernel_rfl
  simp only [List.getElem?_cons_zero, List.getElem?_cons_succ] at e0 e1
  obtain ⟨a, ha, -, -⟩ := DataW.trod_string u9 e0
  obtain ⟨b, hb, -, -⟩ := DataW.trod_string u9 e1
  have ha : (cs.toList.drop 0).take (Tryz.prog.cellsOf 9) = [.string a] := ha
  have hb : (cs.toList.drop 1).take (Tryz.prog.cellsOf 9) = [.string b] := hb
  rw [c9] at ha hb
  have hcs : cs.toList = [.string a, .string b] := by
    have hl2 : cs.toList.length = 2 := by rw [← c24]; exact hl
    generalize cs.toList = l at ha hb hl2
    match l, hl2 with
    | [y, z], _ => simp at ha hb; rw [ha, hb]
  refine (calls_true (E := E) Tryz.checked.mixed (fnsOk rfl) (fun f g hg => by cases hg) (runs a.data.toList b.data.toList) (globOk hL) (cargs := #[.agg cs])
    (.cons _ _ _ _ (.agg cs _ (by rw [hcs]; exact .cons _ _ _ _ (.str _ _ rfl) (.cons _ _ _ _ (.str _ _ rfl) .nil)) (by simp [V.one])) .nil)).mono fun e W' ⟨he, hB⟩ => ?_
  refine ⟨_, he, post_law rfl hW' hB rfl (by kernel_rfl) Tryz.underlying4 (by kernel_rfl) ?_⟩
  rw [Tryz.params5]
  intro t ht
  obtain rfl : t = 24 := by simpa using ht
  exact ⟨by kernel_rfl, by show 24 < Tryz.prog.types.size; exact of_decide_eq_true (by kernel_rfl)⟩
end Go.Proofs.YtgbeonpbgalbnaaGreatDoor.graphNil
