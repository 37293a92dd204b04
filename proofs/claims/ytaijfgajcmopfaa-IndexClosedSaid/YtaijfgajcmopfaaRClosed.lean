import Derived.Test.YtaijfgajcmopfaaX9
/- IndexClosed returns true for every slice of calls, and the slice reads as it did; no condition. -/
set_option linter.unusedVariables false
namespace Go.Proofs.Ytaijfgajcmopfaa.RClosed
open Go.ChangeShapes Go.WideShapes Go.ChangeAt Go.RowKit V Lw Ar X9

set_option maxRecDepth 100000 in
theorem contract (H : Type) (enc : TypeId × Value → H) (W : World) (base : Nat) (args : Array Value) (ds gs : List (DataW H)) (before : List MemPlace)
    (hval : ∀ (j : Nat) t v, Try.f6.params[j]? = some t → args[j]? = some v → Value.okWide Try.prog W .any base t v)
    (hW : DataW.Whole enc Try.prog Try.f6.params.toList Rows.indexClosedSpec.vars false W args.toList ds gs before) :
    Calls Try.prog 6 args W fun e W' => ∃ v, e = .returned v ∧ Rows.indexClosedSpec.post enc Try.prog Try.f6 false true false false W args v W' := by
  have hW' := hW
  obtain ⟨p, q, hA0, hV, rfl, hfz, hnd⟩ := hW
  have hA : DataW.TrodAll enc Try.prog W 0 (fun _ => true) true Try.f6.params.toList args.toList ds p := hA0
  rw [Try.params6] at hA hval
  obtain ⟨v0, vs0, d0, ds0, p0, q0, hargs, rfl, rfl, h0, r0⟩ := trodAll_cons hA
  obtain ⟨rfl, rfl, rfl⟩ := trodAll_nil r0
  obtain rfl : args = #[v0] := by cases args; simp_all
  obtain ⟨os, hO⟩ := open_ops (hval 0 22 v0 rfl rfl) h0
  refine (closed_any v0 os W hO).mono fun e W' ⟨he, hk⟩ => ⟨_, he, ?_⟩
  refine post_true rfl ?_ hW' hk (by kernel_rfl) ?_
  · rw [Try.params6]
    intro t ht
    simp only [List.mem_singleton] at ht
    subst ht
    exact of_decide_eq_true (by kernel_rfl)
  · intro ds hl
    rw [Try.params6] at hl
    match ds, hl with
    | [d], _ => rfl

set_option maxRecDepth 100000 in
theorem lifted (os : Os) (started : os.Started) (H : Type) (enc : TypeId × Value → H) :
    ReturnsInHanded {} Try.checked os 6 .any (Rows.indexClosedSpec.pre6 enc Try.prog Try.f6 Rows.indexClosedRow.domain false) (Rows.indexClosedSpec.post enc Try.prog Try.f6 false true false false) := by
  refine returnsInHanded_of_change (C := Try.checked) own started (by kernel_rfl) Try.func6
    (ChangeSpec.witness6 (enc := enc) (C := Try.checked) false ⟨#[], #[.slice none 0 0], []⟩ 8 (by kernel_rfl) (by kernel_rfl) (by kernel_rfl) (by kernel_rfl)) ?_
  intro W base args ds gs before hval hW _ _
  exact contract H enc W base args ds gs before hval hW

theorem holds : Rows.IndexClosedSaid :=
  OpenClaim.holds_of_wide (s := Rows.indexClosedSpec) 6 Try.f6 rfl rfl rfl rfl rfl rfl rfl ⟨rfl, rfl, rfl, rfl, rfl⟩ rfl rfl rfl rfl rfl (by kernel_rfl) Try.func6 (by kernel_rfl)
    (of_decide_eq_true (by kernel_rfl)) (by unfold Func.isWrapper; first | (rw [if_pos (by decide +kernel)]; kernel_rfl) | (rw [if_neg (by decide +kernel)]; exact ⟨rfl, rfl⟩))
    (fun os started H enc _ => lifted os started H enc)
end Go.Proofs.Ytaijfgajcmopfaa.RClosed
