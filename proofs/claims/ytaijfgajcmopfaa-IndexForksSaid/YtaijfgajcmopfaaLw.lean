import Derived.Test.YtaijfgajcmopfaaV
import Derived.Test.YtaijfgajcmopfaaRows
import Derived.ReadAgain
import Derived.ProofKit
import Derived.OpenShut
import Derived.Deep.DeepHandedRow
import Derived.Deep.Slices
/- A law's post, from 'the blocks that were there lie as they lay'. -/
set_option linter.unusedVariables false
namespace Go.Proofs.Ytaijfgajcmopfaa.Lw
open Go.RowKit Go.ChangeShapes Go.WideShapes Go.ChangeAt V

theorem kids : Kids Try.prog (· < Try.prog.types.size) := kids_rows (by kernel_rfl) (by kernel_rfl)
theorem full : ∀ t e, t < Try.prog.types.size → Try.prog.underlying t = some (.slice e) → 0 < Try.prog.cellsOf e := slices_full_of Try.prog (by kernel_rfl)
theorem own : ownKnob Try.prog.godebug = none := by kernel_rfl

section
variable {H : Type} {enc : TypeId × Value → H} {P : Program} {W W' : World}

theorem keep_kept {S : Nat → Prop} (h : Keep No W W') (may : MemPlace → Prop) : W.keptBut W' may := by
  refine ⟨h.os, h.output, fun i hi => ?_⟩
  rw [h.block i hi (no _)]
  cases hx : W.heap[i]? with
  | none => trivial
  | some o =>
    cases o <;> simp

theorem keep_same (h : Keep No W W') {p : MemPlace} (hp : p.block < W.heap.size) : W.sameAt W' p := by
  cases p with
  | cell b off => exact World.cell?_of_block (h.block b hp (no _))
  | map b => exact h.block b hp (no _)

theorem trodAll_carry {base : Nat} {spare : Nat → Bool} {held : Bool} : ∀ {ts : List TypeId} {vs : List Value} {ds : List (DataW H)} {ps : List MemPlace}, DataW.TrodAll enc P W base spare held ts vs ds ps → (∀ p ∈ ps, W.sameAt W' p) → DataW.TrodAll enc P W' base spare held ts vs ds ps
  | [], [], [], _, h, _ => h
  | _ :: _, _ :: _, _ :: _, _, ⟨p, q, ⟨n, h1⟩, h2, e⟩, hs => ⟨p, q, ⟨n, DataW.trod_carry n _ _ _ h1 (fun x hx => hs x (by rw [e]; exact List.mem_append_left _ hx))⟩, trodAll_carry h2 (fun x hx => hs x (by rw [e]; exact List.mem_append_right _ hx)), e⟩
end

theorem trodAll_len {H : Type} {enc : TypeId × Value → H} {P : Program} {w : World} {base : Nat} {sp : Nat → Bool} {held : Bool} : ∀ {ts : List TypeId} {vs : List Value} {ds : List (DataW H)} {ps : List MemPlace}, DataW.TrodAll enc P w base sp held ts vs ds ps → ds.length = ts.length
  | [], [], [], _, _ => rfl
  | _ :: _, _ :: _, _ :: _, _, ⟨_, _, _, h2, _⟩ => by simp [trodAll_len h2]

set_option maxRecDepth 100000 in
/-- **A LAW's POST**: it answered true, and what lay there lies as it lay. -/
theorem post_true {H : Type} {enc : TypeId × Value → H} {f : Func} {s : ChangeSpec} {apart fresh handsOn again : Bool} {W W' : World} {args : Array Value} {ds gs : List (DataW H)} {before : List MemPlace}
    (hv : s.vars = []) (hT : ∀ t ∈ f.params.toList, t < Try.prog.types.size) (hW : DataW.Whole enc Try.prog f.params.toList s.vars apart W args.toList ds gs before) (hk : Keep No W W')
    (hr : f.resultTypes = #[4]) (hfn : ∀ ds : List (DataW H), ds.length = f.params.toList.length → s.fn H ds = { results := [.lit (.bool true)], args := ds }) :
    s.post enc Try.prog f apart fresh handsOn again W args (.bool true) W' := by
  obtain ⟨pa, pv, hA, hV, hb, hz, hn⟩ := hW
  have hW' : DataW.Whole enc Try.prog f.params.toList s.vars apart W args.toList ds gs before := ⟨pa, pv, hA, hV, hb, hz, hn⟩
  have hgs : gs = [] ∧ pv = [] := by rw [hv] at hV; exact trodVars_none hV
  obtain ⟨rfl, rfl⟩ := hgs
  have hlen : ds.length = f.params.toList.length := trodAll_len hA
  have hf := hfn ds hlen
  have hpa : ∀ p ∈ pa, p.block < W.heap.size := hA.lt
  have hba : before = pa := by rw [hb]; simp
  subst hba
  have hargs : ∀ sp : Nat → Bool, (∀ p ∈ before, sp p.block = true) → DataW.TrodAll enc Try.prog W' 0 sp true f.params.toList args.toList ds before := fun sp hsp =>
    trodAll_carry (DataW.TrodAll.respare kids full hT hA hsp) (fun p hp => keep_same hk (hpa p hp))
  have hres : ∀ (b : Nat) (sp : Nat → Bool) (hd : Bool), DataW.TrodAll enc Try.prog W' b sp hd f.resultTypes.toList ((Value.bool true).resultList f.resultTypes.size) [.lit (.bool true)] [] := fun b sp hd => by
    rw [hr]
    exact trodAll_cons_mk (shut_bool Try.underlying4 _) trodAll_mk0
  have hvars : ∀ sp : Nat → Bool, DataW.TrodVars enc Try.prog W' sp s.vars [] [] := fun sp => by rw [hv]; rfl
  have hold : ∀ p ∈ before, (fun b => decide (b < W.heap.size)) p.block = true := fun p hp => by simpa using hpa p hp
  refine ⟨ds, [], before, [], before, [], hW', ?_, ?_, ?_, keep_kept (S := No) hk _, fun _ => ⟨?_, ?_⟩⟩
  · rw [List.append_nil, hf]; exact hres _ _ _
  · rw [List.append_nil, hf]; exact hargs _ hold
  · rw [List.append_nil, hf]; exact hvars _
  · exact ok_one (t := 4) hr (by rfl) (okWide_bool_mk Try.underlying4 _)
  · refine ⟨_, _, ([] ++ before) ++ [], ⟨[] ++ before, [], trodAll_append (hargs (fun _ => true) (fun _ _ => rfl)) (hres _ _ _), hvars _, rfl, ?_, ?_⟩, ?_⟩
    · intro b off hp
      have hp' : MemPlace.cell b off ∈ before := by simpa using hp
      rw [World.frozen?_of_block (hk.block b (hpa _ hp') (no _))]
      exact hz b off (by simpa using hp')
    · intro ha
      simpa using hn ha
    · intro p hp _
      simpa using hp
end Go.Proofs.Ytaijfgajcmopfaa.Lw
