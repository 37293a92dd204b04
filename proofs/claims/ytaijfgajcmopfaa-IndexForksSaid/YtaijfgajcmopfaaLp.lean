import Derived.Test.YtaijfgajcmopfaaRf
import Derived.Deep.LoopGhost
/- Loops whose frame's list of deferred calls grows (by the marks of ranges over functions); a return past the marks. -/
set_option linter.unusedVariables false
namespace Go.Proofs.Ytaijfgajcmopfaa.Lp
open Go.RowKit V Rf

/-- a frame's list: marks alone, none below base -/
def Marks (base : Nat) (ds : List Deferred) (W : World) : Prop := ∃ Ds : List Nat, ds = Ds.map Rf.mark ∧ Ds.Nodup ∧ ∀ D ∈ Ds, base ≤ D ∧ W.heap[D]? = some (.deferred (some []))

def IsMark (W : World) (k : Nat) : Prop := W.heap[k]? = some (.deferred (some []))

theorem Marks.nil (base : Nat) (W : World) : Marks base [] W := ⟨[], rfl, List.nodup_nil, fun _ h => by cases h⟩
theorem Marks.keep {base : Nat} {ds : List Deferred} {S : Nat → Prop} {W W' : World} (m : Marks base ds W) (k : Keep S W W') (hS : ∀ j, base ≤ j → IsMark W j → ¬ S j) : Marks base ds W' := by
  obtain ⟨Ds, h1, h2, h3⟩ := m
  refine ⟨Ds, h1, h2, fun D hD => ⟨(h3 D hD).1, ?_⟩⟩
  have h := (h3 D hD).2
  exact (k.block D (Array.getElem?_eq_some_iff.1 h).1 (hS D (h3 D hD).1 h)).trans h
theorem Marks.cons {base D : Nat} {ds : List Deferred} {S : Nat → Prop} {W W' : World} (m : Marks base ds W) (k : Keep S W W') (hS : ∀ j, base ≤ j → IsMark W j → ¬ S j) (hD : W.heap.size ≤ D) (hb : base ≤ D) (hd : W'.heap[D]? = some (.deferred (some []))) :
    Marks base (Rf.mark D :: ds) W' := by
  have m' := m.keep k hS
  obtain ⟨Ds, h1, h2, h3⟩ := m
  obtain ⟨Ds', h1', h2', h3'⟩ := m'
  have he : Ds = Ds' := by
    have : Ds.map Rf.mark = Ds'.map Rf.mark := h1.symm.trans h1'
    refine (List.map_inj_right (f := Rf.mark) ?_).1 this
    intro x y h
    unfold Rf.mark at h
    injection h with h
    injection h
  subst he
  refine ⟨D :: Ds, by rw [h1]; rfl, List.nodup_cons.2 ⟨fun hm => ?_, h2⟩, ?_⟩
  · have := (Array.getElem?_eq_some_iff.1 (h3 D hm).2).1
    omega
  · intro D' hD'
    rcases List.mem_cons.1 hD' with rfl | hD'
    · exact ⟨hb, hd⟩
    · exact h3' D' hD'

theorem Blk.notMark {w : World} {b : Nat} {cs : List Value} {t : TypeId} (h : Blk w b cs t) : ¬ IsMark w b := by
  intro h'
  unfold Blk at h
  unfold IsMark at h'
  rw [h] at h'
  cases h'

theorem marks_ret {P : Program} {fn : Func} {tmps : Array Value} {ds : List Deferred} {base n : Nat} {W : World} {R : Ending → World → Prop} (m : Marks base ds W)
    (h : ∀ W', Keep (fun k => base ≤ k ∧ IsMark W k) W W' → ∃ v, (results fn tmps).run P W' = .ok v W' ∧ R (.returned v) W') : bodyPostM Fence.wide n P fn R .ret { tmps := tmps, defers := ds } W := by
  obtain ⟨Ds, rfl, h2, h3⟩ := m
  exact leaves_marks Ds W h2 (fun D hD => (h3 D hD).2) (fun W' hW' => h W' (hW'.mono (fun k _ hk => h3 k hk)))
theorem marks_end {P : Program} {fn : Func} {tmps : Array Value} {ds : List Deferred} {base n : Nat} {W : World} {R : Ending → World → Prop} (m : Marks base ds W)
    (h : ∀ W', Keep (fun k => base ≤ k ∧ IsMark W k) W W' → ∃ v, (results fn tmps).run P W' = .ok v W' ∧ R (.returned v) W') : bodyPostM Fence.wide n P fn R .normal { tmps := tmps, defers := ds } W := marks_ret m h

def setAll (A : Array Value) : List Nat → (Nat → Value) → Array Value
  | [], _ => A
  | s :: ss, u => (setAll A ss u).setIfInBounds s (u s)

theorem setAll_self (A : Array Value) (ss : List Nat) : setAll A ss (fun i => A.getD i undef) = A := by
  induction ss with
  | nil => rfl
  | cons s ss ih =>
    rw [setAll, ih]
    exact Array.ext Array.size_setIfInBounds fun i h1 h2 => by
      rw [Array.getElem_setIfInBounds h2]
      split
      · rename_i hs
        subst hs
        rw [Array.getD_eq_getD_getElem?, Array.getElem?_eq_getElem h2]
        rfl
      · rfl

/-- **A LOOP**: the body writes 'slots' alone; the relation bears a number that every round lowers, and the frame's list of deferred calls. -/
theorem wp_loop_slots {P : Program} {Q : Exit → Act → World → Prop} {A0 : Array Value} {d0 : List Deferred} {w : World} {c : Code} (slots : List Nat) (rel : Nat → (Nat → Value) → List Deferred → World → Prop) (n0 : Nat)
    (h0 : rel n0 (fun i => A0.getD i undef) d0 w)
    (round : ∀ n u ds wr, rel n u ds wr → ∀ K : Act → World → Prop, (∀ a' w', Hid (∃ m, m < n ∧ a'.tmps = setAll A0 slots (fun i => a'.tmps.getD i undef) ∧ rel m (fun i => a'.tmps.getD i undef) a'.defers w') → K a' w') →
      c.wp P (Exit.then K Q) { tmps := setAll A0 slots u, defers := ds } wr) :
    (Code.loop c).wp P Q { tmps := A0, defers := d0 } w := by
  refine wp_loop_ghost (fun n a w => a.tmps = setAll A0 slots (fun i => a.tmps.getD i undef) ∧ rel n (fun i => a.tmps.getD i undef) a.defers w) n0 ⟨(setAll_self _ _).symm, h0⟩ ?_
  rintro n ⟨tmps, ds⟩ wr ⟨h1, h2⟩
  have h := round n _ ds wr h2 (fun a' w' => ∃ n', n' < n ∧ (a'.tmps = setAll A0 slots (fun i => a'.tmps.getD i undef) ∧ rel n' (fun i => a'.tmps.getD i undef) a'.defers w')) (fun a' w' h => h.out)
  simp only at h1
  rw [← h1] at h
  exact h
end Go.Proofs.Ytaijfgajcmopfaa.Lp
