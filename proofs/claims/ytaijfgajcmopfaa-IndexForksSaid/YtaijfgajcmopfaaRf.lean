import Derived.Test.YtaijfgajcmopfaaV
import Derived.RangeFuncNested
import Derived.RangeFuncLeaves
import Derived.RangeFuncCalls
/- A range over a function, in the words of 'Keep': the iterator's contract, the loop's law, the marks at a return. -/
set_option linter.unusedVariables false
namespace Go.Proofs.Ytaijfgajcmopfaa.Rf
open Go.RowKit V

/-- The blocks of O lie as they lay. -/
def Sta (O : Nat → Prop) (A B : World) : Prop := A.heap.size ≤ B.heap.size ∧ ∀ k, O k → B.heap[k]? = A.heap[k]?
theorem Sta.refl (O : Nat → Prop) (A : World) : Sta O A A := ⟨Nat.le_refl _, fun _ _ => rfl⟩
theorem Sta.trans {O : Nat → Prop} {A B C : World} (h : Sta O A B) (k : Sta O B C) : Sta O A C := ⟨Nat.le_trans h.1 k.1, fun i hi => (k.2 i hi).trans (h.2 i hi)⟩
theorem Sta.of_keep {O S : Nat → Prop} {A B : World} (h : Keep S A B) (hO : ∀ k, O k → k < A.heap.size ∧ ¬ S k) : Sta O A B := ⟨h.size, fun k hk => h.block k (hO k hk).1 (hO k hk).2⟩

theorem keep_putObj (S : Nat → Prop) (w : World) (l : Nat) (o : Obj) (h : S l) : Keep S w (w.putObj l o) where
  os := rfl
  tape := rfl
  output := rfl
  size := by simp
  block := fun k _ hn => World.putObj_heap_other (fun e => hn (by rw [e]; exact h))

/-- **AN ITERATOR's CONTRACT**: called at world w, it hands 'xs' to yield, one behind the other, till a round says no. What the caller knows ('J') is told for the blocks 'O' that the iterator has made for itself: it abides whatever happens to those alone, and each round leaves them as they lie. -/
def Seq {α : Type} (P : Program) (gf : Nat) (lb : Array Value) (encs : α → Array Value) (xs : List α) (w : World) : Prop :=
  ∀ (l : Nat) (J Jx : (Nat → Prop) → List α → World → Prop) (W : World), Keep No w W →
    (∀ O W1, Keep No W W1 → (∀ k, O k → W.heap.size ≤ k ∧ k < W1.heap.size) → J O [] W1) →
    (∀ O s A B, J O s A → Keep O A B → (∀ k, O k → k < A.heap.size) → J O s B) →
    (∀ O s A B, Jx O s A → Keep O A B → (∀ k, O k → k < A.heap.size) → Jx O s B) →
    (∀ O pre x W1, J O pre W1 → (pre ++ [x]) <+: xs → (∀ k, O k → W.heap.size ≤ k ∧ k < W1.heap.size) → YieldAt Fence.wide 8 P l (encs x) W1 fun e W' =>
      (e = .returned (.bool true) ∧ J O (pre ++ [x]) W' ∧ Sta O W1 W') ∨ (e = .returned (.bool false) ∧ Jx O (pre ++ [x]) W' ∧ Sta O W1 W')) →
    Calls P gf (#[.func (.yield l) #[] #[]] ++ lb) W fun e W' => (∃ v, e = .returned v) ∧ ∃ O : Nat → Prop, (∀ k, O k → W.heap.size ≤ k ∧ k < W'.heap.size) ∧ (J O xs W' ∨ ∃ s, Jx O s W')

/-- How the body of a round may be left. -/
def roundQ {α : Type} (O : Nat → Prop) (I : (Nat → Prop) → List α → World → Prop) (Ix : (Nat → Prop) → Code → List α → World → Prop) (s : List α) (W : World) : Exit → Act → World → Prop
  | .normal, _, W' => Sta O W W' ∧ I O s W'
  | .ret, _, W' => Sta O W W' ∧ Ix O .ret s W'
  | .exit id, _, W' => Sta O W W' ∧ Ix O (.exit id) s W'
  | .goto t, _, W' => Sta O W W' ∧ Ix O (.goto t) s W'
  | .panic _, _, _ => False
  | .outgrown, _, _ => False

def mark (D : Nat) : Deferred := { target := .collected D, args := #[] }

/-- **THE LOOP's LAW.** -/
theorem wp_range {α : Type} {P : Program} {g : Operand} {ps : Array Tmp} {assign body : Code} {Q : Exit → Act → World → Prop} {a : Act} {w : World} {gf : Nat} {lb : Array Value}
    (hg : a.eval g = .func (.func gf) #[] lb) (eg : ∀ args w, (callFunc gf args).run P w = .ok (.enter gf args) w) {encs : α → Array Value} {xs : List α} (hseq : Seq P gf lb encs xs w) (hps : ∀ x, (encs x).size = ps.size)
    (I : (Nat → Prop) → List α → World → Prop) (Ix : (Nat → Prop) → Code → List α → World → Prop)
    (h0 : ∀ O W, Keep No w W → (∀ k, O k → w.heap.size ≤ k ∧ k < W.heap.size) → I O [] W)
    (hI : ∀ O s A B, I O s A → Keep O A B → (∀ k, O k → w.heap.size ≤ k ∧ k < A.heap.size) → I O s B)
    (hIx : ∀ O c s A B, Ix O c s A → Keep O A B → (∀ k, O k → w.heap.size ≤ k ∧ k < A.heap.size) → Ix O c s B)
    (hround : ∀ (l : Nat) O pre x W, I O pre W → (pre ++ [x]) <+: xs → (∀ k, O k → w.heap.size ≤ k ∧ k < W.heap.size) →
      assign.wpIn (Fence.wide.inRound l) 8 P (Exit.then (fun a₁ W₁ => Sta O W W₁ ∧ I O pre W₁ ∧ ∀ W₂, Keep O W₁ W₂ → W₂.heap.size = W₁.heap.size → I O pre W₂ → body.wpIn (Fence.wide.inRound l) 8 P (roundQ O I Ix (pre ++ [x]) W₂) a₁ W₂) (fun _ _ _ => False))
        { tmps := (ps.zip (encs x)).foldl (fun t (p, v) => t.setIfInBounds p v) a.tmps, defers := [] } W)
    (hdone : ∀ (D : Nat) O W, w.heap.size ≤ D → O D → (∀ k, O k → w.heap.size ≤ k ∧ k < W.heap.size) → I O xs W → W.heap[D]? = some (.deferred (some [])) → Q .normal { a with defers := mark D :: a.defers } W)
    (hstop : ∀ (D : Nat) O c s W, w.heap.size ≤ D → O D → (∀ k, O k → w.heap.size ≤ k ∧ k < W.heap.size) → Ix O c s W → W.heap[D]? = some (.deferred (some [])) → c.wp P Q { a with defers := mark D :: a.defers } W) :
    (Code.rangeFunc g ps assign body).wp P Q a w := by
  refine (wpIn_wide (n := 9)).1 (wpIn_rangeFunc ?_)
  intro fn hfn
  obtain ⟨rec, hrec⟩ : ∃ rec : LoopState → Option Code → Loop, rec = fun st pe => { state := st, pending := pe, fn, tmps := a.tmps, params := ps, assign, body, defers := w.heap.size } := ⟨_, rfl⟩
  obtain ⟨W1, hW1⟩ : ∃ W1, (w.alloc (.deferred (some []))).alloc (.loop (rec .ready none)) = W1 := ⟨_, rfl⟩
  have hL1 : W1.heap[w.heap.size + 1]? = some (.loop (rec .ready none)) := by
    rw [← hW1]; have := World.alloc_heap_new (w.alloc (.deferred (some []))) (.loop (rec .ready none)); rwa [World.size_alloc] at this
  have hK1 : W1.heap[w.heap.size]? = some (.deferred (some [])) := by
    rw [← hW1]; exact (Below.heap_alloc _ _ _ (by simp)).trans (World.alloc_heap_new w _)
  have hwW : Keep No w W1 := by rw [← hW1]; exact ((Keep.refl _ _).alloc _).alloc _
  have hsz : W1.heap.size = w.heap.size + 2 := by rw [← hW1]; simp
  -- the iterator's own blocks, and the loop's two
  let U : (Nat → Prop) → Nat → Prop := fun O k => O k ∨ k = w.heap.size ∨ k = w.heap.size + 1
  refine ⟨w.heap.size + 1, [mark w.heap.size], W1, { target := .fn (.func gf) lb, args := #[.func (.yield (w.heap.size + 1)) #[] #[]] }, W1, gf,
    #[.func (.yield (w.heap.size + 1)) #[] #[]] ++ lb, W1, ?_, ?_, ?_, ?_, fun _ => by decide, ?_⟩
  · rw [← hW1, hrec]; exact run_enterLoop_outer _ _ _ _ _
  · simp only [resolve, hg]
    simp [go_sem]
  · intro f' hf'; trivial
  · simp [invoke, go_sem, eg]
  · have hU : ∀ {O : Nat → Prop} {W : World}, (∀ k, O k → W1.heap.size ≤ k ∧ k < W.heap.size) → W1.heap.size ≤ W.heap.size → ∀ k, U O k → w.heap.size ≤ k ∧ k < W.heap.size := by
      intro O W hO hs k hk
      rcases hk with hk | rfl | rfl
      · have := hO k hk; omega
      · omega
      · omega
    have hcall := hseq (w.heap.size + 1)
      (fun O s W => (W1.heap.size ≤ W.heap.size ∧ ∀ k, O k → W1.heap.size ≤ k ∧ k < W.heap.size) ∧ I (U O) s W ∧ W.heap[w.heap.size + 1]? = some (.loop (rec .ready none)) ∧ W.heap[w.heap.size]? = some (.deferred (some [])))
      (fun O s W => (W1.heap.size ≤ W.heap.size ∧ ∀ k, O k → W1.heap.size ≤ k ∧ k < W.heap.size) ∧ ∃ c, Ix (U O) c s W ∧ W.heap[w.heap.size + 1]? = some (.loop (rec .done (some c))) ∧ W.heap[w.heap.size]? = some (.deferred (some [])))
      W1 hwW ?_ ?_ ?_ ?_
    · refine (callsIn_wide.2 hcall).mono ?_
      rintro e W2 ⟨⟨v, rfl⟩, O, hO, hJ | ⟨s, hJ⟩⟩
      · obtain ⟨⟨hs, hO1⟩, hi, hl, hk⟩ := hJ
        have h3 := keep_putObj (U O) W2 (w.heap.size + 1) (.loop { rec .ready none with state := .exhausted }) (.inr (.inr rfl))
        refine ⟨none, _, by have := run_endLoop (P := P) hl (by rw [hrec]; simp); rw [hrec] at this; exact this, ?_⟩
        have hU2 := hU hO1 hs
        rw [hrec] at h3
        exact hdone w.heap.size (U O) _ (Nat.le_refl _) (.inr (.inl rfl)) (fun k hk => by have := hU2 k hk; simpa using this) (hI _ _ _ _ hi h3 hU2) ((World.putObj_heap_other (by omega)).trans hk)
      · obtain ⟨⟨hs, hO1⟩, c, hi, hl, hk⟩ := hJ
        have h3 := keep_putObj (U O) W2 (w.heap.size + 1) (.loop { rec .done (some c) with state := .exhausted }) (.inr (.inr rfl))
        refine ⟨some c, _, by have := run_endLoop (P := P) hl (by rw [hrec]; simp); rw [hrec] at this; exact this, ?_⟩
        have hU2 := hU hO1 hs
        rw [hrec] at h3
        exact wpIn_wide.2 (hstop w.heap.size (U O) c s _ (Nat.le_refl _) (.inr (.inl rfl)) (fun k hk => by have := hU2 k hk; simpa using this) (hIx _ _ _ _ _ hi h3 hU2) ((World.putObj_heap_other (by omega)).trans hk))
    · intro O W hK hO
      have hs := hK.size
      exact ⟨⟨hs, hO⟩, h0 _ _ (hwW.trans hK (fun _ _ h => h)) (hU hO hs), (hK.block _ (by omega) (no _)).trans hL1, (hK.block _ (by omega) (no _)).trans hK1⟩
    · intro O s A B hJ hK hO
      obtain ⟨⟨hs, hO1⟩, hi, hl, hk⟩ := hJ
      have hU2 := hU hO1 hs
      refine ⟨⟨Nat.le_trans hs hK.size, fun k hk => ⟨(hO1 k hk).1, Nat.lt_of_lt_of_le (hO1 k hk).2 hK.size⟩⟩, hI _ _ _ _ hi (hK.mono (fun _ _ h => .inl h)) hU2, (hK.block _ (by omega) (fun h => ?_)).trans hl, (hK.block _ (by omega) (fun h => ?_)).trans hk⟩
      · have := (hO1 _ h).1; omega
      · have := (hO1 _ h).1; omega
    · intro O s A B hJ hK hO
      obtain ⟨⟨hs, hO1⟩, c, hi, hl, hk⟩ := hJ
      have hU2 := hU hO1 hs
      refine ⟨⟨Nat.le_trans hs hK.size, fun k hk => ⟨(hO1 k hk).1, Nat.lt_of_lt_of_le (hO1 k hk).2 hK.size⟩⟩, c, hIx _ _ _ _ _ hi (hK.mono (fun _ _ h => .inl h)) hU2, (hK.block _ (by omega) (fun h => ?_)).trans hl, (hK.block _ (by omega) (fun h => ?_)).trans hk⟩
      · have := (hO1 _ h).1; omega
      · have := (hO1 _ h).1; omega
    · intro O pre x W hJ hpre hO
      obtain ⟨⟨hs, hO1⟩, hi, hl, hk⟩ := hJ
      have hU2 := hU hO1 hs
      have hy := run_yield (P := P) (args := encs x) hl (by rw [hrec]; exact hps x)
      rw [hrec] at hy
      refine ⟨fn, _, assign, body, hy, roundIn_of_wpIn hfn (wpIn_mono (hround _ (U O) pre x W hi hpre hU2) ?_)⟩
      intro e a₁ Wa hq
      cases e with
      | normal =>
        obtain ⟨hsta, hi1, hbody⟩ := hq
        have hla : Wa.heap[w.heap.size + 1]? = some (.loop (rec .ready none)) := (hsta.2 _ (.inr (.inr rfl))).trans hl
        have hka : Wa.heap[w.heap.size]? = some (.deferred (some [])) := (hsta.2 _ (.inr (.inl rfl))).trans hk
        refine ⟨_, run_beginRound hla (by rw [hrec]), ?_⟩
        have hKb := keep_putObj (U O) Wa (w.heap.size + 1) (.loop { rec .ready none with state := .busy }) (.inr (.inr rfl))
        have hl2 : (Wa.putObj (w.heap.size + 1) (.loop { rec .ready none with state := .busy })).heap[w.heap.size + 1]? = some (.loop { rec .ready none with state := .busy }) := World.putObj_heap_same (Array.getElem?_eq_some_iff.1 hla).1
        have hk2 : (Wa.putObj (w.heap.size + 1) (.loop { rec .ready none with state := .busy })).heap[w.heap.size]? = some (.deferred (some [])) := (World.putObj_heap_other (by omega)).trans hka
        have hUa : ∀ k, U O k → w.heap.size ≤ k ∧ k < Wa.heap.size := fun k hk => ⟨(hU2 k hk).1, Nat.lt_of_lt_of_le (hU2 k hk).2 hsta.1⟩
        refine wpIn_mono (hbody _ hKb (by simp) (hI _ _ _ _ hi1 hKb hUa)) ?_
        have hOsta : ∀ W3, Sta (U O) (Wa.putObj (w.heap.size + 1) (.loop { rec .ready none with state := .busy })) W3 → ∀ jump : Option Code,
            (Instr.endRound (w.heap.size + 1) jump).run P W3 = .ok (.bool jump.isNone) (W3.putObj (w.heap.size + 1) (.loop (rec (if jump.isNone then .ready else .done) jump))) ∧
            (W3.putObj (w.heap.size + 1) (.loop (rec (if jump.isNone then .ready else .done) jump))).heap[w.heap.size + 1]? = some (.loop (rec (if jump.isNone then .ready else .done) jump)) ∧
            (W3.putObj (w.heap.size + 1) (.loop (rec (if jump.isNone then .ready else .done) jump))).heap[w.heap.size]? = some (.deferred (some [])) ∧
            Keep (U O) W3 (W3.putObj (w.heap.size + 1) (.loop (rec (if jump.isNone then .ready else .done) jump))) ∧ (∀ k, U O k → w.heap.size ≤ k ∧ k < W3.heap.size) ∧
            (W1.heap.size ≤ (W3.putObj (w.heap.size + 1) (.loop (rec (if jump.isNone then .ready else .done) jump))).heap.size ∧ ∀ k, O k → W1.heap.size ≤ k ∧ k < (W3.putObj (w.heap.size + 1) (.loop (rec (if jump.isNone then .ready else .done) jump))).heap.size) ∧
            Sta O W (W3.putObj (w.heap.size + 1) (.loop (rec (if jump.isNone then .ready else .done) jump))) := by
          intro W3 h3 jump
          have hl3 : W3.heap[w.heap.size + 1]? = some (.loop { rec .ready none with state := .busy }) := (h3.2 _ (.inr (.inr rfl))).trans hl2
          have hk3 : W3.heap[w.heap.size]? = some (.deferred (some [])) := (h3.2 _ (.inr (.inl rfl))).trans hk2
          have hszz : Wa.heap.size ≤ W3.heap.size := by have := h3.1; simpa using this
          have hr := run_endRound (P := P) jump hl3
          have hU3 : ∀ k, U O k → w.heap.size ≤ k ∧ k < W3.heap.size := fun k hk => ⟨(hUa k hk).1, Nat.lt_of_lt_of_le (hUa k hk).2 hszz⟩
          refine ⟨by rw [hrec] at hr ⊢; exact hr, World.putObj_heap_same (Array.getElem?_eq_some_iff.1 hl3).1, (World.putObj_heap_other (by omega)).trans hk3, keep_putObj (U O) W3 _ _ (.inr (.inr rfl)), hU3, ⟨by simp; have := hsta.1; omega, fun k hk => ⟨(hO1 k hk).1, by simp; exact (hU3 k (.inl hk)).2⟩⟩, by simp; have := hsta.1; omega, fun k hk => ?_⟩
          have hne : k ≠ w.heap.size + 1 := by have := (hO1 k hk).1; omega
          rw [World.putObj_heap_other hne, h3.2 k (.inl hk), World.putObj_heap_other hne, hsta.2 k (.inl hk)]
        rintro e a3 W3 hp
        cases e with
        | normal =>
          obtain ⟨hst3, hi3⟩ := hp
          obtain ⟨hr, hl4, hk4, hKe, hU3, hO4, hS4⟩ := hOsta W3 hst3 none
          exact ⟨_, _, hr, .inl ⟨rfl, ⟨hO4, hI _ _ _ _ hi3 hKe hU3, hl4, hk4⟩, hS4⟩⟩
        | ret =>
          obtain ⟨hst3, hi3⟩ := hp
          obtain ⟨hr, hl4, hk4, hKe, hU3, hO4, hS4⟩ := hOsta W3 hst3 (some .ret)
          exact ⟨_, _, hr, .inr ⟨rfl, ⟨hO4, .ret, hIx _ _ _ _ _ hi3 hKe hU3, hl4, hk4⟩, hS4⟩⟩
        | exit id =>
          obtain ⟨hst3, hi3⟩ := hp
          obtain ⟨hr, hl4, hk4, hKe, hU3, hO4, hS4⟩ := hOsta W3 hst3 (some (.exit id))
          exact ⟨_, _, hr, .inr ⟨rfl, ⟨hO4, .exit id, hIx _ _ _ _ _ hi3 hKe hU3, hl4, hk4⟩, hS4⟩⟩
        | goto t =>
          obtain ⟨hst3, hi3⟩ := hp
          obtain ⟨hr, hl4, hk4, hKe, hU3, hO4, hS4⟩ := hOsta W3 hst3 (some (.goto t))
          exact ⟨_, _, hr, .inr ⟨rfl, ⟨hO4, .goto t, hIx _ _ _ _ _ hi3 hKe hU3, hl4, hk4⟩, hS4⟩⟩
        | panic ch => exact hp.elim
        | outgrown => exact hp.elim
      | _ => exact hq.elim

/-- The marks that loops have laid, at a return. -/
theorem leaves_marks {P : Program} {fn : Func} {tmps : Array Value} {R : Ending → World → Prop} {n : Nat} : ∀ (Ds : List Nat) (W : World), Ds.Nodup → (∀ D ∈ Ds, W.heap[D]? = some (.deferred (some []))) →
    (∀ W', Keep (fun k => k ∈ Ds) W W' → ∃ v, (results fn tmps).run P W' = .ok v W' ∧ R (.returned v) W') → LeavesInM Fence.wide n P fn tmps R (Ds.map mark) .returning W := by
  intro Ds
  induction Ds with
  | nil =>
    intro W _ _ h
    exact h W (Keep.refl _ _)
  | cons D Ds ih =>
    intro W hn hD h
    obtain ⟨hn1, hn2⟩ := List.nodup_cons.1 hn
    refine ⟨by simp, .inl ⟨D, _, rfl, run_takeDeferred (hD D (by simp)), ?_⟩⟩
    refine ih _ hn2 (fun D' h' => ?_) (fun W' hW' => h W' ?_)
    · rw [World.putObj_heap_other (fun e => hn1 (by rw [← e]; exact h'))]
      exact hD D' (by simp [h'])
    · exact (keep_putObj (fun k => k ∈ D :: Ds) W D _ (by simp)).trans hW' (fun i _ hi => by simp [hi])

theorem calls_of_marks {P : Program} {f : FuncId} {fn : Func} {c : Code} {args : Array Value} {w : World} {R : Ending → World → Prop} (hf : P.funcs[f]? = some fn) (hb : fn.body = some c)
    (h : c.wp P (bodyPostM Fence.wide 9 P fn R) { tmps := args ++ Array.replicate (fn.ntmps - args.size) undef, defers := [] } w) : Calls P f args w R :=
  (callsIn_wide (n := 9)).1 (callsIn_of_wp_marks hf hb trivial (wpIn_wide.2 h))
end Go.Proofs.Ytaijfgajcmopfaa.Rf
