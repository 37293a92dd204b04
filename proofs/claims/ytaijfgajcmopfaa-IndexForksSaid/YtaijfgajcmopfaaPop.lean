import Derived.OrdersHeld
import Derived.StillTail
/- A region that draws its order, its last operation waiting for all others: the rest first, then the last. (So a store to a cell that the region loads may end it: the rest is walked with that cell held.) -/
set_option linter.unusedVariables false
namespace Go.Proofs.Ytaijfgajcmopfaa.Pop
open Go

/-- Q, but at the normal end the last operation is to be run first -/
def Before (P : Program) (ops : Array Oper) (m : Nat) (Q : Exit → Act → World → Prop) : Exit → Act → World → Prop
  | .normal, a, w => wpOp P ops Q m (fun a' w' => Q .normal a' w') a w
  | e, a, w => Q e a w

theorem before_normal {P : Program} {ops : Array Oper} {m : Nat} {Q : Exit → Act → World → Prop} {a : Act} {w : World} (h : wpOp P ops Q m (fun a' w' => Q .normal a' w') a w) : Before P ops m Q .normal a w := h

theorem before_lets {P : Program} {ops : Array Oper} {m : Nat} {Q : Exit → Act → World → Prop} : LetsOut (Before P ops m Q) ↔ LetsOut Q := Iff.rfl

theorem upon_before {P : Program} {ops : Array Oper} {m : Nat} {Q : Exit → Act → World → Prop} {o : Oper} {a : Act} {w : World} {K : Act → World → Prop} (h : o.wp P a w K (Before P ops m Q)) : o.wp P a w K Q := by
  unfold Oper.wp at *
  generalize (execOp a.eval o).run P w = r at *
  cases r with
  | ok n w' =>
    cases n <;> simp only [Oper.upon] at h ⊢ <;>
      first
        | exact h
        | exact Calls.mono h (fun e w'' he => by cases e <;> exact he)
  | halt x w' => cases x <;> simp only [Oper.upon] at h ⊢ <;> exact h

theorem wpOp_before {P : Program} {ops : Array Oper} {m i : Nat} {Q : Exit → Act → World → Prop} {a : Act} {w : World} {K : Act → World → Prop} (h : wpOp P ops (Before P ops m Q) i K a w) : wpOp P ops Q i K a w := by
  unfold wpOp at *
  split
  · rename_i ho; simpa [ho] using h
  · rename_i o ho
    simp only [ho] at h
    split
    · rename_i hw
      simp only [hw, if_true] at h
      exact h.imp upon_before id
    · rename_i hw
      simp only [hw] at h
      exact h

/-- what is asked of the operations: each waits for earlier ones alone; the last waits for all, be it through others -/
def popOk (md : Region.Mode) (ops : Array Oper) (m : Nat) : Bool :=
  (ops.size == m + 1) && (List.range m).all (fun j => (List.range (m + 1)).any (fun k => decide (j < k) && Region.waitsFor md ops k j)) &&
  (List.range (m + 1)).all (fun i => match ops[i]? with | some o => o.after.all (fun e => decide (e.on < i)) | none => false)

theorem mem_ready {md : Region.Mode} {ops : Array Oper} {listed : Array Bool} {i : Nat} : i ∈ Region.ready md ops listed ↔ i < ops.size ∧ listed.getD i true = false ∧ ∃ o, ops[i]? = some o ∧ ∀ e ∈ o.after, Region.binds md e = true → listed.getD e.on false = true := by
  unfold Region.ready
  rw [List.mem_filter, List.mem_range]
  refine and_congr_right fun hi => ?_
  rw [Array.getElem?_eq_getElem hi]
  simp only [Option.map_some, Option.getD_some, Bool.and_eq_true, Bool.not_eq_true', Array.all_eq_true_iff_forall_mem, Bool.or_eq_true]
  constructor
  · rintro ⟨h1, h2⟩
    refine ⟨h1, _, rfl, fun e he hb => ?_⟩
    rcases h2 e he with h | h
    · rw [h] at hb; cases hb
    · exact h
  · rintro ⟨h1, o, ho, h2⟩
    obtain rfl := Option.some.inj ho
    refine ⟨h1, fun e he => ?_⟩
    cases hb : Region.binds md e with
    | false => exact .inl rfl
    | true => exact .inr (h2 e he hb)

section
variable {P : Program} {md : Region.Mode} {ops : Array Oper} {Q : Exit → Act → World → Prop} {m : Nat}

theorem popOk_spec (h : popOk md ops m = true) : ops.size = m + 1 ∧ (∀ j, j < m → ∃ k, j < k ∧ k < m + 1 ∧ Region.waitsFor md ops k j = true) ∧ ∀ i, i < m + 1 → ∃ o, ops[i]? = some o ∧ ∀ e ∈ o.after, e.on < i := by
  unfold popOk at h
  simp only [Bool.and_eq_true, beq_iff_eq, List.all_eq_true, List.mem_range] at h
  obtain ⟨⟨h1, h2⟩, h3⟩ := h
  refine ⟨h1, fun j hj => ?_, fun i hi => ?_⟩
  · have := h2 j hj
    simp only [List.any_eq_true, List.mem_range, Bool.and_eq_true, decide_eq_true_eq] at this
    obtain ⟨k, hk, hjk, hw⟩ := this
    exact ⟨k, hjk, hk, hw⟩
  have := h3 i hi
  split at this
  · rename_i o ho
    refine ⟨o, ho, fun e he => ?_⟩
    rw [Array.all_eq_true_iff_forall_mem] at this
    simpa using this e he
  · cases this

theorem wpAny_done {listed : Array Bool} {a : Act} {w : World} (hr : Region.ready md ops listed = []) (h : Q .normal a w) : ∀ fuel, wpAny P md ops Q fuel listed a w
  | 0 => ⟨hr, h⟩
  | _ + 1 => ⟨fun _ => h, by rw [hr]; simp⟩

theorem getD_set {A : Array Bool} {k i : Nat} {d : Bool} (hk : k < A.size) : (A.setIfInBounds k true).getD i d = if i = k then true else A.getD i d := by
  rw [Array.getD_eq_getD_getElem?, Array.getElem?_setIfInBounds, Array.getD_eq_getD_getElem?]
  by_cases h : k = i
  · subst h; simp [hk]
  · simp [h, Ne.symm h]

/-- not all have come up: one may -/
theorem ready_some (hok : popOk md ops m = true) {listed : Array Bool} (hs : listed.size = m + 1) : ∀ n, n < m + 1 → listed.getD n true = false → Region.ready md ops listed ≠ [] := by
  obtain ⟨h1, h2, h3⟩ := popOk_spec hok
  intro n
  induction n using Nat.strongRecOn with
  | _ n ih =>
    intro hn hl
    by_cases hall : ∀ j, j < n → listed.getD j true = true
    · obtain ⟨o, ho, hb⟩ := h3 n hn
      have : n ∈ Region.ready md ops listed := mem_ready.2 ⟨by omega, hl, o, ho, fun e he _ => by
        have hlt := hb e he
        have := hall e.on hlt
        rw [Array.getD_eq_getD_getElem?, Array.getElem?_eq_getElem (by omega)] at this ⊢
        exact this⟩
      intro e
      rw [e] at this
      cases this
    · obtain ⟨j, hj⟩ := Classical.not_forall.1 hall
      obtain ⟨hj, hjl⟩ := Classical.not_imp.1 hj
      exact ih j hj (by omega) (by simpa using hjl)

/-- what has come up had all that it waits for -/
def Closed (md : Region.Mode) (ops : Array Oper) (listed : Array Bool) : Prop := ∀ i, listed.getD i false = true → ∀ o, ops[i]? = some o → ∀ e ∈ o.after, Region.binds md e = true → listed.getD e.on false = true

theorem closed_add {listed : Array Bool} {i : Nat} (hc : Closed md ops listed) (hi : i ∈ Region.ready md ops listed) (hs : listed.size = ops.size) : Closed md ops (listed.setIfInBounds i true) := by
  obtain ⟨hi1, hi2, o, ho, hi3⟩ := mem_ready.1 hi
  intro j hj oj hoj e he hb
  rw [getD_set (by omega)] at hj ⊢
  split
  · rfl
  · split at hj
    · rename_i h; subst h
      rw [ho] at hoj
      obtain rfl := Option.some.inj hoj
      exact hi3 e he hb
    · exact hc j hj oj hoj e he hb

theorem all_of_last (hok : popOk md ops m = true) {listed : Array Bool} (hc : Closed md ops listed) {o : Oper} (ho : ops[m]? = some o) (hi3 : ∀ e ∈ o.after, Region.binds md e = true → listed.getD e.on false = true) : ∀ n j, m - j ≤ n → j < m → listed.getD j false = true := by
  obtain ⟨h1, h2, h3⟩ := popOk_spec hok
  intro n
  induction n with
  | zero => intro j h hj; omega
  | succ n ih =>
    intro j h hj
    obtain ⟨k, hjk, hk, hw⟩ := h2 j hj
    obtain ⟨ok, hok', e, he, hb, hon⟩ := Region.waitsFor_spec hw
    by_cases hkm : k = m
    · subst hkm
      rw [ho] at hok'
      obtain rfl := Option.some.inj hok'
      have := hi3 e he hb
      rw [hon] at this
      exact this
    · have := hc k (ih k (by omega) (by omega)) ok hok' e he hb
      rw [hon] at this
      exact this

theorem wpAny_pop (hok : popOk md ops m = true) : ∀ (fuel : Nat) (listed : Array Bool) (a : Act) (w : World), Closed md ops listed → listed.size = m + 1 → listed.getD m true = false →
    wpAny P md ops (Before P ops m Q) fuel (listed.setIfInBounds m true) a w → wpAny P md ops Q (fuel + 1) listed a w := by
  obtain ⟨h1, h2, h3⟩ := popOk_spec hok
  intro fuel
  induction fuel with
  | zero =>
    intro listed a w hcl hs hm H
    refine ⟨fun h0 => absurd h0 (ready_some hok hs m (by omega) hm), fun i hi => ?_⟩
    obtain ⟨hi1, hi2, o, ho, hi3⟩ := mem_ready.1 hi
    by_cases him : i = m
    · subst him
      refine wpOp_mono (fun a' w' hq => ?_) H.2
      exact wpAny_done H.1 hq 0
    · exfalso
      have : i ∈ Region.ready md ops (listed.setIfInBounds m true) := mem_ready.2 ⟨hi1, by rw [getD_set (by omega), if_neg him]; exact hi2, o, ho, fun e he hb => by
        rw [getD_set (by omega)]
        split
        · rfl
        · exact hi3 e he hb⟩
      rw [H.1] at this
      cases this
  | succ f ih =>
    intro listed a w hcl hs hm H
    refine ⟨fun h0 => absurd h0 (ready_some hok hs m (by omega) hm), fun i hi => ?_⟩
    obtain ⟨hi1, hi2, o, ho, hi3⟩ := mem_ready.1 hi
    by_cases him : i = m
    · subst him
      have hall : ∀ j, j < i → listed.getD j true = true := fun j hj => by
        have := all_of_last hok hcl ho hi3 _ j (Nat.le_refl _) hj
        rw [Array.getD_eq_getD_getElem?, Array.getElem?_eq_getElem (by omega)] at this ⊢
        exact this
      have hnone : Region.ready md ops (listed.setIfInBounds i true) = [] := by
        rw [List.eq_nil_iff_forall_not_mem]
        intro j hj
        obtain ⟨hj1, hj2, _⟩ := mem_ready.1 hj
        rw [getD_set (by omega)] at hj2
        split at hj2
        · cases hj2
        · rw [hall j (by omega)] at hj2
          cases hj2
      exact wpOp_mono (fun a' w' hq => wpAny_done hnone hq (f + 1)) (H.1 hnone)
    · have hr : i ∈ Region.ready md ops (listed.setIfInBounds m true) := mem_ready.2 ⟨hi1, by rw [getD_set (by omega), if_neg him]; exact hi2, o, ho, fun e he hb => by
        rw [getD_set (by omega)]
        split
        · rfl
        · exact hi3 e he hb⟩
      have := wpOp_before (H.2 i hr)
      refine wpOp_mono (fun a' w' hq => ?_) this
      refine ih _ a' w' (closed_add hcl hi (by omega)) (by simpa using hs) ?_ ?_
      · rw [getD_set (by omega), if_neg (Ne.symm him)]
        exact hm
      · have hc : (listed.setIfInBounds i true).setIfInBounds m true = (listed.setIfInBounds m true).setIfInBounds i true := by
          exact Array.setIfInBounds_comm _ _ him
        rw [hc]
        exact hq

/-- **THE REST FIRST, THEN THE LAST.** -/
theorem wp_region_pop {S : World → Prop} {id : Nat} {a : Act} {w : World} (hm : P.follows .mixedOrders = true) (hok : popOk .any ops m = true)
    (h : wpAnyH P .any ops (Before P ops m Q) S m ((Array.replicate ops.size false).setIfInBounds m true) a { w with drawn := w.drawn + 1 }) : (Code.region id ops true).wp P Q a w := by
  obtain ⟨h1, _, _⟩ := popOk_spec hok
  refine wp_region_any hm ?_
  have := wpAny_pop (P := P) (Q := Q) hok m (Array.replicate ops.size false) a { w with drawn := w.drawn + 1 } (fun i hi => by simp only [Array.getD_eq_getD_getElem?, Array.getElem?_replicate] at hi; split at hi <;> cases hi) (by simp [h1]) (by rw [Array.getD_eq_getD_getElem?, Array.getElem?_replicate, if_pos (by omega)]; rfl) (wpAny_of_held _ _ _ _ h)
  rw [h1] at this ⊢
  exact this
end
end Go.Proofs.Ytaijfgajcmopfaa.Pop
