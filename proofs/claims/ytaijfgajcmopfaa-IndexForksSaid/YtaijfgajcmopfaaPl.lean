import Derived.Test.YtaijfgajcmopfaaX6
/- Sorted lists by position: what the document's lists do, in plain Lean. -/
set_option linter.unusedVariables false
namespace Go.Proofs.Ytaijfgajcmopfaa.Pl
open Go.RowKit V Rh T W2 W6 X4 X6

/-- where a hash stands, or would stand -/
def posL (h : Int) : List Ent → Nat
  | [] => 0
  | e :: t => if h ≤ e.h then 0 else posL h t + 1

theorem posL_le (h : Int) (L : List Ent) : posL h L ≤ L.length := by
  induction L with
  | nil => exact Nat.zero_le _
  | cons e t ih => unfold posL; split <;> simp <;> omega
theorem posL_lt {h : Int} : ∀ {L : List Ent} {j : Nat}, j < posL h L → (gt L j).h < h := by
  intro L
  induction L with
  | nil => intro j hj; simp [posL] at hj
  | cons e t ih =>
    intro j hj
    unfold posL at hj
    split at hj
    · omega
    · cases j with
      | zero => simp only [gt, List.getD_cons_zero]; omega
      | succ j => simpa [gt] using ih (j := j) (by omega)
theorem posL_ge {h : Int} : ∀ {L : List Ent}, posL h L < L.length → h ≤ (gt L (posL h L)).h := by
  intro L
  induction L with
  | nil => intro hj; simp [posL] at hj
  | cons e t ih =>
    intro hj
    unfold posL at hj ⊢
    split
    · simpa [gt]
    · rename_i hn
      simp only [hn, if_false, List.length_cons] at hj
      simpa [gt] using ih (by omega)
theorem posL_eq {h : Int} : ∀ {L : List Ent} {k : Nat}, (∀ j, j < k → (gt L j).h < h) → k ≤ L.length → (k < L.length → h ≤ (gt L k).h) → posL h L = k := by
  intro L
  induction L with
  | nil => intro k _ hk _; simp at hk; simp [posL, hk]
  | cons e t ih =>
    intro k h1 h2 h3
    unfold posL
    cases k with
    | zero =>
      have := h3 (by simp)
      simp only [gt, List.getD_cons_zero] at this
      rw [if_pos this]
    | succ k =>
      have := h1 0 (by omega)
      simp only [gt, List.getD_cons_zero] at this
      rw [if_neg (by omega), ih (k := k) (fun j hj => by simpa [gt] using h1 (j + 1) (by omega)) (by simpa using h2) (fun hk => by simpa [gt] using h3 (by simpa using hk))]

theorem tail_none {h : Int} {t : List Ent} (ht : ∀ x ∈ t, h < x.h) : lget h t = none := by
  unfold lget
  rw [List.find?_eq_none]
  intro x hx
  have := ht x hx
  simp
  omega

theorem lget_pos {h : Int} : ∀ {L : List Ent}, Sorted L → lget h L = if posL h L < L.length ∧ (gt L (posL h L)).h = h then some (gt L (posL h L)) else none := by
  intro L
  induction L with
  | nil => intro _; rfl
  | cons e t ih =>
    intro hs
    obtain ⟨hs1, hs2⟩ := List.pairwise_cons.1 hs
    unfold posL
    by_cases hle : h ≤ e.h
    · simp only [if_pos hle, gt, List.getD_cons_zero]
      by_cases heq : e.h = h
      · simp [lget, heq]
      · have : lget h (e :: t) = lget h t := by simp [lget, heq]
        rw [this, tail_none (fun x hx => by have := hs1 x hx; omega)]
        simp [heq]
    · simp only [if_neg hle]
      have hne : e.h ≠ h := by omega
      have : lget h (e :: t) = lget h t := by simp [lget, hne]
      rw [this, ih hs2]
      simp [gt]

theorem lrem_pos {h : Int} {o : Ent} : ∀ {L : List Ent}, Sorted L → lget h L = some o → lrem h L = L.take (posL h L) ++ L.drop (posL h L + 1) := by
  intro L
  induction L with
  | nil => intro _ hg; cases hg
  | cons e t ih =>
    intro hs hg
    obtain ⟨hs1, hs2⟩ := List.pairwise_cons.1 hs
    unfold posL
    by_cases hle : h ≤ e.h
    · have heq : e.h = h := by
        by_cases heq : e.h = h
        · exact heq
        · have : lget h (e :: t) = lget h t := by simp [lget, heq]
          rw [this, tail_none (fun x hx => by have := hs1 x hx; omega)] at hg
          cases hg
      simp only [if_pos hle, List.take_zero, List.nil_append, Nat.zero_add, List.drop_succ_cons, List.drop_zero]
      unfold lrem
      rw [List.filter_cons, if_neg (by simp [heq])]
      exact List.filter_eq_self.2 (fun x hx => by have := hs1 x hx; simp; omega)
    · have hne : e.h ≠ h := by omega
      have : lget h (e :: t) = lget h t := by simp [lget, hne]
      rw [this] at hg
      simp only [if_neg hle, List.take_succ_cons, List.drop_succ_cons, List.cons_append]
      rw [← ih hs2 hg]
      simp [lrem, hne]

theorem lput_pos {e : Ent} : ∀ {L : List Ent}, Sorted L → lput e L = L.take (posL e.h L) ++ e :: L.drop (posL e.h L + if (lget e.h L).isSome then 1 else 0) := by
  intro L
  induction L with
  | nil => intro _; rfl
  | cons x t ih =>
    intro hs
    obtain ⟨hs1, hs2⟩ := List.pairwise_cons.1 hs
    unfold posL
    by_cases hle : e.h ≤ x.h
    · simp only [if_pos hle, List.take_zero, List.nil_append, Nat.zero_add]
      have h1 : (x :: t).filter (fun y => decide (y.h < e.h)) = [] := by
        rw [List.filter_eq_nil_iff]
        intro y hy
        rcases List.mem_cons.1 hy with rfl | hy
        · simp; omega
        · have := hs1 y hy; simp; omega
      have h2 : t.filter (fun y => decide (e.h < y.h)) = t := List.filter_eq_self.2 (fun y hy => by have := hs1 y hy; simp; omega)
      unfold lput
      rw [h1, List.nil_append]
      by_cases heq : x.h = e.h
      · have hg : lget e.h (x :: t) = some x := by simp [lget, heq]
        rw [hg, List.filter_cons, if_neg (by simp; omega), h2]
        simp
      · have hg : lget e.h (x :: t) = none := by
          have : lget e.h (x :: t) = lget e.h t := by simp [lget, heq]
          rw [this, tail_none (fun y hy => by have := hs1 y hy; omega)]
        rw [hg, List.filter_cons, if_pos (by simp; omega), h2]
        simp
    · have hne : x.h ≠ e.h := by omega
      have hg : lget e.h (x :: t) = lget e.h t := by simp [lget, hne]
      rw [hg]
      have := ih hs2
      unfold lput at this ⊢
      simp only [if_neg hle, List.take_succ_cons, List.cons_append]
      rw [show posL e.h t + 1 + (if (lget e.h t).isSome then 1 else 0) = (posL e.h t + if (lget e.h t).isSome then 1 else 0) + 1 by omega, List.drop_succ_cons, ← this]
      rw [List.filter_cons, if_pos (by simp; omega), List.filter_cons, if_neg (by simp; omega), List.cons_append]

/-- .. where one stands: it is set -/
theorem lput_set {e o : Ent} {L : List Ent} (hs : Sorted L) (hg : lget e.h L = some o) : posL e.h L < L.length ∧ gt L (posL e.h L) = o ∧ lput e L = L.set (posL e.h L) e := by
  have h1 := lget_pos (h := e.h) hs
  rw [hg] at h1
  split at h1
  · rename_i hc
    refine ⟨hc.1, by simpa using h1.symm, ?_⟩
    rw [lput_pos hs, hg]
    simp only [Option.isSome_some, if_true]
    rw [List.set_eq_take_append_cons_drop, if_pos hc.1]
  · cases h1
theorem lput_ins {e : Ent} {L : List Ent} (hs : Sorted L) (hg : lget e.h L = none) : lput e L = L.take (posL e.h L) ++ e :: L.drop (posL e.h L) := by
  rw [lput_pos hs, hg]
  simp

theorem hitL_set {h : Int} {o : Ent} {L : List Ent} (hs : Sorted L) (hg : lget h L = some o) : hitL h L = L.set (posL h L) (hitE o) := by
  have ho := lget_some hg
  have e1 : (hitE o).h = h := by rw [hitE_h]; exact ho.2
  unfold hitL
  rw [hg]
  have := (lput_set (e := hitE o) (o := o) hs (by rw [e1]; exact hg)).2.2
  rw [e1] at this
  exact this

/-- Purge's fold, over the whole -/
theorem pfold_filter (r : Int) : ∀ (s L : List Ent), pfold r s L = L.filter (fun e => !(s.any (fun x => phit r x && (x.h == e.h)))) := by
  intro s
  induction s with
  | nil => intro L; exact (List.filter_eq_self.2 (fun _ _ => rfl)).symm
  | cons x s ih =>
    intro L
    have h1 : pfold r (x :: s) L = pfold r s (if phit r x then lrem x.h L else L) := rfl
    rw [h1, ih]
    by_cases hx : phit r x = true
    · rw [if_pos hx]
      unfold lrem
      rw [List.filter_filter]
      congr 1
      funext e
      simp only [List.any_cons, hx, Bool.true_and, Bool.not_or, bne]
      rw [Bool.and_comm]
      congr 2
      exact Bool.beq_comm
    · rw [if_neg hx]
      simp only [Bool.not_eq_true] at hx
      congr 1
      funext e
      simp [hx]
theorem pfold_self (r : Int) {L : List Ent} (hs : Sorted L) : pfold r L L = L.filter (fun e => !phit r e) := by
  rw [pfold_filter]
  refine List.filter_congr fun e he => ?_
  congr 1
  rw [Bool.eq_iff_iff, List.any_eq_true]
  constructor
  · rintro ⟨x, hx, hp⟩
    simp only [Bool.and_eq_true, beq_iff_eq] at hp
    have h1 := lget_mem hs hx
    have h2 := lget_mem hs he
    rw [hp.2, h2] at h1
    obtain rfl := Option.some.inj h1
    exact hp.1
  · intro hp
    exact ⟨e, he, by simp [hp]⟩
end Go.Proofs.Ytaijfgajcmopfaa.Pl
