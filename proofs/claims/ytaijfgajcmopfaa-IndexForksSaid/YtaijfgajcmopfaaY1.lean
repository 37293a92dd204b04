import Derived.Test.YtaijfgajcmopfaaPl
/- The document's index in memory. -/
set_option linter.unusedVariables false
namespace Go.Proofs.Ytaijfgajcmopfaa.Y1
open Go.RowKit Go.Shelf V Rh T W1 W2 W3 W4 W6 Rf X1 X4 X6 Pl

abbrev nilS : Value := .slice none 0 0

/-- the document's index at br: its rows' block ba, the rows' values vs -/
structure RIdx (w : World) (br ba : Nat) (vs : List Value) (most : Nat) (Ls : List (List Ent)) : Prop where
  head : ∃ cap, Ls.length ≤ cap ∧ Blk w br [.int .i64 most, .slice (some ⟨ba, 0, none⟩) Ls.length cap] 80
  row : ∃ rest, Blk w ba (vs ++ rest) 39
  len : vs.length = Ls.length
  pos : 1 ≤ Ls.length
  most64 : Ls.length ≤ 64
  own : ∀ i, i < Ls.length → w.ownsRow 0 27 4 (vs.getD i nilS) (Ls.getD i []).length (flat (Ls.getD i []))
  ne : br ≠ ba
  off : ∀ i, i < Ls.length → (vs.getD i nilS).ownBlock ≠ some br ∧ (vs.getD i nilS).ownBlock ≠ some ba
  apart : ∀ i j, i < Ls.length → j < Ls.length → i ≠ j → ∀ k, (vs.getD i nilS).ownBlock = some k → (vs.getD j nilS).ownBlock ≠ some k

def RFoot (br ba : Nat) (vs : List Value) : Nat → Prop := fun k => k = br ∨ k = ba ∨ ∃ i, i < vs.length ∧ (vs.getD i nilS).ownBlock = some k

section
variable {w : World} {br ba : Nat} {vs : List Value} {most : Nat} {Ls : List (List Ent)}

theorem RIdx.foot_lt (h : RIdx w br ba vs most Ls) : ∀ k, RFoot br ba vs k → k < w.heap.size := by
  rintro k (rfl | rfl | ⟨i, hi, hk⟩)
  · obtain ⟨_, _, hb⟩ := h.head; exact hb.lt
  · obtain ⟨_, hb⟩ := h.row; exact hb.lt
  · exact ((h.own i (by rw [← h.len]; exact hi)).lt k hk).2

theorem RIdx.keep {S : Nat → Prop} {w' : World} (h : RIdx w br ba vs most Ls) (m : Keep S w w') (hS : ∀ k, RFoot br ba vs k → ¬ S k) : RIdx w' br ba vs most Ls where
  head := let ⟨c, h1, hb⟩ := h.head; ⟨c, h1, hb.mod m (hS _ (.inl rfl))⟩
  row := let ⟨c, hb⟩ := h.row; ⟨c, hb.mod m (hS _ (.inr (.inl rfl)))⟩
  len := h.len
  pos := h.pos
  most64 := h.most64
  own := fun i hi => own_keep (h.own i hi) m (fun g hg => hS _ (.inr (.inr ⟨i, by rw [h.len]; exact hi, hg⟩)))
  ne := h.ne
  off := h.off
  apart := h.apart

theorem RIdx.at (h : RIdx w br ba vs most Ls) {i : Nat} (hi : i < Ls.length) : w.cell? ⟨ba, i, none⟩ = some (vs.getD i nilS) := by
  obtain ⟨rest, hb⟩ := h.row
  have h2 : i < vs.length := by rw [h.len]; exact hi
  rw [hb.cell, List.getElem?_append_left h2]
  simp [h2]

/-- a row laid anew, or written in its place -/
theorem RIdx.put (h : RIdx w br ba vs most Ls) {w' : World} {i : Nat} (hi : i < Ls.length) {v' : Value} {L' : List Ent} (m : Keep (fun k => k = ba ∨ (vs.getD i nilS).ownBlock = some k) w w') (hrow : ∃ rest, Blk w' ba (vs.set i v' ++ rest) 39)
    (hv : w'.ownsRow 0 27 4 v' L'.length (flat L')) (hf : ∀ k, v'.ownBlock = some k → (vs.getD i nilS).ownBlock = some k ∨ w.heap.size ≤ k) :
    RIdx w' br ba (vs.set i v') most (Ls.set i L') ∧ Keep (RFoot br ba vs) w w' ∧ ∀ k, RFoot br ba (vs.set i v') k → RFoot br ba vs k ∨ w.heap.size ≤ k := by
  have hlt := h.foot_lt
  have hi2 : i < vs.length := by rw [h.len]; exact hi
  have hset : ∀ j, j ≠ i → (vs.set i v').getD j nilS = vs.getD j nilS := fun j hj => by simp [List.getD_eq_getElem?_getD, Ne.symm hj]
  have hseti : (vs.set i v').getD i nilS = v' := by simp [hi2]
  have hLset : ∀ j, j ≠ i → (Ls.set i L').getD j [] = Ls.getD j [] := fun j hj => by simp [List.getD_eq_getElem?_getD, Ne.symm hj]
  have hLseti : (Ls.set i L').getD i [] = L' := by simp [hi]
  have hfi : ∀ k, (vs.getD i nilS).ownBlock = some k → RFoot br ba vs k := fun k hk => .inr (.inr ⟨i, hi2, hk⟩)
  have hbr : br < w.heap.size := hlt _ (.inl rfl)
  have hba : ba < w.heap.size := hlt _ (.inr (.inl rfl))
  refine ⟨⟨?_, hrow, by simp [h.len], by simp [h.pos], by simp [h.most64], ?_, h.ne, ?_, ?_⟩, ?_, ?_⟩
  · obtain ⟨c, h1, hb⟩ := h.head
    refine ⟨c, by simpa using h1, ?_⟩
    rw [List.length_set]
    exact hb.mod m (by rintro (e | e); exact h.ne e; exact (h.off i hi).1 e)
  · intro j hj
    rw [List.length_set] at hj
    by_cases hji : j = i
    · subst hji
      rw [hseti, hLseti]
      exact hv
    · rw [hset j hji, hLset j hji]
      refine own_keep (h.own j hj) m (fun g hg => ?_)
      rintro (e | e)
      · exact (h.off j hj).2 (by rw [hg, e])
      · exact h.apart j i hj hi hji g hg e
  · intro j hj
    rw [List.length_set] at hj
    by_cases hji : j = i
    · subst hji
      rw [hseti]
      constructor
      · intro e
        rcases hf _ e with e | e
        · exact (h.off j hj).1 e
        · omega
      · intro e
        rcases hf _ e with e | e
        · exact (h.off j hj).2 e
        · omega
    · rw [hset j hji]
      exact h.off j hj
  · intro p q hp hq hpq k hk
    rw [List.length_set] at hp hq
    by_cases hpi : p = i
    · subst hpi
      rw [hseti] at hk
      rw [hset q (Ne.symm hpq)]
      rcases hf _ hk with e | e
      · exact h.apart p q hp hq hpq k e
      · intro hk2
        have := hlt k (.inr (.inr ⟨q, by rw [h.len]; exact hq, hk2⟩))
        omega
    · rw [hset p hpi] at hk
      by_cases hqi : q = i
      · subst hqi
        rw [hseti]
        intro hk2
        rcases hf _ hk2 with e | e
        · exact h.apart p q hp hq hpq k hk e
        · have := hlt k (.inr (.inr ⟨p, by rw [h.len]; exact hp, hk⟩))
          omega
      · rw [hset q hqi]
        exact h.apart p q hp hq hpq k hk
  · refine m.mono ?_
    rintro k _ (rfl | e)
    · exact .inr (.inl rfl)
    · exact hfi k e
  · rintro k (rfl | rfl | ⟨j, hj, hk⟩)
    · exact .inl (.inl rfl)
    · exact .inl (.inr (.inl rfl))
    · rw [List.length_set] at hj
      by_cases hji : j = i
      · subst hji
        rw [hseti] at hk
        rcases hf _ hk with e | e
        · exact .inl (hfi k e)
        · exact .inr e
      · rw [hset j hji] at hk
        exact .inl (.inr (.inr ⟨j, hj, hk⟩))
end

def RHas (w : World) (p : Value) (most : Nat) (Ls : List (List Ent)) (F : Nat → Prop) : Prop := ∃ br ba vs, p = ptr br ∧ RIdx w br ba vs most Ls ∧ F = RFoot br ba vs
def RThen (w w' : World) (p : Value) (most : Nat) (Ls : List (List Ent)) (F : Nat → Prop) : Prop := Keep F w w' ∧ ∃ F', RHas w' p most Ls F' ∧ ∀ k, F' k → F k ∨ w.heap.size ≤ k

theorem RHas.lt {w : World} {p : Value} {most : Nat} {Ls : List (List Ent)} {F : Nat → Prop} (h : RHas w p most Ls F) : ∀ k, F k → k < w.heap.size := by
  obtain ⟨br, ba, vs, _, hX, rfl⟩ := h
  exact hX.foot_lt
theorem RHas.keep {w w' : World} {p : Value} {most : Nat} {Ls : List (List Ent)} {F S : Nat → Prop} (h : RHas w p most Ls F) (m : Keep S w w') (hS : ∀ k, F k → ¬ S k) : RHas w' p most Ls F := by
  obtain ⟨br, ba, vs, h1, hX, rfl⟩ := h
  exact ⟨br, ba, vs, h1, hX.keep m hS, rfl⟩
theorem RHas.stays {w w' : World} {p : Value} {most : Nat} {Ls : List (List Ent)} {F : Nat → Prop} (h : RHas w p most Ls F) (m : Keep No w w') : RThen w w' p most Ls F :=
  ⟨m.mono (fun _ _ e => e.elim), F, h.keep m (fun _ _ => no _), fun _ hk => .inl hk⟩

/-- what both indexes' lists are -/
def GoodL (most : Nat) (Ls : List (List Ent)) : Prop := most ≤ 16 ∧ ∀ i, i < Ls.length → Sorted (Ls.getD i []) ∧ (∀ e ∈ Ls.getD i [], e.ok ∧ e.full = true) ∧ 8 * (Ls.getD i []).length ≤ 7 * 2 ^ most
theorem GoodL.of {w : World} {p : Value} {most : Nat} {Ls : List (List Ent)} {F : Nat → Prop} (h : Has w p most Ls F) : GoodL most Ls := by
  obtain ⟨bx, bl, bts, bss, rfl, hX, rfl⟩ := h
  have hp := hX.pos
  obtain ⟨bits0, es0, _, hI0⟩ := hX.tabs 0 (by omega)
  refine ⟨hI0.m16, fun i hi => ?_⟩
  obtain ⟨bits, es, _, hI⟩ := hX.tabs i hi
  refine ⟨hI.sorted, hI.ok, ?_⟩
  have h1 := hI.room
  have h3 : 2 ^ bits ≤ 2 ^ most := Nat.pow_le_pow_right (by decide) hI.bm
  omega
end Go.Proofs.Ytaijfgajcmopfaa.Y1
