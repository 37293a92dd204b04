import Derived.Test.YtaijfgajcmopfaaY8
/- The document's index: Fork: a half-made index. -/
set_option linter.unusedVariables false
set_option linter.unusedSimpArgs false
namespace Go.Proofs.Ytaijfgajcmopfaa.Y11
open Go.RowKit Go.Shelf V Rh T W1 W2 W3 W4 W6 Rf X1 X2 X3 X4 X5 X6 Pl Y1 Y2 Y3 Y4 Y5 Y6 Y8 Ap

structure RMaking (w wr : World) (br : Nat) (v : Value) (vs : List Value) (most k : Nat) (Ls : List (List Ent)) : Prop where
  head : Blk wr br [.int .i64 most, v] 80
  row : wr.ownsRow (br + 1) 39 1 v k vs
  own : ∀ i, i < k → wr.ownsRow (br + 1) 27 4 (vs.getD i nilS) (Ls.getD i []).length (flat (Ls.getD i []))
  off : ∀ i g, i < k → (vs.getD i nilS).ownBlock = some g → v.ownBlock ≠ some g
  apart : ∀ i j, i < k → j < k → i ≠ j → ∀ g, (vs.getD i nilS).ownBlock = some g → (vs.getD j nilS).ownBlock ≠ some g
  keep : Keep No w wr
  new : w.heap.size ≤ br

theorem RMaking.len {w wr : World} {br : Nat} {v : Value} {vs : List Value} {most k : Nat} {Ls : List (List Ent)} (h : RMaking w wr br v vs most k Ls) : vs.length = k := by
  have := h.row.1
  omega

theorem RMaking.push {w wr wm wn : World} {br : Nat} {v v' x : Value} {vs : List Value} {most k : Nat} {Ls : List (List Ent)} (h : RMaking w wr br v vs most k Ls) (hm : Keep No wr wm)
    (hx : wm.ownsRow wr.heap.size 27 4 x (Ls.getD k []).length (flat (Ls.getD k []))) (hg : wm.grownBy wn v.ownBlock) (ho : wn.ownsRow (br + 1) 39 1 v' (k + 1) (vs ++ [x])) (hv : v'.ownBlock = v.ownBlock ∨ ∃ q, v'.ownBlock = some q ∧ wm.heap.size ≤ q) :
    RMaking w (wn.setCell ⟨br, 1, none⟩ v') br v' (vs ++ [x]) most (k + 1) Ls := by
  have hlen := h.len
  have hbr : br < wr.heap.size := h.head.lt
  have hrow := h.row.lt
  have hxl := hx.lt
  have hk0 : Keep (fun j => v.ownBlock = some j) wm wn := (Keep.refl _ wm).grown hg (fun k e _ => e)
  have hk1 : Keep (fun j => v.ownBlock = some j ∨ j = br) wm (wn.setCell ⟨br, 1, none⟩ v') := (hk0.mono (fun _ _ e => .inl e)).setCell _ _ (fun _ => .inr rfl)
  have hvbr : v.ownBlock ≠ some br := fun e => by have := (hrow _ e).1; omega
  have e1 : ∀ i, i < k → (vs ++ [x]).getD i nilS = vs.getD i nilS := fun i hi => by simp [List.getD_eq_getElem?_getD, List.getElem?_append_left (show i < vs.length by omega)]
  have e2 : (vs ++ [x]).getD k nilS = x := by simp [← hlen]
  have hvi : ∀ i g, i < k → (vs.getD i nilS).ownBlock = some g → br < g ∧ g < wr.heap.size := fun i g hi hg => by have := (h.own i hi).lt g hg; omega
  have hxo : ∀ g, x.ownBlock = some g → v.ownBlock ≠ some g := fun g hg e => by have := (hxl g hg).1; have := (hrow g e).2; omega
  have hv' : ∀ g, g < wm.heap.size → v.ownBlock ≠ some g → v'.ownBlock ≠ some g := by
    intro g hg hn e
    rcases hv with hv | ⟨q, hq, hq2⟩
    · rw [hv] at e; exact hn e
    · rw [hq] at e
      simp only [Option.some.injEq] at e
      omega
  have hms := hm.size
  refine ⟨?_, ?_, ?_, ?_, ?_, ?_, h.new⟩
  · exact ((h.head.mod hm (no _)).mod hk0 hvbr).set 1 v'
  · have hkk : Keep (fun j => j = br) wn (wn.setCell ⟨br, 1, none⟩ v') := (Keep.refl _ _).setCell _ _ (fun _ => rfl)
    refine own_keep ho hkk (fun g hg' e => ?_)
    have := (ho.lt g hg').1
    omega
  · intro i hi
    by_cases hik : i = k
    · subst hik
      rw [e2]
      refine own_keep (own_base hx (by omega)) hk1 (fun g hg => ?_)
      rintro (e | e)
      · exact hxo g hg e
      · have := (hxl g hg).1; omega
    · have hik' : i < k := by omega
      rw [e1 i hik']
      refine own_keep (own_keep (h.own i hik') hm (fun _ _ => no _)) hk1 (fun g hg => ?_)
      rintro (e | e)
      · exact h.off i g hik' hg e
      · have := hvi i g hik' hg; omega
  · intro i g hi hg
    by_cases hik : i = k
    · subst hik
      rw [e2] at hg
      exact hv' g (hxl g hg).2 (hxo g hg)
    · have hik' : i < k := by omega
      rw [e1 i hik'] at hg
      exact hv' g (by have := hvi i g hik' hg; omega) (h.off i g hik' hg)
  · intro i j hi hj hij g hg
    by_cases hik : i = k
    · subst hik
      rw [e2] at hg
      have hj' : j < i := by omega
      rw [e1 j hj']
      intro e
      have := hvi j g hj' e
      have := (hxl g hg).1
      omega
    · have hik' : i < k := by omega
      rw [e1 i hik'] at hg
      by_cases hjk : j = k
      · subst hjk
        rw [e2]
        intro e
        have := hvi i g hik' hg
        have := (hxl g e).1
        omega
      · have hj' : j < k := by omega
        rw [e1 j hj']
        exact h.apart i j hik' hj' hij g hg
  · refine h.keep.trans ((hm.mono (S' := fun j => v.ownBlock = some j ∨ j = br) (fun _ _ e => e.elim)).trans hk1 (fun _ _ e => e)) (fun i hi' e => ?_)
    have := h.new
    rcases e with e | rfl
    · have := (hrow _ e).1; omega
    · omega

theorem RMaking.idx {w wr : World} {br : Nat} {v : Value} {vs : List Value} {most k : Nat} {Ls : List (List Ent)} (h : RMaking w wr br v vs most k Ls) (hk : k = Ls.length) (h1 : 1 ≤ k) (h64 : k ≤ 64) (hv : v ≠ .slice none 0 0) :
    ∃ ba, RIdx wr br ba vs most Ls ∧ ∀ j, RFoot br ba vs j → w.heap.size ≤ j := by
  have hlen := h.len
  have hoff := h.off
  obtain ⟨g, cap, rest, rfl, hb, hn, hc, hB, hL⟩ := own_blk h.row hv
  have hnew := h.new
  refine ⟨g, ⟨⟨cap, by omega, by rw [← hk]; exact h.head⟩, ⟨rest, hB⟩, by omega, by omega, by omega, fun i hi => own_base (h.own i (by omega)) (Nat.zero_le _), by omega, fun i hi => ⟨fun e => ?_, fun e => ?_⟩, fun i j hi hj => h.apart i j (by omega) (by omega)⟩, ?_⟩
  · have := ((h.own i (by omega)).lt _ e).1; omega
  · exact hoff i g (by omega) e rfl
  · rintro j (rfl | rfl | ⟨i, hi, e⟩)
    · exact hnew
    · omega
    · have := ((h.own i (by omega)).lt _ e).1; omega
end Go.Proofs.Ytaijfgajcmopfaa.Y11
