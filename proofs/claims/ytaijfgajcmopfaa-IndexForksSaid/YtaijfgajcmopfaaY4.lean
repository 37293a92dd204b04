import Derived.Test.YtaijfgajcmopfaaY3
/- The document's index: New, Len, Hit, Move. -/
set_option linter.unusedVariables false
namespace Go.Proofs.Ytaijfgajcmopfaa.Y4
open Go.RowKit Go.Shelf V Rh T W1 W2 W3 W4 W6 Rf X1 X2 X4 X5 X6 Pl Y1 Y2 Y3

/-- what a walk reads of row s -/
def Opn (W : World) (br ba most n s : Nat) (v : Value) (L : List Ent) : Prop :=
  ∃ cap, s < cap ∧ br < W.heap.size ∧ W.cell? ⟨br, 0, none⟩ = some (.int .i64 most) ∧ W.cell? ⟨br, 1, none⟩ = some (.slice (some ⟨ba, 0, none⟩) n cap) ∧ (∀ i, W.frozen? ⟨br, i, none⟩ = false) ∧ ba < W.heap.size ∧ (∀ i, W.frozen? ⟨ba, i, none⟩ = false) ∧ W.cell? ⟨ba, s, none⟩ = some v ∧
    ((v = nilS ∧ L = []) ∨ ∃ g rcap rest, v = .slice (some ⟨g, 0, none⟩) L.length rcap ∧ L.length ≤ rcap ∧ rcap ≤ 9223372036854775807 ∧ Blk W g (flat L ++ rest) 27 ∧ g ≠ br ∧ g ≠ ba ∧ br ≠ g ∧ ba ≠ g)

theorem flat_inj_len {L : List Ent} {k : Nat} (h : (flat L).length = k * 4) : L.length = k := by rw [flat_length] at h; omega

section
variable {w : World} {br ba most : Nat} {vs : List Value} {Ls : List (List Ent)}

theorem RIdx.opn (hX : RIdx w br ba vs most Ls) {s : Nat} (hs : s < Ls.length) : Opn w br ba most Ls.length s (vs.getD s nilS) (Ls.getD s []) := by
  obtain ⟨cap, hcap, hb⟩ := hX.head
  obtain ⟨rest, hbr⟩ := hX.row
  obtain ⟨z0, c0, c1, f0⟩ := hb.two
  refine ⟨cap, by omega, z0, c0, c1, f0, hbr.lt, hbr.frozen, hX.at hs, ?_⟩
  have ho := hX.own s hs
  by_cases hv : vs.getD s nilS = nilS
  · left
    rw [hv] at ho ⊢
    rcases ho.2 with ⟨_, h2⟩ | ⟨g, cap, cur, h1, _⟩
    · exact ⟨rfl, List.eq_nil_of_length_eq_zero h2⟩
    · cases h1
  · right
    obtain ⟨g, rcap, rest, hg, _, hn, hc, hb, _⟩ := own_blk ho hv
    have h1 := (hX.off s hs).1
    have h2 := (hX.off s hs).2
    rw [hg] at h1 h2
    simp only [Value.ownBlock, ne_eq, Option.some.injEq] at h1 h2
    exact ⟨g, rcap, rest, hg, hn, hc, hb, h1, h2, fun e => h1 e.symm, fun e => h2 e.symm⟩

/-- row s written in its place -/
theorem RIdx.write (hX : RIdx w br ba vs most Ls) {s : Nat} (hs : s < Ls.length) {g rcap : Nat} {rest : List Value} {L' : List Ent} {w' : World} (hv : vs.getD s nilS = .slice (some ⟨g, 0, none⟩) (Ls.getD s []).length rcap)
    (hb : Blk w g (flat (Ls.getD s []) ++ rest) 27) (hk : Keep (fun k => k = g) w w') (hb' : Blk w' g (flat L' ++ rest) 27) (hl : L'.length = (Ls.getD s []).length) :
    RThen w w' (ptr br) most (Ls.set s L') (RFoot br ba vs) := by
  have hown : (vs.getD s nilS).ownBlock = some g := by rw [hv]; rfl
  have hne := (hX.off s hs).2
  obtain ⟨rr, hrow⟩ := hX.row
  have hset : vs.set s (vs.getD s nilS) = vs := by
    have : s < vs.length := by rw [hX.len]; exact hs
    simp [this]
  have hlen : (flat L').length = (flat (Ls.getD s [])).length := by rw [flat_length, flat_length, hl]
  have ho := hX.own s hs
  have hv' : w'.ownsRow 0 27 4 (vs.getD s nilS) L'.length (flat L') := by
    refine ⟨by rw [flat_length]; omega, .inr ?_⟩
    rcases ho.2 with ⟨hn, _⟩ | ⟨g2, cap2, cur, he, hb0, hg, hc1, hc2, hc3, hc4⟩
    · rw [hv] at hn; cases hn
    · have he2 := hv.symm.trans he
      simp only [Value.slice.injEq, Option.some.injEq, Addr.mk.injEq] at he2
      obtain ⟨⟨rfl, _⟩, _, rfl⟩ := he2
      have hcur : cur = (flat (Ls.getD s []) ++ rest).toArray := by
        unfold Blk at hb
        rw [hb] at hg
        simp only [Option.some.injEq, Obj.cells.injEq] at hg
        exact hg.1.symm
      refine ⟨g, rcap, (flat L' ++ rest).toArray, by rw [hl]; exact hv, Nat.zero_le _, hb', by rw [hl]; exact hc1, hc2, ?_, ?_⟩
      · rw [hcur] at hc3
        simp only [List.size_toArray, List.length_append] at hc3 ⊢
        omega
      · exact List.take_left' (by rw [flat_length]; omega)
  obtain ⟨h1, h2, h3⟩ := hX.put (w' := w') hs (v' := vs.getD s nilS) (L' := L') (hk.mono (fun k _ e => .inr (by rw [hown, e]))) ⟨rr, by rw [hset]; exact hrow.mod hk (fun e => hne (by rw [hown, e]))⟩ hv' (fun k hk => .inl hk)
  rw [hset] at h1 h3
  exact ⟨h2, _, ⟨_, _, _, rfl, h1, rfl⟩, h3⟩

/-- row s laid anew, the row's block at or above 'base'; cells of the call's own are written behind it -/
theorem RIdx.newrowB (hX : RIdx w br ba vs most Ls) {s : Nat} (hs : s < Ls.length) {v' : Value} {L' : List Ent} {w1 w' : World} {base : Nat} {X : Nat → Prop} (hk : Keep No w w1) (hbase : w.heap.size ≤ base) (hv : w1.ownsRow base 27 4 v' L'.length (flat L'))
    (hX2 : Keep X (w1.setCell ⟨ba, s, none⟩ v') w') (hXl : ∀ k, X k → w.heap.size ≤ k ∧ k < base) :
    RThen w w' (ptr br) most (Ls.set s L') (RFoot br ba vs) := by
  obtain ⟨rr, hrow⟩ := hX.row
  have hba := hrow.lt
  have hs2 : s < vs.length := by rw [hX.len]; exact hs
  have hrow2 := (hrow.mod hk (no _)).set s v'
  rw [List.set_append_left _ _ hs2] at hrow2
  have hk2 : Keep (fun k => k = ba) w1 (w1.setCell ⟨ba, s, none⟩ v') := (Keep.refl _ _).setCell _ _ (fun _ => rfl)
  have hk3 : Keep (fun k => k = ba ∨ (vs.getD s nilS).ownBlock = some k) w (w1.setCell ⟨ba, s, none⟩ v') := (hk.mono (fun _ _ e => e.elim)).trans (hk2.mono (fun _ _ e => .inl e)) (fun _ _ e => e)
  obtain ⟨h1, h2, h3⟩ := hX.put hs hk3 ⟨rr, hrow2⟩ (own_base (own_keep hv hk2 (fun g hg e => by have := (hv.lt g hg).1; omega)) (Nat.zero_le _)) (fun k hk => .inr (Nat.le_trans hbase (hv.lt k hk).1))
  have hF : ∀ k, RFoot br ba (vs.set s v') k → ¬ X k := by
    rintro k (rfl | rfl | ⟨j, hj, hk⟩) hx
    · have := hX.foot_lt _ (.inl rfl); have := hXl _ hx; omega
    · have := hXl _ hx; omega
    · have hx' := hXl _ hx
      by_cases hjs : j = s
      · subst hjs
        rw [show (vs.set j v').getD j nilS = v' by simp [hs2]] at hk
        have := (hv.lt k hk).1
        omega
      · rw [show (vs.set s v').getD j nilS = vs.getD j nilS by simp [List.getD_eq_getElem?_getD, Ne.symm hjs]] at hk
        rw [List.length_set] at hj
        have := hX.foot_lt k (.inr (.inr ⟨j, hj, hk⟩))
        omega
  exact ⟨h2.trans hX2 (fun k hk hx => by have := hXl k hx; omega), _, ⟨_, _, _, rfl, h1.keep hX2 hF, rfl⟩, h3⟩

/-- row s laid anew -/
theorem RIdx.newrow (hX : RIdx w br ba vs most Ls) {s : Nat} (hs : s < Ls.length) {v' : Value} {L' : List Ent} {w1 : World} (hk : Keep No w w1) (hv : w1.ownsRow w.heap.size 27 4 v' L'.length (flat L')) :
    RThen w (w1.setCell ⟨ba, s, none⟩ v') (ptr br) most (Ls.set s L') (RFoot br ba vs) := by
  obtain ⟨rr, hrow⟩ := hX.row
  have hba := hrow.lt
  have hs2 : s < vs.length := by rw [hX.len]; exact hs
  have hrow2 := (hrow.mod hk (no _)).set s v'
  rw [List.set_append_left _ _ hs2] at hrow2
  have hk2 : Keep (fun k => k = ba) w1 (w1.setCell ⟨ba, s, none⟩ v') := (Keep.refl _ _).setCell _ _ (fun _ => rfl)
  have hk3 : Keep (fun k => k = ba ∨ (vs.getD s nilS).ownBlock = some k) w (w1.setCell ⟨ba, s, none⟩ v') := (hk.mono (fun _ _ e => e.elim)).trans (hk2.mono (fun _ _ e => .inl e)) (fun _ _ e => e)
  obtain ⟨h1, h2, h3⟩ := hX.put hs hk3 ⟨rr, hrow2⟩ (own_base (own_keep hv hk2 (fun g hg e => by have := (hv.lt g hg).1; omega)) (Nat.zero_le _)) (fun k hk => .inr (hv.lt k hk).1)
  exact ⟨h2, _, ⟨_, _, _, rfl, h1, rfl⟩, h3⟩

theorem RThen.after {w w1 w' : World} {p : Value} {most : Nat} {Ls : List (List Ent)} {F : Nat → Prop} (hk : Keep No w w1) (h : RThen w1 w' p most Ls F) : RThen w w' p most Ls F := by
  obtain ⟨h1, F', h2, h3⟩ := h
  exact ⟨(hk.mono (fun _ _ e => e.elim)).trans h1 (fun _ _ e => e), F', h2, fun k hk2 => (h3 k hk2).imp id (fun h => Nat.le_trans hk.size h)⟩

theorem xset_self {h : Int} {Ls : List (List Ent)} : xset h (sOf h Ls) Ls = Ls := by
  unfold xset sOf
  by_cases hi : stripeI Ls.length h < Ls.length
  · simp [hi]
  · rw [List.set_eq_of_length_le (by omega)]

/-- what a call of the document's index finds -/
structure Setup (w : World) (br ba most : Nat) (vs : List Value) (Ls : List (List Ent)) (h : Int) (s p n : Nat) (v : Value) (L : List Ent) : Prop where
  hs : s < n
  hp : p ≤ L.length
  small : L.length ≤ 65536
  n64 : n ≤ 64
  m16 : most ≤ 16
  sorted : Sorted L
  ok : ∀ e ∈ L, e.ok ∧ e.full = true
  find : ∀ W, Keep No w W → Calls Try.prog 59 #[.pointer (some ⟨br, 0, none⟩), .int .u64 h] W fun e w' => e = .returned (.tuple #[.int .i64 s, .int .i64 p, .bool (lget h L).isSome]) ∧ Keep No W w'
  opn : ∀ W, Keep No w W → Opn W br ba most n s v L
  stays : ∀ W, Keep No w W → RThen w W (ptr br) most Ls (RFoot br ba vs)
  write : ∀ w1 w' g rcap rest L', Keep No w w1 → v = .slice (some ⟨g, 0, none⟩) L.length rcap → Blk w1 g (flat L ++ rest) 27 → Keep (fun k => k = g) w1 w' → Blk w' g (flat L' ++ rest) 27 → L'.length = L.length → RThen w w' (ptr br) most (xset h L' Ls) (RFoot br ba vs)
  newrow : ∀ w1 v' L', Keep No w w1 → w1.ownsRow w.heap.size 27 4 v' L'.length (flat L') → RThen w (w1.setCell ⟨ba, s, none⟩ v') (ptr br) most (xset h L' Ls) (RFoot br ba vs)
  newrowB : ∀ w1 w' v' L' base (X : Nat → Prop), Keep No w w1 → w.heap.size ≤ base → w1.ownsRow base 27 4 v' L'.length (flat L') → Keep X (w1.setCell ⟨ba, s, none⟩ v') w' → (∀ k, X k → w.heap.size ≤ k ∧ k < base) → RThen w w' (ptr br) most (xset h L' Ls) (RFoot br ba vs)
  found : ∀ o, lget h L = some o → p < L.length ∧ gt L p = o
  bound : ba < w.heap.size ∧ br < w.heap.size
  pos : p = posL h L
  list : sOf h Ls = L

theorem RIdx.setup (hX : RIdx w br ba vs most Ls) (hG : GoodL most Ls) (h : Int) (hh : 0 ≤ h) (hh2 : h < 18446744073709551616) : ∃ s p n v L, Setup w br ba most vs Ls h s p n v L := by
  have hsi := stripeI_lt hX.pos h
  obtain ⟨hs, hok, hroom⟩ := hG.2 _ hsi
  have hkeep : ∀ W, Keep No w W → RIdx W br ba vs most Ls := fun W hW => hX.keep hW (fun _ _ => no _)
  refine ⟨stripeI Ls.length h, posL h (sOf h Ls), Ls.length, vs.getD (stripeI Ls.length h) nilS, sOf h Ls, hsi, posL_le _ _, GoodL.small hG hsi, hX.most64, hG.1, hs, hok, fun W hW => rfind_any br ba most vs Ls h W (hkeep W hW) hG hh hh2, fun W hW => RIdx.opn (hkeep W hW) hsi,
    fun W hW => RHas.stays ⟨_, _, _, rfl, hX, rfl⟩ hW, fun w1 w' g rcap rest L' h1 h2 h3 h4 h5 h6 => RThen.after h1 (RIdx.write (hkeep w1 h1) hsi h2 h3 h4 h5 h6), fun w1 v' L' h1 h2 => RIdx.newrow hX hsi h1 h2, fun w1 w' v' L' base X h1 h2 h3 h4 h5 => RIdx.newrowB hX hsi h1 h2 h3 h4 h5, ?_, ⟨hX.foot_lt _ (.inr (.inl rfl)), hX.foot_lt _ (.inl rfl)⟩, rfl, rfl⟩
  intro o ho
  have h1 := lget_pos (h := h) hs
  change lget h (sOf h Ls) = if posL h (sOf h Ls) < (sOf h Ls).length ∧ (gt (sOf h Ls) (posL h (sOf h Ls))).h = h then some (gt (sOf h Ls) (posL h (sOf h Ls))) else none at h1
  rw [ho] at h1
  split at h1
  · rename_i hc
    exact ⟨hc.1, by simpa using h1.symm⟩
  · cases h1
end
end Go.Proofs.Ytaijfgajcmopfaa.Y4
