import Derived.Test.YtaijfgajcmopfaaY9
import Derived.Test.YtaijfgajcmopfaaX8
import Derived.Test.YtaijfgajcmopfaaAr
/- Both indexes side by side: what a call of each makes of the pair. -/
set_option linter.unusedVariables false
set_option linter.unusedSimpArgs false
namespace Go.Proofs.Ytaijfgajcmopfaa.Z1
open Go.RowKit Go.Shelf V Rh T W1 W2 W3 W4 W6 Rf X1 X2 X3 X4 X5 X6 X7 Pl Y1 Y2 Y3 Y4 Y5 Y6 Y7 Y8 Y9 Ap

structure Both (w : World) (p q : Value) (most : Nat) (Ls : List (List Ent)) (F G : Nat → Prop) : Prop where
  has : Has w p most Ls F
  rhas : RHas w q most Ls G
  off : ∀ k, F k → ¬ G k

theorem Both.good {w : World} {p q : Value} {most : Nat} {Ls : List (List Ent)} {F G : Nat → Prop} (h : Both w p q most Ls F G) : GoodL most Ls := Y1.GoodL.of h.has
theorem Both.keep {w w' : World} {p q : Value} {most : Nat} {Ls : List (List Ent)} {F G S : Nat → Prop} (h : Both w p q most Ls F G) (m : Keep S w w') (hS : ∀ k, F k ∨ G k → ¬ S k) : Both w' p q most Ls F G :=
  ⟨h.has.keep m (fun k hk => hS k (.inl hk)), h.rhas.keep m (fun k hk => hS k (.inr hk)), h.off⟩
theorem Both.lt {w : World} {p q : Value} {most : Nat} {Ls : List (List Ent)} {F G : Nat → Prop} (h : Both w p q most Ls F G) : ∀ k, F k ∨ G k → k < w.heap.size := fun k hk => hk.elim (h.has.lt k) (h.rhas.lt k)

def BThen (w w' : World) (p q : Value) (most : Nat) (Ls : List (List Ent)) (F G : Nat → Prop) : Prop :=
  Keep (fun k => F k ∨ G k) w w' ∧ ∃ F' G', Both w' p q most Ls F' G' ∧ (∀ k, F' k → F k ∨ w.heap.size ≤ k) ∧ (∀ k, G' k → G k ∨ w.heap.size ≤ k)

theorem Then.pre {w w1 w' : World} {p : Value} {most : Nat} {Ls : List (List Ent)} {F : Nat → Prop} (hk : Keep No w w1) (h : Then w1 w' p most Ls F) : Then w w' p most Ls F := by
  obtain ⟨h1, F', h2, h3⟩ := h
  exact ⟨(hk.mono (fun _ _ e => e.elim)).trans h1 (fun _ _ e => e), F', h2, fun k hk2 => (h3 k hk2).imp id (fun h => Nat.le_trans hk.size h)⟩
theorem Then.post {w w1 w' : World} {p : Value} {most : Nat} {Ls : List (List Ent)} {F : Nat → Prop} (h : Then w w1 p most Ls F) (hk : Keep No w1 w') : Then w w' p most Ls F := by
  obtain ⟨h1, F', h2, h3⟩ := h
  exact ⟨h1.trans (hk.mono (S' := F) (fun _ _ e => e.elim)) (fun _ _ e => e), F', h2.keep hk (fun _ _ => no _), h3⟩
theorem RThen.post {w w1 w' : World} {p : Value} {most : Nat} {Ls : List (List Ent)} {F : Nat → Prop} (h : RThen w w1 p most Ls F) (hk : Keep No w1 w') : RThen w w' p most Ls F := by
  obtain ⟨h1, F', h2, h3⟩ := h
  exact ⟨h1.trans (hk.mono (S' := F) (fun _ _ e => e.elim)) (fun _ _ e => e), F', h2.keep hk (fun _ _ => no _), h3⟩

section
variable {w w1 w2 : World} {p q : Value} {most : Nat} {Ls Ls' : List (List Ent)} {F G : Nat → Prop}

/-- the program's index first -/
theorem Both.ab (h : Both w p q most Ls F G) (hA : Then w w1 p most Ls' F) (hB : RThen w1 w2 q most Ls' G) : BThen w w2 p q most Ls' F G := by
  obtain ⟨kA, F', hF, fF⟩ := hA
  obtain ⟨kB, G', hG, fG⟩ := hB
  have hs := kA.size
  have hFl := hF.lt
  have hGl := h.rhas.lt
  have hd : ∀ k, F' k → ¬ G k := fun k hk hg => by
    rcases fF k hk with e | e
    · exact h.off k e hg
    · have := hGl k hg; omega
  refine ⟨(kA.mono (fun _ _ e => .inl e)).trans (kB.mono (S' := fun k => F k ∨ G k) (fun _ _ e => .inr e)) (fun _ _ e => e), F', G', ⟨hF.keep kB hd, hG, fun k hk hg => ?_⟩, fF, fun k hk => (fG k hk).imp id (fun e => Nat.le_trans hs e)⟩
  rcases fG k hg with e | e
  · exact hd k hk e
  · have := hFl k hk; omega
/-- the document's first -/
theorem Both.ba (h : Both w p q most Ls F G) (hB : RThen w w1 q most Ls' G) (hA : Then w1 w2 p most Ls' F) : BThen w w2 p q most Ls' F G := by
  obtain ⟨kB, G', hG, fG⟩ := hB
  obtain ⟨kA, F', hF, fF⟩ := hA
  have hs := kB.size
  have hGl := hG.lt
  have hFl := h.has.lt
  have hd : ∀ k, G' k → ¬ F k := fun k hk hf => by
    rcases fG k hk with e | e
    · exact h.off k hf e
    · have := hFl k hf; omega
  refine ⟨(kB.mono (fun _ _ e => .inr e)).trans (kA.mono (S' := fun k => F k ∨ G k) (fun _ _ e => .inl e)) (fun _ _ e => e), F', G', ⟨hF, hG.keep kA hd, fun k hk hg => ?_⟩, fun k hk => (fF k hk).imp id (fun e => Nat.le_trans hs e), fG⟩
  rcases fF k hk with e | e
  · exact hd k hg e
  · have := hGl k hg; omega
theorem Both.stays (h : Both w p q most Ls F G) (m : Keep No w w1) : BThen w w1 p q most Ls F G :=
  ⟨m.mono (fun _ _ e => e.elim), F, G, h.keep m (fun _ _ => no _), fun _ h => .inl h, fun _ h => .inl h⟩
end

/-- what a call does to the lists -/
def xpurge (k r : Int) (Ls : List (List Ent)) : List (List Ent) := if 0 ≤ k ∧ k < Ls.length then Ls.set k.toNat ((Ls.getD k.toNat []).filter (notHit r)) else Ls
def xdo (most : Nat) (o : Opr) (Ls : List (List Ent)) : List (List Ent) :=
  if o.k = 0 then (xput most o.e Ls).2.2 else if o.k = 2 then xrem o.e.h Ls else if o.k = 3 then (xremIf o.e.h o.at' Ls).2 else if o.k = 4 then (xmove most o.e.h o.at' o.e.a Ls).2 else if o.k = 5 then xhit o.e.h Ls else if o.k = 6 then xpurge o.n o.m Ls else Ls

theorem purge_has {w : World} {p : Value} {most : Nat} {Ls : List (List Ent)} {F : Nat → Prop} (hH : Has w p most Ls F) (n r : Int) (hr : -9223372036854775808 ≤ r) (hr2 : r < 9223372036854775808) :
    Calls Try.prog 12 #[p, .int .i64 n, .int .i64 r] w fun e w' => e = .returned (.int .i64 ((xall n Ls).countP (phit r) : Nat)) ∧ Then w w' p most (xpurge n r Ls) F := by
  obtain ⟨bx, bl, bts, bss, rfl, hX, rfl⟩ := id hH
  have hst : ∀ W, Keep No w W → _ := fun W hW => stripeN_any bx bl most bts bss Ls n W (hX.keep hW (fun _ _ => no _))
  unfold xall xpurge
  by_cases hc : 0 ≤ n ∧ n < Ls.length
  · rw [if_pos hc, if_pos hc]
    have hi : n.toNat < Ls.length := by omega
    have htab : tabOf bts n = ptr (bts.getD n.toNat 0) := by rw [tabOf, if_pos (by rw [hX.len1]; exact hc)]
    rw [htab] at hst
    have hIs : Is w (bts.getD n.toNat 0) (bss.getD n.toNat 0) most (Ls.getD n.toNat []) := hX.tabs _ hi
    obtain ⟨bits, es, _, hTI⟩ := id hIs
    refine (purge_on _ n r _ _ most _ w hst hIs hr hr2).mono fun e w' ⟨h1, h2, h3⟩ => ⟨h1, ?_⟩
    rw [pfold_self r hTI.sorted] at h3
    exact idx_around hX hi ⟨w, w', Keep.refl _ _, ⟨h2, _, .inl rfl, h3⟩, h2.size, Keep.refl _ _⟩
  · rw [if_neg hc, if_neg hc]
    have htab : tabOf bts n = .pointer none := by rw [tabOf, if_neg (by rw [hX.len1]; exact hc)]
    rw [htab] at hst
    exact (purge_nil _ n r w hst).mono fun e w' ⟨h1, h2⟩ => ⟨h1, hH.stays h2⟩
end Go.Proofs.Ytaijfgajcmopfaa.Z1
