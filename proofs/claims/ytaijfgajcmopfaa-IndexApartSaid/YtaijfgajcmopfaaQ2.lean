import Derived.Test.YtaijfgajcmopfaaQ1
import Derived.Deep.RegionHeld3
import Derived.Deep.DrawnRows
import Derived.OrdersHeld
import Derived.OrdersIn
import Derived.OwnWalkIn
/- Texts of one proof, one behind the other: Ar Z1 Y11 Y12 Y13 Y14 Z2 X9 Rr Z3 Y10 Z4 Z5 Z6 A1 Ap2 Z8 A3 Pop2. -/
/- The arguments: calls, scripts, slices of calls, opened into cells. -/
set_option linter.unusedVariables false
namespace Go.Proofs.Ytaijfgajcmopfaa.Ar
open Go.RowKit Go.ChangeShapes Go.WideShapes Go.Deep V Rh T W1 X7

theorem list8 {α : Type} {l : List α} (h : l.length = 8) : ∃ a b c d e f g i, l = [a, b, c, d, e, f, g, i] := by
  match l, h with
  | [a, b, c, d, e, f, g, i], _ => exact ⟨a, b, c, d, e, f, g, i, rfl⟩
theorem list4 {α : Type} {l : List α} (h : l.length = 4) : ∃ a b c d, l = [a, b, c, d] := by
  match l, h with
  | [a, b, c, d], _ => exact ⟨a, b, c, d, rfl⟩

theorem c29 : Try.prog.cellsOf 29 = 8 := by kernel_rfl
theorem c27 : Try.prog.cellsOf 27 = 4 := by kernel_rfl
theorem c25 : Try.prog.cellsOf 25 = 1 := by kernel_rfl
theorem c5 : Try.prog.cellsOf 5 = 1 := by kernel_rfl
theorem c3 : Try.prog.cellsOf 3 = 1 := by kernel_rfl

section
variable {H : Type} {enc : TypeId × Value → H} {W : World} {base : Nat} {spare : Nat → Bool} {held : Bool}

theorem open_u64 {n : Nat} {v : Value} {y : DataW H × List MemPlace} (h : DataW.trod enc Try.prog W base spare held n 25 [v] = some y) : ∃ x, v = .int .u64 x ∧ 0 ≤ x ∧ x < 18446744073709551616 := by
  obtain ⟨x, h1, _, h3⟩ := DataW.trod_int Try.underlying25 h
  simp [Lit.wf] at h1 h3
  obtain ⟨p, q⟩ := h3
  rw [show IntKind.u64.min = 0 from rfl] at p
  rw [show IntKind.u64.max = 18446744073709551615 from rfl] at q
  exact ⟨x, h1, p, by omega⟩
theorem open_u8 {n : Nat} {v : Value} {y : DataW H × List MemPlace} (h : DataW.trod enc Try.prog W base spare held n 5 [v] = some y) : ∃ x, v = .int .u8 x ∧ 0 ≤ x ∧ x < 256 := by
  obtain ⟨x, h1, _, h3⟩ := DataW.trod_int Try.underlying5 h
  simp [Lit.wf] at h1 h3
  obtain ⟨p, q⟩ := h3
  rw [show IntKind.u8.min = 0 from rfl] at p
  rw [show IntKind.u8.max = 255 from rfl] at q
  exact ⟨x, h1, p, by omega⟩
theorem open_i64 {n : Nat} {v : Value} {y : DataW H × List MemPlace} (h : DataW.trod enc Try.prog W base spare held n 3 [v] = some y) : ∃ x, v = .int .i64 x ∧ -9223372036854775808 ≤ x ∧ x < 9223372036854775808 := by
  obtain ⟨x, h1, _, h3⟩ := DataW.trod_int Try.underlying3 h
  simp [Lit.wf] at h1 h3
  obtain ⟨p, q⟩ := h3
  rw [show IntKind.i64.min = (-9223372036854775808) from rfl] at p
  exact ⟨x, h1, p, by omega⟩

theorem some_of {α : Type} {x : Option α} {l : List α} {i : Nat} (h : x = l[i]?) (hi : i < l.length) : ∃ y, x = some y := ⟨_, h.trans (List.getElem?_eq_getElem hi)⟩

theorem open_entry {n : Nat} {cs : List Value} {y : DataW H × List MemPlace} (h : DataW.trod enc Try.prog W base spare held n 27 cs = some y) : ∃ e : Ent, e.ok ∧ cs = cellsE e := by
  obtain ⟨xs, k, _, _, hl, hx, hf⟩ := DataW.trod_struct Try.underlying27 h
  rw [c27] at hl
  obtain ⟨a, b, c, d, rfl⟩ := list4 hl
  have hx4 : xs.length = 4 := hx
  obtain ⟨y0, h0⟩ := some_of (hf 0 _ rfl) (by omega)
  obtain ⟨y1, h1⟩ := some_of (hf 1 _ rfl) (by omega)
  obtain ⟨y2, h2⟩ := some_of (hf 2 _ rfl) (by omega)
  obtain ⟨y3, h3⟩ := some_of (hf 3 _ rfl) (by omega)
  simp [c25, c5] at h0 h1 h2 h3
  obtain ⟨x0, rfl, p0, q0⟩ := open_u64 h0
  obtain ⟨x1, rfl, p1, q1⟩ := open_u64 h1
  obtain ⟨x2, rfl, p2, q2⟩ := open_u64 h2
  obtain ⟨x3, rfl, p3, q3⟩ := open_u8 h3
  exact ⟨⟨x0, x1, x2, x3⟩, ⟨p0, q0, p1, q1, p2, q2, p3, q3⟩, rfl⟩

theorem open_op {n : Nat} {cs : List Value} {y : DataW H × List MemPlace} (h : DataW.trod enc Try.prog W base spare held n 29 cs = some y) : ∃ o : Opr, o.ok ∧ cs = cellsO o := by
  obtain ⟨xs, k, _, _, hl, hx, hf⟩ := DataW.trod_struct Try.underlying29 h
  rw [c29] at hl
  obtain ⟨a, b, c, d, e, f, g, i, rfl⟩ := list8 hl
  have hx5 : xs.length = 5 := hx
  obtain ⟨y0, h0⟩ := some_of (hf 0 _ rfl) (by omega)
  obtain ⟨y1, h1⟩ := some_of (hf 1 _ rfl) (by omega)
  obtain ⟨y2, h2⟩ := some_of (hf 2 _ rfl) (by omega)
  obtain ⟨y3, h3⟩ := some_of (hf 3 _ rfl) (by omega)
  obtain ⟨y4, h4⟩ := some_of (hf 4 _ rfl) (by omega)
  simp [c25, c3, c27] at h0 h1 h2 h3 h4
  obtain ⟨x0, rfl, p0, q0⟩ := open_i64 h0
  obtain ⟨x1, ok1, he⟩ := open_entry h1
  obtain ⟨x2, rfl, p2, q2⟩ := open_u64 h2
  obtain ⟨x3, rfl, p3, q3⟩ := open_i64 h3
  obtain ⟨x4, rfl, p4, q4⟩ := open_i64 h4
  simp only [cellsE, List.cons.injEq] at he
  obtain ⟨rfl, rfl, rfl, rfl, _⟩ := he
  exact ⟨⟨x0, x1, x2, x3, x4⟩, ⟨ok1, p2, q2, p3, q3, p4, q4⟩, rfl⟩

/-- the calls in a slice -/
def Ops (W : World) (v : Value) (os : List Opr) : Prop := (∀ o ∈ os, o.ok) ∧ os.length ≤ maxLen ∧ ((os = [] ∧ ∃ a cap, v = .slice a 0 cap) ∨
  ∃ b off cap, v = .slice (some ⟨b, off, none⟩) os.length cap ∧ b < W.heap.size ∧ ∀ i, i < os.length → ∀ j u, (cellsO (os.getD i ⟨0, z, 0, 0, 0⟩))[j]? = some u → W.cell? ⟨b, off + i * 8 + j, none⟩ = some u)

theorem Ops.keep {W W' : World} {v : Value} {os : List Opr} (h : Ops W v os) (k : Keep No W W') : Ops W' v os := by
  obtain ⟨h1, h2, h3⟩ := h
  refine ⟨h1, h2, h3.imp id ?_⟩
  rintro ⟨b, off, cap, rfl, hb, hc⟩
  exact ⟨b, off, cap, rfl, Nat.lt_of_lt_of_le hb k.size, fun i hi j u hu => (World.cell?_of_block (k.block b hb (no _))).trans (hc i hi j u hu)⟩

theorem Ops.form {W : World} {v : Value} {os : List Opr} (h : Ops W v os) : ∃ a cap, v = .slice a os.length cap ∧ ∀ i, i < os.length → ∃ b off, a = some ⟨b, off, none⟩ ∧ b < W.heap.size ∧ ∀ j u, (cellsO (os.getD i ⟨0, z, 0, 0, 0⟩))[j]? = some u → W.cell? ⟨b, off + i * 8 + j, none⟩ = some u := by
  obtain ⟨_, _, ⟨rfl, a, cap, rfl⟩ | ⟨b, off, cap, rfl, hb, hc⟩⟩ := h
  · exact ⟨a, cap, rfl, fun i hi => absurd hi (Nat.not_lt_zero _)⟩
  · exact ⟨_, cap, rfl, fun i hi => ⟨b, off, rfl, hb, hc i hi⟩⟩

instance : Inhabited Opr := ⟨⟨0, z, 0, 0, 0⟩⟩

set_option maxRecDepth 100000 in
theorem open_ops {v : Value} {d : DataW H} {p : List MemPlace} {r : Reach} {b0 : Nat} (hv : Value.okWide Try.prog W r b0 22 v) (h : DataW.Trod enc Try.prog W base spare held 22 v d p) : ∃ os, Ops W v os := by
  obtain ⟨a0, len0, cap0, rfl⟩ := okWide_slice Try.underlying22 hv
  obtain ⟨fuel, hf⟩ := h
  rcases open_slice Try.underlying22 hf with ⟨hcs, hx⟩ | ⟨a, len, cap, m, n, D, Pl, hcs, _, hl, hm, hmm, hx, hel⟩
  · simp [Value.cells] at hcs
    obtain ⟨rfl, rfl, rfl⟩ := hcs
    exact ⟨[], fun _ h => by simp at h, Nat.zero_le _, .inl ⟨rfl, _, _, rfl⟩⟩
  · simp [Value.cells] at hcs
    obtain ⟨rfl, rfl, rfl⟩ := hcs
    have hle : len0 ≤ m := by rw [hmm]; split <;> omega
    have each : ∀ i, i < len0 → ∃ o : Opr, o.ok ∧ W.cells? base (a.add (i * 8)) 8 = some (cellsO o) := by
      intro i hi
      obtain ⟨cs, h1, h2⟩ := hel i (by omega)
      rw [c29] at h1
      obtain ⟨o, ho, rfl⟩ := open_op h2
      exact ⟨o, ho, h1⟩
    obtain ⟨f, hfo⟩ := choose_lt each
    refine ⟨(List.range len0).map f, fun o ho => ?_, ?_, ?_⟩
    · obtain ⟨i, hi, rfl⟩ := List.mem_map.1 ho
      exact (hfo i (List.mem_range.1 hi)).1
    · simp; omega
    · by_cases h0 : len0 = 0
      · subst h0
        exact .inl ⟨rfl, _, _, rfl⟩
      · right
        obtain ⟨ab, ao, asp⟩ := a
        have hs0 : asp = none := by
          have := (World.cells?_some (hfo 0 (by omega)).2).2.2 0 (by omega)
          simpa [Addr.add] using World.cell?_spot this
        subst hs0
        have hg : ∀ i, i < len0 → ∀ j u, (cellsO (f i))[j]? = some u → W.cell? ⟨ab, ao + i * 8 + j, none⟩ = some u := by
          intro i hi j u hu
          obtain ⟨_, h8, hc⟩ := World.cells?_some (hfo i hi).2
          have hj : j < 8 := by have := (List.getElem?_eq_some_iff.1 hu).1; rw [h8] at this; exact this
          have := hc j hj
          rw [add_at, add_at] at this
          rw [this]
          exact hu
        refine ⟨ab, ao, cap0, by simp, ?_, fun i hi j u hu => ?_⟩
        · exact cell_lt (hg 0 (by omega) 0 _ rfl)
        · simp only [List.length_map, List.length_range] at hi
          refine hg i hi j u ?_
          simpa [List.getD_eq_getElem?_getD, hi] using hu
end
end Go.Proofs.Ytaijfgajcmopfaa.Ar
/- Both indexes side by side: what a call of each makes of the pair. -/
set_option linter.unusedVariables false
set_option linter.unusedSimpArgs false
namespace Go.Proofs.Ytaijfgajcmopfaa.Z1
open Go.RowKit Go.Shelf V Rh T W1 W2 W3 W4 W6 Rf X1 X2 X3 X4 X5 X6 X7 Pl Y1 Y2 Y3 Y4 Y5 Y6 Y7 Y8 Y9 Ap

structure Both (w : World) (p q : Value) (most : Nat) (Ls : List (List Ent)) (F G : Nat → Prop) : Prop where
  has : Has w p most Ls F
  rhas : RHas w q most Ls G
  off : ∀ k, F k → ¬ G k

theorem Both.good {w : World} {p q : Value} {most : Nat} {Ls : List (List Ent)} {F G : Nat → Prop} (h : Both w p q most Ls F G) : GoodL most Ls := Y1.GoodL.of h.has
theorem Both.keep {w w' : World} {p q : Value} {most : Nat} {Ls : List (List Ent)} {F G S : Nat → Prop} (h : Both w p q most Ls F G) (m : Keep S w w') (hS : ∀ k, F k ∨ G k → ¬ S k) : Both w' p q most Ls F G :=
  ⟨h.has.keep m (fun k hk => hS k (.inl hk)), h.rhas.keep m (fun k hk => hS k (.inr hk)), h.off⟩
theorem Both.lt {w : World} {p q : Value} {most : Nat} {Ls : List (List Ent)} {F G : Nat → Prop} (h : Both w p q most Ls F G) : ∀ k, F k ∨ G k → k < w.heap.size := fun k hk => hk.elim (h.has.lt k) (h.rhas.lt k)

def BThen (w w' : World) (p q : Value) (most : Nat) (Ls : List (List Ent)) (F G : Nat → Prop) : Prop :=
  Keep (fun k => F k ∨ G k) w w' ∧ ∃ F' G', Both w' p q most Ls F' G' ∧ (∀ k, F' k → F k ∨ w.heap.size ≤ k) ∧ (∀ k, G' k → G k ∨ w.heap.size ≤ k)

theorem Then.pre {w w1 w' : World} {p : Value} {most : Nat} {Ls : List (List Ent)} {F : Nat → Prop} (hk : Keep No w w1) (h : Then w1 w' p most Ls F) : Then w w' p most Ls F := by
  obtain ⟨h1, F', h2, h3⟩ := h
  exact ⟨(hk.mono (fun _ _ e => e.elim)).trans h1 (fun _ _ e => e), F', h2, fun k hk2 => (h3 k hk2).imp id (fun h => Nat.le_trans hk.size h)⟩
theorem Then.post {w w1 w' : World} {p : Value} {most : Nat} {Ls : List (List Ent)} {F : Nat → Prop} (h : Then w w1 p most Ls F) (hk : Keep No w1 w') : Then w w' p most Ls F := by
  obtain ⟨h1, F', h2, h3⟩ := h
  exact ⟨h1.trans (hk.mono (S' := F) (fun _ _ e => e.elim)) (fun _ _ e => e), F', h2.keep hk (fun _ _ => no _), h3⟩
theorem RThen.post {w w1 w' : World} {p : Value} {most : Nat} {Ls : List (List Ent)} {F : Nat → Prop} (h : RThen w w1 p most Ls F) (hk : Keep No w1 w') : RThen w w' p most Ls F := by
  obtain ⟨h1, F', h2, h3⟩ := h
  exact ⟨h1.trans (hk.mono (S' := F) (fun _ _ e => e.elim)) (fun _ _ e => e), F', h2.keep hk (fun _ _ => no _), h3⟩

section
variable {w w1 w2 : World} {p q : Value} {most : Nat} {Ls Ls' : List (List Ent)} {F G : Nat → Prop}

/-- the program's index first -/
theorem Both.ab (h : Both w p q most Ls F G) (hA : Then w w1 p most Ls' F) (hB : RThen w1 w2 q most Ls' G) : BThen w w2 p q most Ls' F G := by
  obtain ⟨kA, F', hF, fF⟩ := hA
  obtain ⟨kB, G', hG, fG⟩ := hB
  have hs := kA.size
  have hFl := hF.lt
  have hGl := h.rhas.lt
  have hd : ∀ k, F' k → ¬ G k := fun k hk hg => by
    rcases fF k hk with e | e
    · exact h.off k e hg
    · have := hGl k hg; omega
  refine ⟨(kA.mono (fun _ _ e => .inl e)).trans (kB.mono (S' := fun k => F k ∨ G k) (fun _ _ e => .inr e)) (fun _ _ e => e), F', G', ⟨hF.keep kB hd, hG, fun k hk hg => ?_⟩, fF, fun k hk => (fG k hk).imp id (fun e => Nat.le_trans hs e)⟩
  rcases fG k hg with e | e
  · exact hd k hk e
  · have := hFl k hk; omega
/-- the document's first -/
theorem Both.ba (h : Both w p q most Ls F G) (hB : RThen w w1 q most Ls' G) (hA : Then w1 w2 p most Ls' F) : BThen w w2 p q most Ls' F G := by
  obtain ⟨kB, G', hG, fG⟩ := hB
  obtain ⟨kA, F', hF, fF⟩ := hA
  have hs := kB.size
  have hGl := hG.lt
  have hFl := h.has.lt
  have hd : ∀ k, G' k → ¬ F k := fun k hk hf => by
    rcases fG k hk with e | e
    · exact h.off k hf e
    · have := hFl k hf; omega
  refine ⟨(kB.mono (fun _ _ e => .inr e)).trans (kA.mono (S' := fun k => F k ∨ G k) (fun _ _ e => .inl e)) (fun _ _ e => e), F', G', ⟨hF, hG.keep kA hd, fun k hk hg => ?_⟩, fun k hk => (fF k hk).imp id (fun e => Nat.le_trans hs e), fG⟩
  rcases fF k hk with e | e
  · exact hd k hg e
  · have := hGl k hg; omega
theorem Both.stays (h : Both w p q most Ls F G) (m : Keep No w w1) : BThen w w1 p q most Ls F G :=
  ⟨m.mono (fun _ _ e => e.elim), F, G, h.keep m (fun _ _ => no _), fun _ h => .inl h, fun _ h => .inl h⟩
end

/-- what a call does to the lists -/
def xpurge (k r : Int) (Ls : List (List Ent)) : List (List Ent) := if 0 ≤ k ∧ k < Ls.length then Ls.set k.toNat ((Ls.getD k.toNat []).filter (notHit r)) else Ls
def xdo (most : Nat) (o : Opr) (Ls : List (List Ent)) : List (List Ent) :=
  if o.k = 0 then (xput most o.e Ls).2.2 else if o.k = 2 then xrem o.e.h Ls else if o.k = 3 then (xremIf o.e.h o.at' Ls).2 else if o.k = 4 then (xmove most o.e.h o.at' o.e.a Ls).2 else if o.k = 5 then xhit o.e.h Ls else if o.k = 6 then xpurge o.n o.m Ls else Ls

theorem purge_has {w : World} {p : Value} {most : Nat} {Ls : List (List Ent)} {F : Nat → Prop} (hH : Has w p most Ls F) (n r : Int) (hr : -9223372036854775808 ≤ r) (hr2 : r < 9223372036854775808) :
    Calls Try.prog 12 #[p, .int .i64 n, .int .i64 r] w fun e w' => e = .returned (.int .i64 ((xall n Ls).countP (phit r) : Nat)) ∧ Then w w' p most (xpurge n r Ls) F := by
  obtain ⟨bx, bl, bts, bss, rfl, hX, rfl⟩ := id hH
  have hst : ∀ W, Keep No w W → _ := fun W hW => stripeN_any bx bl most bts bss Ls n W (hX.keep hW (fun _ _ => no _))
  unfold xall xpurge
  by_cases hc : 0 ≤ n ∧ n < Ls.length
  · rw [if_pos hc, if_pos hc]
    have hi : n.toNat < Ls.length := by omega
    have htab : tabOf bts n = ptr (bts.getD n.toNat 0) := by rw [tabOf, if_pos (by rw [hX.len1]; exact hc)]
    rw [htab] at hst
    have hIs : Is w (bts.getD n.toNat 0) (bss.getD n.toNat 0) most (Ls.getD n.toNat []) := hX.tabs _ hi
    obtain ⟨bits, es, _, hTI⟩ := id hIs
    refine (purge_on _ n r _ _ most _ w hst hIs hr hr2).mono fun e w' ⟨h1, h2, h3⟩ => ⟨h1, ?_⟩
    rw [pfold_self r hTI.sorted] at h3
    exact idx_around hX hi ⟨w, w', Keep.refl _ _, ⟨h2, _, .inl rfl, h3⟩, h2.size, Keep.refl _ _⟩
  · rw [if_neg hc, if_neg hc]
    have htab : tabOf bts n = .pointer none := by rw [tabOf, if_neg (by rw [hX.len1]; exact hc)]
    rw [htab] at hst
    exact (purge_nil _ n r w hst).mono fun e w' ⟨h1, h2⟩ => ⟨h1, hH.stays h2⟩
end Go.Proofs.Ytaijfgajcmopfaa.Z1
/- The document's index: Fork: a half-made index. -/
set_option linter.unusedVariables false
set_option linter.unusedSimpArgs false
namespace Go.Proofs.Ytaijfgajcmopfaa.Y11
open Go.RowKit Go.Shelf V Rh T W1 W2 W3 W4 W6 Rf X1 X2 X3 X4 X5 X6 Pl Y1 Y2 Y3 Y4 Y5 Y6 Y8 Ap

structure RMaking (w wr : World) (br : Nat) (v : Value) (vs : List Value) (most k : Nat) (Ls : List (List Ent)) : Prop where
  head : Blk wr br [.int .i64 most, v] 80
  row : wr.ownsRow (br + 1) 39 1 v k vs
  own : ∀ i, i < k → wr.ownsRow (br + 1) 27 4 (vs.getD i nilS) (Ls.getD i []).length (flat (Ls.getD i []))
  off : ∀ i g, i < k → (vs.getD i nilS).ownBlock = some g → v.ownBlock ≠ some g
  apart : ∀ i j, i < k → j < k → i ≠ j → ∀ g, (vs.getD i nilS).ownBlock = some g → (vs.getD j nilS).ownBlock ≠ some g
  keep : Keep No w wr
  new : w.heap.size ≤ br

theorem RMaking.len {w wr : World} {br : Nat} {v : Value} {vs : List Value} {most k : Nat} {Ls : List (List Ent)} (h : RMaking w wr br v vs most k Ls) : vs.length = k := by
  have := h.row.1
  omega

theorem RMaking.push {w wr wm wn : World} {br : Nat} {v v' x : Value} {vs : List Value} {most k : Nat} {Ls : List (List Ent)} (h : RMaking w wr br v vs most k Ls) (hm : Keep No wr wm)
    (hx : wm.ownsRow wr.heap.size 27 4 x (Ls.getD k []).length (flat (Ls.getD k []))) (hg : wm.grownBy wn v.ownBlock) (ho : wn.ownsRow (br + 1) 39 1 v' (k + 1) (vs ++ [x])) (hv : v'.ownBlock = v.ownBlock ∨ ∃ q, v'.ownBlock = some q ∧ wm.heap.size ≤ q) :
    RMaking w (wn.setCell ⟨br, 1, none⟩ v') br v' (vs ++ [x]) most (k + 1) Ls := by
  have hlen := h.len
  have hbr : br < wr.heap.size := h.head.lt
  have hrow := h.row.lt
  have hxl := hx.lt
  have hk0 : Keep (fun j => v.ownBlock = some j) wm wn := (Keep.refl _ wm).grown hg (fun k e _ => e)
  have hk1 : Keep (fun j => v.ownBlock = some j ∨ j = br) wm (wn.setCell ⟨br, 1, none⟩ v') := (hk0.mono (fun _ _ e => .inl e)).setCell _ _ (fun _ => .inr rfl)
  have hvbr : v.ownBlock ≠ some br := fun e => by have := (hrow _ e).1; omega
  have e1 : ∀ i, i < k → (vs ++ [x]).getD i nilS = vs.getD i nilS := fun i hi => by simp [List.getD_eq_getElem?_getD, List.getElem?_append_left (show i < vs.length by omega)]
  have e2 : (vs ++ [x]).getD k nilS = x := by simp [← hlen]
  have hvi : ∀ i g, i < k → (vs.getD i nilS).ownBlock = some g → br < g ∧ g < wr.heap.size := fun i g hi hg => by have := (h.own i hi).lt g hg; omega
  have hxo : ∀ g, x.ownBlock = some g → v.ownBlock ≠ some g := fun g hg e => by have := (hxl g hg).1; have := (hrow g e).2; omega
  have hv' : ∀ g, g < wm.heap.size → v.ownBlock ≠ some g → v'.ownBlock ≠ some g := by
    intro g hg hn e
    rcases hv with hv | ⟨q, hq, hq2⟩
    · rw [hv] at e; exact hn e
    · rw [hq] at e
      simp only [Option.some.injEq] at e
      omega
  have hms := hm.size
  refine ⟨?_, ?_, ?_, ?_, ?_, ?_, h.new⟩
  · exact ((h.head.mod hm (no _)).mod hk0 hvbr).set 1 v'
  · have hkk : Keep (fun j => j = br) wn (wn.setCell ⟨br, 1, none⟩ v') := (Keep.refl _ _).setCell _ _ (fun _ => rfl)
    refine own_keep ho hkk (fun g hg' e => ?_)
    have := (ho.lt g hg').1
    omega
  · intro i hi
    by_cases hik : i = k
    · subst hik
      rw [e2]
      refine own_keep (own_base hx (by omega)) hk1 (fun g hg => ?_)
      rintro (e | e)
      · exact hxo g hg e
      · have := (hxl g hg).1; omega
    · have hik' : i < k := by omega
      rw [e1 i hik']
      refine own_keep (own_keep (h.own i hik') hm (fun _ _ => no _)) hk1 (fun g hg => ?_)
      rintro (e | e)
      · exact h.off i g hik' hg e
      · have := hvi i g hik' hg; omega
  · intro i g hi hg
    by_cases hik : i = k
    · subst hik
      rw [e2] at hg
      exact hv' g (hxl g hg).2 (hxo g hg)
    · have hik' : i < k := by omega
      rw [e1 i hik'] at hg
      exact hv' g (by have := hvi i g hik' hg; omega) (h.off i g hik' hg)
  · intro i j hi hj hij g hg
    by_cases hik : i = k
    · subst hik
      rw [e2] at hg
      have hj' : j < i := by omega
      rw [e1 j hj']
      intro e
      have := hvi j g hj' e
      have := (hxl g hg).1
      omega
    · have hik' : i < k := by omega
      rw [e1 i hik'] at hg
      by_cases hjk : j = k
      · subst hjk
        rw [e2]
        intro e
        have := hvi i g hik' hg
        have := (hxl g e).1
        omega
      · have hj' : j < k := by omega
        rw [e1 j hj']
        exact h.apart i j hik' hj' hij g hg
  · refine h.keep.trans ((hm.mono (S' := fun j => v.ownBlock = some j ∨ j = br) (fun _ _ e => e.elim)).trans hk1 (fun _ _ e => e)) (fun i hi' e => ?_)
    have := h.new
    rcases e with e | rfl
    · have := (hrow _ e).1; omega
    · omega

theorem RMaking.idx {w wr : World} {br : Nat} {v : Value} {vs : List Value} {most k : Nat} {Ls : List (List Ent)} (h : RMaking w wr br v vs most k Ls) (hk : k = Ls.length) (h1 : 1 ≤ k) (h64 : k ≤ 64) (hv : v ≠ .slice none 0 0) :
    ∃ ba, RIdx wr br ba vs most Ls ∧ ∀ j, RFoot br ba vs j → w.heap.size ≤ j := by
  have hlen := h.len
  have hoff := h.off
  obtain ⟨g, cap, rest, rfl, hb, hn, hc, hB, hL⟩ := own_blk h.row hv
  have hnew := h.new
  refine ⟨g, ⟨⟨cap, by omega, by rw [← hk]; exact h.head⟩, ⟨rest, hB⟩, by omega, by omega, by omega, fun i hi => own_base (h.own i (by omega)) (Nat.zero_le _), by omega, fun i hi => ⟨fun e => ?_, fun e => ?_⟩, fun i j hi hj => h.apart i j (by omega) (by omega)⟩, ?_⟩
  · have := ((h.own i (by omega)).lt _ e).1; omega
  · exact hoff i g (by omega) e rfl
  · rintro j (rfl | rfl | ⟨i, hi, e⟩)
    · exact hnew
    · omega
    · have := ((h.own i (by omega)).lt _ e).1; omega
end Go.Proofs.Ytaijfgajcmopfaa.Y11
/- The document's index: Fork. -/
set_option linter.unusedVariables false
set_option linter.unusedSimpArgs false
namespace Go.Proofs.Ytaijfgajcmopfaa.Y12
open Go.RowKit Go.Shelf V Rh T W1 W2 W3 W4 W6 Rf X1 X2 X3 X4 X5 X6 Pl Y1 Y2 Y3 Y4 Y5 Y6 Y8 Y11 Ap

section
variable {w : World} {br ba most : Nat} {vs : List Value} {Ls : List (List Ent)}

set_option maxRecDepth 100000 in
set_option maxHeartbeats 2000000 in
theorem rfork_any (hX : RIdx w br ba vs most Ls) (hG : GoodL most Ls) :
    Calls Try.prog 16 #[ptr br] w fun e w' => ∃ br' ba' vs', e = .returned (ptr br') ∧ RIdx w' br' ba' vs' most Ls ∧ (∀ j, RFoot br' ba' vs' j → w.heap.size ≤ j) ∧ Keep No w w' := by
  obtain ⟨cap, hcap, hb⟩ := hX.head
  obtain ⟨z0, c0, c1, f0⟩ := hb.two
  have hmk : RMaking w (w.alloc (.cells #[.int .i64 most, .slice none 0 0] 80)) w.heap.size (.slice none 0 0) [] most 0 Ls :=
    ⟨Blk.new' _ rfl, World.ownsRow_nil _ _ _ _, fun i hi => absurd hi (by omega), fun i g hi => absurd hi (by omega), fun i j hi => absurd hi (by omega), (Keep.refl _ _).alloc _, Nat.le_refl _⟩
  have HMK := hid hmk
  have HX := hid hX
  have HG := hid hG
  clear hmk hX hG hb hcap
  obtain ⟨t0, hi, hz0, hz1, hz2⟩ := info_parts info27
  obtain ⟨t1, ji, jz0, jz1, jz2⟩ := info_parts info39
  unfold ptr
  have hn0 : (0 : Int) ≤ (Ls.length : Int) := by omega
  go_enter Try.func16, Try.ntmps16
  go_wp2
  go_loopw [17] (fun i wr => ∃ (k : Nat) (v : Value) (vs' : List Value), i = .int .i64 k ∧ k ≤ Ls.length ∧ Hid (RMaking w wr w.heap.size v vs' most k Ls ∧ (k = 0 ∨ v ≠ .slice none 0 0))) (fun i wr => Ls.length - (intOf i).toNat)
  case atStart => exact ⟨0, _, [], rfl, Nat.zero_le _, HMK.out, .inl rfl⟩
  case round =>
    obtain ⟨k, v, vs', rfl, hkn, HM⟩ := hrel
    obtain ⟨z2, d0, d1, g0⟩ := HM.out.1.head.two
    by_cases hk : k < Ls.length
    · have hk0 : (0 : Int) ≤ k := by omega
      have hk' : (k : Int) < Ls.length := by omega
      have hk2 : (k : Int) ≤ 64 := by have := HX.out.most64; omega
      have hXr := HX.out.keep HM.out.1.keep (fun _ _ => no _)
      have hat := hXr.at hk
      have hsrc := fun W (hW : Keep No wr W) => RIdx.src (hXr.keep hW (fun _ _ => no _)) hk
      obtain ⟨x0, hx0⟩ : ∃ x, vs.getD k nilS = x := ⟨_, rfl⟩
      rw [hx0] at hat hsrc
      have HSR := hid hsrc
      have hsm := GoodL.small HG.out hk
      have h64 := HX.out.most64
      clear hXr hsrc hx0
      go_wp2
      have S1 : Hid (∀ V : World, Keep No wr V → V.cell? ⟨w.heap.size, 1, none⟩ = some v) := fun V hV => (World.cell?_of_block (hV.block _ z2 (no _))).trans d1
      have F1 : Hid (∀ V : World, Keep No wr V → ∀ i, V.frozen? ⟨w.heap.size, i, none⟩ = false) := fun V hV i => (World.frozen?_of_block (hV.block _ z2 (no _))).trans (g0 i)
      have KA : Hid (Keep No wr ((wr.alloc (.cells #[] 27)).drew)) := ((Keep.refl _ _).alloc _).drew
      have O1 : Hid (((wr.alloc (.cells #[] 27)).drew).ownsRow wr.heap.size 27 4 (.slice (some ⟨wr.heap.size, 0, none⟩) 0 0) 0 []) := (World.ownsRow_lit wr #[] 0 (Nat.le_refl _) (by decide) rfl).drew
      have LF : Hid ((flat (Ls.getD k [])).length = (Ls.getD k []).length * 4) := by show _ = _; rw [flat_length]; omega
      have hm1 : 0 + (Ls.getD k []).length ≤ maxLen := by unfold maxLen; omega
      have hm2 : (0 + (Ls.getD k []).length) * 32 ≤ 140737488355328 := by omega
      have hm3 : k + 1 ≤ maxLen := by unfold maxLen; omega
      have hm4 : (k + 1) * 24 ≤ 140737488355328 := by omega
      have hb1 : wr.heap.size ≤ ((wr.alloc (.cells #[] 27)).drew).heap.size := KA.out.size
      have hb2 : w.heap.size + 1 ≤ wr.heap.size := by omega
      have M := hid (And.intro hm1 (And.intro hm2 (And.intro hm3 (And.intro hm4 (And.intro hb1 hb2)))))
      clear hm1 hm2 hm3 hm4 hb1 hb2 hsm h64
      have hS0 := S1.out _ ((Keep.refl No wr).drew)
      refine Pop.wp_region_pop (m := 12) (S := fun w' => w'.cell? ⟨w.heap.size, 1, none⟩ = some v) (by kernel_rfl) (by kernel_rfl) ?_
      refine wpAnyH_take (i := 0) (v := ?_) rfl (by kernel_rfl) (by kernel_rfl) (by kernel_rfl) (fun _ _ _ h => h) (Or.inl ⟨by rfl, ?_⟩) (hS0) ?_
      rotate_left
      · (intro w hSw; obtain q1 := hSw; go_simp; try with_reducible rfl)
      simp only [Act.put, List.setIfInBounds_toArray, List.set_cons_zero, List.set_cons_succ]
      refine wpAnyH_take (i := 1) (v := ?_) rfl (by kernel_rfl) (by kernel_rfl) (by kernel_rfl) (fun _ _ _ h => h) (Or.inl ⟨by rfl, ?_⟩) (hS0) ?_
      rotate_left
      · (intro w hSw; obtain q1 := hSw; go_simp; try with_reducible rfl)
      simp only [Act.put, List.setIfInBounds_toArray, List.set_cons_zero, List.set_cons_succ]
      refine wpAnyH_take (i := 2) (v := ?_) rfl (by kernel_rfl) (by kernel_rfl) (by kernel_rfl) (fun _ _ _ h => h) (Or.inl ⟨by rfl, ?_⟩) (hS0) ?_
      rotate_left
      · (intro w hSw; obtain q1 := hSw; go_simp; try with_reducible rfl)
      simp only [Act.put, List.setIfInBounds_toArray, List.set_cons_zero, List.set_cons_succ]
      refine wpAnyH_take (i := 3) (v := ?_) rfl (by kernel_rfl) (by kernel_rfl) (by kernel_rfl) (fun _ _ _ h => h) (Or.inl ⟨by rfl, ?_⟩) (hS0) ?_
      rotate_left
      · (intro w hSw; obtain q1 := hSw; go_simp; try with_reducible rfl)
      simp only [Act.put, List.setIfInBounds_toArray, List.set_cons_zero, List.set_cons_succ]
      refine wpAnyH_take (i := 4) (v := ?_) rfl (by kernel_rfl) (by kernel_rfl) (by kernel_rfl) (fun _ _ _ h => h) (Or.inl ⟨by rfl, ?_⟩) (hS0) ?_
      rotate_left
      · (intro w hSw; obtain q1 := hSw; go_simp; try with_reducible rfl)
      simp only [Act.put, List.setIfInBounds_toArray, List.set_cons_zero, List.set_cons_succ]
      refine wpAnyH_take (i := 6) (v := ?_) rfl (by kernel_rfl) (by kernel_rfl) (by kernel_rfl) (fun _ _ _ h => h) (Or.inl ⟨by rfl, ?_⟩) (hS0) ?_
      rotate_left
      · (intro w hSw; obtain q1 := hSw; go_simp; try with_reducible rfl)
      simp only [Act.put, List.setIfInBounds_toArray, List.set_cons_zero, List.set_cons_succ]
      refine wpAnyH_ready (rs := [5]) (by kernel_rfl) (by simp) (AllReadyH.cons (i := 5) rfl (fun K' hK => ?_) AllReadyH.nil)
      go_simp
      refine hK.out _ _ (S1.out _ KA.out) (fun _ => ?_)
      clear hK
      refine wpAnyH_ready (rs := [7]) (by kernel_rfl) (by simp) (AllReadyH.cons (i := 7) rfl (fun K' hK => ?_) AllReadyH.nil)
      refine step_append_src _ (by rfl) (.tmp 26) (.tmp 27) 39 (by rfl) wr.heap.size 27 t0 zE 4 32 Try.underlying39 hi hz0 hz1 hz2 rfl (by decide) (.slice (some ⟨wr.heap.size, 0, none⟩) 0 0) 0 [] (by rfl) O1.out x0 _ _ (by rfl) (HSR.out _ KA.out) LF.out (flat_one _) M.out.1 M.out.2.1 M.out.2.2.2.2.1 ?_
      intro v1 w2 ho1 hg1 hi1 hb1
      have hK2 : Keep No wr w2 := KA.out.grown hg1 (fun k e hk => by simp [Value.ownBlock] at e; omega)
      refine hK.out _ _ (S1.out _ hK2) (fun _ => ?_)
      clear hK
      change wpAnyH _ _ _ _ _ _ _ (Act.put _ (some 28) _) _
      simp only [Act.put, List.setIfInBounds_toArray, List.set_cons_zero, List.set_cons_succ]
      obtain ⟨a1, m1, q1, rfl⟩ := own_some ho1
      have HO1 := hid ho1
      have HK2 := hid hK2
      clear ho1 hg1 hi1 hb1 hK2
      refine wpAnyH_ready (rs := [8]) (by kernel_rfl) (by simp) (AllReadyH.cons (i := 8) rfl (fun K' hK => ?_) AllReadyH.nil)
      go_simp
      refine hK.out _ _ (S1.out _ (HK2.out.alloc _)) (fun _ => ?_)
      clear hK
      refine wpAnyH_ready (rs := [9]) (by kernel_rfl) (by simp) (AllReadyH.cons (i := 9) rfl (fun K' hK => ?_) AllReadyH.nil)
      refine step_append_src _ (by rfl) (.tmp 25) (.tmp 29) 78 (by rfl) (w.heap.size + 1) 39 t1 (.slice none 0 0) 1 24 Try.underlying78 ji jz0 jz1 jz2 rfl (by decide) v k vs' (by rfl) (own_keep HM.out.1.row (HK2.out.alloc (.cells #[.slice a1 m1 q1] 39)) (fun _ _ => no _)) (.slice (some ⟨w2.heap.size, 0, none⟩) 1 1) 1 [.slice a1 m1 q1] (by rfl) (Src.one w2 _ 39) (by rfl) ?c1 M.out.2.2.1 M.out.2.2.2.1 ?c2 ?c3
      case c1 => intro u hu; simp only [List.mem_singleton] at hu; subst hu; rfl
      case c2 => have := HK2.out.size; have := M.out.2.2.2.2.2; simp; omega
      case c3 =>
        intro v2 w3 ho2 hg2 hi2 hb2
        have hK3 : Keep (fun j => v.ownBlock = some j) wr w3 := ((HK2.out.alloc _).mono (fun _ _ e => e.elim)).grown hg2 (fun k e _ => e)
        have hne : v.ownBlock ≠ some w.heap.size := fun e => by have := (HM.out.1.row.lt _ e).1; omega
        have hbn := HM.out.1.head.mod hK3 hne
        obtain ⟨z3, d2, d3, g3⟩ := hbn.two
        refine hK.out _ _ d3 (fun _ => ?_)
        clear hK
        change wpAnyH _ _ _ _ _ _ _ (Act.put _ (some 30) _) _
        simp only [Act.put, List.setIfInBounds_toArray, List.set_cons_zero, List.set_cons_succ]
        refine wpAnyH_take (i := 10) (v := ?_) rfl (by kernel_rfl) (by kernel_rfl) (by kernel_rfl) (fun _ _ _ h => h) (Or.inl ⟨by rfl, ?_⟩) (d3) ?_
        rotate_left
        · (intro w hSw; obtain q1 := hSw; go_simp; try with_reducible rfl)
        simp only [Act.put, List.setIfInBounds_toArray, List.set_cons_zero, List.set_cons_succ]
        refine wpAnyH_take (i := 11) (v := ?_) rfl (by kernel_rfl) (by kernel_rfl) (by kernel_rfl) (fun _ _ _ h => h) (Or.inl ⟨by rfl, ?_⟩) (d3) ?_
        rotate_left
        · (intro w hSw; obtain q1 := hSw; go_simp; try with_reducible rfl)
        simp only [Act.put, List.setIfInBounds_toArray, List.set_cons_zero, List.set_cons_succ]
        refine wpAnyH_done (by kernel_rfl) ?_ _
        refine Pop.before_normal ?_
        refine wpOp_step (i := 12) rfl (fun K' hK => ?_)
        have HF := hid (HM.out.1.push (x := .slice a1 m1 q1) (HK2.out.alloc (.cells #[.slice a1 m1 q1] 39)) (by have := (HO1.out.alloc (.cells #[.slice a1 m1 q1] 39)); simpa using this) hg2 ho2 (by rcases hb2 with h4 | h4; exact .inl h4; exact .inr ⟨_, h4, Nat.le_refl _⟩))
        have hnn : v2 ≠ .slice none 0 0 := fun e => by have := (hi2.1 e).2; cases this
        have HNN := hid hnn
        clear ho2 hg2 hi2 hb2 hS0 hK3 hbn HO1 hnn
        obtain ⟨a2, m2, q2, rfl⟩ := own_some HF.out.row
        go_simp
        refine hK _ _ ?_
        go_wp2
        exact ⟨⟨k + 1, _, _, by go_num, by omega, HF.out, .inr HNN.out⟩, by simp [intOf]; omega⟩
    · have hke : k = Ls.length := by omega
      go_wp2
      go_ret
      obtain ⟨hm, hv⟩ := HM.out
      obtain ⟨ba', hR, hF⟩ := hm.idx hke (by rw [hke]; exact HX.out.pos) (by rw [hke]; exact HX.out.most64) (hv.resolve_left (by have := HX.out.pos; omega))
      exact ⟨_, ba', vs', rfl, hR, hF, hm.keep⟩
end
end Go.Proofs.Ytaijfgajcmopfaa.Y12
/- The document's index: Put. -/
set_option linter.unusedVariables false
set_option linter.unusedSimpArgs false
namespace Go.Proofs.Ytaijfgajcmopfaa.Y13
open Go.RowKit Go.Shelf V Rh T W1 W2 W3 W4 W6 Rf X1 X2 X3 X4 X5 X6 Pl Y1 Y2 Y3 Y4 Y5 Y6 Y8 Ap

section
variable {w : World} {br ba most : Nat} {vs : List Value} {Ls : List (List Ent)}

theorem writeR (hX : RIdx w br ba vs most Ls) {s : Nat} (hs : s < Ls.length) {g rcap : Nat} {rest : List Value} {L' : List Ent} {w' : World} (hv : vs.getD s nilS = .slice (some ⟨g, 0, none⟩) (Ls.getD s []).length rcap)
    (hb : Blk w g (flat (Ls.getD s []) ++ rest) 27) (hk : Keep (fun k => k = g) w w') (hb' : Blk w' g (flat L' ++ rest) 27) (hl : L'.length = (Ls.getD s []).length) :
    RIdx w' br ba vs most (Ls.set s L') ∧ Keep (RFoot br ba vs) w w' := by
  have hown : (vs.getD s nilS).ownBlock = some g := by rw [hv]; rfl
  have hne := (hX.off s hs).2
  obtain ⟨rr, hrow⟩ := hX.row
  have hset : vs.set s (vs.getD s nilS) = vs := by
    have : s < vs.length := by rw [hX.len]; exact hs
    simp [this]
  have hlen : (flat L').length = (flat (Ls.getD s [])).length := by rw [flat_length, flat_length, hl]
  have ho := hX.own s hs
  have hv' : w'.ownsRow 0 27 4 (vs.getD s nilS) L'.length (flat L') := by
    refine ⟨by rw [flat_length]; omega, .inr ?_⟩
    rcases ho.2 with ⟨hn, _⟩ | ⟨g2, cap2, cur, he, hb0, hg, hc1, hc2, hc3, hc4⟩
    · rw [hv] at hn; cases hn
    · have he2 := hv.symm.trans he
      simp only [Value.slice.injEq, Option.some.injEq, Addr.mk.injEq] at he2
      obtain ⟨⟨rfl, _⟩, _, rfl⟩ := he2
      have hcur : cur = (flat (Ls.getD s []) ++ rest).toArray := by
        unfold Blk at hb
        rw [hb] at hg
        simp only [Option.some.injEq, Obj.cells.injEq] at hg
        exact hg.1.symm
      refine ⟨g, rcap, (flat L' ++ rest).toArray, by rw [hl]; exact hv, Nat.zero_le _, hb', by rw [hl]; exact hc1, hc2, ?_, ?_⟩
      · rw [hcur] at hc3
        simp only [List.size_toArray, List.length_append] at hc3 ⊢
        omega
      · exact List.take_left' (by rw [flat_length]; omega)
  obtain ⟨h1, h2, h3⟩ := hX.put (w' := w') hs (v' := vs.getD s nilS) (L' := L') (hk.mono (fun k _ e => .inr (by rw [hown, e]))) ⟨rr, by rw [hset]; exact hrow.mod hk (fun e => hne (by rw [hown, e]))⟩ hv' (fun k hk => .inl hk)
  rw [hset] at h1 h3
  exact ⟨h1, h2⟩

/-- row s written in its place; cells of the call's own are written behind it -/
theorem writeB (hX : RIdx w br ba vs most Ls) {h : Int} {g rcap : Nat} {rest : List Value} {L' : List Ent} {w1 w' w2 : World} {X : Nat → Prop} (h1 : Keep No w w1) (hv : vs.getD (stripeI Ls.length h) nilS = .slice (some ⟨g, 0, none⟩) (sOf h Ls).length rcap)
    (hb : Blk w1 g (flat (sOf h Ls) ++ rest) 27) (hk : Keep (fun k => k = g) w1 w') (hb' : Blk w' g (flat L' ++ rest) 27) (hl : L'.length = (sOf h Ls).length) (hX2 : Keep X w' w2) (hXl : ∀ k, X k → w.heap.size ≤ k) :
    RThen w w2 (ptr br) most (xset h L' Ls) (RFoot br ba vs) := by
  have hs := stripeI_lt hX.pos h
  have hlt := hX.foot_lt
  obtain ⟨h2, h3⟩ := writeR (hX.keep h1 (fun _ _ => no _)) hs hv hb hk hb' hl
  refine ⟨((h1.mono (fun _ _ e => e.elim)).trans h3 (fun _ _ e => e)).trans hX2 (fun k hk hx => by have := hXl k hx; omega), _, ⟨_, _, _, rfl, h2.keep hX2 (fun k hk hx => by have := hXl k hx; have := hlt k hk; omega), rfl⟩, fun k hk => .inl hk⟩

theorem shl_fits {most N : Nat} (hN : 2 ^ most = N) (h : N ≤ 65536) : wrap64 (2 ^ most) = (N : Int) := by
  rw [show (2 : Int) ^ most = ((2 ^ most : Nat) : Int) by simp, hN]
  unfold wrap64
  omega

theorem xput_arg {e : Ent} (h : e.a = 0) : xput most e Ls = (none, 1, Ls) := by unfold xput; rw [if_pos h]
theorem xput_older {e o : Ent} (h : e.a ≠ 0) (ho : xget e.h Ls = some o) (hv : e.v < o.v) : xput most e Ls = (none, 120, Ls) := by
  unfold xput
  rw [if_neg h, if_pos ⟨o, ho, hv⟩]
theorem xput_set {e o : Ent} {s p n : Nat} {v : Value} {L : List Ent} (S : Setup w br ba most vs Ls e.h s p n v L) (h : e.a ≠ 0) (ho : lget e.h L = some o) (hv : ¬ e.v < o.v) : xput most e Ls = (some o, 0, xset e.h (L.set p e) Ls) := by
  have hg : xget e.h Ls = some o := by unfold xget; rw [S.list]; exact ho
  unfold xput
  rw [if_neg h, if_neg (by rintro ⟨o', h1, h2⟩; rw [hg] at h1; obtain rfl := Option.some.inj h1; exact hv h2), S.list]
  unfold putR
  rw [ho]
  have := (lput_set (e := e) S.sorted ho).2.2
  rw [this, ← S.pos]
theorem xput_full {e : Ent} {s p n : Nat} {v : Value} {L : List Ent} (S : Setup w br ba most vs Ls e.h s p n v L) (h : e.a ≠ 0) (ho : lget e.h L = none) (hf : 7 * 2 ^ most < 8 * (L.length + 1)) : xput most e Ls = (none, 2, Ls) := by
  have hg : xget e.h Ls = none := by unfold xget; rw [S.list]; exact ho
  unfold xput
  rw [if_neg h, if_neg (by rintro ⟨o', h1, h2⟩; rw [hg] at h1; cases h1), S.list]
  unfold putR
  rw [ho]
  simp only [if_pos hf]
  have := S.list
  subst this
  rw [xset_self]
theorem xput_ins {e : Ent} {s p n : Nat} {v : Value} {L : List Ent} (S : Setup w br ba most vs Ls e.h s p n v L) (h : e.a ≠ 0) (ho : lget e.h L = none) (hf : ¬ 7 * 2 ^ most < 8 * (L.length + 1)) : xput most e Ls = (none, 0, xset e.h (L.take p ++ e :: L.drop p) Ls) := by
  have hg : xget e.h Ls = none := by unfold xget; rw [S.list]; exact ho
  unfold xput
  rw [if_neg h, if_neg (by rintro ⟨o', h1, h2⟩; rw [hg] at h1; cases h1), S.list]
  unfold putR
  rw [ho]
  simp only [if_neg hf]
  rw [lput_ins S.sorted ho, ← S.pos]

set_option maxRecDepth 100000 in
set_option maxHeartbeats 4000000 in
theorem rput_ins {e : Ent} {s p n : Nat} {v : Value} {L : List Ent} (S : Setup w br ba most vs Ls e.h s p n v L) (ha : e.a ≠ 0) (hl : lget e.h L = none) (hf : ¬ 7 * 2 ^ most < 8 * (L.length + 1)) (sy1 sy2 : Value)
    (hs1 : ∀ W, (Instr.sliceAt 39 v none (some (.int .i64 (p : Int))) none).run Try.prog W = .ok sy1 W) (hs2 : ∀ W, (Instr.sliceAt 39 v (some (.int .i64 (p : Int))) none none).run Try.prog W = .ok sy2 W)
    (hy1 : ∀ W, Keep No w W → Src W sy1 p (flat (L.take p))) (hy2 : ∀ W, Keep No w W → Src W sy2 (L.length - p) (flat (L.drop p))) :
    Calls Try.prog 32 #[ptr br, valE e] w fun e' w' => e' = .returned (.tuple #[valE z, .bool false, .int .i64 0]) ∧ RThen w w' (ptr br) most (xset e.h (L.take p ++ e :: L.drop p) Ls) (RFoot br ba vs) := by
  have hfind := S.find
  have HS := hid S
  have HB0 : Hid (Blk ((w.alloc (.cells #[.int .u64 e.h, .int .u64 e.a, .int .u64 e.v, .int .u8 e.c] 27)).alloc (.cells #[.int .u64 0, .int .u64 0, .int .u64 0, .int .u8 0] 27)) w.heap.size [.int .u64 e.h, .int .u64 e.a, .int .u64 e.v, .int .u8 e.c] 27) := (Blk.new' _ rfl).alloc _
  have HB1 : Hid (Blk ((w.alloc (.cells #[.int .u64 e.h, .int .u64 e.a, .int .u64 e.v, .int .u8 e.c] 27)).alloc (.cells #[.int .u64 0, .int .u64 0, .int .u64 0, .int .u8 0] 27)) (w.heap.size + 1) [.int .u64 0, .int .u64 0, .int .u64 0, .int .u8 0] 27) := Blk.new1 _ rfl
  have had : (e.a == 0) = false := by simpa using ha
  rw [hl] at hfind
  simp only [Option.isSome_none] at hfind
  have hm16 := S.m16
  have hsm := S.small
  have i0 : (0 : Int) ≤ (s : Nat) := by have := S.hs; omega
  have i1 : (s : Int) < n := by have := S.hs; omega
  have hpl := S.hp
  have hp16 := pow_le16 hm16
  obtain ⟨N, hN⟩ : ∃ N : Nat, 2 ^ most = N := ⟨_, rfl⟩
  rw [hN] at hp16 hf
  have hp0 : (0 : Int) ≤ (N : Int) := by omega
  have hp1 : (N : Int) ≤ 65536 := by omega
  have hfd : decide (7 * (N : Int) < 8 * ((L.length : Int) + 1)) = false := by simp; omega
  have LT : Hid ((flat (L.take p)).length = p * 4) := by show _ = _; rw [flat_length, List.length_take]; omega
  have LD : Hid ((flat (L.drop p)).length = (L.length - p) * 4) := by show _ = _; rw [flat_length, List.length_drop]; omega
  have hm1 : 0 + p ≤ maxLen := by unfold maxLen; omega
  have hm2 : (0 + p) * 32 ≤ 140737488355328 := by omega
  have hm3 : p + 1 ≤ maxLen := by unfold maxLen; omega
  have hm4 : (p + 1) * 32 ≤ 140737488355328 := by omega
  have hm5 : p + 1 + (L.length - p) ≤ maxLen := by unfold maxLen; omega
  have hm6 : (p + 1 + (L.length - p)) * 32 ≤ 140737488355328 := by omega
  have M := hid (And.intro hm1 (And.intro hm2 (And.intro hm3 (And.intro hm4 (And.intro hm5 hm6)))))
  have HLL : Hid ((L.take p ++ e :: L.drop p).length = p + 1 + (L.length - p)) := by show _ = _; simp; omega
  have HY1 := hid hy1
  have HY2 := hid hy2
  have h5 := shl_fits hN hp16
  clear hm1 hm2 hm3 hm4 hm5 hm6 S ha hl hf hN hp16 hy1 hy2
  obtain ⟨t0, hi, hz0, hz1, hz2⟩ := info_parts info27
  unfold ptr valE
  go_enter Try.func32, Try.ntmps32
  go_wp2_with (go_at_call 59; refine (hfind _ (((Keep.refl _ _).alloc _).alloc _)).mono ?_; rintro e' w1 ⟨rfl, hk⟩; have HK := hid (Keep.trans (((Keep.refl No w).alloc _).alloc _) hk (fun _ _ h => h)); have hd := hid (HB1.out.mod hk (no _)); have he := hid (HB0.out.mod hk (no _)); obtain ⟨q0, b0, b1, b2, b3, g0⟩ := hd.out.four; obtain ⟨q1, a0, a1, a2, a3, g1⟩ := he.out.four; obtain ⟨cap, y0, y1, y2, y3, y4, y5, y6, y7, y9⟩ := HS.out.opn _ HK.out; obtain ⟨va, vc, hv⟩ : ∃ a c, v = .slice a L.length c := (by rcases y9 with ⟨rfl, rfl⟩ | ⟨g, rc, rest, rfl, _⟩; exact ⟨_, _, rfl⟩; exact ⟨_, _, rfl⟩); rw [hv] at y7; clear hk y9)
  go_quiet (fail)
  obtain ⟨W1, hW1⟩ : ∃ W, w1.drewN nq = W := ⟨_, rfl⟩
  have HK1 : Hid (Keep No w W1) := by rw [← hW1]; exact HK.out.drewN _
  have hd1 : Hid (Blk W1 (w.heap.size + 1) [.int .u64 0, .int .u64 0, .int .u64 0, .int .u8 0] 27) := by rw [← hW1]; exact hd.out.drewN _
  have he1 : Hid (Blk W1 w.heap.size [.int .u64 e.h, .int .u64 e.a, .int .u64 e.v, .int .u8 e.c] 27) := by rw [← hW1]; exact he.out.drewN _
  have hsW : W1.heap.size = w1.heap.size := by rw [← hW1]; simp
  rw [hW1]
  clear hW1 y0 y1 y2 y3 y4 y5 y6 y7 q0 b0 b1 b2 b3 g0 q1 a0 a1 a2 a3 g1
  obtain ⟨cap, y0, y1, y2, y3, y4, y5, y6, y7, _⟩ := HS.out.opn _ HK1.out
  obtain ⟨q0, b0, b1, b2, b3, g0⟩ := hd1.out.four
  obtain ⟨q1, a0, a1, a2, a3, g1⟩ := he1.out.four
  have W1s : Hid (∀ V : World, Keep No W1 V → V.cell? ⟨br, 1, none⟩ = some (.slice (some ⟨ba, 0, none⟩) n cap) ∧ V.cell? ⟨ba, s, none⟩ = some v ∧ V.cell? ⟨w.heap.size, 0, none⟩ = some (.int .u64 e.h) ∧ V.cell? ⟨w.heap.size, 1, none⟩ = some (.int .u64 e.a) ∧ V.cell? ⟨w.heap.size, 2, none⟩ = some (.int .u64 e.v) ∧ V.cell? ⟨w.heap.size, 3, none⟩ = some (.int .u8 e.c)) := fun V hV =>
    ⟨(World.cell?_of_block (hV.block _ y1 (no _))).trans y3, (World.cell?_of_block (hV.block _ y5 (no _))).trans y7, (World.cell?_of_block (hV.block _ q1 (no _))).trans a0, (World.cell?_of_block (hV.block _ q1 (no _))).trans a1, (World.cell?_of_block (hV.block _ q1 (no _))).trans a2, (World.cell?_of_block (hV.block _ q1 (no _))).trans a3⟩
  have F1 : Hid (∀ V : World, Keep No W1 V → (∀ i, V.frozen? ⟨ba, i, none⟩ = false) ∧ ba < V.heap.size) := fun V hV => ⟨fun i => (World.frozen?_of_block (hV.block ba y5 (no _))).trans (y6 i), Nat.lt_of_lt_of_le y5 hV.size⟩
  have KA : Hid (Keep No W1 (W1.alloc (.cells #[] 27))) := (Keep.refl _ _).alloc _
  have O1 : Hid ((W1.alloc (.cells #[] 27)).ownsRow W1.heap.size 27 4 (.slice (some ⟨W1.heap.size, 0, none⟩) 0 0) 0 []) := World.ownsRow_lit W1 #[] 0 (Nat.le_refl _) (by decide) rfl
  clear hv hsW hd he HK
  go_wp2_with (at_builtin; refine wpList_append_src _ rfl (.tmp 70) (.tmp 79) 39 rfl W1.heap.size 27 t0 zE 4 32 Try.underlying39 hi hz0 hz1 hz2 rfl (by decide) (.slice (some ⟨W1.heap.size, 0, none⟩) 0 0) 0 [] rfl O1.out sy1 p (flat (L.take p)) rfl (HY1.out _ (HK1.out.trans KA.out (fun _ _ e => e))) LT.out (flat_one _) M.out.1 M.out.2.1 KA.out.size ?c5)
  case c5 =>
    intro v1 w2 ho1 hg1 hi1 hb1
    have hK2 : Keep No W1 w2 := KA.out.grown hg1 (fun k e hk => by simp [Value.ownBlock] at e; omega)
    obtain ⟨a1', m1', c1', rfl⟩ := own_some ho1
    have HO1 := hid ho1
    have HK2 := hid hK2
    clear ho1 hg1 hi1 hb1 hK2 y2 y3 y4 y6 y7 a0 a1 a2 a3 g1 b0 b1 b2 b3 g0
    go_wp2
    have hS0 := W1s.out _ (HK2.out.drew)
    refine Pop.wp_region_pop (m := 20) (S := fun V => V.cell? ⟨br, 1, none⟩ = some (.slice (some ⟨ba, 0, none⟩) n cap) ∧ V.cell? ⟨ba, s, none⟩ = some v ∧ V.cell? ⟨w.heap.size, 0, none⟩ = some (.int .u64 e.h) ∧ V.cell? ⟨w.heap.size, 1, none⟩ = some (.int .u64 e.a) ∧ V.cell? ⟨w.heap.size, 2, none⟩ = some (.int .u64 e.v) ∧ V.cell? ⟨w.heap.size, 3, none⟩ = some (.int .u8 e.c)) (by kernel_rfl) (by kernel_rfl) ?_
    refine wpAnyH_take (i := 0) (v := ?_) rfl (by kernel_rfl) (by kernel_rfl) (by kernel_rfl) (fun _ _ _ h => h) (Or.inl ⟨by rfl, ?_⟩) (hS0) ?_
    rotate_left
    · (intro w hSw; obtain ⟨p1, p2, p3, p4, p5, p6⟩ := hSw; go_simp; try with_reducible rfl)
    simp only [Act.put, List.setIfInBounds_toArray, List.set_cons_zero, List.set_cons_succ]
    refine wpAnyH_take (i := 1) (v := ?_) rfl (by kernel_rfl) (by kernel_rfl) (by kernel_rfl) (fun _ _ _ h => h) (Or.inl ⟨by rfl, ?_⟩) (hS0) ?_
    rotate_left
    · (intro w hSw; obtain ⟨p1, p2, p3, p4, p5, p6⟩ := hSw; go_simp; try with_reducible rfl)
    simp only [Act.put, List.setIfInBounds_toArray, List.set_cons_zero, List.set_cons_succ]
    refine wpAnyH_take (i := 2) (v := ?_) rfl (by kernel_rfl) (by kernel_rfl) (by kernel_rfl) (fun _ _ _ h => h) (Or.inl ⟨by rfl, ?_⟩) (hS0) ?_
    rotate_left
    · (intro w hSw; obtain ⟨p1, p2, p3, p4, p5, p6⟩ := hSw; go_simp; try with_reducible rfl)
    simp only [Act.put, List.setIfInBounds_toArray, List.set_cons_zero, List.set_cons_succ]
    refine wpAnyH_take (i := 3) (v := ?_) rfl (by kernel_rfl) (by kernel_rfl) (by kernel_rfl) (fun _ _ _ h => h) (Or.inl ⟨by rfl, ?_⟩) (hS0) ?_
    rotate_left
    · (intro w hSw; obtain ⟨p1, p2, p3, p4, p5, p6⟩ := hSw; go_simp; try with_reducible rfl)
    simp only [Act.put, List.setIfInBounds_toArray, List.set_cons_zero, List.set_cons_succ]
    refine wpAnyH_take (i := 4) (v := ?_) rfl (by kernel_rfl) (by kernel_rfl) (by kernel_rfl) (fun _ _ _ h => h) (Or.inl ⟨by rfl, ?_⟩) (hS0) ?_
    rotate_left
    · (intro w hSw; obtain ⟨p1, p2, p3, p4, p5, p6⟩ := hSw; go_simp; try with_reducible rfl)
    simp only [Act.put, List.setIfInBounds_toArray, List.set_cons_zero, List.set_cons_succ]
    refine wpAnyH_take (i := 5) (v := ?_) rfl (by kernel_rfl) (by kernel_rfl) (by kernel_rfl) (fun _ _ _ h => h) (Or.inl ⟨by rfl, ?_⟩) (hS0) ?_
    rotate_left
    · (intro w hSw; obtain ⟨p1, p2, p3, p4, p5, p6⟩ := hSw; go_simp; try with_reducible rfl)
    simp only [Act.put, List.setIfInBounds_toArray, List.set_cons_zero, List.set_cons_succ]
    refine wpAnyH_take (i := 6) (v := ?_) rfl (by kernel_rfl) (by kernel_rfl) (by kernel_rfl) (fun _ _ _ h => h) (Or.inl ⟨by rfl, ?_⟩) (hS0) ?_
    rotate_left
    · (intro w hSw; obtain ⟨p1, p2, p3, p4, p5, p6⟩ := hSw; go_simp; try with_reducible rfl)
    simp only [Act.put, List.setIfInBounds_toArray, List.set_cons_zero, List.set_cons_succ]
    refine wpAnyH_take (i := 9) (v := ?_) rfl (by kernel_rfl) (by kernel_rfl) (by kernel_rfl) (fun _ _ _ h => h) (Or.inl ⟨by rfl, ?_⟩) (hS0) ?_
    rotate_left
    · (intro w hSw; obtain ⟨p1, p2, p3, p4, p5, p6⟩ := hSw; go_simp; try with_reducible rfl)
    simp only [Act.put, List.setIfInBounds_toArray, List.set_cons_zero, List.set_cons_succ]
    refine wpAnyH_take (i := 10) (v := ?_) rfl (by kernel_rfl) (by kernel_rfl) (by kernel_rfl) (fun _ _ _ h => h) (Or.inl ⟨by rfl, ?_⟩) (hS0) ?_
    rotate_left
    · (intro w hSw; obtain ⟨p1, p2, p3, p4, p5, p6⟩ := hSw; go_simp; try with_reducible rfl)
    simp only [Act.put, List.setIfInBounds_toArray, List.set_cons_zero, List.set_cons_succ]
    refine wpAnyH_take (i := 11) (v := ?_) rfl (by kernel_rfl) (by kernel_rfl) (by kernel_rfl) (fun _ _ _ h => h) (Or.inl ⟨by rfl, ?_⟩) (hS0) ?_
    rotate_left
    · (intro w hSw; obtain ⟨p1, p2, p3, p4, p5, p6⟩ := hSw; go_simp; try with_reducible rfl)
    simp only [Act.put, List.setIfInBounds_toArray, List.set_cons_zero, List.set_cons_succ]
    refine wpAnyH_take (i := 12) (v := ?_) rfl (by kernel_rfl) (by kernel_rfl) (by kernel_rfl) (fun _ _ _ h => h) (Or.inl ⟨by rfl, ?_⟩) (hS0) ?_
    rotate_left
    · (intro w hSw; obtain ⟨p1, p2, p3, p4, p5, p6⟩ := hSw; go_simp; try with_reducible rfl)
    simp only [Act.put, List.setIfInBounds_toArray, List.set_cons_zero, List.set_cons_succ]
    refine wpAnyH_take (i := 13) (v := ?_) rfl (by kernel_rfl) (by kernel_rfl) (by kernel_rfl) (fun _ _ _ h => h) (Or.inl ⟨by rfl, ?_⟩) (hS0) ?_
    rotate_left
    · (intro w hSw; obtain ⟨p1, p2, p3, p4, p5, p6⟩ := hSw; go_simp; try with_reducible rfl)
    simp only [Act.put, List.setIfInBounds_toArray, List.set_cons_zero, List.set_cons_succ]
    refine wpAnyH_take (i := 14) (v := ?_) rfl (by kernel_rfl) (by kernel_rfl) (by kernel_rfl) (fun _ _ _ h => h) (Or.inl ⟨by rfl, ?_⟩) (hS0) ?_
    rotate_left
    · (intro w hSw; obtain ⟨p1, p2, p3, p4, p5, p6⟩ := hSw; go_simp; try with_reducible rfl)
    simp only [Act.put, List.setIfInBounds_toArray, List.set_cons_zero, List.set_cons_succ]
    refine wpAnyH_take (i := 15) (v := ?_) rfl (by kernel_rfl) (by kernel_rfl) (by kernel_rfl) (fun _ _ _ h => h) (Or.inl ⟨by rfl, ?_⟩) (hS0) ?_
    rotate_left
    · (intro w hSw; obtain ⟨p1, p2, p3, p4, p5, p6⟩ := hSw; go_simp; try with_reducible rfl)
    simp only [Act.put, List.setIfInBounds_toArray, List.set_cons_zero, List.set_cons_succ]
    refine wpAnyH_take (i := 16) (v := ?_) rfl (by kernel_rfl) (by kernel_rfl) (by kernel_rfl) (fun _ _ _ h => h) (Or.inl ⟨by rfl, ?_⟩) (hS0) ?_
    rotate_left
    · (intro w hSw; obtain ⟨p1, p2, p3, p4, p5, p6⟩ := hSw; go_simp; try with_reducible rfl)
    simp only [Act.put, List.setIfInBounds_toArray, List.set_cons_zero, List.set_cons_succ]
    refine wpAnyH_take (i := 17) (v := ?_) rfl (by kernel_rfl) (by kernel_rfl) (by kernel_rfl) (fun _ _ _ h => h) (Or.inl ⟨by rfl, ?_⟩) (hS0) ?_
    rotate_left
    · (intro w hSw; obtain ⟨p1, p2, p3, p4, p5, p6⟩ := hSw; go_simp; try with_reducible rfl)
    simp only [Act.put, List.setIfInBounds_toArray, List.set_cons_zero, List.set_cons_succ]
    refine wpAnyH_ready (rs := [7]) (by kernel_rfl) (by simp) (AllReadyH.cons (i := 7) rfl (fun K' hK => ?_) AllReadyH.nil)
    go_simp
    refine hK.out _ _ (W1s.out _ ((HK2.out.alloc _).drew)) (fun _ => ?_)
    clear hK
    refine wpAnyH_ready (rs := [8]) (by kernel_rfl) (by simp) (AllReadyH.cons (i := 8) rfl (fun K' hK => ?_) AllReadyH.nil)
    refine step_append_src _ (by rfl) (.tmp 86) (.tmp 88) 39 (by rfl) W1.heap.size 27 t0 zE 4 32 Try.underlying39 hi hz0 hz1 hz2 rfl (by decide) (.slice a1' m1' c1') _ _ (by rfl) ((HO1.out.alloc (.cells #[.int .u64 e.h, .int .u64 e.a, .int .u64 e.v, .int .u8 e.c] 27)).drew) (.slice (some ⟨w2.heap.size, 0, none⟩) 1 1) 1 (cellsE e) (by rfl) (Src.blk ((Blk.new' 27 rfl).drew)) (by rfl) ?c1 M.out.2.2.1 M.out.2.2.2.1 ((HK2.out.alloc _).drew.size) ?c3
    case c1 => intro u hu; simp only [cellsE, List.mem_cons, List.not_mem_nil, or_false] at hu; rcases hu with rfl | rfl | rfl | rfl <;> rfl
    case c3 =>
      intro v2 w3 ho2 hg2 hi2 hb2
      have hK3 : Keep No W1 w3 := (HK2.out.alloc _).drew.grown hg2 (fun k e hk => by have := (HO1.out.lt k e).1; omega)
      refine hK.out _ _ (W1s.out _ hK3) (fun _ => ?_)
      clear hK
      change wpAnyH _ _ _ _ _ _ _ (Act.put _ (some 89) _) _
      simp only [Act.put, List.setIfInBounds_toArray, List.set_cons_zero, List.set_cons_succ]
      refine wpAnyH_ready (rs := [18]) (by kernel_rfl) (by simp) (AllReadyH.cons (i := 18) rfl (fun K' hK => ?_) AllReadyH.nil)
      refine step_append_src _ (by rfl) (.tmp 89) (.tmp 98) 39 (by rfl) W1.heap.size 27 t0 zE 4 32 Try.underlying39 hi hz0 hz1 hz2 rfl (by decide) v2 _ _ (by rfl) ho2 sy2 (L.length - p) (flat (L.drop p)) (by rfl) (HY2.out _ (HK1.out.trans hK3 (fun _ _ e => e))) LD.out (flat_one _) M.out.2.2.2.2.1 M.out.2.2.2.2.2 hK3.size ?_
      intro v3 w4 ho3 hg3 hi3 hb3
      have hK4 : Keep No W1 w4 := hK3.grown hg3 (fun k e hk => by have := (ho2.lt k e).1; omega)
      refine hK.out _ _ (W1s.out _ hK4) (fun _ => ?_)
      clear hK
      change wpAnyH _ _ _ _ _ _ _ (Act.put _ (some 99) _) _
      simp only [Act.put, List.setIfInBounds_toArray, List.set_cons_zero, List.set_cons_succ]
      obtain ⟨hF3, hF4⟩ := F1.out _ hK4
      have hS5 := W1s.out _ hK4
      refine wpAnyH_take (i := 19) (v := ?_) rfl (by kernel_rfl) (by kernel_rfl) (by kernel_rfl) (fun _ _ _ h => h) (Or.inl ⟨by rfl, ?_⟩) (hS5) ?_
      rotate_left
      · (intro w hSw; obtain ⟨p1, p2, p3, p4, p5, p6⟩ := hSw; go_simp; try with_reducible rfl)
      simp only [Act.put, List.setIfInBounds_toArray, List.set_cons_zero, List.set_cons_succ]
      refine wpAnyH_done (by kernel_rfl) ?_ _
      refine Pop.before_normal ?_
      refine wpOp_step (i := 20) rfl (fun K' hK => ?_)
      obtain ⟨a3', m3', c3', rfl⟩ := own_some ho3
      have HO3 := hid ho3
      have HK4 := hid hK4
      obtain ⟨p1, p2, p3, p4, p5, p6⟩ := hS5
      clear ho2 ho3 hg2 hg3 hi2 hi3 hb2 hb3 hK3 hK4 hS0
      go_simp
      refine hK _ _ ?_
      have hneL : w.heap.size + 1 ≠ ba := by have := HS.out.bound; omega
      have HL := hid (Blk.ot' (hd1.out.mod HK4.out (no _)) hneL s (.slice a3' m3' c3'))
      obtain ⟨l0, l1, l2, l3, l4, l5⟩ := HL.out.four
      go_wp2
      have hfe : flat (L.take p ++ e :: L.drop p) = flat (L.take p) ++ cellsE e ++ flat (L.drop p) := by simp [flat]
      have ho5 : w4.ownsRow W1.heap.size 27 4 (.slice a3' m3' c3') (L.take p ++ e :: L.drop p).length (flat (L.take p ++ e :: L.drop p)) := by
        rw [HLL.out, hfe]
        exact HO3.out
      refine bodyPost_ret (res_euv (e := z) rfl _ rfl rfl rfl (Blk.setE HL.out z)) rfl ⟨rfl, ?_⟩
      exact HS.out.newrowB w4 _ _ _ W1.heap.size (fun k => k = w.heap.size + 1) (HK1.out.trans HK4.out (fun _ _ e => e)) HK1.out.size ho5 (Keep.set4 (Keep.refl (fun k => k = w.heap.size + 1) _) (fun _ => rfl) _ _ _ _ _ _ _ _) (fun k hk => by subst hk; exact ⟨by omega, q0⟩)
end
end Go.Proofs.Ytaijfgajcmopfaa.Y13
/- The document's index: Put. -/
set_option linter.unusedVariables false
set_option linter.unusedSimpArgs false
namespace Go.Proofs.Ytaijfgajcmopfaa.Y14
open Go.RowKit Go.Shelf V Rh T W1 W2 W3 W4 W6 Rf X1 X2 X3 X4 X5 X6 Pl Y1 Y2 Y3 Y4 Y5 Y6 Y8 Y13 Ap

section
variable {w : World} {br ba most : Nat} {vs : List Value} {Ls : List (List Ent)}

theorem setup' (hX : RIdx w br ba vs most Ls) (hG : GoodL most Ls) (h : Int) (hh : 0 ≤ h) (hh2 : h < 18446744073709551616) : ∃ s p n v L, Setup w br ba most vs Ls h s p n v L ∧ v = vs.getD (stripeI Ls.length h) nilS := by
  have hsi := stripeI_lt hX.pos h
  obtain ⟨hs, hok, hroom⟩ := hG.2 _ hsi
  have hkeep : ∀ W, Keep No w W → RIdx W br ba vs most Ls := fun W hW => hX.keep hW (fun _ _ => no _)
  refine ⟨stripeI Ls.length h, posL h (sOf h Ls), Ls.length, vs.getD (stripeI Ls.length h) nilS, sOf h Ls, ⟨hsi, posL_le _ _, GoodL.small hG hsi, hX.most64, hG.1, hs, hok, fun W hW => rfind_any br ba most vs Ls h W (hkeep W hW) hG hh hh2, fun W hW => Y4.RIdx.opn (hkeep W hW) hsi,
    fun W hW => RHas.stays ⟨_, _, _, rfl, hX, rfl⟩ hW, fun w1 w' g rcap rest L' h1 h2 h3 h4 h5 h6 => RThen.after h1 (Y4.RIdx.write (hkeep w1 h1) hsi h2 h3 h4 h5 h6), fun w1 v' L' h1 h2 => Y4.RIdx.newrow hX hsi h1 h2, fun w1 w' v' L' base X h1 h2 h3 h4 h5 => Y4.RIdx.newrowB hX hsi h1 h2 h3 h4 h5, ?_, ⟨hX.foot_lt _ (.inr (.inl rfl)), hX.foot_lt _ (.inl rfl)⟩, rfl, rfl⟩, rfl⟩
  intro o ho
  have h1 := lget_pos (h := h) hs
  change lget h (sOf h Ls) = if posL h (sOf h Ls) < (sOf h Ls).length ∧ (gt (sOf h Ls) (posL h (sOf h Ls))).h = h then some (gt (sOf h Ls) (posL h (sOf h Ls))) else none at h1
  rw [ho] at h1
  split at h1
  · rename_i hc
    exact ⟨hc.1, by simpa using h1.symm⟩
  · cases h1

set_option maxRecDepth 100000 in
set_option maxHeartbeats 4000000 in
theorem rput_set (hX : RIdx w br ba vs most Ls) {e o : Ent} {s p n : Nat} {v : Value} {L : List Ent} (S : Setup w br ba most vs Ls e.h s p n v L) (HVV0 : v = vs.getD (stripeI Ls.length e.h) nilS) (ha : e.a ≠ 0) (hl : lget e.h L = some o) (hv : ¬ e.v < o.v) :
    Calls Try.prog 32 #[ptr br, valE e] w fun e' w' => e' = .returned (.tuple #[valE o, .bool true, .int .i64 0]) ∧ RThen w w' (ptr br) most (xset e.h (L.set p e) Ls) (RFoot br ba vs) := by
  have HVV := hid HVV0
  clear HVV0
  have hfind := S.find
  have HS := hid S
  have HB0 : Hid (Blk ((w.alloc (.cells #[.int .u64 e.h, .int .u64 e.a, .int .u64 e.v, .int .u8 e.c] 27)).alloc (.cells #[.int .u64 0, .int .u64 0, .int .u64 0, .int .u8 0] 27)) w.heap.size [.int .u64 e.h, .int .u64 e.a, .int .u64 e.v, .int .u8 e.c] 27) := (Blk.new' _ rfl).alloc _
  have HB1 : Hid (Blk ((w.alloc (.cells #[.int .u64 e.h, .int .u64 e.a, .int .u64 e.v, .int .u8 e.c] 27)).alloc (.cells #[.int .u64 0, .int .u64 0, .int .u64 0, .int .u8 0] 27)) (w.heap.size + 1) [.int .u64 0, .int .u64 0, .int .u64 0, .int .u8 0] 27) := Blk.new1 _ rfl
  have had : (e.a == 0) = false := by simpa using ha
  rw [hl] at hfind
  simp only [Option.isSome_some] at hfind
  obtain ⟨hpl, ho⟩ := S.found o hl
  have i0 : (0 : Int) ≤ (s : Nat) := by omega
  have i1 : (s : Int) < n := by have := S.hs; omega
  have i2 : (0 : Int) ≤ (p : Nat) := by omega
  have i3 : (p : Int) < L.length := by omega
  have HO := hid ho
  have hop := S.opn w (Keep.refl _ _)
  obtain ⟨_, _, _, _, _, _, _, _, _, hform⟩ := hop
  obtain ⟨g, rcap, rest, rfl, hrc, hr63, hbg, n1, n2, n3, n4⟩ := hform.resolve_left (fun e => by rw [e.2] at hpl; exact absurd hpl (Nat.not_lt_zero _))
  have HX := hid hX
  have HXP := hid (xput_set S ha hl hv)
  have HLI := hid S.list
  have HV2 := HVV
  have hgw := hbg.lt
  have HBG := hid hbg
  have hvd : decide (e.v < o.v) = false := by simpa using hv
  have hbd := S.bound
  clear hX S ha hl ho hv hform hbg HVV hr63
  unfold ptr valE
  go_enter Try.func32, Try.ntmps32
  go_wp2_with (go_at_call 59; refine (hfind _ (((Keep.refl _ _).alloc _).alloc _)).mono ?_; rintro e' w1 ⟨rfl, hk⟩; have HK := hid (Keep.trans (((Keep.refl No w).alloc _).alloc _) hk (fun _ _ h => h)); have hd := hid (HB1.out.mod hk (no _)); have he := hid (HB0.out.mod hk (no _)); obtain ⟨q0, b0, b1, b2, b3, g0⟩ := hd.out.four; obtain ⟨q1, a0, a1, a2, a3, g1⟩ := he.out.four; obtain ⟨cap, y0, y1, y2, y3, y4, y5, y6, y7, _⟩ := HS.out.opn _ HK.out; have hbg := HBG.out.mod HK.out (no _); obtain ⟨s0, s1, s2, s3⟩ := slot hbg hpl; rw [HO.out] at s0 s1 s2 s3; have hfr := hbg.frozen; have hgl := hbg.lt; clear hk hbg)
  obtain ⟨W, hW⟩ : ∃ W, w1.alloc (.cells #[.int .u64 o.h, .int .u64 o.a, .int .u64 o.v, .int .u8 o.c] 27) = W := ⟨_, rfl⟩
  have hWs : W.heap.size = w1.heap.size + 1 := by rw [← hW]; simp
  have HKW : Hid (Keep No w W) := by rw [← hW]; exact HK.out.alloc _
  have HBO : Hid (Blk W w1.heap.size [.int .u64 o.h, .int .u64 o.a, .int .u64 o.v, .int .u8 o.c] 27) := by rw [← hW]; exact Blk.new' _ rfl
  have hd1 : Hid (Blk W (w.heap.size + 1) [.int .u64 0, .int .u64 0, .int .u64 0, .int .u8 0] 27) := by rw [← hW]; exact hd.out.alloc _
  have he1 : Hid (Blk W w.heap.size [.int .u64 e.h, .int .u64 e.a, .int .u64 e.v, .int .u8 e.c] 27) := by rw [← hW]; exact he.out.alloc _
  have HBW : Hid (Blk W g (flat L ++ rest) 27) := HBG.out.mod HKW.out (no _)
  rw [hW]
  clear hW hd he HK y2 y3 y4 y6 y7 s0 s1 s2 s3 hfr b0 b1 b2 b3 g0 a0 a1 a2 a3 g1
  obtain ⟨cap2, _, z1, _, z3, _, z5, _, z7, _⟩ := HS.out.opn _ HKW.out
  obtain ⟨_, a0, a1, a2, a3, _⟩ := he1.out.four
  have hS0 : W.drew.cell? ⟨br, 1, none⟩ = some (.slice (some ⟨ba, 0, none⟩) n cap2) ∧ W.drew.cell? ⟨ba, s, none⟩ = some (.slice (some ⟨g, 0, none⟩) L.length rcap) ∧ W.drew.cell? ⟨w.heap.size, 0, none⟩ = some (.int .u64 e.h) ∧ W.drew.cell? ⟨w.heap.size, 1, none⟩ = some (.int .u64 e.a) ∧ W.drew.cell? ⟨w.heap.size, 2, none⟩ = some (.int .u64 e.v) ∧ W.drew.cell? ⟨w.heap.size, 3, none⟩ = some (.int .u8 e.c) := ⟨z3, z7, a0, a1, a2, a3⟩
  have hs2 : s < cap2 := by assumption
  obtain ⟨t0, t1, t2, t3⟩ := slot HBW.out hpl
  have hfr := HBW.out.frozen
  have hglt := HBW.out.lt
  refine Pop.wp_region_pop (m := 10) (S := fun V => V.cell? ⟨br, 1, none⟩ = some (.slice (some ⟨ba, 0, none⟩) n cap2) ∧ V.cell? ⟨ba, s, none⟩ = some (.slice (some ⟨g, 0, none⟩) L.length rcap) ∧ V.cell? ⟨w.heap.size, 0, none⟩ = some (.int .u64 e.h) ∧ V.cell? ⟨w.heap.size, 1, none⟩ = some (.int .u64 e.a) ∧ V.cell? ⟨w.heap.size, 2, none⟩ = some (.int .u64 e.v) ∧ V.cell? ⟨w.heap.size, 3, none⟩ = some (.int .u8 e.c)) (by kernel_rfl) (by kernel_rfl) ?_
  refine wpAnyH_take (i := 0) (v := ?_) rfl (by kernel_rfl) (by kernel_rfl) (by kernel_rfl) (fun _ _ _ h => h) (Or.inl ⟨by rfl, ?_⟩) (hS0) ?_
  rotate_left
  · (intro w hSw; obtain ⟨p1, p2, p3, p4, p5, p6⟩ := hSw; go_simp; try with_reducible rfl)
  simp only [Act.put, List.setIfInBounds_toArray, List.set_cons_zero, List.set_cons_succ]
  refine wpAnyH_take (i := 1) (v := ?_) rfl (by kernel_rfl) (by kernel_rfl) (by kernel_rfl) (fun _ _ _ h => h) (Or.inl ⟨by rfl, ?_⟩) (hS0) ?_
  rotate_left
  · (intro w hSw; obtain ⟨p1, p2, p3, p4, p5, p6⟩ := hSw; go_simp; try with_reducible rfl)
  simp only [Act.put, List.setIfInBounds_toArray, List.set_cons_zero, List.set_cons_succ]
  refine wpAnyH_take (i := 2) (v := ?_) rfl (by kernel_rfl) (by kernel_rfl) (by kernel_rfl) (fun _ _ _ h => h) (Or.inl ⟨by rfl, ?_⟩) (hS0) ?_
  rotate_left
  · (intro w hSw; obtain ⟨p1, p2, p3, p4, p5, p6⟩ := hSw; go_simp; try with_reducible rfl)
  simp only [Act.put, List.setIfInBounds_toArray, List.set_cons_zero, List.set_cons_succ]
  refine wpAnyH_take (i := 3) (v := ?_) rfl (by kernel_rfl) (by kernel_rfl) (by kernel_rfl) (fun _ _ _ h => h) (Or.inl ⟨by rfl, ?_⟩) (hS0) ?_
  rotate_left
  · (intro w hSw; obtain ⟨p1, p2, p3, p4, p5, p6⟩ := hSw; go_simp; try with_reducible rfl)
  simp only [Act.put, List.setIfInBounds_toArray, List.set_cons_zero, List.set_cons_succ]
  refine wpAnyH_take (i := 4) (v := ?_) rfl (by kernel_rfl) (by kernel_rfl) (by kernel_rfl) (fun _ _ _ h => h) (Or.inl ⟨by rfl, ?_⟩) (hS0) ?_
  rotate_left
  · (intro w hSw; obtain ⟨p1, p2, p3, p4, p5, p6⟩ := hSw; go_simp; try with_reducible rfl)
  simp only [Act.put, List.setIfInBounds_toArray, List.set_cons_zero, List.set_cons_succ]
  refine wpAnyH_take (i := 5) (v := ?_) rfl (by kernel_rfl) (by kernel_rfl) (by kernel_rfl) (fun _ _ _ h => h) (Or.inl ⟨by rfl, ?_⟩) (hS0) ?_
  rotate_left
  · (intro w hSw; obtain ⟨p1, p2, p3, p4, p5, p6⟩ := hSw; go_simp; try with_reducible rfl)
  simp only [Act.put, List.setIfInBounds_toArray, List.set_cons_zero, List.set_cons_succ]
  refine wpAnyH_take (i := 6) (v := ?_) rfl (by kernel_rfl) (by kernel_rfl) (by kernel_rfl) (fun _ _ _ h => h) (Or.inl ⟨by rfl, ?_⟩) (hS0) ?_
  rotate_left
  · (intro w hSw; obtain ⟨p1, p2, p3, p4, p5, p6⟩ := hSw; go_simp; try with_reducible rfl)
  simp only [Act.put, List.setIfInBounds_toArray, List.set_cons_zero, List.set_cons_succ]
  refine wpAnyH_take (i := 7) (v := ?_) rfl (by kernel_rfl) (by kernel_rfl) (by kernel_rfl) (fun _ _ _ h => h) (Or.inl ⟨by rfl, ?_⟩) (hS0) ?_
  rotate_left
  · (intro w hSw; obtain ⟨p1, p2, p3, p4, p5, p6⟩ := hSw; go_simp; try with_reducible rfl)
  simp only [Act.put, List.setIfInBounds_toArray, List.set_cons_zero, List.set_cons_succ]
  refine wpAnyH_take (i := 8) (v := ?_) rfl (by kernel_rfl) (by kernel_rfl) (by kernel_rfl) (fun _ _ _ h => h) (Or.inl ⟨by rfl, ?_⟩) (hS0) ?_
  rotate_left
  · (intro w hSw; obtain ⟨p1, p2, p3, p4, p5, p6⟩ := hSw; go_simp; try with_reducible rfl)
  simp only [Act.put, List.setIfInBounds_toArray, List.set_cons_zero, List.set_cons_succ]
  refine wpAnyH_take (i := 9) (v := ?_) rfl (by kernel_rfl) (by kernel_rfl) (by kernel_rfl) (fun _ _ _ h => h) (Or.inl ⟨by rfl, ?_⟩) (hS0) ?_
  rotate_left
  · (intro w hSw; obtain ⟨p1, p2, p3, p4, p5, p6⟩ := hSw; go_simp; try with_reducible rfl)
  simp only [Act.put, List.setIfInBounds_toArray, List.set_cons_zero, List.set_cons_succ]
  refine wpAnyH_done (by kernel_rfl) ?_ _
  refine Pop.before_normal ?_
  refine wpOp_step (i := 10) rfl (fun K' hK => ?_)
  go_simp
  refine hK _ _ ?_
  clear hS0 t0 t1 t2 t3
  have hneO : w1.heap.size ≠ g := by omega
  have hneL : w.heap.size + 1 ≠ g := by omega
  obtain ⟨W5, hW5⟩ : ∃ V, ((((W.setCell ⟨g, p * 4, none⟩ (.int .u64 e.h)).setCell ⟨g, p * 4 + 1, none⟩ (.int .u64 e.a)).setCell ⟨g, p * 4 + 2, none⟩ (.int .u64 e.v)).setCell ⟨g, p * 4 + 3, none⟩ (.int .u8 e.c)).drew = V := ⟨_, rfl⟩
  have HO4 : Hid (Blk W5 w1.heap.size [.int .u64 o.h, .int .u64 o.a, .int .u64 o.v, .int .u8 o.c] 27) := by rw [← hW5]; exact (HBO.out.other4 hneO _ _ _ _ _ _ _ _).drew
  have HL4 : Hid (Blk W5 (w.heap.size + 1) [.int .u64 0, .int .u64 0, .int .u64 0, .int .u8 0] 27) := by rw [← hW5]; exact (hd1.out.other4 hneL _ _ _ _ _ _ _ _).drew
  have HG5 : Hid (Blk W5 g (flat (L.set p e) ++ rest) 27) := by rw [← hW5]; exact (T.Blk.set4 HBW.out hpl e).drew
  have HK5 : Hid (Keep (fun k => k = g) W W5) := by rw [← hW5]; exact ((Keep.refl (fun k => k = g) _).set4 (fun _ => rfl) _ _ _ _ _ _ _ _).drew
  rw [hW5]
  clear hW5 hfr hglt z1 z3 z5 z7 a0 a1 a2 a3
  obtain ⟨o0, o1, o2, o3, o4, o5⟩ := HO4.out.four
  obtain ⟨l0, l1, l2, l3, l4, l5⟩ := HL4.out.four
  go_wp2
  refine bodyPost_ret (res_euv (e := o) rfl _ rfl rfl rfl (Blk.setE HL4.out o)) rfl ⟨rfl, ?_⟩
  refine writeB (X := fun k => k = w.heap.size + 1) HX.out HKW.out (by rw [HLI.out]; exact HV2.out.symm) (by rw [HLI.out]; exact HBW.out) HK5.out HG5.out (by rw [HLI.out]; simp) ((Keep.refl (fun k => k = w.heap.size + 1) _).set4 (fun _ => rfl) _ _ _ _ _ _ _ _) (fun k hk => by omega)

set_option maxRecDepth 100000 in
set_option maxHeartbeats 4000000 in
theorem rput_any (hX : RIdx w br ba vs most Ls) (hG : GoodL most Ls) (e : Ent) (hok : e.ok) :
    Calls Try.prog 32 #[ptr br, valE e] w fun e' w' => e' = .returned (.tuple #[valE ((xput most e Ls).1.getD z), .bool (xput most e Ls).1.isSome, .int .i64 (xput most e Ls).2.1]) ∧ RThen w w' (ptr br) most (xput most e Ls).2.2 (RFoot br ba vs) := by
  obtain ⟨hh, hh2, _⟩ := hok
  obtain ⟨s, p, n, v, L, S, HVV0⟩ := setup' hX hG e.h hh hh2
  have HVV := hid HVV0
  clear HVV0
  have hg : xget e.h Ls = lget e.h L := by unfold xget; rw [S.list]
  have hfind := S.find
  have HS := hid S
  have HB0 : Hid (Blk ((w.alloc (.cells #[.int .u64 e.h, .int .u64 e.a, .int .u64 e.v, .int .u8 e.c] 27)).alloc (.cells #[.int .u64 0, .int .u64 0, .int .u64 0, .int .u8 0] 27)) w.heap.size [.int .u64 e.h, .int .u64 e.a, .int .u64 e.v, .int .u8 e.c] 27) := (Blk.new' _ rfl).alloc _
  have HB1 : Hid (Blk ((w.alloc (.cells #[.int .u64 e.h, .int .u64 e.a, .int .u64 e.v, .int .u8 e.c] 27)).alloc (.cells #[.int .u64 0, .int .u64 0, .int .u64 0, .int .u8 0] 27)) (w.heap.size + 1) [.int .u64 0, .int .u64 0, .int .u64 0, .int .u8 0] 27) := Blk.new1 _ rfl
  by_cases ha : e.a = 0
  · have had : (e.a == 0) = true := by simpa using ha
    rw [xput_arg ha]
    clear hX S hg hfind ha
    unfold ptr valE
    obtain ⟨q1, d0, d1, d2, d3, g1⟩ := HB1.out.four
    go_enter Try.func32, Try.ntmps32
    go_wp2
    exact bodyPost_ret (res_euv (e := z) rfl _ rfl rfl rfl HB1.out) rfl ⟨rfl, HS.out.stays _ (((Keep.refl _ _).alloc _).alloc _)⟩
  · have had : (e.a == 0) = false := by simpa using ha
    cases hl : lget e.h L with
    | none =>
      rw [hl] at hfind
      simp only [Option.isSome_none] at hfind
      have hm16 := S.m16
      have hsm := S.small
      have i0 : (0 : Int) ≤ (s : Nat) := by have := S.hs; omega
      have i1 : (s : Int) < n := by have := S.hs; omega
      have hp16 := pow_le16 hm16
      obtain ⟨N, hN⟩ : ∃ N : Nat, 2 ^ most = N := ⟨_, rfl⟩
      rw [hN] at hp16
      have hp0 : (0 : Int) ≤ (N : Int) := by omega
      have hp1 : (N : Int) ≤ 65536 := by omega
      by_cases hf : 7 * N < 8 * (L.length + 1)
      · rw [xput_full S ha hl (by rw [hN]; exact hf)]
        have hfd : decide (7 * (N : Int) < 8 * ((L.length : Int) + 1)) = true := by simp; omega
        have h5 := shl_fits hN hp16
        clear hX S hg ha hl hf hG hN hp16
        unfold ptr valE
        go_enter Try.func32, Try.ntmps32
        go_wp2_with (go_at_call 59; refine (hfind _ (((Keep.refl _ _).alloc _).alloc _)).mono ?_; rintro e' w1 ⟨rfl, hk⟩; have HK := hid (Keep.trans (((Keep.refl No w).alloc _).alloc _) hk (fun _ _ h => h)); have hd := hid (HB1.out.mod hk (no _)); obtain ⟨q0, b0, b1, b2, b3, g0⟩ := hd.out.four; obtain ⟨q1, a0, a1, a2, a3, g1⟩ := (HB0.out.mod hk (no _)).four; obtain ⟨cap, y0, y1, y2, y3, y4, y5, y6, y7, y9⟩ := HS.out.opn _ HK.out; obtain ⟨va, vc, rfl⟩ : ∃ a c, v = .slice a L.length c := (by rcases y9 with ⟨rfl, rfl⟩ | ⟨g, rc, rest, rfl, _⟩; exact ⟨_, _, rfl⟩; exact ⟨_, _, rfl⟩); clear hk y9)
        go_quiet (fail)
        go_wp2
        exact bodyPost_ret (res_euv (e := z) rfl _ rfl rfl rfl (Blk.setE (hd.out.drewN _) z)) rfl ⟨rfl, HS.out.stays _ ((HK.out.drewN _).set4 (fun h => absurd h (by omega)) _ _ _ _ _ _ _ _)⟩
      · have hf' : ¬ 7 * 2 ^ most < 8 * (L.length + 1) := by rw [hN]; exact hf
        rw [xput_ins S ha hl hf']
        have hop := S.opn w (Keep.refl _ _)
        obtain ⟨_, _, _, _, _, _, _, _, _, hform⟩ := hop
        have hpl := S.hp
        have hsrc : ∀ W, Keep No w W → ∀ g rcap rest, v = .slice (some ⟨g, 0, none⟩) L.length rcap → Blk w g (flat L ++ rest) 27 → Blk W g (flat L ++ rest) 27 := fun W hW g rcap rest _ hb => hb.mod hW (no _)
        rcases hform with ⟨rfl, rfl⟩ | ⟨g, rcap, rest, rfl, hrc, hr63, hbg, _⟩
        · obtain rfl : p = 0 := by simpa using hpl
          exact rput_ins S ha hl hf' nilS nilS (fun W => by unfold nilS; go_simp) (fun W => by unfold nilS; go_simp) (fun W hW => .inl ⟨rfl, rfl, rfl⟩) (fun W hW => .inl ⟨rfl, rfl, rfl⟩)
        · have h1 : (0 : Int) ≤ p := by omega
          have h2 : (p : Int) ≤ rcap := by omega
          have h3 : (p : Int) ≤ L.length := by omega
          have h4 : (L.length : Int) ≤ rcap := by omega
          have hy1 : ∀ W, Keep No w W → Src W (.slice (some ⟨g, 0, none⟩) p rcap) p (flat (L.take p)) := fun W hW => .inr ⟨_, _, rfl, fun j u hu => by
            rw [add_at, Nat.zero_add, (hbg.mod hW (no _)).cell]
            have hj : j < (flat (L.take p)).length := (List.getElem?_eq_some_iff.1 hu).1
            have hsp : flat L = flat (L.take p) ++ flat (L.drop p) := by unfold flat; rw [← List.flatMap_append, List.take_append_drop]
            rw [hsp, List.append_assoc, List.getElem?_append_left hj]
            exact hu⟩
          by_cases hrp : rcap = p
          · have hd : L.drop p = [] := List.drop_eq_nil_of_le (by omega)
            refine rput_ins S ha hl hf' (.slice (some ⟨g, 0, none⟩) p rcap) (.slice (some ⟨g, 0, none⟩) (L.length - p) (rcap - p)) (fun W => by go_simp) (fun W => by subst hrp; go_simp) hy1 (fun W hW => .inr ⟨_, _, rfl, fun j u hu => ?_⟩)
            rw [hd] at hu
            cases hu
          · refine rput_ins S ha hl hf' (.slice (some ⟨g, 0, none⟩) p rcap) (.slice (some ⟨g, p * 4, none⟩) (L.length - p) (rcap - p)) (fun W => by go_simp) (fun W => by go_simp) hy1 (fun W hW => .inr ⟨_, _, rfl, fun j u hu => ?_⟩)
            rw [add_at, (hbg.mod hW (no _)).cell]
            have hj : j < (flat (L.drop p)).length := (List.getElem?_eq_some_iff.1 hu).1
            have hsp : flat L = flat (L.take p) ++ flat (L.drop p) := by unfold flat; rw [← List.flatMap_append, List.take_append_drop]
            have hl : (flat (L.take p)).length = p * 4 := by rw [flat_length, List.length_take]; omega
            rw [hsp, List.append_assoc, List.getElem?_append_right (by omega), List.getElem?_append_left (by omega), hl, Nat.add_sub_cancel_left]
            exact hu
    | some o =>
      rw [hl] at hfind
      simp only [Option.isSome_some] at hfind
      obtain ⟨hpl, ho⟩ := S.found o hl
      have i0 : (0 : Int) ≤ (s : Nat) := by omega
      have i1 : (s : Int) < n := by have := S.hs; omega
      have i2 : (0 : Int) ≤ (p : Nat) := by omega
      have i3 : (p : Int) < L.length := by omega
      have HO := hid ho
      by_cases hv : e.v < o.v
      · rw [xput_older ha (hg.trans hl) hv]
        have hvd : decide (e.v < o.v) = true := by simpa using hv
        clear hX S hg ha hl hG ho hv
        unfold ptr valE
        go_enter Try.func32, Try.ntmps32
        go_wp2_with (go_at_call 59; refine (hfind _ (((Keep.refl _ _).alloc _).alloc _)).mono ?_; rintro e' w1 ⟨rfl, hk⟩; have HK := hid (Keep.trans (((Keep.refl No w).alloc _).alloc _) hk (fun _ _ h => h)); have hd := hid (HB1.out.mod hk (no _)); obtain ⟨q0, b0, b1, b2, b3, g0⟩ := hd.out.four; obtain ⟨q1, a0, a1, a2, a3, g1⟩ := (HB0.out.mod hk (no _)).four; obtain ⟨cap, y0, y1, y2, y3, y4, y5, y6, y7, y9⟩ := HS.out.opn _ HK.out; obtain ⟨g, rcap, rest, rfl, y10, y11, hbg, y12, y13, y14, y15⟩ := y9.resolve_left (fun e => by rw [e.2] at hpl; exact absurd hpl (Nat.not_lt_zero _)); obtain ⟨s0, s1, s2, s3⟩ := slot hbg hpl; rw [HO.out] at s0 s1 s2 s3; clear hk hbg y9 y11)
        exact bodyPost_ret (res_euv (e := z) rfl _ rfl rfl rfl ((Blk.setE hd.out z).alloc _)) rfl ⟨rfl, HS.out.stays _ ((HK.out.set4 (fun h => absurd h (by omega)) _ _ _ _ _ _ _ _).alloc _)⟩
      · rw [xput_set S ha hl hv]
        exact rput_set hX S HVV.out ha hl hv
end
end Go.Proofs.Ytaijfgajcmopfaa.Y14
/- A call of both indexes, kind by kind. -/
set_option linter.unusedVariables false
set_option linter.unusedSimpArgs false
namespace Go.Proofs.Ytaijfgajcmopfaa.Z2
open Go.RowKit Go.Shelf V Rh T W1 W2 W3 W4 W6 Rf X1 X2 X3 X4 X5 X6 X7 Pl Y1 Y2 Y3 Y4 Y5 Y6 Y7 Y8 Y9 Y14 Ap Z1
attribute [local go_sem] Oper.semAt_some
attribute [local go_sem ↓] Go.wp_at_zero Go.wp_at_succ

theorem cells8 {w : World} {b : Nat} {o : Opr} {t : TypeId} (h : Blk w b (cellsO o) t) : b < w.heap.size ∧ w.cell? ⟨b, 0, none⟩ = some (.int .i64 o.k) ∧ w.cell? ⟨b, 1, none⟩ = some (.int .u64 o.e.h) ∧ w.cell? ⟨b, 2, none⟩ = some (.int .u64 o.e.a) ∧ w.cell? ⟨b, 3, none⟩ = some (.int .u64 o.e.v) ∧ w.cell? ⟨b, 4, none⟩ = some (.int .u8 o.e.c) ∧ w.cell? ⟨b, 5, none⟩ = some (.int .u64 o.at') ∧ w.cell? ⟨b, 6, none⟩ = some (.int .i64 o.n) ∧ w.cell? ⟨b, 7, none⟩ = some (.int .i64 o.m) ∧ (∀ i, w.frozen? ⟨b, i, none⟩ = false) :=
  ⟨h.lt, h.cell 0, h.cell 1, h.cell 2, h.cell 3, h.cell 4, h.cell 5, h.cell 6, h.cell 7, h.frozen⟩

abbrev SO (V : World) (b : Nat) (o : Opr) : Prop := V.cell? ⟨b, 0, none⟩ = some (.int .i64 o.k) ∧ V.cell? ⟨b, 1, none⟩ = some (.int .u64 o.e.h) ∧ V.cell? ⟨b, 2, none⟩ = some (.int .u64 o.e.a) ∧ V.cell? ⟨b, 5, none⟩ = some (.int .u64 o.at') ∧ V.cell? ⟨b, 6, none⟩ = some (.int .i64 o.n) ∧ V.cell? ⟨b, 7, none⟩ = some (.int .i64 o.m)
theorem cells8S {w : World} {b : Nat} {o : Opr} {t : TypeId} (h : Blk w b (cellsO o) t) : SO w b o :=
  ⟨h.cell 0, h.cell 1, h.cell 2, h.cell 5, h.cell 6, h.cell 7⟩


set_option maxRecDepth 100000 in
set_option maxHeartbeats 2000000 in
theorem does_removeIf {w : World} {p q : Value} {most : Nat} {Ls Ls' : List (List Ent)} {F G : Nat → Prop} (hB : Both w p q most Ls F G) (o : Opr) (b : Bool)
    (hA : ∀ W, Keep No w W → Calls Try.prog 23 #[p, .int .u64 o.e.h, .int .u64 o.at'] W fun e w' => e = .returned (.bool b) ∧ Then W w' p most Ls' F)
    (hR : ∀ W, Keep F w W → Calls Try.prog 36 #[q, .int .u64 o.e.h, .int .u64 o.at'] W fun e w' => e = .returned (.bool b) ∧ RThen W w' q most Ls' G) (hk : o.k = 3) :
    Calls Try.prog 14 #[p, q, valO o] w fun e w' => e = .returned (.bool true) ∧ BThen w w' p q most Ls' F G := by
  have HB := hid hB
  have hlt := hB.lt
  have HO : Hid (Blk (w.alloc (.cells #[.int .i64 3, .int .u64 o.e.h, .int .u64 o.e.a, .int .u64 o.e.v, .int .u8 o.e.c, .int .u64 o.at', .int .i64 o.n, .int .i64 o.m] 29)) w.heap.size (cellsO o) 29) := Blk.new' _ (by unfold cellsO; rw [hk])
  have nF : ¬ F w.heap.size := fun h => by have := hlt _ (.inl h); omega
  have nG : ¬ G w.heap.size := fun h => by have := hlt _ (.inr h); omega
  have HA := hid hA
  have HR := hid hR
  have HK : Hid (Keep No w (w.alloc (.cells #[.int .i64 3, .int .u64 o.e.h, .int .u64 o.e.a, .int .u64 o.e.v, .int .u8 o.e.c, .int .u64 o.at', .int .i64 o.n, .int .i64 o.m] 29))) := (Keep.refl _ _).alloc _
  obtain ⟨z0, c0, c1, c2, c3, c4, c5, c6, c7, _⟩ := cells8 HO.out
  rw [hk] at c0
  clear hB hA hR hlt
  unfold valO
  go_enter Try.func14, Try.ntmps14
  go_wp2
  clear c0 c1 c2 c3 c4 c5 c6 c7
  obtain ⟨W, hW⟩ : ∃ W, w.alloc (.cells #[.int .i64 3, .int .u64 o.e.h, .int .u64 o.e.a, .int .u64 o.e.v, .int .u8 o.e.c, .int .u64 o.at', .int .i64 o.n, .int .i64 o.m] 29) = W := ⟨_, rfl⟩
  rw [hW] at HO HK z0 ⊢
  clear hW
  have S1 : Hid (∀ V, Blk V w.heap.size (cellsO o) 29 → SO V w.heap.size o) := fun V h => cells8S h
  go_region_held3 (fun V => V.cell? ⟨w.heap.size, 0, none⟩ = some (.int .i64 o.k) ∧ V.cell? ⟨w.heap.size, 1, none⟩ = some (.int .u64 o.e.h) ∧ V.cell? ⟨w.heap.size, 2, none⟩ = some (.int .u64 o.e.a) ∧ V.cell? ⟨w.heap.size, 5, none⟩ = some (.int .u64 o.at') ∧ V.cell? ⟨w.heap.size, 6, none⟩ = some (.int .i64 o.n) ∧ V.cell? ⟨w.heap.size, 7, none⟩ = some (.int .i64 o.m)) (first | exact S1.out _ HO.out.drew | exact S1.out _ hS1 | exact S1.out _ hS2)
    (first | (go_at_call 23; refine (HA.out _ HK.out.drew).mono ?_; rintro e w1 ⟨rfl, hT⟩; have hS1 := HO.out.drew.mod hT.1 nF; have HT := hid hT; have HK1 := hid (((HK.out.drew.mono (fun _ _ e => e.elim)).trans hT.1 (fun _ _ e => e) : Keep F w w1)); clear hT) | (go_at_call 36; refine (HR.out _ HK1.out).mono ?_; rintro e w2 ⟨rfl, hR2⟩; have hS2 := hS1.mod hR2.1 nG; have HR2 := hid hR2; clear hR2))
  go_wp2
  go_ret
  exact ⟨rfl, HB.out.ab (Then.pre HK.out.drew HT.out) HR2.out⟩



set_option maxRecDepth 100000 in
set_option maxHeartbeats 2000000 in
theorem does_move {w : World} {p q : Value} {most : Nat} {Ls Ls' : List (List Ent)} {F G : Nat → Prop} (hB : Both w p q most Ls F G) (o : Opr) (b : Bool)
    (hA : ∀ W, Keep No w W → Calls Try.prog 24 #[p, .int .u64 o.e.h, .int .u64 o.at', .int .u64 o.e.a] W fun e w' => e = .returned (.bool b) ∧ Then W w' p most Ls' F)
    (hR : ∀ W, Keep F w W → Calls Try.prog 37 #[q, .int .u64 o.e.h, .int .u64 o.at', .int .u64 o.e.a] W fun e w' => e = .returned (.bool b) ∧ RThen W w' q most Ls' G) (hk : o.k = 4) :
    Calls Try.prog 14 #[p, q, valO o] w fun e w' => e = .returned (.bool true) ∧ BThen w w' p q most Ls' F G := by
  have HB := hid hB
  have hlt := hB.lt
  have HO : Hid (Blk (w.alloc (.cells #[.int .i64 4, .int .u64 o.e.h, .int .u64 o.e.a, .int .u64 o.e.v, .int .u8 o.e.c, .int .u64 o.at', .int .i64 o.n, .int .i64 o.m] 29)) w.heap.size (cellsO o) 29) := Blk.new' _ (by unfold cellsO; rw [hk])
  have nF : ¬ F w.heap.size := fun h => by have := hlt _ (.inl h); omega
  have nG : ¬ G w.heap.size := fun h => by have := hlt _ (.inr h); omega
  have HA := hid hA
  have HR := hid hR
  have HK : Hid (Keep No w (w.alloc (.cells #[.int .i64 4, .int .u64 o.e.h, .int .u64 o.e.a, .int .u64 o.e.v, .int .u8 o.e.c, .int .u64 o.at', .int .i64 o.n, .int .i64 o.m] 29))) := (Keep.refl _ _).alloc _
  obtain ⟨z0, c0, c1, c2, c3, c4, c5, c6, c7, _⟩ := cells8 HO.out
  rw [hk] at c0
  clear hB hA hR hlt
  unfold valO
  go_enter Try.func14, Try.ntmps14
  go_wp2
  clear c0 c1 c2 c3 c4 c5 c6 c7
  obtain ⟨W, hW⟩ : ∃ W, w.alloc (.cells #[.int .i64 4, .int .u64 o.e.h, .int .u64 o.e.a, .int .u64 o.e.v, .int .u8 o.e.c, .int .u64 o.at', .int .i64 o.n, .int .i64 o.m] 29) = W := ⟨_, rfl⟩
  rw [hW] at HO HK z0 ⊢
  clear hW
  have S1 : Hid (∀ V, Blk V w.heap.size (cellsO o) 29 → SO V w.heap.size o) := fun V h => cells8S h
  go_region_held3 (fun V => V.cell? ⟨w.heap.size, 0, none⟩ = some (.int .i64 o.k) ∧ V.cell? ⟨w.heap.size, 1, none⟩ = some (.int .u64 o.e.h) ∧ V.cell? ⟨w.heap.size, 2, none⟩ = some (.int .u64 o.e.a) ∧ V.cell? ⟨w.heap.size, 5, none⟩ = some (.int .u64 o.at') ∧ V.cell? ⟨w.heap.size, 6, none⟩ = some (.int .i64 o.n) ∧ V.cell? ⟨w.heap.size, 7, none⟩ = some (.int .i64 o.m)) (first | exact S1.out _ HO.out.drew | exact S1.out _ hS1 | exact S1.out _ hS2)
    (first | (go_at_call 24; refine (HA.out _ HK.out.drew).mono ?_; rintro e w1 ⟨rfl, hT⟩; have hS1 := HO.out.drew.mod hT.1 nF; have HT := hid hT; have HK1 := hid (((HK.out.drew.mono (fun _ _ e => e.elim)).trans hT.1 (fun _ _ e => e) : Keep F w w1)); clear hT) | (go_at_call 37; refine (HR.out _ HK1.out).mono ?_; rintro e w2 ⟨rfl, hR2⟩; have hS2 := hS1.mod hR2.1 nG; have HR2 := hid hR2; clear hR2))
  go_wp2
  go_ret
  exact ⟨rfl, HB.out.ab (Then.pre HK.out.drew HT.out) HR2.out⟩



set_option maxRecDepth 100000 in
set_option maxHeartbeats 2000000 in
theorem does_hit {w : World} {p q : Value} {most : Nat} {Ls Ls' : List (List Ent)} {F G : Nat → Prop} (hB : Both w p q most Ls F G) (o : Opr) (b : Bool)
    (hA : ∀ W, Keep No w W → Calls Try.prog 25 #[p, .int .u64 o.e.h] W fun e w' => e = .returned (.bool b) ∧ Then W w' p most Ls' F)
    (hR : ∀ W, Keep F w W → Calls Try.prog 38 #[q, .int .u64 o.e.h] W fun e w' => e = .returned (.bool b) ∧ RThen W w' q most Ls' G) (hk : o.k = 5) :
    Calls Try.prog 14 #[p, q, valO o] w fun e w' => e = .returned (.bool true) ∧ BThen w w' p q most Ls' F G := by
  have HB := hid hB
  have hlt := hB.lt
  have HO : Hid (Blk (w.alloc (.cells #[.int .i64 5, .int .u64 o.e.h, .int .u64 o.e.a, .int .u64 o.e.v, .int .u8 o.e.c, .int .u64 o.at', .int .i64 o.n, .int .i64 o.m] 29)) w.heap.size (cellsO o) 29) := Blk.new' _ (by unfold cellsO; rw [hk])
  have nF : ¬ F w.heap.size := fun h => by have := hlt _ (.inl h); omega
  have nG : ¬ G w.heap.size := fun h => by have := hlt _ (.inr h); omega
  have HA := hid hA
  have HR := hid hR
  have HK : Hid (Keep No w (w.alloc (.cells #[.int .i64 5, .int .u64 o.e.h, .int .u64 o.e.a, .int .u64 o.e.v, .int .u8 o.e.c, .int .u64 o.at', .int .i64 o.n, .int .i64 o.m] 29))) := (Keep.refl _ _).alloc _
  obtain ⟨z0, c0, c1, c2, c3, c4, c5, c6, c7, _⟩ := cells8 HO.out
  rw [hk] at c0
  clear hB hA hR hlt
  unfold valO
  go_enter Try.func14, Try.ntmps14
  go_wp2
  clear c0 c1 c2 c3 c4 c5 c6 c7
  obtain ⟨W, hW⟩ : ∃ W, w.alloc (.cells #[.int .i64 5, .int .u64 o.e.h, .int .u64 o.e.a, .int .u64 o.e.v, .int .u8 o.e.c, .int .u64 o.at', .int .i64 o.n, .int .i64 o.m] 29) = W := ⟨_, rfl⟩
  rw [hW] at HO HK z0 ⊢
  clear hW
  have S1 : Hid (∀ V, Blk V w.heap.size (cellsO o) 29 → SO V w.heap.size o) := fun V h => cells8S h
  go_region_held3 (fun V => V.cell? ⟨w.heap.size, 0, none⟩ = some (.int .i64 o.k) ∧ V.cell? ⟨w.heap.size, 1, none⟩ = some (.int .u64 o.e.h) ∧ V.cell? ⟨w.heap.size, 2, none⟩ = some (.int .u64 o.e.a) ∧ V.cell? ⟨w.heap.size, 5, none⟩ = some (.int .u64 o.at') ∧ V.cell? ⟨w.heap.size, 6, none⟩ = some (.int .i64 o.n) ∧ V.cell? ⟨w.heap.size, 7, none⟩ = some (.int .i64 o.m)) (first | exact S1.out _ HO.out.drew | exact S1.out _ hS1 | exact S1.out _ hS2)
    (first | (go_at_call 25; refine (HA.out _ HK.out.drew).mono ?_; rintro e w1 ⟨rfl, hT⟩; have hS1 := HO.out.drew.mod hT.1 nF; have HT := hid hT; have HK1 := hid (((HK.out.drew.mono (fun _ _ e => e.elim)).trans hT.1 (fun _ _ e => e) : Keep F w w1)); clear hT) | (go_at_call 38; refine (HR.out _ HK1.out).mono ?_; rintro e w2 ⟨rfl, hR2⟩; have hS2 := hS1.mod hR2.1 nG; have HR2 := hid hR2; clear hR2))
  go_wp2
  go_ret
  exact ⟨rfl, HB.out.ab (Then.pre HK.out.drew HT.out) HR2.out⟩



set_option maxRecDepth 100000 in
set_option maxHeartbeats 2000000 in
theorem does_purge {w : World} {p q : Value} {most : Nat} {Ls Ls' : List (List Ent)} {F G : Nat → Prop} (hB : Both w p q most Ls F G) (o : Opr) (c : Int)
    (hA : ∀ W, Keep No w W → Calls Try.prog 12 #[p, .int .i64 o.n, .int .i64 o.m] W fun e w' => e = .returned (.int .i64 c) ∧ Then W w' p most Ls' F)
    (hR : ∀ W, Keep F w W → Calls Try.prog 39 #[q, .int .i64 o.n, .int .i64 o.m] W fun e w' => e = .returned (.int .i64 c) ∧ RThen W w' q most Ls' G) (hk : o.k = 6) :
    Calls Try.prog 14 #[p, q, valO o] w fun e w' => e = .returned (.bool true) ∧ BThen w w' p q most Ls' F G := by
  have HB := hid hB
  have hlt := hB.lt
  have HO : Hid (Blk (w.alloc (.cells #[.int .i64 6, .int .u64 o.e.h, .int .u64 o.e.a, .int .u64 o.e.v, .int .u8 o.e.c, .int .u64 o.at', .int .i64 o.n, .int .i64 o.m] 29)) w.heap.size (cellsO o) 29) := Blk.new' _ (by unfold cellsO; rw [hk])
  have nF : ¬ F w.heap.size := fun h => by have := hlt _ (.inl h); omega
  have nG : ¬ G w.heap.size := fun h => by have := hlt _ (.inr h); omega
  have HA := hid hA
  have HR := hid hR
  have HK : Hid (Keep No w (w.alloc (.cells #[.int .i64 6, .int .u64 o.e.h, .int .u64 o.e.a, .int .u64 o.e.v, .int .u8 o.e.c, .int .u64 o.at', .int .i64 o.n, .int .i64 o.m] 29))) := (Keep.refl _ _).alloc _
  obtain ⟨z0, c0, c1, c2, c3, c4, c5, c6, c7, _⟩ := cells8 HO.out
  rw [hk] at c0
  clear hB hA hR hlt
  unfold valO
  go_enter Try.func14, Try.ntmps14
  go_wp2
  clear c0 c1 c2 c3 c4 c5 c6 c7
  obtain ⟨W, hW⟩ : ∃ W, w.alloc (.cells #[.int .i64 6, .int .u64 o.e.h, .int .u64 o.e.a, .int .u64 o.e.v, .int .u8 o.e.c, .int .u64 o.at', .int .i64 o.n, .int .i64 o.m] 29) = W := ⟨_, rfl⟩
  rw [hW] at HO HK z0 ⊢
  clear hW
  have S1 : Hid (∀ V, Blk V w.heap.size (cellsO o) 29 → SO V w.heap.size o) := fun V h => cells8S h
  go_region_held3 (fun V => V.cell? ⟨w.heap.size, 0, none⟩ = some (.int .i64 o.k) ∧ V.cell? ⟨w.heap.size, 1, none⟩ = some (.int .u64 o.e.h) ∧ V.cell? ⟨w.heap.size, 2, none⟩ = some (.int .u64 o.e.a) ∧ V.cell? ⟨w.heap.size, 5, none⟩ = some (.int .u64 o.at') ∧ V.cell? ⟨w.heap.size, 6, none⟩ = some (.int .i64 o.n) ∧ V.cell? ⟨w.heap.size, 7, none⟩ = some (.int .i64 o.m)) (first | exact S1.out _ HO.out.drew | exact S1.out _ hS1 | exact S1.out _ hS2)
    (first | (go_at_call 12; refine (HA.out _ HK.out.drew).mono ?_; rintro e w1 ⟨rfl, hT⟩; have hS1 := HO.out.drew.mod hT.1 nF; have HT := hid hT; have HK1 := hid (((HK.out.drew.mono (fun _ _ e => e.elim)).trans hT.1 (fun _ _ e => e) : Keep F w w1)); clear hT) | (go_at_call 39; refine (HR.out _ HK1.out).mono ?_; rintro e w2 ⟨rfl, hR2⟩; have hS2 := hS1.mod hR2.1 nG; have HR2 := hid hR2; clear hR2))
  go_wp2
  go_ret
  exact ⟨rfl, HB.out.ab (Then.pre HK.out.drew HT.out) HR2.out⟩



set_option maxRecDepth 100000 in
set_option maxHeartbeats 2000000 in
theorem does_put {w : World} {p q : Value} {most : Nat} {Ls Ls' : List (List Ent)} {F G : Nat → Prop} (hB : Both w p q most Ls F G) (o : Opr) (eo : Ent) (b : Bool) (err : Int)
    (hA : ∀ W, Keep No w W → Calls Try.prog 21 #[p, valE o.e] W fun e w' => e = .returned (.tuple #[valE eo, .bool b, .int .i64 err]) ∧ Then W w' p most Ls' F)
    (hR : ∀ W, Keep F w W → Calls Try.prog 32 #[q, valE o.e] W fun e w' => e = .returned (.tuple #[valE eo, .bool b, .int .i64 err]) ∧ RThen W w' q most Ls' G) (hk : o.k = 0) :
    Calls Try.prog 14 #[p, q, valO o] w fun e w' => e = .returned (.bool true) ∧ BThen w w' p q most Ls' F G := by
  have HB := hid hB
  have hlt := hB.lt
  have HO : Hid (Blk (w.alloc (.cells #[.int .i64 0, .int .u64 o.e.h, .int .u64 o.e.a, .int .u64 o.e.v, .int .u8 o.e.c, .int .u64 o.at', .int .i64 o.n, .int .i64 o.m] 29)) w.heap.size (cellsO o) 29) := Blk.new' _ (by unfold cellsO; rw [hk])
  have nF : ¬ F w.heap.size := fun h => by have := hlt _ (.inl h); omega
  have nG : ¬ G w.heap.size := fun h => by have := hlt _ (.inr h); omega
  have HA := hid hA
  have HR := hid hR
  have HK : Hid (Keep No w (w.alloc (.cells #[.int .i64 0, .int .u64 o.e.h, .int .u64 o.e.a, .int .u64 o.e.v, .int .u8 o.e.c, .int .u64 o.at', .int .i64 o.n, .int .i64 o.m] 29))) := (Keep.refl _ _).alloc _
  obtain ⟨z0, c0, c1, c2, c3, c4, c5, c6, c7, _⟩ := cells8 HO.out
  rw [hk] at c0
  clear hB hA hR hlt
  unfold valO
  go_enter Try.func14, Try.ntmps14
  go_wp2_with fail
  clear c0 c1 c2 c3 c4 c5 c6 c7
  obtain ⟨W, hW⟩ : ∃ W, w.alloc (.cells #[.int .i64 0, .int .u64 o.e.h, .int .u64 o.e.a, .int .u64 o.e.v, .int .u8 o.e.c, .int .u64 o.at', .int .i64 o.n, .int .i64 o.m] 29) = W := ⟨_, rfl⟩
  rw [hW] at HO HK z0 ⊢
  clear hW
  have CE : ∀ (W : World) (e : Ent), Blk (W.alloc (.cells #[.int .u64 e.h, .int .u64 e.a, .int .u64 e.v, .int .u8 e.c] 27)) W.heap.size [.int .u64 e.h, .int .u64 e.a, .int .u64 e.v, .int .u8 e.c] 27 := fun W e => Blk.new' _ rfl
  have HCE := hid CE
  clear CE
  unfold valE at *
  obtain ⟨z0, c0, c1, c2, c3, c4, c5, c6, c7, _⟩ := cells8 HO.out
  refine (HA.out _ HK.out).mono ?_
  rintro e w1 ⟨rfl, hT⟩
  obtain ⟨z1, d0, d1, d2, d3, d4, d5, d6, d7, _⟩ := cells8 (HO.out.mod hT.1 nF)
  have HT := hid hT
  have HK1 := hid (((HK.out.mono (fun _ _ e => e.elim)).trans hT.1 (fun _ _ e => e) : Keep F w w1))
  have nG1 : ¬ G w1.heap.size := fun h => by have := HB.out.lt _ (.inr h); omega
  clear hT c0 c1 c2 c3 c4 c5 c6 c7
  go_wp2_with fail
  refine (HR.out _ (HK1.out.alloc _)).mono ?_
  rintro e w2 ⟨rfl, hR2⟩
  obtain ⟨z2, e0, e1, e2, e3, _⟩ := ((HCE.out w1 eo).mod hR2.1 nG1).four
  have HR2 := hid hR2
  clear hR2 d0 d1 d2 d3 d4 d5 d6 d7
  go_wp2
  go_ret
  exact ⟨rfl, HB.out.ab (Then.post (Then.pre HK.out HT.out) ((Keep.refl _ _).alloc _)) (RThen.post HR2.out ((Keep.refl _ _).alloc _))⟩



set_option maxRecDepth 100000 in
set_option maxHeartbeats 2000000 in
theorem does_remove {w : World} {p q : Value} {most : Nat} {Ls Ls' : List (List Ent)} {F G : Nat → Prop} (hB : Both w p q most Ls F G) (o : Opr) (eo : Ent) (b : Bool)
    (hA : ∀ W, Keep No w W → Calls Try.prog 22 #[p, .int .u64 o.e.h] W fun e w' => e = .returned (.tuple #[valE eo, .bool b]) ∧ Then W w' p most Ls' F)
    (hR : ∀ W, Keep F w W → Calls Try.prog 35 #[q, .int .u64 o.e.h] W fun e w' => e = .returned (.tuple #[valE eo, .bool b]) ∧ RThen W w' q most Ls' G) (hk : o.k = 2) :
    Calls Try.prog 14 #[p, q, valO o] w fun e w' => e = .returned (.bool true) ∧ BThen w w' p q most Ls' F G := by
  have HB := hid hB
  have hlt := hB.lt
  have HO : Hid (Blk (w.alloc (.cells #[.int .i64 2, .int .u64 o.e.h, .int .u64 o.e.a, .int .u64 o.e.v, .int .u8 o.e.c, .int .u64 o.at', .int .i64 o.n, .int .i64 o.m] 29)) w.heap.size (cellsO o) 29) := Blk.new' _ (by unfold cellsO; rw [hk])
  have nF : ¬ F w.heap.size := fun h => by have := hlt _ (.inl h); omega
  have nG : ¬ G w.heap.size := fun h => by have := hlt _ (.inr h); omega
  have HA := hid hA
  have HR := hid hR
  have HK : Hid (Keep No w (w.alloc (.cells #[.int .i64 2, .int .u64 o.e.h, .int .u64 o.e.a, .int .u64 o.e.v, .int .u8 o.e.c, .int .u64 o.at', .int .i64 o.n, .int .i64 o.m] 29))) := (Keep.refl _ _).alloc _
  obtain ⟨z0, c0, c1, c2, c3, c4, c5, c6, c7, _⟩ := cells8 HO.out
  rw [hk] at c0
  clear hB hA hR hlt
  unfold valO
  go_enter Try.func14, Try.ntmps14
  go_wp2_with fail
  clear c0 c1 c2 c3 c4 c5 c6 c7
  obtain ⟨W, hW⟩ : ∃ W, w.alloc (.cells #[.int .i64 2, .int .u64 o.e.h, .int .u64 o.e.a, .int .u64 o.e.v, .int .u8 o.e.c, .int .u64 o.at', .int .i64 o.n, .int .i64 o.m] 29) = W := ⟨_, rfl⟩
  rw [hW] at HO HK z0 ⊢
  clear hW
  have CE : ∀ (W : World) (e : Ent), Blk (W.alloc (.cells #[.int .u64 e.h, .int .u64 e.a, .int .u64 e.v, .int .u8 e.c] 27)) W.heap.size [.int .u64 e.h, .int .u64 e.a, .int .u64 e.v, .int .u8 e.c] 27 := fun W e => Blk.new' _ rfl
  have HCE := hid CE
  clear CE
  unfold valE at *
  obtain ⟨z0, c0, c1, c2, c3, c4, c5, c6, c7, _⟩ := cells8 HO.out
  refine (HA.out _ HK.out).mono ?_
  rintro e w1 ⟨rfl, hT⟩
  obtain ⟨z1, d0, d1, d2, d3, d4, d5, d6, d7, _⟩ := cells8 (HO.out.mod hT.1 nF)
  have HT := hid hT
  have HK1 := hid (((HK.out.mono (fun _ _ e => e.elim)).trans hT.1 (fun _ _ e => e) : Keep F w w1))
  have nG1 : ¬ G w1.heap.size := fun h => by have := HB.out.lt _ (.inr h); omega
  clear hT c0 c1 c2 c3 c4 c5 c6 c7
  go_wp2_with fail
  refine (HR.out _ (HK1.out.alloc _)).mono ?_
  rintro e w2 ⟨rfl, hR2⟩
  obtain ⟨z2, e0, e1, e2, e3, _⟩ := ((HCE.out w1 eo).mod hR2.1 nG1).four
  have HR2 := hid hR2
  clear hR2 d0 d1 d2 d3 d4 d5 d6 d7
  go_wp2
  go_ret
  exact ⟨rfl, HB.out.ab (Then.post (Then.pre HK.out HT.out) ((Keep.refl _ _).alloc _)) (RThen.post HR2.out ((Keep.refl _ _).alloc _))⟩



set_option maxRecDepth 100000 in
set_option maxHeartbeats 2000000 in
theorem does_get {w : World} {p q : Value} (o : Opr) (eo : Ent) (b : Bool) (s : Int)
    (hA : ∀ W, Keep No w W → Calls Try.prog 26 #[p, .int .u64 o.e.h] W fun e w' => e = .returned (.tuple #[valE eo, .bool b]) ∧ Keep No W w')
    (hR : ∀ W, Keep No w W → Calls Try.prog 33 #[q, .int .u64 o.e.h] W fun e w' => e = .returned (.tuple #[valE eo, .bool b]) ∧ Keep No W w')
    (hS : ∀ W, Keep No w W → Calls Try.prog 20 #[p, .int .u64 o.e.h] W fun e w' => e = .returned (.int .i64 s) ∧ W = w')
    (hT : ∀ W, Keep No w W → Calls Try.prog 34 #[q, .int .u64 o.e.h] W fun e w' => e = .returned (.int .i64 s) ∧ W = w') (hk : o.k = 1) :
    Calls Try.prog 14 #[p, q, valO o] w fun e w' => e = .returned (.bool true) ∧ Keep No w w' := by
  have HO : Hid (Blk (w.alloc (.cells #[.int .i64 1, .int .u64 o.e.h, .int .u64 o.e.a, .int .u64 o.e.v, .int .u8 o.e.c, .int .u64 o.at', .int .i64 o.n, .int .i64 o.m] 29)) w.heap.size (cellsO o) 29) := Blk.new' _ (by unfold cellsO; rw [hk])
  have HK : Hid (Keep No w (w.alloc (.cells #[.int .i64 1, .int .u64 o.e.h, .int .u64 o.e.a, .int .u64 o.e.v, .int .u8 o.e.c, .int .u64 o.at', .int .i64 o.n, .int .i64 o.m] 29))) := (Keep.refl _ _).alloc _
  obtain ⟨z0, c0, c1, c2, c3, c4, c5, c6, c7, _⟩ := cells8 HO.out
  have HA := hid hA; have HR := hid hR; have HS := hid hS; have HT := hid hT; clear hA hR hS hT
  rw [hk] at c0
  unfold valO
  go_enter Try.func14, Try.ntmps14
  go_wp2_with fail
  clear c0 c1 c2 c3 c4 c5 c6 c7
  obtain ⟨W, hW⟩ : ∃ W, w.alloc (.cells #[.int .i64 1, .int .u64 o.e.h, .int .u64 o.e.a, .int .u64 o.e.v, .int .u8 o.e.c, .int .u64 o.at', .int .i64 o.n, .int .i64 o.m] 29) = W := ⟨_, rfl⟩
  rw [hW] at HO HK z0 ⊢
  clear hW
  have CE : ∀ (W : World) (e : Ent), Blk (W.alloc (.cells #[.int .u64 e.h, .int .u64 e.a, .int .u64 e.v, .int .u8 e.c] 27)) W.heap.size [.int .u64 e.h, .int .u64 e.a, .int .u64 e.v, .int .u8 e.c] 27 := fun W e => Blk.new' _ rfl
  have HCE := hid CE
  clear CE
  unfold valE at *
  refine (HA.out _ HK.out).mono ?_
  rintro e w1 ⟨rfl, hT⟩
  have hO1 := HO.out.mod hT (no _)
  have HO1 := hid hO1
  obtain ⟨z1, d0, d1, d2, d3, d4, d5, d6, d7, _⟩ := cells8 hO1
  have HK1 := hid (HK.out.trans hT (fun _ _ e => e))
  clear hT hO1
  go_wp2_with fail
  refine (HR.out _ (HK1.out.alloc _)).mono ?_
  rintro e w2 ⟨rfl, hR2⟩
  have hO2 := (HO1.out.alloc (.cells #[.int .u64 eo.h, .int .u64 eo.a, .int .u64 eo.v, .int .u8 eo.c] 27)).mod hR2 (no _)
  have hA2 := (HCE.out w1 eo).mod hR2 (no _)
  have HK2 := hid ((HK1.out.alloc (.cells #[.int .u64 eo.h, .int .u64 eo.a, .int .u64 eo.v, .int .u8 eo.c] 27)).trans hR2 (fun _ _ e => e))
  have HO2 := hid hO2
  have HA2 := hid hA2
  clear hR2 hO2 hA2 d0 d1 d2 d3 d4 d5 d6 d7
  obtain ⟨z2, e0, e1, e2, e3, _⟩ := HA2.out.four
  go_wp2_with fail
  obtain ⟨W3, hW3⟩ : ∃ W, w2.alloc (.cells #[.int .u64 eo.h, .int .u64 eo.a, .int .u64 eo.v, .int .u8 eo.c] 27) = W := ⟨_, rfl⟩
  have HB3 : Hid (Blk W3 w2.heap.size [.int .u64 eo.h, .int .u64 eo.a, .int .u64 eo.v, .int .u8 eo.c] 27) := by rw [← hW3]; exact HCE.out w2 eo
  have HA3 : Hid (Blk W3 w1.heap.size [.int .u64 eo.h, .int .u64 eo.a, .int .u64 eo.v, .int .u8 eo.c] 27) := by rw [← hW3]; exact HA2.out.alloc _
  have HO3 : Hid (Blk W3 w.heap.size (cellsO o) 29) := by rw [← hW3]; exact HO2.out.alloc _
  have HK3 : Hid (Keep No w W3) := by rw [← hW3]; exact HK2.out.alloc _
  rw [hW3]
  clear hW3 e0 e1 e2 e3
  obtain ⟨_, e0, e1, e2, e3, _⟩ := HA3.out.four
  obtain ⟨_, f0, f1, f2, f3, _⟩ := HB3.out.four
  obtain ⟨_, c0, c1, c2, c3, c4, c5, c6, c7, _⟩ := cells8 HO3.out
  have hs1 : ∀ k, Calls Try.prog 20 #[p, .int .u64 o.e.h] (W3.drewN k) fun e w' => e = .returned (.int .i64 s) ∧ W3.drewN k = w' := fun k => HS.out _ (HK3.out.drewN k)
  have hs2 : ∀ k, Calls Try.prog 34 #[q, .int .u64 o.e.h] (W3.drewN k) fun e w' => e = .returned (.int .i64 s) ∧ W3.drewN k = w' := fun k => HT.out _ (HK3.out.drewN k)
  go_quiet ((first | (go_at_call 20; exact Calls.quiet_of_same ((hs1 _).mono fun e w' h => ⟨h.1, h.2.symm⟩)) | (go_at_call 34; exact Calls.quiet_of_same ((hs2 _).mono fun e w' h => ⟨h.1, h.2.symm⟩))))
  go_wp2
  go_ret
  exact ⟨rfl, HK3.out.drewN _⟩



set_option maxRecDepth 100000 in
set_option maxHeartbeats 2000000 in
theorem does_len {w : World} {p q : Value} (o : Opr) (s : Int) (bq most n cap : Nat) (v : Option Addr)
    (hq : q = .pointer (some ⟨bq, 0, none⟩)) (hQ : Blk w bq [.int .i64 most, .slice v n cap] 80)
    (hA : ∀ W, Keep No w W → Calls Try.prog 19 #[p, .int .i64 o.n] W fun e w' => e = .returned (.int .i64 s) ∧ W = w')
    (hR : ∀ W, Keep No w W → Calls Try.prog 41 #[q, .int .i64 o.n] W fun e w' => e = .returned (.int .i64 s) ∧ W = w')
    (hS : ∀ W, Keep No w W → Calls Try.prog 10 #[p] W fun e w' => e = .returned (.int .i64 n) ∧ W = w') (hk : o.k = 8) :
    Calls Try.prog 14 #[p, q, valO o] w fun e w' => e = .returned (.bool true) ∧ Keep No w w' := by
  have HO : Hid (Blk (w.alloc (.cells #[.int .i64 8, .int .u64 o.e.h, .int .u64 o.e.a, .int .u64 o.e.v, .int .u8 o.e.c, .int .u64 o.at', .int .i64 o.n, .int .i64 o.m] 29)) w.heap.size (cellsO o) 29) := Blk.new' _ (by unfold cellsO; rw [hk])
  have HK : Hid (Keep No w (w.alloc (.cells #[.int .i64 8, .int .u64 o.e.h, .int .u64 o.e.a, .int .u64 o.e.v, .int .u8 o.e.c, .int .u64 o.at', .int .i64 o.n, .int .i64 o.m] 29))) := (Keep.refl _ _).alloc _
  obtain ⟨z0, c0, c1, c2, c3, c4, c5, c6, c7, _⟩ := cells8 HO.out
  subst hq; have HA := hid hA; have HR := hid hR; have HS := hid hS; have HQ := hid hQ; clear hA hR hS hQ
  rw [hk] at c0
  unfold valO
  go_enter Try.func14, Try.ntmps14
  go_wp2
  obtain ⟨W3, hW3⟩ : ∃ W, w.alloc (.cells #[.int .i64 8, .int .u64 o.e.h, .int .u64 o.e.a, .int .u64 o.e.v, .int .u8 o.e.c, .int .u64 o.at', .int .i64 o.n, .int .i64 o.m] 29) = W := ⟨_, rfl⟩
  rw [hW3] at HO HK z0 ⊢
  clear hW3 c0 c1 c2 c3 c4 c5 c6 c7
  obtain ⟨_, c0, c1, c2, c3, c4, c5, c6, c7, _⟩ := cells8 HO.out
  obtain ⟨_, b0, b1, _⟩ := (HQ.out.mod HK.out (no _)).two
  have hs1 : ∀ k, Calls Try.prog 19 #[p, .int .i64 o.n] (W3.drewN k) fun e w' => e = .returned (.int .i64 s) ∧ W3.drewN k = w' := fun k => HA.out _ (HK.out.drewN k)
  have hs2 : ∀ k, Calls Try.prog 41 #[.pointer (some ⟨bq, 0, none⟩), .int .i64 o.n] (W3.drewN k) fun e w' => e = .returned (.int .i64 s) ∧ W3.drewN k = w' := fun k => HR.out _ (HK.out.drewN k)
  have hs3 : ∀ k, Calls Try.prog 10 #[p] (W3.drewN k) fun e w' => e = .returned (.int .i64 n) ∧ W3.drewN k = w' := fun k => HS.out _ (HK.out.drewN k)
  go_quiet ((first | (go_at_call 19; exact Calls.quiet_of_same ((hs1 _).mono fun e w' h => ⟨h.1, h.2.symm⟩)) | (go_at_call 41; exact Calls.quiet_of_same ((hs2 _).mono fun e w' h => ⟨h.1, h.2.symm⟩)) | (go_at_call 10; exact Calls.quiet_of_same ((hs3 _).mono fun e w' h => ⟨h.1, h.2.symm⟩))))
  go_wp2
  go_ret
  exact ⟨rfl, HK.out.drewN _⟩



set_option maxRecDepth 100000 in
set_option maxHeartbeats 2000000 in
theorem does_all {w : World} {p q : Value} (o : Opr) 
    (hA : ∀ W, Keep No w W → Calls Try.prog 40 #[p, q, .int .i64 o.n, .int .i64 o.m] W fun e w' => e = .returned (.bool true) ∧ Keep No W w') (hk : o.k = 7) :
    Calls Try.prog 14 #[p, q, valO o] w fun e w' => e = .returned (.bool true) ∧ Keep No w w' := by
  have HO : Hid (Blk (w.alloc (.cells #[.int .i64 7, .int .u64 o.e.h, .int .u64 o.e.a, .int .u64 o.e.v, .int .u8 o.e.c, .int .u64 o.at', .int .i64 o.n, .int .i64 o.m] 29)) w.heap.size (cellsO o) 29) := Blk.new' _ (by unfold cellsO; rw [hk])
  have HK : Hid (Keep No w (w.alloc (.cells #[.int .i64 7, .int .u64 o.e.h, .int .u64 o.e.a, .int .u64 o.e.v, .int .u8 o.e.c, .int .u64 o.at', .int .i64 o.n, .int .i64 o.m] 29))) := (Keep.refl _ _).alloc _
  obtain ⟨z0, c0, c1, c2, c3, c4, c5, c6, c7, _⟩ := cells8 HO.out
  have HA := hid hA; clear hA
  rw [hk] at c0
  unfold valO
  go_enter Try.func14, Try.ntmps14
  go_wp2_with fail
  refine (HA.out _ HK.out).mono ?_
  rintro e w1 ⟨rfl, hT⟩
  have HT := hid (HK.out.trans hT (fun _ _ e => e))
  clear hT c0 c1 c2 c3 c4 c5 c6 c7
  go_wp2
  go_ret
  exact ⟨rfl, HT.out⟩



set_option maxRecDepth 100000 in
set_option maxHeartbeats 2000000 in
theorem does_none {w : World} {p q : Value} (o : Opr) 
 (h0 : (o.k == 0) = false) (h1 : (o.k == 1) = false) (h2 : (o.k == 2) = false) (h3 : (o.k == 3) = false) (h4 : (o.k == 4) = false) (h5 : (o.k == 5) = false) (h6 : (o.k == 6) = false) (h7 : (o.k == 7) = false) (h8 : (o.k == 8) = false) :
    Calls Try.prog 14 #[p, q, valO o] w fun e w' => e = .returned (.bool true) ∧ Keep No w w' := by
  have HO : Hid (Blk (w.alloc (.cells #[.int .i64 o.k, .int .u64 o.e.h, .int .u64 o.e.a, .int .u64 o.e.v, .int .u8 o.e.c, .int .u64 o.at', .int .i64 o.n, .int .i64 o.m] 29)) w.heap.size (cellsO o) 29) := Blk.new' _ (rfl)
  have HK : Hid (Keep No w (w.alloc (.cells #[.int .i64 o.k, .int .u64 o.e.h, .int .u64 o.e.a, .int .u64 o.e.v, .int .u8 o.e.c, .int .u64 o.at', .int .i64 o.n, .int .i64 o.m] 29))) := (Keep.refl _ _).alloc _
  obtain ⟨z0, c0, c1, c2, c3, c4, c5, c6, c7, _⟩ := cells8 HO.out
  skip
  skip
  unfold valO
  go_enter Try.func14, Try.ntmps14
  go_wp2
  go_ret
  exact ⟨rfl, HK.out⟩

end Go.Proofs.Ytaijfgajcmopfaa.Z2
/- IndexClosed. -/
set_option linter.unusedVariables false
namespace Go.Proofs.Ytaijfgajcmopfaa.X9
open Go.RowKit Go.Shelf V Rh T W1 W2 W3 W4 W6 W7 W10 Rf X1 X2 X3 X4 X5 X6 X7 X8 Ar Lp
attribute [local go_sem] Oper.semAt_some

theorem res_b {fn : Func} {p : Tmp} (h : fn.results = #[.cell p 4]) (tmps : Array Value) {w : World} {b : Nat} {x : Bool} {t : TypeId} (hp : tmps.getD p undef = .pointer (some ⟨b, 0, none⟩)) (hb : Blk w b [.bool x] t) :
    (results fn tmps).run Try.prog w = .ok (.bool x) w := by
  have hp' : tmps[p]?.getD undef = .pointer (some ⟨b, 0, none⟩) := by simpa using hp
  obtain ⟨z0, c0, f0⟩ := hb.one
  simp [results, h, hp', asAddr, go_sem, c0]

theorem Blk.eight {w : World} {b : Nat} {x0 x1 x2 x3 x4 x5 x6 x7 : Value} {t : TypeId} (h : Blk w b [x0, x1, x2, x3, x4, x5, x6, x7] t) : b < w.heap.size ∧ w.cell? ⟨b, 0, none⟩ = some x0 ∧ w.cell? ⟨b, 1, none⟩ = some x1 ∧ w.cell? ⟨b, 2, none⟩ = some x2 ∧ w.cell? ⟨b, 3, none⟩ = some x3 ∧ w.cell? ⟨b, 4, none⟩ = some x4 ∧ w.cell? ⟨b, 5, none⟩ = some x5 ∧ w.cell? ⟨b, 6, none⟩ = some x6 ∧ w.cell? ⟨b, 7, none⟩ = some x7 ∧ (∀ i, w.frozen? ⟨b, i, none⟩ = false) := ⟨h.lt, h.cell 0, h.cell 1, h.cell 2, h.cell 3, h.cell 4, h.cell 5, h.cell 6, h.cell 7, h.frozen⟩

def pAt (bx : Nat) (i : Nat) : Value := if i = 0 then .pointer none else ptr bx

theorem wrap64_of {x : Int} (h1 : -9223372036854775808 ≤ x) (h2 : x ≤ 9223372036854775807) : wrap64 x = x := by
  unfold wrap64
  omega

/-- the cells that stand through the loops -/
structure St (w wr : World) (base bR bx bs : Nat) (ds : List Deferred) : Prop where
  marks : Marks base ds wr
  res : Blk wr bR [.bool false] 4
  head : Blk wr bx [.slice none 0 0] 58
  row : Blk wr bs [.pointer none, ptr bx] 30
  keep : Keep No w wr

theorem St.go {w wr wr' : World} {base bR bx bs : Nat} {ds : List Deferred} (h : St w wr base bR bx bs ds) (k : Keep No wr wr') : St w wr' base bR bx bs ds :=
  ⟨h.marks.keep k (fun _ _ _ => no _), h.res.mod k (no _), h.head.mod k (no _), h.row.mod k (no _), h.keep.trans k (fun _ _ e => e)⟩

set_option maxRecDepth 100000 in
set_option maxHeartbeats 2000000 in
theorem closed_any (v : Value) (os : List Opr) (w : World) (hO : Ops w v os) :
    Calls Try.prog 6 #[v] w fun e w' => e = .returned (.bool true) ∧ Keep No w w' := by
  refine calls_of_marks Try.func6 rfl ?_
  simp only [Try.ntmps6, List.size_toArray, List.length_cons, List.length_nil, Nat.reduceAdd, Nat.reduceSub, Array.replicate_succ, Array.replicate_zero, List.push_toArray, List.append_toArray, List.nil_append, List.cons_append]
  obtain ⟨a, cap, rfl, hform⟩ := hO.form
  have HF := hid hform
  have hlen : os.length ≤ maxLen := hO.2.1
  have HO := hid hO
  have HL := hid hlen
  clear hO hform hlen
  go_wp2_with (go_at_call 18; refine (awake_any _).mono ?_; rintro e w1 ⟨rfl, hk⟩; have HK := hid (((Keep.refl No w).alloc _).trans hk (fun _ _ h => h)); have HB := hid ((Blk.new' (cl := [.bool false]) 4 rfl : Blk (w.alloc _) w.heap.size _ _).mod hk (no _)); clear hk)
  have HS := hid (show St w ((w1.alloc (.cells #[.slice none 0 0] 58)).alloc (.cells #[.pointer none, .pointer (some ⟨w1.heap.size, 0, none⟩)] 30)) w.heap.size w.heap.size w1.heap.size (w1.heap.size + 1) [] from
    ⟨Marks.nil _ _, (HB.out.alloc _).alloc _, (Blk.new' _ rfl).alloc _, Blk.new1 _ rfl, (HK.out.alloc _).alloc _⟩)
  obtain ⟨bx, hbx⟩ : ∃ b, w1.heap.size = b := ⟨_, rfl⟩
  obtain ⟨W, hW⟩ : ∃ W, ((w1.alloc (.cells #[.slice none 0 0] 58)).alloc (.cells #[.pointer none, .pointer (some ⟨w1.heap.size, 0, none⟩)] 30)) = W := ⟨_, rfl⟩
  rw [hW] at HS ⊢
  rw [hbx] at HS ⊢
  clear hW hbx HB HK
  refine wp_loop_slots [4, 6, 7, 14, 15, 16, 17, 18, 19, 20, 21, 22, 23, 24, 25, 26, 27, 28, 29, 30, 31, 32, 33, 34, 35, 36, 37, 38, 39, 40, 41, 42, 43, 44, 45, 46, 47, 48, 49, 50, 51, 52, 53, 54, 55, 56, 57, 58, 59, 60, 61, 62, 63, 64, 65, 66, 67, 68, 69, 70, 71, 72, 73, 74, 75, 76, 77, 78, 79]
    (fun n u ds wr => ∃ i : Nat, n = 2 - i ∧ i ≤ 2 ∧ u 14 = .int .i64 i ∧ St w wr w.heap.size w.heap.size bx (bx + 1) ds) 2 ⟨0, rfl, by omega, rfl, HS.out⟩ ?_
  rintro n u ds wr ⟨i, rfl, hi, h14, hS⟩ K hK
  simp only [setAll, List.setIfInBounds_toArray, List.set_cons_zero, List.set_cons_succ]
  rw [h14]
  have HS2 := hid hS
  clear HS hS h14
  by_cases hlt : i < 2
  · have hlt' : (i : Int) < 2 := by omega
    have h0 : (0 : Int) ≤ i := by omega
    have hc : wr.cell? ⟨bx + 1, i, none⟩ = some (pAt bx i) := by
      rw [HS2.out.row.cell]
      rcases (by omega : i = 0 ∨ i = 1) with rfl | rfl <;> rfl
    have hn0 : (0 : Int) ≤ (os.length : Int) := by omega
    go_wp2
    obtain ⟨p, hp⟩ : ∃ p, pAt bx i = p := ⟨_, rfl⟩
    have hcl : Closed wr p := by
      rw [← hp]
      rcases (by omega : i = 0 ∨ i = 1) with rfl | rfl
      · exact .inl rfl
      · exact .inr ⟨bx, rfl, HS2.out.head⟩
    have HCL := hid hcl
    rw [hp]
    clear hp hcl hc
    refine wp_loop_slots [6, 7, 20, 21, 22, 23, 24, 25, 26, 27, 28, 29, 30, 31, 32, 33, 34, 35, 36, 37, 38, 39, 40, 41, 42, 43, 44, 45, 46, 47, 48, 49, 50, 51, 52, 53, 54, 55, 56, 57, 58, 59, 60, 61, 62, 63, 64, 65, 66, 67, 68, 69, 70]
      (fun n u ds wj => ∃ j : Nat, n = os.length - j ∧ j ≤ os.length ∧ u 20 = .int .i64 j ∧ Keep No wr wj ∧ St w wj w.heap.size w.heap.size bx (bx + 1) ds) os.length ⟨0, rfl, Nat.zero_le _, rfl, Keep.refl _ _, HS2.out⟩ ?_
    rintro n2 u2 ds2 wj ⟨j, rfl, hj, h20, hkj, hSj⟩ K2 hK2
    simp only [setAll, List.setIfInBounds_toArray, List.set_cons_zero, List.set_cons_succ]
    rw [h20]
    have HSj := hid hSj
    have HKj := hid hkj
    clear hSj hkj h20
    by_cases hjl : j < os.length
    · have hjl' : (j : Int) < os.length := by omega
      have hj0 : (0 : Int) ≤ j := by omega
      obtain ⟨b, off, rfl, hb, hcells⟩ := HF.out j hjl
      obtain ⟨o, ho⟩ : ∃ o, os.getD j ⟨0, z, 0, 0, 0⟩ = o := ⟨_, rfl⟩
      rw [ho] at hcells
      have hkw := HSj.out.keep
      have hcw : ∀ k u, (cellsO o)[k]? = some u → wj.cell? ⟨b, off + j * 8 + k, none⟩ = some u := fun k u hu => (World.cell?_of_block (hkw.block b hb (no _))).trans (hcells k u hu)
      have e0 : wj.cell? ⟨b, off + j * 8, none⟩ = some (.int .i64 o.k) := hcw 0 _ rfl
      have e1 := hcw 1 _ rfl
      have e2 := hcw 2 _ rfl
      have e3 := hcw 3 _ rfl
      have e4 := hcw 4 _ rfl
      have e5 := hcw 5 _ rfl
      have e6 := hcw 6 _ rfl
      have e7 := hcw 7 _ rfl
      have hcl := HCL.out.keep HKj.out no
      have hone := fun W (hW : Keep No wj W) => one_closed (hcl.keep hW no) o
      have hlenc := fun W (hW : Keep No wj W) => len_closed (hcl.keep hW no) o.n
      have hstrc := fun W (hW : Keep No wj W) => stripe_closed p o.e.h W (hcl.keep hW no)
      have hallc := fun W (hW : Keep No wj W) => all_closed (hcl.keep hW no) o.n
      have vt : valT z false (errC o) 0 = .agg #[.int .u64 0, .int .u64 0, .int .u64 0, .int .u8 0, .int .u64 0, .int .u64 0, .int .u64 0, .int .u8 0, .bool false, .bool false, .int .i64 (errC o), .int .i64 0, .int .i64 0] := rfl
      rw [vt] at hone
      unfold valO at hone
      clear vt
      have herr : errC o = 6 ∧ (o.k == 0) = true ∨ errC o = 0 ∧ (o.k == 0) = false := by
        unfold errC
        by_cases h : o.k = 0
        · exact .inl ⟨if_pos h, by simpa using h⟩
        · exact .inr ⟨if_neg h, by simpa using h⟩
      have HCLj := hid hcl
      clear hcw hcells hkw ho hcl
      generalize errC o = er at hone herr
      rcases herr with ⟨rfl, hk0⟩ | ⟨rfl, hk0⟩
      all_goals
        go_wp2_with (first | (go_at_call 9; refine (hone _ ((Keep.refl _ _).alloc _)).mono ?_; rintro e w4 ⟨rfl, hk4⟩; have HK4 := hid (((Keep.refl No wj).alloc _).trans hk4 (fun _ _ e => e)); have hBo := ((Blk.new' (cl := cellsO o) 29 rfl : Blk (wj.alloc _) wj.heap.size _ _).mod hk4 (no _)); unfold cellsO at hBo; obtain ⟨y, g0, g1, g2, g3, g4, g5, g6, g7, gf⟩ := Blk.eight hBo; clear hk4 hBo e0 e1 e2 e3 e4 e5 e6 e7 hone) | (go_at_call 19; refine (hlenc _ (HK4.out.alloc _)).mono ?_; rintro e w5 ⟨rfl, rfl⟩) | (go_at_call 20; refine (hstrc _ (HK4.out.alloc _)).mono ?_; rintro e w5 ⟨rfl, rfl⟩) | (go_at_call 11; refine (hallc _ (HK4.out.alloc _)).mono ?_; rintro e w5 ⟨rfl, rfl⟩))
        refine wp_range (gf := 48) (encs := encs) (xs := []) rfl (enters_of Try.func48 (by kernel_rfl) rfl) (all_seq_nil _ _ (Blk.new1 _ rfl)) (fun _ => rfl)
          (fun O s W => Keep No wj W) (fun _ _ _ _ => False) (fun O W hW hO => ((HK4.out.alloc _).alloc _).trans hW (fun _ _ h => h)) (fun O s A B hs hAB hO => hs.trans hAB (fun k hk h => ?hOO)) (fun _ _ _ _ _ h _ _ => h) (fun l O pre x W hI hp => (prefix_nil hp).elim) (fun D O W hD hOD hO hI hm => ?hdone) (fun _ _ _ _ _ _ _ _ h => h.elim)
        case hOO => have h1 := (hO _ h).1; have h2 := HK4.out.size; simp at h1; omega
        case hdone =>
          have hDw : wj.heap.size ≤ D := by have := HK4.out.size; simp at hD; omega
          have HSn := hid (show St w W w.heap.size w.heap.size bx (bx + 1) (Rf.mark D :: ds2) from ⟨HSj.out.marks.cons hI (fun _ _ _ => no _) hDw (Nat.le_trans HSj.out.keep.size hDw) hm, HSj.out.res.mod hI (no _), HSj.out.head.mod hI (no _), HSj.out.row.mod hI (no _), HSj.out.keep.trans hI (fun _ _ h => h)⟩)
          have HKn := hid (HKj.out.trans hI (fun _ _ h => h))
          clear hI hD hm hO hOD
          go_wp2
          refine ⟨os.length - (j + 1), by omega, ?e, j + 1, rfl, by omega, ?_, HKn.out, HSn.out⟩
          case e => kernel_rfl
          have hjm : j + 1 ≤ maxLen := by have := HL.out; omega
          unfold maxLen at hjm
          rw [wrap64_of (by omega) (by omega)]
          omega
    · have hjn : j = os.length := by omega
      subst hjn
      have hclj := HCL.out.keep HKj.out no
      have hstrs := stripes_closed p wj hclj
      have hfork := fork_closed hclj
      clear hclj
      go_wp2_with (first | (go_at_call 10; refine hstrs.mono ?_; rintro e w5 ⟨rfl, rfl⟩) | (go_at_call 15; refine hfork.mono ?_; rintro e w5 ⟨rfl, rfl⟩))
      refine ⟨2 - (i + 1), by omega, ?e, i + 1, rfl, by omega, ?_, HSj.out⟩
      case e => kernel_rfl
      omega
  · have hi2 : i = 2 := by omega
    subst hi2
    have hb := HS2.out.res
    obtain ⟨z0, c0, f0⟩ := hb.one
    have hm := HS2.out.marks
    have hk := HS2.out.keep
    clear hb
    have HM := hid hm
    have HKw := hid hk
    have HB2 := hid (HS2.out.res.set 0 (.bool true))
    clear hm hk
    go_wp2
    refine marks_end (base := w.heap.size) (HM.out.keep (S := fun k => k = w.heap.size) ((Keep.refl _ _).setCell _ _ (fun _ => rfl)) (fun k _ hk e => ?_)) fun W2 hW2 => ⟨_, res_b rfl _ rfl (HB2.out.mod hW2 (fun h => ?_)), rfl, ?_⟩
    · exact Blk.notMark HS2.out.res (by rw [← e]; exact hk)
    · exact Blk.notMark HB2.out h.2
    · exact (HKw.out.setCell _ _ (fun h => absurd h (by simp))).trans hW2 (fun k hk h => by have := h.1; omega)
end Go.Proofs.Ytaijfgajcmopfaa.X9
/- A region that draws its order, in a round of a range over a function: as outside of one, if it defers nothing. -/
set_option linter.unusedVariables false
set_option linter.unusedSimpArgs false
namespace Go.Proofs.Ytaijfgajcmopfaa.Rr
open Go

def noDefer (ops : Array Oper) : Bool := ops.all fun o => match o.op with | .defer _ => false | _ => true

theorem noDefer_spec {ops : Array Oper} (h : noDefer ops = true) {i : Nat} {o : Oper} (ho : ops[i]? = some o) : ∀ c, o.op ≠ .defer c := by
  unfold noDefer at h
  rw [Array.all_eq_true_iff_forall_mem] at h
  have := h o (Array.mem_of_getElem? ho)
  intro c e
  rw [e] at this
  cases this

section
variable {P : Program} {md : Region.Mode} {ops : Array Oper} {Q : Exit → Act → World → Prop} {l n : Nat}

theorem oper_round {o : Oper} {a : Act} {w : World} {K : Act → World → Prop} (hd : ∀ c, o.op ≠ .defer c) (h : o.wp P a w K Q) : o.wpIn (Fence.wide.inRound l) n P a w K Q := by
  unfold Oper.wpIn
  refine ⟨fun f _ => trivial, ?_⟩
  rw [Oper.semAt_eq _ _ _ hd]
  unfold Oper.wp at h
  generalize (execOp a.eval o).run P w = r at *
  cases r with
  | ok x w' =>
    cases x <;> simp only [Oper.upon] at h <;> simp only [Oper.uponIn] <;>
      first
        | exact h
        | (refine ⟨fun hx => (by cases hx), CallsIn.mono (CallsIn.inRound l (callsIn_wide.2 h)) ?_⟩
           intro e w'' he
           cases e <;> exact he)
        | exact ⟨fun hx => (by cases hx), fun c cs _ => let ⟨v, w'', r, s⟩ := h c cs; ⟨v, w'', r, stepsIn_wide.2 s⟩⟩
        | exact h.elim
  | halt x w' => cases x <;> simp only [Oper.upon] at h <;> simp only [Oper.uponIn] <;> exact h

theorem wpAny_round (hn : noDefer ops = true) (ho : ¬ LetsOut Q) : ∀ (fuel : Nat) (listed : Array Bool) (a : Act) (w : World), wpAny P md ops Q fuel listed a w → wpAnyIn (Fence.wide.inRound l) n P md ops Q fuel listed a w
  | 0, _, _, _, h => h
  | fuel + 1, _, a, w, h => ⟨h.1, fun i hi => by
      have := h.2 i hi
      unfold wpOp at this
      unfold wpOpIn
      split
      · rename_i hx
        simp only [hx] at this
        exact wpAny_round hn ho fuel _ a w this
      · rename_i o hx
        simp only [hx] at this
        split
        · rename_i hw
          simp only [hw, if_true] at this
          rcases this with this | this
          · exact Oper.wpIn_mono (fun a' w' h' => wpAny_round hn ho fuel _ a' w' h') (oper_round (noDefer_spec hn hx) this)
          · exact absurd this.2 ho
        · rename_i hw
          simp only [hw] at this
          exact ⟨fun _ _ => trivial, wpAny_round hn ho fuel _ _ w this⟩⟩

/-- **IN A ROUND**: walked with S held, as outside. -/
theorem wpIn_region_round {S : World → Prop} {id : Nat} {a : Act} {w : World} (hm : P.follows .mixedOrders = true) (hn : noDefer ops = true) (ho : ¬ LetsOut Q)
    (h : wpAnyH P .any ops Q S ops.size (Array.replicate ops.size false) a { w with drawn := w.drawn + 1 }) : (Code.region id ops true).wpIn (Fence.wide.inRound l) n P Q a w :=
  wpIn_region_any hm (wpAny_round hn ho _ _ _ _ (wpAny_of_held _ _ _ _ h))
end
end Go.Proofs.Ytaijfgajcmopfaa.Rr
/- 'all' (law): a stripe of both indexes, gone over. -/
set_option linter.unusedVariables false
set_option linter.unusedSimpArgs false
namespace Go.Proofs.Ytaijfgajcmopfaa.Z3
open Go.RowKit Go.Shelf V Rh T W1 W2 W3 W4 W6 W10 Rf X1 X2 X3 X4 X5 X6 X7 X9 Pl Y1 Y2 Y3 Y4 Y5 Y6 Y7 Y8 Y9 Y14 Ap Z1 Z2 Lp
attribute [local go_sem] Oper.semAt_some

/-- what stands through the rounds of 'all' -/
structure AS (w wr : World) (base bs b8 bw : Nat) (stop : Int) (v g : Value) (xs : List Ent) (ds : List Deferred) : Prop where
  marks : Marks base ds wr
  stop : Blk wr bs [.int .i64 stop] 3
  res : Blk wr b8 [.bool false] 4
  want : Blk wr bw [v] 39
  row : wr.ownsRow base 27 4 v xs.length (flat xs)
  seq : Seq Try.prog 48 #[g] encs xs wr
  keep : Keep No w wr
  lt : base ≤ bs ∧ base ≤ b8 ∧ base ≤ bw
  ne : bs ≠ b8 ∧ bs ≠ bw ∧ b8 ≠ bw ∧ ∀ k, v.ownBlock = some k → k ≠ bs ∧ k ≠ b8 ∧ k ≠ bw

theorem AS.go {w wr wr' : World} {base bs b8 bw : Nat} {stop : Int} {v g : Value} {xs : List Ent} {ds : List Deferred} (h : AS w wr base bs b8 bw stop v g xs ds) (k : Keep No wr wr') : AS w wr' base bs b8 bw stop v g xs ds :=
  ⟨h.marks.keep k (fun _ _ _ => no _), h.stop.mod k (no _), h.res.mod k (no _), h.want.mod k (no _), own_keep h.row k (fun _ _ => no _), Seq.mono h.seq k, h.keep.trans k (fun _ _ e => e), h.lt, h.ne⟩

set_option maxRecDepth 100000 in
set_option maxHeartbeats 2000000 in
theorem all_same {w : World} {p q : Value} (n stop : Int) (xs : List Ent) (hlen : xs.length ≤ 65536)
    (hE : ∀ W, Keep No w W → Calls Try.prog 60 #[q, .int .i64 n] W fun e w' => ∃ v, e = .returned v ∧ w'.ownsRow W.heap.size 27 4 v xs.length (flat xs) ∧ Keep No W w')
    (hA : ∀ W, Keep No w W → Calls Try.prog 11 #[p, .int .i64 n] W fun e w' => e = .returned (.func (.func 48) #[] #[.pointer (some ⟨W.heap.size, 0, none⟩)]) ∧ Keep No W w' ∧ Seq Try.prog 48 #[.pointer (some ⟨W.heap.size, 0, none⟩)] encs xs w') :
    Calls Try.prog 40 #[p, q, .int .i64 n, .int .i64 stop] w fun e w' => e = .returned (.bool true) ∧ Keep No w w' := by
  refine calls_of_marks Try.func40 rfl ?_
  simp only [Try.ntmps40, List.size_toArray, List.length_cons, List.length_nil, Nat.reduceAdd, Nat.reduceSub, Array.replicate_succ, Array.replicate_zero, List.push_toArray, List.append_toArray, List.nil_append, List.cons_append]
  have HE := hid hE
  have HA := hid hA
  have HN := hid hlen
  clear hE hA hlen
  go_wp2_with fail
  refine (HE.out _ (((Keep.refl _ _).alloc _).alloc _)).mono ?_
  rintro e w1 ⟨v, rfl, hv, hk⟩
  obtain ⟨a, m, c, rfl⟩ := own_some hv
  have HK1 := hid (Keep.trans (((Keep.refl No w).alloc (.cells #[.int .i64 stop] 3)).alloc (.cells #[.bool false] 4)) hk (fun _ _ e => e))
  have HB1 := hid ((((Blk.new' (cl := [.int .i64 stop]) 3 rfl : Blk (w.alloc (.cells #[.int .i64 stop] 3)) w.heap.size _ _).alloc (.cells #[.bool false] 4)).mod hk (no _)))
  have HB2 := hid (((Blk.new1 (cl := [.bool false]) 4 rfl : Blk ((w.alloc (.cells #[.int .i64 stop] 3)).alloc (.cells #[.bool false] 4)) (w.heap.size + 1) _ _).mod hk (no _)))
  have HV := hid hv
  clear hv hk
  go_wp2_with fail
  refine (HA.out _ (HK1.out.alloc _)).mono ?_
  rintro e w2 ⟨rfl, hk, hseq⟩
  have HS := hid (show AS w w2 w.heap.size w.heap.size (w.heap.size + 1) w1.heap.size stop (.slice a m c) (.pointer (some ⟨(w1.alloc (.cells #[.slice a m c] 39)).heap.size, 0, none⟩)) xs [] from
    ⟨Marks.nil _ _, (HB1.out.alloc _).mod hk (no _), (HB2.out.alloc _).mod hk (no _), (Blk.new' (cl := [.slice a m c]) 39 rfl).mod hk (no _), own_base (own_keep (HV.out.alloc _) hk (fun _ _ => no _)) (by simp; omega), hseq, (HK1.out.alloc _).trans hk (fun _ _ e => e), ⟨Nat.le_refl _, by omega, HK1.out.size⟩, ?ne⟩)
  case ne =>
    have h1 := HB2.out.lt
    refine ⟨by omega, by omega, by omega, fun k hk => ?_⟩
    have := HV.out.lt k hk
    simp at this
    omega
  have HW := hid hk.size
  clear hk hseq
  go_wp2
  obtain ⟨g, hg⟩ : ∃ g : Value, .pointer (some ⟨(w1.alloc (.cells #[.slice a m c] 39)).heap.size, 0, none⟩) = g := ⟨_, rfl⟩
  have hgS : (Value.func (.func 48) #[] #[.pointer (some ⟨w1.heap.size + 1, 0, none⟩)]) = .func (.func 48) #[] #[g] := by rw [← hg]; simp
  have hW0 : w.heap.size + 1 < w1.heap.size := HB2.out.lt
  have hW1 : w1.heap.size < w2.heap.size := by have := HW.out; simp at this; omega
  rw [hgS]
  rw [hg] at HS
  obtain ⟨W3, hW3⟩ : ∃ W, w2.alloc (.cells #[.int .i64 0] 3) = W := ⟨_, rfl⟩
  have HC0 : Hid (Blk W3 w2.heap.size [.int .i64 0] 3) := by rw [← hW3]; exact Blk.new' _ rfl
  have HS3 := hid (HS.out.go (show Keep No w2 W3 by rw [← hW3]; exact (Keep.refl _ _).alloc _))
  rw [hW3]
  obtain ⟨bw, hbw⟩ : ∃ b, w1.heap.size = b := ⟨_, rfl⟩
  rw [hbw] at HS3 hW1 hW0 ⊢
  clear hW3 hg hgS HS HW HV HB1 HB2 HK1 hbw
  refine wp_loop_slots [11, 12, 13, 20, 21, 22, 23, 24, 25, 26, 27, 28, 29, 30, 31, 32, 33, 34, 35, 36, 37, 38, 39, 40, 41, 42, 43, 44, 45, 46, 47, 48, 49, 50, 51, 52, 53, 54, 55, 56, 57, 58, 59, 60]
    (fun n u ds wr => ∃ (i b11 : Nat), n = 2 - i ∧ i ≤ 2 ∧ u 11 = .pointer (some ⟨b11, 0, none⟩) ∧ (w.heap.size < b11 ∧ b11 ≠ w.heap.size + 1 ∧ b11 ≠ bw) ∧ Blk wr b11 [.int .i64 i] 3 ∧ AS w wr w.heap.size w.heap.size (w.heap.size + 1) bw stop (.slice a m c) g xs ds) 2 ⟨0, w2.heap.size, rfl, by omega, rfl, ?hb, HC0.out, HS3.out⟩ ?_
  case hb => exact ⟨by omega, by omega, by omega⟩
  rintro n' u ds wr ⟨i, b11, rfl, hi, h11, hb11, hBi, hS⟩ K hK
  simp only [setAll, List.setIfInBounds_toArray, List.set_cons_zero, List.set_cons_succ]
  rw [h11]
  have HSr := hid hS
  have HBi := hid hBi
  obtain ⟨y0, i0, _⟩ := hBi.one
  clear HS3 HC0 hS hBi h11
  by_cases hlt : i < 2
  · have hlt' : (i : Int) < 2 := by omega
    go_wp2
    obtain ⟨Wa, hWa⟩ : ∃ W, wr.alloc (.cells #[.int .i64 0] 3) = W := ⟨_, rfl⟩
    have HKa : Hid (Keep No wr Wa) := by rw [← hWa]; exact (Keep.refl _ _).alloc _
    have HBa : Hid (Blk Wa wr.heap.size [.int .i64 0] 3) := by rw [← hWa]; exact Blk.new' _ rfl
    have hsa : Wa.heap.size = wr.heap.size + 1 := by rw [← hWa]; simp
    rw [hWa]
    clear hWa
    refine wp_range (gf := 48) (lb := #[g]) (encs := encs) (xs := xs) rfl (enters_of Try.func48 (by kernel_rfl) rfl) (Seq.mono HSr.out.seq HKa.out) (fun _ => rfl)
      (fun O s W => Blk W wr.heap.size [.int .i64 s.length] 3 ∧ Keep No wr W) (fun O c s W => (c = .exit 2 ∧ i = 0 ∧ (s.length : Int) = stop) ∧ Blk W wr.heap.size [.int .i64 s.length] 3 ∧ Keep No wr W) ?h0 ?hI ?hIx ?hround ?hdone ?hstop
    case h0 =>
      intro O W hW hO
      exact ⟨HBa.out.mod hW (no _), HKa.out.trans hW (fun _ _ h => h)⟩
    case hI =>
      intro O s A B hs hAB hO
      exact ⟨hs.1.mod hAB (fun h => by have := (hO _ h).1; omega), hs.2.trans hAB (fun k hk h => by have := (hO _ h).1; omega)⟩
    case hIx =>
      intro O c s A B hs hAB hO
      exact ⟨hs.1, hs.2.1.mod hAB (fun h => by have := (hO _ h).1; omega), hs.2.2.trans hAB (fun k hk h => by have := (hO _ h).1; omega)⟩
    case hround =>
      intro l O pre x W hI hp hO
      have hpl : pre.length < xs.length := by have := hp.length_le; simp at this; omega
      have hx : gt xs pre.length = x := by
        obtain ⟨t, rfl⟩ := hp
        simp [gt]
      have hp1 : (0 : Int) ≤ (pre.length : Nat) := by omega
      have hp2 : ((pre.length : Nat) : Int) < xs.length := by omega
      have hp3 : ((pre.length : Nat) : Int) ≤ 65536 := by have := HN.out; omega
      have hpd : decide ((xs.length : Int) ≤ (pre.length : Nat)) = false := by simp; omega
      have hpd2 : decide (xs.length ≤ pre.length) = false := by simp; omega
      simp only [encs, valE]
      have HHI := hid hI
      have HO := hid hO
      have HX := hid hx
      clear hI hO hp hx
      gi_wp2
      refine ⟨⟨by simp, fun k hk => Below.heap_alloc _ _ _ (HO.out k hk).2⟩, ⟨HHI.out.1.alloc _, HHI.out.2.alloc _⟩, ?_⟩
      intro W2 hK2 hs2 hI2
      have hS2 := HSr.out.go hI2.2
      obtain ⟨zr, r0, fr⟩ := hI2.1.one
      obtain ⟨zw, v0, fw⟩ := hS2.want.one
      obtain ⟨zi, i1, fi⟩ := (HBi.out.mod hI2.2 (no _)).one
      obtain ⟨zs, s0, fs⟩ := hS2.stop.one
      have hB9 : Blk W2 W.heap.size [.int .u64 x.h, .int .u64 x.a, .int .u64 x.v, .int .u8 x.c] 27 := (Blk.new' 27 rfl).mod hK2 (fun h => by have := (HO.out _ h).2; omega)
      obtain ⟨z9, d0, d1, d2, d3, f9⟩ := hB9.four
      have hnn : (.slice a m c : Value) ≠ .slice none 0 0 := fun e => by
        have h1 := hS2.row
        rw [e] at h1
        rcases h1.2 with ⟨_, h2⟩ | ⟨_, _, _, h2, _⟩
        · omega
        · cases h2
      obtain ⟨gb, cap, rest, hv, _, hnc, _, hbg, _⟩ := own_blk hS2.row hnn
      obtain ⟨t0, t1, t2, t3⟩ := slot hbg hpl
      rw [HX.out] at t0 t1 t2 t3
      rw [hv] at v0
      have hnc' : (xs.length : Int) ≤ cap := by omega
      have HI2 := hid hI2
      have hbi : ∀ k, O k → k ≠ wr.heap.size := fun k hk e => by have := (HO.out k hk).1; omega
      have HO2 := hid (fun k hk => (⟨(HO.out k hk).1, by have := (HO.out k hk).2; rw [hs2]; simp; omega⟩ : Wa.heap.size ≤ k ∧ k < W2.heap.size))
      have hb0 : wr.heap.size ≠ b11 := by have := HBi.out.lt; omega
      have hb1 : wr.heap.size ≠ w.heap.size := by have := HSr.out.keep.size; omega
      have hst := HSr.out.stop.lt
      have HBI := hid hbi
      have HFin : Hid (Blk ((W2.setCell ⟨wr.heap.size, 0, none⟩ (.int .i64 ((pre.length : Int) + 1))).drew) wr.heap.size [.int .i64 ((pre ++ [x]).length : Nat)] 3 ∧ Keep No wr ((W2.setCell ⟨wr.heap.size, 0, none⟩ (.int .i64 ((pre.length : Int) + 1))).drew) ∧ Sta O W2 ((W2.setCell ⟨wr.heap.size, 0, none⟩ (.int .i64 ((pre.length : Int) + 1))).drew)) := ⟨by
          have := (HI2.out.1.set 0 (.int .i64 ((pre.length : Int) + 1))).drew
          rw [List.length_append]
          exact this, (HI2.out.2.setCell _ _ (fun h => absurd h (by simp))).drew, Sta.of_keep (S := fun k => k = wr.heap.size) ((Keep.refl (fun k => k = wr.heap.size) _).setCell _ _ (fun _ => rfl)).drew (fun k hk => ⟨(HO2.out k hk).2, HBI.out k hk⟩)⟩
      have hor : (i = 0 ∨ i = 1) := by omega
      clear hI2 hS2 hv hbg hbi hs2 hK2 hB9 hnn hlt hi
      have hS0 : W2.drew.cell? ⟨wr.heap.size, 0, none⟩ = some (.int .i64 (pre.length : Nat)) ∧ W2.drew.cell? ⟨bw, 0, none⟩ = some (.slice (some ⟨gb, 0, none⟩) xs.length cap) ∧ W2.drew.cell? ⟨W.heap.size, 0, none⟩ = some (.int .u64 x.h) ∧ W2.drew.cell? ⟨W.heap.size, 1, none⟩ = some (.int .u64 x.a) ∧ W2.drew.cell? ⟨W.heap.size, 2, none⟩ = some (.int .u64 x.v) ∧ W2.drew.cell? ⟨W.heap.size, 3, none⟩ = some (.int .u8 x.c) ∧
          W2.drew.cell? ⟨gb, pre.length * 4, none⟩ = some (.int .u64 x.h) ∧ W2.drew.cell? ⟨gb, pre.length * 4 + 1, none⟩ = some (.int .u64 x.a) ∧ W2.drew.cell? ⟨gb, pre.length * 4 + 2, none⟩ = some (.int .u64 x.v) ∧ W2.drew.cell? ⟨gb, pre.length * 4 + 3, none⟩ = some (.int .u8 x.c) := ⟨r0, v0, d0, d1, d2, d3, t0, t1, t2, t3⟩
      gi_wp2
      refine Rr.wpIn_region_round (S := fun V => V.cell? ⟨wr.heap.size, 0, none⟩ = some (.int .i64 (pre.length : Nat)) ∧ V.cell? ⟨bw, 0, none⟩ = some (.slice (some ⟨gb, 0, none⟩) xs.length cap) ∧ V.cell? ⟨W.heap.size, 0, none⟩ = some (.int .u64 x.h) ∧ V.cell? ⟨W.heap.size, 1, none⟩ = some (.int .u64 x.a) ∧ V.cell? ⟨W.heap.size, 2, none⟩ = some (.int .u64 x.v) ∧ V.cell? ⟨W.heap.size, 3, none⟩ = some (.int .u8 x.c) ∧
          V.cell? ⟨gb, pre.length * 4, none⟩ = some (.int .u64 x.h) ∧ V.cell? ⟨gb, pre.length * 4 + 1, none⟩ = some (.int .u64 x.a) ∧ V.cell? ⟨gb, pre.length * 4 + 2, none⟩ = some (.int .u64 x.v) ∧ V.cell? ⟨gb, pre.length * 4 + 3, none⟩ = some (.int .u8 x.c)) (by kernel_rfl) (by kernel_rfl) (fun ⟨_, _, h⟩ => h) ?_
      refine wpAnyH_take (i := 0) (v := ?_) rfl (by kernel_rfl) (by kernel_rfl) (by kernel_rfl) (fun _ _ _ h => h) (Or.inl ⟨by rfl, ?_⟩) (hS0) ?_
      rotate_left
      · (intro w hSw; obtain ⟨p1, p2, p3, p4, p5, p6, p7, p8, p9, p10⟩ := hSw; go_simp; try with_reducible rfl)
      simp only [Act.put, List.getElem_toArray, List.getElem_cons_zero, List.getElem_cons_succ, List.setIfInBounds_toArray, List.set_cons_zero, List.set_cons_succ]
      refine wpAnyH_take (i := 1) (v := ?_) rfl (by kernel_rfl) (by kernel_rfl) (by kernel_rfl) (fun _ _ _ h => h) (Or.inl ⟨by rfl, ?_⟩) (hS0) ?_
      rotate_left
      · (intro w hSw; obtain ⟨p1, p2, p3, p4, p5, p6, p7, p8, p9, p10⟩ := hSw; go_simp; try with_reducible rfl)
      simp only [Act.put, List.getElem_toArray, List.getElem_cons_zero, List.getElem_cons_succ, List.setIfInBounds_toArray, List.set_cons_zero, List.set_cons_succ]
      refine wpAnyH_take (i := 2) (v := ?_) rfl (by kernel_rfl) (by kernel_rfl) (by kernel_rfl) (fun _ _ _ h => h) (Or.inl ⟨by rfl, ?_⟩) (hS0) ?_
      rotate_left
      · (intro w hSw; obtain ⟨p1, p2, p3, p4, p5, p6, p7, p8, p9, p10⟩ := hSw; go_simp; try with_reducible rfl)
      simp only [Act.put, List.getElem_toArray, List.getElem_cons_zero, List.getElem_cons_succ, List.setIfInBounds_toArray, List.set_cons_zero, List.set_cons_succ]
      refine wpAnyH_take (i := 3) (v := ?_) rfl (by kernel_rfl) (by kernel_rfl) (by kernel_rfl) (fun _ _ _ h => h) (Or.inl ⟨by rfl, ?_⟩) (hS0) ?_
      rotate_left
      · (intro w hSw; obtain ⟨p1, p2, p3, p4, p5, p6, p7, p8, p9, p10⟩ := hSw; go_simp; try with_reducible rfl)
      simp only [Act.put, List.getElem_toArray, List.getElem_cons_zero, List.getElem_cons_succ, List.setIfInBounds_toArray, List.set_cons_zero, List.set_cons_succ]
      refine wpAnyH_take (i := 4) (v := ?_) rfl (by kernel_rfl) (by kernel_rfl) (by kernel_rfl) (fun _ _ _ h => h) (Or.inl ⟨by rfl, ?_⟩) (hS0) ?_
      rotate_left
      · (intro w hSw; obtain ⟨p1, p2, p3, p4, p5, p6, p7, p8, p9, p10⟩ := hSw; go_simp; try with_reducible rfl)
      simp only [Act.put, List.getElem_toArray, List.getElem_cons_zero, List.getElem_cons_succ, List.setIfInBounds_toArray, List.set_cons_zero, List.set_cons_succ]
      refine wpAnyH_take (i := 5) (v := ?_) rfl (by kernel_rfl) (by kernel_rfl) (by kernel_rfl) (fun _ _ _ h => h) (Or.inl ⟨by rfl, ?_⟩) (hS0) ?_
      rotate_left
      · (intro w hSw; obtain ⟨p1, p2, p3, p4, p5, p6, p7, p8, p9, p10⟩ := hSw; go_simp; try with_reducible rfl)
      simp only [Act.put, List.getElem_toArray, List.getElem_cons_zero, List.getElem_cons_succ, List.setIfInBounds_toArray, List.set_cons_zero, List.set_cons_succ]
      refine wpAnyH_take (i := 6) (v := ?_) rfl (by kernel_rfl) (by kernel_rfl) (by kernel_rfl) (fun _ _ _ h => h) (Or.inl ⟨by rfl, ?_⟩) (hS0) ?_
      rotate_left
      · (intro w hSw; obtain ⟨p1, p2, p3, p4, p5, p6, p7, p8, p9, p10⟩ := hSw; go_simp; try with_reducible rfl)
      simp only [Act.put, List.getElem_toArray, List.getElem_cons_zero, List.getElem_cons_succ, List.setIfInBounds_toArray, List.set_cons_zero, List.set_cons_succ]
      refine wpAnyH_take (i := 7) (v := ?_) rfl (by kernel_rfl) (by kernel_rfl) (by kernel_rfl) (fun _ _ _ h => h) (Or.inl ⟨by rfl, ?_⟩) (hS0) ?_
      rotate_left
      · (intro w hSw; obtain ⟨p1, p2, p3, p4, p5, p6, p7, p8, p9, p10⟩ := hSw; go_simp; try with_reducible rfl)
      simp only [Act.put, List.getElem_toArray, List.getElem_cons_zero, List.getElem_cons_succ, List.setIfInBounds_toArray, List.set_cons_zero, List.set_cons_succ]
      refine wpAnyH_take (i := 8) (v := ?_) rfl (by kernel_rfl) (by kernel_rfl) (by kernel_rfl) (fun _ _ _ h => h) (Or.inl ⟨by rfl, ?_⟩) (hS0) ?_
      rotate_left
      · (intro w hSw; obtain ⟨p1, p2, p3, p4, p5, p6, p7, p8, p9, p10⟩ := hSw; go_simp; try with_reducible rfl)
      simp only [Act.put, List.getElem_toArray, List.getElem_cons_zero, List.getElem_cons_succ, List.setIfInBounds_toArray, List.set_cons_zero, List.set_cons_succ]
      refine wpAnyH_take (i := 9) (v := ?_) rfl (by kernel_rfl) (by kernel_rfl) (by kernel_rfl) (fun _ _ _ h => h) (Or.inl ⟨by rfl, ?_⟩) (hS0) ?_
      rotate_left
      · (intro w hSw; obtain ⟨p1, p2, p3, p4, p5, p6, p7, p8, p9, p10⟩ := hSw; go_simp; try with_reducible rfl)
      simp only [Act.put, List.getElem_toArray, List.getElem_cons_zero, List.getElem_cons_succ, List.setIfInBounds_toArray, List.set_cons_zero, List.set_cons_succ]
      refine wpAnyH_take (i := 10) (v := ?_) rfl (by kernel_rfl) (by kernel_rfl) (by kernel_rfl) (fun _ _ _ h => h) (Or.inl ⟨by rfl, ?_⟩) (hS0) ?_
      rotate_left
      · (intro w hSw; obtain ⟨p1, p2, p3, p4, p5, p6, p7, p8, p9, p10⟩ := hSw; go_simp; try with_reducible rfl)
      simp only [Act.put, List.getElem_toArray, List.getElem_cons_zero, List.getElem_cons_succ, List.setIfInBounds_toArray, List.set_cons_zero, List.set_cons_succ]
      refine wpAnyH_take (i := 11) (v := ?_) rfl (by kernel_rfl) (by kernel_rfl) (by kernel_rfl) (fun _ _ _ h => h) (Or.inl ⟨by rfl, ?_⟩) (hS0) ?_
      rotate_left
      · (intro w hSw; obtain ⟨p1, p2, p3, p4, p5, p6, p7, p8, p9, p10⟩ := hSw; go_simp; try with_reducible rfl)
      simp only [Act.put, List.getElem_toArray, List.getElem_cons_zero, List.getElem_cons_succ, List.setIfInBounds_toArray, List.set_cons_zero, List.set_cons_succ]
      refine wpAnyH_done (by kernel_rfl) ?_ _
      clear hS0
      rcases hor with rfl | rfl
      · by_cases hs : ((pre.length : Int) + 1) = stop
        · have hsd : ((pre.length : Int) + 1 == stop) = true := by simpa using hs
          have HSE := hid hs
          clear hs
          gi_wp2
          exact ⟨HFin.out.2.2, ⟨rfl, by rw [List.length_append]; exact HSE.out⟩, HFin.out.1, HFin.out.2.1⟩
        · have hsd : ((pre.length : Int) + 1 == stop) = false := by simpa using hs
          clear hs
          gi_wp2
          exact ⟨HFin.out.2.2, HFin.out.1, HFin.out.2.1⟩
      · gi_wp2
        exact ⟨HFin.out.2.2, HFin.out.1, HFin.out.2.1⟩
    case hdone =>
      intro D O W hD hOD hO hI hm
      have hS2 := HSr.out.go hI.2
      have hDw : wr.heap.size ≤ D := by omega
      have hm2 := HSr.out.marks.cons hI.2 (fun _ _ _ => no _) hDw (Nat.le_trans HSr.out.keep.size hDw) hm
      obtain ⟨zr, r0, fr⟩ := hI.1.one
      obtain ⟨zw, v0, fw⟩ := hS2.want.one
      obtain ⟨zi, i1, fi⟩ := (HBi.out.mod hI.2 (no _)).one
      obtain ⟨a', c', hv⟩ := own_slice hS2.row
      rw [hv] at v0
      have HM := hid hm2
      have HS2 := hid hS2
      have HI2 := hid hI.2
      clear hI hm hm2 hS2 hD hO hOD hv
      go_wp2
      have hbb : w.heap.size + 1 < W.heap.size ∧ bw < W.heap.size := ⟨HS2.out.res.lt, HS2.out.want.lt⟩
      refine ⟨2 - (i + 1), by omega, ?e, i + 1, rfl, by omega, ⟨by omega, by omega, by omega⟩, ?_, ?_⟩
      case e => kernel_rfl
      · exact Blk.new' _ rfl
      · refine AS.go (wr := W) ⟨HM.out, HS2.out.stop, HS2.out.res, HS2.out.want, HS2.out.row, HS2.out.seq, HS2.out.keep, HS2.out.lt, HS2.out.ne⟩ ((Keep.refl _ _).alloc _)
    case hstop =>
      intro D O cd s W hD hOD hO hI hm
      obtain ⟨⟨rfl, rfl, hst⟩, hI1, hI2⟩ := hI
      have hS2 := HSr.out.go hI2
      have hDw : wr.heap.size ≤ D := by omega
      have hm2 := HSr.out.marks.cons hI2 (fun _ _ _ => no _) hDw (Nat.le_trans HSr.out.keep.size hDw) hm
      obtain ⟨zr, r0, fr⟩ := hI1.one
      obtain ⟨zw, v0, fw⟩ := hS2.want.one
      obtain ⟨zi, i1, fi⟩ := (HBi.out.mod hI2 (no _)).one
      obtain ⟨zs, s0, fs⟩ := hS2.stop.one
      obtain ⟨a', c', hv⟩ := own_slice hS2.row
      rw [hv] at v0
      rw [← hst] at s0
      have HM := hid hm2
      have HS2 := hid hS2
      have hsl : (s.length = xs.length) ∨ ¬ (s.length = xs.length) := Classical.em _
      clear hI1 hm hm2 hS2 hD hO hOD hv hst hlt hi
      rcases hsl with hsl | hsl
      all_goals
        have hsd : ((s.length : Int) == (xs.length : Int)) = decide (s.length = xs.length) := by rw [Bool.eq_iff_iff]; simp; omega
        go_wp2
        have hbb : w.heap.size + 1 < W.heap.size ∧ bw < W.heap.size := ⟨HS2.out.res.lt, HS2.out.want.lt⟩
        refine ⟨2 - 1, by omega, ?e, 1, rfl, by omega, ⟨by omega, by omega⟩, ?_, ?_⟩
        case e => kernel_rfl
        · exact Blk.new' _ rfl
        · exact AS.go (wr := W) ⟨HM.out, HS2.out.stop, HS2.out.res, HS2.out.want, HS2.out.row, HS2.out.seq, HS2.out.keep, HS2.out.lt, HS2.out.ne⟩ ((Keep.refl _ _).alloc _)
  · have hi2 : i = 2 := by omega
    subst hi2
    have hm := HSr.out.marks
    have hk := HSr.out.keep
    obtain ⟨z8, c8, f8⟩ := HSr.out.res.one
    have HM := hid hm
    have HKw := hid hk
    have HB2 := hid (HSr.out.res.set 0 (.bool true))
    have HN2 := hid (Blk.notMark HSr.out.res)
    clear hm hk
    go_wp2
    refine marks_end (base := w.heap.size) (HM.out.keep (S := fun k => k = w.heap.size + 1) ((Keep.refl _ _).setCell _ _ (fun _ => rfl)) (fun k _ hk e => ?_)) fun W2 hW2 => ⟨_, res_b rfl _ rfl (HB2.out.mod hW2 (fun h => ?_)), rfl, ?_⟩
    · exact HN2.out (by rw [← e]; exact hk)
    · exact Blk.notMark HB2.out h.2
    · exact (HKw.out.setCell _ _ (fun h => absurd h (by simp))).trans hW2 (fun k hk h => by have := h.1; omega)
end Go.Proofs.Ytaijfgajcmopfaa.Z3
/- Fork of the program's index. -/
set_option linter.unusedVariables false
set_option linter.unusedSimpArgs false
namespace Go.Proofs.Ytaijfgajcmopfaa.Y10
open Go.RowKit Go.Shelf V Rh T W1 W2 W3 W4 W6 Rf X1 X2 X3 X4 X5 X6 Pl Y1 Y2 Y3 Y4 Y5 Y6 Y8 Y11 Ap

section
variable {w : World} {bx bl most : Nat} {bts bss : List Nat} {Ls : List (List Ent)}

theorem fork_is {w : World} {bt bs most : Nat} {L : List Ent} (h : Is w bt bs most L) : Calls Try.prog 42 #[.pointer (some ⟨bt, 0, none⟩)] w fun e w' => ∃ bt' bs', e = .returned (.pointer (some ⟨bt', 0, none⟩)) ∧ w.heap.size ≤ bt' ∧ w.heap.size ≤ bs' ∧ bt' ≠ bs' ∧ Is w' bt' bs' most L ∧ Keep No w w' := by
  obtain ⟨bits, es, hT, hI⟩ := h
  exact (fork_any bt bs bits most _ es L w hT hI).mono fun e w' ⟨bt', bs', h1, h2, h3, h4, h5⟩ => ⟨bt', bs', h1, h2, h3, h4.ne, ⟨bits, es, h4, hI⟩, h5⟩

set_option maxRecDepth 100000 in
set_option maxHeartbeats 2000000 in
theorem ifork_any (hX : Idx w bx bl bts bss most Ls) :
    Calls Try.prog 15 #[ptr bx] w fun e w' => ∃ bx' bl' bts' bss', e = .returned (ptr bx') ∧ Idx w' bx' bl' bts' bss' most Ls ∧ (∀ j, Foot bx' bl' bts' bss' j → w.heap.size ≤ j) ∧ Keep No w w' := by
  obtain ⟨cap, hb⟩ := hX.head
  obtain ⟨z0, c0, f0⟩ := hb.one
  have hmk : Making w (w.alloc (.cells #[.slice none 0 0] 58)) w.heap.size (.slice none 0 0) [] [] most 0 Ls :=
    ⟨Blk.new' _ rfl, World.ownsRow_nil _ _ _ _, rfl, rfl, fun i hi => absurd hi (by omega), List.nodup_nil, fun j hj => by simp at hj, (Keep.refl _ _).alloc _, Nat.le_refl _⟩
  have HMK := hid hmk
  have HX := hid hX
  have hq : ∀ W : World, (binOp .eql 56 (.slice (some ⟨bl, 0, none⟩) Ls.length cap) (.slice none 0 0)).run Try.prog W = .ok (.bool false) W := fun W => by kernel_rfl
  clear hmk hX hb
  obtain ⟨t0, hi, hz0, hz1, hz2⟩ := info_parts info70
  unfold ptr
  have hn0 : (0 : Int) ≤ (Ls.length : Int) := by omega
  go_enter Try.func15, Try.ntmps15
  go_wp2
  go_loopw [22] (fun i wr => ∃ (k : Nat) (v : Value) (bts' bss' : List Nat), i = .int .i64 k ∧ k ≤ Ls.length ∧ Hid (Making w wr w.heap.size v bts' bss' most k Ls ∧ (k = 0 ∨ v ≠ .slice none 0 0))) (fun i wr => Ls.length - (intOf i).toNat)
  case atStart => exact ⟨0, _, [], [], rfl, Nat.zero_le _, HMK.out, .inl rfl⟩
  case round =>
    obtain ⟨k, v, bts', bss', rfl, hkn, HM⟩ := hrel
    obtain ⟨z2, d1, g0⟩ := HM.out.1.head.one
    by_cases hk : k < Ls.length
    · have hk0 : (0 : Int) ≤ k := by omega
      have hk' : (k : Int) < Ls.length := by omega
      have hk2 : (k : Int) ≤ 64 := by have := HX.out.most64; omega
      have hXr := HX.out.keep HM.out.1.keep (fun _ _ => no _)
      have hat := hXr.at hk
      have hfk := fun W (hW : Keep No wr W) => fork_is ((hXr.keep hW (fun _ _ => no _)).tabs k hk)
      obtain ⟨x0, hx0⟩ : ∃ x, bts.getD k 0 = x := ⟨_, rfl⟩
      rw [hx0] at hat hfk
      have HFK := hid hfk
      have h64 := HX.out.most64
      clear hXr hfk hx0
      unfold ptr at hat
      go_wp2
      have S1 : Hid (∀ V : World, Keep No wr V → V.cell? ⟨w.heap.size, 0, none⟩ = some v) := fun V hV => (World.cell?_of_block (hV.block _ z2 (no _))).trans d1
      have hm3 : k + 1 ≤ maxLen := by unfold maxLen; omega
      have hm4 : (k + 1) * 8 ≤ 140737488355328 := by omega
      have hb2 : w.heap.size + 1 ≤ wr.heap.size := by omega
      have M := hid (And.intro hm3 (And.intro hm4 hb2))
      clear hm3 hm4 hb2 h64
      have hS0 := S1.out _ ((Keep.refl No wr).drew)
      refine Pop.wp_region_pop (m := 11) (S := fun w' => w'.cell? ⟨w.heap.size, 0, none⟩ = some v) (by kernel_rfl) (by kernel_rfl) ?_
      refine wpAnyH_take (i := 0) (v := ?_) rfl (by kernel_rfl) (by kernel_rfl) (by kernel_rfl) (fun _ _ _ h => h) (Or.inl ⟨by rfl, ?_⟩) (hS0) ?_
      rotate_left
      · (intro w hSw; obtain q1 := hSw; go_simp; try with_reducible rfl)
      simp only [Act.put, List.setIfInBounds_toArray, List.set_cons_zero, List.set_cons_succ]
      refine wpAnyH_take (i := 1) (v := ?_) rfl (by kernel_rfl) (by kernel_rfl) (by kernel_rfl) (fun _ _ _ h => h) (Or.inl ⟨by rfl, ?_⟩) (hS0) ?_
      rotate_left
      · (intro w hSw; obtain q1 := hSw; go_simp; try with_reducible rfl)
      simp only [Act.put, List.setIfInBounds_toArray, List.set_cons_zero, List.set_cons_succ]
      refine wpAnyH_take (i := 2) (v := ?_) rfl (by kernel_rfl) (by kernel_rfl) (by kernel_rfl) (fun _ _ _ h => h) (Or.inl ⟨by rfl, ?_⟩) (hS0) ?_
      rotate_left
      · (intro w hSw; obtain q1 := hSw; go_simp; try with_reducible rfl)
      simp only [Act.put, List.setIfInBounds_toArray, List.set_cons_zero, List.set_cons_succ]
      refine wpAnyH_take (i := 3) (v := ?_) rfl (by kernel_rfl) (by kernel_rfl) (by kernel_rfl) (fun _ _ _ h => h) (Or.inl ⟨by rfl, ?_⟩) (hS0) ?_
      rotate_left
      · (intro w hSw; obtain q1 := hSw; go_simp; try with_reducible rfl)
      simp only [Act.put, List.setIfInBounds_toArray, List.set_cons_zero, List.set_cons_succ]
      refine wpAnyH_take (i := 4) (v := ?_) rfl (by kernel_rfl) (by kernel_rfl) (by kernel_rfl) (fun _ _ _ h => h) (Or.inl ⟨by rfl, ?_⟩) (hS0) ?_
      rotate_left
      · (intro w hSw; obtain q1 := hSw; go_simp; try with_reducible rfl)
      simp only [Act.put, List.setIfInBounds_toArray, List.set_cons_zero, List.set_cons_succ]
      refine wpAnyH_take (i := 5) (v := ?_) rfl (by kernel_rfl) (by kernel_rfl) (by kernel_rfl) (fun _ _ _ h => h) (Or.inl ⟨by rfl, ?_⟩) (hS0) ?_
      rotate_left
      · (intro w hSw; obtain q1 := hSw; go_simp; try with_reducible rfl)
      simp only [Act.put, List.setIfInBounds_toArray, List.set_cons_zero, List.set_cons_succ]
      refine wpAnyH_ready (rs := [6]) (by kernel_rfl) (by simp) (AllReadyH.cons (i := 6) rfl (fun K' hK => ?_) AllReadyH.nil)
      go_simp
      refine (HFK.out _ ((Keep.refl No wr).drew)).mono ?_
      rintro e w1 ⟨bt1, bs1, rfl, q1, q2, q3, q4, q5⟩
      have hK1 : Keep No wr w1 := ((Keep.refl No wr).drew).trans q5 (fun _ _ e => e)
      refine hK.out _ _ (S1.out _ hK1) (fun _ => ?_)
      clear hK
      have HI := hid q4
      have HBT : Hid (wr.heap.size ≤ bt1) := q1
      have HBS : Hid (wr.heap.size ≤ bs1) := q2
      have HNE := hid q3
      have HK1 := hid hK1
      clear q1 q2 q3 q4 q5 hK1
      refine wpAnyH_ready (rs := [7]) (by kernel_rfl) (by simp) (AllReadyH.cons (i := 7) rfl (fun K' hK => ?_) AllReadyH.nil)
      go_simp
      refine hK.out _ _ (S1.out _ (HK1.out.alloc _)) (fun _ => ?_)
      clear hK
      refine wpAnyH_ready (rs := [8]) (by kernel_rfl) (by simp) (AllReadyH.cons (i := 8) rfl (fun K' hK => ?_) AllReadyH.nil)
      refine step_append_src _ (by rfl) (.tmp 30) (.tmp 33) 56 (by rfl) (w.heap.size + 1) 70 t0 (.pointer none) 1 8 Try.underlying56 hi hz0 hz1 hz2 rfl (by decide) v k (bts'.map ptr) (by rfl) (own_keep HM.out.1.row (HK1.out.alloc (.cells #[.pointer (some ⟨bt1, 0, none⟩)] 70)) (fun _ _ => no _)) (.slice (some ⟨w1.heap.size, 0, none⟩) 1 1) 1 [.pointer (some ⟨bt1, 0, none⟩)] (by rfl) (Src.one w1 _ 70) (by rfl) ?c1 M.out.1 M.out.2.1 ?c2 ?c3
      case c1 => intro u hu; simp only [List.mem_singleton] at hu; subst hu; rfl
      case c2 => have := HK1.out.size; have := M.out.2.2; simp; omega
      case c3 =>
        intro v2 w3 ho2 hg2 hi2 hb2
        have hK3 : Keep (fun j => v.ownBlock = some j) wr w3 := ((HK1.out.alloc _).mono (fun _ _ e => e.elim)).grown hg2 (fun k e _ => e)
        have hne : v.ownBlock ≠ some w.heap.size := fun e => by have := (HM.out.1.row.lt _ e).1; omega
        have hbn := HM.out.1.head.mod hK3 hne
        obtain ⟨z3, d3, g3⟩ := hbn.one
        refine hK.out _ _ d3 (fun _ => ?_)
        clear hK
        change wpAnyH _ _ _ _ _ _ _ (Act.put _ (some 34) _) _
        simp only [Act.put, List.setIfInBounds_toArray, List.set_cons_zero, List.set_cons_succ]
        refine wpAnyH_take (i := 9) (v := ?_) rfl (by kernel_rfl) (by kernel_rfl) (by kernel_rfl) (fun _ _ _ h => h) (Or.inl ⟨by rfl, ?_⟩) (d3) ?_
        rotate_left
        · (intro w hSw; obtain q1 := hSw; go_simp; try with_reducible rfl)
        simp only [Act.put, List.setIfInBounds_toArray, List.set_cons_zero, List.set_cons_succ]
        refine wpAnyH_take (i := 10) (v := ?_) rfl (by kernel_rfl) (by kernel_rfl) (by kernel_rfl) (fun _ _ _ h => h) (Or.inl ⟨by rfl, ?_⟩) (d3) ?_
        rotate_left
        · (intro w hSw; obtain q1 := hSw; go_simp; try with_reducible rfl)
        simp only [Act.put, List.setIfInBounds_toArray, List.set_cons_zero, List.set_cons_succ]
        refine wpAnyH_done (by kernel_rfl) ?_ _
        refine Pop.before_normal ?_
        refine wpOp_step (i := 11) rfl (fun K' hK => ?_)
        have HF := hid (HM.out.1.push (bt := bt1) (bs := bs1) (HK1.out.alloc (.cells #[.pointer (some ⟨bt1, 0, none⟩)] 70)) HBT.out HBS.out HNE.out (is_keep HI.out ((Keep.refl No _).alloc _) (no _) (no _)) hg2 ho2 (by rcases hb2 with h4 | h4; exact .inl h4; exact .inr ⟨_, h4, Nat.le_refl _⟩))
        have hnn : v2 ≠ .slice none 0 0 := fun e => by have := (hi2.1 e).2; cases this
        have HNN := hid hnn
        clear ho2 hg2 hi2 hb2 hS0 hK3 hbn hnn
        obtain ⟨a2, m2, q2, rfl⟩ := own_some HF.out.row
        go_simp
        refine hK _ _ ?_
        go_wp2
        exact ⟨⟨k + 1, _, _, _, by go_num, by omega, HF.out, .inr HNN.out⟩, by simp [intOf]; omega⟩
    · have hke : k = Ls.length := by omega
      go_wp2
      go_ret
      obtain ⟨hm, hv⟩ := HM.out
      obtain ⟨bl', hR, hF⟩ := hm.idx hke (by rw [hke]; exact HX.out.pos) (by rw [hke]; exact HX.out.most64) (hv.resolve_left (by have := HX.out.pos; omega))
      exact ⟨_, bl', bts', bss', rfl, hR, hF, hm.keep⟩
end
end Go.Proofs.Ytaijfgajcmopfaa.Y10
/- A call of both indexes; all; Fork. -/
set_option linter.unusedVariables false
set_option linter.unusedSimpArgs false
namespace Go.Proofs.Ytaijfgajcmopfaa.Z4
open Go.RowKit Go.Shelf V Rh T W1 W2 W3 W4 W6 W10 Rf X1 X2 X3 X4 X5 X6 X7 Pl Y1 Y2 Y3 Y4 Y5 Y6 Y7 Y8 Y9 Y10 Y12 Y14 Ap Z1 Z2 Z3

section
variable {w : World} {q : Value} {most : Nat} {Ls : List (List Ent)} {G : Nat → Prop}

theorem rget_has (hH : RHas w q most Ls G) (hG : GoodL most Ls) (h : Int) (hh : 0 ≤ h) (hh2 : h < 18446744073709551616) :
    Calls Try.prog 33 #[q, .int .u64 h] w fun e w' => e = .returned (.tuple #[valE ((xget h Ls).getD z), .bool (xget h Ls).isSome]) ∧ Keep No w w' := by
  obtain ⟨br, ba, vs, rfl, hX, rfl⟩ := hH; exact rget_any hX hG h hh hh2
theorem rstripe_has (hH : RHas w q most Ls G) (h : Int) (hh : 0 ≤ h) (hh2 : h < 18446744073709551616) :
    Calls Try.prog 34 #[q, .int .u64 h] w fun e w' => e = .returned (.int .i64 (stripeI Ls.length h : Nat)) ∧ w = w' := by
  obtain ⟨br, ba, vs, rfl, hX, rfl⟩ := hH
  obtain ⟨cap, _, hb⟩ := hX.head
  exact rstripe_any br ba most _ cap h w hb hX.pos hX.most64 hh hh2
theorem rput_has (hH : RHas w q most Ls G) (hG : GoodL most Ls) (e : Ent) (hok : e.ok) :
    Calls Try.prog 32 #[q, valE e] w fun e' w' => e' = .returned (.tuple #[valE ((xput most e Ls).1.getD z), .bool (xput most e Ls).1.isSome, .int .i64 (xput most e Ls).2.1]) ∧ RThen w w' q most (xput most e Ls).2.2 G := by
  obtain ⟨br, ba, vs, rfl, hX, rfl⟩ := hH; exact rput_any hX hG e hok
theorem rremove_has (hH : RHas w q most Ls G) (hG : GoodL most Ls) (h : Int) (hh : 0 ≤ h) (hh2 : h < 18446744073709551616) :
    Calls Try.prog 35 #[q, .int .u64 h] w fun e w' => e = .returned (.tuple #[valE ((xget h Ls).getD z), .bool (xget h Ls).isSome]) ∧ RThen w w' q most (xrem h Ls) G := by
  obtain ⟨br, ba, vs, rfl, hX, rfl⟩ := hH; exact rremove_any hX hG h hh hh2
theorem rremIf_has (hH : RHas w q most Ls G) (hG : GoodL most Ls) (h a : Int) (hh : 0 ≤ h) (hh2 : h < 18446744073709551616) :
    Calls Try.prog 36 #[q, .int .u64 h, .int .u64 a] w fun e w' => e = .returned (.bool (xremIf h a Ls).1) ∧ RThen w w' q most (xremIf h a Ls).2 G := by
  obtain ⟨br, ba, vs, rfl, hX, rfl⟩ := hH; exact rremIf_any hX hG h a hh hh2
theorem rmove_has (hH : RHas w q most Ls G) (hG : GoodL most Ls) (h fr to : Int) (hh : 0 ≤ h) (hh2 : h < 18446744073709551616) :
    Calls Try.prog 37 #[q, .int .u64 h, .int .u64 fr, .int .u64 to] w fun e w' => e = .returned (.bool (xmove most h fr to Ls).1) ∧ RThen w w' q most (xmove most h fr to Ls).2 G := by
  obtain ⟨br, ba, vs, rfl, hX, rfl⟩ := hH; exact rmove_any hX hG h fr to hh hh2
theorem rhit_has (hH : RHas w q most Ls G) (hG : GoodL most Ls) (h : Int) (hh : 0 ≤ h) (hh2 : h < 18446744073709551616) :
    Calls Try.prog 38 #[q, .int .u64 h] w fun e w' => e = .returned (.bool (xget h Ls).isSome) ∧ RThen w w' q most (xhit h Ls) G := by
  obtain ⟨br, ba, vs, rfl, hX, rfl⟩ := hH; exact rhit_any hX hG h hh hh2
theorem rpurge_has (hH : RHas w q most Ls G) (hG : GoodL most Ls) (n r : Int) (hr2 : r < 9223372036854775808) :
    Calls Try.prog 39 #[q, .int .i64 n, .int .i64 r] w fun e w' => e = .returned (.int .i64 ((xall n Ls).countP (phit r) : Nat)) ∧ RThen w w' q most (xpurge n r Ls) G := by
  obtain ⟨br, ba, vs, rfl, hX, rfl⟩ := hH; exact rpurge_any hX hG n r hr2
theorem rlen_has (hH : RHas w q most Ls G) (n : Int) (h1 : -9223372036854775808 ≤ n) (h2 : n < 9223372036854775808) :
    Calls Try.prog 41 #[q, .int .i64 n] w fun e w' => e = .returned (.int .i64 (xall n Ls).length) ∧ w = w' := by
  obtain ⟨br, ba, vs, rfl, hX, rfl⟩ := hH; exact rlen_any hX n h1 h2
theorem rentries_has (hH : RHas w q most Ls G) (hG : GoodL most Ls) (n : Int) :
    Calls Try.prog 60 #[q, .int .i64 n] w fun e w' => ∃ v, e = .returned v ∧ w'.ownsRow w.heap.size 27 4 v (xall n Ls).length (flat (xall n Ls)) ∧ Keep No w w' := by
  obtain ⟨br, ba, vs, rfl, hX, rfl⟩ := hH; exact rentries_any hX hG n
theorem rfork_has (hH : RHas w q most Ls G) (hG : GoodL most Ls) :
    Calls Try.prog 16 #[q] w fun e w' => ∃ q' G', e = .returned q' ∧ RHas w' q' most Ls G' ∧ (∀ k, G' k → w.heap.size ≤ k) ∧ Keep No w w' := by
  obtain ⟨br, ba, vs, rfl, hX, rfl⟩ := hH
  exact (rfork_any hX hG).mono fun e w' ⟨br', ba', vs', h1, h2, h3, h4⟩ => ⟨_, _, h1, ⟨_, _, _, rfl, h2, rfl⟩, h3, h4⟩
end

theorem fork_has {w : World} {p : Value} {most : Nat} {Ls : List (List Ent)} {F : Nat → Prop} (hH : Has w p most Ls F) :
    Calls Try.prog 15 #[p] w fun e w' => ∃ b F', e = .returned (ptr b) ∧ Has w' (ptr b) most Ls F' ∧ (∀ k, F' k → w.heap.size ≤ k) ∧ Keep No w w' := by
  obtain ⟨bx, bl, bts, bss, rfl, hX, rfl⟩ := hH
  exact (ifork_any hX).mono fun e w' ⟨bx', bl', bts', bss', h1, h2, h3, h4⟩ => ⟨_, _, h1, ⟨_, _, _, _, rfl, h2, rfl⟩, h3, h4⟩

theorem xall_small {most : Nat} {Ls : List (List Ent)} (hG : GoodL most Ls) (n : Int) : (xall n Ls).length ≤ 65536 := by
  unfold xall
  split
  · exact GoodL.small hG (by omega)
  · exact Nat.zero_le _

section
variable {w : World} {p q : Value} {most : Nat} {Ls : List (List Ent)} {F G : Nat → Prop}

theorem all_both (hB : Both w p q most Ls F G) (n stop : Int) : Calls Try.prog 40 #[p, q, .int .i64 n, .int .i64 stop] w fun e w' => e = .returned (.bool true) ∧ Keep No w w' :=
  all_same n stop (xall n Ls) (xall_small hB.good n) (fun W hW => rentries_has (hB.rhas.keep hW (fun _ _ => no _)) hB.good n) (fun W hW => all_has (hB.has.keep hW (fun _ _ => no _)) n)

theorem does_both (hB : Both w p q most Ls F G) (o : Opr) (hok : o.ok) :
    Calls Try.prog 14 #[p, q, valO o] w fun e w' => e = .returned (.bool true) ∧ BThen w w' p q most (xdo most o Ls) F G := by
  obtain ⟨he, ha1, ha2, hn1, hn2, hm1, hm2⟩ := hok
  have hg := hB.good
  have kA : ∀ W, Keep No w W → Has W p most Ls F := fun W hW => hB.has.keep hW (fun _ _ => no _)
  have kN : ∀ W, Keep No w W → RHas W q most Ls G := fun W hW => hB.rhas.keep hW (fun _ _ => no _)
  have kR : ∀ W, Keep F w W → RHas W q most Ls G := fun W hW => hB.rhas.keep hW (fun k hk hf => hB.off k hf hk)
  have hh := he.1
  have hh2 := he.2.1
  unfold xdo
  by_cases h0 : o.k = 0
  · rw [if_pos h0]
    exact does_put hB o _ _ _ (fun W hW => put_has (kA W hW) o.e he) (fun W hW => rput_has (kR W hW) hg o.e he) h0
  rw [if_neg h0]
  by_cases h2 : o.k = 2
  · rw [if_pos h2]
    exact does_remove hB o _ _ (fun W hW => remove_has (kA W hW) o.e.h hh hh2) (fun W hW => rremove_has (kR W hW) hg o.e.h hh hh2) h2
  rw [if_neg h2]
  by_cases h3 : o.k = 3
  · rw [if_pos h3]
    exact does_removeIf hB o _ (fun W hW => remIf_has (kA W hW) o.e.h o.at' hh hh2) (fun W hW => rremIf_has (kR W hW) hg o.e.h o.at' hh hh2) h3
  rw [if_neg h3]
  by_cases h4 : o.k = 4
  · rw [if_pos h4]
    exact does_move hB o _ (fun W hW => move_has (kA W hW) o.e.h o.at' o.e.a hh hh2 he.2.2.1 he.2.2.2.1) (fun W hW => rmove_has (kR W hW) hg o.e.h o.at' o.e.a hh hh2) h4
  rw [if_neg h4]
  by_cases h5 : o.k = 5
  · rw [if_pos h5]
    exact does_hit hB o _ (fun W hW => hit_has (kA W hW) o.e.h hh hh2) (fun W hW => rhit_has (kR W hW) hg o.e.h hh hh2) h5
  rw [if_neg h5]
  by_cases h6 : o.k = 6
  · rw [if_pos h6]
    exact does_purge hB o _ (fun W hW => purge_has (kA W hW) o.n o.m hm1 hm2) (fun W hW => rpurge_has (kR W hW) hg o.n o.m hm2) h6
  rw [if_neg h6]
  have fin : ∀ {e : Ending} {w' : World}, e = .returned (.bool true) ∧ Keep No w w' → e = .returned (.bool true) ∧ BThen w w' p q most Ls F G := fun h => ⟨h.1, hB.stays h.2⟩
  by_cases h1 : o.k = 1
  · exact (does_get o _ _ _ (fun W hW => get_has (kA W hW) o.e.h hh hh2) (fun W hW => rget_has (kN W hW) hg o.e.h hh hh2) (fun W hW => stripe_has (kA W hW) o.e.h hh hh2) (fun W hW => rstripe_has (kN W hW) o.e.h hh hh2) h1).mono fun e w' h => fin h
  by_cases h7 : o.k = 7
  · exact (does_all o (fun W hW => all_both (hB.keep hW (fun _ _ => no _)) o.n o.m) h7).mono fun e w' h => fin h
  by_cases h8 : o.k = 8
  · obtain ⟨br, ba, vs, hq, hX, _⟩ := id hB.rhas
    obtain ⟨cap, _, hb⟩ := hX.head
    exact (does_len o _ br most Ls.length cap _ hq hb (fun W hW => len_has (kA W hW) o.n) (fun W hW => rlen_has (kN W hW) o.n hn1 hn2) (fun W hW => stripes_has (kA W hW)) h8).mono fun e w' h => fin h
  exact (does_none o (by simpa using h0) (by simpa using h1) (by simpa using h2) (by simpa using h3) (by simpa using h4) (by simpa using h5) (by simpa using h6) (by simpa using h7) (by simpa using h8)).mono fun e w' h => fin h
end
end Go.Proofs.Ytaijfgajcmopfaa.Z4
/- same, begin (law). -/
set_option linter.unusedVariables false
set_option linter.unusedSimpArgs false
namespace Go.Proofs.Ytaijfgajcmopfaa.Z5
open Go.RowKit Go.Shelf V Rh T W1 W2 W3 W4 W6 W10 Rf X1 X2 X3 X4 X5 X6 X7 Pl Y1 Y2 Y3 Y4 Y5 Y6 Y7 Y8 Y9 Y10 Y12 Y14 Ap Z1 Z2 Z3 Z4

set_option maxRecDepth 100000 in
set_option maxHeartbeats 1000000 in
theorem same_both {w : World} {p q : Value} {most : Nat} {Ls : List (List Ent)} {F G : Nat → Prop} (hB : Both w p q most Ls F G) : Calls Try.prog 17 #[p, q] w fun e w' => e = .returned (.bool true) ∧ Keep No w w' := by
  obtain ⟨br, ba, vs, rfl, hX, _⟩ := id hB.rhas
  obtain ⟨cap, hcap, hb⟩ := hX.head
  have hn64 := hX.most64
  have hall : ∀ (k : Int) W, Keep No w W → Calls Try.prog 40 #[p, ptr br, .int .i64 k, .int .i64 1] W fun e w' => e = .returned (.bool true) ∧ Keep No W w' := fun k W hW => all_both (hB.keep hW (fun _ _ => no _)) k 1
  have hlen : ∀ (k : Int) W, Keep No w W → Calls Try.prog 19 #[p, .int .i64 k] W fun e w' => e = .returned (.int .i64 (xall k Ls).length) ∧ W = w' := fun k W hW => len_has (hB.has.keep hW (fun _ _ => no _)) k
  have hrlen : ∀ (k : Int), -9223372036854775808 ≤ k → k < 9223372036854775808 → ∀ W, Keep No w W → Calls Try.prog 41 #[ptr br, .int .i64 k] W fun e w' => e = .returned (.int .i64 (xall k Ls).length) ∧ W = w' := fun k h1 h2 W hW => rlen_has (hB.rhas.keep hW (fun _ _ => no _)) k h1 h2
  have HALL := hid hall
  have HLEN := hid hlen
  have HRL := hid hrlen
  have HB := hid hb
  clear hB hX hb hall hlen hrlen hcap
  unfold ptr at *
  generalize Ls.length = n at *
  go_enter Try.func17, Try.ntmps17
  go_wp2
  go_loopw [5] (fun s wr => ∃ k : Int, s = .int .i64 k ∧ -1 ≤ k ∧ k ≤ n + 1 ∧ Keep No w wr) (fun s wr => (n + 1 - intOf s).toNat)
  case atStart => exact ⟨-1, rfl, by omega, by omega, Keep.refl _ _⟩
  case round =>
    obtain ⟨k, rfl, hk1, hk2, hK⟩ := hrel
    obtain ⟨z1, d0, d1, g0⟩ := (HB.out.mod hK (no _)).two
    have HK := hid hK
    clear hK
    have hk3 : k ≤ 65 := by omega
    by_cases hkn : k ≤ n
    · go_wp2_with (first | (go_at_call 40; refine (HALL.out k _ HK.out).mono ?_; rintro e w1 ⟨rfl, hk⟩; have HK1 := hid (HK.out.trans hk (fun _ _ e => e)); clear hk) | (go_at_call 19; refine (HLEN.out k _ HK1.out).mono ?_; rintro e w2 ⟨rfl, rfl⟩) | (go_at_call 41; refine (HRL.out k (by omega) (by omega) _ HK1.out).mono ?_; rintro e w2 ⟨rfl, rfl⟩))
      exact ⟨⟨k + 1, by go_num, by omega, by omega, HK1.out⟩, by simp [intOf]; omega⟩
    · go_wp2
      go_ret
      exact ⟨rfl, HK.out⟩

/-- the fields of a script -/
def valS (n b m : Int) (d : Value) : Value := .agg #[.int .i64 n, .int .i64 b, .int .i64 m, d]
def I64 (x : Int) : Prop := -9223372036854775808 ≤ x ∧ x < 9223372036854775808

set_option maxRecDepth 100000 in
set_option maxHeartbeats 1000000 in
theorem begin_bad (n b m : Int) (d : Value) (w : World) (err : Int) (hx : ∀ W, Keep No w W → Calls Try.prog 30 #[.int .i64 n, .int .i64 b, .int .i64 m] W fun e w' => e = .returned (.tuple #[.pointer none, .int .i64 err]) ∧ Keep No W w')
    (hr : ∀ W, Keep No w W → Calls Try.prog 31 #[.int .i64 n, .int .i64 b, .int .i64 m] W fun e w' => e = .returned (.tuple #[.pointer none, .int .i64 err]) ∧ W = w') :
    Calls Try.prog 13 #[valS n b m d] w fun e w' => e = .returned (.tuple #[.pointer none, .pointer none, .bool true]) ∧ Keep No w w' := by
  have HB : Hid (Blk (w.alloc (.cells #[.int .i64 n, .int .i64 b, .int .i64 m, d] 24)) w.heap.size [.int .i64 n, .int .i64 b, .int .i64 m, d] 24) := Blk.new' _ rfl
  have HX := hid hx
  have HR := hid hr
  clear hx hr
  unfold valS
  go_enter Try.func13, Try.ntmps13
  go_wp2_with (first | (go_at_call 30; refine (HX.out _ ((Keep.refl _ _).alloc _)).mono ?_; rintro e w1 ⟨rfl, hk⟩; obtain ⟨z0, c0, c1, c2, c3, _⟩ := (HB.out.mod hk (no _)).four; have HK := hid (((Keep.refl No w).alloc _).trans hk (fun _ _ e => e)); clear hk) | (go_at_call 31; refine (HR.out _ HK.out).mono ?_; rintro e w2 ⟨rfl, rfl⟩) | (go_at_call 18; refine (awake_any _).mono ?_; rintro e w3 ⟨rfl, hk⟩; have HK3 := hid (HK.out.trans hk (fun _ _ e => e)); clear hk))
  go_ret3
  exact ⟨rfl, HK3.out⟩

set_option maxRecDepth 100000 in
set_option maxHeartbeats 1000000 in
theorem begin_good (n b m : Nat) (d : Value) (w : World) (h1 : 1 ≤ n) (h2 : n ≤ 64) (hb : 2 ≤ b) (hm : b ≤ m) (h16 : m ≤ 16) :
    Calls Try.prog 13 #[valS n b m d] w fun e w' => ∃ bx br F G, e = .returned (.tuple #[ptr bx, ptr br, .bool true]) ∧ Both w' (ptr bx) (ptr br) m (List.replicate n []) F G ∧ (∀ k, F k ∨ G k → w.heap.size ≤ k) ∧ Keep No w w' := by
  have HB : Hid (Blk (w.alloc (.cells #[.int .i64 n, .int .i64 b, .int .i64 m, d] 24)) w.heap.size [.int .i64 n, .int .i64 b, .int .i64 m, d] 24) := Blk.new' _ rfl
  have HX : Hid (∀ W, _) := hid (fun W => new_any n b m W h1 h2 hb hm h16)
  have HR : Hid (∀ W, _) := hid (fun W => rnew_any n b m W h1 h2 hb hm h16)
  unfold valS ptr at *
  go_enter Try.func13, Try.ntmps13
  go_wp2_with (first | (go_at_call 30; refine (HX.out _).mono ?_; rintro e w1 ⟨bx, rfl, bl, bts, bss, hX, hF, hk⟩; obtain ⟨z0, c0, c1, c2, c3, _⟩ := (HB.out.mod hk (no _)).four; have HK := hid (((Keep.refl No w).alloc _).trans hk (fun _ _ e => e)); have HXX := hid hX; have HF := hid hF; clear hk hX hF) | (go_at_call 31; refine (HR.out _).mono ?_; rintro e w2 ⟨br, ba, vs, rfl, hR, hG, hk⟩; have HRR := hid hR; have HG := hid hG; have HK2 := hid hk; clear hR hG hk) | (go_at_call 18; refine (awake_any _).mono ?_; rintro e w3 ⟨rfl, hk⟩; have HK3 := hid hk; clear hk))
  go_ret3
  have hsz : w.heap.size ≤ w1.heap.size := HK.out.size
  refine ⟨bx, br, _, _, rfl, ⟨⟨_, _, _, _, rfl, (HXX.out.keep HK2.out (fun _ _ => no _)).keep HK3.out (fun _ _ => no _), rfl⟩, ⟨_, _, _, rfl, HRR.out.keep HK3.out (fun _ _ => no _), rfl⟩, fun k hk hg => ?_⟩, ?_, (HK.out.trans HK2.out (fun _ _ e => e)).trans HK3.out (fun _ _ e => e)⟩
  · have := HXX.out.foot_lt k hk
    have := HG.out k hg
    omega
  · rintro k (hk | hk)
    · have := HF.out k hk; simp at this; omega
    · have := HG.out k hk; omega
end Go.Proofs.Ytaijfgajcmopfaa.Z5
/- played (law). -/
set_option linter.unusedVariables false
set_option linter.unusedSimpArgs false
namespace Go.Proofs.Ytaijfgajcmopfaa.Z6
open Go.RowKit Go.Shelf V Rh T W1 W2 W3 W4 W6 W10 Rf X1 X2 X3 X4 X5 X6 X7 Pl Y1 Y2 Y3 Y4 Y5 Y6 Y7 Y8 Y9 Y10 Y12 Y14 Ap Ar Z1 Z2 Z3 Z4 Z5

def badS (n b m : Int) : Prop := n < 1 ∨ 64 < n ∨ badB b m
def lists0 (n : Int) : List (List Ent) := List.replicate n.toNat []
def playL (most : Nat) (os : List Opr) (Ls : List (List Ent)) : List (List Ent) := os.foldl (fun L o => xdo most o L) Ls
theorem playL_snoc (most : Nat) (os : List Opr) (o : Opr) (Ls : List (List Ent)) : playL most (os ++ [o]) Ls = xdo most o (playL most os Ls) := by simp [playL]

theorem begin_no (n b m : Int) (d : Value) (w : World) (h : badS n b m) :
    Calls Try.prog 13 #[valS n b m d] w fun e w' => e = .returned (.tuple #[.pointer none, .pointer none, .bool true]) ∧ Keep No w w' := by
  by_cases h1 : n < 1 ∨ 64 < n
  · exact begin_bad n b m d w 1 (fun W _ => (new_arg n b m W h1).mono fun e w' hw => ⟨hw.1, hw.2 ▸ Keep.refl _ _⟩) (fun W _ => rnew_arg n b m W h1)
  · have h2 : badB b m := by rcases h with h | h | h; exact absurd (.inl h) h1; exact absurd (.inr h) h1; exact h
    exact begin_bad n b m d w 110 (fun W _ => new_bits n b m W (by omega) (by omega) h2) (fun W _ => rnew_bits n b m W (by omega) (by omega) h2)
theorem begin_yes (n b m : Int) (d : Value) (w : World) (h : ¬ badS n b m) :
    Calls Try.prog 13 #[valS n b m d] w fun e w' => ∃ bx br F G, e = .returned (.tuple #[ptr bx, ptr br, .bool true]) ∧ Both w' (ptr bx) (ptr br) m.toNat (lists0 n) F G ∧ (∀ k, F k ∨ G k → w.heap.size ≤ k) ∧ Keep No w w' := by
  have h1 : 1 ≤ n ∧ n ≤ 64 ∧ 2 ≤ b ∧ b ≤ m ∧ m ≤ 16 := by
    unfold badS badB at h
    omega
  obtain ⟨n', rfl⟩ := Int.eq_ofNat_of_zero_le (show 0 ≤ n by omega)
  obtain ⟨b', rfl⟩ := Int.eq_ofNat_of_zero_le (show 0 ≤ b by omega)
  obtain ⟨m', rfl⟩ := Int.eq_ofNat_of_zero_le (show 0 ≤ m by omega)
  exact begin_good n' b' m' d w (by omega) (by omega) (by omega) (by omega) (by omega)

/-- calls played on both, so far -/
structure Play (w wr : World) (p q : Value) (most : Nat) (Ls : List (List Ent)) (F G : Nat → Prop) : Prop where
  both : Both wr p q most Ls F G
  new : ∀ k, F k ∨ G k → w.heap.size ≤ k
  keep : Keep No w wr

theorem Play.go {w wr wr' : World} {p q : Value} {most : Nat} {Ls : List (List Ent)} {F G : Nat → Prop} (h : Play w wr p q most Ls F G) (k : Keep No wr wr') : Play w wr' p q most Ls F G :=
  ⟨h.both.keep k (fun _ _ => no _), h.new, h.keep.trans k (fun _ _ e => e)⟩
theorem Play.then {w wr wr' : World} {p q : Value} {most : Nat} {Ls Ls' : List (List Ent)} {F G : Nat → Prop} (h : Play w wr p q most Ls F G) (k : BThen wr wr' p q most Ls' F G) : ∃ F' G', Play w wr' p q most Ls' F' G' := by
  obtain ⟨k1, F', G', k2, k3, k4⟩ := k
  have hs := h.keep.size
  refine ⟨F', G', k2, ?_, h.keep.trans k1 (fun i hi e => by have := h.new i e; omega)⟩
  rintro k (hk | hk)
  · rcases k3 k hk with e | e
    · exact h.new k (.inl e)
    · omega
  · rcases k4 k hk with e | e
    · exact h.new k (.inr e)
    · omega

set_option maxRecDepth 100000 in
set_option maxHeartbeats 1000000 in
theorem played_no (n b m : Int) (d : Value) (w : World) (h : badS n b m) :
    Calls Try.prog 7 #[valS n b m d] w fun e w' => e = .returned (.tuple #[.pointer none, .bool true]) ∧ Keep No w w' := by
  have hb := fun W => begin_no n b m d W h
  have HB := hid hb
  clear hb h
  unfold valS at *
  go_enter Try.func7, Try.ntmps7
  go_wp2_with (go_at_call 13; refine (HB.out _).mono ?_; rintro e w1 ⟨rfl, hk⟩; have HK := hid (((Keep.refl No w).alloc _).trans hk (fun _ _ e => e)); clear hk)
  go_ret2
  exact ⟨rfl, HK.out⟩

set_option maxRecDepth 100000 in
set_option maxHeartbeats 1000000 in
theorem played_yes (n b m : Int) (d : Value) (os : List Opr) (w : World) (h : ¬ badS n b m) (hO : Ops w d os) :
    Calls Try.prog 7 #[valS n b m d] w fun e w' => ∃ bx br F G, e = .returned (.tuple #[ptr bx, .bool true]) ∧ Play w w' (ptr bx) (ptr br) m.toNat (playL m.toNat os (lists0 n)) F G := by
  have hb := fun W => begin_yes n b m d W h
  have HB := hid hb
  have HOK := hid hO.1
  have HLen := hid hO.2.1
  have HBx : Hid (Blk (w.alloc (.cells #[.int .i64 n, .int .i64 b, .int .i64 m, d] 24)) w.heap.size [.int .i64 n, .int .i64 b, .int .i64 m, d] 24) := Blk.new' _ rfl
  obtain ⟨a, cap, rfl, hform⟩ := hO.form
  have HF := hid hform
  clear hb h hO hform
  generalize lists0 n = Ls0 at *
  generalize m.toNat = most at *
  unfold valS ptr at *
  have hn0 : (0 : Int) ≤ (os.length : Int) := by omega
  obtain ⟨z0, c0, c1, c2, c3, _⟩ := HBx.out.four
  go_enter Try.func7, Try.ntmps7
  go_wp2_with fail
  refine (HB.out _).mono ?_
  rintro e w1 ⟨bx, br, F, G, rfl, hB, hN, hk⟩
  have hP : Play w w1 (ptr bx) (ptr br) most Ls0 F G := ⟨hB, fun k hk => by have := hN k hk; simp at this; omega, ((Keep.refl No w).alloc _).trans hk (fun _ _ e => e)⟩
  obtain ⟨y0, d0, d1, d2, d3, _⟩ := (HBx.out.mod hk (no _)).four
  have HP := hid hP
  clear hB hN hk hP c0 c1 c2 c3
  go_wp2
  go_loopw [2, 23] (fun x s wr => ∃ (i : Nat) (F G : Nat → Prop), x = .pointer (some ⟨bx, 0, none⟩) ∧ s = .int .i64 i ∧ i ≤ os.length ∧ Hid (Play w wr (ptr bx) (ptr br) most (playL most (os.take i) Ls0) F G)) (fun x s wr => os.length - (intOf s).toNat)
  case atStart => exact ⟨0, F, G, rfl, rfl, Nat.zero_le _, HP.out⟩
  case round =>
    obtain ⟨i, F, G, rfl, rfl, hi, HPi⟩ := hrel
    by_cases hil : i < os.length
    · have hil' : (i : Int) < os.length := by omega
      have hi0 : (0 : Int) ≤ i := by omega
      obtain ⟨ob, off, rfl, hob, hcells⟩ := HF.out i hil
      obtain ⟨o, ho⟩ : ∃ o, os.getD i ⟨0, z, 0, 0, 0⟩ = o := ⟨_, rfl⟩
      rw [ho] at hcells
      have hkw := HPi.out.keep
      have hcw : ∀ k u, (cellsO o)[k]? = some u → wr.cell? ⟨ob, off + i * 8 + k, none⟩ = some u := fun k u hu => (World.cell?_of_block (hkw.block ob hob (no _))).trans (hcells k u hu)
      have e0 : wr.cell? ⟨ob, off + i * 8, none⟩ = some (.int .i64 o.k) := hcw 0 _ rfl
      have e1 := hcw 1 _ rfl
      have e2 := hcw 2 _ rfl
      have e3 := hcw 3 _ rfl
      have e4 := hcw 4 _ rfl
      have e5 := hcw 5 _ rfl
      have e6 := hcw 6 _ rfl
      have e7 := hcw 7 _ rfl
      have hom : o ∈ os := by rw [← ho]; simp [List.getD_eq_getElem?_getD, hil]
      have htk : os.take (i + 1) = os.take i ++ [o] := by rw [List.take_succ_eq_append_getElem hil, ← ho]; simp [List.getD_eq_getElem?_getD, hil]
      have hdoes := fun W (hW : Keep No wr W) => does_both (HPi.out.both.keep hW (fun _ _ => no _)) o (HOK.out o hom)
      have HD := hid hdoes
      have HT := hid htk
      have hmx : (i : Int) + 1 ≤ 9223372036854775807 := by have := HLen.out; unfold maxLen at this; omega
      clear hcells hcw hkw ho hom hdoes htk
      unfold valO ptr at HD
      go_wp2_with (go_at_call 14; refine (HD.out _ ((Keep.refl _ _).alloc _)).mono ?_; rintro e w2 ⟨rfl, hT⟩; obtain ⟨F', G', hP'⟩ := (HPi.out.go ((Keep.refl _ _).alloc _)).then hT; have HP' := hid hP'; clear hT hP' e0 e1 e2 e3 e4 e5 e6 e7)
      refine ⟨⟨i + 1, F', G', rfl, by go_num, hil, ?_⟩, by simp [intOf]; omega⟩
      rw [HT.out, playL_snoc]
      exact HP'.out
    · have hie : i = os.length := by omega
      subst hie
      have hp := HPi.out
      rw [List.take_length] at hp
      have HPe := hid hp
      clear hp
      go_wp2
      go_ret2
      exact ⟨bx, br, F, G, rfl, HPe.out⟩
end Go.Proofs.Ytaijfgajcmopfaa.Z6
/- What a call tells and does, as a law on one stripe: calls on unlike stripes commute. 'one', 'stripeOf' of an index that stands for lists. -/
set_option linter.unusedVariables false
set_option linter.unusedSimpArgs false
namespace Go.Proofs.Ytaijfgajcmopfaa.A1
open Go.RowKit Go.Shelf V Rh T W1 W2 W3 W4 W6 W10 Rf X1 X2 X3 X4 X5 X6 X7 Pl Y1 Y9 Z1 Z4

structure Tell where
  a : Ent
  is : Bool
  e : Int
  n : Int

def told (most : Nat) (o : Opr) (Ls : List (List Ent)) : Tell :=
  if o.k = 0 then ⟨(xput most o.e Ls).1.getD z, (xput most o.e Ls).1.isSome, (xput most o.e Ls).2.1, 0⟩ else if o.k = 2 then ⟨(xget o.e.h Ls).getD z, (xget o.e.h Ls).isSome, 0, 0⟩ else if o.k = 3 then ⟨z, (xremIf o.e.h o.at' Ls).1, 0, 0⟩
  else if o.k = 4 then ⟨z, (xmove most o.e.h o.at' o.e.a Ls).1, 0, 0⟩ else if o.k = 5 then ⟨z, (xget o.e.h Ls).isSome, 0, 0⟩ else if o.k = 6 then ⟨z, false, 0, ((xall o.n Ls).countP (phit o.m) : Nat)⟩ else ⟨(xget o.e.h Ls).getD z, (xget o.e.h Ls).isSome, 0, 0⟩
/-- the stripe that a call is about, as the law says -/
def strOf (n : Nat) (o : Opr) : Int := if o.k = 6 then o.n else (stripeI n o.e.h : Nat)
/-- .. as a place; n: none -/
def place (n : Nat) (o : Opr) : Nat := if o.k = 6 then (if 0 ≤ o.n ∧ o.n < n then o.n.toNat else n) else stripeI n o.e.h

theorem set_self {Ls : List (List Ent)} {i : Nat} : Ls.set i (Ls.getD i []) = Ls := by
  by_cases hi : i < Ls.length
  · simp [hi]
  · exact List.set_eq_of_length_le (by omega)
theorem set_ite {p : Prop} [Decidable p] {Ls : List (List Ent)} {i : Nat} {L : List Ent} : (if p then Ls.set i L else Ls) = Ls.set i (if p then L else Ls.getD i []) := by
  split
  · rfl
  · exact set_self.symm

/-- a call acts on one stripe alone -/
theorem acts (most : Nat) (o : Opr) (n : Nat) : ∃ (f : List Ent → List Ent) (g : List Ent → Tell), ∀ Ls : List (List Ent), Ls.length = n → xdo most o Ls = Ls.set (place n o) (f (Ls.getD (place n o) [])) ∧ told most o Ls = g (Ls.getD (place n o) []) := by
  unfold xdo told place
  by_cases h0 : o.k = 0
  · simp only [h0, if_true, show ¬ (0 : Int) = 6 by decide, if_false]
    refine ⟨fun L => if o.e.a = 0 then L else if ∃ q, lget o.e.h L = some q ∧ o.e.v < q.v then L else (putR most o.e L).2.2,
      fun L => if o.e.a = 0 then ⟨z, false, 1, 0⟩ else if ∃ q, lget o.e.h L = some q ∧ o.e.v < q.v then ⟨z, false, 120, 0⟩ else ⟨(putR most o.e L).1.getD z, (putR most o.e L).1.isSome, (putR most o.e L).2.1, 0⟩, fun Ls hn => ?_⟩
    subst hn
    unfold xput xget xset sOf
    by_cases ha : o.e.a = 0
    · simp only [ha, if_true]
      exact ⟨set_self.symm, rfl⟩
    · simp only [ha, if_false]
      by_cases hv : ∃ q, lget o.e.h (Ls.getD (stripeI Ls.length o.e.h) []) = some q ∧ o.e.v < q.v
      · simp only [if_pos hv]
        exact ⟨set_self.symm, rfl⟩
      · simp only [if_neg hv]
        exact ⟨trivial, trivial⟩
  simp only [h0, if_false]
  by_cases h2 : o.k = 2
  · simp only [h2, if_true, show ¬ (2 : Int) = 6 by decide, if_false]
    refine ⟨fun L => lrem o.e.h L, fun L => ⟨(lget o.e.h L).getD z, (lget o.e.h L).isSome, 0, 0⟩, fun Ls hn => ?_⟩
    subst hn
    exact ⟨rfl, rfl⟩
  simp only [h2, if_false]
  by_cases h3 : o.k = 3
  · simp only [h3, if_true, show ¬ (3 : Int) = 6 by decide, if_false]
    refine ⟨fun L => match lget o.e.h L with | some q => if q.a = o.at' then lrem o.e.h L else L | none => L, fun L => match lget o.e.h L with | some q => if q.a = o.at' then ⟨z, true, 0, 0⟩ else ⟨z, false, 0, 0⟩ | none => ⟨z, false, 0, 0⟩, fun Ls hn => ?_⟩
    subst hn
    unfold xremIf xrem xget xset sOf
    dsimp only
    cases lget o.e.h (Ls.getD (stripeI Ls.length o.e.h) []) with
    | none => exact ⟨set_self.symm, rfl⟩
    | some q =>
      by_cases hq : q.a = o.at'
      · simp only [if_pos hq]; exact ⟨trivial, trivial⟩
      · simp only [if_neg hq]; exact ⟨set_self.symm, trivial⟩
  simp only [h3, if_false]
  by_cases h4 : o.k = 4
  · simp only [h4, if_true, show ¬ (4 : Int) = 6 by decide, if_false]
    refine ⟨fun L => match lget o.e.h L with | some q => if q.a = o.at' ∧ o.e.a ≠ 0 then (putR most { q with a := o.e.a } L).2.2 else L | none => L, fun L => match lget o.e.h L with | some q => if q.a = o.at' ∧ o.e.a ≠ 0 then ⟨z, true, 0, 0⟩ else ⟨z, false, 0, 0⟩ | none => ⟨z, false, 0, 0⟩, fun Ls hn => ?_⟩
    subst hn
    unfold xmove xget xset sOf
    dsimp only
    cases lget o.e.h (Ls.getD (stripeI Ls.length o.e.h) []) with
    | none => exact ⟨set_self.symm, rfl⟩
    | some q =>
      by_cases hq : q.a = o.at' ∧ o.e.a ≠ 0
      · simp only [if_pos hq]; exact ⟨trivial, trivial⟩
      · simp only [if_neg hq]; exact ⟨set_self.symm, trivial⟩
  simp only [h4, if_false]
  by_cases h5 : o.k = 5
  · simp only [h5, if_true, show ¬ (5 : Int) = 6 by decide, if_false]
    refine ⟨fun L => hitL o.e.h L, fun L => ⟨z, (lget o.e.h L).isSome, 0, 0⟩, fun Ls hn => ?_⟩
    subst hn
    exact ⟨rfl, rfl⟩
  simp only [h5, if_false]
  by_cases h6 : o.k = 6
  · simp only [h6, if_true]
    refine ⟨fun L => L.filter (notHit o.m), fun L => ⟨z, false, 0, (L.countP (phit o.m) : Nat)⟩, fun Ls hn => ?_⟩
    subst hn
    unfold xpurge xall
    by_cases hc : 0 ≤ o.n ∧ o.n < Ls.length
    · simp only [if_pos hc]; exact ⟨trivial, trivial⟩
    · simp only [if_neg hc]
      refine ⟨(List.set_eq_of_length_le (Nat.le_refl _)).symm, ?_⟩
      simp
  simp only [h6, if_false]
  refine ⟨fun L => L, fun L => ⟨(lget o.e.h L).getD z, (lget o.e.h L).isSome, 0, 0⟩, fun Ls hn => ?_⟩
  subst hn
  exact ⟨set_self.symm, rfl⟩

theorem place_ne {n : Nat} {o p : Opr} (hn : 1 ≤ n) (h : strOf n o ≠ strOf n p) : place n o ≠ place n p ∨ n ≤ place n o := by
  by_cases hlt : place n o < n
  · left
    intro he
    have hp : place n p < n := by rw [← he]; exact hlt
    apply h
    have key : ∀ q : Opr, place n q < n → strOf n q = (place n q : Nat) := fun q hq => by
      unfold strOf place at *
      by_cases h6 : q.k = 6
      · rw [if_pos h6] at hq ⊢
        rw [if_pos h6]
        split at hq
        · rename_i hc
          rw [if_pos hc]
          omega
        · omega
      · rw [if_neg h6, if_neg h6]
    rw [key o hlt, key p hp, he]
  · exact .inr (by omega)

theorem comm {most n : Nat} {o p : Opr} {Ls : List (List Ent)} (hl : Ls.length = n) (hn : 1 ≤ n) (h : strOf n o ≠ strOf n p) :
    xdo most p (xdo most o Ls) = xdo most o (xdo most p Ls) ∧ told most o Ls = told most o (xdo most p Ls) ∧ told most p (xdo most o Ls) = told most p Ls ∧ (xdo most o Ls).length = n ∧ (xdo most p (xdo most o Ls)).length = n := by
  obtain ⟨f, g, hf⟩ := acts most o n
  obtain ⟨f', g', hf'⟩ := acts most p n
  have ho := hf Ls hl
  have hp := hf' Ls hl
  have lo : (xdo most o Ls).length = n := by rw [ho.1, List.length_set, hl]
  have lp : (xdo most p Ls).length = n := by rw [hp.1, List.length_set, hl]
  have h1 := hf' _ lo
  have h2 := hf _ lp
  have lpo : (xdo most p (xdo most o Ls)).length = n := by rw [h1.1, List.length_set, lo]
  rcases place_ne hn h with hne | hge
  · have e1 : (xdo most o Ls).getD (place n p) [] = Ls.getD (place n p) [] := by rw [ho.1]; simp [List.getD_eq_getElem?_getD, hne]
    have e2 : (xdo most p Ls).getD (place n o) [] = Ls.getD (place n o) [] := by rw [hp.1]; simp [List.getD_eq_getElem?_getD, Ne.symm hne]
    rw [e1] at h1
    rw [e2] at h2
    refine ⟨?_, by rw [h2.2, ho.2], by rw [h1.2, hp.2], lo, lpo⟩
    rw [h1.1, h2.1, ho.1, hp.1]
    exact List.set_comm _ _ hne
  · have eo : ∀ M : List (List Ent), M.length = n → xdo most o M = M := fun M hM => by rw [(hf M hM).1]; exact List.set_eq_of_length_le (by omega)
    have et : ∀ M : List (List Ent), M.length = n → told most o M = g [] := fun M hM => by rw [(hf M hM).2, List.getD_eq_getElem?_getD, List.getElem?_eq_none (by omega)]; rfl
    refine ⟨by rw [eo Ls hl, eo _ lp], by rw [et Ls hl, et _ lp], by rw [eo Ls hl], lo, lpo⟩

/-- what 'one' tells, as a value -/
def valTell (t : Tell) : Value := valT t.a t.is t.e t.n

theorem around_then {w w' : World} {p : Value} {most : Nat} {Ls : List (List Ent)} {F : Nat → Prop} (hF : ∀ k, F k → k < w.heap.size) (h : Around w (fun A B => Then A B p most Ls F) w') : Then w w' p most Ls F := by
  obtain ⟨A, B, hA, hT, hs, hB⟩ := h
  obtain ⟨k1, F', k2, k3⟩ := hT
  have hsz := hA.size
  have hoff : ∀ k, F' k → ¬ (w.heap.size ≤ k ∧ k < A.heap.size) := fun k hk e => by
    rcases k3 k hk with h | h
    · have := hF k h; omega
    · omega
  refine ⟨((hA.mono (S' := F) (fun _ _ e => e.elim)).trans k1 (fun _ _ e => e)).trans hB (fun k hk e => by omega), F', k2.keep hB hoff, fun k hk => (k3 k hk).imp id (fun h => Nat.le_trans hsz h)⟩

theorem one_has {w : World} {p : Value} {most : Nat} {Ls : List (List Ent)} {F : Nat → Prop} (hH : Has w p most Ls F) (o : Opr) (hok : o.ok) :
    Calls Try.prog 9 #[p, valO o] w fun e w' => e = .returned (valTell (told most o Ls)) ∧ Then w w' p most (xdo most o Ls) F := by
  obtain ⟨he, ha1, ha2, hn1, hn2, hm1, hm2⟩ := hok
  have hF := hH.lt
  have kA : ∀ W, Keep No w W → Has W p most Ls F := fun W hW => hH.keep hW (fun _ _ => no _)
  have low : ∀ {W w' : World} {Ls' : List (List Ent)}, Then W w' p most Ls' F → Keep (fun k => k < w.heap.size) W w' := fun h => h.1.mono (fun k _ hk => hF k hk)
  have fin : ∀ {e : Ending} {w' : World} {v : Value} {Ls' : List (List Ent)}, e = .returned v ∧ Around w (fun A B => Then A B p most Ls' F) w' → e = .returned v ∧ Then w w' p most Ls' F := fun h => ⟨h.1, around_then hF h.2⟩
  have hh := he.1
  have hh2 := he.2.1
  unfold xdo told valTell
  by_cases h0 : o.k = 0
  · simp only [if_pos h0]
    exact (one_put p o w _ _ _ _ (fun W hW => (put_has (kA W hW) o.e he).mono fun e w' hw => ⟨hw.1, low hw.2, hw.2⟩) h0).mono fun e w' hw => fin hw
  simp only [if_neg h0]
  by_cases h2 : o.k = 2
  · simp only [if_pos h2]
    exact (one_remove p o w _ _ _ (fun W hW => (remove_has (kA W hW) o.e.h hh hh2).mono fun e w' hw => ⟨hw.1, low hw.2, hw.2⟩) h2).mono fun e w' hw => fin hw
  simp only [if_neg h2]
  by_cases h3 : o.k = 3
  · simp only [if_pos h3]
    exact (one_removeIf p o w _ _ (fun W hW => (remIf_has (kA W hW) o.e.h o.at' hh hh2).mono fun e w' hw => ⟨hw.1, low hw.2, hw.2⟩) h3).mono fun e w' hw => fin hw
  simp only [if_neg h3]
  by_cases h4 : o.k = 4
  · simp only [if_pos h4]
    exact (one_move p o w _ _ (fun W hW => (move_has (kA W hW) o.e.h o.at' o.e.a hh hh2 he.2.2.1 he.2.2.2.1).mono fun e w' hw => ⟨hw.1, low hw.2, hw.2⟩) h4).mono fun e w' hw => fin hw
  simp only [if_neg h4]
  by_cases h5 : o.k = 5
  · simp only [if_pos h5]
    exact (one_hit p o w _ _ (fun W hW => (hit_has (kA W hW) o.e.h hh hh2).mono fun e w' hw => ⟨hw.1, low hw.2, hw.2⟩) h5).mono fun e w' hw => fin hw
  simp only [if_neg h5]
  by_cases h6 : o.k = 6
  · simp only [if_pos h6]
    exact (one_purge p o w _ _ (fun W hW => (purge_has (kA W hW) o.n o.m hm1 hm2).mono fun e w' hw => ⟨hw.1, low hw.2, hw.2⟩) h6).mono fun e w' hw => fin hw
  simp only [if_neg h6]
  exact (one_get p o w _ _ _ (fun W hW => (get_has (kA W hW) o.e.h hh hh2).mono fun e w' hw => ⟨hw.1, low ((kA W hW).stays hw.2), (kA W hW).stays hw.2⟩) (by simpa using h0) (by simpa using h2) (by simpa using h3) (by simpa using h4) (by simpa using h5) (by simpa using h6)).mono fun e w' hw => fin hw

set_option maxHeartbeats 400000 in
theorem stripeOf_any (p : Value) (o : Opr) (w : World) (s : Int) (hst : ∀ W, Keep No w W → Calls Try.prog 20 #[p, .int .u64 o.e.h] W fun e w' => e = .returned (.int .i64 s) ∧ W = w') :
    Calls Try.prog 8 #[p, valO o] w fun e w' => e = .returned (.int .i64 (if o.k = 6 then o.n else s)) ∧ Keep No w w' := by
  have HS := hid hst
  clear hst
  by_cases h6 : o.k = 6
  · rw [if_pos h6]
    have h : (o.k == 6) = true := by simpa using h6
    clear h6
    unfold valO
    go_enter Try.func8, Try.ntmps8
    go_wp2
    go_ret
    exact ⟨rfl, (Keep.refl _ _).alloc _⟩
  · rw [if_neg h6]
    have h : (o.k == 6) = false := by simpa using h6
    clear h6
    unfold valO
    go_enter Try.func8, Try.ntmps8
    go_wp2_with (go_at_call 20; refine (HS.out _ ((Keep.refl _ _).alloc _)).mono ?_; rintro e w1 ⟨rfl, rfl⟩)
    go_ret
    exact ⟨rfl, (Keep.refl _ _).alloc _⟩

theorem stripeOf_has {w : World} {p : Value} {most : Nat} {Ls : List (List Ent)} {F : Nat → Prop} (hH : Has w p most Ls F) (o : Opr) (hok : o.ok) :
    Calls Try.prog 8 #[p, valO o] w fun e w' => e = .returned (.int .i64 (strOf Ls.length o)) ∧ Keep No w w' :=
  stripeOf_any p o w _ (fun W hW => stripe_has (hH.keep hW (fun _ _ => no _)) o.e.h hok.1.1 hok.1.2.1)
end Go.Proofs.Ytaijfgajcmopfaa.A1
/- append in a round of a range over a function; a slice that is gone over from its front. -/
set_option linter.unusedVariables false
set_option linter.unusedSimpArgs false
namespace Go.Proofs.Ytaijfgajcmopfaa.Ap2
open Go V Ap Rh T

theorem wpListIn_append_src {P : Program} (w : World) {l fu : Nat} {ops : Array Oper} {rest : List Oper} {o : Oper} {a : Act} {Q : Exit → Act → World → Prop} (hgd : o.guard = none) (s x : Operand) (t : TypeId)
    (ho : o.op = .call { callee := .builtin .append, args := #[s, x], argTypes := #[t, t] })
    (base : Nat) (e : TypeId) (i : TypeInfo) (z : Value) (size bytes : Nat) (ht : P.underlying t = some (.slice e)) (hi : P.info? e = some i) (hz : i.zero = some z)
    (hsize : i.size = size) (hby : i.bytes = bytes) (hzs : z.cells.size = size) (hsz : 0 < size)
    (v : Value) (n : Nat) (xs : List Value) (hs : a.eval s = v) (hown : w.ownsRow base e size v n xs)
    (y : Value) (m : Nat) (news : List Value) (hx : a.eval x = y) (hy : Src w y m news) (hl : news.length = m * size) (h1 : ∀ u ∈ news, u.oneCell' = true)
    (h63 : n + m ≤ maxLen) (hbytes : (n + m) * bytes ≤ 140737488355328) (hbase : base ≤ w.heap.size)
    (h : ∀ v' w', w'.ownsRow base e size v' (n + m) (xs ++ news) → w.grownBy w' v.ownBlock → (v' = .slice none 0 0 ↔ v = .slice none 0 0 ∧ m = 0) → (v'.ownBlock = v.ownBlock ∨ v'.ownBlock = some w.heap.size) → wpListIn (Fence.wide.inRound l) fu P ops Q rest (a.put o.dst v') w') :
    wpListIn (Fence.wide.inRound l) fu P ops Q (o :: rest) a w := by
  refine wpListIn_plain hgd fun K hK => ?_
  refine Rr.oper_round (fun c hc => by rw [ho] at hc; cases hc) ?_
  obtain ⟨v', w', hr, h2, h3, h4, h5⟩ := run_append_src (P := P) w base t o.type e i z size bytes ht hi hz hsize hby hzs hsz v n xs hown y m news hy hl h1 h63 hbytes hbase
  unfold Oper.wp execOp
  simp only [ho, resolve, invoke, builtin, Sem.run_bind, Sem.run_pure, Result.andThen_ok, List.map_toArray, List.map_cons, List.map_nil, hs, hx, hr]
  exact hK _ _ (h v' w' h2 h3 h4 h5)

/-- a slice of entries, at whatever place -/
def Sl (W : World) (v : Value) (xs : List Ent) : Prop := ∃ a c, v = .slice a xs.length c ∧ xs.length ≤ c ∧ c ≤ 9223372036854775807 ∧ (xs = [] ∨ ∃ g off, a = some ⟨g, off, none⟩ ∧ g < W.heap.size ∧ ∀ j u, (flat xs)[j]? = some u → W.cell? ⟨g, off + j, none⟩ = some u)
/-- its block -/
def SlB (v : Value) (g : Nat) : Prop := ∃ off n c, v = .slice (some ⟨g, off, none⟩) n c

theorem Sl.of_own {W : World} {base : Nat} {v : Value} {xs : List Ent} (h : W.ownsRow base 27 4 v xs.length (flat xs)) : Sl W v xs := by
  by_cases hv : v = .slice none 0 0
  · subst hv
    rcases h.2 with ⟨_, h2⟩ | ⟨g, cap, cur, h1, _⟩
    · obtain rfl : xs = [] := List.eq_nil_of_length_eq_zero h2
      exact ⟨none, 0, rfl, Nat.le_refl _, by omega, .inl rfl⟩
    · cases h1
  · obtain ⟨g, cap, rest, rfl, _, hn, hc, hb, _⟩ := own_blk h hv
    refine ⟨_, cap, rfl, hn, hc, .inr ⟨g, 0, rfl, hb.lt, fun j u hu => ?_⟩⟩
    rw [Nat.zero_add, hb.cell, List.getElem?_append_left (List.getElem?_eq_some_iff.1 hu).1]
    exact hu
theorem Sl.keep {W W' : World} {v : Value} {xs : List Ent} {S : Nat → Prop} (h : Sl W v xs) (k : Keep S W W') (hS : ∀ g, SlB v g → ¬ S g) : Sl W' v xs := by
  obtain ⟨a, c, rfl, h1, h2, h3⟩ := h
  refine ⟨a, c, rfl, h1, h2, h3.imp id ?_⟩
  rintro ⟨g, off, rfl, hg, hc⟩
  exact ⟨g, off, rfl, Nat.lt_of_lt_of_le hg k.size, fun j u hu => (World.cell?_of_block (k.block g hg (hS g ⟨_, _, _, rfl⟩))).trans (hc j u hu)⟩
/-- one entry off its front -/
theorem Sl.tail {W : World} {a : Option Addr} {n c : Nat} {x : Ent} {xs : List Ent} (h : Sl W (.slice a n c) (x :: xs)) : ∃ g off, a = some ⟨g, off, none⟩ ∧ n = xs.length + 1 ∧ n ≤ c ∧ g < W.heap.size ∧
    (W.cell? ⟨g, off, none⟩ = some (.int .u64 x.h) ∧ W.cell? ⟨g, off + 1, none⟩ = some (.int .u64 x.a) ∧ W.cell? ⟨g, off + 2, none⟩ = some (.int .u64 x.v) ∧ W.cell? ⟨g, off + 3, none⟩ = some (.int .u8 x.c)) ∧
    Sl W (.slice (some ⟨g, if c = 1 then off else off + 4, none⟩) xs.length (c - 1)) xs := by
  obtain ⟨a', c', he, h1, h2, h3⟩ := h
  simp only [Value.slice.injEq, List.length_cons] at he
  obtain ⟨rfl, rfl, rfl⟩ := he
  obtain ⟨g, off, rfl, hg, hc⟩ := h3.resolve_left (by simp)
  simp only [List.length_cons] at h1
  have hf : flat (x :: xs) = cellsE x ++ flat xs := by simp [flat]
  rw [hf] at hc
  refine ⟨g, off, rfl, rfl, h1, hg, ⟨hc 0 _ rfl, hc 1 _ rfl, hc 2 _ rfl, hc 3 _ rfl⟩, _, _, rfl, by omega, by omega, ?_⟩
  by_cases hx : xs = []
  · exact .inl hx
  · have hp : 0 < xs.length := List.length_pos_iff.2 hx
    rw [if_neg (by omega)]
    refine .inr ⟨g, off + 4, rfl, hg, fun j u hu => ?_⟩
    have := hc (4 + j) u (by rw [List.getElem?_append_right (by simp [cellsE])]; simpa [cellsE] using hu)
    rw [← this, Nat.add_assoc]
end Go.Proofs.Ytaijfgajcmopfaa.Ap2
/- IndexPurged: what stands through its loops; its lists. -/
set_option linter.unusedVariables false
set_option linter.unusedSimpArgs false
namespace Go.Proofs.Ytaijfgajcmopfaa.Z8
open Go.RowKit Go.Shelf V Rh T W1 W2 W3 W4 W6 W10 Rf X1 X2 X3 X4 X5 X6 X7 Pl Y1 Y2 Y3 Y4 Y9 Ap Ap2 Z1 Z2 Z4 Z5 Z6 Lp

def coll (f : Ent → Bool) (Ls : List (List Ent)) (i : Nat) : List Ent := (Ls.take i).flatMap (fun L => L.filter f)
def rest (f : Ent → Bool) (Ls : List (List Ent)) (i : Nat) : List Ent := (Ls.drop i).flatMap (fun L => L.filter f)
def cnt (r : Int) (Ls : List (List Ent)) (i : Nat) : Nat := ((Ls.take i).map (fun L => L.countP (phit r))).sum
def PL (r : Int) (Ls : List (List Ent)) (i : Nat) : List (List Ent) := (Ls.take i).map (fun L => L.filter (notHit r)) ++ Ls.drop i

section
variable {f : Ent → Bool} {r : Int} {Ls : List (List Ent)} {i : Nat}
theorem take_at (hi : i < Ls.length) : Ls.take (i + 1) = Ls.take i ++ [Ls.getD i []] := by
  rw [List.take_succ_eq_append_getElem hi]
  simp [List.getD_eq_getElem?_getD, hi]
theorem drop_at (hi : i < Ls.length) : Ls.drop i = Ls.getD i [] :: Ls.drop (i + 1) := by
  rw [List.drop_eq_getElem_cons hi]
  simp [List.getD_eq_getElem?_getD, hi]
theorem coll_succ (hi : i < Ls.length) : coll f Ls (i + 1) = coll f Ls i ++ (Ls.getD i []).filter f := by
  unfold coll
  rw [take_at hi, List.flatMap_append]
  simp
theorem rest_succ (hi : i < Ls.length) : rest f Ls i = (Ls.getD i []).filter f ++ rest f Ls (i + 1) := by
  unfold rest
  rw [drop_at hi, List.flatMap_cons]
theorem coll_rest : coll f Ls Ls.length = rest f Ls 0 := by unfold coll rest; rw [List.take_length, List.drop_zero]
theorem rest_end : rest f Ls Ls.length = [] := by unfold rest; rw [List.drop_length]; rfl
theorem cnt_succ (hi : i < Ls.length) : cnt r Ls (i + 1) = cnt r Ls i + (Ls.getD i []).countP (phit r) := by
  unfold cnt
  rw [take_at hi, List.map_append, List.sum_append]
  simp
theorem PL_length (hi : i ≤ Ls.length) : (PL r Ls i).length = Ls.length := by
  unfold PL
  simp
  omega
theorem PL_zero : PL r Ls 0 = Ls := by unfold PL; simp
theorem PL_at (hi : i < Ls.length) : (PL r Ls i).getD i [] = Ls.getD i [] := by
  unfold PL
  have h1 : ((Ls.take i).map (fun L => L.filter (notHit r))).length = i := by simp; omega
  rw [List.getD_eq_getElem?_getD, List.getElem?_append_right (by omega), h1, List.getD_eq_getElem?_getD]
  simp
theorem xpurge_PL (hi : i < Ls.length) : xpurge i r (PL r Ls i) = PL r Ls (i + 1) ∧ xall i (PL r Ls i) = Ls.getD i [] := by
  have hl := PL_length (r := r) (Nat.le_of_lt hi)
  constructor
  · unfold xpurge
    rw [if_pos (by rw [hl]; omega), Int.toNat_natCast, PL_at hi]
    unfold PL
    have h1 : ((Ls.take i).map (fun L => L.filter (notHit r))).length = i := by simp; omega
    rw [List.set_append_right _ _ (by omega), h1, Nat.sub_self, drop_at hi, List.set_cons_zero, take_at hi, List.map_append]
    simp
  · unfold xall
    rw [if_pos (by rw [hl]; omega), Int.toNat_natCast, PL_at hi]
theorem PL_end : PL r Ls Ls.length = Ls.map (fun L => L.filter (notHit r)) := by unfold PL; simp
theorem xall_end (hi : i < Ls.length) : xall i (PL r Ls Ls.length) = (Ls.getD i []).filter (notHit r) := by
  unfold xall
  rw [if_pos (by rw [PL_length (Nat.le_refl _)]; omega), Int.toNat_natCast, PL_end]
  simp [List.getD_eq_getElem?_getD, hi]
theorem xall_in (hi : i < Ls.length) : xall i Ls = Ls.getD i [] := by unfold xall; rw [if_pos (by omega)]; simp

theorem coll_small {most : Nat} (hG : GoodL most Ls) (hi : i ≤ Ls.length) : (coll f Ls i).length ≤ 65536 * i := by
  induction i with
  | zero => simp [coll]
  | succ i ih =>
    rw [coll_succ (by omega), List.length_append]
    have h1 := ih (by omega)
    have h2 := GoodL.small hG (show i < Ls.length by omega)
    have h3 := List.length_filter_le f (Ls.getD i [])
    omega
theorem cnt_small {most : Nat} (hG : GoodL most Ls) (hi : i ≤ Ls.length) : cnt r Ls i ≤ 65536 * i := by
  induction i with
  | zero => simp [cnt]
  | succ i ih =>
    rw [cnt_succ (by omega)]
    have h1 := ih (by omega)
    have h2 := GoodL.small hG (show i < Ls.length by omega)
    have h3 := List.countP_le_length (p := phit r) (l := Ls.getD i [])
    omega
end

/-- what stands through the loops -/
structure PS (w wr : World) (b3 b4 b7 b8 : Nat) (r : Int) (p : Value) (most : Nat) (Ls : List (List Ent)) (F : Nat → Prop) (c : Int) (ds : List Deferred) : Prop where
  marks : Marks w.heap.size ds wr
  reg : Blk wr b3 [.int .i64 r] 3
  res : Blk wr b4 [.bool false] 4
  gone : Blk wr b8 [.int .i64 c] 3
  has : Has wr p most Ls F
  keep : Keep No w wr
  off : ∀ k, F k → b4 < k ∧ k ≠ b7 ∧ k ≠ b8
  ord : w.heap.size < b3 ∧ b3 < b4 ∧ b4 < b7 ∧ b7 < b8

theorem PS.go {w wr wr' : World} {b3 b4 b7 b8 : Nat} {r : Int} {p : Value} {most : Nat} {Ls : List (List Ent)} {F : Nat → Prop} {c c' : Int} {ds : List Deferred} {S : Nat → Prop} (h : PS w wr b3 b4 b7 b8 r p most Ls F c ds) (k : Keep S wr wr')
    (hS : ∀ j, S j → b4 < j ∧ ¬ F j ∧ ¬ IsMark wr j) (hg : Blk wr' b8 [.int .i64 c'] 3) : PS w wr' b3 b4 b7 b8 r p most Ls F c' ds :=
  ⟨h.marks.keep k (fun j _ hm hs => (hS j hs).2.2 hm), h.reg.mod k (fun hs => by have := (hS _ hs).1; have := h.ord; omega), h.res.mod k (fun hs => by have := (hS _ hs).1; omega), hg,
    h.has.keep k (fun j hf hs => (hS j hs).2.1 hf), h.keep.trans k (fun j hj hs => by have := (hS j hs).1; have := h.ord; omega), h.off, h.ord⟩
theorem PS.stay {w wr wr' : World} {b3 b4 b7 b8 : Nat} {r : Int} {p : Value} {most : Nat} {Ls : List (List Ent)} {F : Nat → Prop} {c : Int} {ds : List Deferred} (h : PS w wr b3 b4 b7 b8 r p most Ls F c ds) (k : Keep No wr wr') : PS w wr' b3 b4 b7 b8 r p most Ls F c ds :=
  h.go k (fun _ hs => hs.elim) (h.gone.mod k (no _))

/-- the growing row of what is left -/
structure Lf (wr : World) (b7 b8 : Nat) (F : Nat → Prop) (v : Value) (xs : List Ent) : Prop where
  cell : Blk wr b7 [v] 39
  row : wr.ownsRow (b8 + 1) 27 4 v xs.length (flat xs)
  off : ∀ g, v.ownBlock = some g → ¬ F g
theorem Lf.stay {wr wr' : World} {b7 b8 : Nat} {F : Nat → Prop} {v : Value} {xs : List Ent} (h : Lf wr b7 b8 F v xs) (k : Keep No wr wr') : Lf wr' b7 b8 F v xs :=
  ⟨h.cell.mod k (no _), own_keep h.row k (fun _ _ => no _), h.off⟩
structure Lg (wr : World) (b7 b8 : Nat) (F : Nat → Prop) (v : Value) (xs : List Ent) : Prop where
  cell : Blk wr b7 [v] 39
  sl : Sl wr v xs
  off : ∀ g, SlB v g → b8 < g ∧ g < wr.heap.size ∧ ¬ F g ∧ ¬ IsMark wr g
theorem own_notMark {w : World} {base n k : Nat} {e : TypeId} {v : Value} {xs : List Value} (h : w.ownsRow base e k v n xs) {g : Nat} (hg : v.ownBlock = some g) : ¬ IsMark w g := by
  by_cases hv : v = .slice none 0 0
  · subst hv; cases hg
  · obtain ⟨g', cap, rest, rfl, _, _, _, hb, _⟩ := own_blk h hv
    obtain rfl : g' = g := by simpa [Value.ownBlock] using hg
    exact Blk.notMark hb
theorem Lg.of {wr : World} {b7 b8 : Nat} {F : Nat → Prop} {v : Value} {xs : List Ent} (h : Lf wr b7 b8 F v xs) : Lg wr b7 b8 F v xs := by
  refine ⟨h.cell, Sl.of_own h.row, ?_⟩
  rintro g ⟨off, n, c, hv⟩
  have hg : v.ownBlock = some g := by rw [hv]; rfl
  have := h.row.lt g hg
  exact ⟨by omega, this.2, h.off g hg, own_notMark h.row hg⟩
/-- .. behind a call that writes the index alone -/
theorem Lg.go {wr wr' : World} {b7 b8 : Nat} {F F' : Nat → Prop} {v : Value} {xs : List Ent} (h : Lg wr b7 b8 F v xs) (k : Keep F wr wr') (h7 : ¬ F b7) (hF : ∀ k, F' k → F k ∨ wr.heap.size ≤ k) : Lg wr' b7 b8 F' v xs := by
  refine ⟨h.cell.mod k h7, h.sl.keep k (fun g hg => (h.off g hg).2.2.1), fun g hg => ?_⟩
  obtain ⟨h1, h2, h3, h4⟩ := h.off g hg
  refine ⟨h1, Nat.lt_of_lt_of_le h2 k.size, fun hf => ?_, fun hm => h4 ?_⟩
  · rcases hF g hf with e | e
    · exact h3 e
    · omega
  · unfold IsMark at hm ⊢
    rw [← k.block g h2 h3]
    exact hm
theorem PS.then {w wr wr' : World} {b3 b4 b7 b8 : Nat} {r : Int} {p : Value} {most : Nat} {Ls Ls' : List (List Ent)} {F : Nat → Prop} {c : Int} {ds : List Deferred} (h : PS w wr b3 b4 b7 b8 r p most Ls F c ds) (k : Then wr wr' p most Ls' F) :
    ∃ F', PS w wr' b3 b4 b7 b8 r p most Ls' F' c ds ∧ ∀ k, F' k → F k ∨ wr.heap.size ≤ k := by
  obtain ⟨k1, F', k2, k3⟩ := k
  have hnm := h.has.notMark
  have ord := h.ord
  have h8 := h.gone.lt
  have nb : ∀ j, j ≤ b4 → ¬ F j := fun j hj hf => by have := (h.off j hf).1; omega
  have n8 : ¬ F b8 := fun hf => (h.off _ hf).2.2 rfl
  refine ⟨F', ⟨h.marks.keep k1 (fun j _ hm hf => ?_), h.reg.mod k1 (nb _ (by omega)), h.res.mod k1 (nb _ (by omega)), h.gone.mod k1 n8, k2, h.keep.trans k1 (fun j hj hf => nb j (by omega) hf), fun k hk => ?_, ord⟩, k3⟩
  · obtain ⟨cs, t, hb⟩ := hnm j hf
    exact Blk.notMark hb hm
  · rcases k3 k hk with e | e
    · exact h.off k e
    · exact ⟨by omega, by omega, by omega⟩
end Go.Proofs.Ytaijfgajcmopfaa.Z8
/- IndexApart: what stands while two calls are told and their tellings laid, in whatever order. -/
set_option linter.unusedVariables false
set_option linter.unusedSimpArgs false
namespace Go.Proofs.Ytaijfgajcmopfaa.A3
open Go.RowKit Go.Shelf V Rh T W1 W2 W3 W4 W6 W10 Rf X1 X2 X3 X4 X5 X6 X7 Pl Y1 Z1 Z4 Z8 A1 Lp

/-- the region's own blocks, the index that is called (px), the one that is not (py) -/
structure Rg (w w2 W : World) (b4 b5 b6 : Nat) (o p : Opr) (px : Value) (most : Nat) (L : List (List Ent)) (F : Nat → Prop) (py : Value) (M : List (List Ent)) (G : Nat → Prop) : Prop where
  so : Blk W b4 (cellsO o) 29
  sp : Blk W b5 (cellsO p) 29
  res : Blk W b6 [.bool false] 4
  hx : Has W px most L F
  hy : Has W py most M G
  off : ∀ k, F k → ¬ G k
  low : ∀ k, F k ∨ G k → b6 < k
  keep : Keep No w W
  ord : w.heap.size < b4 ∧ b4 < b5 ∧ b5 < b6
  sz : w2.heap.size ≤ W.heap.size
/-- a telling's block -/
structure Tb (W : World) (F G : Nat → Prop) (b6 b : Nat) (cs : List Value) : Prop where
  blk : Blk W b cs 36
  nf : ¬ F b
  ng : ¬ G b
  gt : b6 < b

section
variable {w w2 W W' : World} {b4 b5 b6 b : Nat} {o p : Opr} {px py : Value} {most : Nat} {L L' M : List (List Ent)} {F F' G : Nat → Prop} {cs : List Value}
theorem Rg.go (h : Rg w w2 W b4 b5 b6 o p px most L F py M G) (k : Keep No W W') : Rg w w2 W' b4 b5 b6 o p px most L F py M G :=
  ⟨h.so.mod k (no _), h.sp.mod k (no _), h.res.mod k (no _), h.hx.keep k (fun _ _ => no _), h.hy.keep k (fun _ _ => no _), h.off, h.low, h.keep.trans k (fun _ _ e => e), h.ord, Nat.le_trans h.sz k.size⟩
theorem Rg.call (h : Rg w w2 W b4 b5 b6 o p px most L F py M G) (k : Then W W' px most L' F) : ∃ F', Rg w w2 W' b4 b5 b6 o p px most L' F' py M G ∧ (∀ k, F' k → F k ∨ W.heap.size ≤ k) ∧ Keep F W W' := by
  obtain ⟨k1, F', k2, k3⟩ := k
  have hl := h.low
  have ho := h.ord
  have hw := h.keep.size
  have hg := h.hy.lt
  have hr := h.res.lt
  have nb : ∀ j, j ≤ b6 → ¬ F j := fun j hj hf => by have := hl j (.inl hf); omega
  refine ⟨F', ⟨h.so.mod k1 (nb _ (by omega)), h.sp.mod k1 (nb _ (by omega)), h.res.mod k1 (nb _ (by omega)), k2, h.hy.keep k1 (fun j hj hf => h.off j hf hj), fun k hk hkg => ?_, ?_, h.keep.trans k1 (fun j hj hf => nb j (by omega) hf), ho, Nat.le_trans h.sz k1.size⟩, k3, k1⟩
  · rcases k3 k hk with e | e
    · exact h.off k e hkg
    · have := hg k hkg; omega
  · rintro k (hk | hk)
    · rcases k3 k hk with e | e
      · exact hl k (.inl e)
      · omega
    · exact hl k (.inr hk)
/-- a telling's cell is written -/
theorem Rg.put (h : Rg w w2 W b4 b5 b6 o p px most L F py M G) (t : Tb W F G b6 b cs) (k : Keep (fun j => j = b) W W') : Rg w w2 W' b4 b5 b6 o p px most L F py M G := by
  have ho := h.ord
  have hw := h.keep.size
  have hb := t.gt
  exact ⟨h.so.mod k (by omega), h.sp.mod k (by omega), h.res.mod k (by omega), h.hx.keep k (fun j hj e => t.nf (by rw [← e]; exact hj)), h.hy.keep k (fun j hj e => t.ng (by rw [← e]; exact hj)), h.off, h.low, h.keep.trans k (fun j hj e => by omega), ho, Nat.le_trans h.sz k.size⟩
theorem Rg.flip (h : Rg w w2 W b4 b5 b6 o p px most L F py M G) (w3 : World) (hs : w3.heap.size ≤ W.heap.size) : Rg w w3 W b4 b5 b6 o p py most M G px L F :=
  ⟨h.so, h.sp, h.res, h.hy, h.hx, fun k h1 h2 => h.off k h2 h1, fun k hk => h.low k hk.symm, h.keep, h.ord, hs⟩
theorem Rg.new (h : Rg w w2 W b4 b5 b6 o p px most L F py M G) {z : Array Value} (hz : z = cs.toArray) : Tb (W.alloc (.cells z 36)) F G b6 W.heap.size cs :=
  ⟨Blk.new' _ hz, fun hf => by have := h.hx.lt _ hf; omega, fun hg => by have := h.hy.lt _ hg; omega, h.res.lt⟩

theorem Tb.go (t : Tb W F G b6 b cs) (k : Keep No W W') : Tb W' F G b6 b cs := ⟨t.blk.mod k (no _), t.nf, t.ng, t.gt⟩
theorem Tb.call (t : Tb W F G b6 b cs) (k : Keep F W W') (hF : ∀ k, F' k → F k ∨ W.heap.size ≤ k) : Tb W' F' G b6 b cs :=
  ⟨t.blk.mod k t.nf, fun hf => (hF b hf).elim t.nf (fun e => by have := t.blk.lt; omega), t.ng, t.gt⟩
theorem Tb.put {c : Nat} (t : Tb W F G b6 b cs) (k : Keep (fun j => j = c) W W') (h : b ≠ c) : Tb W' F G b6 b cs := ⟨t.blk.mod k h, t.nf, t.ng, t.gt⟩
theorem Tb.flip (t : Tb W F G b6 b cs) : Tb W G F b6 b cs := ⟨t.blk, t.ng, t.nf, t.gt⟩
end

/-- a telling laid in its block -/
def putT (W : World) (b : Nat) (t : Tell) : World := (((((((((((((W.setCell ⟨b, 0, none⟩ (.int .u64 t.a.h)).setCell ⟨b, 1, none⟩ (.int .u64 t.a.a)).setCell ⟨b, 2, none⟩ (.int .u64 t.a.v)).setCell ⟨b, 3, none⟩ (.int .u8 t.a.c)).setCell ⟨b, 4, none⟩ (.int .u64 0)).setCell ⟨b, 5, none⟩ (.int .u64 0)).setCell ⟨b, 6, none⟩ (.int .u64 0)).setCell ⟨b, 7, none⟩ (.int .u8 0)).setCell ⟨b, 8, none⟩ (.bool t.is)).setCell ⟨b, 9, none⟩ (.bool false)).setCell ⟨b, 10, none⟩ (.int .i64 t.e)).setCell ⟨b, 11, none⟩ (.int .i64 0)).setCell ⟨b, 12, none⟩ (.int .i64 t.n))
theorem putT_keep (W : World) (b : Nat) (t : Tell) : Keep (fun j => j = b) W (putT W b t) := by
  unfold putT
  exact Keep.st (Keep.st (Keep.st (Keep.st (Keep.st (Keep.st (Keep.st (Keep.st (Keep.st (Keep.st (Keep.st (Keep.st (Keep.st (Keep.refl (fun j => j = b) W) rfl _ _) rfl _ _) rfl _ _) rfl _ _) rfl _ _) rfl _ _) rfl _ _) rfl _ _) rfl _ _) rfl _ _) rfl _ _) rfl _ _) rfl _ _
theorem putT_blk {W : World} {b : Nat} {ty : TypeId} (t : Tell) (h : Blk W b lT ty) : Blk (putT W b t) b (cellsT t.a t.is t.e t.n) ty := by
  unfold putT
  have := (((((((((((((h.set 0 (.int .u64 t.a.h)).set 1 (.int .u64 t.a.a)).set 2 (.int .u64 t.a.v)).set 3 (.int .u8 t.a.c)).set 4 (.int .u64 0)).set 5 (.int .u64 0)).set 6 (.int .u64 0)).set 7 (.int .u8 0)).set 8 (.bool t.is)).set 9 (.bool false)).set 10 (.int .i64 t.e)).set 11 (.int .i64 0)).set 12 (.int .i64 t.n))
  exact this
theorem Tb.told {W : World} {F G : Nat → Prop} {b6 b : Nat} (h : Tb W F G b6 b lT) (t : Tell) : Tb (putT W b t) F G b6 b (cellsT t.a t.is t.e t.n) := ⟨putT_blk t h.blk, h.nf, h.ng, h.gt⟩

/-- the ways through a piece of code meet again: the frame is told by some of its slots -/
theorem wp_meet {P : Program} {c : Code} {Q : Exit → Act → World → Prop} {A0 : Array Value} {d0 : List Deferred} {w : World} (slots : List Nat) (rel : (Nat → Value) → World → Prop)
    (h : c.wp P (fun e a' w' => e = .normal ∧ a'.defers = d0 ∧ a'.tmps = setAll A0 slots (fun i => a'.tmps.getD i undef) ∧ rel (fun i => a'.tmps.getD i undef) w') { tmps := A0, defers := d0 } w)
    (k : ∀ u w', rel u w' → Q .normal { tmps := setAll A0 slots u, defers := d0 } w') : c.wp P Q { tmps := A0, defers := d0 } w := by
  refine Code.wp_mono ?_ h
  rintro e ⟨tm, df⟩ w' ⟨rfl, h1, h2, h3⟩
  simp only at h1 h2 h3
  subst h1
  have := k _ _ h3
  rw [← h2] at this
  exact this
end Go.Proofs.Ytaijfgajcmopfaa.A3
/- A region that draws its order and ends in two stores, one behind the other: the rest first, its ways told by some slots and met; then the two. -/
set_option linter.unusedVariables false
set_option linter.unusedSimpArgs false
namespace Go.Proofs.Ytaijfgajcmopfaa.Pop2
open Go Pop Lp

def popOk2 (md : Region.Mode) (ops : Array Oper) (m : Nat) : Bool :=
  decide (m < ops.size) && (List.range m).all (fun j => (List.range (m + 1)).any (fun k => decide (j < k) && Region.waitsFor md ops k j)) &&
  (List.range (m + 1)).all (fun i => match ops[i]? with | some o => o.after.all (fun e => decide (e.on < i)) | none => false)

section
variable {P : Program} {md : Region.Mode} {ops : Array Oper} {Q Q' : Exit → Act → World → Prop} {m : Nat}

theorem popOk2_spec (h : popOk2 md ops m = true) : m < ops.size ∧ (∀ j, j < m → ∃ k, j < k ∧ k < m + 1 ∧ Region.waitsFor md ops k j = true) ∧ ∀ i, i < m + 1 → ∃ o, ops[i]? = some o ∧ ∀ e ∈ o.after, e.on < i := by
  unfold popOk2 at h
  simp only [Bool.and_eq_true, decide_eq_true_eq, List.all_eq_true, List.mem_range] at h
  obtain ⟨⟨h1, h2⟩, h3⟩ := h
  refine ⟨h1, fun j hj => ?_, fun i hi => ?_⟩
  · have := h2 j hj
    simp only [List.any_eq_true, List.mem_range, Bool.and_eq_true, decide_eq_true_eq] at this
    obtain ⟨k, hk, hjk, hw⟩ := this
    exact ⟨k, hjk, hk, hw⟩
  · have := h3 i hi
    split at this
    · rename_i o ho
      refine ⟨o, ho, fun e he => ?_⟩
      rw [Array.all_eq_true_iff_forall_mem] at this
      simpa using this e he
    · cases this

/-- what has come up, below m, had all that it waits for -/
def ClosedB (md : Region.Mode) (ops : Array Oper) (m : Nat) (listed : Array Bool) : Prop := ∀ i, i < m → listed.getD i false = true → ∀ o, ops[i]? = some o → ∀ e ∈ o.after, Region.binds md e = true → listed.getD e.on false = true

theorem closedB_add {listed : Array Bool} {i : Nat} (hc : ClosedB md ops m listed) (hi : i ∈ Region.ready md ops listed) (hs : listed.size = ops.size) : ClosedB md ops m (listed.setIfInBounds i true) := by
  obtain ⟨hi1, hi2, o, ho, hi3⟩ := Pop.mem_ready.1 hi
  intro j hjm hj oj hoj e he hb
  rw [getD_set (by omega)] at hj ⊢
  split
  · rfl
  · split at hj
    · rename_i h; subst h
      rw [ho] at hoj
      obtain rfl := Option.some.inj hoj
      exact hi3 e he hb
    · exact hc j hjm hj oj hoj e he hb

theorem all_of_lastB (hok : popOk2 md ops m = true) {listed : Array Bool} (hc : ClosedB md ops m listed) {o : Oper} (ho : ops[m]? = some o) (hi3 : ∀ e ∈ o.after, Region.binds md e = true → listed.getD e.on false = true) : ∀ n j, m - j ≤ n → j < m → listed.getD j false = true := by
  obtain ⟨h1, h2, h3⟩ := popOk2_spec hok
  intro n
  induction n with
  | zero => intro j h hj; omega
  | succ n ih =>
    intro j h hj
    obtain ⟨k, hjk, hk, hw⟩ := h2 j hj
    obtain ⟨ok, hok', e, he, hb, hon⟩ := Region.waitsFor_spec hw
    by_cases hkm : k = m
    · subst hkm
      rw [ho] at hok'
      obtain rfl := Option.some.inj hok'
      have := hi3 e he hb
      rw [hon] at this
      exact this
    · have := hc k (by omega) (ih k (by omega) (by omega)) ok hok' e he hb
      rw [hon] at this
      exact this

theorem ready_someB (hok : popOk2 md ops m = true) {listed : Array Bool} (hs : listed.size = ops.size) : ∀ n, n < m + 1 → listed.getD n true = false → Region.ready md ops listed ≠ [] := by
  obtain ⟨h1, h2, h3⟩ := popOk2_spec hok
  intro n
  induction n using Nat.strongRecOn with
  | _ n ih =>
    intro hn hl
    by_cases hall : ∀ j, j < n → listed.getD j true = true
    · obtain ⟨o, ho, hb⟩ := h3 n hn
      have : n ∈ Region.ready md ops listed := Pop.mem_ready.2 ⟨by omega, hl, o, ho, fun e he _ => by
        have hlt := hb e he
        have := hall e.on hlt
        rw [Array.getD_eq_getD_getElem?, Array.getElem?_eq_getElem (by omega)] at this ⊢
        exact this⟩
      intro e
      rw [e] at this
      cases this
    · obtain ⟨j, hj⟩ := Classical.not_forall.1 hall
      obtain ⟨hj, hjl⟩ := Classical.not_imp.1 hj
      exact ih j hj (by omega) (by simpa using hjl)

theorem wpAny_popB (hok : popOk2 md ops m = true) : ∀ (fuel : Nat) (listed : Array Bool) (a : Act) (w : World), ClosedB md ops m listed → listed.size = ops.size → (∀ j, m < j → j < ops.size → listed.getD j true = true) → listed.getD m true = false →
    wpAny P md ops (Before P ops m Q) fuel (listed.setIfInBounds m true) a w → wpAny P md ops Q (fuel + 1) listed a w := by
  obtain ⟨h1, h2, h3⟩ := popOk2_spec hok
  intro fuel
  induction fuel with
  | zero =>
    intro listed a w hcl hs habove hm H
    refine ⟨fun h0 => absurd h0 (ready_someB hok hs m (by omega) hm), fun i hi => ?_⟩
    obtain ⟨hi1, hi2, o, ho, hi3⟩ := Pop.mem_ready.1 hi
    by_cases him : i = m
    · subst him
      refine wpOp_mono (fun a' w' hq => ?_) H.2
      exact wpAny_done H.1 hq 0
    · exfalso
      have : i ∈ Region.ready md ops (listed.setIfInBounds m true) := Pop.mem_ready.2 ⟨hi1, by rw [getD_set (by omega), if_neg him]; exact hi2, o, ho, fun e he hb => by
        rw [getD_set (by omega)]
        split
        · rfl
        · exact hi3 e he hb⟩
      rw [H.1] at this
      cases this
  | succ f ih =>
    intro listed a w hcl hs habove hm H
    refine ⟨fun h0 => absurd h0 (ready_someB hok hs m (by omega) hm), fun i hi => ?_⟩
    obtain ⟨hi1, hi2, o, ho, hi3⟩ := Pop.mem_ready.1 hi
    by_cases him : i = m
    · subst him
      have hall : ∀ j, j < i → listed.getD j true = true := fun j hj => by
        have := all_of_lastB hok hcl ho hi3 _ j (Nat.le_refl _) hj
        rw [Array.getD_eq_getD_getElem?, Array.getElem?_eq_getElem (by omega)] at this ⊢
        exact this
      have hnone : Region.ready md ops (listed.setIfInBounds i true) = [] := by
        rw [List.eq_nil_iff_forall_not_mem]
        intro j hj
        obtain ⟨hj1, hj2, _⟩ := Pop.mem_ready.1 hj
        rw [getD_set (by omega)] at hj2
        split at hj2
        · cases hj2
        · rename_i hne
          have : listed.getD j true = true := by
            by_cases hlt : j < i
            · exact hall j hlt
            · exact habove j (by omega) hj1
          rw [this] at hj2
          cases hj2
      exact wpOp_mono (fun a' w' hq => wpAny_done hnone hq (f + 1)) (H.1 hnone)
    · have hr : i ∈ Region.ready md ops (listed.setIfInBounds m true) := Pop.mem_ready.2 ⟨hi1, by rw [getD_set (by omega), if_neg him]; exact hi2, o, ho, fun e he hb => by
        rw [getD_set (by omega)]
        split
        · rfl
        · exact hi3 e he hb⟩
      have := wpOp_before (H.2 i hr)
      refine wpOp_mono (fun a' w' hq => ?_) this
      refine ih _ a' w' (closedB_add hcl hi (by omega)) (by simpa using hs) ?_ ?_ ?_
      · intro j hj1 hj2
        rw [getD_set (by omega)]
        split
        · rfl
        · exact habove j hj1 hj2
      · rw [getD_set (by omega), if_neg (Ne.symm him)]
        exact hm
      · have hc : (listed.setIfInBounds i true).setIfInBounds m true = (listed.setIfInBounds m true).setIfInBounds i true := by
          exact Array.setIfInBounds_comm _ _ him
        rw [hc]
        exact hq

theorem upon_monoQ {o : Oper} {a : Act} {w : World} {K : Act → World → Prop} (hq : ∀ e a w, Q e a w → Q' e a w) (h : o.wp P a w K Q) : o.wp P a w K Q' := by
  unfold Oper.wp at *
  generalize (execOp a.eval o).run P w = r at *
  cases r with
  | ok n w' =>
    cases n <;> simp only [Oper.upon] at h ⊢ <;>
      first
        | exact h
        | exact Calls.mono h (fun e w'' he => by
            cases e with
            | returned v => exact he
            | panicked c => exact hq _ _ _ he
            | outgrown => obtain ⟨a, w, h⟩ := he; exact ⟨a, w, hq _ _ _ h⟩)
  | halt x w' =>
    cases x <;> simp only [Oper.upon] at h ⊢ <;> first | exact hq _ _ _ h | exact h
theorem wpOp_monoQ {i : Nat} {a : Act} {w : World} {K : Act → World → Prop} (hq : ∀ e a w, Q e a w → Q' e a w) (h : wpOp P ops Q i K a w) : wpOp P ops Q' i K a w := by
  unfold wpOp at *
  split
  · rename_i ho; simpa [ho] using h
  · rename_i o ho
    simp only [ho] at h
    split
    · rename_i hw
      simp only [hw, if_true] at h
      exact h.imp (upon_monoQ hq) (fun ⟨h1, a, w, h2⟩ => ⟨h1, a, w, hq _ _ _ h2⟩)
    · rename_i hw
      simp only [hw] at h
      exact h
theorem wpAny_monoQ (hq : ∀ e a w, Q e a w → Q' e a w) : ∀ (fuel : Nat) (listed : Array Bool) (a : Act) (w : World), wpAny P md ops Q fuel listed a w → wpAny P md ops Q' fuel listed a w
  | 0, _, _, _, h => ⟨h.1, hq _ _ _ h.2⟩
  | fuel + 1, _, _, _, h => ⟨fun h0 => hq _ _ _ (h.1 h0), fun i hi => wpOp_mono (fun a' w' h' => wpAny_monoQ hq fuel _ a' w' h') (wpOp_monoQ hq (h.2 i hi))⟩

/-- the end of the ways: told by some slots -/
def Meet (A0 : Array Value) (d0 : List Deferred) (slots : List Nat) (rel : (Nat → Value) → World → Prop) : Exit → Act → World → Prop
  | .normal, a', w' => a'.defers = d0 ∧ a'.tmps = setAll A0 slots (fun i => a'.tmps.getD i undef) ∧ rel (fun i => a'.tmps.getD i undef) w'
  | _, _, _ => False

theorem getD_rep {n i : Nat} {b : Bool} : (Array.replicate n b).getD i true = if i < n then b else true := by
  rw [Array.getD_eq_getD_getElem?, Array.getElem?_replicate]
  split <;> rfl

theorem meet_normal {A0 T : Array Value} {d0 : List Deferred} {slots : List Nat} {rel : (Nat → Value) → World → Prop} {w' : World} (h3 : rel (fun i => T.getD i undef) w') (h2 : T = setAll A0 slots (fun i => T.getD i undef)) : Meet A0 d0 slots rel .normal { tmps := T, defers := d0 } w' := ⟨rfl, h2, h3⟩

/-- **THE REST FIRST, MET; THEN THE TWO LAST ONES.** -/
theorem wp_region_meet {S : World → Prop} {id : Nat} {A0 : Array Value} {d0 : List Deferred} {w : World} (slots : List Nat) (rel : (Nat → Value) → World → Prop) (m : Nat) (hsz : ops.size = m + 2) (hm : P.follows .mixedOrders = true) (hok : popOk2 .any ops m = true) (hok1 : popOk2 .any ops (m + 1) = true)
    (h : wpAnyH P .any ops (Meet A0 d0 slots rel) S m (((Array.replicate ops.size false).setIfInBounds (m + 1) true).setIfInBounds m true) { tmps := A0, defers := d0 } { w with drawn := w.drawn + 1 })
    (k : ∀ u w', rel u w' → wpOp P ops Q m (fun a' w'' => wpOp P ops Q (m + 1) (fun a2 w3 => Q .normal a2 w3) a' w'') { tmps := setAll A0 slots u, defers := d0 } w') : (Code.region id ops true).wp P Q { tmps := A0, defers := d0 } w := by
  refine wp_region_any hm ?_
  have hmeet : ∀ e a w, Meet A0 d0 slots rel e a w → Before P ops m (Before P ops (m + 1) Q) e a w := by
    rintro e ⟨tm, df⟩ w hM
    cases e with
    | normal =>
      obtain ⟨h1, h2, h3⟩ := hM
      simp only at h1 h2 h3
      subst h1
      have := k _ _ h3
      rw [← h2] at this
      show wpOp P ops (Before P ops (m + 1) Q) m (fun a' w' => wpOp P ops Q (m + 1) (fun a2 w3 => Q .normal a2 w3) a' w') _ _
      exact this
    | _ => exact hM.elim
  have h0 := wpAny_monoQ hmeet _ _ _ _ (wpAny_of_held _ _ _ _ h)
  have h1 := wpAny_popB hok m _ _ _ (fun i hi hl => ?_) (by simp) (fun j hj1 hj2 => ?_) ?_ h0
  · have h2 := wpAny_popB hok1 (m + 1) (Array.replicate ops.size false) _ _ (fun i hi hl => ?_) (by simp) (fun j hj1 hj2 => by omega) (by rw [getD_rep, if_pos (by omega)]) h1
    · rw [hsz] at h2 ⊢
      exact h2
    · simp only [Array.getD_eq_getD_getElem?, Array.getElem?_replicate] at hl
      split at hl <;> cases hl
  · rw [getD_set (by simp; omega), if_neg (by omega)] at hl
    simp only [Array.getD_eq_getD_getElem?, Array.getElem?_replicate] at hl
    split at hl <;> cases hl
  · rw [getD_set (by simp; omega)]
    split
    · rfl
    · omega
  · rw [getD_set (by simp; omega), if_neg (by omega), getD_rep, if_pos (by omega)]
end
end Go.Proofs.Ytaijfgajcmopfaa.Pop2
