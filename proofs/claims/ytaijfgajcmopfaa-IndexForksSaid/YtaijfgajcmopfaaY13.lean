import Derived.Test.YtaijfgajcmopfaaY12
/- The document's index: Put. -/
set_option linter.unusedVariables false
set_option linter.unusedSimpArgs false
namespace Go.Proofs.Ytaijfgajcmopfaa.Y13
open Go.RowKit Go.Shelf V Rh T W1 W2 W3 W4 W6 Rf X1 X2 X3 X4 X5 X6 Pl Y1 Y2 Y3 Y4 Y5 Y6 Y8 Ap

section
variable {w : World} {br ba most : Nat} {vs : List Value} {Ls : List (List Ent)}

theorem writeR (hX : RIdx w br ba vs most Ls) {s : Nat} (hs : s < Ls.length) {g rcap : Nat} {rest : List Value} {L' : List Ent} {w' : World} (hv : vs.getD s nilS = .slice (some ⟨g, 0, none⟩) (Ls.getD s []).length rcap)
    (hb : Blk w g (flat (Ls.getD s []) ++ rest) 27) (hk : Keep (fun k => k = g) w w') (hb' : Blk w' g (flat L' ++ rest) 27) (hl : L'.length = (Ls.getD s []).length) :
    RIdx w' br ba vs most (Ls.set s L') ∧ Keep (RFoot br ba vs) w w' := by
  have hown : (vs.getD s nilS).ownBlock = some g := by rw [hv]; rfl
  have hne := (hX.off s hs).2
  obtain ⟨rr, hrow⟩ := hX.row
  have hset : vs.set s (vs.getD s nilS) = vs := by
    have : s < vs.length := by rw [hX.len]; exact hs
    simp [this]
  have hlen : (flat L').length = (flat (Ls.getD s [])).length := by rw [flat_length, flat_length, hl]
  have ho := hX.own s hs
  have hv' : w'.ownsRow 0 27 4 (vs.getD s nilS) L'.length (flat L') := by
    refine ⟨by rw [flat_length]; omega, .inr ?_⟩
    rcases ho.2 with ⟨hn, _⟩ | ⟨g2, cap2, cur, he, hb0, hg, hc1, hc2, hc3, hc4⟩
    · rw [hv] at hn; cases hn
    · have he2 := hv.symm.trans he
      simp only [Value.slice.injEq, Option.some.injEq, Addr.mk.injEq] at he2
      obtain ⟨⟨rfl, _⟩, _, rfl⟩ := he2
      have hcur : cur = (flat (Ls.getD s []) ++ rest).toArray := by
        unfold Blk at hb
        rw [hb] at hg
        simp only [Option.some.injEq, Obj.cells.injEq] at hg
        exact hg.1.symm
      refine ⟨g, rcap, (flat L' ++ rest).toArray, by rw [hl]; exact hv, Nat.zero_le _, hb', by rw [hl]; exact hc1, hc2, ?_, ?_⟩
      · rw [hcur] at hc3
        simp only [List.size_toArray, List.length_append] at hc3 ⊢
        omega
      · exact List.take_left' (by rw [flat_length]; omega)
  obtain ⟨h1, h2, h3⟩ := hX.put (w' := w') hs (v' := vs.getD s nilS) (L' := L') (hk.mono (fun k _ e => .inr (by rw [hown, e]))) ⟨rr, by rw [hset]; exact hrow.mod hk (fun e => hne (by rw [hown, e]))⟩ hv' (fun k hk => .inl hk)
  rw [hset] at h1 h3
  exact ⟨h1, h2⟩

/-- row s written in its place; cells of the call's own are written behind it -/
theorem writeB (hX : RIdx w br ba vs most Ls) {h : Int} {g rcap : Nat} {rest : List Value} {L' : List Ent} {w1 w' w2 : World} {X : Nat → Prop} (h1 : Keep No w w1) (hv : vs.getD (stripeI Ls.length h) nilS = .slice (some ⟨g, 0, none⟩) (sOf h Ls).length rcap)
    (hb : Blk w1 g (flat (sOf h Ls) ++ rest) 27) (hk : Keep (fun k => k = g) w1 w') (hb' : Blk w' g (flat L' ++ rest) 27) (hl : L'.length = (sOf h Ls).length) (hX2 : Keep X w' w2) (hXl : ∀ k, X k → w.heap.size ≤ k) :
    RThen w w2 (ptr br) most (xset h L' Ls) (RFoot br ba vs) := by
  have hs := stripeI_lt hX.pos h
  have hlt := hX.foot_lt
  obtain ⟨h2, h3⟩ := writeR (hX.keep h1 (fun _ _ => no _)) hs hv hb hk hb' hl
  refine ⟨((h1.mono (fun _ _ e => e.elim)).trans h3 (fun _ _ e => e)).trans hX2 (fun k hk hx => by have := hXl k hx; omega), _, ⟨_, _, _, rfl, h2.keep hX2 (fun k hk hx => by have := hXl k hx; have := hlt k hk; omega), rfl⟩, fun k hk => .inl hk⟩

theorem shl_fits {most N : Nat} (hN : 2 ^ most = N) (h : N ≤ 65536) : wrap64 (2 ^ most) = (N : Int) := by
  rw [show (2 : Int) ^ most = ((2 ^ most : Nat) : Int) by simp, hN]
  unfold wrap64
  omega

theorem xput_arg {e : Ent} (h : e.a = 0) : xput most e Ls = (none, 1, Ls) := by unfold xput; rw [if_pos h]
theorem xput_older {e o : Ent} (h : e.a ≠ 0) (ho : xget e.h Ls = some o) (hv : e.v < o.v) : xput most e Ls = (none, 120, Ls) := by
  unfold xput
  rw [if_neg h, if_pos ⟨o, ho, hv⟩]
theorem xput_set {e o : Ent} {s p n : Nat} {v : Value} {L : List Ent} (S : Setup w br ba most vs Ls e.h s p n v L) (h : e.a ≠ 0) (ho : lget e.h L = some o) (hv : ¬ e.v < o.v) : xput most e Ls = (some o, 0, xset e.h (L.set p e) Ls) := by
  have hg : xget e.h Ls = some o := by unfold xget; rw [S.list]; exact ho
  unfold xput
  rw [if_neg h, if_neg (by rintro ⟨o', h1, h2⟩; rw [hg] at h1; obtain rfl := Option.some.inj h1; exact hv h2), S.list]
  unfold putR
  rw [ho]
  have := (lput_set (e := e) S.sorted ho).2.2
  rw [this, ← S.pos]
theorem xput_full {e : Ent} {s p n : Nat} {v : Value} {L : List Ent} (S : Setup w br ba most vs Ls e.h s p n v L) (h : e.a ≠ 0) (ho : lget e.h L = none) (hf : 7 * 2 ^ most < 8 * (L.length + 1)) : xput most e Ls = (none, 2, Ls) := by
  have hg : xget e.h Ls = none := by unfold xget; rw [S.list]; exact ho
  unfold xput
  rw [if_neg h, if_neg (by rintro ⟨o', h1, h2⟩; rw [hg] at h1; cases h1), S.list]
  unfold putR
  rw [ho]
  simp only [if_pos hf]
  have := S.list
  subst this
  rw [xset_self]
theorem xput_ins {e : Ent} {s p n : Nat} {v : Value} {L : List Ent} (S : Setup w br ba most vs Ls e.h s p n v L) (h : e.a ≠ 0) (ho : lget e.h L = none) (hf : ¬ 7 * 2 ^ most < 8 * (L.length + 1)) : xput most e Ls = (none, 0, xset e.h (L.take p ++ e :: L.drop p) Ls) := by
  have hg : xget e.h Ls = none := by unfold xget; rw [S.list]; exact ho
  unfold xput
  rw [if_neg h, if_neg (by rintro ⟨o', h1, h2⟩; rw [hg] at h1; cases h1), S.list]
  unfold putR
  rw [ho]
  simp only [if_neg hf]
  rw [lput_ins S.sorted ho, ← S.pos]

set_option maxRecDepth 100000 in
set_option maxHeartbeats 4000000 in
theorem rput_ins {e : Ent} {s p n : Nat} {v : Value} {L : List Ent} (S : Setup w br ba most vs Ls e.h s p n v L) (ha : e.a ≠ 0) (hl : lget e.h L = none) (hf : ¬ 7 * 2 ^ most < 8 * (L.length + 1)) (sy1 sy2 : Value)
    (hs1 : ∀ W, (Instr.sliceAt 39 v none (some (.int .i64 (p : Int))) none).run Try.prog W = .ok sy1 W) (hs2 : ∀ W, (Instr.sliceAt 39 v (some (.int .i64 (p : Int))) none none).run Try.prog W = .ok sy2 W)
    (hy1 : ∀ W, Keep No w W → Src W sy1 p (flat (L.take p))) (hy2 : ∀ W, Keep No w W → Src W sy2 (L.length - p) (flat (L.drop p))) :
    Calls Try.prog 32 #[ptr br, valE e] w fun e' w' => e' = .returned (.tuple #[valE z, .bool false, .int .i64 0]) ∧ RThen w w' (ptr br) most (xset e.h (L.take p ++ e :: L.drop p) Ls) (RFoot br ba vs) := by
  have hfind := S.find
  have HS := hid S
  have HB0 : Hid (Blk ((w.alloc (.cells #[.int .u64 e.h, .int .u64 e.a, .int .u64 e.v, .int .u8 e.c] 27)).alloc (.cells #[.int .u64 0, .int .u64 0, .int .u64 0, .int .u8 0] 27)) w.heap.size [.int .u64 e.h, .int .u64 e.a, .int .u64 e.v, .int .u8 e.c] 27) := (Blk.new' _ rfl).alloc _
  have HB1 : Hid (Blk ((w.alloc (.cells #[.int .u64 e.h, .int .u64 e.a, .int .u64 e.v, .int .u8 e.c] 27)).alloc (.cells #[.int .u64 0, .int .u64 0, .int .u64 0, .int .u8 0] 27)) (w.heap.size + 1) [.int .u64 0, .int .u64 0, .int .u64 0, .int .u8 0] 27) := Blk.new1 _ rfl
  have had : (e.a == 0) = false := by simpa using ha
  rw [hl] at hfind
  simp only [Option.isSome_none] at hfind
  have hm16 := S.m16
  have hsm := S.small
  have i0 : (0 : Int) ≤ (s : Nat) := by have := S.hs; omega
  have i1 : (s : Int) < n := by have := S.hs; omega
  have hpl := S.hp
  have hp16 := pow_le16 hm16
  obtain ⟨N, hN⟩ : ∃ N : Nat, 2 ^ most = N := ⟨_, rfl⟩
  rw [hN] at hp16 hf
  have hp0 : (0 : Int) ≤ (N : Int) := by omega
  have hp1 : (N : Int) ≤ 65536 := by omega
  have hfd : decide (7 * (N : Int) < 8 * ((L.length : Int) + 1)) = false := by simp; omega
  have LT : Hid ((flat (L.take p)).length = p * 4) := by show _ = _; rw [flat_length, List.length_take]; omega
  have LD : Hid ((flat (L.drop p)).length = (L.length - p) * 4) := by show _ = _; rw [flat_length, List.length_drop]; omega
  have hm1 : 0 + p ≤ maxLen := by unfold maxLen; omega
  have hm2 : (0 + p) * 32 ≤ 140737488355328 := by omega
  have hm3 : p + 1 ≤ maxLen := by unfold maxLen; omega
  have hm4 : (p + 1) * 32 ≤ 140737488355328 := by omega
  have hm5 : p + 1 + (L.length - p) ≤ maxLen := by unfold maxLen; omega
  have hm6 : (p + 1 + (L.length - p)) * 32 ≤ 140737488355328 := by omega
  have M := hid (And.intro hm1 (And.intro hm2 (And.intro hm3 (And.intro hm4 (And.intro hm5 hm6)))))
  have HLL : Hid ((L.take p ++ e :: L.drop p).length = p + 1 + (L.length - p)) := by show _ = _; simp; omega
  have HY1 := hid hy1
  have HY2 := hid hy2
  have h5 := shl_fits hN hp16
  clear hm1 hm2 hm3 hm4 hm5 hm6 S ha hl hf hN hp16 hy1 hy2
  obtain ⟨t0, hi, hz0, hz1, hz2⟩ := info_parts info27
  unfold ptr valE
  go_enter Try.func32, Try.ntmps32
  go_wp2_with (go_at_call 59; refine (hfind _ (((Keep.refl _ _).alloc _).alloc _)).mono ?_; rintro e' w1 ⟨rfl, hk⟩; have HK := hid (Keep.trans (((Keep.refl No w).alloc _).alloc _) hk (fun _ _ h => h)); have hd := hid (HB1.out.mod hk (no _)); have he := hid (HB0.out.mod hk (no _)); obtain ⟨q0, b0, b1, b2, b3, g0⟩ := hd.out.four; obtain ⟨q1, a0, a1, a2, a3, g1⟩ := he.out.four; obtain ⟨cap, y0, y1, y2, y3, y4, y5, y6, y7, y9⟩ := HS.out.opn _ HK.out; obtain ⟨va, vc, hv⟩ : ∃ a c, v = .slice a L.length c := (by rcases y9 with ⟨rfl, rfl⟩ | ⟨g, rc, rest, rfl, _⟩; exact ⟨_, _, rfl⟩; exact ⟨_, _, rfl⟩); rw [hv] at y7; clear hk y9)
  go_quiet (fail)
  obtain ⟨W1, hW1⟩ : ∃ W, w1.drewN nq = W := ⟨_, rfl⟩
  have HK1 : Hid (Keep No w W1) := by rw [← hW1]; exact HK.out.drewN _
  have hd1 : Hid (Blk W1 (w.heap.size + 1) [.int .u64 0, .int .u64 0, .int .u64 0, .int .u8 0] 27) := by rw [← hW1]; exact hd.out.drewN _
  have he1 : Hid (Blk W1 w.heap.size [.int .u64 e.h, .int .u64 e.a, .int .u64 e.v, .int .u8 e.c] 27) := by rw [← hW1]; exact he.out.drewN _
  have hsW : W1.heap.size = w1.heap.size := by rw [← hW1]; simp
  rw [hW1]
  clear hW1 y0 y1 y2 y3 y4 y5 y6 y7 q0 b0 b1 b2 b3 g0 q1 a0 a1 a2 a3 g1
  obtain ⟨cap, y0, y1, y2, y3, y4, y5, y6, y7, _⟩ := HS.out.opn _ HK1.out
  obtain ⟨q0, b0, b1, b2, b3, g0⟩ := hd1.out.four
  obtain ⟨q1, a0, a1, a2, a3, g1⟩ := he1.out.four
  have W1s : Hid (∀ V : World, Keep No W1 V → V.cell? ⟨br, 1, none⟩ = some (.slice (some ⟨ba, 0, none⟩) n cap) ∧ V.cell? ⟨ba, s, none⟩ = some v ∧ V.cell? ⟨w.heap.size, 0, none⟩ = some (.int .u64 e.h) ∧ V.cell? ⟨w.heap.size, 1, none⟩ = some (.int .u64 e.a) ∧ V.cell? ⟨w.heap.size, 2, none⟩ = some (.int .u64 e.v) ∧ V.cell? ⟨w.heap.size, 3, none⟩ = some (.int .u8 e.c)) := fun V hV =>
    ⟨(World.cell?_of_block (hV.block _ y1 (no _))).trans y3, (World.cell?_of_block (hV.block _ y5 (no _))).trans y7, (World.cell?_of_block (hV.block _ q1 (no _))).trans a0, (World.cell?_of_block (hV.block _ q1 (no _))).trans a1, (World.cell?_of_block (hV.block _ q1 (no _))).trans a2, (World.cell?_of_block (hV.block _ q1 (no _))).trans a3⟩
  have F1 : Hid (∀ V : World, Keep No W1 V → (∀ i, V.frozen? ⟨ba, i, none⟩ = false) ∧ ba < V.heap.size) := fun V hV => ⟨fun i => (World.frozen?_of_block (hV.block ba y5 (no _))).trans (y6 i), Nat.lt_of_lt_of_le y5 hV.size⟩
  have KA : Hid (Keep No W1 (W1.alloc (.cells #[] 27))) := (Keep.refl _ _).alloc _
  have O1 : Hid ((W1.alloc (.cells #[] 27)).ownsRow W1.heap.size 27 4 (.slice (some ⟨W1.heap.size, 0, none⟩) 0 0) 0 []) := World.ownsRow_lit W1 #[] 0 (Nat.le_refl _) (by decide) rfl
  clear hv hsW hd he HK
  go_wp2_with (at_builtin; refine wpList_append_src _ rfl (.tmp 70) (.tmp 79) 39 rfl W1.heap.size 27 t0 zE 4 32 Try.underlying39 hi hz0 hz1 hz2 rfl (by decide) (.slice (some ⟨W1.heap.size, 0, none⟩) 0 0) 0 [] rfl O1.out sy1 p (flat (L.take p)) rfl (HY1.out _ (HK1.out.trans KA.out (fun _ _ e => e))) LT.out (flat_one _) M.out.1 M.out.2.1 KA.out.size ?c5)
  case c5 =>
    intro v1 w2 ho1 hg1 hi1 hb1
    have hK2 : Keep No W1 w2 := KA.out.grown hg1 (fun k e hk => by simp [Value.ownBlock] at e; omega)
    obtain ⟨a1', m1', c1', rfl⟩ := own_some ho1
    have HO1 := hid ho1
    have HK2 := hid hK2
    clear ho1 hg1 hi1 hb1 hK2 y2 y3 y4 y6 y7 a0 a1 a2 a3 g1 b0 b1 b2 b3 g0
    go_wp2
    have hS0 := W1s.out _ (HK2.out.drew)
    refine Pop.wp_region_pop (m := 20) (S := fun V => V.cell? ⟨br, 1, none⟩ = some (.slice (some ⟨ba, 0, none⟩) n cap) ∧ V.cell? ⟨ba, s, none⟩ = some v ∧ V.cell? ⟨w.heap.size, 0, none⟩ = some (.int .u64 e.h) ∧ V.cell? ⟨w.heap.size, 1, none⟩ = some (.int .u64 e.a) ∧ V.cell? ⟨w.heap.size, 2, none⟩ = some (.int .u64 e.v) ∧ V.cell? ⟨w.heap.size, 3, none⟩ = some (.int .u8 e.c)) (by kernel_rfl) (by kernel_rfl) ?_
    refine wpAnyH_take (i := 0) (v := ?_) rfl (by kernel_rfl) (by kernel_rfl) (by kernel_rfl) (fun _ _ _ h => h) (Or.inl ⟨by rfl, ?_⟩) (hS0) ?_
    rotate_left
    · (intro w hSw; obtain ⟨p1, p2, p3, p4, p5, p6⟩ := hSw; go_simp; try with_reducible rfl)
    simp only [Act.put, List.setIfInBounds_toArray, List.set_cons_zero, List.set_cons_succ]
    refine wpAnyH_take (i := 1) (v := ?_) rfl (by kernel_rfl) (by kernel_rfl) (by kernel_rfl) (fun _ _ _ h => h) (Or.inl ⟨by rfl, ?_⟩) (hS0) ?_
    rotate_left
    · (intro w hSw; obtain ⟨p1, p2, p3, p4, p5, p6⟩ := hSw; go_simp; try with_reducible rfl)
    simp only [Act.put, List.setIfInBounds_toArray, List.set_cons_zero, List.set_cons_succ]
    refine wpAnyH_take (i := 2) (v := ?_) rfl (by kernel_rfl) (by kernel_rfl) (by kernel_rfl) (fun _ _ _ h => h) (Or.inl ⟨by rfl, ?_⟩) (hS0) ?_
    rotate_left
    · (intro w hSw; obtain ⟨p1, p2, p3, p4, p5, p6⟩ := hSw; go_simp; try with_reducible rfl)
    simp only [Act.put, List.setIfInBounds_toArray, List.set_cons_zero, List.set_cons_succ]
    refine wpAnyH_take (i := 3) (v := ?_) rfl (by kernel_rfl) (by kernel_rfl) (by kernel_rfl) (fun _ _ _ h => h) (Or.inl ⟨by rfl, ?_⟩) (hS0) ?_
    rotate_left
    · (intro w hSw; obtain ⟨p1, p2, p3, p4, p5, p6⟩ := hSw; go_simp; try with_reducible rfl)
    simp only [Act.put, List.setIfInBounds_toArray, List.set_cons_zero, List.set_cons_succ]
    refine wpAnyH_take (i := 4) (v := ?_) rfl (by kernel_rfl) (by kernel_rfl) (by kernel_rfl) (fun _ _ _ h => h) (Or.inl ⟨by rfl, ?_⟩) (hS0) ?_
    rotate_left
    · (intro w hSw; obtain ⟨p1, p2, p3, p4, p5, p6⟩ := hSw; go_simp; try with_reducible rfl)
    simp only [Act.put, List.setIfInBounds_toArray, List.set_cons_zero, List.set_cons_succ]
    refine wpAnyH_take (i := 5) (v := ?_) rfl (by kernel_rfl) (by kernel_rfl) (by kernel_rfl) (fun _ _ _ h => h) (Or.inl ⟨by rfl, ?_⟩) (hS0) ?_
    rotate_left
    · (intro w hSw; obtain ⟨p1, p2, p3, p4, p5, p6⟩ := hSw; go_simp; try with_reducible rfl)
    simp only [Act.put, List.setIfInBounds_toArray, List.set_cons_zero, List.set_cons_succ]
    refine wpAnyH_take (i := 6) (v := ?_) rfl (by kernel_rfl) (by kernel_rfl) (by kernel_rfl) (fun _ _ _ h => h) (Or.inl ⟨by rfl, ?_⟩) (hS0) ?_
    rotate_left
    · (intro w hSw; obtain ⟨p1, p2, p3, p4, p5, p6⟩ := hSw; go_simp; try with_reducible rfl)
    simp only [Act.put, List.setIfInBounds_toArray, List.set_cons_zero, List.set_cons_succ]
    refine wpAnyH_take (i := 9) (v := ?_) rfl (by kernel_rfl) (by kernel_rfl) (by kernel_rfl) (fun _ _ _ h => h) (Or.inl ⟨by rfl, ?_⟩) (hS0) ?_
    rotate_left
    · (intro w hSw; obtain ⟨p1, p2, p3, p4, p5, p6⟩ := hSw; go_simp; try with_reducible rfl)
    simp only [Act.put, List.setIfInBounds_toArray, List.set_cons_zero, List.set_cons_succ]
    refine wpAnyH_take (i := 10) (v := ?_) rfl (by kernel_rfl) (by kernel_rfl) (by kernel_rfl) (fun _ _ _ h => h) (Or.inl ⟨by rfl, ?_⟩) (hS0) ?_
    rotate_left
    · (intro w hSw; obtain ⟨p1, p2, p3, p4, p5, p6⟩ := hSw; go_simp; try with_reducible rfl)
    simp only [Act.put, List.setIfInBounds_toArray, List.set_cons_zero, List.set_cons_succ]
    refine wpAnyH_take (i := 11) (v := ?_) rfl (by kernel_rfl) (by kernel_rfl) (by kernel_rfl) (fun _ _ _ h => h) (Or.inl ⟨by rfl, ?_⟩) (hS0) ?_
    rotate_left
    · (intro w hSw; obtain ⟨p1, p2, p3, p4, p5, p6⟩ := hSw; go_simp; try with_reducible rfl)
    simp only [Act.put, List.setIfInBounds_toArray, List.set_cons_zero, List.set_cons_succ]
    refine wpAnyH_take (i := 12) (v := ?_) rfl (by kernel_rfl) (by kernel_rfl) (by kernel_rfl) (fun _ _ _ h => h) (Or.inl ⟨by rfl, ?_⟩) (hS0) ?_
    rotate_left
    · (intro w hSw; obtain ⟨p1, p2, p3, p4, p5, p6⟩ := hSw; go_simp; try with_reducible rfl)
    simp only [Act.put, List.setIfInBounds_toArray, List.set_cons_zero, List.set_cons_succ]
    refine wpAnyH_take (i := 13) (v := ?_) rfl (by kernel_rfl) (by kernel_rfl) (by kernel_rfl) (fun _ _ _ h => h) (Or.inl ⟨by rfl, ?_⟩) (hS0) ?_
    rotate_left
    · (intro w hSw; obtain ⟨p1, p2, p3, p4, p5, p6⟩ := hSw; go_simp; try with_reducible rfl)
    simp only [Act.put, List.setIfInBounds_toArray, List.set_cons_zero, List.set_cons_succ]
    refine wpAnyH_take (i := 14) (v := ?_) rfl (by kernel_rfl) (by kernel_rfl) (by kernel_rfl) (fun _ _ _ h => h) (Or.inl ⟨by rfl, ?_⟩) (hS0) ?_
    rotate_left
    · (intro w hSw; obtain ⟨p1, p2, p3, p4, p5, p6⟩ := hSw; go_simp; try with_reducible rfl)
    simp only [Act.put, List.setIfInBounds_toArray, List.set_cons_zero, List.set_cons_succ]
    refine wpAnyH_take (i := 15) (v := ?_) rfl (by kernel_rfl) (by kernel_rfl) (by kernel_rfl) (fun _ _ _ h => h) (Or.inl ⟨by rfl, ?_⟩) (hS0) ?_
    rotate_left
    · (intro w hSw; obtain ⟨p1, p2, p3, p4, p5, p6⟩ := hSw; go_simp; try with_reducible rfl)
    simp only [Act.put, List.setIfInBounds_toArray, List.set_cons_zero, List.set_cons_succ]
    refine wpAnyH_take (i := 16) (v := ?_) rfl (by kernel_rfl) (by kernel_rfl) (by kernel_rfl) (fun _ _ _ h => h) (Or.inl ⟨by rfl, ?_⟩) (hS0) ?_
    rotate_left
    · (intro w hSw; obtain ⟨p1, p2, p3, p4, p5, p6⟩ := hSw; go_simp; try with_reducible rfl)
    simp only [Act.put, List.setIfInBounds_toArray, List.set_cons_zero, List.set_cons_succ]
    refine wpAnyH_take (i := 17) (v := ?_) rfl (by kernel_rfl) (by kernel_rfl) (by kernel_rfl) (fun _ _ _ h => h) (Or.inl ⟨by rfl, ?_⟩) (hS0) ?_
    rotate_left
    · (intro w hSw; obtain ⟨p1, p2, p3, p4, p5, p6⟩ := hSw; go_simp; try with_reducible rfl)
    simp only [Act.put, List.setIfInBounds_toArray, List.set_cons_zero, List.set_cons_succ]
    refine wpAnyH_ready (rs := [7]) (by kernel_rfl) (by simp) (AllReadyH.cons (i := 7) rfl (fun K' hK => ?_) AllReadyH.nil)
    go_simp
    refine hK.out _ _ (W1s.out _ ((HK2.out.alloc _).drew)) (fun _ => ?_)
    clear hK
    refine wpAnyH_ready (rs := [8]) (by kernel_rfl) (by simp) (AllReadyH.cons (i := 8) rfl (fun K' hK => ?_) AllReadyH.nil)
    refine step_append_src _ (by rfl) (.tmp 86) (.tmp 88) 39 (by rfl) W1.heap.size 27 t0 zE 4 32 Try.underlying39 hi hz0 hz1 hz2 rfl (by decide) (.slice a1' m1' c1') _ _ (by rfl) ((HO1.out.alloc (.cells #[.int .u64 e.h, .int .u64 e.a, .int .u64 e.v, .int .u8 e.c] 27)).drew) (.slice (some ⟨w2.heap.size, 0, none⟩) 1 1) 1 (cellsE e) (by rfl) (Src.blk ((Blk.new' 27 rfl).drew)) (by rfl) ?c1 M.out.2.2.1 M.out.2.2.2.1 ((HK2.out.alloc _).drew.size) ?c3
    case c1 => intro u hu; simp only [cellsE, List.mem_cons, List.not_mem_nil, or_false] at hu; rcases hu with rfl | rfl | rfl | rfl <;> rfl
    case c3 =>
      intro v2 w3 ho2 hg2 hi2 hb2
      have hK3 : Keep No W1 w3 := (HK2.out.alloc _).drew.grown hg2 (fun k e hk => by have := (HO1.out.lt k e).1; omega)
      refine hK.out _ _ (W1s.out _ hK3) (fun _ => ?_)
      clear hK
      change wpAnyH _ _ _ _ _ _ _ (Act.put _ (some 89) _) _
      simp only [Act.put, List.setIfInBounds_toArray, List.set_cons_zero, List.set_cons_succ]
      refine wpAnyH_ready (rs := [18]) (by kernel_rfl) (by simp) (AllReadyH.cons (i := 18) rfl (fun K' hK => ?_) AllReadyH.nil)
      refine step_append_src _ (by rfl) (.tmp 89) (.tmp 98) 39 (by rfl) W1.heap.size 27 t0 zE 4 32 Try.underlying39 hi hz0 hz1 hz2 rfl (by decide) v2 _ _ (by rfl) ho2 sy2 (L.length - p) (flat (L.drop p)) (by rfl) (HY2.out _ (HK1.out.trans hK3 (fun _ _ e => e))) LD.out (flat_one _) M.out.2.2.2.2.1 M.out.2.2.2.2.2 hK3.size ?_
      intro v3 w4 ho3 hg3 hi3 hb3
      have hK4 : Keep No W1 w4 := hK3.grown hg3 (fun k e hk => by have := (ho2.lt k e).1; omega)
      refine hK.out _ _ (W1s.out _ hK4) (fun _ => ?_)
      clear hK
      change wpAnyH _ _ _ _ _ _ _ (Act.put _ (some 99) _) _
      simp only [Act.put, List.setIfInBounds_toArray, List.set_cons_zero, List.set_cons_succ]
      obtain ⟨hF3, hF4⟩ := F1.out _ hK4
      have hS5 := W1s.out _ hK4
      refine wpAnyH_take (i := 19) (v := ?_) rfl (by kernel_rfl) (by kernel_rfl) (by kernel_rfl) (fun _ _ _ h => h) (Or.inl ⟨by rfl, ?_⟩) (hS5) ?_
      rotate_left
      · (intro w hSw; obtain ⟨p1, p2, p3, p4, p5, p6⟩ := hSw; go_simp; try with_reducible rfl)
      simp only [Act.put, List.setIfInBounds_toArray, List.set_cons_zero, List.set_cons_succ]
      refine wpAnyH_done (by kernel_rfl) ?_ _
      refine Pop.before_normal ?_
      refine wpOp_step (i := 20) rfl (fun K' hK => ?_)
      obtain ⟨a3', m3', c3', rfl⟩ := own_some ho3
      have HO3 := hid ho3
      have HK4 := hid hK4
      obtain ⟨p1, p2, p3, p4, p5, p6⟩ := hS5
      clear ho2 ho3 hg2 hg3 hi2 hi3 hb2 hb3 hK3 hK4 hS0
      go_simp
      refine hK _ _ ?_
      have hneL : w.heap.size + 1 ≠ ba := by have := HS.out.bound; omega
      have HL := hid (Blk.ot' (hd1.out.mod HK4.out (no _)) hneL s (.slice a3' m3' c3'))
      obtain ⟨l0, l1, l2, l3, l4, l5⟩ := HL.out.four
      go_wp2
      have hfe : flat (L.take p ++ e :: L.drop p) = flat (L.take p) ++ cellsE e ++ flat (L.drop p) := by simp [flat]
      have ho5 : w4.ownsRow W1.heap.size 27 4 (.slice a3' m3' c3') (L.take p ++ e :: L.drop p).length (flat (L.take p ++ e :: L.drop p)) := by
        rw [HLL.out, hfe]
        exact HO3.out
      refine bodyPost_ret (res_euv (e := z) rfl _ rfl rfl rfl (Blk.setE HL.out z)) rfl ⟨rfl, ?_⟩
      exact HS.out.newrowB w4 _ _ _ W1.heap.size (fun k => k = w.heap.size + 1) (HK1.out.trans HK4.out (fun _ _ e => e)) HK1.out.size ho5 (Keep.set4 (Keep.refl (fun k => k = w.heap.size + 1) _) (fun _ => rfl) _ _ _ _ _ _ _ _) (fun k hk => by subst hk; exact ⟨by omega, q0⟩)
end
end Go.Proofs.Ytaijfgajcmopfaa.Y13
