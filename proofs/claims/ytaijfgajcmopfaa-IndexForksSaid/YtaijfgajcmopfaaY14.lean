import Derived.Test.YtaijfgajcmopfaaY13
/- The document's index: Put. -/
set_option linter.unusedVariables false
set_option linter.unusedSimpArgs false
namespace Go.Proofs.Ytaijfgajcmopfaa.Y14
open Go.RowKit Go.Shelf V Rh T W1 W2 W3 W4 W6 Rf X1 X2 X3 X4 X5 X6 Pl Y1 Y2 Y3 Y4 Y5 Y6 Y8 Y13 Ap

section
variable {w : World} {br ba most : Nat} {vs : List Value} {Ls : List (List Ent)}

theorem setup' (hX : RIdx w br ba vs most Ls) (hG : GoodL most Ls) (h : Int) (hh : 0 ≤ h) (hh2 : h < 18446744073709551616) : ∃ s p n v L, Setup w br ba most vs Ls h s p n v L ∧ v = vs.getD (stripeI Ls.length h) nilS := by
  have hsi := stripeI_lt hX.pos h
  obtain ⟨hs, hok, hroom⟩ := hG.2 _ hsi
  have hkeep : ∀ W, Keep No w W → RIdx W br ba vs most Ls := fun W hW => hX.keep hW (fun _ _ => no _)
  refine ⟨stripeI Ls.length h, posL h (sOf h Ls), Ls.length, vs.getD (stripeI Ls.length h) nilS, sOf h Ls, ⟨hsi, posL_le _ _, GoodL.small hG hsi, hX.most64, hG.1, hs, hok, fun W hW => rfind_any br ba most vs Ls h W (hkeep W hW) hG hh hh2, fun W hW => Y4.RIdx.opn (hkeep W hW) hsi,
    fun W hW => RHas.stays ⟨_, _, _, rfl, hX, rfl⟩ hW, fun w1 w' g rcap rest L' h1 h2 h3 h4 h5 h6 => RThen.after h1 (Y4.RIdx.write (hkeep w1 h1) hsi h2 h3 h4 h5 h6), fun w1 v' L' h1 h2 => Y4.RIdx.newrow hX hsi h1 h2, fun w1 w' v' L' base X h1 h2 h3 h4 h5 => Y4.RIdx.newrowB hX hsi h1 h2 h3 h4 h5, ?_, ⟨hX.foot_lt _ (.inr (.inl rfl)), hX.foot_lt _ (.inl rfl)⟩, rfl, rfl⟩, rfl⟩
  intro o ho
  have h1 := lget_pos (h := h) hs
  change lget h (sOf h Ls) = if posL h (sOf h Ls) < (sOf h Ls).length ∧ (gt (sOf h Ls) (posL h (sOf h Ls))).h = h then some (gt (sOf h Ls) (posL h (sOf h Ls))) else none at h1
  rw [ho] at h1
  split at h1
  · rename_i hc
    exact ⟨hc.1, by simpa using h1.symm⟩
  · cases h1

set_option maxRecDepth 100000 in
set_option maxHeartbeats 4000000 in
theorem rput_set (hX : RIdx w br ba vs most Ls) {e o : Ent} {s p n : Nat} {v : Value} {L : List Ent} (S : Setup w br ba most vs Ls e.h s p n v L) (HVV0 : v = vs.getD (stripeI Ls.length e.h) nilS) (ha : e.a ≠ 0) (hl : lget e.h L = some o) (hv : ¬ e.v < o.v) :
    Calls Try.prog 32 #[ptr br, valE e] w fun e' w' => e' = .returned (.tuple #[valE o, .bool true, .int .i64 0]) ∧ RThen w w' (ptr br) most (xset e.h (L.set p e) Ls) (RFoot br ba vs) := by
  have HVV := hid HVV0
  clear HVV0
  have hfind := S.find
  have HS := hid S
  have HB0 : Hid (Blk ((w.alloc (.cells #[.int .u64 e.h, .int .u64 e.a, .int .u64 e.v, .int .u8 e.c] 27)).alloc (.cells #[.int .u64 0, .int .u64 0, .int .u64 0, .int .u8 0] 27)) w.heap.size [.int .u64 e.h, .int .u64 e.a, .int .u64 e.v, .int .u8 e.c] 27) := (Blk.new' _ rfl).alloc _
  have HB1 : Hid (Blk ((w.alloc (.cells #[.int .u64 e.h, .int .u64 e.a, .int .u64 e.v, .int .u8 e.c] 27)).alloc (.cells #[.int .u64 0, .int .u64 0, .int .u64 0, .int .u8 0] 27)) (w.heap.size + 1) [.int .u64 0, .int .u64 0, .int .u64 0, .int .u8 0] 27) := Blk.new1 _ rfl
  have had : (e.a == 0) = false := by simpa using ha
  rw [hl] at hfind
  simp only [Option.isSome_some] at hfind
  obtain ⟨hpl, ho⟩ := S.found o hl
  have i0 : (0 : Int) ≤ (s : Nat) := by omega
  have i1 : (s : Int) < n := by have := S.hs; omega
  have i2 : (0 : Int) ≤ (p : Nat) := by omega
  have i3 : (p : Int) < L.length := by omega
  have HO := hid ho
  have hop := S.opn w (Keep.refl _ _)
  obtain ⟨_, _, _, _, _, _, _, _, _, hform⟩ := hop
  obtain ⟨g, rcap, rest, rfl, hrc, hr63, hbg, n1, n2, n3, n4⟩ := hform.resolve_left (fun e => by rw [e.2] at hpl; exact absurd hpl (Nat.not_lt_zero _))
  have HX := hid hX
  have HXP := hid (xput_set S ha hl hv)
  have HLI := hid S.list
  have HV2 := HVV
  have hgw := hbg.lt
  have HBG := hid hbg
  have hvd : decide (e.v < o.v) = false := by simpa using hv
  have hbd := S.bound
  clear hX S ha hl ho hv hform hbg HVV hr63
  unfold ptr valE
  go_enter Try.func32, Try.ntmps32
  go_wp2_with (go_at_call 59; refine (hfind _ (((Keep.refl _ _).alloc _).alloc _)).mono ?_; rintro e' w1 ⟨rfl, hk⟩; have HK := hid (Keep.trans (((Keep.refl No w).alloc _).alloc _) hk (fun _ _ h => h)); have hd := hid (HB1.out.mod hk (no _)); have he := hid (HB0.out.mod hk (no _)); obtain ⟨q0, b0, b1, b2, b3, g0⟩ := hd.out.four; obtain ⟨q1, a0, a1, a2, a3, g1⟩ := he.out.four; obtain ⟨cap, y0, y1, y2, y3, y4, y5, y6, y7, _⟩ := HS.out.opn _ HK.out; have hbg := HBG.out.mod HK.out (no _); obtain ⟨s0, s1, s2, s3⟩ := slot hbg hpl; rw [HO.out] at s0 s1 s2 s3; have hfr := hbg.frozen; have hgl := hbg.lt; clear hk hbg)
  obtain ⟨W, hW⟩ : ∃ W, w1.alloc (.cells #[.int .u64 o.h, .int .u64 o.a, .int .u64 o.v, .int .u8 o.c] 27) = W := ⟨_, rfl⟩
  have hWs : W.heap.size = w1.heap.size + 1 := by rw [← hW]; simp
  have HKW : Hid (Keep No w W) := by rw [← hW]; exact HK.out.alloc _
  have HBO : Hid (Blk W w1.heap.size [.int .u64 o.h, .int .u64 o.a, .int .u64 o.v, .int .u8 o.c] 27) := by rw [← hW]; exact Blk.new' _ rfl
  have hd1 : Hid (Blk W (w.heap.size + 1) [.int .u64 0, .int .u64 0, .int .u64 0, .int .u8 0] 27) := by rw [← hW]; exact hd.out.alloc _
  have he1 : Hid (Blk W w.heap.size [.int .u64 e.h, .int .u64 e.a, .int .u64 e.v, .int .u8 e.c] 27) := by rw [← hW]; exact he.out.alloc _
  have HBW : Hid (Blk W g (flat L ++ rest) 27) := HBG.out.mod HKW.out (no _)
  rw [hW]
  clear hW hd he HK y2 y3 y4 y6 y7 s0 s1 s2 s3 hfr b0 b1 b2 b3 g0 a0 a1 a2 a3 g1
  obtain ⟨cap2, _, z1, _, z3, _, z5, _, z7, _⟩ := HS.out.opn _ HKW.out
  obtain ⟨_, a0, a1, a2, a3, _⟩ := he1.out.four
  have hS0 : W.drew.cell? ⟨br, 1, none⟩ = some (.slice (some ⟨ba, 0, none⟩) n cap2) ∧ W.drew.cell? ⟨ba, s, none⟩ = some (.slice (some ⟨g, 0, none⟩) L.length rcap) ∧ W.drew.cell? ⟨w.heap.size, 0, none⟩ = some (.int .u64 e.h) ∧ W.drew.cell? ⟨w.heap.size, 1, none⟩ = some (.int .u64 e.a) ∧ W.drew.cell? ⟨w.heap.size, 2, none⟩ = some (.int .u64 e.v) ∧ W.drew.cell? ⟨w.heap.size, 3, none⟩ = some (.int .u8 e.c) := ⟨z3, z7, a0, a1, a2, a3⟩
  have hs2 : s < cap2 := by assumption
  obtain ⟨t0, t1, t2, t3⟩ := slot HBW.out hpl
  have hfr := HBW.out.frozen
  have hglt := HBW.out.lt
  refine Pop.wp_region_pop (m := 10) (S := fun V => V.cell? ⟨br, 1, none⟩ = some (.slice (some ⟨ba, 0, none⟩) n cap2) ∧ V.cell? ⟨ba, s, none⟩ = some (.slice (some ⟨g, 0, none⟩) L.length rcap) ∧ V.cell? ⟨w.heap.size, 0, none⟩ = some (.int .u64 e.h) ∧ V.cell? ⟨w.heap.size, 1, none⟩ = some (.int .u64 e.a) ∧ V.cell? ⟨w.heap.size, 2, none⟩ = some (.int .u64 e.v) ∧ V.cell? ⟨w.heap.size, 3, none⟩ = some (.int .u8 e.c)) (by kernel_rfl) (by kernel_rfl) ?_
  refine wpAnyH_take (i := 0) (v := ?_) rfl (by kernel_rfl) (by kernel_rfl) (by kernel_rfl) (fun _ _ _ h => h) (Or.inl ⟨by rfl, ?_⟩) (hS0) ?_
  rotate_left
  · (intro w hSw; obtain ⟨p1, p2, p3, p4, p5, p6⟩ := hSw; go_simp; try with_reducible rfl)
  simp only [Act.put, List.setIfInBounds_toArray, List.set_cons_zero, List.set_cons_succ]
  refine wpAnyH_take (i := 1) (v := ?_) rfl (by kernel_rfl) (by kernel_rfl) (by kernel_rfl) (fun _ _ _ h => h) (Or.inl ⟨by rfl, ?_⟩) (hS0) ?_
  rotate_left
  · (intro w hSw; obtain ⟨p1, p2, p3, p4, p5, p6⟩ := hSw; go_simp; try with_reducible rfl)
  simp only [Act.put, List.setIfInBounds_toArray, List.set_cons_zero, List.set_cons_succ]
  refine wpAnyH_take (i := 2) (v := ?_) rfl (by kernel_rfl) (by kernel_rfl) (by kernel_rfl) (fun _ _ _ h => h) (Or.inl ⟨by rfl, ?_⟩) (hS0) ?_
  rotate_left
  · (intro w hSw; obtain ⟨p1, p2, p3, p4, p5, p6⟩ := hSw; go_simp; try with_reducible rfl)
  simp only [Act.put, List.setIfInBounds_toArray, List.set_cons_zero, List.set_cons_succ]
  refine wpAnyH_take (i := 3) (v := ?_) rfl (by kernel_rfl) (by kernel_rfl) (by kernel_rfl) (fun _ _ _ h => h) (Or.inl ⟨by rfl, ?_⟩) (hS0) ?_
  rotate_left
  · (intro w hSw; obtain ⟨p1, p2, p3, p4, p5, p6⟩ := hSw; go_simp; try with_reducible rfl)
  simp only [Act.put, List.setIfInBounds_toArray, List.set_cons_zero, List.set_cons_succ]
  refine wpAnyH_take (i := 4) (v := ?_) rfl (by kernel_rfl) (by kernel_rfl) (by kernel_rfl) (fun _ _ _ h => h) (Or.inl ⟨by rfl, ?_⟩) (hS0) ?_
  rotate_left
  · (intro w hSw; obtain ⟨p1, p2, p3, p4, p5, p6⟩ := hSw; go_simp; try with_reducible rfl)
  simp only [Act.put, List.setIfInBounds_toArray, List.set_cons_zero, List.set_cons_succ]
  refine wpAnyH_take (i := 5) (v := ?_) rfl (by kernel_rfl) (by kernel_rfl) (by kernel_rfl) (fun _ _ _ h => h) (Or.inl ⟨by rfl, ?_⟩) (hS0) ?_
  rotate_left
  · (intro w hSw; obtain ⟨p1, p2, p3, p4, p5, p6⟩ := hSw; go_simp; try with_reducible rfl)
  simp only [Act.put, List.setIfInBounds_toArray, List.set_cons_zero, List.set_cons_succ]
  refine wpAnyH_take (i := 6) (v := ?_) rfl (by kernel_rfl) (by kernel_rfl) (by kernel_rfl) (fun _ _ _ h => h) (Or.inl ⟨by rfl, ?_⟩) (hS0) ?_
  rotate_left
  · (intro w hSw; obtain ⟨p1, p2, p3, p4, p5, p6⟩ := hSw; go_simp; try with_reducible rfl)
  simp only [Act.put, List.setIfInBounds_toArray, List.set_cons_zero, List.set_cons_succ]
  refine wpAnyH_take (i := 7) (v := ?_) rfl (by kernel_rfl) (by kernel_rfl) (by kernel_rfl) (fun _ _ _ h => h) (Or.inl ⟨by rfl, ?_⟩) (hS0) ?_
  rotate_left
  · (intro w hSw; obtain ⟨p1, p2, p3, p4, p5, p6⟩ := hSw; go_simp; try with_reducible rfl)
  simp only [Act.put, List.setIfInBounds_toArray, List.set_cons_zero, List.set_cons_succ]
  refine wpAnyH_take (i := 8) (v := ?_) rfl (by kernel_rfl) (by kernel_rfl) (by kernel_rfl) (fun _ _ _ h => h) (Or.inl ⟨by rfl, ?_⟩) (hS0) ?_
  rotate_left
  · (intro w hSw; obtain ⟨p1, p2, p3, p4, p5, p6⟩ := hSw; go_simp; try with_reducible rfl)
  simp only [Act.put, List.setIfInBounds_toArray, List.set_cons_zero, List.set_cons_succ]
  refine wpAnyH_take (i := 9) (v := ?_) rfl (by kernel_rfl) (by kernel_rfl) (by kernel_rfl) (fun _ _ _ h => h) (Or.inl ⟨by rfl, ?_⟩) (hS0) ?_
  rotate_left
  · (intro w hSw; obtain ⟨p1, p2, p3, p4, p5, p6⟩ := hSw; go_simp; try with_reducible rfl)
  simp only [Act.put, List.setIfInBounds_toArray, List.set_cons_zero, List.set_cons_succ]
  refine wpAnyH_done (by kernel_rfl) ?_ _
  refine Pop.before_normal ?_
  refine wpOp_step (i := 10) rfl (fun K' hK => ?_)
  go_simp
  refine hK _ _ ?_
  clear hS0 t0 t1 t2 t3
  have hneO : w1.heap.size ≠ g := by omega
  have hneL : w.heap.size + 1 ≠ g := by omega
  obtain ⟨W5, hW5⟩ : ∃ V, ((((W.setCell ⟨g, p * 4, none⟩ (.int .u64 e.h)).setCell ⟨g, p * 4 + 1, none⟩ (.int .u64 e.a)).setCell ⟨g, p * 4 + 2, none⟩ (.int .u64 e.v)).setCell ⟨g, p * 4 + 3, none⟩ (.int .u8 e.c)).drew = V := ⟨_, rfl⟩
  have HO4 : Hid (Blk W5 w1.heap.size [.int .u64 o.h, .int .u64 o.a, .int .u64 o.v, .int .u8 o.c] 27) := by rw [← hW5]; exact (HBO.out.other4 hneO _ _ _ _ _ _ _ _).drew
  have HL4 : Hid (Blk W5 (w.heap.size + 1) [.int .u64 0, .int .u64 0, .int .u64 0, .int .u8 0] 27) := by rw [← hW5]; exact (hd1.out.other4 hneL _ _ _ _ _ _ _ _).drew
  have HG5 : Hid (Blk W5 g (flat (L.set p e) ++ rest) 27) := by rw [← hW5]; exact (T.Blk.set4 HBW.out hpl e).drew
  have HK5 : Hid (Keep (fun k => k = g) W W5) := by rw [← hW5]; exact ((Keep.refl (fun k => k = g) _).set4 (fun _ => rfl) _ _ _ _ _ _ _ _).drew
  rw [hW5]
  clear hW5 hfr hglt z1 z3 z5 z7 a0 a1 a2 a3
  obtain ⟨o0, o1, o2, o3, o4, o5⟩ := HO4.out.four
  obtain ⟨l0, l1, l2, l3, l4, l5⟩ := HL4.out.four
  go_wp2
  refine bodyPost_ret (res_euv (e := o) rfl _ rfl rfl rfl (Blk.setE HL4.out o)) rfl ⟨rfl, ?_⟩
  refine writeB (X := fun k => k = w.heap.size + 1) HX.out HKW.out (by rw [HLI.out]; exact HV2.out.symm) (by rw [HLI.out]; exact HBW.out) HK5.out HG5.out (by rw [HLI.out]; simp) ((Keep.refl (fun k => k = w.heap.size + 1) _).set4 (fun _ => rfl) _ _ _ _ _ _ _ _) (fun k hk => by omega)

set_option maxRecDepth 100000 in
set_option maxHeartbeats 4000000 in
theorem rput_any (hX : RIdx w br ba vs most Ls) (hG : GoodL most Ls) (e : Ent) (hok : e.ok) :
    Calls Try.prog 32 #[ptr br, valE e] w fun e' w' => e' = .returned (.tuple #[valE ((xput most e Ls).1.getD z), .bool (xput most e Ls).1.isSome, .int .i64 (xput most e Ls).2.1]) ∧ RThen w w' (ptr br) most (xput most e Ls).2.2 (RFoot br ba vs) := by
  obtain ⟨hh, hh2, _⟩ := hok
  obtain ⟨s, p, n, v, L, S, HVV0⟩ := setup' hX hG e.h hh hh2
  have HVV := hid HVV0
  clear HVV0
  have hg : xget e.h Ls = lget e.h L := by unfold xget; rw [S.list]
  have hfind := S.find
  have HS := hid S
  have HB0 : Hid (Blk ((w.alloc (.cells #[.int .u64 e.h, .int .u64 e.a, .int .u64 e.v, .int .u8 e.c] 27)).alloc (.cells #[.int .u64 0, .int .u64 0, .int .u64 0, .int .u8 0] 27)) w.heap.size [.int .u64 e.h, .int .u64 e.a, .int .u64 e.v, .int .u8 e.c] 27) := (Blk.new' _ rfl).alloc _
  have HB1 : Hid (Blk ((w.alloc (.cells #[.int .u64 e.h, .int .u64 e.a, .int .u64 e.v, .int .u8 e.c] 27)).alloc (.cells #[.int .u64 0, .int .u64 0, .int .u64 0, .int .u8 0] 27)) (w.heap.size + 1) [.int .u64 0, .int .u64 0, .int .u64 0, .int .u8 0] 27) := Blk.new1 _ rfl
  by_cases ha : e.a = 0
  · have had : (e.a == 0) = true := by simpa using ha
    rw [xput_arg ha]
    clear hX S hg hfind ha
    unfold ptr valE
    obtain ⟨q1, d0, d1, d2, d3, g1⟩ := HB1.out.four
    go_enter Try.func32, Try.ntmps32
    go_wp2
    exact bodyPost_ret (res_euv (e := z) rfl _ rfl rfl rfl HB1.out) rfl ⟨rfl, HS.out.stays _ (((Keep.refl _ _).alloc _).alloc _)⟩
  · have had : (e.a == 0) = false := by simpa using ha
    cases hl : lget e.h L with
    | none =>
      rw [hl] at hfind
      simp only [Option.isSome_none] at hfind
      have hm16 := S.m16
      have hsm := S.small
      have i0 : (0 : Int) ≤ (s : Nat) := by have := S.hs; omega
      have i1 : (s : Int) < n := by have := S.hs; omega
      have hp16 := pow_le16 hm16
      obtain ⟨N, hN⟩ : ∃ N : Nat, 2 ^ most = N := ⟨_, rfl⟩
      rw [hN] at hp16
      have hp0 : (0 : Int) ≤ (N : Int) := by omega
      have hp1 : (N : Int) ≤ 65536 := by omega
      by_cases hf : 7 * N < 8 * (L.length + 1)
      · rw [xput_full S ha hl (by rw [hN]; exact hf)]
        have hfd : decide (7 * (N : Int) < 8 * ((L.length : Int) + 1)) = true := by simp; omega
        have h5 := shl_fits hN hp16
        clear hX S hg ha hl hf hG hN hp16
        unfold ptr valE
        go_enter Try.func32, Try.ntmps32
        go_wp2_with (go_at_call 59; refine (hfind _ (((Keep.refl _ _).alloc _).alloc _)).mono ?_; rintro e' w1 ⟨rfl, hk⟩; have HK := hid (Keep.trans (((Keep.refl No w).alloc _).alloc _) hk (fun _ _ h => h)); have hd := hid (HB1.out.mod hk (no _)); obtain ⟨q0, b0, b1, b2, b3, g0⟩ := hd.out.four; obtain ⟨q1, a0, a1, a2, a3, g1⟩ := (HB0.out.mod hk (no _)).four; obtain ⟨cap, y0, y1, y2, y3, y4, y5, y6, y7, y9⟩ := HS.out.opn _ HK.out; obtain ⟨va, vc, rfl⟩ : ∃ a c, v = .slice a L.length c := (by rcases y9 with ⟨rfl, rfl⟩ | ⟨g, rc, rest, rfl, _⟩; exact ⟨_, _, rfl⟩; exact ⟨_, _, rfl⟩); clear hk y9)
        go_quiet (fail)
        go_wp2
        exact bodyPost_ret (res_euv (e := z) rfl _ rfl rfl rfl (Blk.setE (hd.out.drewN _) z)) rfl ⟨rfl, HS.out.stays _ ((HK.out.drewN _).set4 (fun h => absurd h (by omega)) _ _ _ _ _ _ _ _)⟩
      · have hf' : ¬ 7 * 2 ^ most < 8 * (L.length + 1) := by rw [hN]; exact hf
        rw [xput_ins S ha hl hf']
        have hop := S.opn w (Keep.refl _ _)
        obtain ⟨_, _, _, _, _, _, _, _, _, hform⟩ := hop
        have hpl := S.hp
        have hsrc : ∀ W, Keep No w W → ∀ g rcap rest, v = .slice (some ⟨g, 0, none⟩) L.length rcap → Blk w g (flat L ++ rest) 27 → Blk W g (flat L ++ rest) 27 := fun W hW g rcap rest _ hb => hb.mod hW (no _)
        rcases hform with ⟨rfl, rfl⟩ | ⟨g, rcap, rest, rfl, hrc, hr63, hbg, _⟩
        · obtain rfl : p = 0 := by simpa using hpl
          exact rput_ins S ha hl hf' nilS nilS (fun W => by unfold nilS; go_simp) (fun W => by unfold nilS; go_simp) (fun W hW => .inl ⟨rfl, rfl, rfl⟩) (fun W hW => .inl ⟨rfl, rfl, rfl⟩)
        · have h1 : (0 : Int) ≤ p := by omega
          have h2 : (p : Int) ≤ rcap := by omega
          have h3 : (p : Int) ≤ L.length := by omega
          have h4 : (L.length : Int) ≤ rcap := by omega
          have hy1 : ∀ W, Keep No w W → Src W (.slice (some ⟨g, 0, none⟩) p rcap) p (flat (L.take p)) := fun W hW => .inr ⟨_, _, rfl, fun j u hu => by
            rw [add_at, Nat.zero_add, (hbg.mod hW (no _)).cell]
            have hj : j < (flat (L.take p)).length := (List.getElem?_eq_some_iff.1 hu).1
            have hsp : flat L = flat (L.take p) ++ flat (L.drop p) := by unfold flat; rw [← List.flatMap_append, List.take_append_drop]
            rw [hsp, List.append_assoc, List.getElem?_append_left hj]
            exact hu⟩
          by_cases hrp : rcap = p
          · have hd : L.drop p = [] := List.drop_eq_nil_of_le (by omega)
            refine rput_ins S ha hl hf' (.slice (some ⟨g, 0, none⟩) p rcap) (.slice (some ⟨g, 0, none⟩) (L.length - p) (rcap - p)) (fun W => by go_simp) (fun W => by subst hrp; go_simp) hy1 (fun W hW => .inr ⟨_, _, rfl, fun j u hu => ?_⟩)
            rw [hd] at hu
            cases hu
          · refine rput_ins S ha hl hf' (.slice (some ⟨g, 0, none⟩) p rcap) (.slice (some ⟨g, p * 4, none⟩) (L.length - p) (rcap - p)) (fun W => by go_simp) (fun W => by go_simp) hy1 (fun W hW => .inr ⟨_, _, rfl, fun j u hu => ?_⟩)
            rw [add_at, (hbg.mod hW (no _)).cell]
            have hj : j < (flat (L.drop p)).length := (List.getElem?_eq_some_iff.1 hu).1
            have hsp : flat L = flat (L.take p) ++ flat (L.drop p) := by unfold flat; rw [← List.flatMap_append, List.take_append_drop]
            have hl : (flat (L.take p)).length = p * 4 := by rw [flat_length, List.length_take]; omega
            rw [hsp, List.append_assoc, List.getElem?_append_right (by omega), List.getElem?_append_left (by omega), hl, Nat.add_sub_cancel_left]
            exact hu
    | some o =>
      rw [hl] at hfind
      simp only [Option.isSome_some] at hfind
      obtain ⟨hpl, ho⟩ := S.found o hl
      have i0 : (0 : Int) ≤ (s : Nat) := by omega
      have i1 : (s : Int) < n := by have := S.hs; omega
      have i2 : (0 : Int) ≤ (p : Nat) := by omega
      have i3 : (p : Int) < L.length := by omega
      have HO := hid ho
      by_cases hv : e.v < o.v
      · rw [xput_older ha (hg.trans hl) hv]
        have hvd : decide (e.v < o.v) = true := by simpa using hv
        clear hX S hg ha hl hG ho hv
        unfold ptr valE
        go_enter Try.func32, Try.ntmps32
        go_wp2_with (go_at_call 59; refine (hfind _ (((Keep.refl _ _).alloc _).alloc _)).mono ?_; rintro e' w1 ⟨rfl, hk⟩; have HK := hid (Keep.trans (((Keep.refl No w).alloc _).alloc _) hk (fun _ _ h => h)); have hd := hid (HB1.out.mod hk (no _)); obtain ⟨q0, b0, b1, b2, b3, g0⟩ := hd.out.four; obtain ⟨q1, a0, a1, a2, a3, g1⟩ := (HB0.out.mod hk (no _)).four; obtain ⟨cap, y0, y1, y2, y3, y4, y5, y6, y7, y9⟩ := HS.out.opn _ HK.out; obtain ⟨g, rcap, rest, rfl, y10, y11, hbg, y12, y13, y14, y15⟩ := y9.resolve_left (fun e => by rw [e.2] at hpl; exact absurd hpl (Nat.not_lt_zero _)); obtain ⟨s0, s1, s2, s3⟩ := slot hbg hpl; rw [HO.out] at s0 s1 s2 s3; clear hk hbg y9 y11)
        exact bodyPost_ret (res_euv (e := z) rfl _ rfl rfl rfl ((Blk.setE hd.out z).alloc _)) rfl ⟨rfl, HS.out.stays _ ((HK.out.set4 (fun h => absurd h (by omega)) _ _ _ _ _ _ _ _).alloc _)⟩
      · rw [xput_set S ha hl hv]
        exact rput_set hX S HVV.out ha hl hv
end
end Go.Proofs.Ytaijfgajcmopfaa.Y14
