import Derived.Test.YtaijfgajcmopfaaP2
/- Texts of one proof, one behind the other: Z9 Ar2. -/
/- IndexPurged, walked. -/
set_option linter.unusedVariables false
set_option linter.unusedSimpArgs false
namespace Go.Proofs.Ytaijfgajcmopfaa.Z9
open Go.RowKit Go.Shelf V Rh T W1 W2 W3 W4 W6 W10 Rf X1 X2 X3 X4 X5 X6 X7 X9 Pl Y1 Y2 Y3 Y4 Y9 Ap Ap2 Ar Z1 Z2 Z4 Z5 Z6 Z8 Lp
attribute [local go_sem] Oper.semAt_some

set_option maxRecDepth 100000 in
set_option maxHeartbeats 1000000 in
theorem purged_bad (n b m r : Int) (d : Value) (w : World) (h : badS n b m) :
    Calls Try.prog 4 #[valS n b m d, .int .i64 r] w fun e w' => e = .returned (.bool true) ∧ Keep No w w' := by
  have hb := fun W => played_no n b m d W h
  have HB := hid hb
  clear hb h
  have H4 : Hid (Blk (((w.alloc (.cells #[.int .i64 n, .int .i64 b, .int .i64 m, d] 24)).alloc (.cells #[.int .i64 r] 3)).alloc (.cells #[.bool false] 4)) (w.heap.size + 2) [.bool false] 4) := Blk.new2 _ rfl
  unfold valS at *
  go_enter Try.func4, Try.ntmps4
  go_wp2_with (go_at_call 7; refine (HB.out _).mono ?_; rintro e w1 ⟨rfl, hk⟩; have HK := hid (((((Keep.refl No w).alloc _).alloc _).alloc _).trans hk (fun _ _ e => e)); have h4 := H4.out.mod hk (no _); have HB4 := hid h4; obtain ⟨z4, c4, f4⟩ := h4.one; clear hk h4)
  exact bodyPost_ret (res_b rfl _ rfl (HB4.out.set 0 (.bool true))) rfl ⟨rfl, HK.out.setCell _ _ (fun h => absurd h (by simp; omega))⟩

set_option maxRecDepth 100000 in
set_option maxHeartbeats 1000000 in
theorem purged_out (n b m r : Int) (d : Value) (os : List Opr) (w : World) (h : ¬ badS n b m) (hO : Ops w d os) (hr : r < 0 ∨ 65536 ≤ r) :
    Calls Try.prog 4 #[valS n b m d, .int .i64 r] w fun e w' => e = .returned (.bool true) ∧ Keep No w w' := by
  have hb := fun W (hW : Keep No w W) => played_yes n b m d os W h (hO.keep hW)
  have HB := hid hb
  have hr' : decide (r < 0) = true ∨ decide (r < 0) = false ∧ decide (65536 ≤ r) = true := by simp; omega
  clear hb h hr hO
  have H4 : Hid (Blk (((w.alloc (.cells #[.int .i64 n, .int .i64 b, .int .i64 m, d] 24)).alloc (.cells #[.int .i64 r] 3)).alloc (.cells #[.bool false] 4)) (w.heap.size + 2) [.bool false] 4) := Blk.new2 _ rfl
  have H3 : Hid (Blk (((w.alloc (.cells #[.int .i64 n, .int .i64 b, .int .i64 m, d] 24)).alloc (.cells #[.int .i64 r] 3)).alloc (.cells #[.bool false] 4)) (w.heap.size + 1) [.int .i64 r] 3) := (Blk.new1 _ rfl).alloc _
  unfold valS ptr at *
  rcases hr' with h0 | ⟨h0, h1⟩
  all_goals
    go_enter Try.func4, Try.ntmps4
    go_wp2_with (go_at_call 7; refine (HB.out _ ((((Keep.refl No w).alloc _).alloc _).alloc _)).mono ?_; rintro e w1 ⟨bx, br, F, G, rfl, hP⟩; have hk := hP.keep; have HK := hid (((((Keep.refl No w).alloc _).alloc _).alloc _).trans hk (fun _ _ e => e)); have h4 := H4.out.mod hk (no _); have HB4 := hid h4; obtain ⟨z4, c4, f4⟩ := h4.one; obtain ⟨z3, c3, f3⟩ := (H3.out.mod hk (no _)).one; clear hk h4 hP)
    exact bodyPost_ret (res_b rfl _ rfl (HB4.out.set 0 (.bool true))) rfl ⟨rfl, HK.out.setCell _ _ (fun h => absurd h (by simp; omega))⟩

set_option maxRecDepth 100000 in
set_option maxHeartbeats 4000000 in
theorem purged_in (n b m r : Int) (d : Value) (os : List Opr) (w : World) (h : ¬ badS n b m) (hO : Ops w d os) (hr : 0 ≤ r) (hr2 : r < 65536) :
    Calls Try.prog 4 #[valS n b m d, .int .i64 r] w fun e w' => e = .returned (.bool true) ∧ Keep No w w' := by
  have hb := fun W (hW : Keep No w W) => played_yes n b m d os W h (hO.keep hW)
  have HB := hid hb
  have g1 : decide (r < 0) = false := by simp; omega
  have g2 : decide (65536 ≤ r) = false := by simp; omega
  have hwr : IntKind.u64.wrap r = r := IntWalk.u64_in _ ⟨by omega, by omega⟩
  have HR := hid hr
  have HR2 := hid hr2
  clear hb h hO hr hr2
  have H4 : Hid (Blk (((w.alloc (.cells #[.int .i64 n, .int .i64 b, .int .i64 m, d] 24)).alloc (.cells #[.int .i64 r] 3)).alloc (.cells #[.bool false] 4)) (w.heap.size + 2) [.bool false] 4) := Blk.new2 _ rfl
  have H3 : Hid (Blk (((w.alloc (.cells #[.int .i64 n, .int .i64 b, .int .i64 m, d] 24)).alloc (.cells #[.int .i64 r] 3)).alloc (.cells #[.bool false] 4)) (w.heap.size + 1) [.int .i64 r] 3) := (Blk.new1 _ rfl).alloc _
  obtain ⟨t0, hi0, hz0, hz1, hz2⟩ := info_parts info27
  generalize playL m.toNat os (lists0 n) = Ls at *
  generalize m.toNat = most at *
  unfold valS ptr at *
  refine calls_of_marks Try.func4 rfl ?_
  simp only [Try.ntmps4, List.size_toArray, List.length_cons, List.length_nil, Nat.reduceAdd, Nat.reduceSub, Array.replicate_succ, Array.replicate_zero, List.push_toArray, List.append_toArray, List.nil_append, List.cons_append]
  go_wp2_with fail
  refine (HB.out _ ((((Keep.refl No w).alloc _).alloc _).alloc _)).mono ?_
  rintro e w1 ⟨bx, br, F, G, rfl, hP⟩
  have hk := hP.keep
  have HK := hid (((((Keep.refl No w).alloc _).alloc _).alloc _).trans hk (fun _ _ e => e))
  have h4 := H4.out.mod hk (no _)
  have HB4 := hid h4
  have HB3 := hid (H3.out.mod hk (no _))
  obtain ⟨z4, c4, f4⟩ := h4.one
  obtain ⟨z3, c3, f3⟩ := HB3.out.one
  have HP := hid hP
  have hFlt := hP.both.has.lt
  have HFL := hid hFlt
  have HFN : Hid (∀ k, F k → w.heap.size + 3 ≤ k) := fun k hk => by have := hP.new k (.inl hk); simp at this; omega
  clear hk h4 hP hFlt
  go_wp2
  obtain ⟨W0, hW0⟩ : ∃ W, (w1.alloc (.cells #[.slice none 0 0] 39)).alloc (.cells #[.int .i64 0] 3) = W := ⟨_, rfl⟩
  have HPS : Hid (PS w W0 (w.heap.size + 1) (w.heap.size + 2) w1.heap.size (w1.heap.size + 1) r (ptr bx) most Ls F ((cnt r Ls 0 : Nat) : Int) []) := by
    rw [← hW0]
    refine ⟨Marks.nil _ _, (HB3.out.alloc _).alloc _, (HB4.out.alloc _).alloc _, Blk.new1 _ rfl, (HP.out.both.has.keep ((Keep.refl No _).alloc _) (fun _ _ => no _)).keep ((Keep.refl No _).alloc _) (fun _ _ => no _), (HK.out.alloc _).alloc _, fun k hk => ?_, by omega, by omega, by omega, by omega⟩
    have h1 := HFN.out k hk
    have h2 := HFL.out k hk
    omega
  have HLf : Hid (Lf W0 w1.heap.size (w1.heap.size + 1) F nilS (coll (notHit r) Ls 0)) := by
    rw [← hW0]
    refine ⟨(Blk.new' _ rfl).alloc _, World.ownsRow_nil _ _ _ _, fun g hg => (by cases hg)⟩
  rw [hW0]
  obtain ⟨b7, hb7⟩ : ∃ b, w1.heap.size = b := ⟨_, rfl⟩
  rw [hb7] at HPS HLf ⊢
  have HG : Hid (GoodL most Ls) := HP.out.both.good
  have HN64 : Hid (Ls.length ≤ 64) := by obtain ⟨_, _, _, _, _, hX, _⟩ := HP.out.both.has; exact hX.most64
  clear hW0 hb7 HK HB3 HB4 HP HFL HFN z4 c4 f4 z3 c3 f3 H3 H4 HB
  refine wp_loop_slots [9, 10, 33, 34, 35, 36, 37, 38, 39, 40, 41, 42, 43, 44, 45, 46, 47, 48, 49, 50, 51, 52, 53, 54]
    (fun n u ds wr => ∃ (i : Nat) (v : Value), n = Ls.length - i ∧ i ≤ Ls.length ∧ u 9 = .int .i64 i ∧ PS w wr (w.heap.size + 1) (w.heap.size + 2) b7 (b7 + 1) r (ptr bx) most Ls F ((cnt r Ls i : Nat) : Int) ds ∧ Lf wr b7 (b7 + 1) F v (coll (notHit r) Ls i)) Ls.length ⟨0, nilS, rfl, Nat.zero_le _, rfl, HPS.out, HLf.out⟩ ?_
  rintro n' u ds wr ⟨i, v, rfl, hi, h9, hS, hL⟩ K hK
  simp only [setAll, List.setIfInBounds_toArray, List.set_cons_zero, List.set_cons_succ]
  rw [h9]
  have HS := hid hS
  have HL := hid hL
  have hst := fun W (hW : Keep No wr W) => stripes_has (hS.has.keep hW (fun _ _ => no _))
  have hal := fun W (hW : Keep No wr W) => all_has (hS.has.keep hW (fun _ _ => no _)) i
  have HST := hid hst
  have HAL := hid hal
  clear HPS HLf hS hL h9 hst hal
  have hn64 := HN64.out
  by_cases hlt : i < Ls.length
  · have hlt' : (i : Int) < Ls.length := by omega
    have hi64 : (i : Int) ≤ 64 := by omega
    have hi0' : (0 : Int) ≤ i := by omega
    unfold ptr at *
    go_wp2_with (first | (go_at_call 10; refine (HST.out _ (Keep.refl _ _)).mono ?_; rintro e w2 ⟨rfl, rfl⟩) | (go_at_call 11; refine (HAL.out _ (Keep.refl _ _)).mono ?_; rintro e w2 ⟨rfl, hk, hseq⟩; have HK2 := hid hk; have HSEQ := hid hseq; clear hk hseq))
    have hxa : xall i Ls = Ls.getD i [] := xall_in hlt
    rw [hxa] at HSEQ
    obtain ⟨L, hLL⟩ : ∃ L, Ls.getD i [] = L := ⟨_, rfl⟩
    have hLg := HG.out.2 i hlt
    rw [hLL] at HSEQ hLg
    have HSW := hid (HS.out.stay HK2.out)
    have HLW := hid (HL.out.stay HK2.out)
    have HLG := hid hLg
    have hxs0 := coll_small (f := notHit r) HG.out hi
    have hcs0 := cnt_small (r := r) HG.out hi
    have HL2 : Hid (L.length ≤ 65536) := by rw [← hLL]; exact GoodL.small HG.out hlt
    have HB := hid (And.intro hxs0 hcs0)
    have ord := HS.out.ord
    have hb8 := HS.out.gone.lt
    have HF : Hid (∀ k, F k → k < wr.heap.size) := HS.out.has.lt
    have hw2 := HK2.out.size
    have HEV := hid hLL
    clear hxa hLg hxs0 hcs0 hLL
    refine wp_range (gf := 48) (lb := #[.pointer (some ⟨wr.heap.size, 0, none⟩)]) (encs := encs) (xs := L) rfl (enters_of Try.func48 (by kernel_rfl) rfl) HSEQ.out (fun _ => rfl)
      (fun O s W => Keep (fun k => k = b7 ∨ k = b7 + 1 ∨ v.ownBlock = some k) w2 W ∧ Blk W (b7 + 1) [.int .i64 ((cnt r Ls i + s.countP (phit r) : Nat) : Int)] 3 ∧ ∃ v', Blk W b7 [v'] 39 ∧ W.ownsRow (b7 + 1 + 1) 27 4 v' (coll (notHit r) Ls i ++ s.filter (notHit r)).length (flat (coll (notHit r) Ls i ++ s.filter (notHit r))) ∧ ∀ g, v'.ownBlock = some g → ¬ O g ∧ ¬ F g ∧ (g < w2.heap.size → v.ownBlock = some g))
      (fun _ _ _ _ => False) ?h0 ?hI (fun _ _ _ _ _ h _ _ => h) ?hround ?hdone (fun _ _ _ _ _ _ _ _ h => h.elim)
    case h0 =>
      intro O W hW hO
      have hrl := HLW.out.row.lt
      refine ⟨hW.mono (fun _ _ h => h.elim), HSW.out.gone.mod hW (no _), v, HLW.out.cell.mod hW (no _), ?_, fun g hg => ⟨fun ho => ?_, HLW.out.off g hg, fun _ => hg⟩⟩
      · have := own_keep HLW.out.row hW (fun _ _ => no _)
        simpa using this
      · have := (hO g ho).1; have := (hrl g hg).2; omega
    case hI =>
      intro O s A B hs hAB hO
      obtain ⟨h1, h2, v', h3, h4, h5⟩ := hs
      have hne : ∀ k, k < w2.heap.size → ¬ O k := fun k hk h => by have := (hO _ h).1; omega
      exact ⟨h1.trans hAB (fun k hk h => absurd h (hne k hk)), h2.mod hAB (hne _ (by omega)), v', h3.mod hAB (hne _ (by omega)), own_keep h4 hAB (fun g hg => (h5 g hg).1), h5⟩
    case hround =>
      intro l O pre x W hI hp hO
      have hxm : x ∈ L := hp.subset (by simp)
      obtain ⟨hm1, hm2, hm3⟩ := HLG.out
      obtain ⟨⟨q1, q2, q3, q4, q5, q6, q7, q8⟩, _⟩ := hm2 x hxm
      have hlen := hp.length_le
      simp only [List.length_append, List.length_singleton] at hlen
      have hll := HL2.out
      have hbb := HB.out
      have hcn : pre.countP (phit r) ≤ 65536 := Nat.le_trans List.countP_le_length (by omega)
      have hfn : (pre.filter (notHit r)).length ≤ 65536 := Nat.le_trans (List.length_filter_le _ _) (by omega)
      have hcn0 : (0 : Int) ≤ ((cnt r Ls i + pre.countP (phit r) : Nat) : Int) := by omega
      have hcn1 : ((cnt r Ls i + pre.countP (phit r) : Nat) : Int) ≤ 8000000 := by omega
      have hfn1 : (coll (notHit r) Ls i ++ pre.filter (notHit r)).length ≤ 8000000 := by rw [List.length_append]; omega
      have HFN := hid hfn1
      simp only [encs, valE]
      have HHI := hid hI
      have HO := hid hO
      clear hI hO hp hlen hxm hm1 hm2 hm3 hll hbb hcn hfn hfn1
      gi_wp2
      refine ⟨⟨by simp, fun k hk => Below.heap_alloc _ _ _ (HO.out k hk).2⟩, ?_, ?_⟩
      · obtain ⟨h1, h2, v', h3, h4, h5⟩ := HHI.out
        exact ⟨h1.alloc _, h2.alloc _, v', h3.alloc _, h4.alloc _, h5⟩
      intro W2 hK2 hs2 hI2
      obtain ⟨k2, hg2, v', hv2, hrow, hoff⟩ := hI2
      have hord := HS.out.ord
      have hB3 : Blk W2 (w.heap.size + 1) [.int .i64 r] 3 := HSW.out.reg.mod k2 (fun h => by
        rcases h with h | h | h
        · omega
        · omega
        · have := (HLW.out.row.lt _ h).1; omega)
      have hB9 : Blk W2 W.heap.size [.int .u64 x.h, .int .u64 x.a, .int .u64 x.v, .int .u8 x.c] 27 := (Blk.new' 27 rfl).mod hK2 (fun h => by have := (HO.out _ h).2; omega)
      obtain ⟨z9, d0, d1, d2, d3, f9⟩ := hB9.four
      obtain ⟨z3, c3, f3⟩ := hB3.one
      obtain ⟨z8, c8, f8⟩ := hg2.one
      obtain ⟨z7, c7, f7⟩ := hv2.one
      have HO2 := hid (fun k hk => (⟨(HO.out k hk).1, by have := (HO.out k hk).2; rw [hs2]; simp; omega⟩ : w2.heap.size ≤ k ∧ k < W2.heap.size))
      have K2 := hid k2
      have HG2 := hid hg2
      have HV2 := hid hv2
      have HROW := hid hrow
      have HOFF := hid hoff
      have hph0 : phit r x = (x.a / 281474976710656 == r) := by unfold phit; rw [decide_eq_true HR.out, Bool.true_and]
      clear hB9 hB3 hg2 hv2 hrow hoff k2 hK2 hs2
      by_cases hph : phit r x = true
      · have hbq : (x.a / 281474976710656 == r) = true := by rw [← hph0]; exact hph
        have HPH := hid hph
        clear hph hph0
        gi_wp2
        have hkk : Keep (fun k => k = b7 + 1) W2 (W2.setCell ⟨b7 + 1, 0, none⟩ (.int .i64 (((cnt r Ls i + pre.countP (phit r) : Nat) : Int) + 1))) := (Keep.refl _ _).setCell _ _ (fun _ => rfl)
        have hne : b7 ≠ b7 + 1 := by omega
        refine ⟨Sta.of_keep hkk (fun k hk => ⟨(HO2.out k hk).2, by have := (HO2.out k hk).1; omega⟩), K2.out.setCell _ _ (fun _ => .inr (.inl rfl)), ?_, v', HV2.out.mod hkk hne, ?_, HOFF.out⟩
        · have := HG2.out.set 0 (.int .i64 (((cnt r Ls i + pre.countP (phit r) : Nat) : Int) + 1))
          rw [pcount_snoc, HPH.out, if_pos rfl]
          have e : ((cnt r Ls i + (pre.countP (phit r) + 1) : Nat) : Int) = ((cnt r Ls i + pre.countP (phit r) : Nat) : Int) + 1 := by omega
          rw [e]
          exact this
        · rw [filter_snoc, show notHit r x = false by rw [notHit, HPH.out]; rfl]
          have := own_keep HROW.out hkk (fun g hg => by have := (HROW.out.lt g hg).1; omega)
          simpa using this
      · have hbq : (x.a / 281474976710656 == r) = false := by rw [← hph0]; simpa using hph
        have hph' : phit r x = false := by simpa using hph
        have HPH := hid hph'
        clear hph hph0 hph'
        gi_wp2_with (gi_at_builtin; refine Ap2.wpListIn_append_src _ rfl (.tmp 51) (.tmp 53) 39 rfl (b7 + 1 + 1) 27 t0 zE 4 32 Try.underlying39 hi0 hz0 hz1 hz2 rfl (by decide) v' _ _ rfl (HROW.out.alloc (.cells #[.int .u64 x.h, .int .u64 x.a, .int .u64 x.v, .int .u8 x.c] 27)) (.slice (some ⟨W2.heap.size, 0, none⟩) 1 1) 1 (cellsE x) rfl (Src.blk (Blk.new' _ rfl)) rfl ?c1 ?c2 ?c3 ?c4 ?c5)
        case c1 => intro u hu; simp only [cellsE, List.mem_cons, List.not_mem_nil, or_false] at hu; rcases hu with rfl | rfl | rfl | rfl <;> rfl
        case c2 => have := HFN.out; unfold maxLen; omega
        case c3 => have := HFN.out; omega
        case c4 => simp; omega
        case c5 =>
          intro v2 w3 ho hg hi hb
          have hK3 : Keep (fun k => v'.ownBlock = some k) W2 w3 := ((Keep.refl _ _).alloc _).grown hg (fun k e _ => e)
          have hv7 : v'.ownBlock ≠ some b7 := fun e => by have := (HROW.out.lt _ e).1; omega
          have hv8 : v'.ownBlock ≠ some (b7 + 1) := fun e => by have := (HROW.out.lt _ e).1; omega
          obtain ⟨y7, e7, g7⟩ := (HV2.out.mod hK3 hv7).one
          obtain ⟨a3, m3, c3', rfl⟩ := own_some ho
          have HO3 := hid ho
          have HK3 := hid hK3
          have HB8 := hid (HG2.out.mod hK3 hv8)
          have HB7 := hid (HV2.out.mod hK3 hv7)
          have HKN := hid ((K2.out.alloc (.cells #[.int .u64 x.h, .int .u64 x.a, .int .u64 x.v, .int .u8 x.c] 27)).grown hg (fun k e hk => .inr (.inr ((HOFF.out k e).2.2 hk))))
          have HOFF3 : Hid (∀ g, (Value.slice a3 m3 c3').ownBlock = some g → ¬ O g ∧ ¬ F g ∧ (g < w2.heap.size → v.ownBlock = some g)) := fun g hg' => by
            rcases hb with h | h
            · rw [h] at hg'; exact HOFF.out g hg'
            · rw [h] at hg'
              simp only [World.size_alloc, Option.some.injEq] at hg'
              have := K2.out.size
              refine ⟨fun ho' => by have := (HO2.out g ho').2; omega, fun hf => by have := HF.out g hf; omega, fun hlt' => by omega⟩
          clear ho hg hi hb hK3 c7 f7
          gi_wp2
          have hkk : Keep (fun k => k = b7) w3 (w3.setCell ⟨b7, 0, none⟩ (.slice a3 m3 c3')) := (Keep.refl _ _).setCell _ _ (fun _ => rfl)
          have hne : b7 + 1 ≠ b7 := by omega
          refine ⟨Sta.of_keep (S := fun k => k = b7 ∨ v'.ownBlock = some k) ((HK3.out.mono (fun _ _ e => .inr e)).setCell _ _ (fun _ => .inl rfl)) (fun k hk => ⟨(HO2.out k hk).2, ?_⟩), HKN.out.setCell _ _ (fun _ => .inl rfl), ?_, _, HB7.out.set 0 _, ?_, HOFF3.out⟩
          · rintro (h | h)
            · have := (HO2.out k hk).1; omega
            · exact (HOFF.out k h).1 hk
          · have := HB8.out.mod hkk hne
            rw [pcount_snoc, HPH.out]
            exact this
          · rw [filter_snoc, show notHit r x = true by rw [notHit, HPH.out]; rfl, if_pos rfl, ← List.append_assoc, flat_snoc]
            have := own_keep HO3.out hkk (fun g hg => by have := (HO3.out.lt g hg).1; omega)
            simpa [Nat.add_assoc] using this
    case hdone =>
      intro D O W hD hOD hO hI hm
      obtain ⟨h1, h2, v', h3, h4, h5⟩ := hI
      have hrl := HL.out.row.lt
      have hK : Keep (fun k => k = b7 ∨ k = b7 + 1 ∨ v.ownBlock = some k) wr W := (HK2.out.mono (fun _ _ e => e.elim)).trans h1 (fun _ _ e => e)
      have hnm : ∀ j, (j = b7 ∨ j = b7 + 1 ∨ v.ownBlock = some j) → w.heap.size + 2 < j ∧ ¬ F j ∧ ¬ IsMark wr j := by
        rintro j (h | h | h)
        · subst h; exact ⟨by omega, fun hf => (HS.out.off _ hf).2.1 rfl, Blk.notMark HL.out.cell⟩
        · subst h; exact ⟨by omega, fun hf => (HS.out.off _ hf).2.2 rfl, Blk.notMark HS.out.gone⟩
        · exact ⟨by have := (hrl j h).1; omega, HL.out.off j h, own_notMark HL.out.row h⟩
      have hfin : PS w W (w.heap.size + 1) (w.heap.size + 2) b7 (b7 + 1) r (ptr bx) most Ls F ((cnt r Ls (i + 1) : Nat) : Int) ds := by
        rw [cnt_succ hlt, HEV.out]
        exact HS.out.go hK hnm h2
      have hsz : wr.heap.size ≤ D := by omega
      have hm2 := HS.out.marks.cons hK (fun j _ hj hs => (hnm j hs).2.2 hj) hsz (Nat.le_trans HS.out.keep.size hsz) hm
      have HFin := hid (show PS w W (w.heap.size + 1) (w.heap.size + 2) b7 (b7 + 1) r (ptr bx) most Ls F ((cnt r Ls (i + 1) : Nat) : Int) (Rf.mark D :: ds) from ⟨hm2, hfin.reg, hfin.res, hfin.gone, hfin.has, hfin.keep, hfin.off, hfin.ord⟩)
      have HLfin : Hid (Lf W b7 (b7 + 1) F v' (coll (notHit r) Ls (i + 1))) := by
        rw [coll_succ hlt, HEV.out]
        exact ⟨h3, h4, fun g hg => (h5 g hg).2.1⟩
      clear h1 h2 h3 h4 h5 hrl hK hnm hfin hsz hm2 hm hO hD hOD
      go_wp2
      refine ⟨Ls.length - (i + 1), by omega, ?eq1, i + 1, rfl, by omega, ?_, HFin.out, v', HLfin.out⟩
      case eq1 => kernel_rfl
      omega
  · have hie : i = Ls.length := by omega
    subst hie
    unfold ptr at *
    go_wp2_with (go_at_call 10; refine (HST.out _ (Keep.refl _ _)).mono ?_; rintro e w2 ⟨rfl, rfl⟩)
    have hcl := coll_small (f := notHit r) HG.out (Nat.le_refl Ls.length)
    have hcs := cnt_small (r := r) HG.out (Nat.le_refl Ls.length)
    have HCS := hid hcs
    have HS1 := hid (show PS w wr (w.heap.size + 1) (w.heap.size + 2) b7 (b7 + 1) r (ptr bx) most (PL r Ls 0) F ((cnt r Ls Ls.length : Nat) : Int) ds from by rw [PL_zero]; exact HS.out)
    have HL1 : Hid (Lg wr b7 (b7 + 1) F v (rest (notHit r) Ls 0)) := by
      rw [← coll_rest]
      exact Lg.of HL.out
    clear HS HL HST HAL hcl hcs
    refine wp_loop_slots [11, 12, 55, 56, 57, 58, 59, 60, 61, 62, 63, 64, 65, 66]
      (fun n u ds' wr => ∃ (i : Nat) (F' : Nat → Prop), n = Ls.length - i ∧ i ≤ Ls.length ∧ u 12 = .int .i64 i ∧ u 11 = .int .i64 ((cnt r Ls i : Nat) : Int) ∧ PS w wr (w.heap.size + 1) (w.heap.size + 2) b7 (b7 + 1) r (ptr bx) most (PL r Ls i) F' ((cnt r Ls Ls.length : Nat) : Int) ds' ∧ Lg wr b7 (b7 + 1) F' v (rest (notHit r) Ls 0)) Ls.length ⟨0, F, rfl, Nat.zero_le _, rfl, rfl, HS1.out, HL1.out⟩ ?_
    clear HS1 HL1 hK
    rintro n' u ds wr ⟨i, F, rfl, hi, h12, h11, hS, hL⟩ K hK
    simp only [setAll, List.setIfInBounds_toArray, List.set_cons_zero, List.set_cons_succ]
    rw [h12, h11]
    have HS := hid hS
    have HL := hid hL
    have hst := fun W (hW : Keep No wr W) => stripes_has (hS.has.keep hW (fun _ _ => no _))
    rw [PL_length hi] at hst
    have hpu := fun W (hW : Keep No wr W) => purge_has (hS.has.keep hW (fun _ _ => no _)) i r (by have := HR.out; omega) (by have := HR2.out; omega)
    have HST := hid hst
    have HPU := hid hpu
    obtain ⟨z3, c3, f3⟩ := hS.reg.one
    clear hS hL h12 h11 hst hpu
    by_cases hlt : i < Ls.length
    · have hlt' : (i : Int) < Ls.length := by omega
      have hi64 : (i : Int) ≤ 64 := by omega
      have hi0' : (0 : Int) ≤ i := by omega
      rw [(xpurge_PL hlt).1, (xpurge_PL hlt).2] at HPU
      have h1 := cnt_small (r := r) HG.out hi
      have h2 := cnt_small (r := r) HG.out (show i + 1 ≤ Ls.length by omega)
      have h3 := cnt_succ (r := r) hlt
      obtain ⟨ci, hci⟩ : ∃ c, (Ls.getD i []).countP (phit r) = c := ⟨_, rfl⟩
      rw [hci] at HPU h3
      have e1 : ((cnt r Ls i : Nat) : Int) ≤ 8000000 := by omega
      have e2 : (ci : Int) ≤ 8000000 := by omega
      have e3 : (0 : Int) ≤ ((cnt r Ls i : Nat) : Int) := by omega
      have e4 : (0 : Int) ≤ (ci : Int) := by omega
      have HC := hid h3
      clear h1 h2 h3 hci
      unfold ptr at *
      go_wp2_with (first | (go_at_call 10; refine (HST.out _ (Keep.refl _ _)).mono ?_; rintro e w2 ⟨rfl, rfl⟩) | (go_at_call 12; refine (HPU.out _ (Keep.refl _ _)).mono ?_; rintro e w2 ⟨rfl, hT⟩; have HT := hid hT; clear hT))
      obtain ⟨F', hP', hF'⟩ := HS.out.then HT.out
      have hL' := HL.out.go HT.out.1 (fun hf => (HS.out.off _ hf).2.1 rfl) hF'
      refine ⟨Ls.length - (i + 1), by omega, ?eq2, i + 1, rfl, by omega, by omega, ?_, F', hP', hL'⟩
      case eq2 => kernel_rfl
      rw [HC.out]
      omega
    · have hie : i = Ls.length := by omega
      subst hie
      unfold ptr at *
      go_wp2_with (go_at_call 10; refine (HST.out _ (Keep.refl _ _)).mono ?_; rintro e w2 ⟨rfl, rfl⟩)
      have HS1 := hid HS.out
      have HL1 := hid HL.out
      clear HS HL HST HPU z3 c3 f3
      refine wp_loop_slots [13, 14, 67, 68, 69, 70, 71, 72, 73, 74, 75, 76, 77, 78, 79, 80, 81, 82, 83, 84, 85, 86, 87, 88]
        (fun n u ds' wr => ∃ (i : Nat) (v : Value), n = Ls.length - i ∧ i ≤ Ls.length ∧ u 13 = .int .i64 i ∧ PS w wr (w.heap.size + 1) (w.heap.size + 2) b7 (b7 + 1) r (ptr bx) most (PL r Ls Ls.length) F ((cnt r Ls Ls.length : Nat) : Int) ds' ∧ Lg wr b7 (b7 + 1) F v (rest (notHit r) Ls i)) Ls.length ⟨0, v, rfl, Nat.zero_le _, rfl, HS1.out, HL1.out⟩ ?_
      clear HS1 HL1 hK
      rintro n' u ds wr ⟨i, v, rfl, hi, h13, hS, hL⟩ K hK
      simp only [setAll, List.setIfInBounds_toArray, List.set_cons_zero, List.set_cons_succ]
      rw [h13]
      have HS := hid hS
      have HL := hid hL
      have hst := fun W (hW : Keep No wr W) => stripes_has (hS.has.keep hW (fun _ _ => no _))
      rw [PL_length (Nat.le_refl _)] at hst
      have hal := fun W (hW : Keep No wr W) => all_has (hS.has.keep hW (fun _ _ => no _)) i
      have HST := hid hst
      have HAL := hid hal
      clear hS hL h13 hst hal
      by_cases hlt : i < Ls.length
      · have hlt' : (i : Int) < Ls.length := by omega
        have hi64 : (i : Int) ≤ 64 := by omega
        have hi0' : (0 : Int) ≤ i := by omega
        unfold ptr at *
        go_wp2_with (first | (go_at_call 10; refine (HST.out _ (Keep.refl _ _)).mono ?_; rintro e w2 ⟨rfl, rfl⟩) | (go_at_call 11; refine (HAL.out _ (Keep.refl _ _)).mono ?_; rintro e w2 ⟨rfl, hk, hseq⟩; have HK2 := hid hk; have HSEQ := hid hseq; clear hk hseq))
        have hxa := xall_end (r := r) hlt
        rw [hxa] at HSEQ
        have hrs := rest_succ (f := notHit r) hlt
        obtain ⟨L, hLL⟩ : ∃ L, (Ls.getD i []).filter (notHit r) = L := ⟨_, rfl⟩
        rw [hLL] at HSEQ hrs
        have HSW := hid (HS.out.stay HK2.out)
        have HRS := hid hrs
        obtain ⟨R, hR⟩ : ∃ R, rest (notHit r) Ls (i + 1) = R := ⟨_, rfl⟩
        rw [hR] at HRS
        have HREV := hid hR
        have ord := HS.out.ord
        have hb8 := HS.out.gone.lt
        have hw2 := HK2.out.size
        clear hxa hLL hrs hR
        refine wp_range (gf := 48) (lb := #[.pointer (some ⟨wr.heap.size, 0, none⟩)]) (encs := encs) (xs := L) rfl (enters_of Try.func48 (by kernel_rfl) rfl) HSEQ.out (fun _ => rfl)
          (fun O s W => Keep (fun k => k = b7) w2 W ∧ ∃ v', Blk W b7 [v'] 39 ∧ Sl W v' (L.drop s.length ++ R) ∧ ∀ g, SlB v' g → SlB v g)
          (fun _ _ _ _ => False) ?i0 ?iI (fun _ _ _ _ _ h _ _ => h) ?iround ?idone (fun _ _ _ _ _ _ _ _ h => h.elim)
        case i0 =>
          intro O W hW hO
          refine ⟨hW.mono (fun _ _ h => h.elim), v, (HL.out.cell.mod HK2.out (no _)).mod hW (no _), ?_, fun g hg => hg⟩
          have h1 := HL.out.sl
          rw [HRS.out] at h1
          simpa using (h1.keep HK2.out (fun _ _ => no _)).keep hW (fun _ _ => no _)
        case iI =>
          intro O s A B hs hAB hO
          obtain ⟨h1, v', h3, h4, h5⟩ := hs
          have hne : ∀ k, k < w2.heap.size → ¬ O k := fun k hk h => by have := (hO _ h).1; omega
          exact ⟨h1.trans hAB (fun k hk h => absurd h (hne k hk)), v', h3.mod hAB (hne _ (by omega)), h4.keep hAB (fun g hg => hne _ (by have := (HL.out.off g (h5 g hg)).2.1; omega)), h5⟩
        case iround =>
          intro l O pre x W hI hp hO
          have hdr : L.drop pre.length = x :: L.drop (pre.length + 1) := by
            obtain ⟨t, rfl⟩ := hp
            simp
          simp only [encs, valE]
          have HHI := hid hI
          have HO := hid hO
          have HDR := hid hdr
          clear hI hO hp hdr
          gi_wp2
          refine ⟨⟨by simp, fun k hk => Below.heap_alloc _ _ _ (HO.out k hk).2⟩, ?_, ?_⟩
          · obtain ⟨h1, v', h3, h4, h5⟩ := HHI.out
            exact ⟨h1.alloc _, v', h3.alloc _, h4.keep ((Keep.refl No _).alloc _) (fun _ _ => no _), h5⟩
          intro W2 hK2 hs2 hI2
          obtain ⟨k2, v', hv2, hsl, hoff⟩ := hI2
          rw [HDR.out, List.cons_append] at hsl
          obtain ⟨a', c', rfl, _⟩ := id hsl
          obtain ⟨g, off, rfl, hn, hnc, hgl, ⟨s0, s1, s2, s3⟩, htl⟩ := hsl.tail
          have hB9 : Blk W2 W.heap.size [.int .u64 x.h, .int .u64 x.a, .int .u64 x.v, .int .u8 x.c] 27 := (Blk.new' 27 rfl).mod hK2 (fun h => by have := (HO.out _ h).2; omega)
          obtain ⟨z9, d0, d1, d2, d3, f9⟩ := hB9.four
          obtain ⟨z7, c7, f7⟩ := hv2.one
          rw [hn] at c7 hnc
          have HTL := hid htl
          have HO2 := hid (fun k hk => (⟨(HO.out k hk).1, by have := (HO.out k hk).2; rw [hs2]; simp; omega⟩ : w2.heap.size ≤ k ∧ k < W2.heap.size))
          have K2 := hid k2
          have HV2 := hid hv2
          have HOFF := hid hoff
          have hxl : (L.drop (pre ++ [x]).length ++ R) = (L.drop (pre.length + 1) ++ R) := by simp
          have HXL := hid hxl
          obtain ⟨k, hk⟩ : ∃ k, (L.drop (pre.length + 1) ++ R).length = k := ⟨_, rfl⟩
          rw [hk] at c7 hnc HTL
          have hk0 : (((k + 1 : Nat) : Int) == 0) = false := by simp; omega
          have hk1 : (0 : Int) < ((k + 1 : Nat) : Int) := by omega
          have hk2 : (1 : Int) ≤ ((k + 1 : Nat) : Int) := by omega
          have hk3 : ((k + 1 : Nat) : Int) ≤ c' := by omega
          have hk4 : (1 : Int) ≤ c' := by omega
          have hk5 : (0 : Int) ≤ (k : Int) := by omega
          have hS0 : (fun V => V.cell? ⟨b7, 0, none⟩ = some (.slice (some ⟨g, off, none⟩) (k + 1) c') ∧ V.cell? ⟨W.heap.size, 0, none⟩ = some (.int .u64 x.h) ∧ V.cell? ⟨W.heap.size, 1, none⟩ = some (.int .u64 x.a) ∧ V.cell? ⟨W.heap.size, 2, none⟩ = some (.int .u64 x.v) ∧ V.cell? ⟨W.heap.size, 3, none⟩ = some (.int .u8 x.c) ∧ V.cell? ⟨g, off, none⟩ = some (.int .u64 x.h) ∧ V.cell? ⟨g, off + 1, none⟩ = some (.int .u64 x.a) ∧ V.cell? ⟨g, off + 2, none⟩ = some (.int .u64 x.v) ∧ V.cell? ⟨g, off + 3, none⟩ = some (.int .u8 x.c)) W2.drew := ⟨c7, d0, d1, d2, d3, s0, s1, s2, s3⟩
          clear hB9 hv2 hoff k2 hK2 hs2 hsl htl hn hxl hk c7 d0 d1 d2 d3 s0 s1 s2 s3
          gi_wp2
          refine Rr.wpIn_region_round (S := fun V => V.cell? ⟨b7, 0, none⟩ = some (.slice (some ⟨g, off, none⟩) (k + 1) c') ∧ V.cell? ⟨W.heap.size, 0, none⟩ = some (.int .u64 x.h) ∧ V.cell? ⟨W.heap.size, 1, none⟩ = some (.int .u64 x.a) ∧ V.cell? ⟨W.heap.size, 2, none⟩ = some (.int .u64 x.v) ∧ V.cell? ⟨W.heap.size, 3, none⟩ = some (.int .u8 x.c) ∧ V.cell? ⟨g, off, none⟩ = some (.int .u64 x.h) ∧ V.cell? ⟨g, off + 1, none⟩ = some (.int .u64 x.a) ∧ V.cell? ⟨g, off + 2, none⟩ = some (.int .u64 x.v) ∧ V.cell? ⟨g, off + 3, none⟩ = some (.int .u8 x.c)) (by kernel_rfl) (by kernel_rfl) (fun ⟨_, _, h⟩ => h) ?_
          refine wpAnyH_take (i := 0) (v := ?_) rfl (by kernel_rfl) (by kernel_rfl) (by kernel_rfl) (fun _ _ _ h => h) (Or.inl ⟨by rfl, ?_⟩) (hS0) ?_
          rotate_left
          · (intro w hSw; obtain ⟨p1, p2, p3, p4, p5, p6, p7, p8, p9⟩ := hSw; go_simp; try with_reducible rfl)
          simp only [Act.put, List.getElem_toArray, List.getElem_cons_zero, List.getElem_cons_succ, List.setIfInBounds_toArray, List.set_cons_zero, List.set_cons_succ]
          refine wpAnyH_take (i := 1) (v := ?_) rfl (by kernel_rfl) (by kernel_rfl) (by kernel_rfl) (fun _ _ _ h => h) (Or.inl ⟨by rfl, ?_⟩) (hS0) ?_
          rotate_left
          · (intro w hSw; obtain ⟨p1, p2, p3, p4, p5, p6, p7, p8, p9⟩ := hSw; go_simp; try with_reducible rfl)
          simp only [Act.put, List.getElem_toArray, List.getElem_cons_zero, List.getElem_cons_succ, List.setIfInBounds_toArray, List.set_cons_zero, List.set_cons_succ]
          refine wpAnyH_take (i := 2) (v := ?_) rfl (by kernel_rfl) (by kernel_rfl) (by kernel_rfl) (fun _ _ _ h => h) (Or.inl ⟨by rfl, ?_⟩) (hS0) ?_
          rotate_left
          · (intro w hSw; obtain ⟨p1, p2, p3, p4, p5, p6, p7, p8, p9⟩ := hSw; go_simp; try with_reducible rfl)
          simp only [Act.put, List.getElem_toArray, List.getElem_cons_zero, List.getElem_cons_succ, List.setIfInBounds_toArray, List.set_cons_zero, List.set_cons_succ]
          refine wpAnyH_take (i := 3) (v := ?_) rfl (by kernel_rfl) (by kernel_rfl) (by kernel_rfl) (fun _ _ _ h => h) (Or.inl ⟨by rfl, ?_⟩) (hS0) ?_
          rotate_left
          · (intro w hSw; obtain ⟨p1, p2, p3, p4, p5, p6, p7, p8, p9⟩ := hSw; go_simp; try with_reducible rfl)
          simp only [Act.put, List.getElem_toArray, List.getElem_cons_zero, List.getElem_cons_succ, List.setIfInBounds_toArray, List.set_cons_zero, List.set_cons_succ]
          refine wpAnyH_take (i := 4) (v := ?_) rfl (by kernel_rfl) (by kernel_rfl) (by kernel_rfl) (fun _ _ _ h => h) (Or.inl ⟨by rfl, ?_⟩) (hS0) ?_
          rotate_left
          · (intro w hSw; obtain ⟨p1, p2, p3, p4, p5, p6, p7, p8, p9⟩ := hSw; go_simp; try with_reducible rfl)
          simp only [Act.put, List.getElem_toArray, List.getElem_cons_zero, List.getElem_cons_succ, List.setIfInBounds_toArray, List.set_cons_zero, List.set_cons_succ]
          refine wpAnyH_take (i := 5) (v := ?_) rfl (by kernel_rfl) (by kernel_rfl) (by kernel_rfl) (fun _ _ _ h => h) (Or.inl ⟨by rfl, ?_⟩) (hS0) ?_
          rotate_left
          · (intro w hSw; obtain ⟨p1, p2, p3, p4, p5, p6, p7, p8, p9⟩ := hSw; go_simp; try with_reducible rfl)
          simp only [Act.put, List.getElem_toArray, List.getElem_cons_zero, List.getElem_cons_succ, List.setIfInBounds_toArray, List.set_cons_zero, List.set_cons_succ]
          refine wpAnyH_take (i := 6) (v := ?_) rfl (by kernel_rfl) (by kernel_rfl) (by kernel_rfl) (fun _ _ _ h => h) (Or.inl ⟨by rfl, ?_⟩) (hS0) ?_
          rotate_left
          · (intro w hSw; obtain ⟨p1, p2, p3, p4, p5, p6, p7, p8, p9⟩ := hSw; go_simp; try with_reducible rfl)
          simp only [Act.put, List.getElem_toArray, List.getElem_cons_zero, List.getElem_cons_succ, List.setIfInBounds_toArray, List.set_cons_zero, List.set_cons_succ]
          refine wpAnyH_take (i := 7) (v := ?_) rfl (by kernel_rfl) (by kernel_rfl) (by kernel_rfl) (fun _ _ _ h => h) (Or.inl ⟨by rfl, ?_⟩) (hS0) ?_
          rotate_left
          · (intro w hSw; obtain ⟨p1, p2, p3, p4, p5, p6, p7, p8, p9⟩ := hSw; go_simp; try with_reducible rfl)
          simp only [Act.put, List.getElem_toArray, List.getElem_cons_zero, List.getElem_cons_succ, List.setIfInBounds_toArray, List.set_cons_zero, List.set_cons_succ]
          refine wpAnyH_take (i := 8) (v := ?_) rfl (by kernel_rfl) (by kernel_rfl) (by kernel_rfl) (fun _ _ _ h => h) (Or.inl ⟨by rfl, ?_⟩) (hS0) ?_
          rotate_left
          · (intro w hSw; obtain ⟨p1, p2, p3, p4, p5, p6, p7, p8, p9⟩ := hSw; go_simp; try with_reducible rfl)
          simp only [Act.put, List.getElem_toArray, List.getElem_cons_zero, List.getElem_cons_succ, List.setIfInBounds_toArray, List.set_cons_zero, List.set_cons_succ]
          refine wpAnyH_take (i := 9) (v := ?_) rfl (by kernel_rfl) (by kernel_rfl) (by kernel_rfl) (fun _ _ _ h => h) (Or.inl ⟨by rfl, ?_⟩) (hS0) ?_
          rotate_left
          · (intro w hSw; obtain ⟨p1, p2, p3, p4, p5, p6, p7, p8, p9⟩ := hSw; go_simp; try with_reducible rfl)
          simp only [Act.put, List.getElem_toArray, List.getElem_cons_zero, List.getElem_cons_succ, List.setIfInBounds_toArray, List.set_cons_zero, List.set_cons_succ]
          refine wpAnyH_done (by kernel_rfl) ?_ _
          obtain ⟨p1, _⟩ := hS0
          have hgb : g ≠ b7 := fun e => by have := (HL.out.off g (HOFF.out g ⟨_, _, _, rfl⟩)).1; omega
          have HFin : Hid (∀ off' c'', (if c' = 1 then off else off + 4) = off' → c' - 1 = c'' → roundQ O (fun O s W => Keep (fun k => k = b7) w2 W ∧ ∃ v', Blk W b7 [v'] 39 ∧ Sl W v' (L.drop s.length ++ R) ∧ ∀ g, SlB v' g → SlB v g) (fun _ _ _ _ => False) (pre ++ [x]) W2 .normal { tmps := #[], defers := [] } (W2.setCell ⟨b7, 0, none⟩ (.slice (some ⟨g, off', none⟩) k c'')).drew) := by
            intro off' c'' h1 h2
            have hkk : Keep (fun k => k = b7) W2 ((W2.setCell ⟨b7, 0, none⟩ (.slice (some ⟨g, off', none⟩) k c'')).drew) := ((Keep.refl (fun k => k = b7) _).setCell _ _ (fun _ => rfl)).drew
            refine ⟨Sta.of_keep hkk (fun j hj => ⟨(HO2.out j hj).2, by have := (HO2.out j hj).1; omega⟩), K2.out.trans hkk (fun _ _ e => e), _, (HV2.out.set 0 _).drew, ?_, ?_⟩
            · rw [HXL.out]
              have h3 := HTL.out
              rw [h1, h2] at h3
              exact h3.keep hkk (by rintro g' ⟨_, _, _, he⟩ e; cases he; exact hgb e)
            · rintro g' ⟨_, _, _, he⟩
              cases he
              exact HOFF.out g ⟨_, _, _, rfl⟩
          rcases (by omega : c' = 1 ∨ ¬ c' = 1) with hc | hc
          · subst hc
            obtain rfl : k = 0 := by omega
            gi_wp2
            exact HFin.out off 0 rfl rfl
          · gi_wp2
            exact HFin.out (off + 4) (c' - 1) (if_neg hc) rfl
        case idone =>
          intro D O W hD hOD hO hI hm
          obtain ⟨h1, v', h3, h4, h5⟩ := hI
          have hK : Keep (fun k => k = b7) wr W := (HK2.out.mono (fun _ _ e => e.elim)).trans h1 (fun _ _ e => e)
          have hnm : ∀ j, j = b7 → w.heap.size + 2 < j ∧ ¬ F j ∧ ¬ IsMark wr j := by
            rintro j rfl
            exact ⟨by omega, fun hf => (HS.out.off _ hf).2.1 rfl, Blk.notMark HL.out.cell⟩
          have hfin := HS.out.go hK hnm (HS.out.gone.mod hK (by omega))
          have hsz : wr.heap.size ≤ D := by omega
          have hm2 := HS.out.marks.cons hK (fun j _ hj hs => (hnm j hs).2.2 hj) hsz (Nat.le_trans HS.out.keep.size hsz) hm
          have HFin := hid (show PS w W (w.heap.size + 1) (w.heap.size + 2) b7 (b7 + 1) r (ptr bx) most (PL r Ls Ls.length) F ((cnt r Ls Ls.length : Nat) : Int) (Rf.mark D :: ds) from ⟨hm2, hfin.reg, hfin.res, hfin.gone, hfin.has, hfin.keep, hfin.off, hfin.ord⟩)
          have HLfin : Hid (Lg W b7 (b7 + 1) F v' (rest (notHit r) Ls (i + 1))) := by
            rw [HREV.out]
            refine ⟨h3, by simpa using h4, fun g hg => ?_⟩
            obtain ⟨o1, o2, o3, o4⟩ := HL.out.off g (h5 g hg)
            refine ⟨o1, Nat.lt_of_lt_of_le o2 hK.size, o3, fun hmk => o4 ?_⟩
            unfold IsMark at hmk ⊢
            rw [← hK.block g o2 (by omega)]
            exact hmk
          clear h1 h3 h4 h5 hK hnm hfin hsz hm2 hm hO hD hOD
          go_wp2
          refine ⟨Ls.length - (i + 1), by omega, ?eq3, i + 1, rfl, by omega, ?_, HFin.out, v', HLfin.out⟩
          case eq3 => kernel_rfl
          omega
      · have hie : i = Ls.length := by omega
        subst hie
        have hsl := HL.out.sl
        rw [rest_end] at hsl
        obtain ⟨a', c', rfl, _⟩ := hsl
        obtain ⟨z7, c7, f7⟩ := HL.out.cell.one
        obtain ⟨z8, c8, f8⟩ := HS.out.gone.one
        obtain ⟨z4, c4, f4⟩ := HS.out.res.one
        have hm := HS.out.marks
        have hkp := HS.out.keep
        have HM := hid hm
        have HKw := hid hkp
        have HB2 := hid (HS.out.res.set 0 (.bool true))
        have HN2 := hid (Blk.notMark HS.out.res)
        simp only [List.length_nil] at c7
        clear hm hkp
        unfold ptr at *
        go_wp2_with (go_at_call 10; refine (HST.out _ (Keep.refl _ _)).mono ?_; rintro e w2 ⟨rfl, rfl⟩)
        refine marks_end (base := w.heap.size) (HM.out.keep (S := fun k => k = w.heap.size + 2) ((Keep.refl _ _).setCell _ _ (fun _ => rfl)) (fun k _ hk e => ?_)) fun W2 hW2 => ⟨_, res_b rfl _ rfl (HB2.out.mod hW2 (fun h => ?_)), rfl, ?_⟩
        · exact HN2.out (by rw [← e]; exact hk)
        · exact Blk.notMark HB2.out h.2
        · exact (HKw.out.setCell _ _ (fun h => absurd h (by simp; omega))).trans hW2 (fun k hk h => by have := h.1; omega)

theorem purged_any (n b m r : Int) (d : Value) (os : List Opr) (w : World) (hO : Ops w d os) :
    Calls Try.prog 4 #[valS n b m d, .int .i64 r] w fun e w' => e = .returned (.bool true) ∧ Keep No w w' := by
  by_cases h : badS n b m
  · exact purged_bad n b m r d w h
  · by_cases hr : r < 0 ∨ 65536 ≤ r
    · exact purged_out n b m r d os w h hO hr
    · exact purged_in n b m r d os w h hO (by omega) (by omega)
end Go.Proofs.Ytaijfgajcmopfaa.Z9
/- The arguments: a script, a call, opened. -/
set_option linter.unusedVariables false
set_option linter.unusedSimpArgs false
namespace Go.Proofs.Ytaijfgajcmopfaa.Ar2
open Go.RowKit Go.ChangeShapes Go.WideShapes Go.Deep V Rh T W1 X7 Ar Z5

theorem c24 : Try.prog.cellsOf 24 = 4 := by kernel_rfl
theorem c22 : Try.prog.cellsOf 22 = 1 := by kernel_rfl

section
variable {H : Type} {enc : TypeId × Value → H} {W : World} {base : Nat} {spare : Nat → Bool} {held : Bool}

set_option maxRecDepth 100000 in
theorem open_opsC {n : Nat} {v : Value} {y : DataW H × List MemPlace} (hf : DataW.trod enc Try.prog W base spare held n 22 [v] = some y) : ∃ os, Ops W v os := by
  obtain ⟨d, p⟩ := y
  rcases open_slice Try.underlying22 hf with ⟨hcs, hx⟩ | ⟨a, len, cap, m, n, D, Pl, hcs, _, hl, hm, hmm, hx, hel⟩
  · obtain rfl : v = .slice none 0 0 := by simpa using hcs
    exact ⟨[], fun _ h => by simp at h, Nat.zero_le _, .inl ⟨rfl, _, _, rfl⟩⟩
  · obtain rfl : v = .slice (some a) len cap := by simpa using hcs
    have hle : len ≤ m := by rw [hmm]; split <;> omega
    have each : ∀ i, i < len → ∃ o : Opr, o.ok ∧ W.cells? base (a.add (i * 8)) 8 = some (cellsO o) := by
      intro i hi
      obtain ⟨cs, h1, h2⟩ := hel i (by omega)
      rw [c29] at h1
      obtain ⟨o, ho, rfl⟩ := open_op h2
      exact ⟨o, ho, h1⟩
    obtain ⟨f, hfo⟩ := choose_lt each
    refine ⟨(List.range len).map f, fun o ho => ?_, ?_, ?_⟩
    · obtain ⟨i, hi, rfl⟩ := List.mem_map.1 ho
      exact (hfo i (List.mem_range.1 hi)).1
    · simp; omega
    · by_cases h0 : len = 0
      · subst h0
        exact .inl ⟨rfl, _, _, rfl⟩
      · right
        obtain ⟨ab, ao, asp⟩ := a
        have hs0 : asp = none := by
          have := (World.cells?_some (hfo 0 (by omega)).2).2.2 0 (by omega)
          simpa [Addr.add] using World.cell?_spot this
        subst hs0
        have hg : ∀ i, i < len → ∀ j u, (cellsO (f i))[j]? = some u → W.cell? ⟨ab, ao + i * 8 + j, none⟩ = some u := by
          intro i hi j u hu
          obtain ⟨_, h8, hc⟩ := World.cells?_some (hfo i hi).2
          have hj : j < 8 := by have := (List.getElem?_eq_some_iff.1 hu).1; rw [h8] at this; exact this
          have := hc j hj
          rw [add_at, add_at] at this
          rw [this]
          exact hu
        refine ⟨ab, ao, cap, by simp, ?_, fun i hi j u hu => ?_⟩
        · exact cell_lt (hg 0 (by omega) 0 _ rfl)
        · simp only [List.length_map, List.length_range] at hi
          refine hg i hi j u ?_
          simpa [List.getD_eq_getElem?_getD, hi] using hu

set_option maxRecDepth 100000 in
theorem open_script {v : Value} {d : DataW H} {p : List MemPlace} {r : Reach} {b0 : Nat} (hv : Value.okWide Try.prog W r b0 24 v) (h : DataW.Trod enc Try.prog W base spare held 24 v d p) : ∃ n b m s os, v = valS n b m s ∧ Ops W s os := by
  obtain ⟨cs, rfl, hsz⟩ := okWide_struct Try.underlying24 hv
  rw [c24] at hsz
  obtain ⟨fuel, hf⟩ := h
  obtain ⟨xs, k, _, _, hl, hx, hff⟩ := DataW.trod_struct Try.underlying24 hf
  rw [c24] at hl
  obtain ⟨a, b, c, e, hcs⟩ := list4 (l := cs.toList) (by simpa using hsz)
  have hcs' : (Value.agg cs).cells.toList = [a, b, c, e] := hcs
  rw [hcs'] at hff
  have hx4 : xs.length = 4 := hx
  obtain ⟨y0, h0⟩ := some_of (hff 0 _ rfl) (by omega)
  obtain ⟨y1, h1⟩ := some_of (hff 1 _ rfl) (by omega)
  obtain ⟨y2, h2⟩ := some_of (hff 2 _ rfl) (by omega)
  obtain ⟨y3, h3⟩ := some_of (hff 3 _ rfl) (by omega)
  simp [c3, c22] at h0 h1 h2 h3
  obtain ⟨x0, rfl, _⟩ := open_i64 h0
  obtain ⟨x1, rfl, _⟩ := open_i64 h1
  obtain ⟨x2, rfl, _⟩ := open_i64 h2
  obtain ⟨os, hO⟩ := open_opsC h3
  refine ⟨x0, x1, x2, e, os, ?_, hO⟩
  unfold valS
  congr 1
  exact Array.toList_inj.1 hcs

set_option maxRecDepth 100000 in
theorem open_op_arg {v : Value} {d : DataW H} {p : List MemPlace} {r : Reach} {b0 : Nat} (hv : Value.okWide Try.prog W r b0 29 v) (h : DataW.Trod enc Try.prog W base spare held 29 v d p) : ∃ o : Opr, o.ok ∧ v = valO o := by
  obtain ⟨cs, rfl, hsz⟩ := okWide_struct Try.underlying29 hv
  obtain ⟨fuel, hf⟩ := h
  obtain ⟨o, ho, hcs⟩ := open_op hf
  refine ⟨o, ho, ?_⟩
  have hcs' : cs.toList = cellsO o := hcs
  unfold valO
  congr 1
  exact Array.toList_inj.1 hcs'

set_option maxRecDepth 100000 in
theorem open_int_arg {v : Value} {d : DataW H} {p : List MemPlace} {r : Reach} {b0 : Nat} (hv : Value.okWide Try.prog W r b0 3 v) (h : DataW.Trod enc Try.prog W base spare held 3 v d p) : ∃ x : Int, v = .int .i64 x ∧ -9223372036854775808 ≤ x ∧ x < 9223372036854775808 := by
  obtain ⟨x, rfl⟩ := okWide_int Try.underlying3 hv
  obtain ⟨fuel, hf⟩ := h
  obtain ⟨x', h1, h2, h3⟩ := open_i64 (show DataW.trod enc Try.prog W base spare held fuel 3 [.int .i64 x] = some (d, p) from hf)
  exact ⟨x', h1, h2, h3⟩
end
end Go.Proofs.Ytaijfgajcmopfaa.Ar2
