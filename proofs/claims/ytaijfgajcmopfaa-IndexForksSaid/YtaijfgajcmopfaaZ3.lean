import Derived.Test.YtaijfgajcmopfaaZ2
import Derived.Test.YtaijfgajcmopfaaX9
import Derived.Test.YtaijfgajcmopfaaRr
/- 'all' (law): a stripe of both indexes, gone over. -/
set_option linter.unusedVariables false
set_option linter.unusedSimpArgs false
namespace Go.Proofs.Ytaijfgajcmopfaa.Z3
open Go.RowKit Go.Shelf V Rh T W1 W2 W3 W4 W6 W10 Rf X1 X2 X3 X4 X5 X6 X7 X9 Pl Y1 Y2 Y3 Y4 Y5 Y6 Y7 Y8 Y9 Y14 Ap Z1 Z2 Lp
attribute [local go_sem] Oper.semAt_some

/-- what stands through the rounds of 'all' -/
structure AS (w wr : World) (base bs b8 bw : Nat) (stop : Int) (v g : Value) (xs : List Ent) (ds : List Deferred) : Prop where
  marks : Marks base ds wr
  stop : Blk wr bs [.int .i64 stop] 3
  res : Blk wr b8 [.bool false] 4
  want : Blk wr bw [v] 39
  row : wr.ownsRow base 27 4 v xs.length (flat xs)
  seq : Seq Try.prog 48 #[g] encs xs wr
  keep : Keep No w wr
  lt : base ≤ bs ∧ base ≤ b8 ∧ base ≤ bw
  ne : bs ≠ b8 ∧ bs ≠ bw ∧ b8 ≠ bw ∧ ∀ k, v.ownBlock = some k → k ≠ bs ∧ k ≠ b8 ∧ k ≠ bw

theorem AS.go {w wr wr' : World} {base bs b8 bw : Nat} {stop : Int} {v g : Value} {xs : List Ent} {ds : List Deferred} (h : AS w wr base bs b8 bw stop v g xs ds) (k : Keep No wr wr') : AS w wr' base bs b8 bw stop v g xs ds :=
  ⟨h.marks.keep k (fun _ _ _ => no _), h.stop.mod k (no _), h.res.mod k (no _), h.want.mod k (no _), own_keep h.row k (fun _ _ => no _), Seq.mono h.seq k, h.keep.trans k (fun _ _ e => e), h.lt, h.ne⟩

set_option maxRecDepth 100000 in
set_option maxHeartbeats 2000000 in
theorem all_same {w : World} {p q : Value} (n stop : Int) (xs : List Ent) (hlen : xs.length ≤ 65536)
    (hE : ∀ W, Keep No w W → Calls Try.prog 60 #[q, .int .i64 n] W fun e w' => ∃ v, e = .returned v ∧ w'.ownsRow W.heap.size 27 4 v xs.length (flat xs) ∧ Keep No W w')
    (hA : ∀ W, Keep No w W → Calls Try.prog 11 #[p, .int .i64 n] W fun e w' => e = .returned (.func (.func 48) #[] #[.pointer (some ⟨W.heap.size, 0, none⟩)]) ∧ Keep No W w' ∧ Seq Try.prog 48 #[.pointer (some ⟨W.heap.size, 0, none⟩)] encs xs w') :
    Calls Try.prog 40 #[p, q, .int .i64 n, .int .i64 stop] w fun e w' => e = .returned (.bool true) ∧ Keep No w w' := by
  refine calls_of_marks Try.func40 rfl ?_
  simp only [Try.ntmps40, List.size_toArray, List.length_cons, List.length_nil, Nat.reduceAdd, Nat.reduceSub, Array.replicate_succ, Array.replicate_zero, List.push_toArray, List.append_toArray, List.nil_append, List.cons_append]
  have HE := hid hE
  have HA := hid hA
  have HN := hid hlen
  clear hE hA hlen
  go_wp2_with fail
  refine (HE.out _ (((Keep.refl _ _).alloc _).alloc _)).mono ?_
  rintro e w1 ⟨v, rfl, hv, hk⟩
  obtain ⟨a, m, c, rfl⟩ := own_some hv
  have HK1 := hid (Keep.trans (((Keep.refl No w).alloc (.cells #[.int .i64 stop] 3)).alloc (.cells #[.bool false] 4)) hk (fun _ _ e => e))
  have HB1 := hid ((((Blk.new' (cl := [.int .i64 stop]) 3 rfl : Blk (w.alloc (.cells #[.int .i64 stop] 3)) w.heap.size _ _).alloc (.cells #[.bool false] 4)).mod hk (no _)))
  have HB2 := hid (((Blk.new1 (cl := [.bool false]) 4 rfl : Blk ((w.alloc (.cells #[.int .i64 stop] 3)).alloc (.cells #[.bool false] 4)) (w.heap.size + 1) _ _).mod hk (no _)))
  have HV := hid hv
  clear hv hk
  go_wp2_with fail
  refine (HA.out _ (HK1.out.alloc _)).mono ?_
  rintro e w2 ⟨rfl, hk, hseq⟩
  have HS := hid (show AS w w2 w.heap.size w.heap.size (w.heap.size + 1) w1.heap.size stop (.slice a m c) (.pointer (some ⟨(w1.alloc (.cells #[.slice a m c] 39)).heap.size, 0, none⟩)) xs [] from
    ⟨Marks.nil _ _, (HB1.out.alloc _).mod hk (no _), (HB2.out.alloc _).mod hk (no _), (Blk.new' (cl := [.slice a m c]) 39 rfl).mod hk (no _), own_base (own_keep (HV.out.alloc _) hk (fun _ _ => no _)) (by simp; omega), hseq, (HK1.out.alloc _).trans hk (fun _ _ e => e), ⟨Nat.le_refl _, by omega, HK1.out.size⟩, ?ne⟩)
  case ne =>
    have h1 := HB2.out.lt
    refine ⟨by omega, by omega, by omega, fun k hk => ?_⟩
    have := HV.out.lt k hk
    simp at this
    omega
  have HW := hid hk.size
  clear hk hseq
  go_wp2
  obtain ⟨g, hg⟩ : ∃ g : Value, .pointer (some ⟨(w1.alloc (.cells #[.slice a m c] 39)).heap.size, 0, none⟩) = g := ⟨_, rfl⟩
  have hgS : (Value.func (.func 48) #[] #[.pointer (some ⟨w1.heap.size + 1, 0, none⟩)]) = .func (.func 48) #[] #[g] := by rw [← hg]; simp
  have hW0 : w.heap.size + 1 < w1.heap.size := HB2.out.lt
  have hW1 : w1.heap.size < w2.heap.size := by have := HW.out; simp at this; omega
  rw [hgS]
  rw [hg] at HS
  obtain ⟨W3, hW3⟩ : ∃ W, w2.alloc (.cells #[.int .i64 0] 3) = W := ⟨_, rfl⟩
  have HC0 : Hid (Blk W3 w2.heap.size [.int .i64 0] 3) := by rw [← hW3]; exact Blk.new' _ rfl
  have HS3 := hid (HS.out.go (show Keep No w2 W3 by rw [← hW3]; exact (Keep.refl _ _).alloc _))
  rw [hW3]
  obtain ⟨bw, hbw⟩ : ∃ b, w1.heap.size = b := ⟨_, rfl⟩
  rw [hbw] at HS3 hW1 hW0 ⊢
  clear hW3 hg hgS HS HW HV HB1 HB2 HK1 hbw
  refine wp_loop_slots [11, 12, 13, 20, 21, 22, 23, 24, 25, 26, 27, 28, 29, 30, 31, 32, 33, 34, 35, 36, 37, 38, 39, 40, 41, 42, 43, 44, 45, 46, 47, 48, 49, 50, 51, 52, 53, 54, 55, 56, 57, 58, 59, 60]
    (fun n u ds wr => ∃ (i b11 : Nat), n = 2 - i ∧ i ≤ 2 ∧ u 11 = .pointer (some ⟨b11, 0, none⟩) ∧ (w.heap.size < b11 ∧ b11 ≠ w.heap.size + 1 ∧ b11 ≠ bw) ∧ Blk wr b11 [.int .i64 i] 3 ∧ AS w wr w.heap.size w.heap.size (w.heap.size + 1) bw stop (.slice a m c) g xs ds) 2 ⟨0, w2.heap.size, rfl, by omega, rfl, ?hb, HC0.out, HS3.out⟩ ?_
  case hb => exact ⟨by omega, by omega, by omega⟩
  rintro n' u ds wr ⟨i, b11, rfl, hi, h11, hb11, hBi, hS⟩ K hK
  simp only [setAll, List.setIfInBounds_toArray, List.set_cons_zero, List.set_cons_succ]
  rw [h11]
  have HSr := hid hS
  have HBi := hid hBi
  obtain ⟨y0, i0, _⟩ := hBi.one
  clear HS3 HC0 hS hBi h11
  by_cases hlt : i < 2
  · have hlt' : (i : Int) < 2 := by omega
    go_wp2
    obtain ⟨Wa, hWa⟩ : ∃ W, wr.alloc (.cells #[.int .i64 0] 3) = W := ⟨_, rfl⟩
    have HKa : Hid (Keep No wr Wa) := by rw [← hWa]; exact (Keep.refl _ _).alloc _
    have HBa : Hid (Blk Wa wr.heap.size [.int .i64 0] 3) := by rw [← hWa]; exact Blk.new' _ rfl
    have hsa : Wa.heap.size = wr.heap.size + 1 := by rw [← hWa]; simp
    rw [hWa]
    clear hWa
    refine wp_range (gf := 48) (lb := #[g]) (encs := encs) (xs := xs) rfl (enters_of Try.func48 (by kernel_rfl) rfl) (Seq.mono HSr.out.seq HKa.out) (fun _ => rfl)
      (fun O s W => Blk W wr.heap.size [.int .i64 s.length] 3 ∧ Keep No wr W) (fun O c s W => (c = .exit 2 ∧ i = 0 ∧ (s.length : Int) = stop) ∧ Blk W wr.heap.size [.int .i64 s.length] 3 ∧ Keep No wr W) ?h0 ?hI ?hIx ?hround ?hdone ?hstop
    case h0 =>
      intro O W hW hO
      exact ⟨HBa.out.mod hW (no _), HKa.out.trans hW (fun _ _ h => h)⟩
    case hI =>
      intro O s A B hs hAB hO
      exact ⟨hs.1.mod hAB (fun h => by have := (hO _ h).1; omega), hs.2.trans hAB (fun k hk h => by have := (hO _ h).1; omega)⟩
    case hIx =>
      intro O c s A B hs hAB hO
      exact ⟨hs.1, hs.2.1.mod hAB (fun h => by have := (hO _ h).1; omega), hs.2.2.trans hAB (fun k hk h => by have := (hO _ h).1; omega)⟩
    case hround =>
      intro l O pre x W hI hp hO
      have hpl : pre.length < xs.length := by have := hp.length_le; simp at this; omega
      have hx : gt xs pre.length = x := by
        obtain ⟨t, rfl⟩ := hp
        simp [gt]
      have hp1 : (0 : Int) ≤ (pre.length : Nat) := by omega
      have hp2 : ((pre.length : Nat) : Int) < xs.length := by omega
      have hp3 : ((pre.length : Nat) : Int) ≤ 65536 := by have := HN.out; omega
      have hpd : decide ((xs.length : Int) ≤ (pre.length : Nat)) = false := by simp; omega
      have hpd2 : decide (xs.length ≤ pre.length) = false := by simp; omega
      simp only [encs, valE]
      have HHI := hid hI
      have HO := hid hO
      have HX := hid hx
      clear hI hO hp hx
      gi_wp2
      refine ⟨⟨by simp, fun k hk => Below.heap_alloc _ _ _ (HO.out k hk).2⟩, ⟨HHI.out.1.alloc _, HHI.out.2.alloc _⟩, ?_⟩
      intro W2 hK2 hs2 hI2
      have hS2 := HSr.out.go hI2.2
      obtain ⟨zr, r0, fr⟩ := hI2.1.one
      obtain ⟨zw, v0, fw⟩ := hS2.want.one
      obtain ⟨zi, i1, fi⟩ := (HBi.out.mod hI2.2 (no _)).one
      obtain ⟨zs, s0, fs⟩ := hS2.stop.one
      have hB9 : Blk W2 W.heap.size [.int .u64 x.h, .int .u64 x.a, .int .u64 x.v, .int .u8 x.c] 27 := (Blk.new' 27 rfl).mod hK2 (fun h => by have := (HO.out _ h).2; omega)
      obtain ⟨z9, d0, d1, d2, d3, f9⟩ := hB9.four
      have hnn : (.slice a m c : Value) ≠ .slice none 0 0 := fun e => by
        have h1 := hS2.row
        rw [e] at h1
        rcases h1.2 with ⟨_, h2⟩ | ⟨_, _, _, h2, _⟩
        · omega
        · cases h2
      obtain ⟨gb, cap, rest, hv, _, hnc, _, hbg, _⟩ := own_blk hS2.row hnn
      obtain ⟨t0, t1, t2, t3⟩ := slot hbg hpl
      rw [HX.out] at t0 t1 t2 t3
      rw [hv] at v0
      have hnc' : (xs.length : Int) ≤ cap := by omega
      have HI2 := hid hI2
      have hbi : ∀ k, O k → k ≠ wr.heap.size := fun k hk e => by have := (HO.out k hk).1; omega
      have HO2 := hid (fun k hk => (⟨(HO.out k hk).1, by have := (HO.out k hk).2; rw [hs2]; simp; omega⟩ : Wa.heap.size ≤ k ∧ k < W2.heap.size))
      have hb0 : wr.heap.size ≠ b11 := by have := HBi.out.lt; omega
      have hb1 : wr.heap.size ≠ w.heap.size := by have := HSr.out.keep.size; omega
      have hst := HSr.out.stop.lt
      have HBI := hid hbi
      have HFin : Hid (Blk ((W2.setCell ⟨wr.heap.size, 0, none⟩ (.int .i64 ((pre.length : Int) + 1))).drew) wr.heap.size [.int .i64 ((pre ++ [x]).length : Nat)] 3 ∧ Keep No wr ((W2.setCell ⟨wr.heap.size, 0, none⟩ (.int .i64 ((pre.length : Int) + 1))).drew) ∧ Sta O W2 ((W2.setCell ⟨wr.heap.size, 0, none⟩ (.int .i64 ((pre.length : Int) + 1))).drew)) := ⟨by
          have := (HI2.out.1.set 0 (.int .i64 ((pre.length : Int) + 1))).drew
          rw [List.length_append]
          exact this, (HI2.out.2.setCell _ _ (fun h => absurd h (by simp))).drew, Sta.of_keep (S := fun k => k = wr.heap.size) ((Keep.refl (fun k => k = wr.heap.size) _).setCell _ _ (fun _ => rfl)).drew (fun k hk => ⟨(HO2.out k hk).2, HBI.out k hk⟩)⟩
      have hor : (i = 0 ∨ i = 1) := by omega
      clear hI2 hS2 hv hbg hbi hs2 hK2 hB9 hnn hlt hi
      have hS0 : W2.drew.cell? ⟨wr.heap.size, 0, none⟩ = some (.int .i64 (pre.length : Nat)) ∧ W2.drew.cell? ⟨bw, 0, none⟩ = some (.slice (some ⟨gb, 0, none⟩) xs.length cap) ∧ W2.drew.cell? ⟨W.heap.size, 0, none⟩ = some (.int .u64 x.h) ∧ W2.drew.cell? ⟨W.heap.size, 1, none⟩ = some (.int .u64 x.a) ∧ W2.drew.cell? ⟨W.heap.size, 2, none⟩ = some (.int .u64 x.v) ∧ W2.drew.cell? ⟨W.heap.size, 3, none⟩ = some (.int .u8 x.c) ∧
          W2.drew.cell? ⟨gb, pre.length * 4, none⟩ = some (.int .u64 x.h) ∧ W2.drew.cell? ⟨gb, pre.length * 4 + 1, none⟩ = some (.int .u64 x.a) ∧ W2.drew.cell? ⟨gb, pre.length * 4 + 2, none⟩ = some (.int .u64 x.v) ∧ W2.drew.cell? ⟨gb, pre.length * 4 + 3, none⟩ = some (.int .u8 x.c) := ⟨r0, v0, d0, d1, d2, d3, t0, t1, t2, t3⟩
      gi_wp2
      refine Rr.wpIn_region_round (S := fun V => V.cell? ⟨wr.heap.size, 0, none⟩ = some (.int .i64 (pre.length : Nat)) ∧ V.cell? ⟨bw, 0, none⟩ = some (.slice (some ⟨gb, 0, none⟩) xs.length cap) ∧ V.cell? ⟨W.heap.size, 0, none⟩ = some (.int .u64 x.h) ∧ V.cell? ⟨W.heap.size, 1, none⟩ = some (.int .u64 x.a) ∧ V.cell? ⟨W.heap.size, 2, none⟩ = some (.int .u64 x.v) ∧ V.cell? ⟨W.heap.size, 3, none⟩ = some (.int .u8 x.c) ∧
          V.cell? ⟨gb, pre.length * 4, none⟩ = some (.int .u64 x.h) ∧ V.cell? ⟨gb, pre.length * 4 + 1, none⟩ = some (.int .u64 x.a) ∧ V.cell? ⟨gb, pre.length * 4 + 2, none⟩ = some (.int .u64 x.v) ∧ V.cell? ⟨gb, pre.length * 4 + 3, none⟩ = some (.int .u8 x.c)) (by kernel_rfl) (by kernel_rfl) (fun ⟨_, _, h⟩ => h) ?_
      refine wpAnyH_take (i := 0) (v := ?_) rfl (by kernel_rfl) (by kernel_rfl) (by kernel_rfl) (fun _ _ _ h => h) (Or.inl ⟨by rfl, ?_⟩) (hS0) ?_
      rotate_left
      · (intro w hSw; obtain ⟨p1, p2, p3, p4, p5, p6, p7, p8, p9, p10⟩ := hSw; go_simp; try with_reducible rfl)
      simp only [Act.put, List.getElem_toArray, List.getElem_cons_zero, List.getElem_cons_succ, List.setIfInBounds_toArray, List.set_cons_zero, List.set_cons_succ]
      refine wpAnyH_take (i := 1) (v := ?_) rfl (by kernel_rfl) (by kernel_rfl) (by kernel_rfl) (fun _ _ _ h => h) (Or.inl ⟨by rfl, ?_⟩) (hS0) ?_
      rotate_left
      · (intro w hSw; obtain ⟨p1, p2, p3, p4, p5, p6, p7, p8, p9, p10⟩ := hSw; go_simp; try with_reducible rfl)
      simp only [Act.put, List.getElem_toArray, List.getElem_cons_zero, List.getElem_cons_succ, List.setIfInBounds_toArray, List.set_cons_zero, List.set_cons_succ]
      refine wpAnyH_take (i := 2) (v := ?_) rfl (by kernel_rfl) (by kernel_rfl) (by kernel_rfl) (fun _ _ _ h => h) (Or.inl ⟨by rfl, ?_⟩) (hS0) ?_
      rotate_left
      · (intro w hSw; obtain ⟨p1, p2, p3, p4, p5, p6, p7, p8, p9, p10⟩ := hSw; go_simp; try with_reducible rfl)
      simp only [Act.put, List.getElem_toArray, List.getElem_cons_zero, List.getElem_cons_succ, List.setIfInBounds_toArray, List.set_cons_zero, List.set_cons_succ]
      refine wpAnyH_take (i := 3) (v := ?_) rfl (by kernel_rfl) (by kernel_rfl) (by kernel_rfl) (fun _ _ _ h => h) (Or.inl ⟨by rfl, ?_⟩) (hS0) ?_
      rotate_left
      · (intro w hSw; obtain ⟨p1, p2, p3, p4, p5, p6, p7, p8, p9, p10⟩ := hSw; go_simp; try with_reducible rfl)
      simp only [Act.put, List.getElem_toArray, List.getElem_cons_zero, List.getElem_cons_succ, List.setIfInBounds_toArray, List.set_cons_zero, List.set_cons_succ]
      refine wpAnyH_take (i := 4) (v := ?_) rfl (by kernel_rfl) (by kernel_rfl) (by kernel_rfl) (fun _ _ _ h => h) (Or.inl ⟨by rfl, ?_⟩) (hS0) ?_
      rotate_left
      · (intro w hSw; obtain ⟨p1, p2, p3, p4, p5, p6, p7, p8, p9, p10⟩ := hSw; go_simp; try with_reducible rfl)
      simp only [Act.put, List.getElem_toArray, List.getElem_cons_zero, List.getElem_cons_succ, List.setIfInBounds_toArray, List.set_cons_zero, List.set_cons_succ]
      refine wpAnyH_take (i := 5) (v := ?_) rfl (by kernel_rfl) (by kernel_rfl) (by kernel_rfl) (fun _ _ _ h => h) (Or.inl ⟨by rfl, ?_⟩) (hS0) ?_
      rotate_left
      · (intro w hSw; obtain ⟨p1, p2, p3, p4, p5, p6, p7, p8, p9, p10⟩ := hSw; go_simp; try with_reducible rfl)
      simp only [Act.put, List.getElem_toArray, List.getElem_cons_zero, List.getElem_cons_succ, List.setIfInBounds_toArray, List.set_cons_zero, List.set_cons_succ]
      refine wpAnyH_take (i := 6) (v := ?_) rfl (by kernel_rfl) (by kernel_rfl) (by kernel_rfl) (fun _ _ _ h => h) (Or.inl ⟨by rfl, ?_⟩) (hS0) ?_
      rotate_left
      · (intro w hSw; obtain ⟨p1, p2, p3, p4, p5, p6, p7, p8, p9, p10⟩ := hSw; go_simp; try with_reducible rfl)
      simp only [Act.put, List.getElem_toArray, List.getElem_cons_zero, List.getElem_cons_succ, List.setIfInBounds_toArray, List.set_cons_zero, List.set_cons_succ]
      refine wpAnyH_take (i := 7) (v := ?_) rfl (by kernel_rfl) (by kernel_rfl) (by kernel_rfl) (fun _ _ _ h => h) (Or.inl ⟨by rfl, ?_⟩) (hS0) ?_
      rotate_left
      · (intro w hSw; obtain ⟨p1, p2, p3, p4, p5, p6, p7, p8, p9, p10⟩ := hSw; go_simp; try with_reducible rfl)
      simp only [Act.put, List.getElem_toArray, List.getElem_cons_zero, List.getElem_cons_succ, List.setIfInBounds_toArray, List.set_cons_zero, List.set_cons_succ]
      refine wpAnyH_take (i := 8) (v := ?_) rfl (by kernel_rfl) (by kernel_rfl) (by kernel_rfl) (fun _ _ _ h => h) (Or.inl ⟨by rfl, ?_⟩) (hS0) ?_
      rotate_left
      · (intro w hSw; obtain ⟨p1, p2, p3, p4, p5, p6, p7, p8, p9, p10⟩ := hSw; go_simp; try with_reducible rfl)
      simp only [Act.put, List.getElem_toArray, List.getElem_cons_zero, List.getElem_cons_succ, List.setIfInBounds_toArray, List.set_cons_zero, List.set_cons_succ]
      refine wpAnyH_take (i := 9) (v := ?_) rfl (by kernel_rfl) (by kernel_rfl) (by kernel_rfl) (fun _ _ _ h => h) (Or.inl ⟨by rfl, ?_⟩) (hS0) ?_
      rotate_left
      · (intro w hSw; obtain ⟨p1, p2, p3, p4, p5, p6, p7, p8, p9, p10⟩ := hSw; go_simp; try with_reducible rfl)
      simp only [Act.put, List.getElem_toArray, List.getElem_cons_zero, List.getElem_cons_succ, List.setIfInBounds_toArray, List.set_cons_zero, List.set_cons_succ]
      refine wpAnyH_take (i := 10) (v := ?_) rfl (by kernel_rfl) (by kernel_rfl) (by kernel_rfl) (fun _ _ _ h => h) (Or.inl ⟨by rfl, ?_⟩) (hS0) ?_
      rotate_left
      · (intro w hSw; obtain ⟨p1, p2, p3, p4, p5, p6, p7, p8, p9, p10⟩ := hSw; go_simp; try with_reducible rfl)
      simp only [Act.put, List.getElem_toArray, List.getElem_cons_zero, List.getElem_cons_succ, List.setIfInBounds_toArray, List.set_cons_zero, List.set_cons_succ]
      refine wpAnyH_take (i := 11) (v := ?_) rfl (by kernel_rfl) (by kernel_rfl) (by kernel_rfl) (fun _ _ _ h => h) (Or.inl ⟨by rfl, ?_⟩) (hS0) ?_
      rotate_left
      · (intro w hSw; obtain ⟨p1, p2, p3, p4, p5, p6, p7, p8, p9, p10⟩ := hSw; go_simp; try with_reducible rfl)
      simp only [Act.put, List.getElem_toArray, List.getElem_cons_zero, List.getElem_cons_succ, List.setIfInBounds_toArray, List.set_cons_zero, List.set_cons_succ]
      refine wpAnyH_done (by kernel_rfl) ?_ _
      clear hS0
      rcases hor with rfl | rfl
      · by_cases hs : ((pre.length : Int) + 1) = stop
        · have hsd : ((pre.length : Int) + 1 == stop) = true := by simpa using hs
          have HSE := hid hs
          clear hs
          gi_wp2
          exact ⟨HFin.out.2.2, ⟨rfl, by rw [List.length_append]; exact HSE.out⟩, HFin.out.1, HFin.out.2.1⟩
        · have hsd : ((pre.length : Int) + 1 == stop) = false := by simpa using hs
          clear hs
          gi_wp2
          exact ⟨HFin.out.2.2, HFin.out.1, HFin.out.2.1⟩
      · gi_wp2
        exact ⟨HFin.out.2.2, HFin.out.1, HFin.out.2.1⟩
    case hdone =>
      intro D O W hD hOD hO hI hm
      have hS2 := HSr.out.go hI.2
      have hDw : wr.heap.size ≤ D := by omega
      have hm2 := HSr.out.marks.cons hI.2 (fun _ _ _ => no _) hDw (Nat.le_trans HSr.out.keep.size hDw) hm
      obtain ⟨zr, r0, fr⟩ := hI.1.one
      obtain ⟨zw, v0, fw⟩ := hS2.want.one
      obtain ⟨zi, i1, fi⟩ := (HBi.out.mod hI.2 (no _)).one
      obtain ⟨a', c', hv⟩ := own_slice hS2.row
      rw [hv] at v0
      have HM := hid hm2
      have HS2 := hid hS2
      have HI2 := hid hI.2
      clear hI hm hm2 hS2 hD hO hOD hv
      go_wp2
      have hbb : w.heap.size + 1 < W.heap.size ∧ bw < W.heap.size := ⟨HS2.out.res.lt, HS2.out.want.lt⟩
      refine ⟨2 - (i + 1), by omega, ?e, i + 1, rfl, by omega, ⟨by omega, by omega, by omega⟩, ?_, ?_⟩
      case e => kernel_rfl
      · exact Blk.new' _ rfl
      · refine AS.go (wr := W) ⟨HM.out, HS2.out.stop, HS2.out.res, HS2.out.want, HS2.out.row, HS2.out.seq, HS2.out.keep, HS2.out.lt, HS2.out.ne⟩ ((Keep.refl _ _).alloc _)
    case hstop =>
      intro D O cd s W hD hOD hO hI hm
      obtain ⟨⟨rfl, rfl, hst⟩, hI1, hI2⟩ := hI
      have hS2 := HSr.out.go hI2
      have hDw : wr.heap.size ≤ D := by omega
      have hm2 := HSr.out.marks.cons hI2 (fun _ _ _ => no _) hDw (Nat.le_trans HSr.out.keep.size hDw) hm
      obtain ⟨zr, r0, fr⟩ := hI1.one
      obtain ⟨zw, v0, fw⟩ := hS2.want.one
      obtain ⟨zi, i1, fi⟩ := (HBi.out.mod hI2 (no _)).one
      obtain ⟨zs, s0, fs⟩ := hS2.stop.one
      obtain ⟨a', c', hv⟩ := own_slice hS2.row
      rw [hv] at v0
      rw [← hst] at s0
      have HM := hid hm2
      have HS2 := hid hS2
      have hsl : (s.length = xs.length) ∨ ¬ (s.length = xs.length) := Classical.em _
      clear hI1 hm hm2 hS2 hD hO hOD hv hst hlt hi
      rcases hsl with hsl | hsl
      all_goals
        have hsd : ((s.length : Int) == (xs.length : Int)) = decide (s.length = xs.length) := by rw [Bool.eq_iff_iff]; simp; omega
        go_wp2
        have hbb : w.heap.size + 1 < W.heap.size ∧ bw < W.heap.size := ⟨HS2.out.res.lt, HS2.out.want.lt⟩
        refine ⟨2 - 1, by omega, ?e, 1, rfl, by omega, ⟨by omega, by omega⟩, ?_, ?_⟩
        case e => kernel_rfl
        · exact Blk.new' _ rfl
        · exact AS.go (wr := W) ⟨HM.out, HS2.out.stop, HS2.out.res, HS2.out.want, HS2.out.row, HS2.out.seq, HS2.out.keep, HS2.out.lt, HS2.out.ne⟩ ((Keep.refl _ _).alloc _)
  · have hi2 : i = 2 := by omega
    subst hi2
    have hm := HSr.out.marks
    have hk := HSr.out.keep
    obtain ⟨z8, c8, f8⟩ := HSr.out.res.one
    have HM := hid hm
    have HKw := hid hk
    have HB2 := hid (HSr.out.res.set 0 (.bool true))
    have HN2 := hid (Blk.notMark HSr.out.res)
    clear hm hk
    go_wp2
    refine marks_end (base := w.heap.size) (HM.out.keep (S := fun k => k = w.heap.size + 1) ((Keep.refl _ _).setCell _ _ (fun _ => rfl)) (fun k _ hk e => ?_)) fun W2 hW2 => ⟨_, res_b rfl _ rfl (HB2.out.mod hW2 (fun h => ?_)), rfl, ?_⟩
    · exact HN2.out (by rw [← e]; exact hk)
    · exact Blk.notMark HB2.out h.2
    · exact (HKw.out.setCell _ _ (fun h => absurd h (by simp))).trans hW2 (fun k hk h => by have := h.1; omega)
end Go.Proofs.Ytaijfgajcmopfaa.Z3
