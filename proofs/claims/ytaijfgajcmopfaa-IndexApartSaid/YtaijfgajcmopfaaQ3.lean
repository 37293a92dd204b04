import Derived.Test.YtaijfgajcmopfaaQ2
import Derived.Deep.RegionHeld3
import Derived.Deep.DrawnRows
/- Texts of one proof, one behind the other: A2 Ar2. -/
/- IndexApart, walked. -/
set_option linter.unusedVariables false
set_option linter.unusedSimpArgs false
namespace Go.Proofs.Ytaijfgajcmopfaa.A2
open Go.RowKit Go.Shelf V Rh T W1 W2 W3 W4 W6 W10 Rf X1 X2 X3 X4 X5 X6 X7 X9 Pl Y1 Y2 Y3 Y4 Y9 Ap Ap2 Ar Z1 Z2 Z4 Z5 Z6 Z8 A1 A3 Lp
attribute [local go_sem] Oper.semAt_some
attribute [local go_sem ↓] Go.wp_at_zero Go.wp_at_succ

set_option maxRecDepth 100000 in
set_option maxHeartbeats 1000000 in
theorem apart_bad (n b m : Int) (d : Value) (o p : Opr) (w : World) (h : badS n b m) :
    Calls Try.prog 3 #[valS n b m d, valO o, valO p] w fun e w' => e = .returned (.bool true) ∧ Keep No w w' := by
  have hb := fun W => played_no n b m d W h
  have HB := hid hb
  clear hb h
  obtain ⟨W0, hW0⟩ : ∃ W, (((w.alloc (.cells #[.int .i64 n, .int .i64 b, .int .i64 m, d] 24)).alloc (.cells #[.int .i64 o.k, .int .u64 o.e.h, .int .u64 o.e.a, .int .u64 o.e.v, .int .u8 o.e.c, .int .u64 o.at', .int .i64 o.n, .int .i64 o.m] 29)).alloc (.cells #[.int .i64 p.k, .int .u64 p.e.h, .int .u64 p.e.a, .int .u64 p.e.v, .int .u8 p.e.c, .int .u64 p.at', .int .i64 p.n, .int .i64 p.m] 29)).alloc (.cells #[.bool false] 4) = W := ⟨_, rfl⟩
  have HK0 : Hid (Keep No w W0) := by rw [← hW0]; exact ((((Keep.refl _ _).alloc _).alloc _).alloc _).alloc _
  have H3 : Hid (Blk W0 w.heap.size [.int .i64 n, .int .i64 b, .int .i64 m, d] 24) := by rw [← hW0]; exact (((Blk.new' _ rfl).alloc _).alloc _).alloc _
  have H6 : Hid (Blk W0 (w.heap.size + 1 + 1 + 1) [.bool false] 4) := by
    rw [← hW0]
    have := Blk.new' (w := ((w.alloc (.cells #[.int .i64 n, .int .i64 b, .int .i64 m, d] 24)).alloc (.cells #[.int .i64 o.k, .int .u64 o.e.h, .int .u64 o.e.a, .int .u64 o.e.v, .int .u8 o.e.c, .int .u64 o.at', .int .i64 o.n, .int .i64 o.m] 29)).alloc (.cells #[.int .i64 p.k, .int .u64 p.e.h, .int .u64 p.e.a, .int .u64 p.e.v, .int .u8 p.e.c, .int .u64 p.at', .int .i64 p.n, .int .i64 p.m] 29)) (cs := #[.bool false]) (cl := [.bool false]) 4 rfl
    show Blk _ _ _ _
    simpa using this
  have HW0 := hid hW0
  clear hW0
  unfold valS valO at *
  go_enter Try.func3, Try.ntmps3
  go_wp2_with fail
  rw [HW0.out]
  refine (HB.out _).mono ?_
  rintro e w1 ⟨rfl, hk1⟩
  have HK1 := hid (HK0.out.trans hk1 (fun _ _ e => e))
  have h3 := H3.out.mod hk1 (no _)
  obtain ⟨z3, c0, c1, c2, c3, _⟩ := h3.four
  have HB6 := hid (H6.out.mod hk1 (no _))
  clear hk1 h3
  go_wp2_with fail
  refine (HB.out _).mono ?_
  rintro e w2 ⟨rfl, hk2⟩
  have HK2 := hid (HK1.out.trans hk2 (fun _ _ e => e))
  have HB7 := hid (HB6.out.mod hk2 (no _))
  obtain ⟨z6, d6, f6⟩ := HB7.out.one
  clear hk2 c0 c1 c2 c3
  go_wp2
  exact bodyPost_ret (res_b rfl _ rfl (HB7.out.set 0 (.bool true))) rfl ⟨rfl, HK2.out.setCell _ _ (fun h => absurd h (by simp; omega))⟩

/-- what stands through the loop -/
structure AP (w wr : World) (b6 : Nat) (px py : Value) (most : Nat) (Ls : List (List Ent)) (F G : Nat → Prop) (ds : List Deferred) : Prop where
  marks : Marks w.heap.size ds wr
  res : Blk wr b6 [.bool false] 4
  hx : Has wr px most Ls F
  hy : Has wr py most Ls G
  keep : Keep No w wr
  ord : w.heap.size ≤ b6
theorem AP.stay {w wr wr' : World} {b6 : Nat} {px py : Value} {most : Nat} {Ls : List (List Ent)} {F G : Nat → Prop} {ds : List Deferred} (h : AP w wr b6 px py most Ls F G ds) (k : Keep No wr wr') : AP w wr' b6 px py most Ls F G ds :=
  ⟨h.marks.keep k (fun _ _ _ => no _), h.res.mod k (no _), h.hx.keep k (fun _ _ => no _), h.hy.keep k (fun _ _ => no _), h.keep.trans k (fun _ _ e => e), h.ord⟩

theorem cells16 {V : World} {a c : Nat} {o p : Opr} {t u : TypeId} (h : Blk V a (cellsO o) t ∧ Blk V c (cellsO p) u) : V.cell? ⟨a, 0, none⟩ = some (.int .i64 o.k) ∧ V.cell? ⟨a, 1, none⟩ = some (.int .u64 o.e.h) ∧ V.cell? ⟨a, 2, none⟩ = some (.int .u64 o.e.a) ∧ V.cell? ⟨a, 3, none⟩ = some (.int .u64 o.e.v) ∧ V.cell? ⟨a, 4, none⟩ = some (.int .u8 o.e.c) ∧ V.cell? ⟨a, 5, none⟩ = some (.int .u64 o.at') ∧ V.cell? ⟨a, 6, none⟩ = some (.int .i64 o.n) ∧ V.cell? ⟨a, 7, none⟩ = some (.int .i64 o.m) ∧ V.cell? ⟨c, 0, none⟩ = some (.int .i64 p.k) ∧ V.cell? ⟨c, 1, none⟩ = some (.int .u64 p.e.h) ∧ V.cell? ⟨c, 2, none⟩ = some (.int .u64 p.e.a) ∧ V.cell? ⟨c, 3, none⟩ = some (.int .u64 p.e.v) ∧ V.cell? ⟨c, 4, none⟩ = some (.int .u8 p.e.c) ∧ V.cell? ⟨c, 5, none⟩ = some (.int .u64 p.at') ∧ V.cell? ⟨c, 6, none⟩ = some (.int .i64 p.n) ∧ V.cell? ⟨c, 7, none⟩ = some (.int .i64 p.m) := ⟨h.1.cell 0, h.1.cell 1, h.1.cell 2, h.1.cell 3, h.1.cell 4, h.1.cell 5, h.1.cell 6, h.1.cell 7, h.2.cell 0, h.2.cell 1, h.2.cell 2, h.2.cell 3, h.2.cell 4, h.2.cell 5, h.2.cell 6, h.2.cell 7⟩

set_option maxRecDepth 100000 in
set_option maxHeartbeats 40000000 in
theorem apart_in (n b m : Int) (d : Value) (os : List Opr) (o p : Opr) (w : World) (h : ¬ badS n b m) (hO : Ops w d os) (ho : o.ok) (hp : p.ok) :
    Calls Try.prog 3 #[valS n b m d, valO o, valO p] w fun e w' => e = .returned (.bool true) ∧ Keep No w w' := by
  have hb := fun W (hW : Keep No w W) => played_yes n b m d os W h (hO.keep hW)
  have HB := hid hb
  have HOK := hid ho
  have HPK := hid hp
  clear hb h hO ho hp
  obtain ⟨W0, hW0⟩ : ∃ W, (((w.alloc (.cells #[.int .i64 n, .int .i64 b, .int .i64 m, d] 24)).alloc (.cells #[.int .i64 o.k, .int .u64 o.e.h, .int .u64 o.e.a, .int .u64 o.e.v, .int .u8 o.e.c, .int .u64 o.at', .int .i64 o.n, .int .i64 o.m] 29)).alloc (.cells #[.int .i64 p.k, .int .u64 p.e.h, .int .u64 p.e.a, .int .u64 p.e.v, .int .u8 p.e.c, .int .u64 p.at', .int .i64 p.n, .int .i64 p.m] 29)).alloc (.cells #[.bool false] 4) = W := ⟨_, rfl⟩
  have HK0 : Hid (Keep No w W0) := by rw [← hW0]; exact ((((Keep.refl _ _).alloc _).alloc _).alloc _).alloc _
  have H3 : Hid (Blk W0 w.heap.size [.int .i64 n, .int .i64 b, .int .i64 m, d] 24) := by rw [← hW0]; exact (((Blk.new' _ rfl).alloc _).alloc _).alloc _
  have H4 : Hid (Blk W0 (w.heap.size + 1) (cellsO o) 29) := by rw [← hW0]; exact ((Blk.new1 _ rfl).alloc _).alloc _
  have H5 : Hid (Blk W0 (w.heap.size + 1 + 1) (cellsO p) 29) := by rw [← hW0]; exact (Blk.new2 _ rfl).alloc _
  have H6 : Hid (Blk W0 (w.heap.size + 1 + 1 + 1) [.bool false] 4) := by
    rw [← hW0]
    have := Blk.new' (w := ((w.alloc (.cells #[.int .i64 n, .int .i64 b, .int .i64 m, d] 24)).alloc (.cells #[.int .i64 o.k, .int .u64 o.e.h, .int .u64 o.e.a, .int .u64 o.e.v, .int .u8 o.e.c, .int .u64 o.at', .int .i64 o.n, .int .i64 o.m] 29)).alloc (.cells #[.int .i64 p.k, .int .u64 p.e.h, .int .u64 p.e.a, .int .u64 p.e.v, .int .u8 p.e.c, .int .u64 p.at', .int .i64 p.n, .int .i64 p.m] 29)) (cs := #[.bool false]) (cl := [.bool false]) 4 rfl
    show Blk _ _ _ _
    simpa using this
  have hs0 : W0.heap.size = w.heap.size + 4 := by rw [← hW0]; simp
  have HS0 := hid hs0
  have HW0 := hid hW0
  clear hW0 hs0
  obtain ⟨t0, hi0, hz0, hz1, hz2⟩ := info_parts info27
  generalize playL m.toNat os (lists0 n) = Ls at *
  generalize m.toNat = most at *
  unfold valS valO ptr at *
  refine calls_of_marks Try.func3 rfl ?_
  simp only [Try.ntmps3, List.size_toArray, List.length_cons, List.length_nil, Nat.reduceAdd, Nat.reduceSub, Array.replicate_succ, Array.replicate_zero, List.push_toArray, List.append_toArray, List.nil_append, List.cons_append]
  go_wp2_with fail
  rw [HW0.out]
  refine (HB.out _ HK0.out).mono ?_
  rintro e w1 ⟨bx, br, F, G, rfl, hP⟩
  have HP := hid hP
  have h3 := H3.out.mod hP.keep (no _)
  obtain ⟨z3, c0, c1, c2, c3, _⟩ := h3.four
  have HK1 := hid (HK0.out.trans hP.keep (fun _ _ e => e))
  clear hP h3
  go_wp2_with fail
  refine (HB.out _ HK1.out).mono ?_
  rintro e w2 ⟨by', br', F2, G2, rfl, hP2⟩
  have HP2 := hid hP2
  have HX := hid (HP.out.both.has.keep hP2.keep (fun _ _ => no _))
  have HY := hid hP2.both.has
  have HK2 := hid (HK1.out.trans hP2.keep (fun _ _ e => e))
  have HD : Hid (∀ k, F k → ¬ F2 k) := fun k hk hg => by have := HP.out.both.has.lt k hk; have := hP2.new k (.inl hg); omega
  have hk02 : Keep No W0 w2 := HP.out.keep.trans hP2.keep (fun _ _ e => e)
  have HB4 := hid (H4.out.mod hk02 (no _))
  have HB5 := hid (H5.out.mod hk02 (no _))
  have HB6 := hid (H6.out.mod hk02 (no _))
  have HFl : Hid (∀ k, F k ∨ F2 k → w.heap.size + 4 ≤ k) := fun k hk => by
    have hs0 := HS0.out
    rcases hk with hk | hk
    · have := HP.out.new k (.inl hk); omega
    · have := hP2.new k (.inl hk); have := HP.out.keep.size; omega
  clear hP2 hk02 c0 c1 c2 c3 z3
  have hso := fun W (hW : Keep No w2 W) => stripeOf_has (HX.out.keep hW (fun _ _ => no _)) o HOK.out
  have hsp := fun W (hW : Keep No w2 W) => stripeOf_has (HX.out.keep hW (fun _ _ => no _)) p HPK.out
  have HSO := hid hso
  have HSP := hid hsp
  obtain ⟨z6, d6, f6⟩ := HB6.out.one
  clear hso hsp
  unfold valO at HSO HSP
  obtain ⟨so, hso⟩ : ∃ s, strOf Ls.length o = s := ⟨_, rfl⟩
  obtain ⟨sp, hsp⟩ : ∃ s, strOf Ls.length p = s := ⟨_, rfl⟩
  rw [hso] at HSO
  rw [hsp] at HSP
  have HSEo := hid hso
  have HSEp := hid hsp
  clear hso hsp
  go_wp2
  by_cases hss : so = sp
  · have hsd : (so == sp) = true := by simpa using hss
    clear hss
    have hS0 : Blk w2.drew (w.heap.size + 1) (cellsO o) 29 ∧ Blk w2.drew (w.heap.size + 1 + 1) (cellsO p) 29 := ⟨HB4.out.drew, HB5.out.drew⟩
    refine wp_region_noPanic ?_
    refine wp_region_held (S := fun V => Blk V (w.heap.size + 1) (cellsO o) 29 ∧ Blk V (w.heap.size + 1 + 1) (cellsO p) 29) (by kernel_rfl) ?_
    refine wpAnyH_take (i := 0) (v := ?_) rfl (by kernel_rfl) (by kernel_rfl) (by kernel_rfl) (fun _ _ _ h => h) (Or.inl ⟨by rfl, ?_⟩) (hS0) ?_
    rotate_left
    · (intro w hSw; obtain ⟨p0, p1, p2, p3, p4, p5, p6, p7, k0, k1, k2, k3, k4, k5, k6, k7⟩ := cells16 hSw; go_simp; try with_reducible rfl)
    simp only [Act.put, List.getElem_toArray, List.getElem_cons_zero, List.getElem_cons_succ, List.setIfInBounds_toArray, List.set_cons_zero, List.set_cons_succ]
    refine wpAnyH_take (i := 1) (v := ?_) rfl (by kernel_rfl) (by kernel_rfl) (by kernel_rfl) (fun _ _ _ h => h) (Or.inl ⟨by rfl, ?_⟩) (hS0) ?_
    rotate_left
    · (intro w hSw; obtain ⟨p0, p1, p2, p3, p4, p5, p6, p7, k0, k1, k2, k3, k4, k5, k6, k7⟩ := cells16 hSw; go_simp; try with_reducible rfl)
    simp only [Act.put, List.getElem_toArray, List.getElem_cons_zero, List.getElem_cons_succ, List.setIfInBounds_toArray, List.set_cons_zero, List.set_cons_succ]
    refine wpAnyH_take (i := 3) (v := ?_) rfl (by kernel_rfl) (by kernel_rfl) (by kernel_rfl) (fun _ _ _ h => h) (Or.inl ⟨by rfl, ?_⟩) (hS0) ?_
    rotate_left
    · (intro w hSw; obtain ⟨p0, p1, p2, p3, p4, p5, p6, p7, k0, k1, k2, k3, k4, k5, k6, k7⟩ := cells16 hSw; go_simp; try with_reducible rfl)
    simp only [Act.put, List.getElem_toArray, List.getElem_cons_zero, List.getElem_cons_succ, List.setIfInBounds_toArray, List.set_cons_zero, List.set_cons_succ]
    refine wpAnyH_take (i := 4) (v := ?_) rfl (by kernel_rfl) (by kernel_rfl) (by kernel_rfl) (fun _ _ _ h => h) (Or.inl ⟨by rfl, ?_⟩) (hS0) ?_
    rotate_left
    · (intro w hSw; obtain ⟨p0, p1, p2, p3, p4, p5, p6, p7, k0, k1, k2, k3, k4, k5, k6, k7⟩ := cells16 hSw; go_simp; try with_reducible rfl)
    simp only [Act.put, List.getElem_toArray, List.getElem_cons_zero, List.getElem_cons_succ, List.setIfInBounds_toArray, List.set_cons_zero, List.set_cons_succ]
    refine wpAnyH_ready (rs := [2]) (by kernel_rfl) (by simp) (AllReadyH.cons (i := 2) rfl (fun K' hK => ?_) AllReadyH.nil)
    go_simp
    refine (HSO.out _ ((Keep.refl _ _).drew)).mono ?_
    rintro e w3 ⟨rfl, hk⟩
    have HK3 := hid (((Keep.refl No w2).drew).trans hk (fun _ _ e => e))
    have hS1 : Blk w3 (w.heap.size + 1) (cellsO o) 29 ∧ Blk w3 (w.heap.size + 1 + 1) (cellsO p) 29 := ⟨HB4.out.mod HK3.out (no _), HB5.out.mod HK3.out (no _)⟩
    refine hK.out _ _ hS1 (fun _ => ?_)
    clear hK hk hS0
    refine wpAnyH_ready (rs := [5]) (by kernel_rfl) (by simp) (AllReadyH.cons (i := 5) rfl (fun K' hK => ?_) AllReadyH.nil)
    go_simp
    refine (HSP.out _ HK3.out).mono ?_
    rintro e w4 ⟨rfl, hk⟩
    have HK4 := hid (HK3.out.trans hk (fun _ _ e => e))
    have hS2 : Blk w4 (w.heap.size + 1) (cellsO o) 29 ∧ Blk w4 (w.heap.size + 1 + 1) (cellsO p) 29 := ⟨HB4.out.mod HK4.out (no _), HB5.out.mod HK4.out (no _)⟩
    refine hK.out _ _ hS2 (fun _ => ?_)
    clear hK hk hS1
    refine wpAnyH_take (i := 6) (v := ?_) rfl (by kernel_rfl) (by kernel_rfl) (by kernel_rfl) (fun _ _ _ h => h) (Or.inl ⟨by rfl, ?_⟩) (hS2) ?_
    rotate_left
    · (intro w hSw; obtain ⟨p0, p1, p2, p3, p4, p5, p6, p7, k0, k1, k2, k3, k4, k5, k6, k7⟩ := cells16 hSw; go_simp; try with_reducible rfl)
    simp only [Act.put, List.getElem_toArray, List.getElem_cons_zero, List.getElem_cons_succ, List.setIfInBounds_toArray, List.set_cons_zero, List.set_cons_succ]
    refine wpAnyH_done (by kernel_rfl) ?_ _
    refine NoPanic.normal ?_
    obtain ⟨z7, d7, f7⟩ := (HB6.out.mod HK4.out (no _)).one
    have HB7 := hid (HB6.out.mod HK4.out (no _))
    have HKF := hid (HK2.out.trans HK4.out (fun _ _ e => e))
    clear z6 d6 f6 hS2
    go_wp2
    refine marks_ret (base := w.heap.size) (Marks.nil _ _) fun W2 hW2 => ⟨_, res_b rfl _ rfl ((HB7.out.set 0 (.bool true)).mod hW2 (fun h => Blk.notMark (HB7.out.set 0 (.bool true)) h.2)), rfl, ?_⟩
    exact (HKF.out.setCell _ _ (fun h => absurd h (by simp; omega))).trans hW2 (fun k hk h => by have := h.1; omega)
  · have hsd : (so == sp) = false := by simpa using hss
    have HSN := hid hss
    clear hss
    have hS0 : Blk w2.drew (w.heap.size + 1) (cellsO o) 29 ∧ Blk w2.drew (w.heap.size + 1 + 1) (cellsO p) 29 := ⟨HB4.out.drew, HB5.out.drew⟩
    refine wp_region_noPanic ?_
    refine wp_region_held (S := fun V => Blk V (w.heap.size + 1) (cellsO o) 29 ∧ Blk V (w.heap.size + 1 + 1) (cellsO p) 29) (by kernel_rfl) ?_
    refine wpAnyH_take (i := 0) (v := ?_) rfl (by kernel_rfl) (by kernel_rfl) (by kernel_rfl) (fun _ _ _ h => h) (Or.inl ⟨by rfl, ?_⟩) (hS0) ?_
    rotate_left
    · (intro w hSw; obtain ⟨p0, p1, p2, p3, p4, p5, p6, p7, k0, k1, k2, k3, k4, k5, k6, k7⟩ := cells16 hSw; go_simp; try with_reducible rfl)
    simp only [Act.put, List.getElem_toArray, List.getElem_cons_zero, List.getElem_cons_succ, List.setIfInBounds_toArray, List.set_cons_zero, List.set_cons_succ]
    refine wpAnyH_take (i := 1) (v := ?_) rfl (by kernel_rfl) (by kernel_rfl) (by kernel_rfl) (fun _ _ _ h => h) (Or.inl ⟨by rfl, ?_⟩) (hS0) ?_
    rotate_left
    · (intro w hSw; obtain ⟨p0, p1, p2, p3, p4, p5, p6, p7, k0, k1, k2, k3, k4, k5, k6, k7⟩ := cells16 hSw; go_simp; try with_reducible rfl)
    simp only [Act.put, List.getElem_toArray, List.getElem_cons_zero, List.getElem_cons_succ, List.setIfInBounds_toArray, List.set_cons_zero, List.set_cons_succ]
    refine wpAnyH_take (i := 3) (v := ?_) rfl (by kernel_rfl) (by kernel_rfl) (by kernel_rfl) (fun _ _ _ h => h) (Or.inl ⟨by rfl, ?_⟩) (hS0) ?_
    rotate_left
    · (intro w hSw; obtain ⟨p0, p1, p2, p3, p4, p5, p6, p7, k0, k1, k2, k3, k4, k5, k6, k7⟩ := cells16 hSw; go_simp; try with_reducible rfl)
    simp only [Act.put, List.getElem_toArray, List.getElem_cons_zero, List.getElem_cons_succ, List.setIfInBounds_toArray, List.set_cons_zero, List.set_cons_succ]
    refine wpAnyH_take (i := 4) (v := ?_) rfl (by kernel_rfl) (by kernel_rfl) (by kernel_rfl) (fun _ _ _ h => h) (Or.inl ⟨by rfl, ?_⟩) (hS0) ?_
    rotate_left
    · (intro w hSw; obtain ⟨p0, p1, p2, p3, p4, p5, p6, p7, k0, k1, k2, k3, k4, k5, k6, k7⟩ := cells16 hSw; go_simp; try with_reducible rfl)
    simp only [Act.put, List.getElem_toArray, List.getElem_cons_zero, List.getElem_cons_succ, List.setIfInBounds_toArray, List.set_cons_zero, List.set_cons_succ]
    refine wpAnyH_ready (rs := [2]) (by kernel_rfl) (by simp) (AllReadyH.cons (i := 2) rfl (fun K' hK => ?_) AllReadyH.nil)
    go_simp
    refine (HSO.out _ ((Keep.refl _ _).drew)).mono ?_
    rintro e w3 ⟨rfl, hk⟩
    have HK3 := hid (((Keep.refl No w2).drew).trans hk (fun _ _ e => e))
    have hS1 : Blk w3 (w.heap.size + 1) (cellsO o) 29 ∧ Blk w3 (w.heap.size + 1 + 1) (cellsO p) 29 := ⟨HB4.out.mod HK3.out (no _), HB5.out.mod HK3.out (no _)⟩
    refine hK.out _ _ hS1 (fun _ => ?_)
    clear hK hk hS0
    refine wpAnyH_ready (rs := [5]) (by kernel_rfl) (by simp) (AllReadyH.cons (i := 5) rfl (fun K' hK => ?_) AllReadyH.nil)
    go_simp
    refine (HSP.out _ HK3.out).mono ?_
    rintro e w4 ⟨rfl, hk⟩
    have HK4 := hid (HK3.out.trans hk (fun _ _ e => e))
    have hS2 : Blk w4 (w.heap.size + 1) (cellsO o) 29 ∧ Blk w4 (w.heap.size + 1 + 1) (cellsO p) 29 := ⟨HB4.out.mod HK4.out (no _), HB5.out.mod HK4.out (no _)⟩
    refine hK.out _ _ hS2 (fun _ => ?_)
    clear hK hk hS1
    refine wpAnyH_take (i := 6) (v := ?_) rfl (by kernel_rfl) (by kernel_rfl) (by kernel_rfl) (fun _ _ _ h => h) (Or.inl ⟨by rfl, ?_⟩) (hS2) ?_
    rotate_left
    · (intro w hSw; obtain ⟨p0, p1, p2, p3, p4, p5, p6, p7, k0, k1, k2, k3, k4, k5, k6, k7⟩ := cells16 hSw; go_simp; try with_reducible rfl)
    simp only [Act.put, List.getElem_toArray, List.getElem_cons_zero, List.getElem_cons_succ, List.setIfInBounds_toArray, List.set_cons_zero, List.set_cons_succ]
    refine wpAnyH_done (by kernel_rfl) ?_ _
    refine NoPanic.normal ?_
    clear z6 d6 f6
    go_wp2
    have HRG : Hid (Rg w w4 w4 (w.heap.size + 1) (w.heap.size + 1 + 1) (w.heap.size + 1 + 1 + 1) o p (.pointer (some ⟨bx, 0, none⟩)) most Ls F (.pointer (some ⟨by', 0, none⟩)) Ls F2) := ⟨HB4.out.mod HK4.out (no _), HB5.out.mod HK4.out (no _), HB6.out.mod HK4.out (no _), HX.out.keep HK4.out (fun _ _ => no _), HY.out.keep HK4.out (fun _ _ => no _), HD.out, fun k hk => by have := HFl.out k hk; omega, HK2.out.trans HK4.out (fun _ _ e => e), ⟨by omega, by omega, by omega⟩, Nat.le_refl _⟩
    have hl64 : Ls.length ≤ 64 ∧ 1 ≤ Ls.length := by obtain ⟨_, _, _, _, _, hXX, _⟩ := HX.out; exact ⟨hXX.most64, hXX.pos⟩
    have hcm := comm (most := most) (o := o) (p := p) (Ls := Ls) rfl hl64.2 (by rw [HSEo.out, HSEp.out]; exact HSN.out)
    obtain ⟨hc1, hc2, hc3, hc4, hc5⟩ := hcm
    obtain ⟨ta, hta⟩ : ∃ t, told most o Ls = t := ⟨_, rfl⟩
    obtain ⟨tb, htb⟩ : ∃ t, told most p (xdo most o Ls) = t := ⟨_, rfl⟩
    have hCA : ∀ W F', Has W (.pointer (some ⟨bx, 0, none⟩)) most Ls F' → Calls Try.prog 9 #[.pointer (some ⟨bx, 0, none⟩), valO o] W fun e w' => e = .returned (valTell ta) ∧ Then W w' (.pointer (some ⟨bx, 0, none⟩)) most (xdo most o Ls) F' := fun W F' h => by rw [← hta]; exact one_has h o HOK.out
    have hCB : ∀ W F', Has W (.pointer (some ⟨bx, 0, none⟩)) most (xdo most o Ls) F' → Calls Try.prog 9 #[.pointer (some ⟨bx, 0, none⟩), valO p] W fun e w' => e = .returned (valTell tb) ∧ Then W w' (.pointer (some ⟨bx, 0, none⟩)) most (xdo most p (xdo most o Ls)) F' := fun W F' h => by rw [← htb]; exact one_has h p HPK.out
    have hDB : ∀ W F', Has W (.pointer (some ⟨by', 0, none⟩)) most Ls F' → Calls Try.prog 9 #[.pointer (some ⟨by', 0, none⟩), valO p] W fun e w' => e = .returned (valTell tb) ∧ Then W w' (.pointer (some ⟨by', 0, none⟩)) most (xdo most p Ls) F' := fun W F' h => by rw [← htb, hc3]; exact one_has h p HPK.out
    have hDA : ∀ W F', Has W (.pointer (some ⟨by', 0, none⟩)) most (xdo most p Ls) F' → Calls Try.prog 9 #[.pointer (some ⟨by', 0, none⟩), valO o] W fun e w' => e = .returned (valTell ta) ∧ Then W w' (.pointer (some ⟨by', 0, none⟩)) most (xdo most p (xdo most o Ls)) F' := fun W F' h => by rw [← hta, hc2, hc1]; exact one_has h o HOK.out
    unfold valO valTell valT at hCA hCB hDA hDB
    have HCA := hid hCA
    have HCB := hid hCB
    have HDA := hid hDA
    have HDB := hid hDB
    obtain ⟨La, hLa⟩ : ∃ L, xdo most o Ls = L := ⟨_, rfl⟩
    obtain ⟨Lb, hLb⟩ : ∃ L, xdo most p Ls = L := ⟨_, rfl⟩
    rw [hLa] at HCA HCB hc5 HDA
    obtain ⟨Lx, hLx⟩ : ∃ L, xdo most p La = L := ⟨_, rfl⟩
    rw [hLx] at HCB hc5
    rw [hLb] at HDA HDB
    rw [hLx] at HDA
    clear hCA hCB hDA hDB hc1 hc2 hc3 hc4 hta htb hLa hLb hLx
    have HL5 : Hid (Lx.length = Ls.length) := hc5
    have HL64 := hid hl64
    clear hc5 hl64 HSO HSP HB4 HB5 HB6 HX HY HD HFl HK1 HK2 HK3 HK4 HP HP2 H3 H4 H5 H6 HSEo HSEp HSN hS2 HB HK0
    refine Pop2.wp_region_meet (S := fun V => Blk V (w.heap.size + 1) (cellsO o) 29 ∧ Blk V (w.heap.size + 1 + 1) (cellsO p) 29) [11, 12, 54, 55, 56, 57, 58, 59] (fun u W => ∃ (bX bY : Nat) (F' : Nat → Prop), u 11 = .pointer (some ⟨bX, 0, none⟩) ∧ u 12 = .pointer (some ⟨bY, 0, none⟩) ∧ bX ≠ bY ∧ u 56 = valTell ta ∧ u 59 = valTell tb ∧ Rg w w4 W (w.heap.size + 1) (w.heap.size + 1 + 1) (w.heap.size + 1 + 1 + 1) o p (.pointer (some ⟨bx, 0, none⟩)) most Lx F' (.pointer (some ⟨by', 0, none⟩)) Ls F2 ∧ Tb W F' F2 (w.heap.size + 1 + 1 + 1) bX lT ∧ Tb W F' F2 (w.heap.size + 1 + 1 + 1) bY lT) 8 (by kernel_rfl) (by kernel_rfl) (by kernel_rfl) (by kernel_rfl) ?_ ?_
    · skip
      obtain ⟨wd9, hwd9⟩ : ∃ V, w4.drew = V := ⟨_, rfl⟩
      change wpAnyH _ _ _ _ _ _ _ _ w4.drew
      have hkd : Keep No w4 wd9 := by rw [← hwd9]; exact (Keep.refl _ _).drew
      have HRa10 := hid (HRG.out.go hkd)
      have HSZd : Hid (wd9.heap.size = w4.heap.size) := by rw [← hwd9]; rfl
      rw [hwd9]
      have hS0 : Blk wd9 (w.heap.size + 1) (cellsO o) 29 ∧ Blk wd9 (w.heap.size + 1 + 1) (cellsO p) 29 := ⟨HRa10.out.so, HRa10.out.sp⟩
      clear hwd9 hkd
      refine wpAnyH_take (i := 0) (v := ?_) rfl (by kernel_rfl) (by kernel_rfl) (by kernel_rfl) (fun _ _ _ h => h) (Or.inl ⟨by rfl, ?_⟩) (hS0) ?_
      rotate_left
      · (intro w hSw; obtain ⟨p0, p1, p2, p3, p4, p5, p6, p7, k0, k1, k2, k3, k4, k5, k6, k7⟩ := cells16 hSw; go_simp; try with_reducible rfl)
      simp only [Act.put, List.getElem_toArray, List.getElem_cons_zero, List.getElem_cons_succ, List.setIfInBounds_toArray, List.set_cons_zero, List.set_cons_succ]
      refine wpAnyH_take (i := 1) (v := ?_) rfl (by kernel_rfl) (by kernel_rfl) (by kernel_rfl) (fun _ _ _ h => h) (Or.inl ⟨by rfl, ?_⟩) (hS0) ?_
      rotate_left
      · (intro w hSw; obtain ⟨p0, p1, p2, p3, p4, p5, p6, p7, k0, k1, k2, k3, k4, k5, k6, k7⟩ := cells16 hSw; go_simp; try with_reducible rfl)
      simp only [Act.put, List.getElem_toArray, List.getElem_cons_zero, List.getElem_cons_succ, List.setIfInBounds_toArray, List.set_cons_zero, List.set_cons_succ]
      refine wpAnyH_take (i := 3) (v := ?_) rfl (by kernel_rfl) (by kernel_rfl) (by kernel_rfl) (fun _ _ _ h => h) (Or.inl ⟨by rfl, ?_⟩) (hS0) ?_
      rotate_left
      · (intro w hSw; obtain ⟨p0, p1, p2, p3, p4, p5, p6, p7, k0, k1, k2, k3, k4, k5, k6, k7⟩ := cells16 hSw; go_simp; try with_reducible rfl)
      simp only [Act.put, List.getElem_toArray, List.getElem_cons_zero, List.getElem_cons_succ, List.setIfInBounds_toArray, List.set_cons_zero, List.set_cons_succ]
      refine wpAnyH_take (i := 4) (v := ?_) rfl (by kernel_rfl) (by kernel_rfl) (by kernel_rfl) (fun _ _ _ h => h) (Or.inl ⟨by rfl, ?_⟩) (hS0) ?_
      rotate_left
      · (intro w hSw; obtain ⟨p0, p1, p2, p3, p4, p5, p6, p7, k0, k1, k2, k3, k4, k5, k6, k7⟩ := cells16 hSw; go_simp; try with_reducible rfl)
      simp only [Act.put, List.getElem_toArray, List.getElem_cons_zero, List.getElem_cons_succ, List.setIfInBounds_toArray, List.set_cons_zero, List.set_cons_succ]
      clear hS0
      refine wpAnyH_ready (rs := [2, 6, 7]) (by kernel_rfl) (by simp) (AllReadyH.cons (i := 2) rfl (fun K' hK => ?_) (AllReadyH.cons (i := 6) rfl (fun K' hK => ?_) (AllReadyH.cons (i := 7) rfl (fun K' hK => ?_) AllReadyH.nil)))
      · skip
        go_simp
        refine (HCA.out _ _ HRa10.out.hx).mono ?_
        rintro e w11 ⟨rfl, hT⟩
        obtain ⟨F11, hR, hF, hk⟩ := HRa10.out.call hT
        have HSZ11 : Hid (wd9.heap.size ≤ w11.heap.size) := hk.size
        have HR11 := hid hR
        refine hK.out _ _ ⟨HR11.out.so, HR11.out.sp⟩ (fun _ => ?_)
        clear hK hT hR hF hk
        refine wpAnyH_ready (rs := [5, 6, 7]) (by kernel_rfl) (by simp) (AllReadyH.cons (i := 5) rfl (fun K' hK => ?_) (AllReadyH.cons (i := 6) rfl (fun K' hK => ?_) (AllReadyH.cons (i := 7) rfl (fun K' hK => ?_) AllReadyH.nil)))
        · skip
          go_simp
          refine (HCB.out _ _ HR11.out.hx).mono ?_
          rintro e w12 ⟨rfl, hT⟩
          obtain ⟨F12, hR, hF, hk⟩ := HR11.out.call hT
          have HSZ12 : Hid (w11.heap.size ≤ w12.heap.size) := hk.size
          have HR12 := hid hR
          refine hK.out _ _ ⟨HR12.out.so, HR12.out.sp⟩ (fun _ => ?_)
          clear hK hT hR hF hk
          refine wpAnyH_ready (rs := [6, 7]) (by kernel_rfl) (by simp) (AllReadyH.cons (i := 6) rfl (fun K' hK => ?_) (AllReadyH.cons (i := 7) rfl (fun K' hK => ?_) AllReadyH.nil))
          · skip
            go_simp
            obtain ⟨w13, hw⟩ : ∃ V, w12.alloc (.cells #[.int .u64 0, .int .u64 0, .int .u64 0, .int .u8 0, .int .u64 0, .int .u64 0, .int .u64 0, .int .u8 0, .bool false, .bool false, .int .i64 0, .int .i64 0, .int .i64 0] 36) = V := ⟨_, rfl⟩
            have hka : Keep No w12 w13 := by rw [← hw]; exact (Keep.refl _ _).alloc _
            have HR13 := hid (HR12.out.go hka)
            have HX13 : Hid (Tb w13 F12 F2 (w.heap.size + 1 + 1 + 1) w12.heap.size lT) := by rw [← hw]; exact HR12.out.new rfl
            have HSZ13 : Hid (w13.heap.size = w12.heap.size + 1) := by rw [← hw]; show _ = _; simp
            rw [hw]
            refine hK.out _ _ ⟨HR13.out.so, HR13.out.sp⟩ (fun _ => ?_)
            clear hK hw hka
            refine wpAnyH_ready (rs := [7]) (by kernel_rfl) (by simp) (AllReadyH.cons (i := 7) rfl (fun K' hK => ?_) AllReadyH.nil)
            go_simp
            obtain ⟨w14, hw⟩ : ∃ V, w13.alloc (.cells #[.int .u64 0, .int .u64 0, .int .u64 0, .int .u8 0, .int .u64 0, .int .u64 0, .int .u64 0, .int .u8 0, .bool false, .bool false, .int .i64 0, .int .i64 0, .int .i64 0] 36) = V := ⟨_, rfl⟩
            have hka : Keep No w13 w14 := by rw [← hw]; exact (Keep.refl _ _).alloc _
            have HR14 := hid (HR13.out.go hka)
            have HX14 := hid (HX13.out.go hka)
            have HY14 : Hid (Tb w14 F12 F2 (w.heap.size + 1 + 1 + 1) w13.heap.size lT) := by rw [← hw]; exact HR13.out.new rfl
            have HSZ14 : Hid (w14.heap.size = w13.heap.size + 1) := by rw [← hw]; show _ = _; simp
            rw [hw]
            refine hK.out _ _ ⟨HR14.out.so, HR14.out.sp⟩ (fun _ => ?_)
            clear hK hw hka
            refine wpAnyH_done (by kernel_rfl) ?_ _
            refine Pop2.meet_normal ⟨_, _, _, rfl, rfl, (by have := HSZd.out; have := HSZ11.out; have := HSZ12.out; have := HSZ13.out; have := HSZ14.out; omega), rfl, rfl, HR14.out, HX14.out, HY14.out⟩ ?_
            kernel_rfl
          · skip
            go_simp
            obtain ⟨w15, hw⟩ : ∃ V, w12.alloc (.cells #[.int .u64 0, .int .u64 0, .int .u64 0, .int .u8 0, .int .u64 0, .int .u64 0, .int .u64 0, .int .u8 0, .bool false, .bool false, .int .i64 0, .int .i64 0, .int .i64 0] 36) = V := ⟨_, rfl⟩
            have hka : Keep No w12 w15 := by rw [← hw]; exact (Keep.refl _ _).alloc _
            have HR15 := hid (HR12.out.go hka)
            have HY15 : Hid (Tb w15 F12 F2 (w.heap.size + 1 + 1 + 1) w12.heap.size lT) := by rw [← hw]; exact HR12.out.new rfl
            have HSZ15 : Hid (w15.heap.size = w12.heap.size + 1) := by rw [← hw]; show _ = _; simp
            rw [hw]
            refine hK.out _ _ ⟨HR15.out.so, HR15.out.sp⟩ (fun _ => ?_)
            clear hK hw hka
            refine wpAnyH_ready (rs := [6]) (by kernel_rfl) (by simp) (AllReadyH.cons (i := 6) rfl (fun K' hK => ?_) AllReadyH.nil)
            go_simp
            obtain ⟨w16, hw⟩ : ∃ V, w15.alloc (.cells #[.int .u64 0, .int .u64 0, .int .u64 0, .int .u8 0, .int .u64 0, .int .u64 0, .int .u64 0, .int .u8 0, .bool false, .bool false, .int .i64 0, .int .i64 0, .int .i64 0] 36) = V := ⟨_, rfl⟩
            have hka : Keep No w15 w16 := by rw [← hw]; exact (Keep.refl _ _).alloc _
            have HR16 := hid (HR15.out.go hka)
            have HY16 := hid (HY15.out.go hka)
            have HX16 : Hid (Tb w16 F12 F2 (w.heap.size + 1 + 1 + 1) w15.heap.size lT) := by rw [← hw]; exact HR15.out.new rfl
            have HSZ16 : Hid (w16.heap.size = w15.heap.size + 1) := by rw [← hw]; show _ = _; simp
            rw [hw]
            refine hK.out _ _ ⟨HR16.out.so, HR16.out.sp⟩ (fun _ => ?_)
            clear hK hw hka
            refine wpAnyH_done (by kernel_rfl) ?_ _
            refine Pop2.meet_normal ⟨_, _, _, rfl, rfl, (by have := HSZd.out; have := HSZ11.out; have := HSZ12.out; have := HSZ15.out; have := HSZ16.out; omega), rfl, rfl, HR16.out, HX16.out, HY16.out⟩ ?_
            kernel_rfl
        · skip
          go_simp
          obtain ⟨w17, hw⟩ : ∃ V, w11.alloc (.cells #[.int .u64 0, .int .u64 0, .int .u64 0, .int .u8 0, .int .u64 0, .int .u64 0, .int .u64 0, .int .u8 0, .bool false, .bool false, .int .i64 0, .int .i64 0, .int .i64 0] 36) = V := ⟨_, rfl⟩
          have hka : Keep No w11 w17 := by rw [← hw]; exact (Keep.refl _ _).alloc _
          have HR17 := hid (HR11.out.go hka)
          have HX17 : Hid (Tb w17 F11 F2 (w.heap.size + 1 + 1 + 1) w11.heap.size lT) := by rw [← hw]; exact HR11.out.new rfl
          have HSZ17 : Hid (w17.heap.size = w11.heap.size + 1) := by rw [← hw]; show _ = _; simp
          rw [hw]
          refine hK.out _ _ ⟨HR17.out.so, HR17.out.sp⟩ (fun _ => ?_)
          clear hK hw hka
          refine wpAnyH_ready (rs := [5, 7]) (by kernel_rfl) (by simp) (AllReadyH.cons (i := 5) rfl (fun K' hK => ?_) (AllReadyH.cons (i := 7) rfl (fun K' hK => ?_) AllReadyH.nil))
          · skip
            go_simp
            refine (HCB.out _ _ HR17.out.hx).mono ?_
            rintro e w18 ⟨rfl, hT⟩
            obtain ⟨F18, hR, hF, hk⟩ := HR17.out.call hT
            have HSZ18 : Hid (w17.heap.size ≤ w18.heap.size) := hk.size
            have HR18 := hid hR
            have HX18 := hid (HX17.out.call hk hF)
            refine hK.out _ _ ⟨HR18.out.so, HR18.out.sp⟩ (fun _ => ?_)
            clear hK hT hR hF hk
            refine wpAnyH_ready (rs := [7]) (by kernel_rfl) (by simp) (AllReadyH.cons (i := 7) rfl (fun K' hK => ?_) AllReadyH.nil)
            go_simp
            obtain ⟨w19, hw⟩ : ∃ V, w18.alloc (.cells #[.int .u64 0, .int .u64 0, .int .u64 0, .int .u8 0, .int .u64 0, .int .u64 0, .int .u64 0, .int .u8 0, .bool false, .bool false, .int .i64 0, .int .i64 0, .int .i64 0] 36) = V := ⟨_, rfl⟩
            have hka : Keep No w18 w19 := by rw [← hw]; exact (Keep.refl _ _).alloc _
            have HR19 := hid (HR18.out.go hka)
            have HX19 := hid (HX18.out.go hka)
            have HY19 : Hid (Tb w19 F18 F2 (w.heap.size + 1 + 1 + 1) w18.heap.size lT) := by rw [← hw]; exact HR18.out.new rfl
            have HSZ19 : Hid (w19.heap.size = w18.heap.size + 1) := by rw [← hw]; show _ = _; simp
            rw [hw]
            refine hK.out _ _ ⟨HR19.out.so, HR19.out.sp⟩ (fun _ => ?_)
            clear hK hw hka
            refine wpAnyH_done (by kernel_rfl) ?_ _
            refine Pop2.meet_normal ⟨_, _, _, rfl, rfl, (by have := HSZd.out; have := HSZ11.out; have := HSZ17.out; have := HSZ18.out; have := HSZ19.out; omega), rfl, rfl, HR19.out, HX19.out, HY19.out⟩ ?_
            kernel_rfl
          · skip
            go_simp
            obtain ⟨w20, hw⟩ : ∃ V, w17.alloc (.cells #[.int .u64 0, .int .u64 0, .int .u64 0, .int .u8 0, .int .u64 0, .int .u64 0, .int .u64 0, .int .u8 0, .bool false, .bool false, .int .i64 0, .int .i64 0, .int .i64 0] 36) = V := ⟨_, rfl⟩
            have hka : Keep No w17 w20 := by rw [← hw]; exact (Keep.refl _ _).alloc _
            have HR20 := hid (HR17.out.go hka)
            have HX20 := hid (HX17.out.go hka)
            have HY20 : Hid (Tb w20 F11 F2 (w.heap.size + 1 + 1 + 1) w17.heap.size lT) := by rw [← hw]; exact HR17.out.new rfl
            have HSZ20 : Hid (w20.heap.size = w17.heap.size + 1) := by rw [← hw]; show _ = _; simp
            rw [hw]
            refine hK.out _ _ ⟨HR20.out.so, HR20.out.sp⟩ (fun _ => ?_)
            clear hK hw hka
            refine wpAnyH_ready (rs := [5]) (by kernel_rfl) (by simp) (AllReadyH.cons (i := 5) rfl (fun K' hK => ?_) AllReadyH.nil)
            go_simp
            refine (HCB.out _ _ HR20.out.hx).mono ?_
            rintro e w21 ⟨rfl, hT⟩
            obtain ⟨F21, hR, hF, hk⟩ := HR20.out.call hT
            have HSZ21 : Hid (w20.heap.size ≤ w21.heap.size) := hk.size
            have HR21 := hid hR
            have HX21 := hid (HX20.out.call hk hF)
            have HY21 := hid (HY20.out.call hk hF)
            refine hK.out _ _ ⟨HR21.out.so, HR21.out.sp⟩ (fun _ => ?_)
            clear hK hT hR hF hk
            refine wpAnyH_done (by kernel_rfl) ?_ _
            refine Pop2.meet_normal ⟨_, _, _, rfl, rfl, (by have := HSZd.out; have := HSZ11.out; have := HSZ17.out; have := HSZ20.out; have := HSZ21.out; omega), rfl, rfl, HR21.out, HX21.out, HY21.out⟩ ?_
            kernel_rfl
        · skip
          go_simp
          obtain ⟨w22, hw⟩ : ∃ V, w11.alloc (.cells #[.int .u64 0, .int .u64 0, .int .u64 0, .int .u8 0, .int .u64 0, .int .u64 0, .int .u64 0, .int .u8 0, .bool false, .bool false, .int .i64 0, .int .i64 0, .int .i64 0] 36) = V := ⟨_, rfl⟩
          have hka : Keep No w11 w22 := by rw [← hw]; exact (Keep.refl _ _).alloc _
          have HR22 := hid (HR11.out.go hka)
          have HY22 : Hid (Tb w22 F11 F2 (w.heap.size + 1 + 1 + 1) w11.heap.size lT) := by rw [← hw]; exact HR11.out.new rfl
          have HSZ22 : Hid (w22.heap.size = w11.heap.size + 1) := by rw [← hw]; show _ = _; simp
          rw [hw]
          refine hK.out _ _ ⟨HR22.out.so, HR22.out.sp⟩ (fun _ => ?_)
          clear hK hw hka
          refine wpAnyH_ready (rs := [5, 6]) (by kernel_rfl) (by simp) (AllReadyH.cons (i := 5) rfl (fun K' hK => ?_) (AllReadyH.cons (i := 6) rfl (fun K' hK => ?_) AllReadyH.nil))
          · skip
            go_simp
            refine (HCB.out _ _ HR22.out.hx).mono ?_
            rintro e w23 ⟨rfl, hT⟩
            obtain ⟨F23, hR, hF, hk⟩ := HR22.out.call hT
            have HSZ23 : Hid (w22.heap.size ≤ w23.heap.size) := hk.size
            have HR23 := hid hR
            have HY23 := hid (HY22.out.call hk hF)
            refine hK.out _ _ ⟨HR23.out.so, HR23.out.sp⟩ (fun _ => ?_)
            clear hK hT hR hF hk
            refine wpAnyH_ready (rs := [6]) (by kernel_rfl) (by simp) (AllReadyH.cons (i := 6) rfl (fun K' hK => ?_) AllReadyH.nil)
            go_simp
            obtain ⟨w24, hw⟩ : ∃ V, w23.alloc (.cells #[.int .u64 0, .int .u64 0, .int .u64 0, .int .u8 0, .int .u64 0, .int .u64 0, .int .u64 0, .int .u8 0, .bool false, .bool false, .int .i64 0, .int .i64 0, .int .i64 0] 36) = V := ⟨_, rfl⟩
            have hka : Keep No w23 w24 := by rw [← hw]; exact (Keep.refl _ _).alloc _
            have HR24 := hid (HR23.out.go hka)
            have HY24 := hid (HY23.out.go hka)
            have HX24 : Hid (Tb w24 F23 F2 (w.heap.size + 1 + 1 + 1) w23.heap.size lT) := by rw [← hw]; exact HR23.out.new rfl
            have HSZ24 : Hid (w24.heap.size = w23.heap.size + 1) := by rw [← hw]; show _ = _; simp
            rw [hw]
            refine hK.out _ _ ⟨HR24.out.so, HR24.out.sp⟩ (fun _ => ?_)
            clear hK hw hka
            refine wpAnyH_done (by kernel_rfl) ?_ _
            refine Pop2.meet_normal ⟨_, _, _, rfl, rfl, (by have := HSZd.out; have := HSZ11.out; have := HSZ22.out; have := HSZ23.out; have := HSZ24.out; omega), rfl, rfl, HR24.out, HX24.out, HY24.out⟩ ?_
            kernel_rfl
          · skip
            go_simp
            obtain ⟨w25, hw⟩ : ∃ V, w22.alloc (.cells #[.int .u64 0, .int .u64 0, .int .u64 0, .int .u8 0, .int .u64 0, .int .u64 0, .int .u64 0, .int .u8 0, .bool false, .bool false, .int .i64 0, .int .i64 0, .int .i64 0] 36) = V := ⟨_, rfl⟩
            have hka : Keep No w22 w25 := by rw [← hw]; exact (Keep.refl _ _).alloc _
            have HR25 := hid (HR22.out.go hka)
            have HY25 := hid (HY22.out.go hka)
            have HX25 : Hid (Tb w25 F11 F2 (w.heap.size + 1 + 1 + 1) w22.heap.size lT) := by rw [← hw]; exact HR22.out.new rfl
            have HSZ25 : Hid (w25.heap.size = w22.heap.size + 1) := by rw [← hw]; show _ = _; simp
            rw [hw]
            refine hK.out _ _ ⟨HR25.out.so, HR25.out.sp⟩ (fun _ => ?_)
            clear hK hw hka
            refine wpAnyH_ready (rs := [5]) (by kernel_rfl) (by simp) (AllReadyH.cons (i := 5) rfl (fun K' hK => ?_) AllReadyH.nil)
            go_simp
            refine (HCB.out _ _ HR25.out.hx).mono ?_
            rintro e w26 ⟨rfl, hT⟩
            obtain ⟨F26, hR, hF, hk⟩ := HR25.out.call hT
            have HSZ26 : Hid (w25.heap.size ≤ w26.heap.size) := hk.size
            have HR26 := hid hR
            have HX26 := hid (HX25.out.call hk hF)
            have HY26 := hid (HY25.out.call hk hF)
            refine hK.out _ _ ⟨HR26.out.so, HR26.out.sp⟩ (fun _ => ?_)
            clear hK hT hR hF hk
            refine wpAnyH_done (by kernel_rfl) ?_ _
            refine Pop2.meet_normal ⟨_, _, _, rfl, rfl, (by have := HSZd.out; have := HSZ11.out; have := HSZ22.out; have := HSZ25.out; have := HSZ26.out; omega), rfl, rfl, HR26.out, HX26.out, HY26.out⟩ ?_
            kernel_rfl
      · skip
        go_simp
        obtain ⟨w27, hw⟩ : ∃ V, wd9.alloc (.cells #[.int .u64 0, .int .u64 0, .int .u64 0, .int .u8 0, .int .u64 0, .int .u64 0, .int .u64 0, .int .u8 0, .bool false, .bool false, .int .i64 0, .int .i64 0, .int .i64 0] 36) = V := ⟨_, rfl⟩
        have hka : Keep No wd9 w27 := by rw [← hw]; exact (Keep.refl _ _).alloc _
        have HR27 := hid (HRa10.out.go hka)
        have HX27 : Hid (Tb w27 F F2 (w.heap.size + 1 + 1 + 1) wd9.heap.size lT) := by rw [← hw]; exact HRa10.out.new rfl
        have HSZ27 : Hid (w27.heap.size = wd9.heap.size + 1) := by rw [← hw]; show _ = _; simp
        rw [hw]
        refine hK.out _ _ ⟨HR27.out.so, HR27.out.sp⟩ (fun _ => ?_)
        clear hK hw hka
        refine wpAnyH_ready (rs := [2, 7]) (by kernel_rfl) (by simp) (AllReadyH.cons (i := 2) rfl (fun K' hK => ?_) (AllReadyH.cons (i := 7) rfl (fun K' hK => ?_) AllReadyH.nil))
        · skip
          go_simp
          refine (HCA.out _ _ HR27.out.hx).mono ?_
          rintro e w28 ⟨rfl, hT⟩
          obtain ⟨F28, hR, hF, hk⟩ := HR27.out.call hT
          have HSZ28 : Hid (w27.heap.size ≤ w28.heap.size) := hk.size
          have HR28 := hid hR
          have HX28 := hid (HX27.out.call hk hF)
          refine hK.out _ _ ⟨HR28.out.so, HR28.out.sp⟩ (fun _ => ?_)
          clear hK hT hR hF hk
          refine wpAnyH_ready (rs := [5, 7]) (by kernel_rfl) (by simp) (AllReadyH.cons (i := 5) rfl (fun K' hK => ?_) (AllReadyH.cons (i := 7) rfl (fun K' hK => ?_) AllReadyH.nil))
          · skip
            go_simp
            refine (HCB.out _ _ HR28.out.hx).mono ?_
            rintro e w29 ⟨rfl, hT⟩
            obtain ⟨F29, hR, hF, hk⟩ := HR28.out.call hT
            have HSZ29 : Hid (w28.heap.size ≤ w29.heap.size) := hk.size
            have HR29 := hid hR
            have HX29 := hid (HX28.out.call hk hF)
            refine hK.out _ _ ⟨HR29.out.so, HR29.out.sp⟩ (fun _ => ?_)
            clear hK hT hR hF hk
            refine wpAnyH_ready (rs := [7]) (by kernel_rfl) (by simp) (AllReadyH.cons (i := 7) rfl (fun K' hK => ?_) AllReadyH.nil)
            go_simp
            obtain ⟨w30, hw⟩ : ∃ V, w29.alloc (.cells #[.int .u64 0, .int .u64 0, .int .u64 0, .int .u8 0, .int .u64 0, .int .u64 0, .int .u64 0, .int .u8 0, .bool false, .bool false, .int .i64 0, .int .i64 0, .int .i64 0] 36) = V := ⟨_, rfl⟩
            have hka : Keep No w29 w30 := by rw [← hw]; exact (Keep.refl _ _).alloc _
            have HR30 := hid (HR29.out.go hka)
            have HX30 := hid (HX29.out.go hka)
            have HY30 : Hid (Tb w30 F29 F2 (w.heap.size + 1 + 1 + 1) w29.heap.size lT) := by rw [← hw]; exact HR29.out.new rfl
            have HSZ30 : Hid (w30.heap.size = w29.heap.size + 1) := by rw [← hw]; show _ = _; simp
            rw [hw]
            refine hK.out _ _ ⟨HR30.out.so, HR30.out.sp⟩ (fun _ => ?_)
            clear hK hw hka
            refine wpAnyH_done (by kernel_rfl) ?_ _
            refine Pop2.meet_normal ⟨_, _, _, rfl, rfl, (by have := HSZd.out; have := HSZ27.out; have := HSZ28.out; have := HSZ29.out; have := HSZ30.out; omega), rfl, rfl, HR30.out, HX30.out, HY30.out⟩ ?_
            kernel_rfl
          · skip
            go_simp
            obtain ⟨w31, hw⟩ : ∃ V, w28.alloc (.cells #[.int .u64 0, .int .u64 0, .int .u64 0, .int .u8 0, .int .u64 0, .int .u64 0, .int .u64 0, .int .u8 0, .bool false, .bool false, .int .i64 0, .int .i64 0, .int .i64 0] 36) = V := ⟨_, rfl⟩
            have hka : Keep No w28 w31 := by rw [← hw]; exact (Keep.refl _ _).alloc _
            have HR31 := hid (HR28.out.go hka)
            have HX31 := hid (HX28.out.go hka)
            have HY31 : Hid (Tb w31 F28 F2 (w.heap.size + 1 + 1 + 1) w28.heap.size lT) := by rw [← hw]; exact HR28.out.new rfl
            have HSZ31 : Hid (w31.heap.size = w28.heap.size + 1) := by rw [← hw]; show _ = _; simp
            rw [hw]
            refine hK.out _ _ ⟨HR31.out.so, HR31.out.sp⟩ (fun _ => ?_)
            clear hK hw hka
            refine wpAnyH_ready (rs := [5]) (by kernel_rfl) (by simp) (AllReadyH.cons (i := 5) rfl (fun K' hK => ?_) AllReadyH.nil)
            go_simp
            refine (HCB.out _ _ HR31.out.hx).mono ?_
            rintro e w32 ⟨rfl, hT⟩
            obtain ⟨F32, hR, hF, hk⟩ := HR31.out.call hT
            have HSZ32 : Hid (w31.heap.size ≤ w32.heap.size) := hk.size
            have HR32 := hid hR
            have HX32 := hid (HX31.out.call hk hF)
            have HY32 := hid (HY31.out.call hk hF)
            refine hK.out _ _ ⟨HR32.out.so, HR32.out.sp⟩ (fun _ => ?_)
            clear hK hT hR hF hk
            refine wpAnyH_done (by kernel_rfl) ?_ _
            refine Pop2.meet_normal ⟨_, _, _, rfl, rfl, (by have := HSZd.out; have := HSZ27.out; have := HSZ28.out; have := HSZ31.out; have := HSZ32.out; omega), rfl, rfl, HR32.out, HX32.out, HY32.out⟩ ?_
            kernel_rfl
        · skip
          go_simp
          obtain ⟨w33, hw⟩ : ∃ V, w27.alloc (.cells #[.int .u64 0, .int .u64 0, .int .u64 0, .int .u8 0, .int .u64 0, .int .u64 0, .int .u64 0, .int .u8 0, .bool false, .bool false, .int .i64 0, .int .i64 0, .int .i64 0] 36) = V := ⟨_, rfl⟩
          have hka : Keep No w27 w33 := by rw [← hw]; exact (Keep.refl _ _).alloc _
          have HR33 := hid (HR27.out.go hka)
          have HX33 := hid (HX27.out.go hka)
          have HY33 : Hid (Tb w33 F F2 (w.heap.size + 1 + 1 + 1) w27.heap.size lT) := by rw [← hw]; exact HR27.out.new rfl
          have HSZ33 : Hid (w33.heap.size = w27.heap.size + 1) := by rw [← hw]; show _ = _; simp
          rw [hw]
          refine hK.out _ _ ⟨HR33.out.so, HR33.out.sp⟩ (fun _ => ?_)
          clear hK hw hka
          refine wpAnyH_ready (rs := [2]) (by kernel_rfl) (by simp) (AllReadyH.cons (i := 2) rfl (fun K' hK => ?_) AllReadyH.nil)
          go_simp
          refine (HCA.out _ _ HR33.out.hx).mono ?_
          rintro e w34 ⟨rfl, hT⟩
          obtain ⟨F34, hR, hF, hk⟩ := HR33.out.call hT
          have HSZ34 : Hid (w33.heap.size ≤ w34.heap.size) := hk.size
          have HR34 := hid hR
          have HX34 := hid (HX33.out.call hk hF)
          have HY34 := hid (HY33.out.call hk hF)
          refine hK.out _ _ ⟨HR34.out.so, HR34.out.sp⟩ (fun _ => ?_)
          clear hK hT hR hF hk
          refine wpAnyH_ready (rs := [5]) (by kernel_rfl) (by simp) (AllReadyH.cons (i := 5) rfl (fun K' hK => ?_) AllReadyH.nil)
          go_simp
          refine (HCB.out _ _ HR34.out.hx).mono ?_
          rintro e w35 ⟨rfl, hT⟩
          obtain ⟨F35, hR, hF, hk⟩ := HR34.out.call hT
          have HSZ35 : Hid (w34.heap.size ≤ w35.heap.size) := hk.size
          have HR35 := hid hR
          have HX35 := hid (HX34.out.call hk hF)
          have HY35 := hid (HY34.out.call hk hF)
          refine hK.out _ _ ⟨HR35.out.so, HR35.out.sp⟩ (fun _ => ?_)
          clear hK hT hR hF hk
          refine wpAnyH_done (by kernel_rfl) ?_ _
          refine Pop2.meet_normal ⟨_, _, _, rfl, rfl, (by have := HSZd.out; have := HSZ27.out; have := HSZ33.out; have := HSZ34.out; have := HSZ35.out; omega), rfl, rfl, HR35.out, HX35.out, HY35.out⟩ ?_
          kernel_rfl
      · skip
        go_simp
        obtain ⟨w36, hw⟩ : ∃ V, wd9.alloc (.cells #[.int .u64 0, .int .u64 0, .int .u64 0, .int .u8 0, .int .u64 0, .int .u64 0, .int .u64 0, .int .u8 0, .bool false, .bool false, .int .i64 0, .int .i64 0, .int .i64 0] 36) = V := ⟨_, rfl⟩
        have hka : Keep No wd9 w36 := by rw [← hw]; exact (Keep.refl _ _).alloc _
        have HR36 := hid (HRa10.out.go hka)
        have HY36 : Hid (Tb w36 F F2 (w.heap.size + 1 + 1 + 1) wd9.heap.size lT) := by rw [← hw]; exact HRa10.out.new rfl
        have HSZ36 : Hid (w36.heap.size = wd9.heap.size + 1) := by rw [← hw]; show _ = _; simp
        rw [hw]
        refine hK.out _ _ ⟨HR36.out.so, HR36.out.sp⟩ (fun _ => ?_)
        clear hK hw hka
        refine wpAnyH_ready (rs := [2, 6]) (by kernel_rfl) (by simp) (AllReadyH.cons (i := 2) rfl (fun K' hK => ?_) (AllReadyH.cons (i := 6) rfl (fun K' hK => ?_) AllReadyH.nil))
        · skip
          go_simp
          refine (HCA.out _ _ HR36.out.hx).mono ?_
          rintro e w37 ⟨rfl, hT⟩
          obtain ⟨F37, hR, hF, hk⟩ := HR36.out.call hT
          have HSZ37 : Hid (w36.heap.size ≤ w37.heap.size) := hk.size
          have HR37 := hid hR
          have HY37 := hid (HY36.out.call hk hF)
          refine hK.out _ _ ⟨HR37.out.so, HR37.out.sp⟩ (fun _ => ?_)
          clear hK hT hR hF hk
          refine wpAnyH_ready (rs := [5, 6]) (by kernel_rfl) (by simp) (AllReadyH.cons (i := 5) rfl (fun K' hK => ?_) (AllReadyH.cons (i := 6) rfl (fun K' hK => ?_) AllReadyH.nil))
          · skip
            go_simp
            refine (HCB.out _ _ HR37.out.hx).mono ?_
            rintro e w38 ⟨rfl, hT⟩
            obtain ⟨F38, hR, hF, hk⟩ := HR37.out.call hT
            have HSZ38 : Hid (w37.heap.size ≤ w38.heap.size) := hk.size
            have HR38 := hid hR
            have HY38 := hid (HY37.out.call hk hF)
            refine hK.out _ _ ⟨HR38.out.so, HR38.out.sp⟩ (fun _ => ?_)
            clear hK hT hR hF hk
            refine wpAnyH_ready (rs := [6]) (by kernel_rfl) (by simp) (AllReadyH.cons (i := 6) rfl (fun K' hK => ?_) AllReadyH.nil)
            go_simp
            obtain ⟨w39, hw⟩ : ∃ V, w38.alloc (.cells #[.int .u64 0, .int .u64 0, .int .u64 0, .int .u8 0, .int .u64 0, .int .u64 0, .int .u64 0, .int .u8 0, .bool false, .bool false, .int .i64 0, .int .i64 0, .int .i64 0] 36) = V := ⟨_, rfl⟩
            have hka : Keep No w38 w39 := by rw [← hw]; exact (Keep.refl _ _).alloc _
            have HR39 := hid (HR38.out.go hka)
            have HY39 := hid (HY38.out.go hka)
            have HX39 : Hid (Tb w39 F38 F2 (w.heap.size + 1 + 1 + 1) w38.heap.size lT) := by rw [← hw]; exact HR38.out.new rfl
            have HSZ39 : Hid (w39.heap.size = w38.heap.size + 1) := by rw [← hw]; show _ = _; simp
            rw [hw]
            refine hK.out _ _ ⟨HR39.out.so, HR39.out.sp⟩ (fun _ => ?_)
            clear hK hw hka
            refine wpAnyH_done (by kernel_rfl) ?_ _
            refine Pop2.meet_normal ⟨_, _, _, rfl, rfl, (by have := HSZd.out; have := HSZ36.out; have := HSZ37.out; have := HSZ38.out; have := HSZ39.out; omega), rfl, rfl, HR39.out, HX39.out, HY39.out⟩ ?_
            kernel_rfl
          · skip
            go_simp
            obtain ⟨w40, hw⟩ : ∃ V, w37.alloc (.cells #[.int .u64 0, .int .u64 0, .int .u64 0, .int .u8 0, .int .u64 0, .int .u64 0, .int .u64 0, .int .u8 0, .bool false, .bool false, .int .i64 0, .int .i64 0, .int .i64 0] 36) = V := ⟨_, rfl⟩
            have hka : Keep No w37 w40 := by rw [← hw]; exact (Keep.refl _ _).alloc _
            have HR40 := hid (HR37.out.go hka)
            have HY40 := hid (HY37.out.go hka)
            have HX40 : Hid (Tb w40 F37 F2 (w.heap.size + 1 + 1 + 1) w37.heap.size lT) := by rw [← hw]; exact HR37.out.new rfl
            have HSZ40 : Hid (w40.heap.size = w37.heap.size + 1) := by rw [← hw]; show _ = _; simp
            rw [hw]
            refine hK.out _ _ ⟨HR40.out.so, HR40.out.sp⟩ (fun _ => ?_)
            clear hK hw hka
            refine wpAnyH_ready (rs := [5]) (by kernel_rfl) (by simp) (AllReadyH.cons (i := 5) rfl (fun K' hK => ?_) AllReadyH.nil)
            go_simp
            refine (HCB.out _ _ HR40.out.hx).mono ?_
            rintro e w41 ⟨rfl, hT⟩
            obtain ⟨F41, hR, hF, hk⟩ := HR40.out.call hT
            have HSZ41 : Hid (w40.heap.size ≤ w41.heap.size) := hk.size
            have HR41 := hid hR
            have HX41 := hid (HX40.out.call hk hF)
            have HY41 := hid (HY40.out.call hk hF)
            refine hK.out _ _ ⟨HR41.out.so, HR41.out.sp⟩ (fun _ => ?_)
            clear hK hT hR hF hk
            refine wpAnyH_done (by kernel_rfl) ?_ _
            refine Pop2.meet_normal ⟨_, _, _, rfl, rfl, (by have := HSZd.out; have := HSZ36.out; have := HSZ37.out; have := HSZ40.out; have := HSZ41.out; omega), rfl, rfl, HR41.out, HX41.out, HY41.out⟩ ?_
            kernel_rfl
        · skip
          go_simp
          obtain ⟨w42, hw⟩ : ∃ V, w36.alloc (.cells #[.int .u64 0, .int .u64 0, .int .u64 0, .int .u8 0, .int .u64 0, .int .u64 0, .int .u64 0, .int .u8 0, .bool false, .bool false, .int .i64 0, .int .i64 0, .int .i64 0] 36) = V := ⟨_, rfl⟩
          have hka : Keep No w36 w42 := by rw [← hw]; exact (Keep.refl _ _).alloc _
          have HR42 := hid (HR36.out.go hka)
          have HY42 := hid (HY36.out.go hka)
          have HX42 : Hid (Tb w42 F F2 (w.heap.size + 1 + 1 + 1) w36.heap.size lT) := by rw [← hw]; exact HR36.out.new rfl
          have HSZ42 : Hid (w42.heap.size = w36.heap.size + 1) := by rw [← hw]; show _ = _; simp
          rw [hw]
          refine hK.out _ _ ⟨HR42.out.so, HR42.out.sp⟩ (fun _ => ?_)
          clear hK hw hka
          refine wpAnyH_ready (rs := [2]) (by kernel_rfl) (by simp) (AllReadyH.cons (i := 2) rfl (fun K' hK => ?_) AllReadyH.nil)
          go_simp
          refine (HCA.out _ _ HR42.out.hx).mono ?_
          rintro e w43 ⟨rfl, hT⟩
          obtain ⟨F43, hR, hF, hk⟩ := HR42.out.call hT
          have HSZ43 : Hid (w42.heap.size ≤ w43.heap.size) := hk.size
          have HR43 := hid hR
          have HX43 := hid (HX42.out.call hk hF)
          have HY43 := hid (HY42.out.call hk hF)
          refine hK.out _ _ ⟨HR43.out.so, HR43.out.sp⟩ (fun _ => ?_)
          clear hK hT hR hF hk
          refine wpAnyH_ready (rs := [5]) (by kernel_rfl) (by simp) (AllReadyH.cons (i := 5) rfl (fun K' hK => ?_) AllReadyH.nil)
          go_simp
          refine (HCB.out _ _ HR43.out.hx).mono ?_
          rintro e w44 ⟨rfl, hT⟩
          obtain ⟨F44, hR, hF, hk⟩ := HR43.out.call hT
          have HSZ44 : Hid (w43.heap.size ≤ w44.heap.size) := hk.size
          have HR44 := hid hR
          have HX44 := hid (HX43.out.call hk hF)
          have HY44 := hid (HY43.out.call hk hF)
          refine hK.out _ _ ⟨HR44.out.so, HR44.out.sp⟩ (fun _ => ?_)
          clear hK hT hR hF hk
          refine wpAnyH_done (by kernel_rfl) ?_ _
          refine Pop2.meet_normal ⟨_, _, _, rfl, rfl, (by have := HSZd.out; have := HSZ36.out; have := HSZ42.out; have := HSZ43.out; have := HSZ44.out; omega), rfl, rfl, HR44.out, HX44.out, HY44.out⟩ ?_
          kernel_rfl
    rintro u wq ⟨b11, b12, F', h11, h12, hne, h56, h59, hR, hT1, hT2⟩
    simp only [setAll, List.setIfInBounds_toArray, List.set_cons_zero, List.set_cons_succ]
    unfold valTell valT at h56 h59
    rw [h11, h12, h56, h59]
    have HNE := hid hne
    have HRs := hid hR
    have HXs := hid hT1
    have HYs := hid hT2
    clear hR hT1 hT2 h11 h12 h56 h59 hne HRG
    refine wpOp_step (i := 8) rfl (fun K' hK => ?_)
    have hx1 := HXs.out.blk
    unfold lT at hx1
    obtain ⟨zz, x0, x1, x2, x3, x4, x5, x6, x7, x8, x9, xa, xb, xc, xf⟩ := Blk.thirteen hx1
    clear hx1
    go_simp
    obtain ⟨wq1, hw⟩ : ∃ V, putT wq (b11) ta = V := ⟨_, rfl⟩
    have hkp : Keep (fun j => j = b11) wq wq1 := by rw [← hw]; exact putT_keep _ _ _
    have HRs1 := hid (HRs.out.put HXs.out hkp)
    have HXs1 : Hid (Tb wq1 F' F2 (w.heap.size + 1 + 1 + 1) (b11) (cellsT ta.a ta.is ta.e ta.n)) := by rw [← hw]; exact HXs.out.told ta
    have HYs1 := hid (HYs.out.put hkp HNE.out.symm)
    unfold putT at hw
    rw [hw]
    refine hK _ _ ?_
    clear hK hw hkp zz x0 x1 x2 x3 x4 x5 x6 x7 x8 x9 xa xb xc xf
    refine wpOp_step (i := 9) rfl (fun K' hK => ?_)
    have hx2 := HYs1.out.blk
    unfold lT at hx2
    obtain ⟨zz, x0, x1, x2, x3, x4, x5, x6, x7, x8, x9, xa, xb, xc, xf⟩ := Blk.thirteen hx2
    clear hx2
    go_simp
    obtain ⟨wr, hw⟩ : ∃ V, putT wq1 (b12) tb = V := ⟨_, rfl⟩
    have hkp : Keep (fun j => j = b12) wq1 wr := by rw [← hw]; exact putT_keep _ _ _
    have HRs2 := hid (HRs1.out.put HYs1.out hkp)
    have HYs2 : Hid (Tb wr F' F2 (w.heap.size + 1 + 1 + 1) (b12) (cellsT tb.a tb.is tb.e tb.n)) := by rw [← hw]; exact HYs1.out.told tb
    have HXs2 := hid (HXs1.out.put hkp HNE.out)
    unfold putT at hw
    rw [hw]
    refine hK _ _ ?_
    clear hK hw hkp zz x0 x1 x2 x3 x4 x5 x6 x7 x8 x9 xa xb xc xf
    have HR1 := hid (HRs2.out.flip wr (Nat.le_refl _))
    have HT1 := hid HXs2.out.flip
    have HT2 := hid HYs2.out.flip
    have hlt1 := HT1.out.blk.lt
    have hlt2 := HT2.out.blk.lt
    go_wp2
    refine Pop2.wp_region_meet (S := fun V => Blk V (w.heap.size + 1) (cellsO o) 29 ∧ Blk V (w.heap.size + 1 + 1) (cellsO p) 29) [13, 14, 60, 61, 62, 63, 64, 65] (fun u W => ∃ (bX bY : Nat) (G' : Nat → Prop), u 13 = .pointer (some ⟨bX, 0, none⟩) ∧ u 14 = .pointer (some ⟨bY, 0, none⟩) ∧ bX ≠ bY ∧ b11 ≠ bX ∧ b11 ≠ bY ∧ b12 ≠ bX ∧ b12 ≠ bY ∧ u 62 = valTell tb ∧ u 65 = valTell ta ∧ Rg w wr W (w.heap.size + 1) (w.heap.size + 1 + 1) (w.heap.size + 1 + 1 + 1) o p (.pointer (some ⟨by', 0, none⟩)) most Lx G' (.pointer (some ⟨bx, 0, none⟩)) Lx F' ∧ Tb W G' F' (w.heap.size + 1 + 1 + 1) bX lT ∧ Tb W G' F' (w.heap.size + 1 + 1 + 1) bY lT ∧ Tb W G' F' (w.heap.size + 1 + 1 + 1) b11 (cellsT ta.a ta.is ta.e ta.n) ∧ Tb W G' F' (w.heap.size + 1 + 1 + 1) b12 (cellsT tb.a tb.is tb.e tb.n)) 8 (by kernel_rfl) (by kernel_rfl) (by kernel_rfl) (by kernel_rfl) ?_ ?_
    · skip
      obtain ⟨wd45, hwd45⟩ : ∃ V, wr.drew = V := ⟨_, rfl⟩
      change wpAnyH _ _ _ _ _ _ _ _ wr.drew
      have hkd : Keep No wr wd45 := by rw [← hwd45]; exact (Keep.refl _ _).drew
      have HRa46 := hid (HR1.out.go hkd)
      have HE47 := hid (HT1.out.go hkd)
      have HE48 := hid (HT2.out.go hkd)
      have HSZd : Hid (wd45.heap.size = wr.heap.size) := by rw [← hwd45]; rfl
      rw [hwd45]
      have hS0 : Blk wd45 (w.heap.size + 1) (cellsO o) 29 ∧ Blk wd45 (w.heap.size + 1 + 1) (cellsO p) 29 := ⟨HRa46.out.so, HRa46.out.sp⟩
      clear hwd45 hkd
      refine wpAnyH_take (i := 0) (v := ?_) rfl (by kernel_rfl) (by kernel_rfl) (by kernel_rfl) (fun _ _ _ h => h) (Or.inl ⟨by rfl, ?_⟩) (hS0) ?_
      rotate_left
      · (intro w hSw; obtain ⟨p0, p1, p2, p3, p4, p5, p6, p7, k0, k1, k2, k3, k4, k5, k6, k7⟩ := cells16 hSw; go_simp; try with_reducible rfl)
      simp only [Act.put, List.getElem_toArray, List.getElem_cons_zero, List.getElem_cons_succ, List.setIfInBounds_toArray, List.set_cons_zero, List.set_cons_succ]
      refine wpAnyH_take (i := 1) (v := ?_) rfl (by kernel_rfl) (by kernel_rfl) (by kernel_rfl) (fun _ _ _ h => h) (Or.inl ⟨by rfl, ?_⟩) (hS0) ?_
      rotate_left
      · (intro w hSw; obtain ⟨p0, p1, p2, p3, p4, p5, p6, p7, k0, k1, k2, k3, k4, k5, k6, k7⟩ := cells16 hSw; go_simp; try with_reducible rfl)
      simp only [Act.put, List.getElem_toArray, List.getElem_cons_zero, List.getElem_cons_succ, List.setIfInBounds_toArray, List.set_cons_zero, List.set_cons_succ]
      refine wpAnyH_take (i := 3) (v := ?_) rfl (by kernel_rfl) (by kernel_rfl) (by kernel_rfl) (fun _ _ _ h => h) (Or.inl ⟨by rfl, ?_⟩) (hS0) ?_
      rotate_left
      · (intro w hSw; obtain ⟨p0, p1, p2, p3, p4, p5, p6, p7, k0, k1, k2, k3, k4, k5, k6, k7⟩ := cells16 hSw; go_simp; try with_reducible rfl)
      simp only [Act.put, List.getElem_toArray, List.getElem_cons_zero, List.getElem_cons_succ, List.setIfInBounds_toArray, List.set_cons_zero, List.set_cons_succ]
      refine wpAnyH_take (i := 4) (v := ?_) rfl (by kernel_rfl) (by kernel_rfl) (by kernel_rfl) (fun _ _ _ h => h) (Or.inl ⟨by rfl, ?_⟩) (hS0) ?_
      rotate_left
      · (intro w hSw; obtain ⟨p0, p1, p2, p3, p4, p5, p6, p7, k0, k1, k2, k3, k4, k5, k6, k7⟩ := cells16 hSw; go_simp; try with_reducible rfl)
      simp only [Act.put, List.getElem_toArray, List.getElem_cons_zero, List.getElem_cons_succ, List.setIfInBounds_toArray, List.set_cons_zero, List.set_cons_succ]
      clear hS0
      refine wpAnyH_ready (rs := [2, 6, 7]) (by kernel_rfl) (by simp) (AllReadyH.cons (i := 2) rfl (fun K' hK => ?_) (AllReadyH.cons (i := 6) rfl (fun K' hK => ?_) (AllReadyH.cons (i := 7) rfl (fun K' hK => ?_) AllReadyH.nil)))
      · skip
        go_simp
        refine (HDB.out _ _ HRa46.out.hx).mono ?_
        rintro e w49 ⟨rfl, hT⟩
        obtain ⟨F49, hR, hF, hk⟩ := HRa46.out.call hT
        have HSZ49 : Hid (wd45.heap.size ≤ w49.heap.size) := hk.size
        have HR49 := hid hR
        have HE50 := hid (HE47.out.call hk hF)
        have HE51 := hid (HE48.out.call hk hF)
        refine hK.out _ _ ⟨HR49.out.so, HR49.out.sp⟩ (fun _ => ?_)
        clear hK hT hR hF hk
        refine wpAnyH_ready (rs := [5, 6, 7]) (by kernel_rfl) (by simp) (AllReadyH.cons (i := 5) rfl (fun K' hK => ?_) (AllReadyH.cons (i := 6) rfl (fun K' hK => ?_) (AllReadyH.cons (i := 7) rfl (fun K' hK => ?_) AllReadyH.nil)))
        · skip
          go_simp
          refine (HDA.out _ _ HR49.out.hx).mono ?_
          rintro e w52 ⟨rfl, hT⟩
          obtain ⟨F52, hR, hF, hk⟩ := HR49.out.call hT
          have HSZ52 : Hid (w49.heap.size ≤ w52.heap.size) := hk.size
          have HR52 := hid hR
          have HE53 := hid (HE50.out.call hk hF)
          have HE54 := hid (HE51.out.call hk hF)
          refine hK.out _ _ ⟨HR52.out.so, HR52.out.sp⟩ (fun _ => ?_)
          clear hK hT hR hF hk
          refine wpAnyH_ready (rs := [6, 7]) (by kernel_rfl) (by simp) (AllReadyH.cons (i := 6) rfl (fun K' hK => ?_) (AllReadyH.cons (i := 7) rfl (fun K' hK => ?_) AllReadyH.nil))
          · skip
            go_simp
            obtain ⟨w55, hw⟩ : ∃ V, w52.alloc (.cells #[.int .u64 0, .int .u64 0, .int .u64 0, .int .u8 0, .int .u64 0, .int .u64 0, .int .u64 0, .int .u8 0, .bool false, .bool false, .int .i64 0, .int .i64 0, .int .i64 0] 36) = V := ⟨_, rfl⟩
            have hka : Keep No w52 w55 := by rw [← hw]; exact (Keep.refl _ _).alloc _
            have HR55 := hid (HR52.out.go hka)
            have HE56 := hid (HE53.out.go hka)
            have HE57 := hid (HE54.out.go hka)
            have HX55 : Hid (Tb w55 F52 F' (w.heap.size + 1 + 1 + 1) w52.heap.size lT) := by rw [← hw]; exact HR52.out.new rfl
            have HSZ55 : Hid (w55.heap.size = w52.heap.size + 1) := by rw [← hw]; show _ = _; simp
            rw [hw]
            refine hK.out _ _ ⟨HR55.out.so, HR55.out.sp⟩ (fun _ => ?_)
            clear hK hw hka
            refine wpAnyH_ready (rs := [7]) (by kernel_rfl) (by simp) (AllReadyH.cons (i := 7) rfl (fun K' hK => ?_) AllReadyH.nil)
            go_simp
            obtain ⟨w58, hw⟩ : ∃ V, w55.alloc (.cells #[.int .u64 0, .int .u64 0, .int .u64 0, .int .u8 0, .int .u64 0, .int .u64 0, .int .u64 0, .int .u8 0, .bool false, .bool false, .int .i64 0, .int .i64 0, .int .i64 0] 36) = V := ⟨_, rfl⟩
            have hka : Keep No w55 w58 := by rw [← hw]; exact (Keep.refl _ _).alloc _
            have HR58 := hid (HR55.out.go hka)
            have HX58 := hid (HX55.out.go hka)
            have HE59 := hid (HE56.out.go hka)
            have HE60 := hid (HE57.out.go hka)
            have HY58 : Hid (Tb w58 F52 F' (w.heap.size + 1 + 1 + 1) w55.heap.size lT) := by rw [← hw]; exact HR55.out.new rfl
            have HSZ58 : Hid (w58.heap.size = w55.heap.size + 1) := by rw [← hw]; show _ = _; simp
            rw [hw]
            refine hK.out _ _ ⟨HR58.out.so, HR58.out.sp⟩ (fun _ => ?_)
            clear hK hw hka
            refine wpAnyH_done (by kernel_rfl) ?_ _
            refine Pop2.meet_normal ⟨_, _, _, rfl, rfl, (by have := HSZd.out; have := HSZ49.out; have := HSZ52.out; have := HSZ55.out; have := HSZ58.out; omega), (by have := hlt1; have := HSZd.out; have := HSZ49.out; have := HSZ52.out; have := HSZ55.out; have := HSZ58.out; omega), (by have := hlt1; have := HSZd.out; have := HSZ49.out; have := HSZ52.out; have := HSZ55.out; have := HSZ58.out; omega), (by have := hlt2; have := HSZd.out; have := HSZ49.out; have := HSZ52.out; have := HSZ55.out; have := HSZ58.out; omega), (by have := hlt2; have := HSZd.out; have := HSZ49.out; have := HSZ52.out; have := HSZ55.out; have := HSZ58.out; omega), rfl, rfl, HR58.out, HX58.out, HY58.out, HE59.out, HE60.out⟩ ?_
            kernel_rfl
          · skip
            go_simp
            obtain ⟨w61, hw⟩ : ∃ V, w52.alloc (.cells #[.int .u64 0, .int .u64 0, .int .u64 0, .int .u8 0, .int .u64 0, .int .u64 0, .int .u64 0, .int .u8 0, .bool false, .bool false, .int .i64 0, .int .i64 0, .int .i64 0] 36) = V := ⟨_, rfl⟩
            have hka : Keep No w52 w61 := by rw [← hw]; exact (Keep.refl _ _).alloc _
            have HR61 := hid (HR52.out.go hka)
            have HE62 := hid (HE53.out.go hka)
            have HE63 := hid (HE54.out.go hka)
            have HY61 : Hid (Tb w61 F52 F' (w.heap.size + 1 + 1 + 1) w52.heap.size lT) := by rw [← hw]; exact HR52.out.new rfl
            have HSZ61 : Hid (w61.heap.size = w52.heap.size + 1) := by rw [← hw]; show _ = _; simp
            rw [hw]
            refine hK.out _ _ ⟨HR61.out.so, HR61.out.sp⟩ (fun _ => ?_)
            clear hK hw hka
            refine wpAnyH_ready (rs := [6]) (by kernel_rfl) (by simp) (AllReadyH.cons (i := 6) rfl (fun K' hK => ?_) AllReadyH.nil)
            go_simp
            obtain ⟨w64, hw⟩ : ∃ V, w61.alloc (.cells #[.int .u64 0, .int .u64 0, .int .u64 0, .int .u8 0, .int .u64 0, .int .u64 0, .int .u64 0, .int .u8 0, .bool false, .bool false, .int .i64 0, .int .i64 0, .int .i64 0] 36) = V := ⟨_, rfl⟩
            have hka : Keep No w61 w64 := by rw [← hw]; exact (Keep.refl _ _).alloc _
            have HR64 := hid (HR61.out.go hka)
            have HY64 := hid (HY61.out.go hka)
            have HE65 := hid (HE62.out.go hka)
            have HE66 := hid (HE63.out.go hka)
            have HX64 : Hid (Tb w64 F52 F' (w.heap.size + 1 + 1 + 1) w61.heap.size lT) := by rw [← hw]; exact HR61.out.new rfl
            have HSZ64 : Hid (w64.heap.size = w61.heap.size + 1) := by rw [← hw]; show _ = _; simp
            rw [hw]
            refine hK.out _ _ ⟨HR64.out.so, HR64.out.sp⟩ (fun _ => ?_)
            clear hK hw hka
            refine wpAnyH_done (by kernel_rfl) ?_ _
            refine Pop2.meet_normal ⟨_, _, _, rfl, rfl, (by have := HSZd.out; have := HSZ49.out; have := HSZ52.out; have := HSZ61.out; have := HSZ64.out; omega), (by have := hlt1; have := HSZd.out; have := HSZ49.out; have := HSZ52.out; have := HSZ61.out; have := HSZ64.out; omega), (by have := hlt1; have := HSZd.out; have := HSZ49.out; have := HSZ52.out; have := HSZ61.out; have := HSZ64.out; omega), (by have := hlt2; have := HSZd.out; have := HSZ49.out; have := HSZ52.out; have := HSZ61.out; have := HSZ64.out; omega), (by have := hlt2; have := HSZd.out; have := HSZ49.out; have := HSZ52.out; have := HSZ61.out; have := HSZ64.out; omega), rfl, rfl, HR64.out, HX64.out, HY64.out, HE65.out, HE66.out⟩ ?_
            kernel_rfl
        · skip
          go_simp
          obtain ⟨w67, hw⟩ : ∃ V, w49.alloc (.cells #[.int .u64 0, .int .u64 0, .int .u64 0, .int .u8 0, .int .u64 0, .int .u64 0, .int .u64 0, .int .u8 0, .bool false, .bool false, .int .i64 0, .int .i64 0, .int .i64 0] 36) = V := ⟨_, rfl⟩
          have hka : Keep No w49 w67 := by rw [← hw]; exact (Keep.refl _ _).alloc _
          have HR67 := hid (HR49.out.go hka)
          have HE68 := hid (HE50.out.go hka)
          have HE69 := hid (HE51.out.go hka)
          have HX67 : Hid (Tb w67 F49 F' (w.heap.size + 1 + 1 + 1) w49.heap.size lT) := by rw [← hw]; exact HR49.out.new rfl
          have HSZ67 : Hid (w67.heap.size = w49.heap.size + 1) := by rw [← hw]; show _ = _; simp
          rw [hw]
          refine hK.out _ _ ⟨HR67.out.so, HR67.out.sp⟩ (fun _ => ?_)
          clear hK hw hka
          refine wpAnyH_ready (rs := [5, 7]) (by kernel_rfl) (by simp) (AllReadyH.cons (i := 5) rfl (fun K' hK => ?_) (AllReadyH.cons (i := 7) rfl (fun K' hK => ?_) AllReadyH.nil))
          · skip
            go_simp
            refine (HDA.out _ _ HR67.out.hx).mono ?_
            rintro e w70 ⟨rfl, hT⟩
            obtain ⟨F70, hR, hF, hk⟩ := HR67.out.call hT
            have HSZ70 : Hid (w67.heap.size ≤ w70.heap.size) := hk.size
            have HR70 := hid hR
            have HX70 := hid (HX67.out.call hk hF)
            have HE71 := hid (HE68.out.call hk hF)
            have HE72 := hid (HE69.out.call hk hF)
            refine hK.out _ _ ⟨HR70.out.so, HR70.out.sp⟩ (fun _ => ?_)
            clear hK hT hR hF hk
            refine wpAnyH_ready (rs := [7]) (by kernel_rfl) (by simp) (AllReadyH.cons (i := 7) rfl (fun K' hK => ?_) AllReadyH.nil)
            go_simp
            obtain ⟨w73, hw⟩ : ∃ V, w70.alloc (.cells #[.int .u64 0, .int .u64 0, .int .u64 0, .int .u8 0, .int .u64 0, .int .u64 0, .int .u64 0, .int .u8 0, .bool false, .bool false, .int .i64 0, .int .i64 0, .int .i64 0] 36) = V := ⟨_, rfl⟩
            have hka : Keep No w70 w73 := by rw [← hw]; exact (Keep.refl _ _).alloc _
            have HR73 := hid (HR70.out.go hka)
            have HX73 := hid (HX70.out.go hka)
            have HE74 := hid (HE71.out.go hka)
            have HE75 := hid (HE72.out.go hka)
            have HY73 : Hid (Tb w73 F70 F' (w.heap.size + 1 + 1 + 1) w70.heap.size lT) := by rw [← hw]; exact HR70.out.new rfl
            have HSZ73 : Hid (w73.heap.size = w70.heap.size + 1) := by rw [← hw]; show _ = _; simp
            rw [hw]
            refine hK.out _ _ ⟨HR73.out.so, HR73.out.sp⟩ (fun _ => ?_)
            clear hK hw hka
            refine wpAnyH_done (by kernel_rfl) ?_ _
            refine Pop2.meet_normal ⟨_, _, _, rfl, rfl, (by have := HSZd.out; have := HSZ49.out; have := HSZ67.out; have := HSZ70.out; have := HSZ73.out; omega), (by have := hlt1; have := HSZd.out; have := HSZ49.out; have := HSZ67.out; have := HSZ70.out; have := HSZ73.out; omega), (by have := hlt1; have := HSZd.out; have := HSZ49.out; have := HSZ67.out; have := HSZ70.out; have := HSZ73.out; omega), (by have := hlt2; have := HSZd.out; have := HSZ49.out; have := HSZ67.out; have := HSZ70.out; have := HSZ73.out; omega), (by have := hlt2; have := HSZd.out; have := HSZ49.out; have := HSZ67.out; have := HSZ70.out; have := HSZ73.out; omega), rfl, rfl, HR73.out, HX73.out, HY73.out, HE74.out, HE75.out⟩ ?_
            kernel_rfl
          · skip
            go_simp
            obtain ⟨w76, hw⟩ : ∃ V, w67.alloc (.cells #[.int .u64 0, .int .u64 0, .int .u64 0, .int .u8 0, .int .u64 0, .int .u64 0, .int .u64 0, .int .u8 0, .bool false, .bool false, .int .i64 0, .int .i64 0, .int .i64 0] 36) = V := ⟨_, rfl⟩
            have hka : Keep No w67 w76 := by rw [← hw]; exact (Keep.refl _ _).alloc _
            have HR76 := hid (HR67.out.go hka)
            have HX76 := hid (HX67.out.go hka)
            have HE77 := hid (HE68.out.go hka)
            have HE78 := hid (HE69.out.go hka)
            have HY76 : Hid (Tb w76 F49 F' (w.heap.size + 1 + 1 + 1) w67.heap.size lT) := by rw [← hw]; exact HR67.out.new rfl
            have HSZ76 : Hid (w76.heap.size = w67.heap.size + 1) := by rw [← hw]; show _ = _; simp
            rw [hw]
            refine hK.out _ _ ⟨HR76.out.so, HR76.out.sp⟩ (fun _ => ?_)
            clear hK hw hka
            refine wpAnyH_ready (rs := [5]) (by kernel_rfl) (by simp) (AllReadyH.cons (i := 5) rfl (fun K' hK => ?_) AllReadyH.nil)
            go_simp
            refine (HDA.out _ _ HR76.out.hx).mono ?_
            rintro e w79 ⟨rfl, hT⟩
            obtain ⟨F79, hR, hF, hk⟩ := HR76.out.call hT
            have HSZ79 : Hid (w76.heap.size ≤ w79.heap.size) := hk.size
            have HR79 := hid hR
            have HX79 := hid (HX76.out.call hk hF)
            have HY79 := hid (HY76.out.call hk hF)
            have HE80 := hid (HE77.out.call hk hF)
            have HE81 := hid (HE78.out.call hk hF)
            refine hK.out _ _ ⟨HR79.out.so, HR79.out.sp⟩ (fun _ => ?_)
            clear hK hT hR hF hk
            refine wpAnyH_done (by kernel_rfl) ?_ _
            refine Pop2.meet_normal ⟨_, _, _, rfl, rfl, (by have := HSZd.out; have := HSZ49.out; have := HSZ67.out; have := HSZ76.out; have := HSZ79.out; omega), (by have := hlt1; have := HSZd.out; have := HSZ49.out; have := HSZ67.out; have := HSZ76.out; have := HSZ79.out; omega), (by have := hlt1; have := HSZd.out; have := HSZ49.out; have := HSZ67.out; have := HSZ76.out; have := HSZ79.out; omega), (by have := hlt2; have := HSZd.out; have := HSZ49.out; have := HSZ67.out; have := HSZ76.out; have := HSZ79.out; omega), (by have := hlt2; have := HSZd.out; have := HSZ49.out; have := HSZ67.out; have := HSZ76.out; have := HSZ79.out; omega), rfl, rfl, HR79.out, HX79.out, HY79.out, HE80.out, HE81.out⟩ ?_
            kernel_rfl
        · skip
          go_simp
          obtain ⟨w82, hw⟩ : ∃ V, w49.alloc (.cells #[.int .u64 0, .int .u64 0, .int .u64 0, .int .u8 0, .int .u64 0, .int .u64 0, .int .u64 0, .int .u8 0, .bool false, .bool false, .int .i64 0, .int .i64 0, .int .i64 0] 36) = V := ⟨_, rfl⟩
          have hka : Keep No w49 w82 := by rw [← hw]; exact (Keep.refl _ _).alloc _
          have HR82 := hid (HR49.out.go hka)
          have HE83 := hid (HE50.out.go hka)
          have HE84 := hid (HE51.out.go hka)
          have HY82 : Hid (Tb w82 F49 F' (w.heap.size + 1 + 1 + 1) w49.heap.size lT) := by rw [← hw]; exact HR49.out.new rfl
          have HSZ82 : Hid (w82.heap.size = w49.heap.size + 1) := by rw [← hw]; show _ = _; simp
          rw [hw]
          refine hK.out _ _ ⟨HR82.out.so, HR82.out.sp⟩ (fun _ => ?_)
          clear hK hw hka
          refine wpAnyH_ready (rs := [5, 6]) (by kernel_rfl) (by simp) (AllReadyH.cons (i := 5) rfl (fun K' hK => ?_) (AllReadyH.cons (i := 6) rfl (fun K' hK => ?_) AllReadyH.nil))
          · skip
            go_simp
            refine (HDA.out _ _ HR82.out.hx).mono ?_
            rintro e w85 ⟨rfl, hT⟩
            obtain ⟨F85, hR, hF, hk⟩ := HR82.out.call hT
            have HSZ85 : Hid (w82.heap.size ≤ w85.heap.size) := hk.size
            have HR85 := hid hR
            have HY85 := hid (HY82.out.call hk hF)
            have HE86 := hid (HE83.out.call hk hF)
            have HE87 := hid (HE84.out.call hk hF)
            refine hK.out _ _ ⟨HR85.out.so, HR85.out.sp⟩ (fun _ => ?_)
            clear hK hT hR hF hk
            refine wpAnyH_ready (rs := [6]) (by kernel_rfl) (by simp) (AllReadyH.cons (i := 6) rfl (fun K' hK => ?_) AllReadyH.nil)
            go_simp
            obtain ⟨w88, hw⟩ : ∃ V, w85.alloc (.cells #[.int .u64 0, .int .u64 0, .int .u64 0, .int .u8 0, .int .u64 0, .int .u64 0, .int .u64 0, .int .u8 0, .bool false, .bool false, .int .i64 0, .int .i64 0, .int .i64 0] 36) = V := ⟨_, rfl⟩
            have hka : Keep No w85 w88 := by rw [← hw]; exact (Keep.refl _ _).alloc _
            have HR88 := hid (HR85.out.go hka)
            have HY88 := hid (HY85.out.go hka)
            have HE89 := hid (HE86.out.go hka)
            have HE90 := hid (HE87.out.go hka)
            have HX88 : Hid (Tb w88 F85 F' (w.heap.size + 1 + 1 + 1) w85.heap.size lT) := by rw [← hw]; exact HR85.out.new rfl
            have HSZ88 : Hid (w88.heap.size = w85.heap.size + 1) := by rw [← hw]; show _ = _; simp
            rw [hw]
            refine hK.out _ _ ⟨HR88.out.so, HR88.out.sp⟩ (fun _ => ?_)
            clear hK hw hka
            refine wpAnyH_done (by kernel_rfl) ?_ _
            refine Pop2.meet_normal ⟨_, _, _, rfl, rfl, (by have := HSZd.out; have := HSZ49.out; have := HSZ82.out; have := HSZ85.out; have := HSZ88.out; omega), (by have := hlt1; have := HSZd.out; have := HSZ49.out; have := HSZ82.out; have := HSZ85.out; have := HSZ88.out; omega), (by have := hlt1; have := HSZd.out; have := HSZ49.out; have := HSZ82.out; have := HSZ85.out; have := HSZ88.out; omega), (by have := hlt2; have := HSZd.out; have := HSZ49.out; have := HSZ82.out; have := HSZ85.out; have := HSZ88.out; omega), (by have := hlt2; have := HSZd.out; have := HSZ49.out; have := HSZ82.out; have := HSZ85.out; have := HSZ88.out; omega), rfl, rfl, HR88.out, HX88.out, HY88.out, HE89.out, HE90.out⟩ ?_
            kernel_rfl
          · skip
            go_simp
            obtain ⟨w91, hw⟩ : ∃ V, w82.alloc (.cells #[.int .u64 0, .int .u64 0, .int .u64 0, .int .u8 0, .int .u64 0, .int .u64 0, .int .u64 0, .int .u8 0, .bool false, .bool false, .int .i64 0, .int .i64 0, .int .i64 0] 36) = V := ⟨_, rfl⟩
            have hka : Keep No w82 w91 := by rw [← hw]; exact (Keep.refl _ _).alloc _
            have HR91 := hid (HR82.out.go hka)
            have HY91 := hid (HY82.out.go hka)
            have HE92 := hid (HE83.out.go hka)
            have HE93 := hid (HE84.out.go hka)
            have HX91 : Hid (Tb w91 F49 F' (w.heap.size + 1 + 1 + 1) w82.heap.size lT) := by rw [← hw]; exact HR82.out.new rfl
            have HSZ91 : Hid (w91.heap.size = w82.heap.size + 1) := by rw [← hw]; show _ = _; simp
            rw [hw]
            refine hK.out _ _ ⟨HR91.out.so, HR91.out.sp⟩ (fun _ => ?_)
            clear hK hw hka
            refine wpAnyH_ready (rs := [5]) (by kernel_rfl) (by simp) (AllReadyH.cons (i := 5) rfl (fun K' hK => ?_) AllReadyH.nil)
            go_simp
            refine (HDA.out _ _ HR91.out.hx).mono ?_
            rintro e w94 ⟨rfl, hT⟩
            obtain ⟨F94, hR, hF, hk⟩ := HR91.out.call hT
            have HSZ94 : Hid (w91.heap.size ≤ w94.heap.size) := hk.size
            have HR94 := hid hR
            have HX94 := hid (HX91.out.call hk hF)
            have HY94 := hid (HY91.out.call hk hF)
            have HE95 := hid (HE92.out.call hk hF)
            have HE96 := hid (HE93.out.call hk hF)
            refine hK.out _ _ ⟨HR94.out.so, HR94.out.sp⟩ (fun _ => ?_)
            clear hK hT hR hF hk
            refine wpAnyH_done (by kernel_rfl) ?_ _
            refine Pop2.meet_normal ⟨_, _, _, rfl, rfl, (by have := HSZd.out; have := HSZ49.out; have := HSZ82.out; have := HSZ91.out; have := HSZ94.out; omega), (by have := hlt1; have := HSZd.out; have := HSZ49.out; have := HSZ82.out; have := HSZ91.out; have := HSZ94.out; omega), (by have := hlt1; have := HSZd.out; have := HSZ49.out; have := HSZ82.out; have := HSZ91.out; have := HSZ94.out; omega), (by have := hlt2; have := HSZd.out; have := HSZ49.out; have := HSZ82.out; have := HSZ91.out; have := HSZ94.out; omega), (by have := hlt2; have := HSZd.out; have := HSZ49.out; have := HSZ82.out; have := HSZ91.out; have := HSZ94.out; omega), rfl, rfl, HR94.out, HX94.out, HY94.out, HE95.out, HE96.out⟩ ?_
            kernel_rfl
      · skip
        go_simp
        obtain ⟨w97, hw⟩ : ∃ V, wd45.alloc (.cells #[.int .u64 0, .int .u64 0, .int .u64 0, .int .u8 0, .int .u64 0, .int .u64 0, .int .u64 0, .int .u8 0, .bool false, .bool false, .int .i64 0, .int .i64 0, .int .i64 0] 36) = V := ⟨_, rfl⟩
        have hka : Keep No wd45 w97 := by rw [← hw]; exact (Keep.refl _ _).alloc _
        have HR97 := hid (HRa46.out.go hka)
        have HE98 := hid (HE47.out.go hka)
        have HE99 := hid (HE48.out.go hka)
        have HX97 : Hid (Tb w97 F2 F' (w.heap.size + 1 + 1 + 1) wd45.heap.size lT) := by rw [← hw]; exact HRa46.out.new rfl
        have HSZ97 : Hid (w97.heap.size = wd45.heap.size + 1) := by rw [← hw]; show _ = _; simp
        rw [hw]
        refine hK.out _ _ ⟨HR97.out.so, HR97.out.sp⟩ (fun _ => ?_)
        clear hK hw hka
        refine wpAnyH_ready (rs := [2, 7]) (by kernel_rfl) (by simp) (AllReadyH.cons (i := 2) rfl (fun K' hK => ?_) (AllReadyH.cons (i := 7) rfl (fun K' hK => ?_) AllReadyH.nil))
        · skip
          go_simp
          refine (HDB.out _ _ HR97.out.hx).mono ?_
          rintro e w100 ⟨rfl, hT⟩
          obtain ⟨F100, hR, hF, hk⟩ := HR97.out.call hT
          have HSZ100 : Hid (w97.heap.size ≤ w100.heap.size) := hk.size
          have HR100 := hid hR
          have HX100 := hid (HX97.out.call hk hF)
          have HE101 := hid (HE98.out.call hk hF)
          have HE102 := hid (HE99.out.call hk hF)
          refine hK.out _ _ ⟨HR100.out.so, HR100.out.sp⟩ (fun _ => ?_)
          clear hK hT hR hF hk
          refine wpAnyH_ready (rs := [5, 7]) (by kernel_rfl) (by simp) (AllReadyH.cons (i := 5) rfl (fun K' hK => ?_) (AllReadyH.cons (i := 7) rfl (fun K' hK => ?_) AllReadyH.nil))
          · skip
            go_simp
            refine (HDA.out _ _ HR100.out.hx).mono ?_
            rintro e w103 ⟨rfl, hT⟩
            obtain ⟨F103, hR, hF, hk⟩ := HR100.out.call hT
            have HSZ103 : Hid (w100.heap.size ≤ w103.heap.size) := hk.size
            have HR103 := hid hR
            have HX103 := hid (HX100.out.call hk hF)
            have HE104 := hid (HE101.out.call hk hF)
            have HE105 := hid (HE102.out.call hk hF)
            refine hK.out _ _ ⟨HR103.out.so, HR103.out.sp⟩ (fun _ => ?_)
            clear hK hT hR hF hk
            refine wpAnyH_ready (rs := [7]) (by kernel_rfl) (by simp) (AllReadyH.cons (i := 7) rfl (fun K' hK => ?_) AllReadyH.nil)
            go_simp
            obtain ⟨w106, hw⟩ : ∃ V, w103.alloc (.cells #[.int .u64 0, .int .u64 0, .int .u64 0, .int .u8 0, .int .u64 0, .int .u64 0, .int .u64 0, .int .u8 0, .bool false, .bool false, .int .i64 0, .int .i64 0, .int .i64 0] 36) = V := ⟨_, rfl⟩
            have hka : Keep No w103 w106 := by rw [← hw]; exact (Keep.refl _ _).alloc _
            have HR106 := hid (HR103.out.go hka)
            have HX106 := hid (HX103.out.go hka)
            have HE107 := hid (HE104.out.go hka)
            have HE108 := hid (HE105.out.go hka)
            have HY106 : Hid (Tb w106 F103 F' (w.heap.size + 1 + 1 + 1) w103.heap.size lT) := by rw [← hw]; exact HR103.out.new rfl
            have HSZ106 : Hid (w106.heap.size = w103.heap.size + 1) := by rw [← hw]; show _ = _; simp
            rw [hw]
            refine hK.out _ _ ⟨HR106.out.so, HR106.out.sp⟩ (fun _ => ?_)
            clear hK hw hka
            refine wpAnyH_done (by kernel_rfl) ?_ _
            refine Pop2.meet_normal ⟨_, _, _, rfl, rfl, (by have := HSZd.out; have := HSZ97.out; have := HSZ100.out; have := HSZ103.out; have := HSZ106.out; omega), (by have := hlt1; have := HSZd.out; have := HSZ97.out; have := HSZ100.out; have := HSZ103.out; have := HSZ106.out; omega), (by have := hlt1; have := HSZd.out; have := HSZ97.out; have := HSZ100.out; have := HSZ103.out; have := HSZ106.out; omega), (by have := hlt2; have := HSZd.out; have := HSZ97.out; have := HSZ100.out; have := HSZ103.out; have := HSZ106.out; omega), (by have := hlt2; have := HSZd.out; have := HSZ97.out; have := HSZ100.out; have := HSZ103.out; have := HSZ106.out; omega), rfl, rfl, HR106.out, HX106.out, HY106.out, HE107.out, HE108.out⟩ ?_
            kernel_rfl
          · skip
            go_simp
            obtain ⟨w109, hw⟩ : ∃ V, w100.alloc (.cells #[.int .u64 0, .int .u64 0, .int .u64 0, .int .u8 0, .int .u64 0, .int .u64 0, .int .u64 0, .int .u8 0, .bool false, .bool false, .int .i64 0, .int .i64 0, .int .i64 0] 36) = V := ⟨_, rfl⟩
            have hka : Keep No w100 w109 := by rw [← hw]; exact (Keep.refl _ _).alloc _
            have HR109 := hid (HR100.out.go hka)
            have HX109 := hid (HX100.out.go hka)
            have HE110 := hid (HE101.out.go hka)
            have HE111 := hid (HE102.out.go hka)
            have HY109 : Hid (Tb w109 F100 F' (w.heap.size + 1 + 1 + 1) w100.heap.size lT) := by rw [← hw]; exact HR100.out.new rfl
            have HSZ109 : Hid (w109.heap.size = w100.heap.size + 1) := by rw [← hw]; show _ = _; simp
            rw [hw]
            refine hK.out _ _ ⟨HR109.out.so, HR109.out.sp⟩ (fun _ => ?_)
            clear hK hw hka
            refine wpAnyH_ready (rs := [5]) (by kernel_rfl) (by simp) (AllReadyH.cons (i := 5) rfl (fun K' hK => ?_) AllReadyH.nil)
            go_simp
            refine (HDA.out _ _ HR109.out.hx).mono ?_
            rintro e w112 ⟨rfl, hT⟩
            obtain ⟨F112, hR, hF, hk⟩ := HR109.out.call hT
            have HSZ112 : Hid (w109.heap.size ≤ w112.heap.size) := hk.size
            have HR112 := hid hR
            have HX112 := hid (HX109.out.call hk hF)
            have HY112 := hid (HY109.out.call hk hF)
            have HE113 := hid (HE110.out.call hk hF)
            have HE114 := hid (HE111.out.call hk hF)
            refine hK.out _ _ ⟨HR112.out.so, HR112.out.sp⟩ (fun _ => ?_)
            clear hK hT hR hF hk
            refine wpAnyH_done (by kernel_rfl) ?_ _
            refine Pop2.meet_normal ⟨_, _, _, rfl, rfl, (by have := HSZd.out; have := HSZ97.out; have := HSZ100.out; have := HSZ109.out; have := HSZ112.out; omega), (by have := hlt1; have := HSZd.out; have := HSZ97.out; have := HSZ100.out; have := HSZ109.out; have := HSZ112.out; omega), (by have := hlt1; have := HSZd.out; have := HSZ97.out; have := HSZ100.out; have := HSZ109.out; have := HSZ112.out; omega), (by have := hlt2; have := HSZd.out; have := HSZ97.out; have := HSZ100.out; have := HSZ109.out; have := HSZ112.out; omega), (by have := hlt2; have := HSZd.out; have := HSZ97.out; have := HSZ100.out; have := HSZ109.out; have := HSZ112.out; omega), rfl, rfl, HR112.out, HX112.out, HY112.out, HE113.out, HE114.out⟩ ?_
            kernel_rfl
        · skip
          go_simp
          obtain ⟨w115, hw⟩ : ∃ V, w97.alloc (.cells #[.int .u64 0, .int .u64 0, .int .u64 0, .int .u8 0, .int .u64 0, .int .u64 0, .int .u64 0, .int .u8 0, .bool false, .bool false, .int .i64 0, .int .i64 0, .int .i64 0] 36) = V := ⟨_, rfl⟩
          have hka : Keep No w97 w115 := by rw [← hw]; exact (Keep.refl _ _).alloc _
          have HR115 := hid (HR97.out.go hka)
          have HX115 := hid (HX97.out.go hka)
          have HE116 := hid (HE98.out.go hka)
          have HE117 := hid (HE99.out.go hka)
          have HY115 : Hid (Tb w115 F2 F' (w.heap.size + 1 + 1 + 1) w97.heap.size lT) := by rw [← hw]; exact HR97.out.new rfl
          have HSZ115 : Hid (w115.heap.size = w97.heap.size + 1) := by rw [← hw]; show _ = _; simp
          rw [hw]
          refine hK.out _ _ ⟨HR115.out.so, HR115.out.sp⟩ (fun _ => ?_)
          clear hK hw hka
          refine wpAnyH_ready (rs := [2]) (by kernel_rfl) (by simp) (AllReadyH.cons (i := 2) rfl (fun K' hK => ?_) AllReadyH.nil)
          go_simp
          refine (HDB.out _ _ HR115.out.hx).mono ?_
          rintro e w118 ⟨rfl, hT⟩
          obtain ⟨F118, hR, hF, hk⟩ := HR115.out.call hT
          have HSZ118 : Hid (w115.heap.size ≤ w118.heap.size) := hk.size
          have HR118 := hid hR
          have HX118 := hid (HX115.out.call hk hF)
          have HY118 := hid (HY115.out.call hk hF)
          have HE119 := hid (HE116.out.call hk hF)
          have HE120 := hid (HE117.out.call hk hF)
          refine hK.out _ _ ⟨HR118.out.so, HR118.out.sp⟩ (fun _ => ?_)
          clear hK hT hR hF hk
          refine wpAnyH_ready (rs := [5]) (by kernel_rfl) (by simp) (AllReadyH.cons (i := 5) rfl (fun K' hK => ?_) AllReadyH.nil)
          go_simp
          refine (HDA.out _ _ HR118.out.hx).mono ?_
          rintro e w121 ⟨rfl, hT⟩
          obtain ⟨F121, hR, hF, hk⟩ := HR118.out.call hT
          have HSZ121 : Hid (w118.heap.size ≤ w121.heap.size) := hk.size
          have HR121 := hid hR
          have HX121 := hid (HX118.out.call hk hF)
          have HY121 := hid (HY118.out.call hk hF)
          have HE122 := hid (HE119.out.call hk hF)
          have HE123 := hid (HE120.out.call hk hF)
          refine hK.out _ _ ⟨HR121.out.so, HR121.out.sp⟩ (fun _ => ?_)
          clear hK hT hR hF hk
          refine wpAnyH_done (by kernel_rfl) ?_ _
          refine Pop2.meet_normal ⟨_, _, _, rfl, rfl, (by have := HSZd.out; have := HSZ97.out; have := HSZ115.out; have := HSZ118.out; have := HSZ121.out; omega), (by have := hlt1; have := HSZd.out; have := HSZ97.out; have := HSZ115.out; have := HSZ118.out; have := HSZ121.out; omega), (by have := hlt1; have := HSZd.out; have := HSZ97.out; have := HSZ115.out; have := HSZ118.out; have := HSZ121.out; omega), (by have := hlt2; have := HSZd.out; have := HSZ97.out; have := HSZ115.out; have := HSZ118.out; have := HSZ121.out; omega), (by have := hlt2; have := HSZd.out; have := HSZ97.out; have := HSZ115.out; have := HSZ118.out; have := HSZ121.out; omega), rfl, rfl, HR121.out, HX121.out, HY121.out, HE122.out, HE123.out⟩ ?_
          kernel_rfl
      · skip
        go_simp
        obtain ⟨w124, hw⟩ : ∃ V, wd45.alloc (.cells #[.int .u64 0, .int .u64 0, .int .u64 0, .int .u8 0, .int .u64 0, .int .u64 0, .int .u64 0, .int .u8 0, .bool false, .bool false, .int .i64 0, .int .i64 0, .int .i64 0] 36) = V := ⟨_, rfl⟩
        have hka : Keep No wd45 w124 := by rw [← hw]; exact (Keep.refl _ _).alloc _
        have HR124 := hid (HRa46.out.go hka)
        have HE125 := hid (HE47.out.go hka)
        have HE126 := hid (HE48.out.go hka)
        have HY124 : Hid (Tb w124 F2 F' (w.heap.size + 1 + 1 + 1) wd45.heap.size lT) := by rw [← hw]; exact HRa46.out.new rfl
        have HSZ124 : Hid (w124.heap.size = wd45.heap.size + 1) := by rw [← hw]; show _ = _; simp
        rw [hw]
        refine hK.out _ _ ⟨HR124.out.so, HR124.out.sp⟩ (fun _ => ?_)
        clear hK hw hka
        refine wpAnyH_ready (rs := [2, 6]) (by kernel_rfl) (by simp) (AllReadyH.cons (i := 2) rfl (fun K' hK => ?_) (AllReadyH.cons (i := 6) rfl (fun K' hK => ?_) AllReadyH.nil))
        · skip
          go_simp
          refine (HDB.out _ _ HR124.out.hx).mono ?_
          rintro e w127 ⟨rfl, hT⟩
          obtain ⟨F127, hR, hF, hk⟩ := HR124.out.call hT
          have HSZ127 : Hid (w124.heap.size ≤ w127.heap.size) := hk.size
          have HR127 := hid hR
          have HY127 := hid (HY124.out.call hk hF)
          have HE128 := hid (HE125.out.call hk hF)
          have HE129 := hid (HE126.out.call hk hF)
          refine hK.out _ _ ⟨HR127.out.so, HR127.out.sp⟩ (fun _ => ?_)
          clear hK hT hR hF hk
          refine wpAnyH_ready (rs := [5, 6]) (by kernel_rfl) (by simp) (AllReadyH.cons (i := 5) rfl (fun K' hK => ?_) (AllReadyH.cons (i := 6) rfl (fun K' hK => ?_) AllReadyH.nil))
          · skip
            go_simp
            refine (HDA.out _ _ HR127.out.hx).mono ?_
            rintro e w130 ⟨rfl, hT⟩
            obtain ⟨F130, hR, hF, hk⟩ := HR127.out.call hT
            have HSZ130 : Hid (w127.heap.size ≤ w130.heap.size) := hk.size
            have HR130 := hid hR
            have HY130 := hid (HY127.out.call hk hF)
            have HE131 := hid (HE128.out.call hk hF)
            have HE132 := hid (HE129.out.call hk hF)
            refine hK.out _ _ ⟨HR130.out.so, HR130.out.sp⟩ (fun _ => ?_)
            clear hK hT hR hF hk
            refine wpAnyH_ready (rs := [6]) (by kernel_rfl) (by simp) (AllReadyH.cons (i := 6) rfl (fun K' hK => ?_) AllReadyH.nil)
            go_simp
            obtain ⟨w133, hw⟩ : ∃ V, w130.alloc (.cells #[.int .u64 0, .int .u64 0, .int .u64 0, .int .u8 0, .int .u64 0, .int .u64 0, .int .u64 0, .int .u8 0, .bool false, .bool false, .int .i64 0, .int .i64 0, .int .i64 0] 36) = V := ⟨_, rfl⟩
            have hka : Keep No w130 w133 := by rw [← hw]; exact (Keep.refl _ _).alloc _
            have HR133 := hid (HR130.out.go hka)
            have HY133 := hid (HY130.out.go hka)
            have HE134 := hid (HE131.out.go hka)
            have HE135 := hid (HE132.out.go hka)
            have HX133 : Hid (Tb w133 F130 F' (w.heap.size + 1 + 1 + 1) w130.heap.size lT) := by rw [← hw]; exact HR130.out.new rfl
            have HSZ133 : Hid (w133.heap.size = w130.heap.size + 1) := by rw [← hw]; show _ = _; simp
            rw [hw]
            refine hK.out _ _ ⟨HR133.out.so, HR133.out.sp⟩ (fun _ => ?_)
            clear hK hw hka
            refine wpAnyH_done (by kernel_rfl) ?_ _
            refine Pop2.meet_normal ⟨_, _, _, rfl, rfl, (by have := HSZd.out; have := HSZ124.out; have := HSZ127.out; have := HSZ130.out; have := HSZ133.out; omega), (by have := hlt1; have := HSZd.out; have := HSZ124.out; have := HSZ127.out; have := HSZ130.out; have := HSZ133.out; omega), (by have := hlt1; have := HSZd.out; have := HSZ124.out; have := HSZ127.out; have := HSZ130.out; have := HSZ133.out; omega), (by have := hlt2; have := HSZd.out; have := HSZ124.out; have := HSZ127.out; have := HSZ130.out; have := HSZ133.out; omega), (by have := hlt2; have := HSZd.out; have := HSZ124.out; have := HSZ127.out; have := HSZ130.out; have := HSZ133.out; omega), rfl, rfl, HR133.out, HX133.out, HY133.out, HE134.out, HE135.out⟩ ?_
            kernel_rfl
          · skip
            go_simp
            obtain ⟨w136, hw⟩ : ∃ V, w127.alloc (.cells #[.int .u64 0, .int .u64 0, .int .u64 0, .int .u8 0, .int .u64 0, .int .u64 0, .int .u64 0, .int .u8 0, .bool false, .bool false, .int .i64 0, .int .i64 0, .int .i64 0] 36) = V := ⟨_, rfl⟩
            have hka : Keep No w127 w136 := by rw [← hw]; exact (Keep.refl _ _).alloc _
            have HR136 := hid (HR127.out.go hka)
            have HY136 := hid (HY127.out.go hka)
            have HE137 := hid (HE128.out.go hka)
            have HE138 := hid (HE129.out.go hka)
            have HX136 : Hid (Tb w136 F127 F' (w.heap.size + 1 + 1 + 1) w127.heap.size lT) := by rw [← hw]; exact HR127.out.new rfl
            have HSZ136 : Hid (w136.heap.size = w127.heap.size + 1) := by rw [← hw]; show _ = _; simp
            rw [hw]
            refine hK.out _ _ ⟨HR136.out.so, HR136.out.sp⟩ (fun _ => ?_)
            clear hK hw hka
            refine wpAnyH_ready (rs := [5]) (by kernel_rfl) (by simp) (AllReadyH.cons (i := 5) rfl (fun K' hK => ?_) AllReadyH.nil)
            go_simp
            refine (HDA.out _ _ HR136.out.hx).mono ?_
            rintro e w139 ⟨rfl, hT⟩
            obtain ⟨F139, hR, hF, hk⟩ := HR136.out.call hT
            have HSZ139 : Hid (w136.heap.size ≤ w139.heap.size) := hk.size
            have HR139 := hid hR
            have HX139 := hid (HX136.out.call hk hF)
            have HY139 := hid (HY136.out.call hk hF)
            have HE140 := hid (HE137.out.call hk hF)
            have HE141 := hid (HE138.out.call hk hF)
            refine hK.out _ _ ⟨HR139.out.so, HR139.out.sp⟩ (fun _ => ?_)
            clear hK hT hR hF hk
            refine wpAnyH_done (by kernel_rfl) ?_ _
            refine Pop2.meet_normal ⟨_, _, _, rfl, rfl, (by have := HSZd.out; have := HSZ124.out; have := HSZ127.out; have := HSZ136.out; have := HSZ139.out; omega), (by have := hlt1; have := HSZd.out; have := HSZ124.out; have := HSZ127.out; have := HSZ136.out; have := HSZ139.out; omega), (by have := hlt1; have := HSZd.out; have := HSZ124.out; have := HSZ127.out; have := HSZ136.out; have := HSZ139.out; omega), (by have := hlt2; have := HSZd.out; have := HSZ124.out; have := HSZ127.out; have := HSZ136.out; have := HSZ139.out; omega), (by have := hlt2; have := HSZd.out; have := HSZ124.out; have := HSZ127.out; have := HSZ136.out; have := HSZ139.out; omega), rfl, rfl, HR139.out, HX139.out, HY139.out, HE140.out, HE141.out⟩ ?_
            kernel_rfl
        · skip
          go_simp
          obtain ⟨w142, hw⟩ : ∃ V, w124.alloc (.cells #[.int .u64 0, .int .u64 0, .int .u64 0, .int .u8 0, .int .u64 0, .int .u64 0, .int .u64 0, .int .u8 0, .bool false, .bool false, .int .i64 0, .int .i64 0, .int .i64 0] 36) = V := ⟨_, rfl⟩
          have hka : Keep No w124 w142 := by rw [← hw]; exact (Keep.refl _ _).alloc _
          have HR142 := hid (HR124.out.go hka)
          have HY142 := hid (HY124.out.go hka)
          have HE143 := hid (HE125.out.go hka)
          have HE144 := hid (HE126.out.go hka)
          have HX142 : Hid (Tb w142 F2 F' (w.heap.size + 1 + 1 + 1) w124.heap.size lT) := by rw [← hw]; exact HR124.out.new rfl
          have HSZ142 : Hid (w142.heap.size = w124.heap.size + 1) := by rw [← hw]; show _ = _; simp
          rw [hw]
          refine hK.out _ _ ⟨HR142.out.so, HR142.out.sp⟩ (fun _ => ?_)
          clear hK hw hka
          refine wpAnyH_ready (rs := [2]) (by kernel_rfl) (by simp) (AllReadyH.cons (i := 2) rfl (fun K' hK => ?_) AllReadyH.nil)
          go_simp
          refine (HDB.out _ _ HR142.out.hx).mono ?_
          rintro e w145 ⟨rfl, hT⟩
          obtain ⟨F145, hR, hF, hk⟩ := HR142.out.call hT
          have HSZ145 : Hid (w142.heap.size ≤ w145.heap.size) := hk.size
          have HR145 := hid hR
          have HX145 := hid (HX142.out.call hk hF)
          have HY145 := hid (HY142.out.call hk hF)
          have HE146 := hid (HE143.out.call hk hF)
          have HE147 := hid (HE144.out.call hk hF)
          refine hK.out _ _ ⟨HR145.out.so, HR145.out.sp⟩ (fun _ => ?_)
          clear hK hT hR hF hk
          refine wpAnyH_ready (rs := [5]) (by kernel_rfl) (by simp) (AllReadyH.cons (i := 5) rfl (fun K' hK => ?_) AllReadyH.nil)
          go_simp
          refine (HDA.out _ _ HR145.out.hx).mono ?_
          rintro e w148 ⟨rfl, hT⟩
          obtain ⟨F148, hR, hF, hk⟩ := HR145.out.call hT
          have HSZ148 : Hid (w145.heap.size ≤ w148.heap.size) := hk.size
          have HR148 := hid hR
          have HX148 := hid (HX145.out.call hk hF)
          have HY148 := hid (HY145.out.call hk hF)
          have HE149 := hid (HE146.out.call hk hF)
          have HE150 := hid (HE147.out.call hk hF)
          refine hK.out _ _ ⟨HR148.out.so, HR148.out.sp⟩ (fun _ => ?_)
          clear hK hT hR hF hk
          refine wpAnyH_done (by kernel_rfl) ?_ _
          refine Pop2.meet_normal ⟨_, _, _, rfl, rfl, (by have := HSZd.out; have := HSZ124.out; have := HSZ142.out; have := HSZ145.out; have := HSZ148.out; omega), (by have := hlt1; have := HSZd.out; have := HSZ124.out; have := HSZ142.out; have := HSZ145.out; have := HSZ148.out; omega), (by have := hlt1; have := HSZd.out; have := HSZ124.out; have := HSZ142.out; have := HSZ145.out; have := HSZ148.out; omega), (by have := hlt2; have := HSZd.out; have := HSZ124.out; have := HSZ142.out; have := HSZ145.out; have := HSZ148.out; omega), (by have := hlt2; have := HSZd.out; have := HSZ124.out; have := HSZ142.out; have := HSZ145.out; have := HSZ148.out; omega), rfl, rfl, HR148.out, HX148.out, HY148.out, HE149.out, HE150.out⟩ ?_
          kernel_rfl
    rintro u2 wz ⟨b13, b14, G', h13, h14, hne, hn1, hn2, hn3, hn4, h62, h65, hR, hT1, hT2, hE1, hE2⟩
    simp only [setAll, List.setIfInBounds_toArray, List.set_cons_zero, List.set_cons_succ]
    unfold valTell valT at h62 h65
    rw [h13, h14, h62, h65]
    have HNE := hid hne
    have HN1x := hid hn1
    have HN1y := hid hn2
    have HN2x := hid hn3
    have HN2y := hid hn4
    have HRs := hid hR
    have HXs := hid hT1
    have HYs := hid hT2
    have HE1s := hid hE1
    have HE2s := hid hE2
    clear hR hT1 hT2 hE1 hE2 h13 h14 h62 h65 hne hn1 hn2 hn3 hn4 HR1 HT1 HT2 hlt1 hlt2
    refine wpOp_step (i := 8) rfl (fun K' hK => ?_)
    have hx3 := HXs.out.blk
    unfold lT at hx3
    obtain ⟨zz, x0, x1, x2, x3, x4, x5, x6, x7, x8, x9, xa, xb, xc, xf⟩ := Blk.thirteen hx3
    clear hx3
    go_simp
    obtain ⟨wz1, hw⟩ : ∃ V, putT wz (b13) tb = V := ⟨_, rfl⟩
    have hkp : Keep (fun j => j = b13) wz wz1 := by rw [← hw]; exact putT_keep _ _ _
    have HRs3 := hid (HRs.out.put HXs.out hkp)
    have HXs3 : Hid (Tb wz1 G' F' (w.heap.size + 1 + 1 + 1) (b13) (cellsT tb.a tb.is tb.e tb.n)) := by rw [← hw]; exact HXs.out.told tb
    have HYs3 := hid (HYs.out.put hkp HNE.out.symm)
    have HE4 := hid (HE1s.out.put hkp HN1x.out)
    have HE5 := hid (HE2s.out.put hkp HN2x.out)
    unfold putT at hw
    rw [hw]
    refine hK _ _ ?_
    clear hK hw hkp zz x0 x1 x2 x3 x4 x5 x6 x7 x8 x9 xa xb xc xf
    refine wpOp_step (i := 9) rfl (fun K' hK => ?_)
    have hx6 := HYs3.out.blk
    unfold lT at hx6
    obtain ⟨zz, x0, x1, x2, x3, x4, x5, x6, x7, x8, x9, xa, xb, xc, xf⟩ := Blk.thirteen hx6
    clear hx6
    go_simp
    obtain ⟨wr2, hw⟩ : ∃ V, putT wz1 (b14) ta = V := ⟨_, rfl⟩
    have hkp : Keep (fun j => j = b14) wz1 wr2 := by rw [← hw]; exact putT_keep _ _ _
    have HRs6 := hid (HRs3.out.put HYs3.out hkp)
    have HYs6 : Hid (Tb wr2 G' F' (w.heap.size + 1 + 1 + 1) (b14) (cellsT ta.a ta.is ta.e ta.n)) := by rw [← hw]; exact HYs3.out.told ta
    have HXs6 := hid (HXs3.out.put hkp HNE.out)
    have HE7 := hid (HE4.out.put hkp HN1y.out)
    have HE8 := hid (HE5.out.put hkp HN2y.out)
    unfold putT at hw
    rw [hw]
    refine hK _ _ ?_
    clear hK hw hkp zz x0 x1 x2 x3 x4 x5 x6 x7 x8 x9 xa xb xc xf
    have hR := HRs6.out
    have hT13 := HXs6.out
    have hT14 := HYs6.out
    have hT11 := HE7.out
    have hT12 := HE8.out
    have HAP := hid (show AP w wr2 (w.heap.size + 1 + 1 + 1) (.pointer (some ⟨bx, 0, none⟩)) (.pointer (some ⟨by', 0, none⟩)) most Lx F' G' [] from ⟨Marks.nil _ _, hR.res, hR.hy, hR.hx, hR.keep, by omega⟩)
    have k11 := hT11.blk
    have k12 := hT12.blk
    have k13 := hT13.blk
    have k14 := hT14.blk
    unfold cellsT at k11 k12 k13 k14
    obtain ⟨_, m0, m1, m2, m3, m4, m5, m6, m7, m8, m9, ma, mb, mc, _⟩ := Blk.thirteen k11
    obtain ⟨_, n0, n1, n2, n3, n4, n5, n6, n7, n8, n9, na, nb, nc, _⟩ := Blk.thirteen k12
    obtain ⟨_, q0, q1, q2, q3, q4, q5, q6, q7, q8, q9, qa, qb, qc, _⟩ := Blk.thirteen k13
    obtain ⟨_, r0, r1, r2, r3, r4, r5, r6, r7, r8, r9, ra, rb, rc, _⟩ := Blk.thirteen k14
    clear hR hT13 hT14 hT11 hT12 k11 k12 k13 k14 HCA HCB HDA HDB
    go_wp2
    clear m0 m1 m2 m3 m4 m5 m6 m7 m8 m9 ma mb mc n0 n1 n2 n3 n4 n5 n6 n7 n8 n9 na nb nc q0 q1 q2 q3 q4 q5 q6 q7 q8 q9 qa qb qc r0 r1 r2 r3 r4 r5 r6 r7 r8 r9 ra rb rc
    have hn64 : Lx.length ≤ 64 := by have := HL64.out.1; have := HL5.out; omega
    have HG : Hid (GoodL most Lx) := Y1.GoodL.of HAP.out.hx
    refine wp_loop_slots [15, 16, 17, 18, 74, 75, 76, 77, 78, 79, 80, 81, 82, 83, 84, 85, 86, 87, 88, 89, 90, 91, 92, 93, 94, 95, 96, 97, 98, 99, 100, 101, 102, 103, 104, 105, 106]
      (fun n u ds wr => ∃ i : Nat, n = Lx.length - i ∧ i ≤ Lx.length ∧ u 15 = .int .i64 i ∧ AP w wr (w.heap.size + 1 + 1 + 1) (.pointer (some ⟨bx, 0, none⟩)) (.pointer (some ⟨by', 0, none⟩)) most Lx F' G' ds) Lx.length ⟨0, rfl, Nat.zero_le _, rfl, HAP.out⟩ ?_
    clear HAP
    rintro n' u3 ds wr3 ⟨i, rfl, hi, h15, hS⟩ K hK
    simp only [setAll, List.setIfInBounds_toArray, List.set_cons_zero, List.set_cons_succ]
    rw [h15]
    have HS := hid hS
    have hst := fun W (hW : Keep No wr3 W) => stripes_has (hS.hx.keep hW (fun _ _ => no _))
    have hal := fun W (hW : Keep No wr3 W) => all_has (hS.hx.keep hW (fun _ _ => no _)) i
    have hal2 := fun W (hW : Keep No wr3 W) => all_has (hS.hy.keep hW (fun _ _ => no _)) i
    have HST := hid hst
    have HAL := hid hal
    have HAL2 := hid hal2
    clear hS h15 hst hal hal2
    by_cases hlt : i < Lx.length
    · have hlt' : (i : Int) < Lx.length := by omega
      have hi64 : (i : Int) ≤ 64 := by omega
      have hi0' : (0 : Int) ≤ i := by omega
      obtain ⟨xs, hxs⟩ : ∃ xs, xall i Lx = xs := ⟨_, rfl⟩
      have hxl : xs.length ≤ 65536 := by rw [← hxs]; exact xall_small HG.out i
      rw [hxs] at HAL HAL2
      have HXL := hid hxl
      clear hxs hxl
      go_wp2_with (first | (go_at_call 10; refine (HST.out _ (Keep.refl _ _)).mono ?_; rintro e w9 ⟨rfl, rfl⟩) | (go_at_call 11; refine (HAL.out _ ((Keep.refl _ _).alloc _)).mono ?_; rintro e w9 ⟨rfl, hk, hseq⟩; have HKA := hid (((Keep.refl No wr3).alloc (.cells #[.slice none 0 0] 39)).trans hk (fun _ _ e => e)); have HCE := hid ((Blk.new' (cl := [.slice none 0 0]) 39 rfl : Blk (wr3.alloc (.cells #[.slice none 0 0] 39)) wr3.heap.size _ _).mod hk (no _)); have HSEQ := hid hseq; clear hk hseq))
      obtain ⟨b16, hb16⟩ : ∃ b, wr3.heap.size = b := ⟨_, rfl⟩
      have hs16 : b16 < w9.heap.size := by rw [← hb16]; exact HCE.out.lt
      have hsw : w.heap.size ≤ b16 := by rw [← hb16]; exact HS.out.keep.size
      have HB16 := hid hb16
      rw [hb16] at HCE ⊢
      clear hb16
      refine wp_range (gf := 48) (encs := encs) (xs := xs) rfl (enters_of Try.func48 (by kernel_rfl) rfl) (by simpa [HB16.out] using HSEQ.out) (fun _ => rfl)
        (fun O s W => Keep (fun k => k = b16) w9 W ∧ ∃ v', Blk W b16 [v'] 39 ∧ W.ownsRow (b16 + 1) 27 4 v' s.length (flat s) ∧ ∀ g, v'.ownBlock = some g → ¬ O g ∧ w9.heap.size ≤ g)
        (fun _ _ _ _ => False) ?i0 ?iI (fun _ _ _ _ _ h _ _ => h) ?iround ?idone (fun _ _ _ _ _ _ _ _ h => h.elim)
      case i0 =>
        intro O W hW hO
        exact ⟨hW.mono (fun _ _ h => h.elim), .slice none 0 0, HCE.out.mod hW (no _), World.ownsRow_nil _ _ _ _, fun g hg => (by cases hg)⟩
      case iI =>
        intro O s A B hs hAB hO
        obtain ⟨h1, v', h3, h4, h5⟩ := hs
        have hne : ∀ k, k < w9.heap.size → ¬ O k := fun k hk h => by have := (hO _ h).1; omega
        exact ⟨h1.trans hAB (fun k hk h => absurd h (hne k hk)), v', h3.mod hAB (hne _ (by omega)), own_keep h4 hAB (fun g hg => (h5 g hg).1), h5⟩
      case iround =>
        intro l O pre x W hI hp hO
        have hlen := hp.length_le
        simp only [List.length_append, List.length_singleton] at hlen
        have hfn : pre.length ≤ 65536 := by have := HXL.out; omega
        have HFN := hid hfn
        simp only [encs, valE]
        have HHI := hid hI
        have HO := hid hO
        clear hI hO hp hlen hfn
        gi_wp2
        refine ⟨⟨by simp, fun k hk => Below.heap_alloc _ _ _ (HO.out k hk).2⟩, ?_, ?_⟩
        · obtain ⟨h1, v', h3, h4, h5⟩ := HHI.out
          exact ⟨h1.alloc _, v', h3.alloc _, h4.alloc _, h5⟩
        intro W2 hK2 hs2 hI2
        obtain ⟨k2, v', hv2, hrow, hoff⟩ := hI2
        have hB9 : Blk W2 W.heap.size [.int .u64 x.h, .int .u64 x.a, .int .u64 x.v, .int .u8 x.c] 27 := (Blk.new' 27 rfl).mod hK2 (fun h => by have := (HO.out _ h).2; omega)
        obtain ⟨z9, d0, d1, d2, d3, f9⟩ := hB9.four
        obtain ⟨z7, c7, f7⟩ := hv2.one
        have HO2 := hid (fun k hk => (⟨(HO.out k hk).1, by have := (HO.out k hk).2; rw [hs2]; simp; omega⟩ : w9.heap.size ≤ k ∧ k < W2.heap.size))
        have K2 := hid k2
        have HV2 := hid hv2
        have HROW := hid hrow
        have HOFF := hid hoff
        clear hB9 hv2 hrow hoff k2 hK2 hs2
        gi_wp2_with (gi_at_builtin; refine Ap2.wpListIn_append_src _ rfl (.tmp 84) (.tmp 86) 39 rfl (b16 + 1) 27 t0 zE 4 32 Try.underlying39 hi0 hz0 hz1 hz2 rfl (by decide) v' _ _ rfl (HROW.out.alloc (.cells #[.int .u64 x.h, .int .u64 x.a, .int .u64 x.v, .int .u8 x.c] 27)) (.slice (some ⟨W2.heap.size, 0, none⟩) 1 1) 1 (cellsE x) rfl (Src.blk (Blk.new' _ rfl)) rfl ?c1 ?c2 ?c3 ?c4 ?c5)
        case c1 => intro u hu; simp only [cellsE, List.mem_cons, List.not_mem_nil, or_false] at hu; rcases hu with rfl | rfl | rfl | rfl <;> rfl
        case c2 => have := HFN.out; unfold maxLen; omega
        case c3 => have := HFN.out; omega
        case c4 => simp; omega
        case c5 =>
          intro v2 w3' ho hg hi' hb
          have hK3 : Keep (fun k => v'.ownBlock = some k) W2 w3' := ((Keep.refl _ _).alloc _).grown hg (fun k e _ => e)
          have hv7 : v'.ownBlock ≠ some b16 := fun e => by have := (HROW.out.lt _ e).1; omega
          obtain ⟨y7, e7, g7⟩ := (HV2.out.mod hK3 hv7).one
          obtain ⟨a3, m3, c3', rfl⟩ := own_some ho
          have HO3 := hid ho
          have HK3' := hid hK3
          have HB7 := hid (HV2.out.mod hK3 hv7)
          have HKN := hid ((K2.out.alloc (.cells #[.int .u64 x.h, .int .u64 x.a, .int .u64 x.v, .int .u8 x.c] 27)).grown hg (fun k e hk => by have := (HOFF.out k e).2; omega))
          have HOFF3 : Hid (∀ g, (Value.slice a3 m3 c3').ownBlock = some g → ¬ O g ∧ w9.heap.size ≤ g) := fun g hg' => by
            rcases hb with h | h
            · rw [h] at hg'; exact HOFF.out g hg'
            · rw [h] at hg'
              simp only [World.size_alloc, Option.some.injEq] at hg'
              have := K2.out.size
              exact ⟨fun ho' => by have := (HO2.out g ho').2; omega, by omega⟩
          clear ho hg hi' hb hK3 c7 f7
          gi_wp2
          have hkk : Keep (fun k => k = b16) w3' (w3'.setCell ⟨b16, 0, none⟩ (.slice a3 m3 c3')) := (Keep.refl _ _).setCell _ _ (fun _ => rfl)
          refine ⟨Sta.of_keep (S := fun k => k = b16 ∨ v'.ownBlock = some k) ((HK3'.out.mono (fun _ _ e => .inr e)).setCell _ _ (fun _ => .inl rfl)) (fun k hk => ⟨(HO2.out k hk).2, ?_⟩), HKN.out.setCell _ _ (fun _ => rfl), _, HB7.out.set 0 _, ?_, HOFF3.out⟩
          · rintro (h | h)
            · have := (HO2.out k hk).1; omega
            · exact (HOFF.out k h).1 hk
          · rw [flat_snoc, List.length_append]
            exact own_keep HO3.out hkk (fun g hg => by have := (HO3.out.lt g hg).1; omega)
      case idone =>
        intro D O W9 hD hOD hO hI hm
        obtain ⟨h1, v', h3, h4, h5⟩ := hI
        have hK9 : Keep No wr3 W9 := HKA.out.trans (h1.mono (S' := fun k => k = b16) (fun _ _ e => e)) (fun k hk e => by have := HB16.out; omega)
        have hAP := HS.out.stay hK9
        have hm2 := HS.out.marks.cons hK9 (fun _ _ _ => no _) (show wr3.heap.size ≤ D by have := HKA.out.size; omega) (by have := HKA.out.size; have := HB16.out; omega) hm
        have HAP9 := hid (show AP w W9 (w.heap.size + 1 + 1 + 1) (.pointer (some ⟨bx, 0, none⟩)) (.pointer (some ⟨by', 0, none⟩)) most Lx F' G' (Rf.mark D :: ds) from ⟨hm2, hAP.res, hAP.hx, hAP.hy, hAP.keep, hAP.ord⟩)
        have HK9 := hid hK9
        have HC9 := hid h3
        have HR9 := hid h4
        have HSl9 := hid (Sl.of_own h4)
        obtain ⟨a9, m9, c9, rfl⟩ := own_some h4
        clear h1 h3 h4 h5 hm hm2 hK9 hAP hOD hD hO HSEQ
        go_wp2_with (go_at_call 11; refine (HAL2.out _ HK9.out).mono ?_; rintro e w10 ⟨rfl, hk, hseq⟩; have HKA2 := hid hk; have HSEQ2 := hid hseq; clear hk hseq)
        have HAPx := hid (HAP9.out.stay HKA2.out)
        have HCx := hid (HC9.out.mod HKA2.out (no _))
        have HRx := hid (own_keep HR9.out HKA2.out (fun _ _ => no _))
        have hw10 := HKA2.out.size
        have hb9 := HC9.out.lt
        refine wp_range (gf := 48) (encs := encs) (xs := xs) rfl (enters_of Try.func48 (by kernel_rfl) rfl) HSEQ2.out (fun _ => rfl)
          (fun O s W => Keep (fun k => k = b16) w10 W ∧ ∃ v', Blk W b16 [v'] 39 ∧ Sl W v' (xs.drop s.length) ∧ ∀ g, SlB v' g → SlB (.slice a9 m9 c9) g)
          (fun _ _ _ _ => False) ?j0 ?jI (fun _ _ _ _ _ h _ _ => h) ?jround ?jdone (fun _ _ _ _ _ _ _ _ h => h.elim)
        case j0 =>
          intro O W hW hO
          refine ⟨hW.mono (fun _ _ h => h.elim), _, HCx.out.mod hW (no _), ?_, fun g hg => hg⟩
          simpa using (HSl9.out.keep HKA2.out (fun _ _ => no _)).keep hW (fun _ _ => no _)
        case jI =>
          intro O s A B hs hAB hO
          obtain ⟨h1, v', h3, h4, h5⟩ := hs
          have hne : ∀ k, k < w10.heap.size → ¬ O k := fun k hk h => by have := (hO _ h).1; omega
          refine ⟨h1.trans hAB (fun k hk h => absurd h (hne k hk)), v', h3.mod hAB (hne _ (by omega)), h4.keep hAB (fun g hg => hne _ ?_), h5⟩
          obtain ⟨off', n', c', he⟩ := h5 g hg
          have := (HRx.out.lt g (by rw [he]; rfl)).2
          omega
        case jround =>
          intro l O pre x W hI hp hO
          have hdr : xs.drop pre.length = x :: xs.drop (pre.length + 1) := by
            obtain ⟨t, rfl⟩ := hp
            simp
          simp only [encs, valE]
          have HHI := hid hI
          have HO := hid hO
          have HDR := hid hdr
          clear hI hO hp hdr
          gi_wp2
          refine ⟨⟨by simp, fun k hk => Below.heap_alloc _ _ _ (HO.out k hk).2⟩, ?_, ?_⟩
          · obtain ⟨h1, v', h3, h4, h5⟩ := HHI.out
            exact ⟨h1.alloc _, v', h3.alloc _, h4.keep ((Keep.refl No _).alloc _) (fun _ _ => no _), h5⟩
          intro W2 hK2 hs2 hI2
          obtain ⟨k2, v', hv2, hsl, hoff⟩ := hI2
          rw [HDR.out] at hsl
          obtain ⟨a', c', rfl, _⟩ := id hsl
          obtain ⟨g, off, rfl, hn, hnc, hgl, ⟨s0, s1, s2, s3⟩, htl⟩ := hsl.tail
          have hB9 : Blk W2 W.heap.size [.int .u64 x.h, .int .u64 x.a, .int .u64 x.v, .int .u8 x.c] 27 := (Blk.new' 27 rfl).mod hK2 (fun h => by have := (HO.out _ h).2; omega)
          obtain ⟨z9, d0, d1, d2, d3, f9⟩ := hB9.four
          obtain ⟨z7, c7, f7⟩ := hv2.one
          rw [hn] at c7 hnc
          have HTL := hid htl
          have HO2 := hid (fun k hk => (⟨(HO.out k hk).1, by have := (HO.out k hk).2; rw [hs2]; simp; omega⟩ : w10.heap.size ≤ k ∧ k < W2.heap.size))
          have K2 := hid k2
          have HV2 := hid hv2
          have HOFF := hid hoff
          have hxl2 : xs.drop (pre ++ [x]).length = xs.drop (pre.length + 1) := by simp
          have HXL2 := hid hxl2
          obtain ⟨k, hk⟩ : ∃ k, (xs.drop (pre.length + 1)).length = k := ⟨_, rfl⟩
          rw [hk] at c7 hnc HTL
          have hk0 : (((k + 1 : Nat) : Int) == 0) = false := by simp; omega
          have hk1 : (0 : Int) < ((k + 1 : Nat) : Int) := by omega
          have hk2 : (1 : Int) ≤ ((k + 1 : Nat) : Int) := by omega
          have hk3 : ((k + 1 : Nat) : Int) ≤ c' := by omega
          have hk4 : (1 : Int) ≤ c' := by omega
          have hk5 : (0 : Int) ≤ (k : Int) := by omega
          have hS0 : (fun V => V.cell? ⟨b16, 0, none⟩ = some (.slice (some ⟨g, off, none⟩) (k + 1) c') ∧ V.cell? ⟨W.heap.size, 0, none⟩ = some (.int .u64 x.h) ∧ V.cell? ⟨W.heap.size, 1, none⟩ = some (.int .u64 x.a) ∧ V.cell? ⟨W.heap.size, 2, none⟩ = some (.int .u64 x.v) ∧ V.cell? ⟨W.heap.size, 3, none⟩ = some (.int .u8 x.c) ∧ V.cell? ⟨g, off, none⟩ = some (.int .u64 x.h) ∧ V.cell? ⟨g, off + 1, none⟩ = some (.int .u64 x.a) ∧ V.cell? ⟨g, off + 2, none⟩ = some (.int .u64 x.v) ∧ V.cell? ⟨g, off + 3, none⟩ = some (.int .u8 x.c)) W2.drew := ⟨c7, d0, d1, d2, d3, s0, s1, s2, s3⟩
          have hgb : g ≠ b16 := fun e => by
            obtain ⟨off', n'', c'', he⟩ := HOFF.out g ⟨_, _, _, rfl⟩
            have := (HRx.out.lt g (by rw [he]; rfl)).1
            omega
          clear hB9 hv2 hoff k2 hK2 hs2 hsl htl hn hxl2 hk c7 d0 d1 d2 d3 s0 s1 s2 s3
          gi_wp2
          refine Rr.wpIn_region_round (S := fun V => V.cell? ⟨b16, 0, none⟩ = some (.slice (some ⟨g, off, none⟩) (k + 1) c') ∧ V.cell? ⟨W.heap.size, 0, none⟩ = some (.int .u64 x.h) ∧ V.cell? ⟨W.heap.size, 1, none⟩ = some (.int .u64 x.a) ∧ V.cell? ⟨W.heap.size, 2, none⟩ = some (.int .u64 x.v) ∧ V.cell? ⟨W.heap.size, 3, none⟩ = some (.int .u8 x.c) ∧ V.cell? ⟨g, off, none⟩ = some (.int .u64 x.h) ∧ V.cell? ⟨g, off + 1, none⟩ = some (.int .u64 x.a) ∧ V.cell? ⟨g, off + 2, none⟩ = some (.int .u64 x.v) ∧ V.cell? ⟨g, off + 3, none⟩ = some (.int .u8 x.c)) (by kernel_rfl) (by kernel_rfl) (fun ⟨_, _, h⟩ => h) ?_
          refine wpAnyH_take (i := 0) (v := ?_) rfl (by kernel_rfl) (by kernel_rfl) (by kernel_rfl) (fun _ _ _ h => h) (Or.inl ⟨by rfl, ?_⟩) (hS0) ?_
          rotate_left
          · (intro w hSw; obtain ⟨p1, p2, p3, p4, p5, p6, p7, p8, p9⟩ := hSw; go_simp; try with_reducible rfl)
          simp only [Act.put, List.getElem_toArray, List.getElem_cons_zero, List.getElem_cons_succ, List.setIfInBounds_toArray, List.set_cons_zero, List.set_cons_succ]
          refine wpAnyH_take (i := 1) (v := ?_) rfl (by kernel_rfl) (by kernel_rfl) (by kernel_rfl) (fun _ _ _ h => h) (Or.inl ⟨by rfl, ?_⟩) (hS0) ?_
          rotate_left
          · (intro w hSw; obtain ⟨p1, p2, p3, p4, p5, p6, p7, p8, p9⟩ := hSw; go_simp; try with_reducible rfl)
          simp only [Act.put, List.getElem_toArray, List.getElem_cons_zero, List.getElem_cons_succ, List.setIfInBounds_toArray, List.set_cons_zero, List.set_cons_succ]
          refine wpAnyH_take (i := 2) (v := ?_) rfl (by kernel_rfl) (by kernel_rfl) (by kernel_rfl) (fun _ _ _ h => h) (Or.inl ⟨by rfl, ?_⟩) (hS0) ?_
          rotate_left
          · (intro w hSw; obtain ⟨p1, p2, p3, p4, p5, p6, p7, p8, p9⟩ := hSw; go_simp; try with_reducible rfl)
          simp only [Act.put, List.getElem_toArray, List.getElem_cons_zero, List.getElem_cons_succ, List.setIfInBounds_toArray, List.set_cons_zero, List.set_cons_succ]
          refine wpAnyH_take (i := 3) (v := ?_) rfl (by kernel_rfl) (by kernel_rfl) (by kernel_rfl) (fun _ _ _ h => h) (Or.inl ⟨by rfl, ?_⟩) (hS0) ?_
          rotate_left
          · (intro w hSw; obtain ⟨p1, p2, p3, p4, p5, p6, p7, p8, p9⟩ := hSw; go_simp; try with_reducible rfl)
          simp only [Act.put, List.getElem_toArray, List.getElem_cons_zero, List.getElem_cons_succ, List.setIfInBounds_toArray, List.set_cons_zero, List.set_cons_succ]
          refine wpAnyH_take (i := 4) (v := ?_) rfl (by kernel_rfl) (by kernel_rfl) (by kernel_rfl) (fun _ _ _ h => h) (Or.inl ⟨by rfl, ?_⟩) (hS0) ?_
          rotate_left
          · (intro w hSw; obtain ⟨p1, p2, p3, p4, p5, p6, p7, p8, p9⟩ := hSw; go_simp; try with_reducible rfl)
          simp only [Act.put, List.getElem_toArray, List.getElem_cons_zero, List.getElem_cons_succ, List.setIfInBounds_toArray, List.set_cons_zero, List.set_cons_succ]
          refine wpAnyH_take (i := 5) (v := ?_) rfl (by kernel_rfl) (by kernel_rfl) (by kernel_rfl) (fun _ _ _ h => h) (Or.inl ⟨by rfl, ?_⟩) (hS0) ?_
          rotate_left
          · (intro w hSw; obtain ⟨p1, p2, p3, p4, p5, p6, p7, p8, p9⟩ := hSw; go_simp; try with_reducible rfl)
          simp only [Act.put, List.getElem_toArray, List.getElem_cons_zero, List.getElem_cons_succ, List.setIfInBounds_toArray, List.set_cons_zero, List.set_cons_succ]
          refine wpAnyH_take (i := 6) (v := ?_) rfl (by kernel_rfl) (by kernel_rfl) (by kernel_rfl) (fun _ _ _ h => h) (Or.inl ⟨by rfl, ?_⟩) (hS0) ?_
          rotate_left
          · (intro w hSw; obtain ⟨p1, p2, p3, p4, p5, p6, p7, p8, p9⟩ := hSw; go_simp; try with_reducible rfl)
          simp only [Act.put, List.getElem_toArray, List.getElem_cons_zero, List.getElem_cons_succ, List.setIfInBounds_toArray, List.set_cons_zero, List.set_cons_succ]
          refine wpAnyH_take (i := 7) (v := ?_) rfl (by kernel_rfl) (by kernel_rfl) (by kernel_rfl) (fun _ _ _ h => h) (Or.inl ⟨by rfl, ?_⟩) (hS0) ?_
          rotate_left
          · (intro w hSw; obtain ⟨p1, p2, p3, p4, p5, p6, p7, p8, p9⟩ := hSw; go_simp; try with_reducible rfl)
          simp only [Act.put, List.getElem_toArray, List.getElem_cons_zero, List.getElem_cons_succ, List.setIfInBounds_toArray, List.set_cons_zero, List.set_cons_succ]
          refine wpAnyH_take (i := 8) (v := ?_) rfl (by kernel_rfl) (by kernel_rfl) (by kernel_rfl) (fun _ _ _ h => h) (Or.inl ⟨by rfl, ?_⟩) (hS0) ?_
          rotate_left
          · (intro w hSw; obtain ⟨p1, p2, p3, p4, p5, p6, p7, p8, p9⟩ := hSw; go_simp; try with_reducible rfl)
          simp only [Act.put, List.getElem_toArray, List.getElem_cons_zero, List.getElem_cons_succ, List.setIfInBounds_toArray, List.set_cons_zero, List.set_cons_succ]
          refine wpAnyH_take (i := 9) (v := ?_) rfl (by kernel_rfl) (by kernel_rfl) (by kernel_rfl) (fun _ _ _ h => h) (Or.inl ⟨by rfl, ?_⟩) (hS0) ?_
          rotate_left
          · (intro w hSw; obtain ⟨p1, p2, p3, p4, p5, p6, p7, p8, p9⟩ := hSw; go_simp; try with_reducible rfl)
          simp only [Act.put, List.getElem_toArray, List.getElem_cons_zero, List.getElem_cons_succ, List.setIfInBounds_toArray, List.set_cons_zero, List.set_cons_succ]
          refine wpAnyH_done (by kernel_rfl) ?_ _
          obtain ⟨p1, _⟩ := hS0
          have HFin : Hid (∀ off' c'', (if c' = 1 then off else off + 4) = off' → c' - 1 = c'' → roundQ O (fun O s W => Keep (fun k => k = b16) w10 W ∧ ∃ v', Blk W b16 [v'] 39 ∧ Sl W v' (xs.drop s.length) ∧ ∀ g, SlB v' g → SlB (.slice a9 m9 c9) g) (fun _ _ _ _ => False) (pre ++ [x]) W2 .normal { tmps := #[], defers := [] } (W2.setCell ⟨b16, 0, none⟩ (.slice (some ⟨g, off', none⟩) k c'')).drew) := by
            intro off' c'' h1 h2
            have hkk : Keep (fun k => k = b16) W2 ((W2.setCell ⟨b16, 0, none⟩ (.slice (some ⟨g, off', none⟩) k c'')).drew) := ((Keep.refl (fun k => k = b16) _).setCell _ _ (fun _ => rfl)).drew
            refine ⟨Sta.of_keep hkk (fun j hj => ⟨(HO2.out j hj).2, by have := (HO2.out j hj).1; omega⟩), K2.out.trans hkk (fun _ _ e => e), _, (HV2.out.set 0 _).drew, ?_, ?_⟩
            · rw [HXL2.out]
              have h3 := HTL.out
              rw [h1, h2] at h3
              exact h3.keep hkk (by rintro g' ⟨_, _, _, he⟩ e; cases he; exact hgb e)
            · rintro g' ⟨_, _, _, he⟩
              cases he
              exact HOFF.out g ⟨_, _, _, rfl⟩
          rcases (by omega : c' = 1 ∨ ¬ c' = 1) with hc | hc
          · subst hc
            obtain rfl : k = 0 := by omega
            gi_wp2
            exact HFin.out off 0 rfl rfl
          · gi_wp2
            exact HFin.out (off + 4) (c' - 1) (if_neg hc) rfl
        case jdone =>
          intro D2 O W hD hOD hO hI hm
          obtain ⟨h1, v', h3, h4, h5⟩ := hI
          rw [List.drop_length] at h4
          obtain ⟨a', c', rfl, _⟩ := h4
          simp only [List.length_nil] at h3
          have hKW : Keep (fun k => k = b16) W9 W := (HKA2.out.mono (fun _ _ e => e.elim)).trans h1 (fun _ _ e => e)
          have hK3 : Keep No wr3 W := HK9.out.trans (hKW.mono (S' := fun k => k = b16) (fun _ _ e => e)) (fun k hk e => by have := HB16.out; omega)
          have hAP := HS.out.stay hK3
          have hm2 := HAP9.out.marks.cons hKW (fun j _ hmk e => Blk.notMark HC9.out (by rw [← e]; exact hmk)) (show W9.heap.size ≤ D2 by omega) (Nat.le_trans HAP9.out.keep.size (show W9.heap.size ≤ D2 by omega)) hm
          have HAPf := hid (show AP w W (w.heap.size + 1 + 1 + 1) (.pointer (some ⟨bx, 0, none⟩)) (.pointer (some ⟨by', 0, none⟩)) most Lx F' G' (Rf.mark D2 :: Rf.mark D :: ds) from ⟨hm2, hAP.res, hAP.hx, hAP.hy, hAP.keep, hAP.ord⟩)
          obtain ⟨z7, c7, f7⟩ := h3.one
          clear h1 h3 h5 hKW hK3 hAP hm2 hm hD hO hOD
          go_wp2
          refine ⟨Lx.length - (i + 1), by omega, ?eq7, i + 1, rfl, by omega, ?_, HAPf.out⟩
          case eq7 => kernel_rfl
          omega
    · have hie : i = Lx.length := by omega
      subst hie
      obtain ⟨z4, c4, f4⟩ := HS.out.res.one
      have hm := HS.out.marks
      have hkp := HS.out.keep
      have HM := hid hm
      have HKw := hid hkp
      have HB2 := hid (HS.out.res.set 0 (.bool true))
      have HN2 := hid (Blk.notMark HS.out.res)
      clear hm hkp
      go_wp2_with (go_at_call 10; refine (HST.out _ (Keep.refl _ _)).mono ?_; rintro e w9 ⟨rfl, rfl⟩)
      refine marks_end (base := w.heap.size) (HM.out.keep (S := fun k => k = w.heap.size + 1 + 1 + 1) ((Keep.refl _ _).setCell _ _ (fun _ => rfl)) (fun k _ hk e => ?_)) fun W2 hW2 => ⟨_, res_b rfl _ rfl (HB2.out.mod hW2 (fun h => ?_)), rfl, ?_⟩
      · exact HN2.out (by rw [← e]; exact hk)
      · exact Blk.notMark HB2.out h.2
      · exact (HKw.out.setCell _ _ (fun h => absurd h (by simp; omega))).trans hW2 (fun k hk h => by have := h.1; omega)

theorem apart_any (n b m : Int) (d : Value) (os : List Opr) (o p : Opr) (w : World) (hO : Ops w d os) (ho : o.ok) (hp : p.ok) :
    Calls Try.prog 3 #[valS n b m d, valO o, valO p] w fun e w' => e = .returned (.bool true) ∧ Keep No w w' := by
  by_cases h : badS n b m
  · exact apart_bad n b m d o p w h
  · exact apart_in n b m d os o p w h hO ho hp
end Go.Proofs.Ytaijfgajcmopfaa.A2
/- The arguments: a script, a call, opened. -/
set_option linter.unusedVariables false
set_option linter.unusedSimpArgs false
namespace Go.Proofs.Ytaijfgajcmopfaa.Ar2
open Go.RowKit Go.ChangeShapes Go.WideShapes Go.Deep V Rh T W1 X7 Ar Z5

theorem c24 : Try.prog.cellsOf 24 = 4 := by kernel_rfl
theorem c22 : Try.prog.cellsOf 22 = 1 := by kernel_rfl

section
variable {H : Type} {enc : TypeId × Value → H} {W : World} {base : Nat} {spare : Nat → Bool} {held : Bool}

set_option maxRecDepth 100000 in
theorem open_opsC {n : Nat} {v : Value} {y : DataW H × List MemPlace} (hf : DataW.trod enc Try.prog W base spare held n 22 [v] = some y) : ∃ os, Ops W v os := by
  obtain ⟨d, p⟩ := y
  rcases open_slice Try.underlying22 hf with ⟨hcs, hx⟩ | ⟨a, len, cap, m, n, D, Pl, hcs, _, hl, hm, hmm, hx, hel⟩
  · obtain rfl : v = .slice none 0 0 := by simpa using hcs
    exact ⟨[], fun _ h => by simp at h, Nat.zero_le _, .inl ⟨rfl, _, _, rfl⟩⟩
  · obtain rfl : v = .slice (some a) len cap := by simpa using hcs
    have hle : len ≤ m := by rw [hmm]; split <;> omega
    have each : ∀ i, i < len → ∃ o : Opr, o.ok ∧ W.cells? base (a.add (i * 8)) 8 = some (cellsO o) := by
      intro i hi
      obtain ⟨cs, h1, h2⟩ := hel i (by omega)
      rw [c29] at h1
      obtain ⟨o, ho, rfl⟩ := open_op h2
      exact ⟨o, ho, h1⟩
    obtain ⟨f, hfo⟩ := choose_lt each
    refine ⟨(List.range len).map f, fun o ho => ?_, ?_, ?_⟩
    · obtain ⟨i, hi, rfl⟩ := List.mem_map.1 ho
      exact (hfo i (List.mem_range.1 hi)).1
    · simp; omega
    · by_cases h0 : len = 0
      · subst h0
        exact .inl ⟨rfl, _, _, rfl⟩
      · right
        obtain ⟨ab, ao, asp⟩ := a
        have hs0 : asp = none := by
          have := (World.cells?_some (hfo 0 (by omega)).2).2.2 0 (by omega)
          simpa [Addr.add] using World.cell?_spot this
        subst hs0
        have hg : ∀ i, i < len → ∀ j u, (cellsO (f i))[j]? = some u → W.cell? ⟨ab, ao + i * 8 + j, none⟩ = some u := by
          intro i hi j u hu
          obtain ⟨_, h8, hc⟩ := World.cells?_some (hfo i hi).2
          have hj : j < 8 := by have := (List.getElem?_eq_some_iff.1 hu).1; rw [h8] at this; exact this
          have := hc j hj
          rw [add_at, add_at] at this
          rw [this]
          exact hu
        refine ⟨ab, ao, cap, by simp, ?_, fun i hi j u hu => ?_⟩
        · exact cell_lt (hg 0 (by omega) 0 _ rfl)
        · simp only [List.length_map, List.length_range] at hi
          refine hg i hi j u ?_
          simpa [List.getD_eq_getElem?_getD, hi] using hu

set_option maxRecDepth 100000 in
theorem open_script {v : Value} {d : DataW H} {p : List MemPlace} {r : Reach} {b0 : Nat} (hv : Value.okWide Try.prog W r b0 24 v) (h : DataW.Trod enc Try.prog W base spare held 24 v d p) : ∃ n b m s os, v = valS n b m s ∧ Ops W s os := by
  obtain ⟨cs, rfl, hsz⟩ := okWide_struct Try.underlying24 hv
  rw [c24] at hsz
  obtain ⟨fuel, hf⟩ := h
  obtain ⟨xs, k, _, _, hl, hx, hff⟩ := DataW.trod_struct Try.underlying24 hf
  rw [c24] at hl
  obtain ⟨a, b, c, e, hcs⟩ := list4 (l := cs.toList) (by simpa using hsz)
  have hcs' : (Value.agg cs).cells.toList = [a, b, c, e] := hcs
  rw [hcs'] at hff
  have hx4 : xs.length = 4 := hx
  obtain ⟨y0, h0⟩ := some_of (hff 0 _ rfl) (by omega)
  obtain ⟨y1, h1⟩ := some_of (hff 1 _ rfl) (by omega)
  obtain ⟨y2, h2⟩ := some_of (hff 2 _ rfl) (by omega)
  obtain ⟨y3, h3⟩ := some_of (hff 3 _ rfl) (by omega)
  simp [c3, c22] at h0 h1 h2 h3
  obtain ⟨x0, rfl, _⟩ := open_i64 h0
  obtain ⟨x1, rfl, _⟩ := open_i64 h1
  obtain ⟨x2, rfl, _⟩ := open_i64 h2
  obtain ⟨os, hO⟩ := open_opsC h3
  refine ⟨x0, x1, x2, e, os, ?_, hO⟩
  unfold valS
  congr 1
  exact Array.toList_inj.1 hcs

set_option maxRecDepth 100000 in
theorem open_op_arg {v : Value} {d : DataW H} {p : List MemPlace} {r : Reach} {b0 : Nat} (hv : Value.okWide Try.prog W r b0 29 v) (h : DataW.Trod enc Try.prog W base spare held 29 v d p) : ∃ o : Opr, o.ok ∧ v = valO o := by
  obtain ⟨cs, rfl, hsz⟩ := okWide_struct Try.underlying29 hv
  obtain ⟨fuel, hf⟩ := h
  obtain ⟨o, ho, hcs⟩ := open_op hf
  refine ⟨o, ho, ?_⟩
  have hcs' : cs.toList = cellsO o := hcs
  unfold valO
  congr 1
  exact Array.toList_inj.1 hcs'

set_option maxRecDepth 100000 in
theorem open_int_arg {v : Value} {d : DataW H} {p : List MemPlace} {r : Reach} {b0 : Nat} (hv : Value.okWide Try.prog W r b0 3 v) (h : DataW.Trod enc Try.prog W base spare held 3 v d p) : ∃ x : Int, v = .int .i64 x ∧ -9223372036854775808 ≤ x ∧ x < 9223372036854775808 := by
  obtain ⟨x, rfl⟩ := okWide_int Try.underlying3 hv
  obtain ⟨fuel, hf⟩ := h
  obtain ⟨x', h1, h2, h3⟩ := open_i64 (show DataW.trod enc Try.prog W base spare held fuel 3 [.int .i64 x] = some (d, p) from hf)
  exact ⟨x', h1, h2, h3⟩
end
end Go.Proofs.Ytaijfgajcmopfaa.Ar2
