import Derived.Test.YtaijfgajcmopfaaX8
import Derived.Test.YtaijfgajcmopfaaAr
/- IndexClosed. -/
set_option linter.unusedVariables false
namespace Go.Proofs.Ytaijfgajcmopfaa.X9
open Go.RowKit Go.Shelf V Rh T W1 W2 W3 W4 W6 W7 W10 Rf X1 X2 X3 X4 X5 X6 X7 X8 Ar Lp
attribute [local go_sem] Oper.semAt_some

theorem res_b {fn : Func} {p : Tmp} (h : fn.results = #[.cell p 4]) (tmps : Array Value) {w : World} {b : Nat} {x : Bool} {t : TypeId} (hp : tmps.getD p undef = .pointer (some ⟨b, 0, none⟩)) (hb : Blk w b [.bool x] t) :
    (results fn tmps).run Try.prog w = .ok (.bool x) w := by
  have hp' : tmps[p]?.getD undef = .pointer (some ⟨b, 0, none⟩) := by simpa using hp
  obtain ⟨z0, c0, f0⟩ := hb.one
  simp [results, h, hp', asAddr, go_sem, c0]

theorem Blk.eight {w : World} {b : Nat} {x0 x1 x2 x3 x4 x5 x6 x7 : Value} {t : TypeId} (h : Blk w b [x0, x1, x2, x3, x4, x5, x6, x7] t) : b < w.heap.size ∧ w.cell? ⟨b, 0, none⟩ = some x0 ∧ w.cell? ⟨b, 1, none⟩ = some x1 ∧ w.cell? ⟨b, 2, none⟩ = some x2 ∧ w.cell? ⟨b, 3, none⟩ = some x3 ∧ w.cell? ⟨b, 4, none⟩ = some x4 ∧ w.cell? ⟨b, 5, none⟩ = some x5 ∧ w.cell? ⟨b, 6, none⟩ = some x6 ∧ w.cell? ⟨b, 7, none⟩ = some x7 ∧ (∀ i, w.frozen? ⟨b, i, none⟩ = false) := ⟨h.lt, h.cell 0, h.cell 1, h.cell 2, h.cell 3, h.cell 4, h.cell 5, h.cell 6, h.cell 7, h.frozen⟩

def pAt (bx : Nat) (i : Nat) : Value := if i = 0 then .pointer none else ptr bx

theorem wrap64_of {x : Int} (h1 : -9223372036854775808 ≤ x) (h2 : x ≤ 9223372036854775807) : wrap64 x = x := by
  unfold wrap64
  omega

/-- the cells that stand through the loops -/
structure St (w wr : World) (base bR bx bs : Nat) (ds : List Deferred) : Prop where
  marks : Marks base ds wr
  res : Blk wr bR [.bool false] 4
  head : Blk wr bx [.slice none 0 0] 58
  row : Blk wr bs [.pointer none, ptr bx] 30
  keep : Keep No w wr

theorem St.go {w wr wr' : World} {base bR bx bs : Nat} {ds : List Deferred} (h : St w wr base bR bx bs ds) (k : Keep No wr wr') : St w wr' base bR bx bs ds :=
  ⟨h.marks.keep k (fun _ _ _ => no _), h.res.mod k (no _), h.head.mod k (no _), h.row.mod k (no _), h.keep.trans k (fun _ _ e => e)⟩

set_option maxRecDepth 100000 in
set_option maxHeartbeats 2000000 in
theorem closed_any (v : Value) (os : List Opr) (w : World) (hO : Ops w v os) :
    Calls Try.prog 6 #[v] w fun e w' => e = .returned (.bool true) ∧ Keep No w w' := by
  refine calls_of_marks Try.func6 rfl ?_
  simp only [Try.ntmps6, List.size_toArray, List.length_cons, List.length_nil, Nat.reduceAdd, Nat.reduceSub, Array.replicate_succ, Array.replicate_zero, List.push_toArray, List.append_toArray, List.nil_append, List.cons_append]
  obtain ⟨a, cap, rfl, hform⟩ := hO.form
  have HF := hid hform
  have hlen : os.length ≤ maxLen := hO.2.1
  have HO := hid hO
  have HL := hid hlen
  clear hO hform hlen
  go_wp2_with (go_at_call 18; refine (awake_any _).mono ?_; rintro e w1 ⟨rfl, hk⟩; have HK := hid (((Keep.refl No w).alloc _).trans hk (fun _ _ h => h)); have HB := hid ((Blk.new' (cl := [.bool false]) 4 rfl : Blk (w.alloc _) w.heap.size _ _).mod hk (no _)); clear hk)
  have HS := hid (show St w ((w1.alloc (.cells #[.slice none 0 0] 58)).alloc (.cells #[.pointer none, .pointer (some ⟨w1.heap.size, 0, none⟩)] 30)) w.heap.size w.heap.size w1.heap.size (w1.heap.size + 1) [] from
    ⟨Marks.nil _ _, (HB.out.alloc _).alloc _, (Blk.new' _ rfl).alloc _, Blk.new1 _ rfl, (HK.out.alloc _).alloc _⟩)
  obtain ⟨bx, hbx⟩ : ∃ b, w1.heap.size = b := ⟨_, rfl⟩
  obtain ⟨W, hW⟩ : ∃ W, ((w1.alloc (.cells #[.slice none 0 0] 58)).alloc (.cells #[.pointer none, .pointer (some ⟨w1.heap.size, 0, none⟩)] 30)) = W := ⟨_, rfl⟩
  rw [hW] at HS ⊢
  rw [hbx] at HS ⊢
  clear hW hbx HB HK
  refine wp_loop_slots [4, 6, 7, 14, 15, 16, 17, 18, 19, 20, 21, 22, 23, 24, 25, 26, 27, 28, 29, 30, 31, 32, 33, 34, 35, 36, 37, 38, 39, 40, 41, 42, 43, 44, 45, 46, 47, 48, 49, 50, 51, 52, 53, 54, 55, 56, 57, 58, 59, 60, 61, 62, 63, 64, 65, 66, 67, 68, 69, 70, 71, 72, 73, 74, 75, 76, 77, 78, 79]
    (fun n u ds wr => ∃ i : Nat, n = 2 - i ∧ i ≤ 2 ∧ u 14 = .int .i64 i ∧ St w wr w.heap.size w.heap.size bx (bx + 1) ds) 2 ⟨0, rfl, by omega, rfl, HS.out⟩ ?_
  rintro n u ds wr ⟨i, rfl, hi, h14, hS⟩ K hK
  simp only [setAll, List.setIfInBounds_toArray, List.set_cons_zero, List.set_cons_succ]
  rw [h14]
  have HS2 := hid hS
  clear HS hS h14
  by_cases hlt : i < 2
  · have hlt' : (i : Int) < 2 := by omega
    have h0 : (0 : Int) ≤ i := by omega
    have hc : wr.cell? ⟨bx + 1, i, none⟩ = some (pAt bx i) := by
      rw [HS2.out.row.cell]
      rcases (by omega : i = 0 ∨ i = 1) with rfl | rfl <;> rfl
    have hn0 : (0 : Int) ≤ (os.length : Int) := by omega
    go_wp2
    obtain ⟨p, hp⟩ : ∃ p, pAt bx i = p := ⟨_, rfl⟩
    have hcl : Closed wr p := by
      rw [← hp]
      rcases (by omega : i = 0 ∨ i = 1) with rfl | rfl
      · exact .inl rfl
      · exact .inr ⟨bx, rfl, HS2.out.head⟩
    have HCL := hid hcl
    rw [hp]
    clear hp hcl hc
    refine wp_loop_slots [6, 7, 20, 21, 22, 23, 24, 25, 26, 27, 28, 29, 30, 31, 32, 33, 34, 35, 36, 37, 38, 39, 40, 41, 42, 43, 44, 45, 46, 47, 48, 49, 50, 51, 52, 53, 54, 55, 56, 57, 58, 59, 60, 61, 62, 63, 64, 65, 66, 67, 68, 69, 70]
      (fun n u ds wj => ∃ j : Nat, n = os.length - j ∧ j ≤ os.length ∧ u 20 = .int .i64 j ∧ Keep No wr wj ∧ St w wj w.heap.size w.heap.size bx (bx + 1) ds) os.length ⟨0, rfl, Nat.zero_le _, rfl, Keep.refl _ _, HS2.out⟩ ?_
    rintro n2 u2 ds2 wj ⟨j, rfl, hj, h20, hkj, hSj⟩ K2 hK2
    simp only [setAll, List.setIfInBounds_toArray, List.set_cons_zero, List.set_cons_succ]
    rw [h20]
    have HSj := hid hSj
    have HKj := hid hkj
    clear hSj hkj h20
    by_cases hjl : j < os.length
    · have hjl' : (j : Int) < os.length := by omega
      have hj0 : (0 : Int) ≤ j := by omega
      obtain ⟨b, off, rfl, hb, hcells⟩ := HF.out j hjl
      obtain ⟨o, ho⟩ : ∃ o, os.getD j ⟨0, z, 0, 0, 0⟩ = o := ⟨_, rfl⟩
      rw [ho] at hcells
      have hkw := HSj.out.keep
      have hcw : ∀ k u, (cellsO o)[k]? = some u → wj.cell? ⟨b, off + j * 8 + k, none⟩ = some u := fun k u hu => (World.cell?_of_block (hkw.block b hb (no _))).trans (hcells k u hu)
      have e0 : wj.cell? ⟨b, off + j * 8, none⟩ = some (.int .i64 o.k) := hcw 0 _ rfl
      have e1 := hcw 1 _ rfl
      have e2 := hcw 2 _ rfl
      have e3 := hcw 3 _ rfl
      have e4 := hcw 4 _ rfl
      have e5 := hcw 5 _ rfl
      have e6 := hcw 6 _ rfl
      have e7 := hcw 7 _ rfl
      have hcl := HCL.out.keep HKj.out no
      have hone := fun W (hW : Keep No wj W) => one_closed (hcl.keep hW no) o
      have hlenc := fun W (hW : Keep No wj W) => len_closed (hcl.keep hW no) o.n
      have hstrc := fun W (hW : Keep No wj W) => stripe_closed p o.e.h W (hcl.keep hW no)
      have hallc := fun W (hW : Keep No wj W) => all_closed (hcl.keep hW no) o.n
      have vt : valT z false (errC o) 0 = .agg #[.int .u64 0, .int .u64 0, .int .u64 0, .int .u8 0, .int .u64 0, .int .u64 0, .int .u64 0, .int .u8 0, .bool false, .bool false, .int .i64 (errC o), .int .i64 0, .int .i64 0] := rfl
      rw [vt] at hone
      unfold valO at hone
      clear vt
      have herr : errC o = 6 ∧ (o.k == 0) = true ∨ errC o = 0 ∧ (o.k == 0) = false := by
        unfold errC
        by_cases h : o.k = 0
        · exact .inl ⟨if_pos h, by simpa using h⟩
        · exact .inr ⟨if_neg h, by simpa using h⟩
      have HCLj := hid hcl
      clear hcw hcells hkw ho hcl
      generalize errC o = er at hone herr
      rcases herr with ⟨rfl, hk0⟩ | ⟨rfl, hk0⟩
      all_goals
        go_wp2_with (first | (go_at_call 9; refine (hone _ ((Keep.refl _ _).alloc _)).mono ?_; rintro e w4 ⟨rfl, hk4⟩; have HK4 := hid (((Keep.refl No wj).alloc _).trans hk4 (fun _ _ e => e)); have hBo := ((Blk.new' (cl := cellsO o) 29 rfl : Blk (wj.alloc _) wj.heap.size _ _).mod hk4 (no _)); unfold cellsO at hBo; obtain ⟨y, g0, g1, g2, g3, g4, g5, g6, g7, gf⟩ := Blk.eight hBo; clear hk4 hBo e0 e1 e2 e3 e4 e5 e6 e7 hone) | (go_at_call 19; refine (hlenc _ (HK4.out.alloc _)).mono ?_; rintro e w5 ⟨rfl, rfl⟩) | (go_at_call 20; refine (hstrc _ (HK4.out.alloc _)).mono ?_; rintro e w5 ⟨rfl, rfl⟩) | (go_at_call 11; refine (hallc _ (HK4.out.alloc _)).mono ?_; rintro e w5 ⟨rfl, rfl⟩))
        refine wp_range (gf := 48) (encs := encs) (xs := []) rfl (enters_of Try.func48 (by kernel_rfl) rfl) (all_seq_nil _ _ (Blk.new1 _ rfl)) (fun _ => rfl)
          (fun O s W => Keep No wj W) (fun _ _ _ _ => False) (fun O W hW hO => ((HK4.out.alloc _).alloc _).trans hW (fun _ _ h => h)) (fun O s A B hs hAB hO => hs.trans hAB (fun k hk h => ?hOO)) (fun _ _ _ _ _ h _ _ => h) (fun l O pre x W hI hp => (prefix_nil hp).elim) (fun D O W hD hOD hO hI hm => ?hdone) (fun _ _ _ _ _ _ _ _ h => h.elim)
        case hOO => have h1 := (hO _ h).1; have h2 := HK4.out.size; simp at h1; omega
        case hdone =>
          have hDw : wj.heap.size ≤ D := by have := HK4.out.size; simp at hD; omega
          have HSn := hid (show St w W w.heap.size w.heap.size bx (bx + 1) (Rf.mark D :: ds2) from ⟨HSj.out.marks.cons hI (fun _ _ _ => no _) hDw (Nat.le_trans HSj.out.keep.size hDw) hm, HSj.out.res.mod hI (no _), HSj.out.head.mod hI (no _), HSj.out.row.mod hI (no _), HSj.out.keep.trans hI (fun _ _ h => h)⟩)
          have HKn := hid (HKj.out.trans hI (fun _ _ h => h))
          clear hI hD hm hO hOD
          go_wp2
          refine ⟨os.length - (j + 1), by omega, ?e, j + 1, rfl, by omega, ?_, HKn.out, HSn.out⟩
          case e => kernel_rfl
          have hjm : j + 1 ≤ maxLen := by have := HL.out; omega
          unfold maxLen at hjm
          rw [wrap64_of (by omega) (by omega)]
          omega
    · have hjn : j = os.length := by omega
      subst hjn
      have hclj := HCL.out.keep HKj.out no
      have hstrs := stripes_closed p wj hclj
      have hfork := fork_closed hclj
      clear hclj
      go_wp2_with (first | (go_at_call 10; refine hstrs.mono ?_; rintro e w5 ⟨rfl, rfl⟩) | (go_at_call 15; refine hfork.mono ?_; rintro e w5 ⟨rfl, rfl⟩))
      refine ⟨2 - (i + 1), by omega, ?e, i + 1, rfl, by omega, ?_, HSj.out⟩
      case e => kernel_rfl
      omega
  · have hi2 : i = 2 := by omega
    subst hi2
    have hb := HS2.out.res
    obtain ⟨z0, c0, f0⟩ := hb.one
    have hm := HS2.out.marks
    have hk := HS2.out.keep
    clear hb
    have HM := hid hm
    have HKw := hid hk
    have HB2 := hid (HS2.out.res.set 0 (.bool true))
    clear hm hk
    go_wp2
    refine marks_end (base := w.heap.size) (HM.out.keep (S := fun k => k = w.heap.size) ((Keep.refl _ _).setCell _ _ (fun _ => rfl)) (fun k _ hk e => ?_)) fun W2 hW2 => ⟨_, res_b rfl _ rfl (HB2.out.mod hW2 (fun h => ?_)), rfl, ?_⟩
    · exact Blk.notMark HS2.out.res (by rw [← e]; exact hk)
    · exact Blk.notMark HB2.out h.2
    · exact (HKw.out.setCell _ _ (fun h => absurd h (by simp))).trans hW2 (fun k hk h => by have := h.1; omega)
end Go.Proofs.Ytaijfgajcmopfaa.X9
