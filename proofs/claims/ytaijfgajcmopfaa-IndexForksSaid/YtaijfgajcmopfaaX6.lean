import Derived.Test.YtaijfgajcmopfaaX5
import Derived.Test.YtaijfgajcmopfaaLp
import Derived.WalkMore
import Derived.IntWalk
/- Purge. -/
set_option linter.unusedVariables false
namespace Go.Proofs.Ytaijfgajcmopfaa.X6
open Go.RowKit Go.Shelf V Rh T W1 W2 W3 W4 W6 W7 W10 Rf X1 X2 X3 X4 X5 Lp
attribute [local go_sem] Oper.semAt_some

theorem prefix_nil {α : Type} {pre : List α} {x : α} (h : (pre ++ [x]) <+: []) : False := by
  have := List.prefix_nil.1 h
  simp at this

set_option maxRecDepth 100000 in
set_option maxHeartbeats 1000000 in
theorem purge_nil (p : Value) (n r : Int) (w : World) (hat : ∀ W, Keep No w W → Calls Try.prog 27 #[p, .int .i64 n] W fun e w' => e = .returned (.pointer none) ∧ W = w') :
    Calls Try.prog 12 #[p, .int .i64 n, .int .i64 r] w fun e w' => e = .returned (.int .i64 0) ∧ Keep No w w' := by
  refine calls_of_marks Try.func12 rfl ?_
  simp only [Try.ntmps12, List.size_toArray, List.length_cons, List.length_nil, Nat.reduceAdd, Nat.reduceSub, Array.replicate_succ, Array.replicate_zero, List.push_toArray, List.append_toArray, List.nil_append, List.cons_append]
  go_wp2
  go_step3
  go_wp2_with (go_at_call 27; refine (hat _ ((Keep.refl _ _).alloc _)).mono ?_; rintro e w' ⟨rfl, rfl⟩)
  go_step3
  go_wp2_with (go_at_call 28; refine (all_any _ _ (.inl rfl)).mono ?_; rintro e w' ⟨rfl, rfl⟩)
  have hB0 : Blk ((((w.alloc (.cells #[.int .i64 r] 3)).alloc (.cells #[.pointer none] 70)).alloc (.cells #[.int .i64 0] 3)).alloc (.cells #[.pointer none] 70)) (w.heap.size + 1 + 1 + 1) [.pointer none] 70 := by
    have := Blk.new2 (w := w.alloc (.cells #[.int .i64 r] 3)) (o := .cells #[.pointer none] 70) (o2 := .cells #[.int .i64 0] 3) (cs := #[.pointer none]) (cl := [.pointer none]) 70 rfl
    simpa using this
  have hB : Blk ((((w.alloc (.cells #[.int .i64 r] 3)).alloc (.cells #[.pointer none] 70)).alloc (.cells #[.int .i64 0] 3)).alloc (.cells #[.pointer none] 70)) (w.heap.size + 1 + 1) [.int .i64 0] 3 := by
    have := (Blk.new1 (w := w.alloc (.cells #[.int .i64 r] 3)) (o := .cells #[.pointer none] 70) (cs := #[.int .i64 0]) (cl := [.int .i64 0]) 3 rfl).alloc (.cells #[.pointer none] 70)
    simpa using this
  have hK : Keep No w ((((w.alloc (.cells #[.int .i64 r] 3)).alloc (.cells #[.pointer none] 70)).alloc (.cells #[.int .i64 0] 3)).alloc (.cells #[.pointer none] 70)) := ((((Keep.refl _ _).alloc _).alloc _).alloc _).alloc _
  refine wp_range (gf := 48) (lb := #[.pointer (some ⟨w.heap.size + 1 + 1 + 1, 0, none⟩)]) (encs := encs) (xs := []) rfl (enters_of Try.func48 (by kernel_rfl) rfl) (all_seq_nil _ _ hB0) (fun _ => rfl)
    (fun O s W => Blk W (w.heap.size + 1 + 1) [.int .i64 0] 3 ∧ Keep No w W) (fun _ _ _ _ => False) ?h0 ?hI (fun _ _ _ _ _ h _ _ => h) ?hround ?hdone (fun _ _ _ _ _ _ _ _ h => h.elim)
  case h0 =>
    intro O W hW hO
    exact ⟨hB.mod hW (no _), hK.trans hW (fun _ _ h => h)⟩
  case hI =>
    intro O s A B hs hAB hO
    exact ⟨hs.1.mod hAB (fun h => by have := (hO _ h).1; simp at this; omega), hs.2.trans hAB (fun k hk h => by have := (hO _ h).1; simp at this; omega)⟩
  case hround =>
    intro l O pre x W hI hp
    exact (prefix_nil hp).elim
  case hdone =>
    intro D O W hD hOD hO hI hm
    obtain ⟨hb, hk⟩ := hI
    obtain ⟨z0, c0, f0⟩ := hb.one
    have HK := hid hk
    clear hb hk hB0 hB hK
    go_wp2
    rw [Exit.noGoto_ret]
    refine marks_ret (base := w.heap.size) ⟨[D], rfl, by simp, by simp; exact ⟨by simp at hD; omega, hm⟩⟩ fun W2 hW2 => ⟨_, results_tmp rfl _ _ _, rfl, ?_⟩
    exact HK.out.trans hW2 (fun k hk h => by have := h.1; omega)

/-- goes with region r -/
def phit (r : Int) (e : Ent) : Bool := decide (0 ≤ r) && (e.a / 281474976710656 == r)
def pfold (r : Int) (s L : List Ent) : List Ent := s.foldl (fun L e => if phit r e then lrem e.h L else L) L
theorem pfold_snoc (r : Int) (s L : List Ent) (x : Ent) : pfold r (s ++ [x]) L = if phit r x then lrem x.h (pfold r s L) else pfold r s L := by simp [pfold]
theorem pcount_snoc (r : Int) (s : List Ent) (x : Ent) : (s ++ [x]).countP (phit r) = s.countP (phit r) + if phit r x then 1 else 0 := by
  rw [List.countP_append, List.countP_singleton]

set_option maxRecDepth 100000 in
set_option maxHeartbeats 2000000 in
theorem purge_on (p : Value) (n r : Int) (bt bs most : Nat) (L : List Ent) (w : World) (hat : ∀ W, Keep No w W → Calls Try.prog 27 #[p, .int .i64 n] W fun e w' => e = .returned (ptr bt) ∧ W = w') (hI : Is w bt bs most L) (hr : -9223372036854775808 ≤ r) (hr2 : r < 9223372036854775808) :
    Calls Try.prog 12 #[p, .int .i64 n, .int .i64 r] w fun e w' => e = .returned (.int .i64 (L.countP (phit r) : Nat)) ∧ Keep (W2.At bt bs) w w' ∧ Is w' bt bs most (pfold r L L) := by
  unfold ptr at *
  obtain ⟨hi1, hi2⟩ := is_lt hI
  refine calls_of_marks Try.func12 rfl ?_
  simp only [Try.ntmps12, List.size_toArray, List.length_cons, List.length_nil, Nat.reduceAdd, Nat.reduceSub, Array.replicate_succ, Array.replicate_zero, List.push_toArray, List.append_toArray, List.nil_append, List.cons_append]
  have HI := hid hI
  have HR := hid hr
  have HR2 := hid hr2
  clear hI hr hr2
  go_wp2
  go_step3
  go_wp2_with (go_at_call 27; refine (hat _ ((Keep.refl _ _).alloc _)).mono ?_; rintro e w' ⟨rfl, rfl⟩)
  go_step3
  go_wp2_with (go_at_call 28; refine (all_any _ _ (.inr ⟨_, rfl⟩)).mono ?_; rintro e w' ⟨rfl, rfl⟩)
  obtain ⟨W0, hW0⟩ : ∃ W0, ((((w.alloc (.cells #[.int .i64 r] 3)).alloc (.cells #[.pointer (some ⟨bt, 0, none⟩)] 70)).alloc (.cells #[.int .i64 0] 3)).alloc (.cells #[.pointer (some ⟨bt, 0, none⟩)] 70)) = W0 := ⟨_, rfl⟩
  have hsz : W0.heap.size = w.heap.size + 4 := by rw [← hW0]; simp
  have hB0 : Blk W0 (w.heap.size + 1 + 1 + 1) [.pointer (some ⟨bt, 0, none⟩)] 70 := by
    have := Blk.new2 (w := w.alloc (.cells #[.int .i64 r] 3)) (o := .cells #[.pointer (some ⟨bt, 0, none⟩)] 70) (o2 := .cells #[.int .i64 0] 3) (cs := #[.pointer (some ⟨bt, 0, none⟩)]) (cl := [.pointer (some ⟨bt, 0, none⟩)]) 70 rfl
    rw [← hW0]
    simpa using this
  have hB2 : Blk W0 (w.heap.size + 1 + 1) [.int .i64 0] 3 := by
    have := (Blk.new1 (w := w.alloc (.cells #[.int .i64 r] 3)) (o := .cells #[.pointer (some ⟨bt, 0, none⟩)] 70) (cs := #[.int .i64 0]) (cl := [.int .i64 0]) 3 rfl).alloc (.cells #[.pointer (some ⟨bt, 0, none⟩)] 70)
    rw [← hW0]
    simpa using this
  have hB1 : Blk W0 (w.heap.size + 1) [.pointer (some ⟨bt, 0, none⟩)] 70 := by
    have := ((Blk.new' (w := w.alloc (.cells #[.int .i64 r] 3)) (cs := #[.pointer (some ⟨bt, 0, none⟩)]) (cl := [.pointer (some ⟨bt, 0, none⟩)]) 70 rfl).alloc (.cells #[.int .i64 0] 3)).alloc (.cells #[.pointer (some ⟨bt, 0, none⟩)] 70)
    rw [← hW0]
    simpa using this
  have hBr : Blk W0 w.heap.size [.int .i64 r] 3 := by
    rw [← hW0]
    exact (((Blk.new' (w := w) (cs := #[.int .i64 r]) (cl := [.int .i64 r]) 3 rfl).alloc _).alloc _).alloc _
  have hK : Keep No w W0 := by rw [← hW0]; exact ((((Keep.refl _ _).alloc _).alloc _).alloc _).alloc _
  rw [hW0]
  clear hW0
  have hI0 := is_keep HI.out hK (no _) (no _)
  obtain ⟨bits, es, hT, hTI⟩ := id hI0
  have hok := hTI.ok
  have hLn : L.length ≤ 65536 := by have := hTI.room; have := hTI.n_le; omega
  refine wp_range (gf := 48) (lb := #[.pointer (some ⟨w.heap.size + 1 + 1 + 1, 0, none⟩)]) (encs := encs) (xs := L) rfl (enters_of Try.func48 (by kernel_rfl) rfl) (all_seq _ _ _ bits most _ es _ _ hB0 hT hTI) (fun _ => rfl)
    (fun O s W => Blk W w.heap.size [.int .i64 r] 3 ∧ Blk W (w.heap.size + 1) [.pointer (some ⟨bt, 0, none⟩)] 70 ∧ Blk W (w.heap.size + 1 + 1) [.int .i64 (s.countP (phit r) : Nat)] 3 ∧ Is W bt bs most (pfold r s L) ∧ Keep (W2.At bt bs) w W) (fun _ _ _ _ => False) ?h0 ?hI (fun _ _ _ _ _ h _ _ => h) ?hround ?hdone (fun _ _ _ _ _ _ _ _ h => h.elim)
  case h0 =>
    intro O W hW hO
    exact ⟨hBr.mod hW (no _), hB1.mod hW (no _), hB2.mod hW (no _), is_keep hI0 hW (no _) (no _), (hK.trans hW (fun _ _ h => h)).mono (fun _ _ h => h.elim)⟩
  case hI =>
    intro O s A B hs hAB hO
    obtain ⟨s1, s2, s3, s4, s5⟩ := hs
    have hne : ∀ k, k < W0.heap.size → ¬ O k := fun k hk h => by have := (hO _ h).1; omega
    exact ⟨s1.mod hAB (hne _ (by omega)), s2.mod hAB (hne _ (by omega)), s3.mod hAB (hne _ (by omega)), is_keep s4 hAB (hne _ (by omega)) (hne _ (by omega)), s5.trans hAB (fun k hk h => absurd h (hne _ (by omega)))⟩
  case hround =>
    intro l O pre x W hI hp hO
    have hxm : x ∈ L := hp.subset (by simp)
    obtain ⟨ho1, ho2, ho3, ho4, ho5, ho6, ho7, ho8⟩ := (hok x hxm).1
    have hlen := hp.length_le
    simp only [List.length_append, List.length_singleton] at hlen
    have hcn : pre.countP (phit r) ≤ 65536 := Nat.le_trans List.countP_le_length (by omega)
    have hcn0 : (0 : Int) ≤ (pre.countP (phit r) : Nat) := by omega
    have hcn1 : ((pre.countP (phit r) : Nat) : Int) ≤ 65536 := by omega
    simp only [encs, valE]
    have HHI := hid hI
    have HO := hid hO
    have HLe := hid hLn
    clear hI hO hp hlen hok hLn hcn hT hTI hI0
    gi_wp2
    refine ⟨⟨by simp, fun k hk => Below.heap_alloc _ _ _ (HO.out k hk).2⟩, ⟨HHI.out.1.alloc _, HHI.out.2.1.alloc _, HHI.out.2.2.1.alloc _, is_keep HHI.out.2.2.2.1 ((Keep.refl No _).alloc _) (no _) (no _), HHI.out.2.2.2.2.alloc _⟩, ?_⟩
    intro W2 hK2 hs2 hI2
    obtain ⟨hBr2, hB12, hB22, hIs2, hKp2⟩ := hI2
    have hB9 : Blk W2 W.heap.size [.int .u64 x.h, .int .u64 x.a, .int .u64 x.v, .int .u8 x.c] 27 := (Blk.new' 27 rfl).mod hK2 (fun h => by have := (HO.out _ h).2; omega)
    obtain ⟨z9, d0, d1, d2, d3, f9⟩ := hB9.four
    obtain ⟨zr, cr, fr⟩ := hBr2.one
    obtain ⟨z1, c1, f1⟩ := hB12.one
    obtain ⟨z2, c2, f2⟩ := hB22.one
    have H2r := hid hBr2
    have H21 := hid hB12
    have H22 := hid hB22
    have HIs := hid hIs2
    have HKp := hid hKp2
    have HO2 := hid (fun k hk => (⟨(HO.out k hk).1, by have := (HO.out k hk).2; rw [hs2]; simp; omega⟩ : W0.heap.size ≤ k ∧ k < W2.heap.size))
    clear hBr2 hB12 hB22 hIs2 hKp2 hB9 hK2 hs2
    by_cases h0 : r < 0
    · have h1 : decide (r < 0) = true := by simpa using h0
      have hph : phit r x = false := by unfold phit; rw [decide_eq_false (by omega)]; rfl
      have HPH := hid hph
      clear hph h0
      gi_wp2
      refine ⟨Sta.refl _ _, H2r.out, H21.out, ?_, ?_, HKp.out⟩
      · rw [pcount_snoc, HPH.out]; exact H22.out
      · rw [pfold_snoc, HPH.out]; exact HIs.out
    · have h1 : decide (r < 0) = false := by simpa using h0
      have hwr : IntKind.u64.wrap r = r := IntWalk.u64_in _ ⟨by omega, by have := HR2.out; omega⟩
      by_cases hph : phit r x = true
      · have hb : (x.a / 281474976710656 != r) = false := by
          unfold phit at hph
          simp only [Bool.and_eq_true] at hph
          rw [bne, hph.2]
          rfl
        have HPH := hid hph
        obtain ⟨bits2, es2, hT2, hI2⟩ := HIs.out
        have hrem := remove_any bt bs bits2 most es2 _ x.h W2 hT2 hI2 ho1 ho2
        have t1 : (Fence.wide.inRound l).fn 29 := trivial
        clear hph h0 hT2 hI2
        gi_wp2_with fail
        refine ⟨trivial, CallsIn.mono (CallsIn.inRound l (callsIn_wide.2 hrem)) ?_⟩
        rintro e W3 ⟨rfl, hk3, hI3⟩
        have hb0 : w.heap.size + 1 + 1 ≠ bt := by omega
        have h3r := hid (H2r.out.mod hk3 (by rintro (h | h) <;> omega))
        have h31 := hid (H21.out.mod hk3 (by rintro (h | h) <;> omega))
        have h32 := hid (H22.out.mod hk3 (by rintro (h | h) <;> omega))
        obtain ⟨y2, e2, g2⟩ := h32.out.one
        have HI3 := hid hI3
        have HK3 := hid hk3
        clear hI3 hk3 hrem c2 f2
        gi_wp2
        have hk : Keep (fun k => At bt bs k ∨ k = w.heap.size + 1 + 1) W2 (W3.setCell ⟨w.heap.size + 1 + 1, 0, none⟩ (.int .i64 ((pre.countP (phit r) : Nat) + 1))) := (HK3.out.mono (fun _ _ h => .inl h)).setCell _ _ (fun _ => .inr rfl)
        have hkb : Keep (fun k => k = w.heap.size + 1 + 1) W3 (W3.setCell ⟨w.heap.size + 1 + 1, 0, none⟩ (.int .i64 ((pre.countP (phit r) : Nat) + 1))) := (Keep.refl _ _).setCell _ _ (fun _ => rfl)
        refine ⟨Sta.of_keep hk (fun k hk => ⟨(HO2.out k hk).2, ?_⟩), h3r.out.mod hkb (by omega), h31.out.mod hkb (by omega), ?_, ?_, ?_⟩
        · have := (HO2.out k hk).1
          rintro ((h | h) | h) <;> omega
        · rw [pcount_snoc, HPH.out]; exact h32.out.set 0 _
        · rw [pfold_snoc, HPH.out]; exact is_keep HI3.out hkb (by omega) (by omega)
        · exact (HKp.out.trans HK3.out (fun _ _ h => h)).setCell _ _ (fun h => absurd (show w.heap.size + 1 + 1 < w.heap.size from h) (by omega))
      · have hb : (x.a / 281474976710656 != r) = true := by
          unfold phit at hph
          rw [decide_eq_true (by omega : 0 ≤ r), Bool.true_and] at hph
          simp only [Bool.not_eq_true] at hph
          rw [bne, hph]
          rfl
        have hph' : phit r x = false := by simpa using hph
        have HPH := hid hph'
        clear hph h0 hph'
        gi_wp2
        refine ⟨Sta.refl _ _, H2r.out, H21.out, ?_, ?_, HKp.out⟩
        · rw [pcount_snoc, HPH.out]; exact H22.out
        · rw [pfold_snoc, HPH.out]; exact HIs.out
  case hdone => 
    intro D O W hD hOD hO hI hm
    obtain ⟨hb, hb1, hb2, his, hk⟩ := hI
    obtain ⟨z0, c0, f0⟩ := hb2.one
    have HK := hid hk
    have HF := hid his
    clear hb hk his hb1 hb2 hB0 hB1 hB2 hBr hK hI0 hT hTI hok
    go_wp2
    rw [Exit.noGoto_ret]
    refine marks_ret (base := w.heap.size) ⟨[D], rfl, by simp, by simp; exact ⟨by omega, hm⟩⟩ fun W2 hW2 => ⟨_, results_tmp rfl _ _ _, rfl, ?_, ?_⟩
    · exact HK.out.trans hW2 (fun k hk h => by have := h.1; omega)
    · exact is_keep HF.out hW2 (fun h => by have := h.1; omega) (fun h => by have := h.1; omega)
end Go.Proofs.Ytaijfgajcmopfaa.X6
