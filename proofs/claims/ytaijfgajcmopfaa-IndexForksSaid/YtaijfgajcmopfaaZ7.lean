import Derived.Test.YtaijfgajcmopfaaZ6
/- IndexForks, walked. -/
set_option linter.unusedVariables false
set_option linter.unusedSimpArgs false
namespace Go.Proofs.Ytaijfgajcmopfaa.Z7
open Go.RowKit Go.Shelf V Rh T W1 W2 W3 W4 W6 W10 Rf X1 X2 X3 X4 X5 X6 X7 Pl Y1 Y2 Y3 Y4 Y5 Y6 Y7 Y8 Y9 Y10 Y12 Y14 Ap Ar Z1 Z2 Z3 Z4 Z5 Z6

/-- two pairs, apart -/
structure Two (w wr : World) (p q p2 q2 : Value) (most : Nat) (L L2 : List (List Ent)) (F G F2 G2 : Nat → Prop) : Prop where
  one : Play w wr p q most L F G
  two : Play w wr p2 q2 most L2 F2 G2
  off : ∀ k, F k ∨ G k → ¬ (F2 k ∨ G2 k)

section
variable {w wr wr' : World} {p q p2 q2 : Value} {most : Nat} {L L2 L' : List (List Ent)} {F G F2 G2 : Nat → Prop}
theorem Two.go (h : Two w wr p q p2 q2 most L L2 F G F2 G2) (k : Keep No wr wr') : Two w wr' p q p2 q2 most L L2 F G F2 G2 := ⟨h.one.go k, h.two.go k, h.off⟩
theorem Two.flip (h : Two w wr p q p2 q2 most L L2 F G F2 G2) : Two w wr p2 q2 p q most L2 L F2 G2 F G := ⟨h.two, h.one, fun k h1 h2 => h.off k h2 h1⟩
theorem Two.then (h : Two w wr p q p2 q2 most L L2 F G F2 G2) (k : BThen wr wr' p q most L' F G) : ∃ F' G', Two w wr' p q p2 q2 most L' L2 F' G' F2 G2 := by
  obtain ⟨k1, F', G', k2, k3, k4⟩ := id k
  have hs := h.one.keep.size
  have h1 := h.one
  have hl2 := h.two.both.lt
  refine ⟨F', G', ⟨k2, ?_, h1.keep.trans k1 (fun i hi e => by have := h1.new i e; omega)⟩, ⟨h.two.both.keep k1 (fun k hk e => h.off k e hk), h.two.new, h.two.keep.trans k1 (fun i hi e => by have := h1.new i e; omega)⟩, ?_⟩
  · rintro k (hk | hk)
    · rcases k3 k hk with e | e
      · exact h1.new k (.inl e)
      · omega
    · rcases k4 k hk with e | e
      · exact h1.new k (.inr e)
      · omega
  · intro k hk h2
    have hlt := hl2 k h2
    rcases hk with hk | hk
    · rcases k3 k hk with e | e
      · exact h.off k (.inl e) h2
      · omega
    · rcases k4 k hk with e | e
      · exact h.off k (.inr e) h2
      · omega
end

theorem op_cells {W : World} {b off i : Nat} {o : Opr} (h : ∀ k u, (cellsO o)[k]? = some u → W.cell? ⟨b, off + i * 8 + k, none⟩ = some u) :
    W.cell? ⟨b, off + i * 8, none⟩ = some (.int .i64 o.k) ∧ W.cell? ⟨b, off + i * 8 + 1, none⟩ = some (.int .u64 o.e.h) ∧ W.cell? ⟨b, off + i * 8 + 2, none⟩ = some (.int .u64 o.e.a) ∧ W.cell? ⟨b, off + i * 8 + 3, none⟩ = some (.int .u64 o.e.v) ∧ W.cell? ⟨b, off + i * 8 + 4, none⟩ = some (.int .u8 o.e.c) ∧ W.cell? ⟨b, off + i * 8 + 5, none⟩ = some (.int .u64 o.at') ∧ W.cell? ⟨b, off + i * 8 + 6, none⟩ = some (.int .i64 o.n) ∧ W.cell? ⟨b, off + i * 8 + 7, none⟩ = some (.int .i64 o.m) :=
  ⟨h 0 _ rfl, h 1 _ rfl, h 2 _ rfl, h 3 _ rfl, h 4 _ rfl, h 5 _ rfl, h 6 _ rfl, h 7 _ rfl⟩

set_option maxRecDepth 100000 in
set_option maxHeartbeats 1000000 in
theorem forks_no (n b m : Int) (d v2 : Value) (w : World) (h : badS n b m) :
    Calls Try.prog 5 #[valS n b m d, v2] w fun e w' => e = .returned (.bool true) ∧ Keep No w w' := by
  have hb := fun W => begin_no n b m d W h
  have HB := hid hb
  clear hb h
  unfold valS at *
  go_enter Try.func5, Try.ntmps5
  go_wp2_with (go_at_call 13; refine (HB.out _).mono ?_; rintro e w1 ⟨rfl, hk⟩; have HK := hid (((Keep.refl No w).alloc _).trans hk (fun _ _ e => e)); clear hk)
  go_ret
  exact ⟨rfl, HK.out⟩

set_option maxRecDepth 100000 in
set_option maxHeartbeats 2000000 in
theorem forks_yes (n b m : Int) (d v2 : Value) (os os2 : List Opr) (w : World) (h : ¬ badS n b m) (hO : Ops w d os) (hO2 : Ops w v2 os2) :
    Calls Try.prog 5 #[valS n b m d, v2] w fun e w' => e = .returned (.bool true) ∧ Keep No w w' := by
  have hb := fun W => begin_yes n b m d W h
  have HB := hid hb
  have HOK := hid hO.1
  have HLen := hid hO.2.1
  have HOK2 := hid hO2.1
  have HLen2 := hid hO2.2.1
  have HBx : Hid (Blk (w.alloc (.cells #[.int .i64 n, .int .i64 b, .int .i64 m, d] 24)) w.heap.size [.int .i64 n, .int .i64 b, .int .i64 m, d] 24) := Blk.new' _ rfl
  obtain ⟨a, cap, rfl, hform⟩ := hO.form
  obtain ⟨a2, cap2, rfl, hform2⟩ := hO2.form
  have HF := hid hform
  have HF2 := hid hform2
  clear hb h hO hform hO2 hform2
  generalize lists0 n = Ls0 at *
  generalize m.toNat = most at *
  unfold valS ptr at *
  have hn0 : (0 : Int) ≤ (os.length : Int) := by omega
  have hn2 : (0 : Int) ≤ (os2.length : Int) := by omega
  obtain ⟨z0, c0, c1, c2, c3, _⟩ := HBx.out.four
  go_enter Try.func5, Try.ntmps5
  go_wp2_with fail
  refine (HB.out _).mono ?_
  rintro e w1 ⟨bx, br, F, G, rfl, hB, hN, hk⟩
  have hP : Play w w1 (ptr bx) (ptr br) most Ls0 F G := ⟨hB, fun k hk => by have := hN k hk; simp at this; omega, ((Keep.refl No w).alloc _).trans hk (fun _ _ e => e)⟩
  obtain ⟨y0, d0, d1, d2, d3, _⟩ := (HBx.out.mod hk (no _)).four
  have HP := hid hP
  clear hB hN hk hP c0 c1 c2 c3
  go_wp2
  go_loopw [30] (fun s wr => ∃ (i : Nat) (F G : Nat → Prop), s = .int .i64 i ∧ i ≤ os.length ∧ Hid (Play w wr (ptr bx) (ptr br) most (playL most (os.take i) Ls0) F G)) (fun s wr => os.length - (intOf s).toNat)
  case atStart => exact ⟨0, F, G, rfl, Nat.zero_le _, HP.out⟩
  case round =>
    obtain ⟨i, F, G, rfl, hi, HPi⟩ := hrel
    by_cases hil : i < os.length
    · have hil' : (i : Int) < os.length := by omega
      have hi0 : (0 : Int) ≤ i := by omega
      obtain ⟨ob, off, rfl, hob, hcells⟩ := HF.out i hil
      obtain ⟨o, ho⟩ : ∃ o, os.getD i ⟨0, z, 0, 0, 0⟩ = o := ⟨_, rfl⟩
      rw [ho] at hcells
      have hkw := HPi.out.keep
      obtain ⟨e0, e1, e2, e3, e4, e5, e6, e7⟩ := op_cells (W := wr) (fun k u hu => (World.cell?_of_block (hkw.block ob hob (no _))).trans (hcells k u hu))
      have hom : o ∈ os := by rw [← ho]; simp [List.getD_eq_getElem?_getD, hil]
      have htk : os.take (i + 1) = os.take i ++ [o] := by rw [List.take_succ_eq_append_getElem hil, ← ho]; simp [List.getD_eq_getElem?_getD, hil]
      have hdoes := fun W (hW : Keep No wr W) => does_both (HPi.out.both.keep hW (fun _ _ => no _)) o (HOK.out o hom)
      have HD := hid hdoes
      have HT := hid htk
      have hmx : (i : Int) + 1 ≤ 9223372036854775807 := by have := HLen.out; unfold maxLen at this; omega
      clear hcells hkw ho hom hdoes htk
      unfold valO ptr at HD
      go_wp2_with (go_at_call 14; refine (HD.out _ ((Keep.refl _ _).alloc _)).mono ?_; rintro e w2 ⟨rfl, hT⟩; obtain ⟨F', G', hP'⟩ := (HPi.out.go ((Keep.refl _ _).alloc _)).then hT; have HP' := hid hP'; clear hT hP' e0 e1 e2 e3 e4 e5 e6 e7)
      refine ⟨⟨i + 1, F', G', by go_num, hil, ?_⟩, by simp [intOf]; omega⟩
      rw [HT.out, playL_snoc]
      exact HP'.out
    · have hie : i = os.length := by omega
      subst hie
      have hp := HPi.out
      rw [List.take_length] at hp
      generalize playL most os Ls0 = Lp at *
      have hfk := fun W (hW : Keep No wr W) => fork_has (hp.both.has.keep hW (fun _ _ => no _))
      have hrfk := fun W (hW : Keep No wr W) => rfork_has (hp.both.rhas.keep hW (fun _ _ => no _)) hp.both.good
      have HFK := hid hfk
      have HRF := hid hrfk
      have HPe := hid hp
      clear hp hfk hrfk
      unfold ptr at *
      go_wp2_with (first | (go_at_call 15; refine (HFK.out _ (Keep.refl _ _)).mono ?_; rintro e w2 ⟨by', F2, rfl, hH2, hN2, hk2⟩; have HH2 := hid hH2; have HN2 := hid hN2; have HK2 := hid hk2; clear hH2 hN2 hk2) | (go_at_call 16; refine (HRF.out _ HK2.out).mono ?_; rintro e w3 ⟨q2, G2, rfl, hH3, hN3, hk3⟩; have HH3 := hid hH3; have HN3 := hid hN3; have HK3 := hid hk3; clear hH3 hN3 hk3))
      have hTwo : ∃ F2 G2, Two w w3 (ptr bx) (ptr br) (ptr by') q2 most Lp Lp F G F2 G2 := by
        have hs2 := HK2.out.size
        have hs0 := HPe.out.keep.size
        have hlt := HPe.out.both.lt
        have h2 := HH2.out.lt
        refine ⟨_, _, (HPe.out.go HK2.out).go HK3.out, ⟨⟨HH2.out.keep HK3.out (fun _ _ => no _), HH3.out, fun k hk hg => ?_⟩, ?_, (HPe.out.keep.trans HK2.out (fun _ _ e => e)).trans HK3.out (fun _ _ e => e)⟩, fun k hk hg => ?_⟩
        · have := h2 k hk; have := HN3.out k hg; omega
        · rintro k (hk | hk)
          · have := HN2.out k hk; omega
          · have := HN3.out k hk; omega
        · have := hlt k hk
          rcases hg with hg | hg
          · have := HN2.out k hg; omega
          · have := HN3.out k hg; omega
      obtain ⟨F2, G2, hTwo⟩ := hTwo
      have HTwo := hid hTwo
      clear hTwo
      go_loopw [48] (fun s wr => ∃ (i : Nat) (L L2 : List (List Ent)) (F G F2 G2 : Nat → Prop), s = .int .i64 i ∧ i ≤ os2.length ∧ Hid (Two w wr (ptr bx) (ptr br) (ptr by') q2 most L L2 F G F2 G2)) (fun s wr => os2.length - (intOf s).toNat)
      case atStart => exact ⟨0, _, _, F, G, _, _, rfl, Nat.zero_le _, HTwo.out⟩
      case round =>
        obtain ⟨i, L, L2, F, G, F2, G2, rfl, hi, HPi⟩ := hrel
        by_cases hil : i < os2.length
        · have hil' : (i : Int) < os2.length := by omega
          have hi0 : (0 : Int) ≤ i := by omega
          obtain ⟨ob, off, rfl, hob, hcells⟩ := HF2.out i hil
          obtain ⟨o, ho⟩ : ∃ o, os2.getD i ⟨0, z, 0, 0, 0⟩ = o := ⟨_, rfl⟩
          rw [ho] at hcells
          have hkw := HPi.out.one.keep
          obtain ⟨e0, e1, e2, e3, e4, e5, e6, e7⟩ := op_cells (W := wr) (fun k u hu => (World.cell?_of_block (hkw.block ob hob (no _))).trans (hcells k u hu))
          have hom : o ∈ os2 := by rw [← ho]; simp [List.getD_eq_getElem?_getD, hil]
          have hdoes := fun W (hW : Keep No wr W) => does_both (HPi.out.one.both.keep hW (fun _ _ => no _)) o (HOK2.out o hom)
          have hdoes2 := fun W (hW : Keep No wr W) => does_both (HPi.out.two.both.keep hW (fun _ _ => no _)) o (HOK2.out o hom)
          have HD := hid hdoes
          have HD2 := hid hdoes2
          have hmx : (i : Int) + 1 ≤ 9223372036854775807 := by have := HLen2.out; unfold maxLen at this; omega
          clear hcells hkw ho hom hdoes hdoes2
          unfold valO ptr at HD HD2
          rcases (by omega : i % 2 = 0 ∨ i % 2 = 1) with hpar | hpar
          · have hp1 : (i : Int).tmod 2 = 0 := by rw [Int.tmod_eq_emod_of_nonneg hi0]; omega
            have hp2 : (i : Int) % 2 = 0 := by omega
            clear hpar
            go_wp2_with (go_at_call 14; refine (HD.out _ ((Keep.refl _ _).alloc _)).mono ?_; rintro e w4 ⟨rfl, hT⟩; obtain ⟨F', G', hP'⟩ := (HPi.out.go ((Keep.refl _ _).alloc _)).then hT; have HP' := hid hP'; clear hT hP' e0 e1 e2 e3 e4 e5 e6 e7)
            exact ⟨⟨i + 1, _, _, F', G', _, _, by go_num, hil, HP'.out⟩, by simp [intOf]; omega⟩
          · have hp1 : (i : Int).tmod 2 = 1 := by rw [Int.tmod_eq_emod_of_nonneg hi0]; omega
            have hp2 : (i : Int) % 2 = 1 := by omega
            clear hpar
            go_wp2_with (go_at_call 14; refine (HD2.out _ ((Keep.refl _ _).alloc _)).mono ?_; rintro e w4 ⟨rfl, hT⟩; obtain ⟨F', G', hP'⟩ := (HPi.out.flip.go ((Keep.refl _ _).alloc _)).then hT; have HP' := hid hP'.flip; clear hT hP' e0 e1 e2 e3 e4 e5 e6 e7)
            exact ⟨⟨i + 1, _, _, _, _, F', G', by go_num, hil, HP'.out⟩, by simp [intOf]; omega⟩
        · have hs1 := fun W (hW : Keep No wr W) => same_both (HPi.out.one.both.keep hW (fun _ _ => no _))
          have hs2 := fun W (hW : Keep No wr W) => same_both (HPi.out.two.both.keep hW (fun _ _ => no _))
          have HS1 := hid hs1
          have HS2 := hid hs2
          clear hs1 hs2
          unfold ptr at HS1 HS2
          go_wp2_with fail
          refine (HS1.out _ (Keep.refl _ _)).mono ?_
          rintro e w4 ⟨rfl, hk4⟩
          have HK4 := hid hk4
          clear hk4
          go_wp2_with fail
          refine (HS2.out _ HK4.out).mono ?_
          rintro e w5 ⟨rfl, hk5⟩
          have HK5 := hid hk5
          clear hk5
          go_wp2
          go_ret
          exact ⟨rfl, (HPi.out.one.keep.trans HK4.out (fun _ _ e => e)).trans HK5.out (fun _ _ e => e)⟩

theorem forks_any (n b m : Int) (d v2 : Value) (os os2 : List Opr) (w : World) (hO : Ops w d os) (hO2 : Ops w v2 os2) :
    Calls Try.prog 5 #[valS n b m d, v2] w fun e w' => e = .returned (.bool true) ∧ Keep No w w' := by
  by_cases h : badS n b m
  · exact forks_no n b m d v2 w h
  · exact forks_yes n b m d v2 os os2 w h hO hO2
end Go.Proofs.Ytaijfgajcmopfaa.Z7
