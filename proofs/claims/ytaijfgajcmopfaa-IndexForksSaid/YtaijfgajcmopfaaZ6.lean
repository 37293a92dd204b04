import Derived.Test.YtaijfgajcmopfaaZ5
/- played (law). -/
set_option linter.unusedVariables false
set_option linter.unusedSimpArgs false
namespace Go.Proofs.Ytaijfgajcmopfaa.Z6
open Go.RowKit Go.Shelf V Rh T W1 W2 W3 W4 W6 W10 Rf X1 X2 X3 X4 X5 X6 X7 Pl Y1 Y2 Y3 Y4 Y5 Y6 Y7 Y8 Y9 Y10 Y12 Y14 Ap Ar Z1 Z2 Z3 Z4 Z5

def badS (n b m : Int) : Prop := n < 1 ∨ 64 < n ∨ badB b m
def lists0 (n : Int) : List (List Ent) := List.replicate n.toNat []
def playL (most : Nat) (os : List Opr) (Ls : List (List Ent)) : List (List Ent) := os.foldl (fun L o => xdo most o L) Ls
theorem playL_snoc (most : Nat) (os : List Opr) (o : Opr) (Ls : List (List Ent)) : playL most (os ++ [o]) Ls = xdo most o (playL most os Ls) := by simp [playL]

theorem begin_no (n b m : Int) (d : Value) (w : World) (h : badS n b m) :
    Calls Try.prog 13 #[valS n b m d] w fun e w' => e = .returned (.tuple #[.pointer none, .pointer none, .bool true]) ∧ Keep No w w' := by
  by_cases h1 : n < 1 ∨ 64 < n
  · exact begin_bad n b m d w 1 (fun W _ => (new_arg n b m W h1).mono fun e w' hw => ⟨hw.1, hw.2 ▸ Keep.refl _ _⟩) (fun W _ => rnew_arg n b m W h1)
  · have h2 : badB b m := by rcases h with h | h | h; exact absurd (.inl h) h1; exact absurd (.inr h) h1; exact h
    exact begin_bad n b m d w 110 (fun W _ => new_bits n b m W (by omega) (by omega) h2) (fun W _ => rnew_bits n b m W (by omega) (by omega) h2)
theorem begin_yes (n b m : Int) (d : Value) (w : World) (h : ¬ badS n b m) :
    Calls Try.prog 13 #[valS n b m d] w fun e w' => ∃ bx br F G, e = .returned (.tuple #[ptr bx, ptr br, .bool true]) ∧ Both w' (ptr bx) (ptr br) m.toNat (lists0 n) F G ∧ (∀ k, F k ∨ G k → w.heap.size ≤ k) ∧ Keep No w w' := by
  have h1 : 1 ≤ n ∧ n ≤ 64 ∧ 2 ≤ b ∧ b ≤ m ∧ m ≤ 16 := by
    unfold badS badB at h
    omega
  obtain ⟨n', rfl⟩ := Int.eq_ofNat_of_zero_le (show 0 ≤ n by omega)
  obtain ⟨b', rfl⟩ := Int.eq_ofNat_of_zero_le (show 0 ≤ b by omega)
  obtain ⟨m', rfl⟩ := Int.eq_ofNat_of_zero_le (show 0 ≤ m by omega)
  exact begin_good n' b' m' d w (by omega) (by omega) (by omega) (by omega) (by omega)

/-- calls played on both, so far -/
structure Play (w wr : World) (p q : Value) (most : Nat) (Ls : List (List Ent)) (F G : Nat → Prop) : Prop where
  both : Both wr p q most Ls F G
  new : ∀ k, F k ∨ G k → w.heap.size ≤ k
  keep : Keep No w wr

theorem Play.go {w wr wr' : World} {p q : Value} {most : Nat} {Ls : List (List Ent)} {F G : Nat → Prop} (h : Play w wr p q most Ls F G) (k : Keep No wr wr') : Play w wr' p q most Ls F G :=
  ⟨h.both.keep k (fun _ _ => no _), h.new, h.keep.trans k (fun _ _ e => e)⟩
theorem Play.then {w wr wr' : World} {p q : Value} {most : Nat} {Ls Ls' : List (List Ent)} {F G : Nat → Prop} (h : Play w wr p q most Ls F G) (k : BThen wr wr' p q most Ls' F G) : ∃ F' G', Play w wr' p q most Ls' F' G' := by
  obtain ⟨k1, F', G', k2, k3, k4⟩ := k
  have hs := h.keep.size
  refine ⟨F', G', k2, ?_, h.keep.trans k1 (fun i hi e => by have := h.new i e; omega)⟩
  rintro k (hk | hk)
  · rcases k3 k hk with e | e
    · exact h.new k (.inl e)
    · omega
  · rcases k4 k hk with e | e
    · exact h.new k (.inr e)
    · omega

set_option maxRecDepth 100000 in
set_option maxHeartbeats 1000000 in
theorem played_no (n b m : Int) (d : Value) (w : World) (h : badS n b m) :
    Calls Try.prog 7 #[valS n b m d] w fun e w' => e = .returned (.tuple #[.pointer none, .bool true]) ∧ Keep No w w' := by
  have hb := fun W => begin_no n b m d W h
  have HB := hid hb
  clear hb h
  unfold valS at *
  go_enter Try.func7, Try.ntmps7
  go_wp2_with (go_at_call 13; refine (HB.out _).mono ?_; rintro e w1 ⟨rfl, hk⟩; have HK := hid (((Keep.refl No w).alloc _).trans hk (fun _ _ e => e)); clear hk)
  go_ret2
  exact ⟨rfl, HK.out⟩

set_option maxRecDepth 100000 in
set_option maxHeartbeats 1000000 in
theorem played_yes (n b m : Int) (d : Value) (os : List Opr) (w : World) (h : ¬ badS n b m) (hO : Ops w d os) :
    Calls Try.prog 7 #[valS n b m d] w fun e w' => ∃ bx br F G, e = .returned (.tuple #[ptr bx, .bool true]) ∧ Play w w' (ptr bx) (ptr br) m.toNat (playL m.toNat os (lists0 n)) F G := by
  have hb := fun W => begin_yes n b m d W h
  have HB := hid hb
  have HOK := hid hO.1
  have HLen := hid hO.2.1
  have HBx : Hid (Blk (w.alloc (.cells #[.int .i64 n, .int .i64 b, .int .i64 m, d] 24)) w.heap.size [.int .i64 n, .int .i64 b, .int .i64 m, d] 24) := Blk.new' _ rfl
  obtain ⟨a, cap, rfl, hform⟩ := hO.form
  have HF := hid hform
  clear hb h hO hform
  generalize lists0 n = Ls0 at *
  generalize m.toNat = most at *
  unfold valS ptr at *
  have hn0 : (0 : Int) ≤ (os.length : Int) := by omega
  obtain ⟨z0, c0, c1, c2, c3, _⟩ := HBx.out.four
  go_enter Try.func7, Try.ntmps7
  go_wp2_with fail
  refine (HB.out _).mono ?_
  rintro e w1 ⟨bx, br, F, G, rfl, hB, hN, hk⟩
  have hP : Play w w1 (ptr bx) (ptr br) most Ls0 F G := ⟨hB, fun k hk => by have := hN k hk; simp at this; omega, ((Keep.refl No w).alloc _).trans hk (fun _ _ e => e)⟩
  obtain ⟨y0, d0, d1, d2, d3, _⟩ := (HBx.out.mod hk (no _)).four
  have HP := hid hP
  clear hB hN hk hP c0 c1 c2 c3
  go_wp2
  go_loopw [2, 23] (fun x s wr => ∃ (i : Nat) (F G : Nat → Prop), x = .pointer (some ⟨bx, 0, none⟩) ∧ s = .int .i64 i ∧ i ≤ os.length ∧ Hid (Play w wr (ptr bx) (ptr br) most (playL most (os.take i) Ls0) F G)) (fun x s wr => os.length - (intOf s).toNat)
  case atStart => exact ⟨0, F, G, rfl, rfl, Nat.zero_le _, HP.out⟩
  case round =>
    obtain ⟨i, F, G, rfl, rfl, hi, HPi⟩ := hrel
    by_cases hil : i < os.length
    · have hil' : (i : Int) < os.length := by omega
      have hi0 : (0 : Int) ≤ i := by omega
      obtain ⟨ob, off, rfl, hob, hcells⟩ := HF.out i hil
      obtain ⟨o, ho⟩ : ∃ o, os.getD i ⟨0, z, 0, 0, 0⟩ = o := ⟨_, rfl⟩
      rw [ho] at hcells
      have hkw := HPi.out.keep
      have hcw : ∀ k u, (cellsO o)[k]? = some u → wr.cell? ⟨ob, off + i * 8 + k, none⟩ = some u := fun k u hu => (World.cell?_of_block (hkw.block ob hob (no _))).trans (hcells k u hu)
      have e0 : wr.cell? ⟨ob, off + i * 8, none⟩ = some (.int .i64 o.k) := hcw 0 _ rfl
      have e1 := hcw 1 _ rfl
      have e2 := hcw 2 _ rfl
      have e3 := hcw 3 _ rfl
      have e4 := hcw 4 _ rfl
      have e5 := hcw 5 _ rfl
      have e6 := hcw 6 _ rfl
      have e7 := hcw 7 _ rfl
      have hom : o ∈ os := by rw [← ho]; simp [List.getD_eq_getElem?_getD, hil]
      have htk : os.take (i + 1) = os.take i ++ [o] := by rw [List.take_succ_eq_append_getElem hil, ← ho]; simp [List.getD_eq_getElem?_getD, hil]
      have hdoes := fun W (hW : Keep No wr W) => does_both (HPi.out.both.keep hW (fun _ _ => no _)) o (HOK.out o hom)
      have HD := hid hdoes
      have HT := hid htk
      have hmx : (i : Int) + 1 ≤ 9223372036854775807 := by have := HLen.out; unfold maxLen at this; omega
      clear hcells hcw hkw ho hom hdoes htk
      unfold valO ptr at HD
      go_wp2_with (go_at_call 14; refine (HD.out _ ((Keep.refl _ _).alloc _)).mono ?_; rintro e w2 ⟨rfl, hT⟩; obtain ⟨F', G', hP'⟩ := (HPi.out.go ((Keep.refl _ _).alloc _)).then hT; have HP' := hid hP'; clear hT hP' e0 e1 e2 e3 e4 e5 e6 e7)
      refine ⟨⟨i + 1, F', G', rfl, by go_num, hil, ?_⟩, by simp [intOf]; omega⟩
      rw [HT.out, playL_snoc]
      exact HP'.out
    · have hie : i = os.length := by omega
      subst hie
      have hp := HPi.out
      rw [List.take_length] at hp
      have HPe := hid hp
      clear hp
      go_wp2
      go_ret2
      exact ⟨bx, br, F, G, rfl, HPe.out⟩
end Go.Proofs.Ytaijfgajcmopfaa.Z6
