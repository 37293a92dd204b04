import Derived.Test.YtaijfgajcmopfaaZ4
/- same, begin (law). -/
set_option linter.unusedVariables false
set_option linter.unusedSimpArgs false
namespace Go.Proofs.Ytaijfgajcmopfaa.Z5
open Go.RowKit Go.Shelf V Rh T W1 W2 W3 W4 W6 W10 Rf X1 X2 X3 X4 X5 X6 X7 Pl Y1 Y2 Y3 Y4 Y5 Y6 Y7 Y8 Y9 Y10 Y12 Y14 Ap Z1 Z2 Z3 Z4

set_option maxRecDepth 100000 in
set_option maxHeartbeats 1000000 in
theorem same_both {w : World} {p q : Value} {most : Nat} {Ls : List (List Ent)} {F G : Nat → Prop} (hB : Both w p q most Ls F G) : Calls Try.prog 17 #[p, q] w fun e w' => e = .returned (.bool true) ∧ Keep No w w' := by
  obtain ⟨br, ba, vs, rfl, hX, _⟩ := id hB.rhas
  obtain ⟨cap, hcap, hb⟩ := hX.head
  have hn64 := hX.most64
  have hall : ∀ (k : Int) W, Keep No w W → Calls Try.prog 40 #[p, ptr br, .int .i64 k, .int .i64 1] W fun e w' => e = .returned (.bool true) ∧ Keep No W w' := fun k W hW => all_both (hB.keep hW (fun _ _ => no _)) k 1
  have hlen : ∀ (k : Int) W, Keep No w W → Calls Try.prog 19 #[p, .int .i64 k] W fun e w' => e = .returned (.int .i64 (xall k Ls).length) ∧ W = w' := fun k W hW => len_has (hB.has.keep hW (fun _ _ => no _)) k
  have hrlen : ∀ (k : Int), -9223372036854775808 ≤ k → k < 9223372036854775808 → ∀ W, Keep No w W → Calls Try.prog 41 #[ptr br, .int .i64 k] W fun e w' => e = .returned (.int .i64 (xall k Ls).length) ∧ W = w' := fun k h1 h2 W hW => rlen_has (hB.rhas.keep hW (fun _ _ => no _)) k h1 h2
  have HALL := hid hall
  have HLEN := hid hlen
  have HRL := hid hrlen
  have HB := hid hb
  clear hB hX hb hall hlen hrlen hcap
  unfold ptr at *
  generalize Ls.length = n at *
  go_enter Try.func17, Try.ntmps17
  go_wp2
  go_loopw [5] (fun s wr => ∃ k : Int, s = .int .i64 k ∧ -1 ≤ k ∧ k ≤ n + 1 ∧ Keep No w wr) (fun s wr => (n + 1 - intOf s).toNat)
  case atStart => exact ⟨-1, rfl, by omega, by omega, Keep.refl _ _⟩
  case round =>
    obtain ⟨k, rfl, hk1, hk2, hK⟩ := hrel
    obtain ⟨z1, d0, d1, g0⟩ := (HB.out.mod hK (no _)).two
    have HK := hid hK
    clear hK
    have hk3 : k ≤ 65 := by omega
    by_cases hkn : k ≤ n
    · go_wp2_with (first | (go_at_call 40; refine (HALL.out k _ HK.out).mono ?_; rintro e w1 ⟨rfl, hk⟩; have HK1 := hid (HK.out.trans hk (fun _ _ e => e)); clear hk) | (go_at_call 19; refine (HLEN.out k _ HK1.out).mono ?_; rintro e w2 ⟨rfl, rfl⟩) | (go_at_call 41; refine (HRL.out k (by omega) (by omega) _ HK1.out).mono ?_; rintro e w2 ⟨rfl, rfl⟩))
      exact ⟨⟨k + 1, by go_num, by omega, by omega, HK1.out⟩, by simp [intOf]; omega⟩
    · go_wp2
      go_ret
      exact ⟨rfl, HK.out⟩

/-- the fields of a script -/
def valS (n b m : Int) (d : Value) : Value := .agg #[.int .i64 n, .int .i64 b, .int .i64 m, d]
def I64 (x : Int) : Prop := -9223372036854775808 ≤ x ∧ x < 9223372036854775808

set_option maxRecDepth 100000 in
set_option maxHeartbeats 1000000 in
theorem begin_bad (n b m : Int) (d : Value) (w : World) (err : Int) (hx : ∀ W, Keep No w W → Calls Try.prog 30 #[.int .i64 n, .int .i64 b, .int .i64 m] W fun e w' => e = .returned (.tuple #[.pointer none, .int .i64 err]) ∧ Keep No W w')
    (hr : ∀ W, Keep No w W → Calls Try.prog 31 #[.int .i64 n, .int .i64 b, .int .i64 m] W fun e w' => e = .returned (.tuple #[.pointer none, .int .i64 err]) ∧ W = w') :
    Calls Try.prog 13 #[valS n b m d] w fun e w' => e = .returned (.tuple #[.pointer none, .pointer none, .bool true]) ∧ Keep No w w' := by
  have HB : Hid (Blk (w.alloc (.cells #[.int .i64 n, .int .i64 b, .int .i64 m, d] 24)) w.heap.size [.int .i64 n, .int .i64 b, .int .i64 m, d] 24) := Blk.new' _ rfl
  have HX := hid hx
  have HR := hid hr
  clear hx hr
  unfold valS
  go_enter Try.func13, Try.ntmps13
  go_wp2_with (first | (go_at_call 30; refine (HX.out _ ((Keep.refl _ _).alloc _)).mono ?_; rintro e w1 ⟨rfl, hk⟩; obtain ⟨z0, c0, c1, c2, c3, _⟩ := (HB.out.mod hk (no _)).four; have HK := hid (((Keep.refl No w).alloc _).trans hk (fun _ _ e => e)); clear hk) | (go_at_call 31; refine (HR.out _ HK.out).mono ?_; rintro e w2 ⟨rfl, rfl⟩) | (go_at_call 18; refine (awake_any _).mono ?_; rintro e w3 ⟨rfl, hk⟩; have HK3 := hid (HK.out.trans hk (fun _ _ e => e)); clear hk))
  go_ret3
  exact ⟨rfl, HK3.out⟩

set_option maxRecDepth 100000 in
set_option maxHeartbeats 1000000 in
theorem begin_good (n b m : Nat) (d : Value) (w : World) (h1 : 1 ≤ n) (h2 : n ≤ 64) (hb : 2 ≤ b) (hm : b ≤ m) (h16 : m ≤ 16) :
    Calls Try.prog 13 #[valS n b m d] w fun e w' => ∃ bx br F G, e = .returned (.tuple #[ptr bx, ptr br, .bool true]) ∧ Both w' (ptr bx) (ptr br) m (List.replicate n []) F G ∧ (∀ k, F k ∨ G k → w.heap.size ≤ k) ∧ Keep No w w' := by
  have HB : Hid (Blk (w.alloc (.cells #[.int .i64 n, .int .i64 b, .int .i64 m, d] 24)) w.heap.size [.int .i64 n, .int .i64 b, .int .i64 m, d] 24) := Blk.new' _ rfl
  have HX : Hid (∀ W, _) := hid (fun W => new_any n b m W h1 h2 hb hm h16)
  have HR : Hid (∀ W, _) := hid (fun W => rnew_any n b m W h1 h2 hb hm h16)
  unfold valS ptr at *
  go_enter Try.func13, Try.ntmps13
  go_wp2_with (first | (go_at_call 30; refine (HX.out _).mono ?_; rintro e w1 ⟨bx, rfl, bl, bts, bss, hX, hF, hk⟩; obtain ⟨z0, c0, c1, c2, c3, _⟩ := (HB.out.mod hk (no _)).four; have HK := hid (((Keep.refl No w).alloc _).trans hk (fun _ _ e => e)); have HXX := hid hX; have HF := hid hF; clear hk hX hF) | (go_at_call 31; refine (HR.out _).mono ?_; rintro e w2 ⟨br, ba, vs, rfl, hR, hG, hk⟩; have HRR := hid hR; have HG := hid hG; have HK2 := hid hk; clear hR hG hk) | (go_at_call 18; refine (awake_any _).mono ?_; rintro e w3 ⟨rfl, hk⟩; have HK3 := hid hk; clear hk))
  go_ret3
  have hsz : w.heap.size ≤ w1.heap.size := HK.out.size
  refine ⟨bx, br, _, _, rfl, ⟨⟨_, _, _, _, rfl, (HXX.out.keep HK2.out (fun _ _ => no _)).keep HK3.out (fun _ _ => no _), rfl⟩, ⟨_, _, _, rfl, HRR.out.keep HK3.out (fun _ _ => no _), rfl⟩, fun k hk hg => ?_⟩, ?_, (HK.out.trans HK2.out (fun _ _ e => e)).trans HK3.out (fun _ _ e => e)⟩
  · have := HXX.out.foot_lt k hk
    have := HG.out k hg
    omega
  · rintro k (hk | hk)
    · have := HF.out k hk; simp at this; omega
    · have := HG.out k hk; omega
end Go.Proofs.Ytaijfgajcmopfaa.Z5
