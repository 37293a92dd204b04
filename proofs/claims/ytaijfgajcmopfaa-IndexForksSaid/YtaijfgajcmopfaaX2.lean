import Derived.Test.YtaijfgajcmopfaaX1
/- The index's calls, over what 'at' and the table's calls tell. -/
set_option linter.unusedVariables false
namespace Go.Proofs.Ytaijfgajcmopfaa.X2
open Go.RowKit Go.Shelf V Rh T W1 W2 W3 W4 W6 Rf X1

/-- W1 ~> W2 by R, in the midst of w ~> w': all else is of the call's own cells -/
def Around (w : World) (R : World → World → Prop) (w' : World) : Prop := ∃ A B, Keep No w A ∧ R A B ∧ A.heap.size ≤ B.heap.size ∧ Keep (fun k => w.heap.size ≤ k ∧ k < A.heap.size) B w'

set_option maxHeartbeats 400000 in
theorem get_walk (p q : Value) (h : Int) (en : Ent) (b : Bool) (w : World)
    (hat : ∀ W, Keep No w W → Calls Try.prog 44 #[p, .int .u64 h] W fun e w' => e = .returned q ∧ ∃ n, W.drewN n = w')
    (hget : ∀ W, Keep No w W → Calls Try.prog 45 #[q, .int .u64 h] W fun e w' => e = .returned (.tuple #[valE en, .bool b]) ∧ Keep No W w') :
    Calls Try.prog 26 #[p, .int .u64 h] w fun e w' => e = .returned (.tuple #[valE en, .bool b]) ∧ Keep No w w' := by
  have HB : Hid (Blk (w.alloc (.cells #[.int .u64 0, .int .u64 0, .int .u64 0, .int .u8 0] 27)) w.heap.size [.int .u64 0, .int .u64 0, .int .u64 0, .int .u8 0] 27) := Blk.new' _ rfl
  unfold valE at *
  go_enter Try.func26, Try.ntmps26
  go_wp2_with (first | (go_at_call 44; refine (hat _ ((Keep.refl _ _).alloc _)).mono ?_; rintro e w' ⟨rfl, n, rfl⟩) | (go_at_call 45; refine (hget _ (((Keep.refl _ _).alloc _).drewN _)).mono ?_; rintro e w1 ⟨rfl, hk⟩; have hk1 := hid (Keep.trans (((Keep.refl No w).alloc _).drewN _) hk (fun _ _ h => h)); have hd := hid ((HB.out.drewN n).mod hk (no _)); obtain ⟨q0, b0, b1, b2, b3, g0⟩ := hd.out.four; clear hk))
  exact bodyPost_ret (res_eu (e := en) rfl _ rfl rfl (Blk.setE hd.out en)) rfl ⟨rfl, hk1.out.set4 (fun h => absurd h (by omega)) _ _ _ _ _ _ _ _⟩

set_option maxHeartbeats 400000 in
theorem remove_walk (p q : Value) (h : Int) (en : Ent) (b : Bool) (w : World) (R : World → World → Prop)
    (hat : ∀ W, Keep No w W → Calls Try.prog 44 #[p, .int .u64 h] W fun e w' => e = .returned q ∧ ∃ n, W.drewN n = w')
    (hrem : ∀ W, Keep No w W → Calls Try.prog 29 #[q, .int .u64 h] W fun e w' => e = .returned (.tuple #[valE en, .bool b]) ∧ Keep (fun k => k < w.heap.size) W w' ∧ R W w') :
    Calls Try.prog 22 #[p, .int .u64 h] w fun e w' => e = .returned (.tuple #[valE en, .bool b]) ∧ Around w R w' := by
  have HB : Hid (Blk (w.alloc (.cells #[.int .u64 0, .int .u64 0, .int .u64 0, .int .u8 0] 27)) w.heap.size [.int .u64 0, .int .u64 0, .int .u64 0, .int .u8 0] 27) := Blk.new' _ rfl
  unfold valE at *
  go_enter Try.func22, Try.ntmps22
  go_wp2_with (first | (go_at_call 44; refine (hat _ ((Keep.refl _ _).alloc _)).mono ?_; rintro e w' ⟨rfl, n, rfl⟩) | (go_at_call 29; refine (hrem _ (((Keep.refl _ _).alloc _).drewN _)).mono ?_; rintro e w1 ⟨rfl, hk, hR⟩; have hd := hid ((HB.out.drewN n).mod hk (by simp)); obtain ⟨q0, b0, b1, b2, b3, g0⟩ := hd.out.four; have HR := hid hR; have hs := hid hk.size; clear hk hR))
  exact bodyPost_ret (res_eu (e := en) rfl _ rfl rfl (Blk.setE hd.out en)) rfl ⟨rfl, _, _, (((Keep.refl No w).alloc _).drewN _), HR.out, hs.out, (Keep.refl _ _).set4 (fun h => by simp) _ _ _ _ _ _ _ _⟩

theorem hit_walk (p q : Value) (h : Int) (b : Bool) (w : World) (R : World → World → Prop)
    (hat : ∀ W, Keep No w W → Calls Try.prog 44 #[p, .int .u64 h] W fun e w' => e = .returned q ∧ ∃ n, W.drewN n = w')
    (hhit : ∀ W, Keep No w W → Calls Try.prog 47 #[q, .int .u64 h] W fun e w' => e = .returned (.bool b) ∧ Keep (fun k => k < w.heap.size) W w' ∧ R W w') :
    Calls Try.prog 25 #[p, .int .u64 h] w fun e w' => e = .returned (.bool b) ∧ Around w R w' := by
  go_enter Try.func25, Try.ntmps25
  go_wp2_with (first | (go_at_call 44; refine (hat _ (Keep.refl _ _)).mono ?_; rintro e w' ⟨rfl, n, rfl⟩) | (go_at_call 47; refine (hhit _ ((Keep.refl _ _).drewN _)).mono ?_; rintro e w1 ⟨rfl, hk, hR⟩; have HR := hid hR; have hs := hid hk.size; clear hk hR))
  go_ret
  exact ⟨rfl, _, _, ((Keep.refl No w).drewN _), HR.out, hs.out, Keep.refl _ _⟩

theorem len_walk (p q : Value) (n k : Int) (w : World)
    (hat : Calls Try.prog 27 #[p, .int .i64 n] w fun e w' => e = .returned q ∧ w = w')
    (hlen : Calls Try.prog 43 #[q] w fun e w' => e = .returned (.int .i64 k) ∧ w = w') :
    Calls Try.prog 19 #[p, .int .i64 n] w fun e w' => e = .returned (.int .i64 k) ∧ w = w' := by
  go_enter Try.func19, Try.ntmps19
  go_wp2_with (first | (go_at_call 27; refine hat.mono ?_; rintro e w' ⟨rfl, rfl⟩) | (go_at_call 43; refine hlen.mono ?_; rintro e w1 ⟨rfl, rfl⟩))
  go_ret
  exact ⟨rfl, rfl⟩

theorem all_walk (p q : Value) (n : Int) (w : World)
    (hat : Calls Try.prog 27 #[p, .int .i64 n] w fun e w' => e = .returned q ∧ w = w')
    (hall : Calls Try.prog 28 #[q] w fun e w' => e = .returned (.func (.func 48) #[] #[.pointer (some ⟨w.heap.size, 0, none⟩)]) ∧ w.alloc (.cells #[q] 70) = w') :
    Calls Try.prog 11 #[p, .int .i64 n] w fun e w' => e = .returned (.func (.func 48) #[] #[.pointer (some ⟨w.heap.size, 0, none⟩)]) ∧ w.alloc (.cells #[q] 70) = w' := by
  go_enter Try.func11, Try.ntmps11
  go_wp2_with (first | (go_at_call 27; refine hat.mono ?_; rintro e w' ⟨rfl, rfl⟩) | (go_at_call 28; refine hall.mono ?_; rintro e w1 ⟨rfl, rfl⟩))
  go_ret
  exact ⟨rfl, rfl⟩

set_option maxHeartbeats 400000 in
theorem remIf_no (p : Value) (h at' : Int) (en : Ent) (b : Bool) (w : World)
    (hget : ∀ W, Keep No w W → Calls Try.prog 26 #[p, .int .u64 h] W fun e w' => e = .returned (.tuple #[valE en, .bool b]) ∧ Keep No W w')
    (hno : b = false ∨ b = true ∧ (en.a != at') = true) :
    Calls Try.prog 23 #[p, .int .u64 h, .int .u64 at'] w fun e w' => e = .returned (.bool false) ∧ Keep No w w' := by
  unfold valE at *
  rcases hno with rfl | ⟨rfl, hne⟩
  all_goals
    go_enter Try.func23, Try.ntmps23
    go_wp2_with (go_at_call 26; refine (hget _ (Keep.refl _ _)).mono ?_; rintro e w1 ⟨rfl, hk⟩; have hk1 := hid hk; clear hk)
    go_ret
    exact ⟨rfl, hk1.out.alloc _⟩

set_option maxHeartbeats 400000 in
theorem remIf_yes (p : Value) (h at' : Int) (en : Ent) (v1 v2 : Value) (w : World) (R : World → World → Prop)
    (hget : ∀ W, Keep No w W → Calls Try.prog 26 #[p, .int .u64 h] W fun e w' => e = .returned (.tuple #[valE en, .bool true]) ∧ Keep No W w')
    (hrem : ∀ W, Keep No w W → Calls Try.prog 22 #[p, .int .u64 h] W fun e w' => e = .returned (.tuple #[v1, v2]) ∧ Around W R w')
    (hno : (en.a != at') = false) :
    Calls Try.prog 23 #[p, .int .u64 h, .int .u64 at'] w fun e w' => e = .returned (.bool true) ∧ Around w R w' := by
  unfold valE at *
  go_enter Try.func23, Try.ntmps23
  go_wp2_with (first | (go_at_call 26; refine (hget _ (Keep.refl _ _)).mono ?_; rintro e w1 ⟨rfl, hk⟩; have hk1 := hid hk; clear hk) | (go_at_call 22; refine (hrem _ (hk1.out.alloc _)).mono ?_; rintro e w2 ⟨rfl, hA⟩; have HA := hid hA; clear hA))
  go_ret
  obtain ⟨A, B, h1, h2, h3, h4⟩ := HA.out
  refine ⟨rfl, A, B, Keep.trans (hk1.out.alloc _) h1 (fun _ _ h => h), h2, h3, h4.mono ?_⟩
  rintro k _ ⟨h5, h6⟩
  refine ⟨?_, h6⟩
  have := hk1.out.size
  simp at h5
  omega

set_option maxHeartbeats 400000 in
theorem move_no (p : Value) (h fr to : Int) (en : Ent) (b : Bool) (w : World)
    (hget : ∀ W, Keep No w W → Calls Try.prog 26 #[p, .int .u64 h] W fun e w' => e = .returned (.tuple #[valE en, .bool b]) ∧ Keep No W w')
    (hno : b = false ∨ b = true ∧ (en.a != fr) = true ∨ b = true ∧ (en.a != fr) = false ∧ (to == 0) = true) :
    Calls Try.prog 24 #[p, .int .u64 h, .int .u64 fr, .int .u64 to] w fun e w' => e = .returned (.bool false) ∧ Keep No w w' := by
  unfold valE at *
  rcases hno with rfl | ⟨rfl, hne⟩ | ⟨rfl, hne, hto⟩
  all_goals
    go_enter Try.func24, Try.ntmps24
    go_wp2_with (go_at_call 26; refine (hget _ (Keep.refl _ _)).mono ?_; rintro e w1 ⟨rfl, hk⟩; have hk1 := hid hk; clear hk)
    go_ret
    exact ⟨rfl, hk1.out.alloc _⟩

set_option maxHeartbeats 1000000 in
theorem move_yes (p q : Value) (h fr to : Int) (en : Ent) (w : World) (R : World → World → Prop)
    (hget : ∀ W, Keep No w W → Calls Try.prog 26 #[p, .int .u64 h] W fun e w' => e = .returned (.tuple #[valE en, .bool true]) ∧ Keep No W w')
    (hat : ∀ W, Keep No w W → Calls Try.prog 44 #[p, .int .u64 h] W fun e w' => e = .returned q ∧ ∃ n, W.drewN n = w')
    (hput : ∀ W, Keep No w W → Calls Try.prog 46 #[q, valE { en with a := to }] W fun e w' => (∃ v, e = .returned v) ∧ W.heap.size ≤ w'.heap.size ∧ R W w')
    (hyes : (en.a != fr) = false) (hto : (to == 0) = false) :
    Calls Try.prog 24 #[p, .int .u64 h, .int .u64 fr, .int .u64 to] w fun e w' => e = .returned (.bool true) ∧ Around w R w' := by
  unfold valE at *
  go_enter Try.func24, Try.ntmps24
  go_wp2_with (go_at_call 26; refine (hget _ (Keep.refl _ _)).mono ?_; rintro e w1 ⟨rfl, hk⟩; have hk1 := hid hk; clear hk)
  go_region_with (first | (go_at_call 44; refine (hat _ (hk1.out.alloc _).drew).mono ?_; rintro e w' ⟨rfl, n, rfl⟩) | (go_at_call 46; refine (hput _ ((hk1.out.alloc _).drewN _)).mono ?_; rintro e w2 ⟨⟨v, rfl⟩, hs, hR⟩; have HR := hid hR; have HS := hid hs; clear hR hs))
  all_goals
    go_wp2
    go_ret
    refine ⟨rfl, _, _, ((hk1.out.alloc _).drewN _), HR.out, HS.out, Keep.refl _ _⟩

set_option maxHeartbeats 400000 in
theorem put_closed (p : Value) (e : Ent) (w : World)
    (hat : ∀ W, Keep No w W → Calls Try.prog 44 #[p, .int .u64 e.h] W fun e w' => e = .returned (.pointer none) ∧ ∃ n, W.drewN n = w') :
    Calls Try.prog 21 #[p, valE e] w fun e' w' => e' = .returned (.tuple #[valE z, .bool false, .int .i64 6]) ∧ Keep No w w' := by
  have HB : Hid (Blk ((w.alloc (.cells #[.int .u64 e.h, .int .u64 e.a, .int .u64 e.v, .int .u8 e.c] 27)).alloc (.cells #[.int .u64 0, .int .u64 0, .int .u64 0, .int .u8 0] 27)) (w.heap.size + 1) [.int .u64 0, .int .u64 0, .int .u64 0, .int .u8 0] 27) := Blk.new1 _ rfl
  unfold valE at *
  go_enter Try.func21, Try.ntmps21
  go_wp2_with (first | (go_at_call 44; refine (hat _ (((Keep.refl _ _).alloc _).alloc _)).mono ?_; rintro e w' ⟨rfl, n, rfl⟩))
  exact bodyPost_ret (res_euv (e := z) rfl _ rfl rfl rfl (Blk.setE (HB.out.drewN n) z)) rfl ⟨rfl, ((((Keep.refl _ w).alloc _).alloc _).drewN _).set4 (fun h => absurd h (by omega)) _ _ _ _ _ _ _ _⟩

set_option maxHeartbeats 400000 in
theorem put_arg (p : Value) (bt : Nat) (e : Ent) (w : World)
    (hat : ∀ W, Keep No w W → Calls Try.prog 44 #[p, .int .u64 e.h] W fun e w' => e = .returned (.pointer (some ⟨bt, 0, none⟩)) ∧ ∃ n, W.drewN n = w')
    (ha : (e.a == 0) = true) :
    Calls Try.prog 21 #[p, valE e] w fun e' w' => e' = .returned (.tuple #[valE z, .bool false, .int .i64 1]) ∧ Keep No w w' := by
  have HB : Hid (Blk ((w.alloc (.cells #[.int .u64 e.h, .int .u64 e.a, .int .u64 e.v, .int .u8 e.c] 27)).alloc (.cells #[.int .u64 0, .int .u64 0, .int .u64 0, .int .u8 0] 27)) (w.heap.size + 1) [.int .u64 0, .int .u64 0, .int .u64 0, .int .u8 0] 27) := Blk.new1 _ rfl
  unfold valE at *
  go_enter Try.func21, Try.ntmps21
  go_wp2_with (first | (go_at_call 44; refine (hat _ (((Keep.refl _ _).alloc _).alloc _)).mono ?_; rintro e w' ⟨rfl, n, rfl⟩))
  exact bodyPost_ret (res_euv (e := z) rfl _ rfl rfl rfl (Blk.setE (HB.out.drewN n) z)) rfl ⟨rfl, ((((Keep.refl _ w).alloc _).alloc _).drewN _).set4 (fun h => absurd h (by omega)) _ _ _ _ _ _ _ _⟩

set_option maxHeartbeats 1000000 in
theorem put_older (p : Value) (bt : Nat) (e en : Ent) (w : World)
    (hat : ∀ W, Keep No w W → Calls Try.prog 44 #[p, .int .u64 e.h] W fun e w' => e = .returned (.pointer (some ⟨bt, 0, none⟩)) ∧ ∃ n, W.drewN n = w')
    (hget : ∀ W, Keep No w W → Calls Try.prog 45 #[.pointer (some ⟨bt, 0, none⟩), .int .u64 e.h] W fun e w' => e = .returned (.tuple #[valE en, .bool true]) ∧ Keep No W w')
    (ha : (e.a == 0) = false) (hv : decide (e.v < en.v) = true) :
    Calls Try.prog 21 #[p, valE e] w fun e' w' => e' = .returned (.tuple #[valE z, .bool false, .int .i64 120]) ∧ Keep No w w' := by
  have HB0 : Hid (Blk ((w.alloc (.cells #[.int .u64 e.h, .int .u64 e.a, .int .u64 e.v, .int .u8 e.c] 27)).alloc (.cells #[.int .u64 0, .int .u64 0, .int .u64 0, .int .u8 0] 27)) w.heap.size [.int .u64 e.h, .int .u64 e.a, .int .u64 e.v, .int .u8 e.c] 27) := (Blk.new' _ rfl).alloc _
  have HB : Hid (Blk ((w.alloc (.cells #[.int .u64 e.h, .int .u64 e.a, .int .u64 e.v, .int .u8 e.c] 27)).alloc (.cells #[.int .u64 0, .int .u64 0, .int .u64 0, .int .u8 0] 27)) (w.heap.size + 1) [.int .u64 0, .int .u64 0, .int .u64 0, .int .u8 0] 27) := Blk.new1 _ rfl
  unfold valE at *
  go_enter Try.func21, Try.ntmps21
  go_wp2_with (first | (go_at_call 44; refine (hat _ (((Keep.refl _ _).alloc _).alloc _)).mono ?_; rintro e w' ⟨rfl, n, rfl⟩) | (go_at_call 45; refine (hget _ ((((Keep.refl _ _).alloc _).alloc _).drewN _)).mono ?_; rintro e w1 ⟨rfl, hk⟩; have hk1 := hid (Keep.trans ((((Keep.refl No w).alloc _).alloc _).drewN _) hk (fun _ _ h => h)); have hd := hid ((HB.out.drewN n).mod hk (no _)); obtain ⟨q0, b0, b1, b2, b3, g0⟩ := hd.out.four; obtain ⟨q1, d0, d1, d2, d3, g1⟩ := ((HB0.out.drewN n).mod hk (no _)).four; have hsz : w.heap.size + 1 + 1 ≤ w1.heap.size := (by simpa using hk.size); clear hk))
  exact bodyPost_ret (res_euv (e := z) rfl _ rfl rfl rfl ((Blk.setE hd.out z).alloc _)) rfl ⟨rfl, (hk1.out.set4 (fun h => absurd h (by omega)) _ _ _ _ _ _ _ _).alloc _⟩

set_option maxHeartbeats 1000000 in
theorem put_on (p : Value) (bt : Nat) (e en eo : Ent) (b b' : Bool) (err : Int) (w : World) (R : World → World → Prop)
    (hat : ∀ W, Keep No w W → Calls Try.prog 44 #[p, .int .u64 e.h] W fun e w' => e = .returned (.pointer (some ⟨bt, 0, none⟩)) ∧ ∃ n, W.drewN n = w')
    (hget : ∀ W, Keep No w W → Calls Try.prog 45 #[.pointer (some ⟨bt, 0, none⟩), .int .u64 e.h] W fun e w' => e = .returned (.tuple #[valE en, .bool b]) ∧ Keep No W w')
    (hput : ∀ W, Keep No w W → Calls Try.prog 46 #[.pointer (some ⟨bt, 0, none⟩), valE e] W fun e w' => e = .returned (.tuple #[valE eo, .bool b', .int .i64 err]) ∧ Keep (fun k => k < w.heap.size) W w' ∧ R W w')
    (ha : (e.a == 0) = false) (hv : b = false ∨ b = true ∧ decide (e.v < en.v) = false) :
    Calls Try.prog 21 #[p, valE e] w fun e' w' => e' = .returned (.tuple #[valE eo, .bool b', .int .i64 err]) ∧ Around w R w' := by
  have HB0 : Hid (Blk ((w.alloc (.cells #[.int .u64 e.h, .int .u64 e.a, .int .u64 e.v, .int .u8 e.c] 27)).alloc (.cells #[.int .u64 0, .int .u64 0, .int .u64 0, .int .u8 0] 27)) w.heap.size [.int .u64 e.h, .int .u64 e.a, .int .u64 e.v, .int .u8 e.c] 27) := (Blk.new' _ rfl).alloc _
  have HB : Hid (Blk ((w.alloc (.cells #[.int .u64 e.h, .int .u64 e.a, .int .u64 e.v, .int .u8 e.c] 27)).alloc (.cells #[.int .u64 0, .int .u64 0, .int .u64 0, .int .u8 0] 27)) (w.heap.size + 1) [.int .u64 0, .int .u64 0, .int .u64 0, .int .u8 0] 27) := Blk.new1 _ rfl
  unfold valE at *
  rcases hv with rfl | ⟨rfl, hv⟩
  all_goals
    go_enter Try.func21, Try.ntmps21
    go_wp2_with (first | (go_at_call 44; refine (hat _ (((Keep.refl _ _).alloc _).alloc _)).mono ?_; rintro e w' ⟨rfl, n, rfl⟩) | (go_at_call 45; refine (hget _ ((((Keep.refl _ _).alloc _).alloc _).drewN _)).mono ?_; rintro e w1 ⟨rfl, hk⟩; have hk1 := hid (Keep.trans ((((Keep.refl No w).alloc _).alloc _).drewN _) hk (fun _ _ h => h)); have hd := hid ((HB.out.drewN n).mod hk (no _)); obtain ⟨q0, b0, b1, b2, b3, g0⟩ := hd.out.four; obtain ⟨q1, d0, d1, d2, d3, g1⟩ := ((HB0.out.drewN n).mod hk (no _)).four; have hsz : w.heap.size + 1 + 1 ≤ w1.heap.size := (by simpa using hk.size); clear hk) | (go_at_call 46; refine (hput _ (hk1.out.alloc _)).mono ?_; rintro e w2 ⟨rfl, hk, hR⟩; have hd2 := hid ((hd.out.alloc _).mod hk (by show ¬ (w.heap.size + 1 < w.heap.size); omega)); obtain ⟨p0, e0, e1, e2, e3, g2⟩ := hd2.out.four; have HR := hid hR; have hs := hid hk.size; clear hk hR))
    exact bodyPost_ret (res_euv (e := eo) rfl _ rfl rfl rfl (Blk.setE hd2.out eo)) rfl ⟨rfl, _, _, (hk1.out.alloc _), HR.out, hs.out, (Keep.refl _ _).set4 (fun h => ⟨by omega, by simp; omega⟩) _ _ _ _ _ _ _ _⟩
end Go.Proofs.Ytaijfgajcmopfaa.X2
