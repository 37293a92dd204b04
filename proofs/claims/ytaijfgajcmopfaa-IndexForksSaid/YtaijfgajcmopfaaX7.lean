import Derived.Test.YtaijfgajcmopfaaX6
/- 'one' (a call of one index), kind by kind: printed by wip/tools/x7.py. -/
set_option linter.unusedVariables false
namespace Go.Proofs.Ytaijfgajcmopfaa.X7
open Go.RowKit Go.Shelf V Rh T W1 W2 W3 W4 W6 W7 W10 Rf X1 X2 X3 X4 X5 X6 Lp

structure Opr where
  k : Int
  e : Ent
  at' : Int
  n : Int
  m : Int
def cellsO (o : Opr) : List Value := [.int .i64 o.k, .int .u64 o.e.h, .int .u64 o.e.a, .int .u64 o.e.v, .int .u8 o.e.c, .int .u64 o.at', .int .i64 o.n, .int .i64 o.m]
def valO (o : Opr) : Value := .agg #[.int .i64 o.k, .int .u64 o.e.h, .int .u64 o.e.a, .int .u64 o.e.v, .int .u8 o.e.c, .int .u64 o.at', .int .i64 o.n, .int .i64 o.m]
def Opr.ok (o : Opr) : Prop := o.e.ok ∧ 0 ≤ o.at' ∧ o.at' < 18446744073709551616 ∧ -9223372036854775808 ≤ o.n ∧ o.n < 9223372036854775808 ∧ -9223372036854775808 ≤ o.m ∧ o.m < 9223372036854775808

def cellsT (a : Ent) (is : Bool) (e n : Int) : List Value := [.int .u64 a.h, .int .u64 a.a, .int .u64 a.v, .int .u8 a.c, .int .u64 0, .int .u64 0, .int .u64 0, .int .u8 0, .bool is, .bool false, .int .i64 e, .int .i64 0, .int .i64 n]
def valT (a : Ent) (is : Bool) (e n : Int) : Value := .agg #[.int .u64 a.h, .int .u64 a.a, .int .u64 a.v, .int .u8 a.c, .int .u64 0, .int .u64 0, .int .u64 0, .int .u8 0, .bool is, .bool false, .int .i64 e, .int .i64 0, .int .i64 n]

theorem info36 : (Try.prog.info? 36).map (fun i => (i.zero, i.size)) = some (some (valT z false 0 0), 13) := by kernel_rfl

theorem load_told {w : World} {b : Nat} {a : Ent} {is : Bool} {e n : Int} {t : TypeId} (h : Blk w b (cellsT a is e n) t) : (loadVar 36 ⟨b, 0, none⟩).run Try.prog w = .ok (valT a is e n) w :=
  run_loadVar_row w b t 36 (cellsT a is e n).toArray (0, 0) _ h Try.underlying36 rfl (by
    have h := info36
    cases hi : Try.prog.info? 36 with
    | none => rw [hi] at h; cases h
    | some i =>
      rw [hi] at h
      simp only [Option.map_some, Option.some.injEq, Prod.mk.injEq] at h
      simp only [Option.map_some, h.2]
      rfl)
theorem res_t {fn : Func} {p : Tmp} (h : fn.results = #[.cell p 36]) (tmps : Array Value) {w : World} {b : Nat} {a : Ent} {is : Bool} {e n : Int} {t : TypeId} (hp : tmps.getD p undef = .pointer (some ⟨b, 0, none⟩)) (hb : Blk w b (cellsT a is e n) t) :
    (results fn tmps).run Try.prog w = .ok (valT a is e n) w := by
  have hp' : tmps[p]?.getD undef = .pointer (some ⟨b, 0, none⟩) := by simpa using hp
  simp [results, h, hp', asAddr, load_told hb]

theorem Blk.thirteen {w : World} {b : Nat} {x0 x1 x2 x3 x4 x5 x6 x7 x8 x9 xa xb xc : Value} {t : TypeId} (h : Blk w b [x0, x1, x2, x3, x4, x5, x6, x7, x8, x9, xa, xb, xc] t) : b < w.heap.size ∧ w.cell? ⟨b, 0, none⟩ = some x0 ∧ w.cell? ⟨b, 1, none⟩ = some x1 ∧ w.cell? ⟨b, 2, none⟩ = some x2 ∧ w.cell? ⟨b, 3, none⟩ = some x3 ∧ w.cell? ⟨b, 4, none⟩ = some x4 ∧ w.cell? ⟨b, 5, none⟩ = some x5 ∧ w.cell? ⟨b, 6, none⟩ = some x6 ∧ w.cell? ⟨b, 7, none⟩ = some x7 ∧ w.cell? ⟨b, 8, none⟩ = some x8 ∧ w.cell? ⟨b, 9, none⟩ = some x9 ∧ w.cell? ⟨b, 10, none⟩ = some xa ∧ w.cell? ⟨b, 11, none⟩ = some xb ∧ w.cell? ⟨b, 12, none⟩ = some xc ∧ (∀ i, w.frozen? ⟨b, i, none⟩ = false) := ⟨h.lt, h.cell 0, h.cell 1, h.cell 2, h.cell 3, h.cell 4, h.cell 5, h.cell 6, h.cell 7, h.cell 8, h.cell 9, h.cell 10, h.cell 11, h.cell 12, h.frozen⟩

theorem Keep.st {S : Nat → Prop} {a b : World} (h : Keep S a b) {B : Nat} (hB : S B) (i : Nat) (u : Value) : Keep S a (b.setCell ⟨B, i, none⟩ u) := h.setCell _ _ (fun _ => hB)
theorem Blk.ot {w : World} {b : Nat} {cs : List Value} {t : TypeId} (h : Blk w b cs t) {B : Nat} (hB : b ≠ B) (i : Nat) (u : Value) : Blk (w.setCell ⟨B, i, none⟩ u) b cs t := h.other _ _ hB

/-- the two blocks of told, as 'one' makes them -/
def lT : List Value := [.int .u64 0, .int .u64 0, .int .u64 0, .int .u8 0, .int .u64 0, .int .u64 0, .int .u64 0, .int .u8 0, .bool false, .bool false, .int .i64 0, .int .i64 0, .int .i64 0]
def zT : Array Value := #[.int .u64 0, .int .u64 0, .int .u64 0, .int .u8 0, .int .u64 0, .int .u64 0, .int .u64 0, .int .u8 0, .bool false, .bool false, .int .i64 0, .int .i64 0, .int .i64 0]


set_option maxRecDepth 100000 in
set_option maxHeartbeats 2000000 in
theorem one_put (p : Value) (o : Opr) (w : World) (R : World → World → Prop) (eo : Ent) (b : Bool) (err : Int)
    (hc : ∀ W, Keep No w W → Calls Try.prog 21 #[p, valE o.e] W fun e w' => e = .returned (.tuple #[valE eo, .bool b, .int .i64 err]) ∧ Keep (fun k => k < w.heap.size) W w' ∧ R W w') (hk : o.k = 0) :
    Calls Try.prog 9 #[p, valO o] w fun e w' => e = .returned (valT eo b err 0) ∧ Around w R w' := by
  unfold valO
  try unfold valE at *
  go_enter Try.func9, Try.ntmps9
  go_wp2_with fail
  refine (hc _ ((((Keep.refl _ _).alloc _).alloc _).alloc _)).mono ?_
  rintro e w1 ⟨rfl, hk, hR⟩
  have HR := hid hR
  have HS := hid hk.size
  have HB5 := hid (((Blk.new2 (w := w) (o := .cells #[.int .i64 0, .int .u64 o.e.h, .int .u64 o.e.a, .int .u64 o.e.v, .int .u8 o.e.c, .int .u64 o.at', .int .i64 o.n, .int .i64 o.m] 29) (o2 := .cells zT 36) (cs := zT) (cl := lT) 36 rfl)).mod hk (by show ¬ (w.heap.size + 2 < w.heap.size); omega))
  have HB4 := hid (((Blk.new1 (w := w) (o := .cells #[.int .i64 0, .int .u64 o.e.h, .int .u64 o.e.a, .int .u64 o.e.v, .int .u8 o.e.c, .int .u64 o.at', .int .i64 o.n, .int .i64 o.m] 29) (cs := zT) (cl := lT) 36 rfl).alloc (.cells zT 36)).mod hk (by show ¬ (w.heap.size + 1 < w.heap.size); omega))
  unfold lT at HB5 HB4
  obtain ⟨z5, b50, b51, b52, b53, b54, b55, b56, b57, b58, b59, b5a, b5b, b5c, f5⟩ := Blk.thirteen HB5.out
  obtain ⟨z4, b40, b41, b42, b43, b44, b45, b46, b47, b48, b49, b4a, b4b, b4c, f4⟩ := Blk.thirteen HB4.out
  clear hk hR
  go_wp2
  have n45 : w.heap.size + 1 ≠ w.heap.size + 1 + 1 := by omega
  have hS : ∀ k, k = w.heap.size + 1 ∨ k = w.heap.size + 1 + 1 → w.heap.size ≤ k ∧ k < (((w.alloc (.cells #[.int .i64 0, .int .u64 o.e.h, .int .u64 o.e.a, .int .u64 o.e.v, .int .u8 o.e.c, .int .u64 o.at', .int .i64 o.n, .int .i64 o.m] 29)).alloc (.cells zT 36)).alloc (.cells zT 36)).heap.size := fun k hk => by simp; omega
  exact bodyPost_ret (res_t rfl _ rfl ((((((((((((((Blk.ot (Blk.ot (Blk.ot (Blk.ot (Blk.ot (Blk.ot HB4.out n45 _ _) n45 _ _) n45 _ _) n45 _ _) n45 _ _) n45 _ _).set 0 _).set 1 _).set 2 _).set 3 _).set 4 _).set 5 _).set 6 _).set 7 _).set 8 _).set 9 _).set 10 _).set 11 _).set 12 _)) rfl ⟨rfl, _, w1, ((((Keep.refl _ w).alloc _).alloc _).alloc _), HR.out, HS.out, (Keep.st (Keep.st (Keep.st (Keep.st (Keep.st (Keep.st (Keep.st (Keep.st (Keep.st (Keep.st (Keep.st (Keep.st (Keep.st (Keep.st (Keep.st (Keep.st (Keep.st (Keep.st (Keep.st (Keep.refl _ _) (hS _ (.inr rfl)) _ _) (hS _ (.inr rfl)) _ _) (hS _ (.inr rfl)) _ _) (hS _ (.inr rfl)) _ _) (hS _ (.inr rfl)) _ _) (hS _ (.inr rfl)) _ _) (hS _ (.inl rfl)) _ _) (hS _ (.inl rfl)) _ _) (hS _ (.inl rfl)) _ _) (hS _ (.inl rfl)) _ _) (hS _ (.inl rfl)) _ _) (hS _ (.inl rfl)) _ _) (hS _ (.inl rfl)) _ _) (hS _ (.inl rfl)) _ _) (hS _ (.inl rfl)) _ _) (hS _ (.inl rfl)) _ _) (hS _ (.inl rfl)) _ _) (hS _ (.inl rfl)) _ _) (hS _ (.inl rfl)) _ _)⟩


set_option maxRecDepth 100000 in
set_option maxHeartbeats 2000000 in
theorem one_remove (p : Value) (o : Opr) (w : World) (R : World → World → Prop) (eo : Ent) (b : Bool)
    (hc : ∀ W, Keep No w W → Calls Try.prog 22 #[p, .int .u64 o.e.h] W fun e w' => e = .returned (.tuple #[valE eo, .bool b]) ∧ Keep (fun k => k < w.heap.size) W w' ∧ R W w') (hk : o.k = 2) :
    Calls Try.prog 9 #[p, valO o] w fun e w' => e = .returned (valT eo b 0 0) ∧ Around w R w' := by
  unfold valO
  try unfold valE at *
  go_enter Try.func9, Try.ntmps9
  go_wp2_with fail
  refine (hc _ ((((Keep.refl _ _).alloc _).alloc _).alloc _)).mono ?_
  rintro e w1 ⟨rfl, hk, hR⟩
  have HR := hid hR
  have HS := hid hk.size
  have HB5 := hid (((Blk.new2 (w := w) (o := .cells #[.int .i64 2, .int .u64 o.e.h, .int .u64 o.e.a, .int .u64 o.e.v, .int .u8 o.e.c, .int .u64 o.at', .int .i64 o.n, .int .i64 o.m] 29) (o2 := .cells zT 36) (cs := zT) (cl := lT) 36 rfl)).mod hk (by show ¬ (w.heap.size + 2 < w.heap.size); omega))
  have HB4 := hid (((Blk.new1 (w := w) (o := .cells #[.int .i64 2, .int .u64 o.e.h, .int .u64 o.e.a, .int .u64 o.e.v, .int .u8 o.e.c, .int .u64 o.at', .int .i64 o.n, .int .i64 o.m] 29) (cs := zT) (cl := lT) 36 rfl).alloc (.cells zT 36)).mod hk (by show ¬ (w.heap.size + 1 < w.heap.size); omega))
  unfold lT at HB5 HB4
  obtain ⟨z5, b50, b51, b52, b53, b54, b55, b56, b57, b58, b59, b5a, b5b, b5c, f5⟩ := Blk.thirteen HB5.out
  obtain ⟨z4, b40, b41, b42, b43, b44, b45, b46, b47, b48, b49, b4a, b4b, b4c, f4⟩ := Blk.thirteen HB4.out
  clear hk hR
  go_wp2
  have n45 : w.heap.size + 1 ≠ w.heap.size + 1 + 1 := by omega
  have hS : ∀ k, k = w.heap.size + 1 ∨ k = w.heap.size + 1 + 1 → w.heap.size ≤ k ∧ k < (((w.alloc (.cells #[.int .i64 2, .int .u64 o.e.h, .int .u64 o.e.a, .int .u64 o.e.v, .int .u8 o.e.c, .int .u64 o.at', .int .i64 o.n, .int .i64 o.m] 29)).alloc (.cells zT 36)).alloc (.cells zT 36)).heap.size := fun k hk => by simp; omega
  exact bodyPost_ret (res_t rfl _ rfl ((((((((((((((Blk.ot (Blk.ot (Blk.ot (Blk.ot (Blk.ot HB4.out n45 _ _) n45 _ _) n45 _ _) n45 _ _) n45 _ _).set 0 _).set 1 _).set 2 _).set 3 _).set 4 _).set 5 _).set 6 _).set 7 _).set 8 _).set 9 _).set 10 _).set 11 _).set 12 _)) rfl ⟨rfl, _, w1, ((((Keep.refl _ w).alloc _).alloc _).alloc _), HR.out, HS.out, (Keep.st (Keep.st (Keep.st (Keep.st (Keep.st (Keep.st (Keep.st (Keep.st (Keep.st (Keep.st (Keep.st (Keep.st (Keep.st (Keep.st (Keep.st (Keep.st (Keep.st (Keep.st (Keep.refl _ _) (hS _ (.inr rfl)) _ _) (hS _ (.inr rfl)) _ _) (hS _ (.inr rfl)) _ _) (hS _ (.inr rfl)) _ _) (hS _ (.inr rfl)) _ _) (hS _ (.inl rfl)) _ _) (hS _ (.inl rfl)) _ _) (hS _ (.inl rfl)) _ _) (hS _ (.inl rfl)) _ _) (hS _ (.inl rfl)) _ _) (hS _ (.inl rfl)) _ _) (hS _ (.inl rfl)) _ _) (hS _ (.inl rfl)) _ _) (hS _ (.inl rfl)) _ _) (hS _ (.inl rfl)) _ _) (hS _ (.inl rfl)) _ _) (hS _ (.inl rfl)) _ _) (hS _ (.inl rfl)) _ _)⟩


set_option maxRecDepth 100000 in
set_option maxHeartbeats 2000000 in
theorem one_removeIf (p : Value) (o : Opr) (w : World) (R : World → World → Prop) (b : Bool)
    (hc : ∀ W, Keep No w W → Calls Try.prog 23 #[p, .int .u64 o.e.h, .int .u64 o.at'] W fun e w' => e = .returned (.bool b) ∧ Keep (fun k => k < w.heap.size) W w' ∧ R W w') (hk : o.k = 3) :
    Calls Try.prog 9 #[p, valO o] w fun e w' => e = .returned (valT z b 0 0) ∧ Around w R w' := by
  unfold valO
  try unfold valE at *
  go_enter Try.func9, Try.ntmps9
  go_wp2_with fail
  refine (hc _ ((((Keep.refl _ _).alloc _).alloc _).alloc _)).mono ?_
  rintro e w1 ⟨rfl, hk, hR⟩
  have HR := hid hR
  have HS := hid hk.size
  have HB5 := hid (((Blk.new2 (w := w) (o := .cells #[.int .i64 3, .int .u64 o.e.h, .int .u64 o.e.a, .int .u64 o.e.v, .int .u8 o.e.c, .int .u64 o.at', .int .i64 o.n, .int .i64 o.m] 29) (o2 := .cells zT 36) (cs := zT) (cl := lT) 36 rfl)).mod hk (by show ¬ (w.heap.size + 2 < w.heap.size); omega))
  have HB4 := hid (((Blk.new1 (w := w) (o := .cells #[.int .i64 3, .int .u64 o.e.h, .int .u64 o.e.a, .int .u64 o.e.v, .int .u8 o.e.c, .int .u64 o.at', .int .i64 o.n, .int .i64 o.m] 29) (cs := zT) (cl := lT) 36 rfl).alloc (.cells zT 36)).mod hk (by show ¬ (w.heap.size + 1 < w.heap.size); omega))
  unfold lT at HB5 HB4
  obtain ⟨z5, b50, b51, b52, b53, b54, b55, b56, b57, b58, b59, b5a, b5b, b5c, f5⟩ := Blk.thirteen HB5.out
  obtain ⟨z4, b40, b41, b42, b43, b44, b45, b46, b47, b48, b49, b4a, b4b, b4c, f4⟩ := Blk.thirteen HB4.out
  clear hk hR
  go_wp2
  have n45 : w.heap.size + 1 ≠ w.heap.size + 1 + 1 := by omega
  have hS : ∀ k, k = w.heap.size + 1 ∨ k = w.heap.size + 1 + 1 → w.heap.size ≤ k ∧ k < (((w.alloc (.cells #[.int .i64 3, .int .u64 o.e.h, .int .u64 o.e.a, .int .u64 o.e.v, .int .u8 o.e.c, .int .u64 o.at', .int .i64 o.n, .int .i64 o.m] 29)).alloc (.cells zT 36)).alloc (.cells zT 36)).heap.size := fun k hk => by simp; omega
  exact bodyPost_ret (res_t rfl _ rfl ((((((((((((((Blk.ot HB4.out n45 _ _).set 0 _).set 1 _).set 2 _).set 3 _).set 4 _).set 5 _).set 6 _).set 7 _).set 8 _).set 9 _).set 10 _).set 11 _).set 12 _)) rfl ⟨rfl, _, w1, ((((Keep.refl _ w).alloc _).alloc _).alloc _), HR.out, HS.out, (Keep.st (Keep.st (Keep.st (Keep.st (Keep.st (Keep.st (Keep.st (Keep.st (Keep.st (Keep.st (Keep.st (Keep.st (Keep.st (Keep.st (Keep.refl _ _) (hS _ (.inr rfl)) _ _) (hS _ (.inl rfl)) _ _) (hS _ (.inl rfl)) _ _) (hS _ (.inl rfl)) _ _) (hS _ (.inl rfl)) _ _) (hS _ (.inl rfl)) _ _) (hS _ (.inl rfl)) _ _) (hS _ (.inl rfl)) _ _) (hS _ (.inl rfl)) _ _) (hS _ (.inl rfl)) _ _) (hS _ (.inl rfl)) _ _) (hS _ (.inl rfl)) _ _) (hS _ (.inl rfl)) _ _) (hS _ (.inl rfl)) _ _)⟩


set_option maxRecDepth 100000 in
set_option maxHeartbeats 2000000 in
theorem one_move (p : Value) (o : Opr) (w : World) (R : World → World → Prop) (b : Bool)
    (hc : ∀ W, Keep No w W → Calls Try.prog 24 #[p, .int .u64 o.e.h, .int .u64 o.at', .int .u64 o.e.a] W fun e w' => e = .returned (.bool b) ∧ Keep (fun k => k < w.heap.size) W w' ∧ R W w') (hk : o.k = 4) :
    Calls Try.prog 9 #[p, valO o] w fun e w' => e = .returned (valT z b 0 0) ∧ Around w R w' := by
  unfold valO
  try unfold valE at *
  go_enter Try.func9, Try.ntmps9
  go_wp2_with fail
  refine (hc _ ((((Keep.refl _ _).alloc _).alloc _).alloc _)).mono ?_
  rintro e w1 ⟨rfl, hk, hR⟩
  have HR := hid hR
  have HS := hid hk.size
  have HB5 := hid (((Blk.new2 (w := w) (o := .cells #[.int .i64 4, .int .u64 o.e.h, .int .u64 o.e.a, .int .u64 o.e.v, .int .u8 o.e.c, .int .u64 o.at', .int .i64 o.n, .int .i64 o.m] 29) (o2 := .cells zT 36) (cs := zT) (cl := lT) 36 rfl)).mod hk (by show ¬ (w.heap.size + 2 < w.heap.size); omega))
  have HB4 := hid (((Blk.new1 (w := w) (o := .cells #[.int .i64 4, .int .u64 o.e.h, .int .u64 o.e.a, .int .u64 o.e.v, .int .u8 o.e.c, .int .u64 o.at', .int .i64 o.n, .int .i64 o.m] 29) (cs := zT) (cl := lT) 36 rfl).alloc (.cells zT 36)).mod hk (by show ¬ (w.heap.size + 1 < w.heap.size); omega))
  unfold lT at HB5 HB4
  obtain ⟨z5, b50, b51, b52, b53, b54, b55, b56, b57, b58, b59, b5a, b5b, b5c, f5⟩ := Blk.thirteen HB5.out
  obtain ⟨z4, b40, b41, b42, b43, b44, b45, b46, b47, b48, b49, b4a, b4b, b4c, f4⟩ := Blk.thirteen HB4.out
  clear hk hR
  go_wp2
  have n45 : w.heap.size + 1 ≠ w.heap.size + 1 + 1 := by omega
  have hS : ∀ k, k = w.heap.size + 1 ∨ k = w.heap.size + 1 + 1 → w.heap.size ≤ k ∧ k < (((w.alloc (.cells #[.int .i64 4, .int .u64 o.e.h, .int .u64 o.e.a, .int .u64 o.e.v, .int .u8 o.e.c, .int .u64 o.at', .int .i64 o.n, .int .i64 o.m] 29)).alloc (.cells zT 36)).alloc (.cells zT 36)).heap.size := fun k hk => by simp; omega
  exact bodyPost_ret (res_t rfl _ rfl ((((((((((((((Blk.ot HB4.out n45 _ _).set 0 _).set 1 _).set 2 _).set 3 _).set 4 _).set 5 _).set 6 _).set 7 _).set 8 _).set 9 _).set 10 _).set 11 _).set 12 _)) rfl ⟨rfl, _, w1, ((((Keep.refl _ w).alloc _).alloc _).alloc _), HR.out, HS.out, (Keep.st (Keep.st (Keep.st (Keep.st (Keep.st (Keep.st (Keep.st (Keep.st (Keep.st (Keep.st (Keep.st (Keep.st (Keep.st (Keep.st (Keep.refl _ _) (hS _ (.inr rfl)) _ _) (hS _ (.inl rfl)) _ _) (hS _ (.inl rfl)) _ _) (hS _ (.inl rfl)) _ _) (hS _ (.inl rfl)) _ _) (hS _ (.inl rfl)) _ _) (hS _ (.inl rfl)) _ _) (hS _ (.inl rfl)) _ _) (hS _ (.inl rfl)) _ _) (hS _ (.inl rfl)) _ _) (hS _ (.inl rfl)) _ _) (hS _ (.inl rfl)) _ _) (hS _ (.inl rfl)) _ _) (hS _ (.inl rfl)) _ _)⟩


set_option maxRecDepth 100000 in
set_option maxHeartbeats 2000000 in
theorem one_hit (p : Value) (o : Opr) (w : World) (R : World → World → Prop) (b : Bool)
    (hc : ∀ W, Keep No w W → Calls Try.prog 25 #[p, .int .u64 o.e.h] W fun e w' => e = .returned (.bool b) ∧ Keep (fun k => k < w.heap.size) W w' ∧ R W w') (hk : o.k = 5) :
    Calls Try.prog 9 #[p, valO o] w fun e w' => e = .returned (valT z b 0 0) ∧ Around w R w' := by
  unfold valO
  try unfold valE at *
  go_enter Try.func9, Try.ntmps9
  go_wp2_with fail
  refine (hc _ ((((Keep.refl _ _).alloc _).alloc _).alloc _)).mono ?_
  rintro e w1 ⟨rfl, hk, hR⟩
  have HR := hid hR
  have HS := hid hk.size
  have HB5 := hid (((Blk.new2 (w := w) (o := .cells #[.int .i64 5, .int .u64 o.e.h, .int .u64 o.e.a, .int .u64 o.e.v, .int .u8 o.e.c, .int .u64 o.at', .int .i64 o.n, .int .i64 o.m] 29) (o2 := .cells zT 36) (cs := zT) (cl := lT) 36 rfl)).mod hk (by show ¬ (w.heap.size + 2 < w.heap.size); omega))
  have HB4 := hid (((Blk.new1 (w := w) (o := .cells #[.int .i64 5, .int .u64 o.e.h, .int .u64 o.e.a, .int .u64 o.e.v, .int .u8 o.e.c, .int .u64 o.at', .int .i64 o.n, .int .i64 o.m] 29) (cs := zT) (cl := lT) 36 rfl).alloc (.cells zT 36)).mod hk (by show ¬ (w.heap.size + 1 < w.heap.size); omega))
  unfold lT at HB5 HB4
  obtain ⟨z5, b50, b51, b52, b53, b54, b55, b56, b57, b58, b59, b5a, b5b, b5c, f5⟩ := Blk.thirteen HB5.out
  obtain ⟨z4, b40, b41, b42, b43, b44, b45, b46, b47, b48, b49, b4a, b4b, b4c, f4⟩ := Blk.thirteen HB4.out
  clear hk hR
  go_wp2
  have n45 : w.heap.size + 1 ≠ w.heap.size + 1 + 1 := by omega
  have hS : ∀ k, k = w.heap.size + 1 ∨ k = w.heap.size + 1 + 1 → w.heap.size ≤ k ∧ k < (((w.alloc (.cells #[.int .i64 5, .int .u64 o.e.h, .int .u64 o.e.a, .int .u64 o.e.v, .int .u8 o.e.c, .int .u64 o.at', .int .i64 o.n, .int .i64 o.m] 29)).alloc (.cells zT 36)).alloc (.cells zT 36)).heap.size := fun k hk => by simp; omega
  exact bodyPost_ret (res_t rfl _ rfl ((((((((((((((Blk.ot HB4.out n45 _ _).set 0 _).set 1 _).set 2 _).set 3 _).set 4 _).set 5 _).set 6 _).set 7 _).set 8 _).set 9 _).set 10 _).set 11 _).set 12 _)) rfl ⟨rfl, _, w1, ((((Keep.refl _ w).alloc _).alloc _).alloc _), HR.out, HS.out, (Keep.st (Keep.st (Keep.st (Keep.st (Keep.st (Keep.st (Keep.st (Keep.st (Keep.st (Keep.st (Keep.st (Keep.st (Keep.st (Keep.st (Keep.refl _ _) (hS _ (.inr rfl)) _ _) (hS _ (.inl rfl)) _ _) (hS _ (.inl rfl)) _ _) (hS _ (.inl rfl)) _ _) (hS _ (.inl rfl)) _ _) (hS _ (.inl rfl)) _ _) (hS _ (.inl rfl)) _ _) (hS _ (.inl rfl)) _ _) (hS _ (.inl rfl)) _ _) (hS _ (.inl rfl)) _ _) (hS _ (.inl rfl)) _ _) (hS _ (.inl rfl)) _ _) (hS _ (.inl rfl)) _ _) (hS _ (.inl rfl)) _ _)⟩


set_option maxRecDepth 100000 in
set_option maxHeartbeats 2000000 in
theorem one_purge (p : Value) (o : Opr) (w : World) (R : World → World → Prop) (c : Int)
    (hc : ∀ W, Keep No w W → Calls Try.prog 12 #[p, .int .i64 o.n, .int .i64 o.m] W fun e w' => e = .returned (.int .i64 c) ∧ Keep (fun k => k < w.heap.size) W w' ∧ R W w') (hk : o.k = 6) :
    Calls Try.prog 9 #[p, valO o] w fun e w' => e = .returned (valT z false 0 c) ∧ Around w R w' := by
  unfold valO
  try unfold valE at *
  go_enter Try.func9, Try.ntmps9
  go_wp2_with fail
  refine (hc _ ((((Keep.refl _ _).alloc _).alloc _).alloc _)).mono ?_
  rintro e w1 ⟨rfl, hk, hR⟩
  have HR := hid hR
  have HS := hid hk.size
  have HB5 := hid (((Blk.new2 (w := w) (o := .cells #[.int .i64 6, .int .u64 o.e.h, .int .u64 o.e.a, .int .u64 o.e.v, .int .u8 o.e.c, .int .u64 o.at', .int .i64 o.n, .int .i64 o.m] 29) (o2 := .cells zT 36) (cs := zT) (cl := lT) 36 rfl)).mod hk (by show ¬ (w.heap.size + 2 < w.heap.size); omega))
  have HB4 := hid (((Blk.new1 (w := w) (o := .cells #[.int .i64 6, .int .u64 o.e.h, .int .u64 o.e.a, .int .u64 o.e.v, .int .u8 o.e.c, .int .u64 o.at', .int .i64 o.n, .int .i64 o.m] 29) (cs := zT) (cl := lT) 36 rfl).alloc (.cells zT 36)).mod hk (by show ¬ (w.heap.size + 1 < w.heap.size); omega))
  unfold lT at HB5 HB4
  obtain ⟨z5, b50, b51, b52, b53, b54, b55, b56, b57, b58, b59, b5a, b5b, b5c, f5⟩ := Blk.thirteen HB5.out
  obtain ⟨z4, b40, b41, b42, b43, b44, b45, b46, b47, b48, b49, b4a, b4b, b4c, f4⟩ := Blk.thirteen HB4.out
  clear hk hR
  go_wp2
  have n45 : w.heap.size + 1 ≠ w.heap.size + 1 + 1 := by omega
  have hS : ∀ k, k = w.heap.size + 1 ∨ k = w.heap.size + 1 + 1 → w.heap.size ≤ k ∧ k < (((w.alloc (.cells #[.int .i64 6, .int .u64 o.e.h, .int .u64 o.e.a, .int .u64 o.e.v, .int .u8 o.e.c, .int .u64 o.at', .int .i64 o.n, .int .i64 o.m] 29)).alloc (.cells zT 36)).alloc (.cells zT 36)).heap.size := fun k hk => by simp; omega
  exact bodyPost_ret (res_t rfl _ rfl ((((((((((((((Blk.ot HB4.out n45 _ _).set 0 _).set 1 _).set 2 _).set 3 _).set 4 _).set 5 _).set 6 _).set 7 _).set 8 _).set 9 _).set 10 _).set 11 _).set 12 _)) rfl ⟨rfl, _, w1, ((((Keep.refl _ w).alloc _).alloc _).alloc _), HR.out, HS.out, (Keep.st (Keep.st (Keep.st (Keep.st (Keep.st (Keep.st (Keep.st (Keep.st (Keep.st (Keep.st (Keep.st (Keep.st (Keep.st (Keep.st (Keep.refl _ _) (hS _ (.inr rfl)) _ _) (hS _ (.inl rfl)) _ _) (hS _ (.inl rfl)) _ _) (hS _ (.inl rfl)) _ _) (hS _ (.inl rfl)) _ _) (hS _ (.inl rfl)) _ _) (hS _ (.inl rfl)) _ _) (hS _ (.inl rfl)) _ _) (hS _ (.inl rfl)) _ _) (hS _ (.inl rfl)) _ _) (hS _ (.inl rfl)) _ _) (hS _ (.inl rfl)) _ _) (hS _ (.inl rfl)) _ _) (hS _ (.inl rfl)) _ _)⟩


set_option maxRecDepth 100000 in
set_option maxHeartbeats 2000000 in
theorem one_get (p : Value) (o : Opr) (w : World) (R : World → World → Prop) (eo : Ent) (b : Bool)
    (hc : ∀ W, Keep No w W → Calls Try.prog 26 #[p, .int .u64 o.e.h] W fun e w' => e = .returned (.tuple #[valE eo, .bool b]) ∧ Keep (fun k => k < w.heap.size) W w' ∧ R W w') (h0 : (o.k == 0) = false) (h2 : (o.k == 2) = false) (h3 : (o.k == 3) = false) (h4 : (o.k == 4) = false) (h5 : (o.k == 5) = false) (h6 : (o.k == 6) = false) :
    Calls Try.prog 9 #[p, valO o] w fun e w' => e = .returned (valT eo b 0 0) ∧ Around w R w' := by
  unfold valO
  try unfold valE at *
  go_enter Try.func9, Try.ntmps9
  go_wp2_with fail
  refine (hc _ ((((Keep.refl _ _).alloc _).alloc _).alloc _)).mono ?_
  rintro e w1 ⟨rfl, hk, hR⟩
  have HR := hid hR
  have HS := hid hk.size
  have HB5 := hid (((Blk.new2 (w := w) (o := .cells #[.int .i64 o.k, .int .u64 o.e.h, .int .u64 o.e.a, .int .u64 o.e.v, .int .u8 o.e.c, .int .u64 o.at', .int .i64 o.n, .int .i64 o.m] 29) (o2 := .cells zT 36) (cs := zT) (cl := lT) 36 rfl)).mod hk (by show ¬ (w.heap.size + 2 < w.heap.size); omega))
  have HB4 := hid (((Blk.new1 (w := w) (o := .cells #[.int .i64 o.k, .int .u64 o.e.h, .int .u64 o.e.a, .int .u64 o.e.v, .int .u8 o.e.c, .int .u64 o.at', .int .i64 o.n, .int .i64 o.m] 29) (cs := zT) (cl := lT) 36 rfl).alloc (.cells zT 36)).mod hk (by show ¬ (w.heap.size + 1 < w.heap.size); omega))
  unfold lT at HB5 HB4
  obtain ⟨z5, b50, b51, b52, b53, b54, b55, b56, b57, b58, b59, b5a, b5b, b5c, f5⟩ := Blk.thirteen HB5.out
  obtain ⟨z4, b40, b41, b42, b43, b44, b45, b46, b47, b48, b49, b4a, b4b, b4c, f4⟩ := Blk.thirteen HB4.out
  clear hk hR
  go_wp2
  have n45 : w.heap.size + 1 ≠ w.heap.size + 1 + 1 := by omega
  have hS : ∀ k, k = w.heap.size + 1 ∨ k = w.heap.size + 1 + 1 → w.heap.size ≤ k ∧ k < (((w.alloc (.cells #[.int .i64 o.k, .int .u64 o.e.h, .int .u64 o.e.a, .int .u64 o.e.v, .int .u8 o.e.c, .int .u64 o.at', .int .i64 o.n, .int .i64 o.m] 29)).alloc (.cells zT 36)).alloc (.cells zT 36)).heap.size := fun k hk => by simp; omega
  exact bodyPost_ret (res_t rfl _ rfl ((((((((((((((Blk.ot (Blk.ot (Blk.ot (Blk.ot (Blk.ot HB4.out n45 _ _) n45 _ _) n45 _ _) n45 _ _) n45 _ _).set 0 _).set 1 _).set 2 _).set 3 _).set 4 _).set 5 _).set 6 _).set 7 _).set 8 _).set 9 _).set 10 _).set 11 _).set 12 _)) rfl ⟨rfl, _, w1, ((((Keep.refl _ w).alloc _).alloc _).alloc _), HR.out, HS.out, (Keep.st (Keep.st (Keep.st (Keep.st (Keep.st (Keep.st (Keep.st (Keep.st (Keep.st (Keep.st (Keep.st (Keep.st (Keep.st (Keep.st (Keep.st (Keep.st (Keep.st (Keep.st (Keep.refl _ _) (hS _ (.inr rfl)) _ _) (hS _ (.inr rfl)) _ _) (hS _ (.inr rfl)) _ _) (hS _ (.inr rfl)) _ _) (hS _ (.inr rfl)) _ _) (hS _ (.inl rfl)) _ _) (hS _ (.inl rfl)) _ _) (hS _ (.inl rfl)) _ _) (hS _ (.inl rfl)) _ _) (hS _ (.inl rfl)) _ _) (hS _ (.inl rfl)) _ _) (hS _ (.inl rfl)) _ _) (hS _ (.inl rfl)) _ _) (hS _ (.inl rfl)) _ _) (hS _ (.inl rfl)) _ _) (hS _ (.inl rfl)) _ _) (hS _ (.inl rfl)) _ _) (hS _ (.inl rfl)) _ _)⟩

end Go.Proofs.Ytaijfgajcmopfaa.X7
