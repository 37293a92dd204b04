import Derived.Test.YtaijfgajcmopfaaZ1
import Derived.Test.YtaijfgajcmopfaaY14
import Derived.Deep.RegionHeld3
import Derived.Deep.DrawnRows
/- A call of both indexes, kind by kind. -/
set_option linter.unusedVariables false
set_option linter.unusedSimpArgs false
namespace Go.Proofs.Ytaijfgajcmopfaa.Z2
open Go.RowKit Go.Shelf V Rh T W1 W2 W3 W4 W6 Rf X1 X2 X3 X4 X5 X6 X7 Pl Y1 Y2 Y3 Y4 Y5 Y6 Y7 Y8 Y9 Y14 Ap Z1
attribute [local go_sem] Oper.semAt_some
attribute [local go_sem ↓] Go.wp_at_zero Go.wp_at_succ

theorem cells8 {w : World} {b : Nat} {o : Opr} {t : TypeId} (h : Blk w b (cellsO o) t) : b < w.heap.size ∧ w.cell? ⟨b, 0, none⟩ = some (.int .i64 o.k) ∧ w.cell? ⟨b, 1, none⟩ = some (.int .u64 o.e.h) ∧ w.cell? ⟨b, 2, none⟩ = some (.int .u64 o.e.a) ∧ w.cell? ⟨b, 3, none⟩ = some (.int .u64 o.e.v) ∧ w.cell? ⟨b, 4, none⟩ = some (.int .u8 o.e.c) ∧ w.cell? ⟨b, 5, none⟩ = some (.int .u64 o.at') ∧ w.cell? ⟨b, 6, none⟩ = some (.int .i64 o.n) ∧ w.cell? ⟨b, 7, none⟩ = some (.int .i64 o.m) ∧ (∀ i, w.frozen? ⟨b, i, none⟩ = false) :=
  ⟨h.lt, h.cell 0, h.cell 1, h.cell 2, h.cell 3, h.cell 4, h.cell 5, h.cell 6, h.cell 7, h.frozen⟩

abbrev SO (V : World) (b : Nat) (o : Opr) : Prop := V.cell? ⟨b, 0, none⟩ = some (.int .i64 o.k) ∧ V.cell? ⟨b, 1, none⟩ = some (.int .u64 o.e.h) ∧ V.cell? ⟨b, 2, none⟩ = some (.int .u64 o.e.a) ∧ V.cell? ⟨b, 5, none⟩ = some (.int .u64 o.at') ∧ V.cell? ⟨b, 6, none⟩ = some (.int .i64 o.n) ∧ V.cell? ⟨b, 7, none⟩ = some (.int .i64 o.m)
theorem cells8S {w : World} {b : Nat} {o : Opr} {t : TypeId} (h : Blk w b (cellsO o) t) : SO w b o :=
  ⟨h.cell 0, h.cell 1, h.cell 2, h.cell 5, h.cell 6, h.cell 7⟩


set_option maxRecDepth 100000 in
set_option maxHeartbeats 2000000 in
theorem does_removeIf {w : World} {p q : Value} {most : Nat} {Ls Ls' : List (List Ent)} {F G : Nat → Prop} (hB : Both w p q most Ls F G) (o : Opr) (b : Bool)
    (hA : ∀ W, Keep No w W → Calls Try.prog 23 #[p, .int .u64 o.e.h, .int .u64 o.at'] W fun e w' => e = .returned (.bool b) ∧ Then W w' p most Ls' F)
    (hR : ∀ W, Keep F w W → Calls Try.prog 36 #[q, .int .u64 o.e.h, .int .u64 o.at'] W fun e w' => e = .returned (.bool b) ∧ RThen W w' q most Ls' G) (hk : o.k = 3) :
    Calls Try.prog 14 #[p, q, valO o] w fun e w' => e = .returned (.bool true) ∧ BThen w w' p q most Ls' F G := by
  have HB := hid hB
  have hlt := hB.lt
  have HO : Hid (Blk (w.alloc (.cells #[.int .i64 3, .int .u64 o.e.h, .int .u64 o.e.a, .int .u64 o.e.v, .int .u8 o.e.c, .int .u64 o.at', .int .i64 o.n, .int .i64 o.m] 29)) w.heap.size (cellsO o) 29) := Blk.new' _ (by unfold cellsO; rw [hk])
  have nF : ¬ F w.heap.size := fun h => by have := hlt _ (.inl h); omega
  have nG : ¬ G w.heap.size := fun h => by have := hlt _ (.inr h); omega
  have HA := hid hA
  have HR := hid hR
  have HK : Hid (Keep No w (w.alloc (.cells #[.int .i64 3, .int .u64 o.e.h, .int .u64 o.e.a, .int .u64 o.e.v, .int .u8 o.e.c, .int .u64 o.at', .int .i64 o.n, .int .i64 o.m] 29))) := (Keep.refl _ _).alloc _
  obtain ⟨z0, c0, c1, c2, c3, c4, c5, c6, c7, _⟩ := cells8 HO.out
  rw [hk] at c0
  clear hB hA hR hlt
  unfold valO
  go_enter Try.func14, Try.ntmps14
  go_wp2
  clear c0 c1 c2 c3 c4 c5 c6 c7
  obtain ⟨W, hW⟩ : ∃ W, w.alloc (.cells #[.int .i64 3, .int .u64 o.e.h, .int .u64 o.e.a, .int .u64 o.e.v, .int .u8 o.e.c, .int .u64 o.at', .int .i64 o.n, .int .i64 o.m] 29) = W := ⟨_, rfl⟩
  rw [hW] at HO HK z0 ⊢
  clear hW
  have S1 : Hid (∀ V, Blk V w.heap.size (cellsO o) 29 → SO V w.heap.size o) := fun V h => cells8S h
  go_region_held3 (fun V => V.cell? ⟨w.heap.size, 0, none⟩ = some (.int .i64 o.k) ∧ V.cell? ⟨w.heap.size, 1, none⟩ = some (.int .u64 o.e.h) ∧ V.cell? ⟨w.heap.size, 2, none⟩ = some (.int .u64 o.e.a) ∧ V.cell? ⟨w.heap.size, 5, none⟩ = some (.int .u64 o.at') ∧ V.cell? ⟨w.heap.size, 6, none⟩ = some (.int .i64 o.n) ∧ V.cell? ⟨w.heap.size, 7, none⟩ = some (.int .i64 o.m)) (first | exact S1.out _ HO.out.drew | exact S1.out _ hS1 | exact S1.out _ hS2)
    (first | (go_at_call 23; refine (HA.out _ HK.out.drew).mono ?_; rintro e w1 ⟨rfl, hT⟩; have hS1 := HO.out.drew.mod hT.1 nF; have HT := hid hT; have HK1 := hid (((HK.out.drew.mono (fun _ _ e => e.elim)).trans hT.1 (fun _ _ e => e) : Keep F w w1)); clear hT) | (go_at_call 36; refine (HR.out _ HK1.out).mono ?_; rintro e w2 ⟨rfl, hR2⟩; have hS2 := hS1.mod hR2.1 nG; have HR2 := hid hR2; clear hR2))
  go_wp2
  go_ret
  exact ⟨rfl, HB.out.ab (Then.pre HK.out.drew HT.out) HR2.out⟩



set_option maxRecDepth 100000 in
set_option maxHeartbeats 2000000 in
theorem does_move {w : World} {p q : Value} {most : Nat} {Ls Ls' : List (List Ent)} {F G : Nat → Prop} (hB : Both w p q most Ls F G) (o : Opr) (b : Bool)
    (hA : ∀ W, Keep No w W → Calls Try.prog 24 #[p, .int .u64 o.e.h, .int .u64 o.at', .int .u64 o.e.a] W fun e w' => e = .returned (.bool b) ∧ Then W w' p most Ls' F)
    (hR : ∀ W, Keep F w W → Calls Try.prog 37 #[q, .int .u64 o.e.h, .int .u64 o.at', .int .u64 o.e.a] W fun e w' => e = .returned (.bool b) ∧ RThen W w' q most Ls' G) (hk : o.k = 4) :
    Calls Try.prog 14 #[p, q, valO o] w fun e w' => e = .returned (.bool true) ∧ BThen w w' p q most Ls' F G := by
  have HB := hid hB
  have hlt := hB.lt
  have HO : Hid (Blk (w.alloc (.cells #[.int .i64 4, .int .u64 o.e.h, .int .u64 o.e.a, .int .u64 o.e.v, .int .u8 o.e.c, .int .u64 o.at', .int .i64 o.n, .int .i64 o.m] 29)) w.heap.size (cellsO o) 29) := Blk.new' _ (by unfold cellsO; rw [hk])
  have nF : ¬ F w.heap.size := fun h => by have := hlt _ (.inl h); omega
  have nG : ¬ G w.heap.size := fun h => by have := hlt _ (.inr h); omega
  have HA := hid hA
  have HR := hid hR
  have HK : Hid (Keep No w (w.alloc (.cells #[.int .i64 4, .int .u64 o.e.h, .int .u64 o.e.a, .int .u64 o.e.v, .int .u8 o.e.c, .int .u64 o.at', .int .i64 o.n, .int .i64 o.m] 29))) := (Keep.refl _ _).alloc _
  obtain ⟨z0, c0, c1, c2, c3, c4, c5, c6, c7, _⟩ := cells8 HO.out
  rw [hk] at c0
  clear hB hA hR hlt
  unfold valO
  go_enter Try.func14, Try.ntmps14
  go_wp2
  clear c0 c1 c2 c3 c4 c5 c6 c7
  obtain ⟨W, hW⟩ : ∃ W, w.alloc (.cells #[.int .i64 4, .int .u64 o.e.h, .int .u64 o.e.a, .int .u64 o.e.v, .int .u8 o.e.c, .int .u64 o.at', .int .i64 o.n, .int .i64 o.m] 29) = W := ⟨_, rfl⟩
  rw [hW] at HO HK z0 ⊢
  clear hW
  have S1 : Hid (∀ V, Blk V w.heap.size (cellsO o) 29 → SO V w.heap.size o) := fun V h => cells8S h
  go_region_held3 (fun V => V.cell? ⟨w.heap.size, 0, none⟩ = some (.int .i64 o.k) ∧ V.cell? ⟨w.heap.size, 1, none⟩ = some (.int .u64 o.e.h) ∧ V.cell? ⟨w.heap.size, 2, none⟩ = some (.int .u64 o.e.a) ∧ V.cell? ⟨w.heap.size, 5, none⟩ = some (.int .u64 o.at') ∧ V.cell? ⟨w.heap.size, 6, none⟩ = some (.int .i64 o.n) ∧ V.cell? ⟨w.heap.size, 7, none⟩ = some (.int .i64 o.m)) (first | exact S1.out _ HO.out.drew | exact S1.out _ hS1 | exact S1.out _ hS2)
    (first | (go_at_call 24; refine (HA.out _ HK.out.drew).mono ?_; rintro e w1 ⟨rfl, hT⟩; have hS1 := HO.out.drew.mod hT.1 nF; have HT := hid hT; have HK1 := hid (((HK.out.drew.mono (fun _ _ e => e.elim)).trans hT.1 (fun _ _ e => e) : Keep F w w1)); clear hT) | (go_at_call 37; refine (HR.out _ HK1.out).mono ?_; rintro e w2 ⟨rfl, hR2⟩; have hS2 := hS1.mod hR2.1 nG; have HR2 := hid hR2; clear hR2))
  go_wp2
  go_ret
  exact ⟨rfl, HB.out.ab (Then.pre HK.out.drew HT.out) HR2.out⟩



set_option maxRecDepth 100000 in
set_option maxHeartbeats 2000000 in
theorem does_hit {w : World} {p q : Value} {most : Nat} {Ls Ls' : List (List Ent)} {F G : Nat → Prop} (hB : Both w p q most Ls F G) (o : Opr) (b : Bool)
    (hA : ∀ W, Keep No w W → Calls Try.prog 25 #[p, .int .u64 o.e.h] W fun e w' => e = .returned (.bool b) ∧ Then W w' p most Ls' F)
    (hR : ∀ W, Keep F w W → Calls Try.prog 38 #[q, .int .u64 o.e.h] W fun e w' => e = .returned (.bool b) ∧ RThen W w' q most Ls' G) (hk : o.k = 5) :
    Calls Try.prog 14 #[p, q, valO o] w fun e w' => e = .returned (.bool true) ∧ BThen w w' p q most Ls' F G := by
  have HB := hid hB
  have hlt := hB.lt
  have HO : Hid (Blk (w.alloc (.cells #[.int .i64 5, .int .u64 o.e.h, .int .u64 o.e.a, .int .u64 o.e.v, .int .u8 o.e.c, .int .u64 o.at', .int .i64 o.n, .int .i64 o.m] 29)) w.heap.size (cellsO o) 29) := Blk.new' _ (by unfold cellsO; rw [hk])
  have nF : ¬ F w.heap.size := fun h => by have := hlt _ (.inl h); omega
  have nG : ¬ G w.heap.size := fun h => by have := hlt _ (.inr h); omega
  have HA := hid hA
  have HR := hid hR
  have HK : Hid (Keep No w (w.alloc (.cells #[.int .i64 5, .int .u64 o.e.h, .int .u64 o.e.a, .int .u64 o.e.v, .int .u8 o.e.c, .int .u64 o.at', .int .i64 o.n, .int .i64 o.m] 29))) := (Keep.refl _ _).alloc _
  obtain ⟨z0, c0, c1, c2, c3, c4, c5, c6, c7, _⟩ := cells8 HO.out
  rw [hk] at c0
  clear hB hA hR hlt
  unfold valO
  go_enter Try.func14, Try.ntmps14
  go_wp2
  clear c0 c1 c2 c3 c4 c5 c6 c7
  obtain ⟨W, hW⟩ : ∃ W, w.alloc (.cells #[.int .i64 5, .int .u64 o.e.h, .int .u64 o.e.a, .int .u64 o.e.v, .int .u8 o.e.c, .int .u64 o.at', .int .i64 o.n, .int .i64 o.m] 29) = W := ⟨_, rfl⟩
  rw [hW] at HO HK z0 ⊢
  clear hW
  have S1 : Hid (∀ V, Blk V w.heap.size (cellsO o) 29 → SO V w.heap.size o) := fun V h => cells8S h
  go_region_held3 (fun V => V.cell? ⟨w.heap.size, 0, none⟩ = some (.int .i64 o.k) ∧ V.cell? ⟨w.heap.size, 1, none⟩ = some (.int .u64 o.e.h) ∧ V.cell? ⟨w.heap.size, 2, none⟩ = some (.int .u64 o.e.a) ∧ V.cell? ⟨w.heap.size, 5, none⟩ = some (.int .u64 o.at') ∧ V.cell? ⟨w.heap.size, 6, none⟩ = some (.int .i64 o.n) ∧ V.cell? ⟨w.heap.size, 7, none⟩ = some (.int .i64 o.m)) (first | exact S1.out _ HO.out.drew | exact S1.out _ hS1 | exact S1.out _ hS2)
    (first | (go_at_call 25; refine (HA.out _ HK.out.drew).mono ?_; rintro e w1 ⟨rfl, hT⟩; have hS1 := HO.out.drew.mod hT.1 nF; have HT := hid hT; have HK1 := hid (((HK.out.drew.mono (fun _ _ e => e.elim)).trans hT.1 (fun _ _ e => e) : Keep F w w1)); clear hT) | (go_at_call 38; refine (HR.out _ HK1.out).mono ?_; rintro e w2 ⟨rfl, hR2⟩; have hS2 := hS1.mod hR2.1 nG; have HR2 := hid hR2; clear hR2))
  go_wp2
  go_ret
  exact ⟨rfl, HB.out.ab (Then.pre HK.out.drew HT.out) HR2.out⟩



set_option maxRecDepth 100000 in
set_option maxHeartbeats 2000000 in
theorem does_purge {w : World} {p q : Value} {most : Nat} {Ls Ls' : List (List Ent)} {F G : Nat → Prop} (hB : Both w p q most Ls F G) (o : Opr) (c : Int)
    (hA : ∀ W, Keep No w W → Calls Try.prog 12 #[p, .int .i64 o.n, .int .i64 o.m] W fun e w' => e = .returned (.int .i64 c) ∧ Then W w' p most Ls' F)
    (hR : ∀ W, Keep F w W → Calls Try.prog 39 #[q, .int .i64 o.n, .int .i64 o.m] W fun e w' => e = .returned (.int .i64 c) ∧ RThen W w' q most Ls' G) (hk : o.k = 6) :
    Calls Try.prog 14 #[p, q, valO o] w fun e w' => e = .returned (.bool true) ∧ BThen w w' p q most Ls' F G := by
  have HB := hid hB
  have hlt := hB.lt
  have HO : Hid (Blk (w.alloc (.cells #[.int .i64 6, .int .u64 o.e.h, .int .u64 o.e.a, .int .u64 o.e.v, .int .u8 o.e.c, .int .u64 o.at', .int .i64 o.n, .int .i64 o.m] 29)) w.heap.size (cellsO o) 29) := Blk.new' _ (by unfold cellsO; rw [hk])
  have nF : ¬ F w.heap.size := fun h => by have := hlt _ (.inl h); omega
  have nG : ¬ G w.heap.size := fun h => by have := hlt _ (.inr h); omega
  have HA := hid hA
  have HR := hid hR
  have HK : Hid (Keep No w (w.alloc (.cells #[.int .i64 6, .int .u64 o.e.h, .int .u64 o.e.a, .int .u64 o.e.v, .int .u8 o.e.c, .int .u64 o.at', .int .i64 o.n, .int .i64 o.m] 29))) := (Keep.refl _ _).alloc _
  obtain ⟨z0, c0, c1, c2, c3, c4, c5, c6, c7, _⟩ := cells8 HO.out
  rw [hk] at c0
  clear hB hA hR hlt
  unfold valO
  go_enter Try.func14, Try.ntmps14
  go_wp2
  clear c0 c1 c2 c3 c4 c5 c6 c7
  obtain ⟨W, hW⟩ : ∃ W, w.alloc (.cells #[.int .i64 6, .int .u64 o.e.h, .int .u64 o.e.a, .int .u64 o.e.v, .int .u8 o.e.c, .int .u64 o.at', .int .i64 o.n, .int .i64 o.m] 29) = W := ⟨_, rfl⟩
  rw [hW] at HO HK z0 ⊢
  clear hW
  have S1 : Hid (∀ V, Blk V w.heap.size (cellsO o) 29 → SO V w.heap.size o) := fun V h => cells8S h
  go_region_held3 (fun V => V.cell? ⟨w.heap.size, 0, none⟩ = some (.int .i64 o.k) ∧ V.cell? ⟨w.heap.size, 1, none⟩ = some (.int .u64 o.e.h) ∧ V.cell? ⟨w.heap.size, 2, none⟩ = some (.int .u64 o.e.a) ∧ V.cell? ⟨w.heap.size, 5, none⟩ = some (.int .u64 o.at') ∧ V.cell? ⟨w.heap.size, 6, none⟩ = some (.int .i64 o.n) ∧ V.cell? ⟨w.heap.size, 7, none⟩ = some (.int .i64 o.m)) (first | exact S1.out _ HO.out.drew | exact S1.out _ hS1 | exact S1.out _ hS2)
    (first | (go_at_call 12; refine (HA.out _ HK.out.drew).mono ?_; rintro e w1 ⟨rfl, hT⟩; have hS1 := HO.out.drew.mod hT.1 nF; have HT := hid hT; have HK1 := hid (((HK.out.drew.mono (fun _ _ e => e.elim)).trans hT.1 (fun _ _ e => e) : Keep F w w1)); clear hT) | (go_at_call 39; refine (HR.out _ HK1.out).mono ?_; rintro e w2 ⟨rfl, hR2⟩; have hS2 := hS1.mod hR2.1 nG; have HR2 := hid hR2; clear hR2))
  go_wp2
  go_ret
  exact ⟨rfl, HB.out.ab (Then.pre HK.out.drew HT.out) HR2.out⟩



set_option maxRecDepth 100000 in
set_option maxHeartbeats 2000000 in
theorem does_put {w : World} {p q : Value} {most : Nat} {Ls Ls' : List (List Ent)} {F G : Nat → Prop} (hB : Both w p q most Ls F G) (o : Opr) (eo : Ent) (b : Bool) (err : Int)
    (hA : ∀ W, Keep No w W → Calls Try.prog 21 #[p, valE o.e] W fun e w' => e = .returned (.tuple #[valE eo, .bool b, .int .i64 err]) ∧ Then W w' p most Ls' F)
    (hR : ∀ W, Keep F w W → Calls Try.prog 32 #[q, valE o.e] W fun e w' => e = .returned (.tuple #[valE eo, .bool b, .int .i64 err]) ∧ RThen W w' q most Ls' G) (hk : o.k = 0) :
    Calls Try.prog 14 #[p, q, valO o] w fun e w' => e = .returned (.bool true) ∧ BThen w w' p q most Ls' F G := by
  have HB := hid hB
  have hlt := hB.lt
  have HO : Hid (Blk (w.alloc (.cells #[.int .i64 0, .int .u64 o.e.h, .int .u64 o.e.a, .int .u64 o.e.v, .int .u8 o.e.c, .int .u64 o.at', .int .i64 o.n, .int .i64 o.m] 29)) w.heap.size (cellsO o) 29) := Blk.new' _ (by unfold cellsO; rw [hk])
  have nF : ¬ F w.heap.size := fun h => by have := hlt _ (.inl h); omega
  have nG : ¬ G w.heap.size := fun h => by have := hlt _ (.inr h); omega
  have HA := hid hA
  have HR := hid hR
  have HK : Hid (Keep No w (w.alloc (.cells #[.int .i64 0, .int .u64 o.e.h, .int .u64 o.e.a, .int .u64 o.e.v, .int .u8 o.e.c, .int .u64 o.at', .int .i64 o.n, .int .i64 o.m] 29))) := (Keep.refl _ _).alloc _
  obtain ⟨z0, c0, c1, c2, c3, c4, c5, c6, c7, _⟩ := cells8 HO.out
  rw [hk] at c0
  clear hB hA hR hlt
  unfold valO
  go_enter Try.func14, Try.ntmps14
  go_wp2_with fail
  clear c0 c1 c2 c3 c4 c5 c6 c7
  obtain ⟨W, hW⟩ : ∃ W, w.alloc (.cells #[.int .i64 0, .int .u64 o.e.h, .int .u64 o.e.a, .int .u64 o.e.v, .int .u8 o.e.c, .int .u64 o.at', .int .i64 o.n, .int .i64 o.m] 29) = W := ⟨_, rfl⟩
  rw [hW] at HO HK z0 ⊢
  clear hW
  have CE : ∀ (W : World) (e : Ent), Blk (W.alloc (.cells #[.int .u64 e.h, .int .u64 e.a, .int .u64 e.v, .int .u8 e.c] 27)) W.heap.size [.int .u64 e.h, .int .u64 e.a, .int .u64 e.v, .int .u8 e.c] 27 := fun W e => Blk.new' _ rfl
  have HCE := hid CE
  clear CE
  unfold valE at *
  obtain ⟨z0, c0, c1, c2, c3, c4, c5, c6, c7, _⟩ := cells8 HO.out
  refine (HA.out _ HK.out).mono ?_
  rintro e w1 ⟨rfl, hT⟩
  obtain ⟨z1, d0, d1, d2, d3, d4, d5, d6, d7, _⟩ := cells8 (HO.out.mod hT.1 nF)
  have HT := hid hT
  have HK1 := hid (((HK.out.mono (fun _ _ e => e.elim)).trans hT.1 (fun _ _ e => e) : Keep F w w1))
  have nG1 : ¬ G w1.heap.size := fun h => by have := HB.out.lt _ (.inr h); omega
  clear hT c0 c1 c2 c3 c4 c5 c6 c7
  go_wp2_with fail
  refine (HR.out _ (HK1.out.alloc _)).mono ?_
  rintro e w2 ⟨rfl, hR2⟩
  obtain ⟨z2, e0, e1, e2, e3, _⟩ := ((HCE.out w1 eo).mod hR2.1 nG1).four
  have HR2 := hid hR2
  clear hR2 d0 d1 d2 d3 d4 d5 d6 d7
  go_wp2
  go_ret
  exact ⟨rfl, HB.out.ab (Then.post (Then.pre HK.out HT.out) ((Keep.refl _ _).alloc _)) (RThen.post HR2.out ((Keep.refl _ _).alloc _))⟩



set_option maxRecDepth 100000 in
set_option maxHeartbeats 2000000 in
theorem does_remove {w : World} {p q : Value} {most : Nat} {Ls Ls' : List (List Ent)} {F G : Nat → Prop} (hB : Both w p q most Ls F G) (o : Opr) (eo : Ent) (b : Bool)
    (hA : ∀ W, Keep No w W → Calls Try.prog 22 #[p, .int .u64 o.e.h] W fun e w' => e = .returned (.tuple #[valE eo, .bool b]) ∧ Then W w' p most Ls' F)
    (hR : ∀ W, Keep F w W → Calls Try.prog 35 #[q, .int .u64 o.e.h] W fun e w' => e = .returned (.tuple #[valE eo, .bool b]) ∧ RThen W w' q most Ls' G) (hk : o.k = 2) :
    Calls Try.prog 14 #[p, q, valO o] w fun e w' => e = .returned (.bool true) ∧ BThen w w' p q most Ls' F G := by
  have HB := hid hB
  have hlt := hB.lt
  have HO : Hid (Blk (w.alloc (.cells #[.int .i64 2, .int .u64 o.e.h, .int .u64 o.e.a, .int .u64 o.e.v, .int .u8 o.e.c, .int .u64 o.at', .int .i64 o.n, .int .i64 o.m] 29)) w.heap.size (cellsO o) 29) := Blk.new' _ (by unfold cellsO; rw [hk])
  have nF : ¬ F w.heap.size := fun h => by have := hlt _ (.inl h); omega
  have nG : ¬ G w.heap.size := fun h => by have := hlt _ (.inr h); omega
  have HA := hid hA
  have HR := hid hR
  have HK : Hid (Keep No w (w.alloc (.cells #[.int .i64 2, .int .u64 o.e.h, .int .u64 o.e.a, .int .u64 o.e.v, .int .u8 o.e.c, .int .u64 o.at', .int .i64 o.n, .int .i64 o.m] 29))) := (Keep.refl _ _).alloc _
  obtain ⟨z0, c0, c1, c2, c3, c4, c5, c6, c7, _⟩ := cells8 HO.out
  rw [hk] at c0
  clear hB hA hR hlt
  unfold valO
  go_enter Try.func14, Try.ntmps14
  go_wp2_with fail
  clear c0 c1 c2 c3 c4 c5 c6 c7
  obtain ⟨W, hW⟩ : ∃ W, w.alloc (.cells #[.int .i64 2, .int .u64 o.e.h, .int .u64 o.e.a, .int .u64 o.e.v, .int .u8 o.e.c, .int .u64 o.at', .int .i64 o.n, .int .i64 o.m] 29) = W := ⟨_, rfl⟩
  rw [hW] at HO HK z0 ⊢
  clear hW
  have CE : ∀ (W : World) (e : Ent), Blk (W.alloc (.cells #[.int .u64 e.h, .int .u64 e.a, .int .u64 e.v, .int .u8 e.c] 27)) W.heap.size [.int .u64 e.h, .int .u64 e.a, .int .u64 e.v, .int .u8 e.c] 27 := fun W e => Blk.new' _ rfl
  have HCE := hid CE
  clear CE
  unfold valE at *
  obtain ⟨z0, c0, c1, c2, c3, c4, c5, c6, c7, _⟩ := cells8 HO.out
  refine (HA.out _ HK.out).mono ?_
  rintro e w1 ⟨rfl, hT⟩
  obtain ⟨z1, d0, d1, d2, d3, d4, d5, d6, d7, _⟩ := cells8 (HO.out.mod hT.1 nF)
  have HT := hid hT
  have HK1 := hid (((HK.out.mono (fun _ _ e => e.elim)).trans hT.1 (fun _ _ e => e) : Keep F w w1))
  have nG1 : ¬ G w1.heap.size := fun h => by have := HB.out.lt _ (.inr h); omega
  clear hT c0 c1 c2 c3 c4 c5 c6 c7
  go_wp2_with fail
  refine (HR.out _ (HK1.out.alloc _)).mono ?_
  rintro e w2 ⟨rfl, hR2⟩
  obtain ⟨z2, e0, e1, e2, e3, _⟩ := ((HCE.out w1 eo).mod hR2.1 nG1).four
  have HR2 := hid hR2
  clear hR2 d0 d1 d2 d3 d4 d5 d6 d7
  go_wp2
  go_ret
  exact ⟨rfl, HB.out.ab (Then.post (Then.pre HK.out HT.out) ((Keep.refl _ _).alloc _)) (RThen.post HR2.out ((Keep.refl _ _).alloc _))⟩



set_option maxRecDepth 100000 in
set_option maxHeartbeats 2000000 in
theorem does_get {w : World} {p q : Value} (o : Opr) (eo : Ent) (b : Bool) (s : Int)
    (hA : ∀ W, Keep No w W → Calls Try.prog 26 #[p, .int .u64 o.e.h] W fun e w' => e = .returned (.tuple #[valE eo, .bool b]) ∧ Keep No W w')
    (hR : ∀ W, Keep No w W → Calls Try.prog 33 #[q, .int .u64 o.e.h] W fun e w' => e = .returned (.tuple #[valE eo, .bool b]) ∧ Keep No W w')
    (hS : ∀ W, Keep No w W → Calls Try.prog 20 #[p, .int .u64 o.e.h] W fun e w' => e = .returned (.int .i64 s) ∧ W = w')
    (hT : ∀ W, Keep No w W → Calls Try.prog 34 #[q, .int .u64 o.e.h] W fun e w' => e = .returned (.int .i64 s) ∧ W = w') (hk : o.k = 1) :
    Calls Try.prog 14 #[p, q, valO o] w fun e w' => e = .returned (.bool true) ∧ Keep No w w' := by
  have HO : Hid (Blk (w.alloc (.cells #[.int .i64 1, .int .u64 o.e.h, .int .u64 o.e.a, .int .u64 o.e.v, .int .u8 o.e.c, .int .u64 o.at', .int .i64 o.n, .int .i64 o.m] 29)) w.heap.size (cellsO o) 29) := Blk.new' _ (by unfold cellsO; rw [hk])
  have HK : Hid (Keep No w (w.alloc (.cells #[.int .i64 1, .int .u64 o.e.h, .int .u64 o.e.a, .int .u64 o.e.v, .int .u8 o.e.c, .int .u64 o.at', .int .i64 o.n, .int .i64 o.m] 29))) := (Keep.refl _ _).alloc _
  obtain ⟨z0, c0, c1, c2, c3, c4, c5, c6, c7, _⟩ := cells8 HO.out
  have HA := hid hA; have HR := hid hR; have HS := hid hS; have HT := hid hT; clear hA hR hS hT
  rw [hk] at c0
  unfold valO
  go_enter Try.func14, Try.ntmps14
  go_wp2_with fail
  clear c0 c1 c2 c3 c4 c5 c6 c7
  obtain ⟨W, hW⟩ : ∃ W, w.alloc (.cells #[.int .i64 1, .int .u64 o.e.h, .int .u64 o.e.a, .int .u64 o.e.v, .int .u8 o.e.c, .int .u64 o.at', .int .i64 o.n, .int .i64 o.m] 29) = W := ⟨_, rfl⟩
  rw [hW] at HO HK z0 ⊢
  clear hW
  have CE : ∀ (W : World) (e : Ent), Blk (W.alloc (.cells #[.int .u64 e.h, .int .u64 e.a, .int .u64 e.v, .int .u8 e.c] 27)) W.heap.size [.int .u64 e.h, .int .u64 e.a, .int .u64 e.v, .int .u8 e.c] 27 := fun W e => Blk.new' _ rfl
  have HCE := hid CE
  clear CE
  unfold valE at *
  refine (HA.out _ HK.out).mono ?_
  rintro e w1 ⟨rfl, hT⟩
  have hO1 := HO.out.mod hT (no _)
  have HO1 := hid hO1
  obtain ⟨z1, d0, d1, d2, d3, d4, d5, d6, d7, _⟩ := cells8 hO1
  have HK1 := hid (HK.out.trans hT (fun _ _ e => e))
  clear hT hO1
  go_wp2_with fail
  refine (HR.out _ (HK1.out.alloc _)).mono ?_
  rintro e w2 ⟨rfl, hR2⟩
  have hO2 := (HO1.out.alloc (.cells #[.int .u64 eo.h, .int .u64 eo.a, .int .u64 eo.v, .int .u8 eo.c] 27)).mod hR2 (no _)
  have hA2 := (HCE.out w1 eo).mod hR2 (no _)
  have HK2 := hid ((HK1.out.alloc (.cells #[.int .u64 eo.h, .int .u64 eo.a, .int .u64 eo.v, .int .u8 eo.c] 27)).trans hR2 (fun _ _ e => e))
  have HO2 := hid hO2
  have HA2 := hid hA2
  clear hR2 hO2 hA2 d0 d1 d2 d3 d4 d5 d6 d7
  obtain ⟨z2, e0, e1, e2, e3, _⟩ := HA2.out.four
  go_wp2_with fail
  obtain ⟨W3, hW3⟩ : ∃ W, w2.alloc (.cells #[.int .u64 eo.h, .int .u64 eo.a, .int .u64 eo.v, .int .u8 eo.c] 27) = W := ⟨_, rfl⟩
  have HB3 : Hid (Blk W3 w2.heap.size [.int .u64 eo.h, .int .u64 eo.a, .int .u64 eo.v, .int .u8 eo.c] 27) := by rw [← hW3]; exact HCE.out w2 eo
  have HA3 : Hid (Blk W3 w1.heap.size [.int .u64 eo.h, .int .u64 eo.a, .int .u64 eo.v, .int .u8 eo.c] 27) := by rw [← hW3]; exact HA2.out.alloc _
  have HO3 : Hid (Blk W3 w.heap.size (cellsO o) 29) := by rw [← hW3]; exact HO2.out.alloc _
  have HK3 : Hid (Keep No w W3) := by rw [← hW3]; exact HK2.out.alloc _
  rw [hW3]
  clear hW3 e0 e1 e2 e3
  obtain ⟨_, e0, e1, e2, e3, _⟩ := HA3.out.four
  obtain ⟨_, f0, f1, f2, f3, _⟩ := HB3.out.four
  obtain ⟨_, c0, c1, c2, c3, c4, c5, c6, c7, _⟩ := cells8 HO3.out
  have hs1 : ∀ k, Calls Try.prog 20 #[p, .int .u64 o.e.h] (W3.drewN k) fun e w' => e = .returned (.int .i64 s) ∧ W3.drewN k = w' := fun k => HS.out _ (HK3.out.drewN k)
  have hs2 : ∀ k, Calls Try.prog 34 #[q, .int .u64 o.e.h] (W3.drewN k) fun e w' => e = .returned (.int .i64 s) ∧ W3.drewN k = w' := fun k => HT.out _ (HK3.out.drewN k)
  go_quiet ((first | (go_at_call 20; exact Calls.quiet_of_same ((hs1 _).mono fun e w' h => ⟨h.1, h.2.symm⟩)) | (go_at_call 34; exact Calls.quiet_of_same ((hs2 _).mono fun e w' h => ⟨h.1, h.2.symm⟩))))
  go_wp2
  go_ret
  exact ⟨rfl, HK3.out.drewN _⟩



set_option maxRecDepth 100000 in
set_option maxHeartbeats 2000000 in
theorem does_len {w : World} {p q : Value} (o : Opr) (s : Int) (bq most n cap : Nat) (v : Option Addr)
    (hq : q = .pointer (some ⟨bq, 0, none⟩)) (hQ : Blk w bq [.int .i64 most, .slice v n cap] 80)
    (hA : ∀ W, Keep No w W → Calls Try.prog 19 #[p, .int .i64 o.n] W fun e w' => e = .returned (.int .i64 s) ∧ W = w')
    (hR : ∀ W, Keep No w W → Calls Try.prog 41 #[q, .int .i64 o.n] W fun e w' => e = .returned (.int .i64 s) ∧ W = w')
    (hS : ∀ W, Keep No w W → Calls Try.prog 10 #[p] W fun e w' => e = .returned (.int .i64 n) ∧ W = w') (hk : o.k = 8) :
    Calls Try.prog 14 #[p, q, valO o] w fun e w' => e = .returned (.bool true) ∧ Keep No w w' := by
  have HO : Hid (Blk (w.alloc (.cells #[.int .i64 8, .int .u64 o.e.h, .int .u64 o.e.a, .int .u64 o.e.v, .int .u8 o.e.c, .int .u64 o.at', .int .i64 o.n, .int .i64 o.m] 29)) w.heap.size (cellsO o) 29) := Blk.new' _ (by unfold cellsO; rw [hk])
  have HK : Hid (Keep No w (w.alloc (.cells #[.int .i64 8, .int .u64 o.e.h, .int .u64 o.e.a, .int .u64 o.e.v, .int .u8 o.e.c, .int .u64 o.at', .int .i64 o.n, .int .i64 o.m] 29))) := (Keep.refl _ _).alloc _
  obtain ⟨z0, c0, c1, c2, c3, c4, c5, c6, c7, _⟩ := cells8 HO.out
  subst hq; have HA := hid hA; have HR := hid hR; have HS := hid hS; have HQ := hid hQ; clear hA hR hS hQ
  rw [hk] at c0
  unfold valO
  go_enter Try.func14, Try.ntmps14
  go_wp2
  obtain ⟨W3, hW3⟩ : ∃ W, w.alloc (.cells #[.int .i64 8, .int .u64 o.e.h, .int .u64 o.e.a, .int .u64 o.e.v, .int .u8 o.e.c, .int .u64 o.at', .int .i64 o.n, .int .i64 o.m] 29) = W := ⟨_, rfl⟩
  rw [hW3] at HO HK z0 ⊢
  clear hW3 c0 c1 c2 c3 c4 c5 c6 c7
  obtain ⟨_, c0, c1, c2, c3, c4, c5, c6, c7, _⟩ := cells8 HO.out
  obtain ⟨_, b0, b1, _⟩ := (HQ.out.mod HK.out (no _)).two
  have hs1 : ∀ k, Calls Try.prog 19 #[p, .int .i64 o.n] (W3.drewN k) fun e w' => e = .returned (.int .i64 s) ∧ W3.drewN k = w' := fun k => HA.out _ (HK.out.drewN k)
  have hs2 : ∀ k, Calls Try.prog 41 #[.pointer (some ⟨bq, 0, none⟩), .int .i64 o.n] (W3.drewN k) fun e w' => e = .returned (.int .i64 s) ∧ W3.drewN k = w' := fun k => HR.out _ (HK.out.drewN k)
  have hs3 : ∀ k, Calls Try.prog 10 #[p] (W3.drewN k) fun e w' => e = .returned (.int .i64 n) ∧ W3.drewN k = w' := fun k => HS.out _ (HK.out.drewN k)
  go_quiet ((first | (go_at_call 19; exact Calls.quiet_of_same ((hs1 _).mono fun e w' h => ⟨h.1, h.2.symm⟩)) | (go_at_call 41; exact Calls.quiet_of_same ((hs2 _).mono fun e w' h => ⟨h.1, h.2.symm⟩)) | (go_at_call 10; exact Calls.quiet_of_same ((hs3 _).mono fun e w' h => ⟨h.1, h.2.symm⟩))))
  go_wp2
  go_ret
  exact ⟨rfl, HK.out.drewN _⟩



set_option maxRecDepth 100000 in
set_option maxHeartbeats 2000000 in
theorem does_all {w : World} {p q : Value} (o : Opr) 
    (hA : ∀ W, Keep No w W → Calls Try.prog 40 #[p, q, .int .i64 o.n, .int .i64 o.m] W fun e w' => e = .returned (.bool true) ∧ Keep No W w') (hk : o.k = 7) :
    Calls Try.prog 14 #[p, q, valO o] w fun e w' => e = .returned (.bool true) ∧ Keep No w w' := by
  have HO : Hid (Blk (w.alloc (.cells #[.int .i64 7, .int .u64 o.e.h, .int .u64 o.e.a, .int .u64 o.e.v, .int .u8 o.e.c, .int .u64 o.at', .int .i64 o.n, .int .i64 o.m] 29)) w.heap.size (cellsO o) 29) := Blk.new' _ (by unfold cellsO; rw [hk])
  have HK : Hid (Keep No w (w.alloc (.cells #[.int .i64 7, .int .u64 o.e.h, .int .u64 o.e.a, .int .u64 o.e.v, .int .u8 o.e.c, .int .u64 o.at', .int .i64 o.n, .int .i64 o.m] 29))) := (Keep.refl _ _).alloc _
  obtain ⟨z0, c0, c1, c2, c3, c4, c5, c6, c7, _⟩ := cells8 HO.out
  have HA := hid hA; clear hA
  rw [hk] at c0
  unfold valO
  go_enter Try.func14, Try.ntmps14
  go_wp2_with fail
  refine (HA.out _ HK.out).mono ?_
  rintro e w1 ⟨rfl, hT⟩
  have HT := hid (HK.out.trans hT (fun _ _ e => e))
  clear hT c0 c1 c2 c3 c4 c5 c6 c7
  go_wp2
  go_ret
  exact ⟨rfl, HT.out⟩



set_option maxRecDepth 100000 in
set_option maxHeartbeats 2000000 in
theorem does_none {w : World} {p q : Value} (o : Opr) 
 (h0 : (o.k == 0) = false) (h1 : (o.k == 1) = false) (h2 : (o.k == 2) = false) (h3 : (o.k == 3) = false) (h4 : (o.k == 4) = false) (h5 : (o.k == 5) = false) (h6 : (o.k == 6) = false) (h7 : (o.k == 7) = false) (h8 : (o.k == 8) = false) :
    Calls Try.prog 14 #[p, q, valO o] w fun e w' => e = .returned (.bool true) ∧ Keep No w w' := by
  have HO : Hid (Blk (w.alloc (.cells #[.int .i64 o.k, .int .u64 o.e.h, .int .u64 o.e.a, .int .u64 o.e.v, .int .u8 o.e.c, .int .u64 o.at', .int .i64 o.n, .int .i64 o.m] 29)) w.heap.size (cellsO o) 29) := Blk.new' _ (rfl)
  have HK : Hid (Keep No w (w.alloc (.cells #[.int .i64 o.k, .int .u64 o.e.h, .int .u64 o.e.a, .int .u64 o.e.v, .int .u8 o.e.c, .int .u64 o.at', .int .i64 o.n, .int .i64 o.m] 29))) := (Keep.refl _ _).alloc _
  obtain ⟨z0, c0, c1, c2, c3, c4, c5, c6, c7, _⟩ := cells8 HO.out
  skip
  skip
  unfold valO
  go_enter Try.func14, Try.ntmps14
  go_wp2
  go_ret
  exact ⟨rfl, HK.out⟩

end Go.Proofs.Ytaijfgajcmopfaa.Z2
