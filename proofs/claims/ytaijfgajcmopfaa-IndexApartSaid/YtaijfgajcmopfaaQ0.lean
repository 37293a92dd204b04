import Derived.Test.YtaijfgajcmopfaaProg
import Derived.WalkKit
import Derived.BigQuiet
import Derived.Deep.QuietTactic
import Derived.Lib.Hide
import Derived.Maps.AppendAt
import Derived.WalkSpells
import Derived.Shelf.SlSortCmp.NoneTotal
import Derived.RangeFuncNested
import Derived.RangeFuncLeaves
import Derived.RangeFuncCalls
import Derived.Shelf.Abstract
import Derived.OwnWalkIn
import Derived.TacticsInMore
import Derived.LoopNIn
import Derived.LoopIn
/- Texts of one proof, one behind the other: V Rh Rh2 T W1 W2 W3 W4 W5 W6 W7 Srt Sort W8 W9 Rf W10 X1 X2. -/
/- What the walks say of memory: which blocks lie as they lay; a block known whole. -/
set_option linter.unusedVariables false
namespace Go.Proofs.Ytaijfgajcmopfaa.V
open Go.RowKit

/-- The blocks outside S lie as they lay; the streams are as they were. -/
structure Keep (S : Nat → Prop) (w w' : World) : Prop where
  os : w'.os = w.os
  tape : w'.tape = w.tape
  output : w'.output = w.output
  size : w.heap.size ≤ w'.heap.size
  block : ∀ k, k < w.heap.size → ¬ S k → w'.heap[k]? = w.heap[k]?

theorem Keep.refl (S : Nat → Prop) (w : World) : Keep S w w := ⟨rfl, rfl, rfl, Nat.le_refl _, fun _ _ _ => rfl⟩
theorem Keep.trans {S S' : Nat → Prop} {a b c : World} (h : Keep S a b) (k : Keep S' b c) (hs : ∀ i, i < a.heap.size → S' i → S i) : Keep S a c :=
  ⟨k.os.trans h.os, k.tape.trans h.tape, k.output.trans h.output, Nat.le_trans h.size k.size, fun i hi hn => (k.block i (Nat.lt_of_lt_of_le hi h.size) (fun h' => hn (hs i hi h'))).trans (h.block i hi hn)⟩
theorem Keep.mono {S S' : Nat → Prop} {a b : World} (h : Keep S a b) (hs : ∀ i, i < a.heap.size → S i → S' i) : Keep S' a b := ⟨h.os, h.tape, h.output, h.size, fun i hi hn => h.block i hi (fun h' => hn (hs i hi h'))⟩
theorem Keep.drew {S : Nat → Prop} {a b : World} (h : Keep S a b) : Keep S a b.drew := ⟨h.os, h.tape, h.output, h.size, h.block⟩
theorem Keep.drewN {S : Nat → Prop} {a b : World} (h : Keep S a b) (n : Nat) : Keep S a (b.drewN n) := ⟨h.os, h.tape, h.output, h.size, h.block⟩
theorem Keep.alloc {S : Nat → Prop} {a b : World} (h : Keep S a b) (o : Obj) : Keep S a (b.alloc o) :=
  ⟨h.os, h.tape, h.output, by simp; have := h.size; omega, fun k hk hn => (Below.heap_alloc b o k (Nat.lt_of_lt_of_le hk h.size)).trans (h.block k hk hn)⟩
theorem Keep.setCell {S : Nat → Prop} {a b : World} (h : Keep S a b) (p : Addr) (u : Value) (hp : p.block < a.heap.size → S p.block) : Keep S a (b.setCell p u) :=
  ⟨h.os, h.tape, h.output, by simp; exact h.size, fun k hk hn => (Below.heap_setCell b p u k (fun e => hn (by subst e; exact hp hk))).trans (h.block k hk hn)⟩
theorem Keep.grown {S : Nat → Prop} {a b c : World} {row : Option Nat} (h : Keep S a b) (hg : b.grownBy c row) (hr : ∀ k, row = some k → k < a.heap.size → S k) : Keep S a c :=
  ⟨hg.os.trans h.os, hg.tape.trans h.tape, hg.output.trans h.output, Nat.le_trans h.size hg.size, fun k hk hn => (hg.block k (Nat.lt_of_lt_of_le hk h.size) (fun e => hn (hr k e.symm hk))).trans (h.block k hk hn)⟩
theorem Keep.below {S : Nat → Prop} {a b : World} (h : Keep S a b) (hs : ∀ k, k < a.heap.size → ¬ S k) : Below a.heap.size a b := ⟨h.os, h.tape, h.output, h.size, fun k hk => h.block k hk (hs k hk)⟩
theorem Keep.of_below {S : Nat → Prop} {a b : World} (h : Below a.heap.size a b) : Keep S a b := ⟨h.os, h.tape, h.output, h.size, fun k hk _ => h.block k hk⟩

/-- A block known whole. -/
def Blk (w : World) (b : Nat) (cs : List Value) (t : TypeId) : Prop := w.heap[b]? = some (.cells cs.toArray t (0, 0))

theorem Blk.lt {w : World} {b : Nat} {cs : List Value} {t : TypeId} (h : Blk w b cs t) : b < w.heap.size := (Array.getElem?_eq_some_iff.1 h).1
theorem Blk.cell {w : World} {b : Nat} {cs : List Value} {t : TypeId} (h : Blk w b cs t) (i : Nat) : w.cell? ⟨b, i, none⟩ = cs[i]? := by
  unfold Blk at h
  simp [World.cell?, h]
theorem Blk.frozen {w : World} {b : Nat} {cs : List Value} {t : TypeId} (h : Blk w b cs t) (i : Nat) : w.frozen? ⟨b, i, none⟩ = false := by
  unfold Blk at h
  simp [World.frozen?, h]
theorem Blk.mod {S : Nat → Prop} {w w' : World} {b : Nat} {cs : List Value} {t : TypeId} (h : Blk w b cs t) (m : Keep S w w') (hb : ¬ S b) : Blk w' b cs t := (m.block b h.lt hb).trans h
theorem Blk.drew {w : World} {b : Nat} {cs : List Value} {t : TypeId} (h : Blk w b cs t) : Blk w.drew b cs t := h
theorem Blk.drewN {w : World} {b : Nat} {cs : List Value} {t : TypeId} (h : Blk w b cs t) (n : Nat) : Blk (w.drewN n) b cs t := h
theorem Blk.alloc {w : World} {b : Nat} {cs : List Value} {t : TypeId} (h : Blk w b cs t) (o : Obj) : Blk (w.alloc o) b cs t := (Below.heap_alloc w o b h.lt).trans h
theorem Blk.new (w : World) (cs : List Value) (t : TypeId) : Blk (w.alloc (.cells cs.toArray t)) w.heap.size cs t := by
  show (w.heap.push _)[w.heap.size]? = _
  simp
theorem Blk.new' {w : World} {cs : Array Value} {cl : List Value} (t : TypeId) (h : cs = cl.toArray) : Blk (w.alloc (.cells cs t)) w.heap.size cl t := by subst h; exact Blk.new w cl t
theorem Blk.new1 {w : World} {o : Obj} {cs : Array Value} {cl : List Value} (t : TypeId) (h : cs = cl.toArray) : Blk ((w.alloc o).alloc (.cells cs t)) (w.heap.size + 1) cl t := by
  have := Blk.new' (w := w.alloc o) t h
  rwa [World.size_alloc] at this
theorem Blk.new2 {w : World} {o o2 : Obj} {cs : Array Value} {cl : List Value} (t : TypeId) (h : cs = cl.toArray) : Blk (((w.alloc o).alloc o2).alloc (.cells cs t)) (w.heap.size + 2) cl t := by
  have := Blk.new' (w := (w.alloc o).alloc o2) t h
  rwa [World.size_alloc, World.size_alloc] at this
theorem Blk.other {w : World} {b : Nat} {cs : List Value} {t : TypeId} (h : Blk w b cs t) (p : Addr) (u : Value) (hp : b ≠ p.block) : Blk (w.setCell p u) b cs t := (Below.heap_setCell w p u b hp).trans h
theorem Blk.other4 {w : World} {b : Nat} {cs : List Value} {t : TypeId} (h : Blk w b cs t) {B : Nat} (hp : b ≠ B) (i0 i1 i2 i3 : Nat) (x0 x1 x2 x3 : Value) :
    Blk ((((w.setCell ⟨B, i0, none⟩ x0).setCell ⟨B, i1, none⟩ x1).setCell ⟨B, i2, none⟩ x2).setCell ⟨B, i3, none⟩ x3) b cs t := (((h.other _ _ hp).other _ _ hp).other _ _ hp).other _ _ hp
theorem Blk.set {w : World} {b : Nat} {cs : List Value} {t : TypeId} (h : Blk w b cs t) (i : Nat) (u : Value) : Blk (w.setCell ⟨b, i, none⟩ u) b (cs.set i u) t := by
  unfold Blk at h ⊢
  simp only [World.setCell, Array.getElem?_modify]
  rw [if_pos trivial, h]
  simp

theorem Blk.one {w : World} {b : Nat} {x0 : Value} {t : TypeId} (h : Blk w b [x0] t) : b < w.heap.size ∧ w.cell? ⟨b, 0, none⟩ = some x0 ∧ (∀ i, w.frozen? ⟨b, i, none⟩ = false) := ⟨h.lt, h.cell 0, h.frozen⟩
theorem Blk.two {w : World} {b : Nat} {x0 x1 : Value} {t : TypeId} (h : Blk w b [x0, x1] t) : b < w.heap.size ∧ w.cell? ⟨b, 0, none⟩ = some x0 ∧ w.cell? ⟨b, 1, none⟩ = some x1 ∧ (∀ i, w.frozen? ⟨b, i, none⟩ = false) := ⟨h.lt, h.cell 0, h.cell 1, h.frozen⟩
theorem Blk.four {w : World} {b : Nat} {x0 x1 x2 x3 : Value} {t : TypeId} (h : Blk w b [x0, x1, x2, x3] t) :
    b < w.heap.size ∧ w.cell? ⟨b, 0, none⟩ = some x0 ∧ w.cell? ⟨b, 1, none⟩ = some x1 ∧ w.cell? ⟨b, 2, none⟩ = some x2 ∧ w.cell? ⟨b, 3, none⟩ = some x3 ∧ (∀ i, w.frozen? ⟨b, i, none⟩ = false) := ⟨h.lt, h.cell 0, h.cell 1, h.cell 2, h.cell 3, h.frozen⟩
theorem Keep.set4 {S : Nat → Prop} {a b : World} (h : Keep S a b) {B : Nat} (hB : B < a.heap.size → S B) (i0 i1 i2 i3 : Nat) (x0 x1 x2 x3 : Value) :
    Keep S a ((((b.setCell ⟨B, i0, none⟩ x0).setCell ⟨B, i1, none⟩ x1).setCell ⟨B, i2, none⟩ x2).setCell ⟨B, i3, none⟩ x3) := (((h.setCell _ _ hB).setCell _ _ hB).setCell _ _ hB).setCell _ _ hB
theorem add_at (b off j : Nat) : (⟨b, off, none⟩ : Addr).add j = ⟨b, off + j, none⟩ := by unfold Addr.add; split <;> simp_all
theorem cell_lt {w : World} {b i : Nat} {v : Value} (h : w.cell? ⟨b, i, none⟩ = some v) : b < w.heap.size := World.block_lt_of_cell? w ⟨b, i, none⟩ h
/-- an owned row, as a block known whole -/
theorem own_blk {w : World} {base n k : Nat} {e : TypeId} {v : Value} {xs : List Value} (h : w.ownsRow base e k v n xs) (hne : v ≠ .slice none 0 0) :
    ∃ g cap rest, v = .slice (some ⟨g, 0, none⟩) n cap ∧ base ≤ g ∧ n ≤ cap ∧ cap ≤ 9223372036854775807 ∧ Blk w g (xs ++ rest) e ∧ (xs ++ rest).length = cap * k := by
  rcases h.2 with ⟨h1, _⟩ | ⟨g, cap, cur, rfl, hb, hg, h1, h2, h3, h4⟩
  · exact absurd h1 hne
  · refine ⟨g, cap, cur.toList.drop (n * k), rfl, hb, h1, by simp only [maxLen] at h2; omega, ?_, ?_⟩
    · rw [← h4, List.take_append_drop]; exact hg
    · rw [← h4, List.take_append_drop]; simpa using h3
theorem own_keep {S : Nat → Prop} {w w' : World} {base n k : Nat} {e : TypeId} {v : Value} {xs : List Value} (h : w.ownsRow base e k v n xs) (m : Keep S w w') (hn : ∀ g, v.ownBlock = some g → ¬ S g) : w'.ownsRow base e k v n xs := by
  refine ⟨h.1, ?_⟩
  rcases h.2 with hn | ⟨g, cap, cur, rfl, hb, hgg, rest⟩
  · exact .inl hn
  · refine .inr ⟨g, cap, cur, rfl, hb, ?_, rest⟩
    rw [m.block g (Array.getElem?_eq_some_iff.1 hgg).1 (hn g rfl)]
    exact hgg
theorem own_base {w : World} {base base' n k : Nat} {e : TypeId} {v : Value} {xs : List Value} (h : w.ownsRow base e k v n xs) (hb : base' ≤ base) : w.ownsRow base' e k v n xs :=
  ⟨h.1, h.2.imp id fun ⟨g, cap, cur, h1, h2, h3⟩ => ⟨g, cap, cur, h1, Nat.le_trans hb h2, h3⟩⟩
theorem hid {p : Prop} (h : p) : Hid p := h
theorem ret_int {k : IntKind} {a b : Int} (h : a = b) : Ending.returned (.int k a) = .returned (.int k b) := by rw [h]
theorem ret_bool {a b : Bool} (h : a = b) : Ending.returned (.bool a) = .returned (.bool b) := by rw [h]
/-- nothing that was there is touched -/
abbrev No : Nat → Prop := fun _ => False
theorem no (k : Nat) : ¬ No k := fun h => h
end Go.Proofs.Ytaijfgajcmopfaa.V
/- Robin Hood order, in plain Lean: slots in a round, distances, finding, laying, taking out. -/
set_option linter.unusedVariables false
namespace Go.Proofs.Ytaijfgajcmopfaa.Rh

structure Ent where
  h : Int
  a : Int
  v : Int
  c : Int
  deriving DecidableEq, Inhabited

def z : Ent := ⟨0, 0, 0, 0⟩
def Ent.full (e : Ent) : Bool := e.a != 0
/-- fields within their kinds -/
def Ent.ok (e : Ent) : Prop := 0 ≤ e.h ∧ e.h < 18446744073709551616 ∧ 0 ≤ e.a ∧ e.a < 18446744073709551616 ∧ 0 ≤ e.v ∧ e.v < 18446744073709551616 ∧ 0 ≤ e.c ∧ e.c < 256

def home (bits : Nat) (h : Int) : Nat := (h / 2 ^ (64 - bits)).toNat

theorem home_lt {bits : Nat} (hb : bits ≤ 64) {h : Int} (h0 : 0 ≤ h) (h1 : h < 18446744073709551616) : home bits h < 2 ^ bits := by
  unfold home
  have e : (2 : Int) ^ (64 - bits) * 2 ^ bits = 18446744073709551616 := by
    rw [← Int.pow_add, Nat.sub_add_cancel hb]
    rfl
  have hp : (0 : Int) < 2 ^ (64 - bits) := Int.pow_pos (by decide)
  have : h / 2 ^ (64 - bits) < 2 ^ bits := Int.ediv_lt_of_lt_mul hp (by rw [Int.mul_comm, e]; exact h1)
  have h2 : 0 ≤ h / 2 ^ (64 - bits) := Int.ediv_nonneg h0 (Int.le_of_lt hp)
  have h3 : ((2 ^ bits : Nat) : Int) = 2 ^ bits := by simp
  omega

def gt (es : List Ent) (i : Nat) : Ent := es.getD i z
def nx (N i : Nat) : Nat := if i + 1 = N then 0 else i + 1
def cyc (N q k : Nat) : Nat := if q + k < N then q + k else q + k - N
/-- how far behind its home what stands in slot i stands -/
def dist (bits N : Nat) (es : List Ent) (i : Nat) : Nat :=
  if home bits (gt es i).h ≤ i then i - home bits (gt es i).h else i + N - home bits (gt es i).h
def dd (bits N : Nat) (es : List Ent) (i : Nat) : Nat := if (gt es i).full then dist bits N es i + 1 else 0
def RH (bits N : Nat) (es : List Ent) : Prop := ∀ i, i < N → dd bits N es (nx N i) ≤ dd bits N es i + 1

theorem mod_cyc {N x : Nat} (hN : 0 < N) (h : x < 2 * N) : x % N = if x < N then x else x - N := by
  split
  · exact Nat.mod_eq_of_lt ‹_›
  · rw [Nat.mod_eq_sub_mod (by omega), Nat.mod_eq_of_lt (by omega)]

theorem nx_lt {N i : Nat} (h : i < N) : nx N i < N := by unfold nx; split <;> omega
theorem cyc_lt {N q k : Nat} (hq : q < N) (hk : k ≤ N) : cyc N q k < N := by unfold cyc; split <;> omega
theorem cyc_zero {N q : Nat} (hq : q < N) : cyc N q 0 = q := by simp [cyc, hq]
theorem cyc_succ {N q k : Nat} (hq : q < N) (hk : k < N) : cyc N q (k + 1) = nx N (cyc N q k) := by unfold cyc nx; (repeat' split) <;> omega
theorem cyc_cyc {N q k j : Nat} (hq : q < N) (hk : k + j ≤ N) : cyc N (cyc N q k) j = cyc N q (k + j) := by unfold cyc; (repeat' split) <;> omega
/-- the way from q to p -/
def way (N q p : Nat) : Nat := if q ≤ p then p - q else p + N - q
theorem way_lt {N q p : Nat} (hq : q < N) (hp : p < N) : way N q p < N := by unfold way; split <;> omega
theorem cyc_way {N q p : Nat} (hq : q < N) (hp : p < N) : cyc N q (way N q p) = p := by unfold cyc way; (repeat' split) <;> omega
theorem way_cyc {N q k : Nat} (hq : q < N) (hk : k < N) : way N q (cyc N q k) = k := by unfold cyc way; (repeat' split) <;> omega
theorem dist_way (bits N : Nat) (es : List Ent) (i : Nat) : dist bits N es i = way N (home bits (gt es i).h) i := rfl

theorem dd_cyc {bits N : Nat} {es : List Ent} (h : RH bits N es) {q : Nat} (hq : q < N) : ∀ k, k < N → dd bits N es (cyc N q k) ≤ dd bits N es q + k := by
  intro k
  induction k with
  | zero => intro _; rw [cyc_zero hq]; omega
  | succ k ih =>
    intro hk
    rw [cyc_succ hq (by omega)]
    have := h (cyc N q k) (cyc_lt hq (by omega))
    have := ih (by omega)
    omega

/-- What stands at distance d: all slots on its way are full, and no nearer to their homes than the way says. -/
theorem on_way {bits N : Nat} {es : List Ent} (h : RH bits N es) (hb : ∀ i, i < N → (gt es i).full = true → home bits (gt es i).h < N) {p : Nat} (hp : p < N) (hf : (gt es p).full = true) {j : Nat} (hj : j ≤ dist bits N es p) :
    (gt es (cyc N (home bits (gt es p).h) j)).full = true ∧ j ≤ dist bits N es (cyc N (home bits (gt es p).h) j) := by
  have hh := hb p hp hf
  have hd : dist bits N es p < N := by rw [dist_way]; exact way_lt hh hp
  have h1 : cyc N (cyc N (home bits (gt es p).h) j) (dist bits N es p - j) = p := by
    rw [cyc_cyc hh (by omega), show j + (dist bits N es p - j) = dist bits N es p by omega, dist_way, cyc_way hh hp]
  have h2 := dd_cyc h (q := cyc N (home bits (gt es p).h) j) (cyc_lt hh (by omega)) (dist bits N es p - j) (by omega)
  rw [h1] at h2
  have h3 : dd bits N es p = dist bits N es p + 1 := by simp [dd, hf]
  have h4 : j + 1 ≤ dd bits N es (cyc N (home bits (gt es p).h) j) := by omega
  unfold dd at h4
  split at h4
  · exact ⟨‹_›, by omega⟩
  · omega

/-- where a hash stands; N if nowhere -/
def posOf (es : List Ent) (h : Int) : Option Nat := es.findIdx? (fun e => e.full && e.h == h)

/-- all slots that are full bear unlike hashes -/
def Uniq (N : Nat) (es : List Ent) : Prop := ∀ i j, i < N → j < N → (gt es i).full = true → (gt es j).full = true → (gt es i).h = (gt es j).h → i = j

theorem gt_of_lt {es : List Ent} {i : Nat} (h : i < es.length) : gt es i = es[i] := by simp [gt, h]

theorem posOf_some {N : Nat} {es : List Ent} (hl : es.length = N) (hu : Uniq N es) {h : Int} {p : Nat} (hp : p < N) (hf : (gt es p).full = true) (hh : (gt es p).h = h) : posOf es h = some p := by
  unfold posOf
  rw [List.findIdx?_eq_some_iff_getElem]
  refine ⟨by omega, ?_, ?_⟩
  · rw [gt_of_lt (by omega)] at hf hh; simp [hf, hh]
  · intro j hj
    rw [← gt_of_lt (by omega)]
    intro hc
    simp only [Bool.and_eq_true, beq_iff_eq] at hc
    have := hu j p (by omega) hp hc.1 hf (hc.2.trans hh.symm)
    omega

theorem posOf_none {N : Nat} {es : List Ent} (hl : es.length = N) {h : Int} (hn : ∀ p, p < N → (gt es p).full = true → (gt es p).h ≠ h) : posOf es h = none := by
  unfold posOf
  rw [List.findIdx?_eq_none_iff]
  intro e he
  obtain ⟨i, hi, rfl⟩ := List.getElem_of_mem he
  have := hn i (by omega)
  rw [gt_of_lt hi] at this
  cases hfe : (es[i]).full
  · simp
  · simp [this hfe]

theorem posOf_spec {N : Nat} {es : List Ent} (hl : es.length = N) {h : Int} {p : Nat} (hp : posOf es h = some p) : p < N ∧ (gt es p).full = true ∧ (gt es p).h = h := by
  unfold posOf at hp
  rw [List.findIdx?_eq_some_iff_getElem] at hp
  obtain ⟨h1, h2, _⟩ := hp
  rw [gt_of_lt h1]
  simp at h2
  exact ⟨by omega, h2.1, h2.2⟩

/-- the look: the first 'far' slots from home on are full, and of other hashes -/
def Looked (N bits : Nat) (es : List Ent) (h : Int) (far : Nat) : Prop :=
  ∀ j, j < far → (gt es (cyc N (home bits h) j)).full = true ∧ (gt es (cyc N (home bits h) j)).h ≠ h

theorem look_hit {N bits : Nat} {es : List Ent} (hl : es.length = N) (hu : Uniq N es) {h : Int} {far : Nat} (hh : home bits h < N) (hfar : far < N)
    (hf : (gt es (cyc N (home bits h) far)).full = true) (he : (gt es (cyc N (home bits h) far)).h = h) : posOf es h = some (cyc N (home bits h) far) :=
  posOf_some hl hu (cyc_lt hh (by omega)) hf he

theorem look_miss {N bits : Nat} {es : List Ent} (hl : es.length = N) (hr : RH bits N es) (hb : ∀ i, i < N → (gt es i).full = true → home bits (gt es i).h < N) {h : Int} {far : Nat} (hfar : far < N)
    (hL : Looked N bits es h far) (hstop : (gt es (cyc N (home bits h) far)).full = false ∨ dist bits N es (cyc N (home bits h) far) < far ∧ (gt es (cyc N (home bits h) far)).h ≠ h) : posOf es h = none := by
  refine posOf_none hl fun p hp hf he => ?_
  subst he
  have hh := hb p hp hf
  rcases Nat.lt_or_ge (dist bits N es p) far with hd | hd
  · have := (hL _ hd).2
    rw [dist_way, cyc_way hh hp] at this
    exact this rfl
  · have h1 := on_way hr hb hp hf hd
    rcases hstop with h2 | ⟨h2, _⟩
    · rw [h1.1] at h2; cases h2
    · omega

/-- there is an empty slot q: the look never passes it -/
theorem look_bound {N bits : Nat} {es : List Ent} {h : Int} (hh : home bits h < N) {q : Nat} (hq : q < N) (he : (gt es q).full = false) {far : Nat} (hL : Looked N bits es h far) : far ≤ way N (home bits h) q := by
  rcases Nat.lt_or_ge (way N (home bits h) q) far with hd | hd
  · have := (hL _ hd).1
    rw [cyc_way hh hq, he] at this
    cases this
  · exact hd

/-! ### Laying -/
theorem gt_set {es : List Ent} {i j : Nat} {e : Ent} (hi : i < es.length) : gt (es.set i e) j = if j = i then e else gt es j := by
  unfold gt
  rw [List.getD_eq_getElem?_getD, List.getD_eq_getElem?_getD, List.getElem?_set]
  by_cases h : i = j
  · subst h; simp [hi]
  · rw [if_neg h, if_neg (fun e => h e.symm)]

def ddOf (bits N : Nat) (e : Ent) (i : Nat) : Nat := if e.full then way N (home bits e.h) i + 1 else 0
theorem dd_eq (bits N : Nat) (es : List Ent) (i : Nat) : dd bits N es i = ddOf bits N (gt es i) i := rfl

/-- what holds while an entry is carried from slot to slot -/
structure Laying (bits N : Nat) (es : List Ent) (e : Ent) (at_ far : Nat) : Prop where
  len : es.length = N
  rh : RH bits N es
  at_lt : at_ < N
  full : e.full = true
  home_lt : home bits e.h < N
  far_eq : far = way N (home bits e.h) at_
  prev : ∀ p, p < N → nx N p = at_ → far ≤ dd bits N es p

theorem nx_inj {N i j : Nat} (hi : i < N) (hj : j < N) (h : nx N i = nx N j) : i = j := by unfold nx at h; (repeat' split at h) <;> omega
theorem exists_prev {N i : Nat} (hi : i < N) : ∃ p, p < N ∧ nx N p = i := by
  by_cases h : i = 0
  · exact ⟨N - 1, by omega, by unfold nx; split <;> omega⟩
  · exact ⟨i - 1, by omega, by unfold nx; split <;> omega⟩

theorem way_nx {N q i : Nat} (hq : q < N) (hi : i < N) (h : way N q i + 1 < N) : way N q (nx N i) = way N q i + 1 := by
  unfold way nx at *; (repeat' split) <;> (repeat' split at h) <;> omega

/-- laid into a slot that has room for it: what stands there is no farther from home -/
theorem rh_set {bits N : Nat} {es : List Ent} {e : Ent} {at_ far : Nat} (L : Laying bits N es e at_ far) (h : dd bits N es at_ ≤ far + 1) : RH bits N (es.set at_ e) := by
  have hl := L.len
  have ha := L.at_lt
  intro i hi
  rw [dd_eq, dd_eq, gt_set (by omega), gt_set (by omega)]
  have he : ddOf bits N e at_ = far + 1 := by rw [ddOf, if_pos L.full, ← L.far_eq]
  have h0 := L.rh i hi
  rw [dd_eq, dd_eq] at h0
  rw [dd_eq] at h
  split
  · rename_i h1
    split
    · rename_i h2; subst h2; rw [h1, he]; omega
    · rw [h1, he]
      have := L.prev i hi h1
      rw [dd_eq] at this
      omega
  · split
    · rename_i h1 h2
      subst h2
      rw [he]
      omega
    · exact h0

theorem laying_free {bits N : Nat} {es : List Ent} {e : Ent} {at_ far : Nat} (L : Laying bits N es e at_ far) (h : (gt es at_).full = false) : RH bits N (es.set at_ e) := by
  refine rh_set L ?_
  rw [dd_eq, ddOf, h]
  simp

/-- passed by -/
theorem laying_pass {bits N : Nat} {es : List Ent} {e : Ent} {at_ far : Nat} (L : Laying bits N es e at_ far) (hN : far + 1 < N) (hf : (gt es at_).full = true) (h : far ≤ dist bits N es at_) : Laying bits N es e (nx N at_) (far + 1) where
  len := L.len
  rh := L.rh
  at_lt := nx_lt L.at_lt
  full := L.full
  home_lt := L.home_lt
  far_eq := by rw [way_nx L.home_lt L.at_lt (by rw [← L.far_eq]; exact hN), ← L.far_eq]
  prev := fun p hp hpn => by
    obtain rfl := nx_inj hp L.at_lt hpn
    rw [dd_eq, ddOf, if_pos hf]
    rw [dist_way] at h
    omega

/-- laid down, and what stood there taken up -/
theorem laying_swap {bits N : Nat} {es : List Ent} {e : Ent} {at_ far : Nat} (L : Laying bits N es e at_ far) (hh : home bits (gt es at_).h < N) (hf : (gt es at_).full = true) (h : dist bits N es at_ ≤ far) (hN : dist bits N es at_ + 1 < N) :
    Laying bits N (es.set at_ e) (gt es at_) (nx N at_) (dist bits N es at_ + 1) where
  len := by rw [List.length_set]; exact L.len
  rh := rh_set L (by rw [dd_eq, ddOf, if_pos hf]; rw [dist_way] at h; omega)
  at_lt := nx_lt L.at_lt
  full := hf
  home_lt := hh
  far_eq := by rw [dist_way, way_nx hh L.at_lt (by rw [dist_way] at hN; exact hN)]
  prev := fun p hp hpn => by
    obtain rfl := nx_inj hp L.at_lt hpn
    rw [dd_eq, gt_set (by have := L.len; omega), if_pos rfl, ddOf, if_pos L.full, ← L.far_eq]
    omega

/-! The entries that are there -/
def there (es : List Ent) : List Ent := es.filter Ent.full

theorem set_perm {es : List Ent} {i : Nat} {e : Ent} (hi : i < es.length) : (es.set i e ++ [gt es i]).Perm (es ++ [e]) := by
  rw [gt_of_lt hi]
  induction es generalizing i with
  | nil => simp at hi
  | cons x es ih =>
    cases i with
    | zero =>
      simp only [List.set_cons_zero, List.getElem_cons_zero, List.cons_append]
      have h1 : (e :: (es ++ [x])).Perm (e :: x :: es) := (List.perm_append_singleton x es).cons e
      have h2 : (x :: (es ++ [e])).Perm (x :: e :: es) := (List.perm_append_singleton e es).cons x
      exact h1.trans ((List.Perm.swap x e es).trans h2.symm)
    | succ i =>
      simp only [List.set_cons_succ, List.getElem_cons_succ, List.cons_append]
      exact (ih (by simpa using hi)).cons x

theorem there_set_free {es : List Ent} {i : Nat} {e : Ent} (hi : i < es.length) (hf : (gt es i).full = false) (he : e.full = true) : (there (es.set i e)).Perm (e :: there es) := by
  have h := (set_perm (e := e) hi).filter Ent.full
  simp only [List.filter_append, List.filter_cons, hf, he, List.filter_nil, Bool.false_eq_true, if_false, if_true, List.append_nil] at h
  exact h.trans (List.perm_append_singleton e _)

theorem there_set_swap {es : List Ent} {i : Nat} {e : Ent} (hi : i < es.length) (hf : (gt es i).full = true) (he : e.full = true) : (gt es i :: there (es.set i e)).Perm (e :: there es) := by
  have h := (set_perm (e := e) hi).filter Ent.full
  simp only [List.filter_append, List.filter_cons, hf, he, List.filter_nil, if_true] at h
  exact (List.perm_append_singleton _ _).symm.trans (h.trans (List.perm_append_singleton e _))

end Go.Proofs.Ytaijfgajcmopfaa.Rh
/- Robin Hood order: taking out; a table's invariant; the list by rising hash that it stands for. -/
set_option linter.unusedVariables false
namespace Go.Proofs.Ytaijfgajcmopfaa.Rh

theorem way_prev {N q i : Nat} (hq : q < N) (hi : i < N) (h : 1 ≤ way N q (nx N i)) : way N q i + 1 = way N q (nx N i) := by
  unfold way nx at *; (repeat' split) <;> (repeat' split at h) <;> omega

/-- what stands in the next slot, away from its home, moves one back -/
theorem rh_shift {bits N : Nat} {es : List Ent} (hl : es.length = N) (hr : RH bits N es) {i : Nat} (hi : i < N) (hh : home bits (gt es (nx N i)).h < N) (hf : (gt es (nx N i)).full = true) (hd : dist bits N es (nx N i) ≠ 0) :
    RH bits N (es.set i (gt es (nx N i))) := by
  have hw := way_prev hh hi (by rw [dist_way] at hd; omega)
  have hnew : ddOf bits N (gt es (nx N i)) i + 1 = dd bits N es (nx N i) := by
    rw [dd_eq, ddOf, ddOf, if_pos hf, if_pos hf]; omega
  intro j hj
  rw [dd_eq, dd_eq, gt_set (by omega), gt_set (by omega)]
  have h0 := hr j hj
  have h1 := hr i hi
  rw [dd_eq, dd_eq] at h0 
  rw [dd_eq bits N es i] at h1
  split
  · rename_i e1
    rw [e1]
    split
    · rename_i e2; rw [e2]; omega
    · rw [e1] at h0; omega
  · split
    · rename_i e2
      subst e2
      have h2 := dd_eq bits N es (nx N j)
      omega
    · exact h0

theorem rh_clear {bits N : Nat} {es : List Ent} (hl : es.length = N) (hr : RH bits N es) {i : Nat} (hi : i < N) (hs : (gt es (nx N i)).full = false ∨ dist bits N es (nx N i) = 0) : RH bits N (es.set i z) := by
  have hz : ddOf bits N z i = 0 := by simp [ddOf, z, Ent.full]
  intro j hj
  rw [dd_eq, dd_eq, gt_set (by omega), gt_set (by omega)]
  have h0 := hr j hj
  rw [dd_eq, dd_eq] at h0
  split
  · rename_i e1; rw [e1, hz]; omega
  · split
    · rename_i e1 e2
      subst e2
      rw [hz]
      rcases hs with hs | hs
      · rw [ddOf, hs]; simp
      · rw [dist_way] at hs
        unfold ddOf
        split <;> omega
    · exact h0

theorem uniq_of {es : List Ent} (h : (there es).Pairwise (fun a b => a.h ≠ b.h)) : Uniq es.length es := by
  unfold there at h
  rw [List.pairwise_filter, List.pairwise_iff_getElem] at h
  intro i j hi hj fi fj e
  rw [gt_of_lt hi] at fi e
  rw [gt_of_lt hj] at fj e
  rcases Nat.lt_trichotomy i j with hl | hl | hl
  · exact absurd e (h i j hi hj hl fi fj)
  · exact hl
  · exact absurd e.symm (h j i hj hi hl fj fi)

/-! The list -/
def lget (h : Int) (L : List Ent) : Option Ent := L.find? (fun e => e.h == h)
def lrem (h : Int) (L : List Ent) : List Ent := L.filter (fun e => e.h != h)
def lput (e : Ent) (L : List Ent) : List Ent := L.filter (fun x => decide (x.h < e.h)) ++ e :: L.filter (fun x => decide (e.h < x.h))
abbrev Sorted (L : List Ent) : Prop := L.Pairwise (fun a b => a.h < b.h)

theorem sorted_lrem {L : List Ent} (h : Sorted L) (k : Int) : Sorted (lrem k L) := h.filter _
theorem sorted_lput {L : List Ent} (h : Sorted L) (e : Ent) : Sorted (lput e L) := by
  unfold lput Sorted
  rw [List.pairwise_append]
  refine ⟨h.filter _, ?_, ?_⟩
  · rw [List.pairwise_cons]
    refine ⟨fun b hb => ?_, h.filter _⟩
    simpa using (List.mem_filter.1 hb).2
  · intro a ha b hb
    have h1 : a.h < e.h := by simpa using (List.mem_filter.1 ha).2
    rcases List.mem_cons.1 hb with rfl | hb
    · exact h1
    · have h2 : e.h < b.h := by simpa using (List.mem_filter.1 hb).2
      omega

theorem lput_perm {L : List Ent} (h : Sorted L) (e : Ent) : (lput e L).Perm (e :: lrem e.h L) := by
  unfold lput lrem
  refine List.perm_middle.trans (List.Perm.cons e ?_)
  have h1 : (L.filter (fun x => x.h != e.h)).Perm ((L.filter (fun x => x.h != e.h)).filter (fun x => decide (x.h < e.h)) ++ (L.filter (fun x => x.h != e.h)).filter (fun x => !decide (x.h < e.h))) := (List.filter_append_perm _ _).symm
  refine (h1.trans ?_).symm
  rw [List.filter_filter, List.filter_filter]
  have e1 : (fun x : Ent => decide (x.h < e.h) && (x.h != e.h)) = fun x => decide (x.h < e.h) := by
    funext x
    by_cases c : x.h < e.h
    · have : x.h ≠ e.h := by omega
      simp [c, this]
    · simp [c]
  have e2 : (fun x : Ent => (!decide (x.h < e.h)) && (x.h != e.h)) = fun x => decide (e.h < x.h) := by
    funext x
    by_cases c : x.h < e.h
    · have : ¬ e.h < x.h := by omega
      simp [c, this]
    · by_cases d : x.h = e.h
      · simp [d]
      · have : e.h < x.h := by omega
        simp [c, d, this]
  rw [e1, e2]

theorem lrem_of_none {L : List Ent} {h : Int} (hn : lget h L = none) : lrem h L = L := by
  unfold lget at hn
  rw [List.find?_eq_none] at hn
  unfold lrem
  rw [List.filter_eq_self]
  intro a ha
  have := hn a ha
  simpa using this

theorem lget_some {L : List Ent} {h : Int} {e : Ent} (hs : lget h L = some e) : e ∈ L ∧ e.h = h := by
  unfold lget at hs
  exact ⟨List.mem_of_find?_eq_some hs, by simpa using List.find?_some hs⟩
theorem lget_mem {L : List Ent} (hs : Sorted L) {e : Ent} (he : e ∈ L) : lget e.h L = some e := by
  induction L with
  | nil => cases he
  | cons x L ih =>
    have hx := List.pairwise_cons.1 hs
    unfold lget at ih ⊢
    rw [List.find?_cons]
    rcases List.mem_cons.1 he with rfl | he
    · simp
    · have : x.h < e.h := hx.1 e he
      have h2 : (x.h == e.h) = false := by simp; omega
      rw [h2]
      exact ih hx.2 he

theorem perm_lrem {L : List Ent} (hs : Sorted L) {h : Int} {e : Ent} (he : lget h L = some e) : L.Perm (e :: lrem h L) := by
  obtain ⟨hm, rfl⟩ := lget_some he
  clear he
  induction L with
  | nil => cases hm
  | cons x L ih =>
    have hx := List.pairwise_cons.1 hs
    unfold lrem at ih ⊢
    rw [List.filter_cons]
    rcases List.mem_cons.1 hm with rfl | hm'
    · simp only [bne_self_eq_false, Bool.false_eq_true, if_false]
      have : L.filter (fun x => x.h != e.h) = L := by
        rw [List.filter_eq_self]
        intro a ha
        have := hx.1 a ha
        simp; omega
      rw [this]
    · have h1 : x.h < e.h := hx.1 e hm'
      have h2 : (x.h != e.h) = true := by simp; omega
      rw [h2, if_pos rfl]
      exact ((ih hx.2 hm').cons x).trans (List.Perm.swap e x _)

theorem lput_length_some {L : List Ent} (hs : Sorted L) {e o : Ent} (ho : lget e.h L = some o) : (lput e L).length = L.length := by
  rw [(lput_perm hs e).length_eq, (perm_lrem hs ho).length_eq]; simp
theorem lput_length_none {L : List Ent} (hs : Sorted L) {e : Ent} (ho : lget e.h L = none) : (lput e L).length = L.length + 1 := by
  rw [(lput_perm hs e).length_eq, lrem_of_none ho]; simp
theorem lrem_length {L : List Ent} (hs : Sorted L) {h : Int} {o : Ent} (ho : lget h L = some o) : (lrem h L).length + 1 = L.length := by
  rw [(perm_lrem hs ho).length_eq]; simp

/-! A table's invariant: 'es' its slots, 'L' what it stands for -/
structure TInv (bits most : Nat) (es L : List Ent) : Prop where
  b2 : 2 ≤ bits
  bm : bits ≤ most
  m16 : most ≤ 16
  len : es.length = 2 ^ bits
  rh : RH bits (2 ^ bits) es
  perm : (there es).Perm L
  sorted : Sorted L
  room : 8 * L.length ≤ 7 * 2 ^ bits
  ok : ∀ e ∈ L, e.ok ∧ e.full = true

theorem two_le_pow {bits : Nat} (h : 2 ≤ bits) : 4 ≤ 2 ^ bits := by
  have : 2 ^ 2 ≤ 2 ^ bits := Nat.pow_le_pow_right (by decide) h
  omega
theorem pow_le16 {bits : Nat} (h : bits ≤ 16) : 2 ^ bits ≤ 65536 := by
  have : 2 ^ bits ≤ 2 ^ 16 := Nat.pow_le_pow_right (by decide) h
  omega

section
variable {bits most : Nat} {es L : List Ent}
theorem TInv.n_pos (T : TInv bits most es L) : 4 ≤ 2 ^ bits := two_le_pow T.b2
theorem TInv.n_le (T : TInv bits most es L) : 2 ^ bits ≤ 65536 := pow_le16 (Nat.le_trans T.bm T.m16)
theorem TInv.uniq (T : TInv bits most es L) : Uniq (2 ^ bits) es := by
  rw [← T.len]
  refine uniq_of ?_
  have h1 : L.Pairwise (fun a b => a.h ≠ b.h) := T.sorted.imp (fun h => by omega)
  exact (T.perm.pairwise_iff (fun h => fun e => h e.symm)).2 h1
theorem mem_there {i : Nat} (hi : i < es.length) (hf : (gt es i).full = true) : gt es i ∈ there es := by
  unfold there
  rw [List.mem_filter]
  exact ⟨by rw [gt_of_lt hi]; exact List.getElem_mem hi, hf⟩
theorem TInv.mem (T : TInv bits most es L) {i : Nat} (hi : i < 2 ^ bits) (hf : (gt es i).full = true) : gt es i ∈ L :=
  T.perm.mem_iff.1 (mem_there (by rw [T.len]; exact hi) hf)
theorem TInv.home (T : TInv bits most es L) : ∀ i, i < 2 ^ bits → (gt es i).full = true → Rh.home bits (gt es i).h < 2 ^ bits := fun i hi hf =>
  have h := (T.ok _ (T.mem hi hf)).1
  home_lt (by have := T.bm; have := T.m16; omega) h.1 h.2.1
theorem exists_free {N : Nat} {es : List Ent} (hl : es.length = N) (h : (there es).length < N) : ∃ q, q < N ∧ (gt es q).full = false := by
  have : ∃ e ∈ es, ¬ e.full = true := by
    apply Classical.byContradiction
    intro hc
    have : es.filter Ent.full = es := by
      rw [List.filter_eq_self]
      intro a ha
      exact Classical.byContradiction fun h2 => hc ⟨a, ha, h2⟩
    unfold there at h
    rw [this] at h
    omega
  obtain ⟨e, he, hf⟩ := this
  obtain ⟨i, hi, rfl⟩ := List.getElem_of_mem he
  exact ⟨i, by omega, by rw [gt_of_lt hi]; simpa using hf⟩
theorem TInv.free (T : TInv bits most es L) : ∃ q, q < 2 ^ bits ∧ (gt es q).full = false :=
  exists_free T.len (by rw [T.perm.length_eq]; have := T.room; have := T.n_pos; omega)

theorem TInv.pos_some (T : TInv bits most es L) {h : Int} {p : Nat} (hp : posOf es h = some p) : lget h L = some (gt es p) := by
  obtain ⟨h1, h2, rfl⟩ := posOf_spec T.len hp
  exact lget_mem T.sorted (T.mem h1 h2)
theorem TInv.pos_none (T : TInv bits most es L) {h : Int} (hp : posOf es h = none) : lget h L = none := by
  unfold lget
  rw [List.find?_eq_none]
  intro e he hc
  have hc : e.h = h := by simpa using hc
  have : e ∈ there es := T.perm.mem_iff.2 he
  unfold there at this
  obtain ⟨h1, h2⟩ := List.mem_filter.1 this
  unfold posOf at hp
  rw [List.findIdx?_eq_none_iff] at hp
  have := hp e h1
  simp [h2, hc] at this
/-- in the place of another one of its hash -/
theorem TInv.replace (T : TInv bits most es L) {e : Ent} {p : Nat} (hp : posOf es e.h = some p) (he : e.full = true) (hok : e.ok) : TInv bits most (es.set p e) (lput e L) := by
  obtain ⟨h1, h2, h3⟩ := posOf_spec T.len hp
  have hg := T.pos_some hp
  refine ⟨T.b2, T.bm, T.m16, by rw [List.length_set]; exact T.len, ?_, ?_, sorted_lput T.sorted e, ?_, ?_⟩
  · intro i hi
    have h0 := T.rh i hi
    have hll := T.len
    rw [dd_eq, dd_eq] at h0 ⊢
    rw [gt_set (by omega), gt_set (by omega)]
    have hs : ∀ j, j = p → ddOf bits (2 ^ bits) e j = ddOf bits (2 ^ bits) (gt es j) j := by
      rintro j rfl
      rw [ddOf, ddOf, if_pos he, if_pos h2, h3]
    split
    · rename_i e1
      split
      · rename_i e2; rw [hs _ e1, hs _ e2]; exact h0
      · rw [hs _ e1]; exact h0
    · split
      · rename_i e2; rw [hs _ e2]; exact h0
      · exact h0
  · have h4 := there_set_swap (e := e) (i := p) (by rw [T.len]; exact h1) h2 he
    have h5 : (e :: there es).Perm (e :: gt es p :: lrem e.h L) := (T.perm.trans (perm_lrem T.sorted hg)).cons e
    have h6 := (h4.trans h5).trans (List.Perm.swap _ _ _)
    exact ((List.perm_cons _).1 h6).trans (lput_perm T.sorted e).symm
  · rw [lput_length_some T.sorted hg]; exact T.room
  · intro x hx
    rw [(lput_perm T.sorted e).mem_iff] at hx
    rcases List.mem_cons.1 hx with rfl | hx
    · exact ⟨hok, he⟩
    · exact T.ok x (List.mem_filter.1 hx).1
/-- laid anew -/
theorem TInv.laid (T : TInv bits most es L) {e : Ent} {es' : List Ent} (hp : posOf es e.h = none) (he : e.full = true) (hok : e.ok) (hroom : 8 * (L.length + 1) ≤ 7 * 2 ^ bits) (hl : es'.length = 2 ^ bits) (hr : RH bits (2 ^ bits) es')
    (hpm : (there es').Perm (e :: there es)) : TInv bits most es' (lput e L) := by
  have hg := T.pos_none hp
  refine ⟨T.b2, T.bm, T.m16, hl, hr, ?_, sorted_lput T.sorted e, ?_, ?_⟩
  · refine (hpm.trans (T.perm.cons e)).trans ?_
    have := lput_perm T.sorted e
    rw [lrem_of_none hg] at this
    exact this.symm
  · rw [lput_length_none T.sorted hg]; exact hroom
  · intro x hx
    rw [(lput_perm T.sorted e).mem_iff] at hx
    rcases List.mem_cons.1 hx with rfl | hx
    · exact ⟨hok, he⟩
    · exact T.ok x (List.mem_filter.1 hx).1
theorem TInv.removed (T : TInv bits most es L) {h : Int} {o : Ent} {es' : List Ent} (hg : lget h L = some o) (hl : es'.length = 2 ^ bits) (hr : RH bits (2 ^ bits) es') (hpm : (o :: there es').Perm (there es)) : TInv bits most es' (lrem h L) := by
  refine ⟨T.b2, T.bm, T.m16, hl, hr, ?_, sorted_lrem T.sorted h, ?_, ?_⟩
  · exact (List.perm_cons _).1 ((hpm.trans T.perm).trans (perm_lrem T.sorted hg))
  · have := lrem_length T.sorted hg; have := T.room; omega
  · intro x hx
    exact T.ok x (List.mem_filter.1 hx).1
end

/-- taking out: the hole has come to slot i -/
structure Hole (bits N : Nat) (es : List Ent) (rest : List Ent) (i : Nat) : Prop where
  len : es.length = N
  rh : RH bits N es
  lt : i < N
  full : (gt es i).full = true
  perm : (there es).Perm (gt es i :: rest)
  home : ∀ i, i < N → (gt es i).full = true → Rh.home bits (gt es i).h < N

theorem Hole.shift {bits N : Nat} {es rest : List Ent} {i : Nat} (H : Hole bits N es rest i) (hf : (gt es (nx N i)).full = true) (hd : dist bits N es (nx N i) ≠ 0) (hne : nx N i ≠ i) : Hole bits N (es.set i (gt es (nx N i))) rest (nx N i) where
  len := by rw [List.length_set]; exact H.len
  rh := rh_shift H.len H.rh H.lt (H.home _ (nx_lt H.lt) hf) hf hd
  lt := nx_lt H.lt
  full := by rw [gt_set (by have := H.len; have := H.lt; omega), if_neg hne]; exact hf
  perm := by
    rw [gt_set (by have := H.len; have := H.lt; omega), if_neg hne]
    have h4 := there_set_swap (e := gt es (nx N i)) (i := i) (by have := H.len; have := H.lt; omega) H.full hf
    have h5 := (h4.trans (H.perm.cons _)).trans (List.Perm.swap _ _ _)
    exact (List.perm_cons _).1 h5
  home := by
    intro j hj
    rw [gt_set (by have := H.len; have := H.lt; omega)]
    split
    · intro h; exact H.home _ (nx_lt H.lt) h
    · exact H.home j hj
theorem Hole.clear {bits N : Nat} {es rest : List Ent} {i : Nat} (H : Hole bits N es rest i) (hs : (gt es (nx N i)).full = false ∨ dist bits N es (nx N i) = 0) : RH bits N (es.set i z) ∧ (there (es.set i z)).Perm rest := by
  refine ⟨rh_clear H.len H.rh H.lt hs, ?_⟩
  have h := (set_perm (e := z) (i := i) (es := es) (by have := H.len; have := H.lt; omega)).filter Ent.full
  have hz : z.full = false := rfl
  simp only [List.filter_append, List.filter_cons, H.full, hz, List.filter_nil, if_true, Bool.false_eq_true, if_false, List.append_nil] at h
  have h5 := ((List.perm_append_singleton _ _).symm.trans h).trans H.perm
  exact (List.perm_cons _).1 h5

/-- there is a free slot: nothing stands N - 1 behind its home -/
theorem dist_room {bits N : Nat} {es : List Ent} (h : RH bits N es) (hb : ∀ i, i < N → (gt es i).full = true → home bits (gt es i).h < N) {i : Nat} (hi : i < N) (hf : (gt es i).full = true) {q : Nat} (hq : q < N) (he : (gt es q).full = false) : way N (home bits (gt es i).h) i + 1 < N := by
  have hh := hb i hi hf
  have hw := way_lt hh hq
  rcases Nat.lt_or_ge (dist bits N es i) (way N (home bits (gt es i).h) q) with h1 | h1
  · rw [dist_way] at h1; omega
  · have := (on_way h hb hi hf h1).1
    rw [cyc_way hh hq, he] at this
    cases this
theorem way_down {N i q : Nat} (hi : i < N) (hq : q < N) (h : i ≠ q) : way N (nx N i) q + 1 = way N i q := by unfold way nx; (repeat' split) <;> omega
theorem way_self (N i : Nat) : way N i i = 0 := by simp [way]

/-- the whole of what holds while one is carried: 'free' stays free, and what is there with what is carried stays the same -/
structure Carry (bits N : Nat) (es0 : List Ent) (e0 : Ent) (q : Nat) (es : List Ent) (e : Ent) (at_ far : Nat) : Prop extends Laying bits N es e at_ far where
  free_lt : q < N
  free : (gt es q).full = false
  homes : ∀ i, i < N → (gt es i).full = true → Rh.home bits (gt es i).h < N
  oks : ∀ i, i < N → (gt es i).full = true → (gt es i).ok
  ok : e.ok
  perm : (e :: there es).Perm (e0 :: there es0)

theorem Carry.start {bits N : Nat} {es : List Ent} {e : Ent} {q : Nat} (hl : es.length = N) (hr : RH bits N es) (hf : e.full = true) (hh : home bits e.h < N) (hq : q < N) (he : (gt es q).full = false)
    (homes : ∀ i, i < N → (gt es i).full = true → Rh.home bits (gt es i).h < N) (oks : ∀ i, i < N → (gt es i).full = true → (gt es i).ok) (ok : e.ok) : Carry bits N es e q es e (home bits e.h) 0 where
  len := hl
  rh := hr
  at_lt := hh
  full := hf
  home_lt := hh
  far_eq := (way_self _ _).symm
  prev := fun _ _ _ => Nat.zero_le _
  free_lt := hq
  free := he
  homes := homes
  oks := oks
  ok := ok
  perm := List.Perm.refl _

section
variable {bits N : Nat} {es0 : List Ent} {e0 : Ent} {q : Nat} {es : List Ent} {e : Ent} {at_ far : Nat}
theorem Carry.room (C : Carry bits N es0 e0 q es e at_ far) (hf : (gt es at_).full = true) : way N (Rh.home bits (gt es at_).h) at_ + 1 < N := dist_room C.rh C.homes C.at_lt hf C.free_lt C.free
theorem Carry.pass (C : Carry bits N es0 e0 q es e at_ far) (hf : (gt es at_).full = true) (h : far ≤ way N (Rh.home bits (gt es at_).h) at_) : Carry bits N es0 e0 q es e (nx N at_) (far + 1) :=
  { laying_pass C.toLaying (by have := C.room hf; omega) hf (by rw [dist_way]; exact h) with free_lt := C.free_lt, free := C.free, homes := C.homes, oks := C.oks, ok := C.ok, perm := C.perm }
theorem Carry.ne (C : Carry bits N es0 e0 q es e at_ far) (hf : (gt es at_).full = true) : at_ ≠ q := fun h => by subst h; rw [C.free] at hf; cases hf
theorem Carry.swap (C : Carry bits N es0 e0 q es e at_ far) (hf : (gt es at_).full = true) (h : way N (Rh.home bits (gt es at_).h) at_ ≤ far) : Carry bits N es0 e0 q (es.set at_ e) (gt es at_) (nx N at_) (way N (Rh.home bits (gt es at_).h) at_ + 1) :=
  have hl : at_ < es.length := by have := C.len; have := C.at_lt; omega
  { laying_swap C.toLaying (C.homes _ C.at_lt hf) hf (by rw [dist_way]; exact h) (by rw [dist_way]; exact C.room hf) with
    free_lt := C.free_lt
    free := by rw [gt_set hl, if_neg (fun h => C.ne hf h.symm)]; exact C.free
    homes := by
      intro i hi
      rw [gt_set hl]
      split
      · intro _; exact C.home_lt
      · exact C.homes i hi
    oks := by
      intro i hi
      rw [gt_set hl]
      split
      · intro _; exact C.ok
      · exact C.oks i hi
    ok := C.oks _ C.at_lt hf
    perm := (there_set_swap hl hf C.full).trans C.perm }
theorem Carry.done (C : Carry bits N es0 e0 q es e at_ far) (hf : (gt es at_).full = false) : (es.set at_ e).length = N ∧ RH bits N (es.set at_ e) ∧ (there (es.set at_ e)).Perm (e0 :: there es0) :=
  ⟨by rw [List.length_set]; exact C.len, laying_free C.toLaying hf, (there_set_free (by have := C.len; have := C.at_lt; omega) hf C.full).trans C.perm⟩
end
end Go.Proofs.Ytaijfgajcmopfaa.Rh
/- A table in memory. -/
set_option linter.unusedVariables false
namespace Go.Proofs.Ytaijfgajcmopfaa.T
open Go.RowKit V Rh

def cellsE (e : Ent) : List Value := [.int .u64 e.h, .int .u64 e.a, .int .u64 e.v, .int .u8 e.c]
def flat (es : List Ent) : List Value := es.flatMap cellsE

theorem flat_length (es : List Ent) : (flat es).length = 4 * es.length := by
  induction es with
  | nil => rfl
  | cons e es ih => simp only [flat, List.flatMap_cons, List.length_append, List.length_cons] at ih ⊢; rw [ih]; simp [cellsE]; omega
theorem flat_at {es : List Ent} : ∀ {i : Nat}, i < es.length → ∀ j, j < 4 → (flat es)[i * 4 + j]? = (cellsE (gt es i))[j]? := by
  induction es with
  | nil => intro i h; simp at h
  | cons e es ih =>
    intro i hi j hj
    unfold flat
    rw [List.flatMap_cons]
    cases i with
    | zero =>
      rw [List.getElem?_append_left (by simp [cellsE]; omega)]
      simp [gt]
    | succ i =>
      have h := ih (i := i) (by simpa using hi) j hj
      rw [List.getElem?_append_right (by simp [cellsE]; omega)]
      have e1 : (i + 1) * 4 + j - (cellsE e).length = i * 4 + j := by simp [cellsE]; omega
      rw [e1]
      unfold flat at h
      rw [h]
      simp [gt]
theorem flat_set {es : List Ent} {e : Ent} : ∀ {i : Nat}, i < es.length →
    ((((flat es).set (i * 4) (.int .u64 e.h)).set (i * 4 + 1) (.int .u64 e.a)).set (i * 4 + 2) (.int .u64 e.v)).set (i * 4 + 3) (.int .u8 e.c) = flat (es.set i e) := by
  induction es with
  | nil => intro i h; simp at h
  | cons x es ih =>
    intro i hi
    cases i with
    | zero => simp [flat, cellsE]
    | succ i =>
      have h := ih (i := i) (by simpa using hi)
      simp only [List.set_cons_succ]
      unfold flat at h ⊢
      rw [List.flatMap_cons, List.flatMap_cons, ← h]
      have e0 : (i + 1) * 4 = (cellsE x).length + i * 4 := by simp [cellsE]; omega
      rw [e0, Nat.add_assoc, Nat.add_assoc, Nat.add_assoc]
      simp only [List.set_append_right _ _ (Nat.le_add_right _ _), Nat.add_sub_cancel_left]

theorem Blk.set4 {w : World} {b : Nat} {es : List Ent} {xs : List Value} {t : TypeId} (h : Blk w b (flat es ++ xs) t) {i : Nat} (hi : i < es.length) (e : Ent) :
    Blk ((((w.setCell ⟨b, i * 4, none⟩ (.int .u64 e.h)).setCell ⟨b, i * 4 + 1, none⟩ (.int .u64 e.a)).setCell ⟨b, i * 4 + 2, none⟩ (.int .u64 e.v)).setCell ⟨b, i * 4 + 3, none⟩ (.int .u8 e.c)) b (flat (es.set i e) ++ xs) t := by
  have := (((h.set (i * 4) (.int .u64 e.h)).set (i * 4 + 1) (.int .u64 e.a)).set (i * 4 + 2) (.int .u64 e.v)).set (i * 4 + 3) (.int .u8 e.c)
  have hl := flat_length es
  rw [List.set_append_left _ _ (by omega), List.set_append_left _ _ (by simp; omega), List.set_append_left _ _ (by simp; omega), List.set_append_left _ _ (by simp; omega), flat_set hi] at this
  exact this

/-- slot i, cell by cell -/
theorem slot {w : World} {b : Nat} {es : List Ent} {xs : List Value} {t : TypeId} (h : Blk w b (flat es ++ xs) t) {i : Nat} (hi : i < es.length) :
    w.cell? ⟨b, i * 4, none⟩ = some (.int .u64 (gt es i).h) ∧ w.cell? ⟨b, i * 4 + 1, none⟩ = some (.int .u64 (gt es i).a) ∧ w.cell? ⟨b, i * 4 + 2, none⟩ = some (.int .u64 (gt es i).v) ∧ w.cell? ⟨b, i * 4 + 3, none⟩ = some (.int .u8 (gt es i).c) := by
  have hl := flat_length es
  refine ⟨?_, ?_, ?_, ?_⟩
  · rw [h.cell, List.getElem?_append_left (by omega)]; exact flat_at hi 0 (by omega)
  · rw [h.cell, List.getElem?_append_left (by omega)]; exact flat_at hi 1 (by omega)
  · rw [h.cell, List.getElem?_append_left (by omega)]; exact flat_at hi 2 (by omega)
  · rw [h.cell, List.getElem?_append_left (by omega)]; exact flat_at hi 3 (by omega)

/-- the table's own cells -/
def tabCells (bs N C bits most n : Nat) : List Value := [.slice (some ⟨bs, 0, none⟩) N C, .int .i64 bits, .int .i64 most, .int .i64 n]
/-- A table at block bt, its slots at block bs (with spare room behind). -/
structure Tab (w : World) (bt bs : Nat) (bits most : Nat) (es : List Ent) (n : Nat) : Prop where
  head : ∃ C, es.length ≤ C ∧ 0 ≤ C ∧ Blk w bt (tabCells bs es.length C bits most n) 90
  slots : ∃ xs, Blk w bs (flat es ++ xs) 27
  ne : bt ≠ bs
theorem Tab.cells {w : World} {bt bs bits most n : Nat} {es : List Ent} (h : Tab w bt bs bits most es n) :
    ∃ C, es.length ≤ C ∧ 0 ≤ C ∧ w.cell? ⟨bt, 0, none⟩ = some (.slice (some ⟨bs, 0, none⟩) es.length C) ∧ w.cell? ⟨bt, 1, none⟩ = some (.int .i64 bits) ∧ w.cell? ⟨bt, 2, none⟩ = some (.int .i64 most) ∧ w.cell? ⟨bt, 3, none⟩ = some (.int .i64 n) :=
  let ⟨C, h1, h2, hb⟩ := h.head
  ⟨C, h1, h2, hb.cell 0, hb.cell 1, hb.cell 2, hb.cell 3⟩
theorem Tab.drewN {w : World} {bt bs bits most n : Nat} {es : List Ent} (h : Tab w bt bs bits most es n) (k : Nat) : Tab (w.drewN k) bt bs bits most es n := ⟨h.head, h.slots, h.ne⟩
theorem Tab.mod {S : Nat → Prop} {w w' : World} {bt bs bits most n : Nat} {es : List Ent} (h : Tab w bt bs bits most es n) (m : Keep S w w') (h1 : ¬ S bt) (h2 : ¬ S bs) : Tab w' bt bs bits most es n :=
  ⟨let ⟨C, a, b, c⟩ := h.head; ⟨C, a, b, c.mod m h1⟩, let ⟨xs, a⟩ := h.slots; ⟨xs, a.mod m h2⟩, h.ne⟩
theorem Tab.lt {w : World} {bt bs bits most n : Nat} {es : List Ent} (h : Tab w bt bs bits most es n) : bt < w.heap.size ∧ bs < w.heap.size :=
  ⟨let ⟨_, _, _, c⟩ := h.head; c.lt, let ⟨_, a⟩ := h.slots; a.lt⟩
/-- what an entry's slot becomes -/
theorem set_c {es : List Ent} : ∀ {i : Nat} (hi : i < es.length) (x : Int), (flat es).set (i * 4 + 3) (.int .u8 x) = flat (es.set i { gt es i with c := x }) := by
  intro i hi x
  rw [← flat_set hi]
  have hl := flat_length es
  have e0 : (flat es).set (i * 4) (.int .u64 (gt es i).h) = flat es := by
    have := flat_at hi 0 (by omega)
    simp only [Nat.add_zero] at this
    refine List.ext_getElem? fun k => ?_
    rw [List.getElem?_set]
    split
    · rename_i h; subst h; rw [this]; simp [cellsE]; omega
    · rfl
  have e1 : (flat es).set (i * 4 + 1) (.int .u64 (gt es i).a) = flat es := by
    have := flat_at hi 1 (by omega)
    refine List.ext_getElem? fun k => ?_
    rw [List.getElem?_set]
    split
    · rename_i h; subst h; rw [this]; simp [cellsE]; omega
    · rfl
  have e2 : (flat es).set (i * 4 + 2) (.int .u64 (gt es i).v) = flat es := by
    have := flat_at hi 2 (by omega)
    refine List.ext_getElem? fun k => ?_
    rw [List.getElem?_set]
    split
    · rename_i h; subst h; rw [this]; simp [cellsE]; omega
    · rfl
  simp only [e0, e1, e2]


theorem set_gt {es : List Ent} {i : Nat} (hi : i < es.length) : es.set i (gt es i) = es := by
  refine List.ext_getElem? fun k => ?_
  rw [List.getElem?_set]
  split
  · rename_i h; subst h; simp [gt_of_lt hi, hi]
  · rfl
theorem Tab.set4 {w : World} {bt bs bits most n : Nat} {es : List Ent} (h : Tab w bt bs bits most es n) {i : Nat} (hi : i < es.length) (e : Ent) :
    Tab ((((w.setCell ⟨bs, i * 4, none⟩ (.int .u64 e.h)).setCell ⟨bs, i * 4 + 1, none⟩ (.int .u64 e.a)).setCell ⟨bs, i * 4 + 2, none⟩ (.int .u64 e.v)).setCell ⟨bs, i * 4 + 3, none⟩ (.int .u8 e.c)) bt bs bits most (es.set i e) n :=
  ⟨by
    obtain ⟨C, a, b, c⟩ := h.head
    refine ⟨C, by rw [List.length_set]; exact a, b, ?_⟩
    rw [List.length_set]
    exact (((c.other _ _ h.ne).other _ _ h.ne).other _ _ h.ne).other _ _ h.ne,
   let ⟨xs, a⟩ := h.slots; ⟨xs, Blk.set4 a hi e⟩, h.ne⟩
theorem Tab.setC {w : World} {bt bs bits most n : Nat} {es : List Ent} (h : Tab w bt bs bits most es n) {i : Nat} (hi : i < es.length) (x : Int) :
    Tab (w.setCell ⟨bs, i * 4 + 3, none⟩ (.int .u8 x)) bt bs bits most (es.set i { gt es i with c := x }) n :=
  ⟨by
    obtain ⟨C, a, b, c⟩ := h.head
    refine ⟨C, by rw [List.length_set]; exact a, b, ?_⟩
    rw [List.length_set]
    exact c.other _ _ h.ne,
   by
    obtain ⟨xs, a⟩ := h.slots
    refine ⟨xs, ?_⟩
    have := a.set (i * 4 + 3) (.int .u8 x)
    have hl := flat_length es
    rwa [List.set_append_left _ _ (by omega), set_c hi] at this, h.ne⟩
theorem Tab.setN {w : World} {bt bs bits most n : Nat} {es : List Ent} (h : Tab w bt bs bits most es n) (m : Nat) : Tab (w.setCell ⟨bt, 3, none⟩ (.int .i64 m)) bt bs bits most es m :=
  ⟨let ⟨C, a, b, c⟩ := h.head; ⟨C, a, b, c.set 3 _⟩, let ⟨xs, a⟩ := h.slots; ⟨xs, a.other _ _ (fun e => h.ne e.symm)⟩, h.ne⟩
theorem Tab.other {w : World} {bt bs bits most n : Nat} {es : List Ent} (h : Tab w bt bs bits most es n) (p : Addr) (u : Value) (h1 : bt ≠ p.block) (h2 : bs ≠ p.block) : Tab (w.setCell p u) bt bs bits most es n :=
  ⟨let ⟨C, a, b, c⟩ := h.head; ⟨C, a, b, c.other _ _ h1⟩, let ⟨xs, a⟩ := h.slots; ⟨xs, a.other _ _ h2⟩, h.ne⟩
theorem Tab.other4 {w : World} {bt bs bits most n : Nat} {es : List Ent} (h : Tab w bt bs bits most es n) {b : Nat} (h1 : bt ≠ b) (h2 : bs ≠ b) (i0 i1 i2 i3 : Nat) (x0 x1 x2 x3 : Value) :
    Tab ((((w.setCell ⟨b, i0, none⟩ x0).setCell ⟨b, i1, none⟩ x1).setCell ⟨b, i2, none⟩ x2).setCell ⟨b, i3, none⟩ x3) bt bs bits most es n := (((h.other _ _ h1 h2).other _ _ h1 h2).other _ _ h1 h2).other _ _ h1 h2
theorem Tab.alloc {w : World} {bt bs bits most n : Nat} {es : List Ent} (h : Tab w bt bs bits most es n) (o : Obj) : Tab (w.alloc o) bt bs bits most es n :=
  ⟨let ⟨C, a, b, c⟩ := h.head; ⟨C, a, b, c.alloc o⟩, let ⟨xs, a⟩ := h.slots; ⟨xs, a.alloc o⟩, h.ne⟩
theorem Tab.drew {w : World} {bt bs bits most n : Nat} {es : List Ent} (h : Tab w bt bs bits most es n) : Tab w.drew bt bs bits most es n := ⟨h.head, h.slots, h.ne⟩
theorem Blk.setE {w : World} {b : Nat} {x0 x1 x2 x3 : Value} {t : TypeId} (h : Blk w b [x0, x1, x2, x3] t) (e : Ent) :
    Blk ((((w.setCell ⟨b, 0, none⟩ (.int .u64 e.h)).setCell ⟨b, 1, none⟩ (.int .u64 e.a)).setCell ⟨b, 2, none⟩ (.int .u64 e.v)).setCell ⟨b, 3, none⟩ (.int .u8 e.c)) b (cellsE e) t := (((h.set 0 _).set 1 _).set 2 _).set 3 _
/-- what a walk reads of it -/
theorem Tab.open {w : World} {bt bs bits most n : Nat} {es : List Ent} (h : Tab w bt bs bits most es n) {i : Nat} (hi : i < es.length) :
    ∃ C, es.length ≤ C ∧ 0 ≤ C ∧ bt < w.heap.size ∧ bs < w.heap.size ∧ bt ≠ bs ∧ bs ≠ bt ∧
      w.cell? ⟨bt, 0, none⟩ = some (.slice (some ⟨bs, 0, none⟩) es.length C) ∧ w.cell? ⟨bt, 1, none⟩ = some (.int .i64 bits) ∧ w.cell? ⟨bt, 2, none⟩ = some (.int .i64 most) ∧ w.cell? ⟨bt, 3, none⟩ = some (.int .i64 n) ∧
      w.cell? ⟨bs, i * 4, none⟩ = some (.int .u64 (gt es i).h) ∧ w.cell? ⟨bs, i * 4 + 1, none⟩ = some (.int .u64 (gt es i).a) ∧ w.cell? ⟨bs, i * 4 + 2, none⟩ = some (.int .u64 (gt es i).v) ∧ w.cell? ⟨bs, i * 4 + 3, none⟩ = some (.int .u8 (gt es i).c) ∧
      (∀ k, w.frozen? ⟨bt, k, none⟩ = false) ∧ (∀ k, w.frozen? ⟨bs, k, none⟩ = false) := by
  obtain ⟨C, h1, h2, c⟩ := h.head
  obtain ⟨xs, a⟩ := h.slots
  obtain ⟨s0, s1, s2, s3⟩ := slot a hi
  exact ⟨C, h1, h2, c.lt, a.lt, h.ne, fun e => h.ne e.symm, c.cell 0, c.cell 1, c.cell 2, c.cell 3, s0, s1, s2, s3, c.frozen, a.frozen⟩
end Go.Proofs.Ytaijfgajcmopfaa.T
/- Walks of the table: what only looks. -/
set_option linter.unusedVariables false
namespace Go.Proofs.Ytaijfgajcmopfaa.W1
open Go.RowKit V Rh T

def valE (e : Ent) : Value := .agg #[.int .u64 e.h, .int .u64 e.a, .int .u64 e.v, .int .u8 e.c]

theorem empty_any (h a v c : Int) (w : World) :
    Calls Try.prog 51 #[.agg #[.int .u64 h, .int .u64 a, .int .u64 v, .int .u8 c]] w fun e w' => e = .returned (.bool (a == 0)) ∧ w.alloc (.cells #[.int .u64 h, .int .u64 a, .int .u64 v, .int .u8 c] 27) = w' := by
  go_enter Try.func51, Try.ntmps51
  go_wp2
  go_ret
  exact ⟨rfl, rfl⟩

theorem made_nil (w : World) : Calls Try.prog 61 #[.pointer none] w fun e w' => e = .returned (.bool false) ∧ w = w' := by
  go_enter Try.func61, Try.ntmps61
  go_wp2
  go_ret
  exact ⟨rfl, rfl⟩
theorem made_any (b bs N C : Nat) (w : World) (h0 : w.cell? ⟨b, 0, none⟩ = some (.slice (some ⟨bs, 0, none⟩) N C)) (hN : 0 < N) :
    Calls Try.prog 61 #[.pointer (some ⟨b, 0, none⟩)] w fun e w' => e = .returned (.bool true) ∧ w = w' := by
  go_enter Try.func61, Try.ntmps61
  go_wp2
  go_ret
  exact ⟨rfl, rfl⟩

theorem home_any (b bits : Nat) (h : Int) (hb : 2 ≤ bits) (hb2 : bits ≤ 16) (hh : 0 ≤ h) (hh2 : h < 18446744073709551616) (w : World) (h0 : w.cell? ⟨b, 1, none⟩ = some (.int .i64 bits)) :
    Calls Try.prog 70 #[.pointer (some ⟨b, 0, none⟩), .int .u64 h] w fun e w' => e = .returned (.int .i64 (home bits h : Nat)) ∧ w = w' := by
  have h1 := home_lt (bits := bits) (by omega) hh hh2
  have h2 := pow_le16 hb2
  have hp : (0 : Int) < 2 ^ (64 - bits) := Int.pow_pos (by decide)
  have h3 : 0 ≤ h / 2 ^ (64 - bits) := Int.ediv_nonneg hh (Int.le_of_lt hp)
  have E : Hid (wrap64 (h / 2 ^ (64 - bits)) = (home bits h : Nat)) := by
    have : ((home bits h : Nat) : Int) = h / 2 ^ (64 - bits) := by unfold home at h1 ⊢; omega
    rw [← this]
    show wrap64 _ = _
    unfold wrap64
    omega
  clear h1 h2 hp h3
  go_enter Try.func70, Try.ntmps70
  go_wp2
  go_ret
  exact ⟨ret_int E.out, rfl⟩

theorem next_any (b bs N C i : Nat) (w : World) (h0 : w.cell? ⟨b, 0, none⟩ = some (.slice (some ⟨bs, 0, none⟩) N C)) (hN : 0 < N) (hN2 : N ≤ 65536) (hi : i < N) :
    Calls Try.prog 56 #[.pointer (some ⟨b, 0, none⟩), .int .i64 i] w fun e w' => e = .returned (.int .i64 (nx N i : Nat)) ∧ w = w' := by
  have E : Hid (((i : Int) + 1) % N = (nx N i : Nat)) := by
    show ((i : Int) + 1) % N = _
    have h1 : (((i + 1) % N : Nat) : Int) = ((i : Int) + 1) % N := by simp
    rw [← h1, mod_cyc (x := i + 1) hN (by omega)]
    unfold nx
    (repeat' split) <;> omega
  go_enter Try.func56, Try.ntmps56
  go_wp2
  go_ret
  exact ⟨ret_int E.out, rfl⟩

theorem dist_any (b bs bits N C i : Nat) (hs : Int) (w : World) (h0 : w.cell? ⟨b, 0, none⟩ = some (.slice (some ⟨bs, 0, none⟩) N C)) (h1 : w.cell? ⟨b, 1, none⟩ = some (.int .i64 bits)) (hN : 0 < N) (hN2 : N ≤ 65536) (hi : i < N)
    (hb : 2 ≤ bits) (hb2 : bits ≤ 16) (hok : 0 ≤ hs) (hok2 : hs < 18446744073709551616) (hh : home bits hs < N) (hc : w.cell? ⟨bs, i * 4, none⟩ = some (.int .u64 hs)) :
    Calls Try.prog 57 #[.pointer (some ⟨b, 0, none⟩), .int .i64 i] w fun e w' => e = .returned (.int .i64 (way N (home bits hs) i : Nat)) ∧ ∃ n, w.drewN n = w' := by
  have H : ∀ W, W.cell? ⟨b, 1, none⟩ = some (.int .i64 bits) → Calls Try.prog 70 #[.pointer (some ⟨b, 0, none⟩), .int .u64 hs] W fun e w' => e = .returned (.int .i64 (home bits hs : Nat)) ∧ W = w' :=
    fun W hW => home_any b bits _ hb hb2 hok hok2 W hW
  generalize home bits hs = hm at *
  have E : Hid (((i : Int) - (hm : Nat) + N) % N = (way N hm i : Nat)) := by
    show _ = _
    have e1 : ((i : Int) - (hm : Nat) + N) = ((i + N - hm : Nat) : Int) := by omega
    rw [e1]
    have h1 : (((i + N - hm) % N : Nat) : Int) = ((i + N - hm : Nat) : Int) % N := by simp
    rw [← h1, mod_cyc hN (by omega)]
    unfold way
    (repeat' split) <;> omega
  have h0' : 0 ≤ (i : Int) := by omega
  have h1' : (i : Int) < N := by omega
  have hq : (0 : Int) ≤ (hm : Nat) := by omega
  have hq2 : ((hm : Nat) : Int) < N := by omega
  go_enter Try.func57, Try.ntmps57
  go_wp2
  go_quiet ((go_at_call 70; exact Calls.quiet_of_same ((H _ (by go_simp)).mono fun e w' h => ⟨h.1, h.2.symm⟩)))
  go_wp2
  go_ret
  exact ⟨ret_int E.out, _, rfl⟩

theorem find_nil (h : Int) (w : World) : Calls Try.prog 55 #[.pointer none, .int .u64 h] w fun e w' => e = .returned (.int .i64 (-1)) ∧ w = w' := by
  go_enter Try.func55, Try.ntmps55
  go_wp2
  go_step3
  go_wp2_with (go_at_call 61; refine (made_nil _).mono ?_; rintro e w' ⟨rfl, rfl⟩)
  rw [Exit.noGoto_ret]
  go_ret
  exact ⟨rfl, rfl⟩

/-- a place, or -1 -/
def posI (es : List Ent) (h : Int) : Int := match posOf es h with | some p => (p : Int) | none => -1

set_option maxHeartbeats 1000000 in
theorem find_any (bt bs bits most n : Nat) (es L : List Ent) (h : Int) (w : World) (hT : Tab w bt bs bits most es n) (hI : TInv bits most es L) (hh : 0 ≤ h) (hh2 : h < 18446744073709551616) :
    Calls Try.prog 55 #[.pointer (some ⟨bt, 0, none⟩), .int .u64 h] w fun e w' => e = .returned (.int .i64 (posI es h)) ∧ Keep No w w' := by
  obtain ⟨C, hC, hC2, c0, c1, c2, c3⟩ := hT.cells
  have hl := hI.len
  have hN := hI.n_pos
  have hN2 := hI.n_le
  have hb := hI.b2
  have hb2 : bits ≤ 16 := Nat.le_trans hI.bm hI.m16
  have hm := home_lt (bits := bits) (by omega) hh hh2
  obtain ⟨q, hq, hqf⟩ := hI.free
  have HI := hid hI
  clear hI
  rw [hl] at c0 hC
  generalize hNN : 2 ^ bits = N at *
  have HN := hid hNN
  clear hNN
  have HL := hid hl
  clear hl
  have H0 := hid hT
  clear hT
  generalize hhm : home bits h = hm0 at *
  have HH := hid hhm
  clear hhm
  have home' : ∀ W, W.cell? ⟨bt, 1, none⟩ = some (.int .i64 bits) → Calls Try.prog 70 #[.pointer (some ⟨bt, 0, none⟩), .int .u64 h] W fun e w' => e = .returned (.int .i64 (hm0 : Nat)) ∧ W = w' := by
    intro W hW
    have := home_any bt bits h hb hb2 hh hh2 W hW
    rwa [HH.out] at this
  go_enter Try.func55, Try.ntmps55
  go_wp2
  go_step3
  go_wp2_with (first | (go_at_call 61; refine (made_any _ _ _ _ _ c0 (by omega)).mono ?_; rintro e w' ⟨rfl, rfl⟩) | (go_at_call 70; refine (home' _ c1).mono ?_; rintro e w' ⟨rfl, rfl⟩))
  go_step3
  go_wp2
  go_loopw [5, 6] (fun a f wr => ∃ far : Nat, a = .int .i64 (cyc N hm0 far : Nat) ∧ f = .int .i64 far ∧ Looked N bits es h far ∧ Keep No w wr) (fun _ f _ => N - (intOf f).toNat)
  case atStart => exact ⟨0, by rw [cyc_zero hm], rfl, fun j hj => absurd hj (Nat.not_lt_zero _), Keep.refl _ _⟩
  case round =>
    obtain ⟨far, rfl, rfl, hL, hM⟩ := hrel
    obtain ⟨C', hC', hC2', c0, c1, c2, c3⟩ := (H0.out.mod hM (no _) (no _)).cells
    rw [HL.out] at c0 hC'
    obtain ⟨xs, hSl⟩ := (H0.out.mod hM (no _) (no _)).slots
    have hfw : far ≤ way N hm0 q := by
      have h1 := HH.out
      subst h1
      exact look_bound hm hq hqf hL
    have hway := way_lt hm hq
    have hcy : cyc N hm0 far < N := cyc_lt hm (by omega)
    obtain ⟨s0, s1, s2, s3⟩ := slot hSl (i := cyc N hm0 far) (by rw [HL.out]; exact hcy)
    have hzt := (H0.out.mod hM (no _) (no _)).lt.1
    have hzs := hSl.lt
    have HM := hid hM
    clear hM hSl
    have hgok : (gt es (cyc N hm0 far)).full = true → 0 ≤ (gt es (cyc N hm0 far)).h ∧ (gt es (cyc N hm0 far)).h < 18446744073709551616 ∧ home bits (gt es (cyc N hm0 far)).h < N := by
      intro hf
      have h1 := HI.out
      have h2 := HN.out
      subst h2
      have h3 := (h1.ok _ (h1.mem hcy hf)).1
      exact ⟨h3.1, h3.2.1, h1.home _ hcy hf⟩
    have hmiss : ((gt es (cyc N hm0 far)).full = false ∨ dist bits N es (cyc N hm0 far) < far ∧ (gt es (cyc N hm0 far)).h ≠ h) → posOf es h = none := by
      intro hs
      have h1 := HI.out
      have h2 := HN.out
      have h3 := HH.out
      subst h2 h3
      exact look_miss h1.len h1.rh h1.home (by omega) hL hs
    have hhit : (gt es (cyc N hm0 far)).full = true → (gt es (cyc N hm0 far)).h = h → posOf es h = some (cyc N hm0 far) := by
      intro hf he
      have h1 := HI.out
      have h2 := HN.out
      have h3 := HH.out
      subst h2 h3
      exact look_hit h1.len h1.uniq hm (by omega) hf he
    rw [dist_way] at hmiss
    have hstep : (gt es (cyc N hm0 far)).full = true → (gt es (cyc N hm0 far)).h ≠ h → Looked N bits es h (far + 1) := by
      intro hf he j hj
      have h3 := HH.out
      subst h3
      rcases Nat.lt_succ_iff_lt_or_eq.1 hj with h4 | rfl
      · exact hL j h4
      · exact ⟨hf, he⟩
    have hnx : nx N (cyc N hm0 far) = cyc N hm0 (far + 1) := (cyc_succ hm (by omega)).symm
    have Hnx := hid hnx
    have Hmiss := hid hmiss
    have Hhit := hid hhit
    have Hstep := hid hstep
    clear hnx hmiss hhit hstep hL
    generalize gt es (cyc N hm0 far) = g at *
    unfold Ent.full at hgok
    by_cases hE : g.a = 0
    · have hEb : (g.a == 0) = true := by simp [hE]
      have hp := Hmiss.out (.inl (by simp [Ent.full, hE]))
      clear hE hgok
      go_wp2_with (first | (go_at_call 51; refine (empty_any _ _ _ _ _).mono ?_; rintro e w' ⟨rfl, rfl⟩))
      rw [Exit.noGoto_ret]
      go_ret
      exact ⟨ret_int (by simp [posI, hp]), HM.out.alloc _⟩
    · have hEb : (g.a == 0) = false := by simp [hE]
      have hf : g.full = true := by simp [Ent.full, hE]
      obtain ⟨hg1, hg2, hg3⟩ := hgok (by simp [hE])
      by_cases hq : g.h = h
      · have hp := Hhit.out hf hq
        have Hp := hid hp
        have Hq : (g.h == h) = true := by simp [hq]
        clear hE hgok hp hf hq
        go_wp2_with (first | (go_at_call 51; refine (empty_any _ _ _ _ _).mono ?_; rintro e w' ⟨rfl, rfl⟩))
        rw [Exit.noGoto_ret]
        go_ret
        exact ⟨ret_int (by simp [posI, Hp.out]), HM.out.alloc _⟩
      · have Hl := Hstep.out hf hq
        have Hq : (g.h == h) = false := by simp [hq]
        have Hd : way N (home bits g.h) (cyc N hm0 far) < far → posOf es h = none := fun hd => Hmiss.out (.inr ⟨hd, hq⟩)
        have HD := hid Hd
        clear hE hgok hf hq Hd
        go_wp2_with (first | (go_at_call 51; refine (empty_any _ _ _ _ _).mono ?_; rintro e w' ⟨rfl, rfl⟩) | (go_at_call 57; refine (dist_any bt bs bits N C' _ g.h _ (by go_simp) (by go_simp) (by omega) hN2 hcy hb hb2 hg1 hg2 hg3 (by go_simp)).mono ?_; rintro e w' ⟨rfl, nd, rfl⟩) | (go_at_call 56; refine (next_any bt bs N C' _ _ (by go_simp) (by omega) hN2 hcy).mono ?_; rintro e w' ⟨rfl, rfl⟩))
        · rw [Exit.noGoto_ret]
          go_ret
          exact ⟨ret_int (by simp [posI, HD.out ‹_›]), (HM.out.alloc _).drewN _⟩
        · exact ⟨⟨far + 1, by rw [Hnx.out], by go_num, Hl, (HM.out.alloc _).drewN _⟩, by simp [intOf]; omega⟩

theorem posI_some {es : List Ent} {h : Int} {p : Nat} (hp : posOf es h = some p) : posI es h = p := by simp [posI, hp]
theorem posI_none {es : List Ent} {h : Int} (hp : posOf es h = none) : posI es h = -1 := by simp [posI, hp]

def zE : Value := .agg #[.int .u64 0, .int .u64 0, .int .u64 0, .int .u8 0]
def optE : Option Ent → Value
  | some e => valE e
  | none => zE

theorem get_nil (h : Int) (w : World) : Calls Try.prog 45 #[.pointer none, .int .u64 h] w fun e w' => e = .returned (.tuple #[zE, .bool false]) ∧ Keep No w w' := by
  go_enter Try.func45, Try.ntmps45
  go_wp2_with (go_at_call 55; refine (find_nil _ _).mono ?_; rintro e w' ⟨rfl, rfl⟩)
  exact bodyPost_ret (v := .tuple #[zE, .bool false]) (by simp [results, Try.results45, go_sem, zE]) rfl ⟨rfl, (Keep.refl _ _).alloc _⟩

set_option maxHeartbeats 400000 in
theorem get_any (bt bs bits most n : Nat) (es L : List Ent) (h : Int) (w : World) (hT : Tab w bt bs bits most es n) (hI : TInv bits most es L) (hh : 0 ≤ h) (hh2 : h < 18446744073709551616) :
    Calls Try.prog 45 #[.pointer (some ⟨bt, 0, none⟩), .int .u64 h] w fun e w' => e = .returned (.tuple #[optE (lget h L), .bool (lget h L).isSome]) ∧ Keep No w w' := by
  have H0 := hid hT
  have hf : ∀ W, Keep No w W → Calls Try.prog 55 #[.pointer (some ⟨bt, 0, none⟩), .int .u64 h] W fun e w' => e = .returned (.int .i64 (posI es h)) ∧ Keep No W w' := fun W hW => find_any bt bs bits most n es L h W (hT.mod hW (no _) (no _)) hI hh hh2
  have hB : Blk (w.alloc (.cells #[.int .u64 0, .int .u64 0, .int .u64 0, .int .u8 0] 27)) w.heap.size [.int .u64 0, .int .u64 0, .int .u64 0, .int .u8 0] 27 := Blk.new' _ rfl
  cases hp : posOf es h with
  | none =>
    rw [posI_none hp] at hf
    have hg := hI.pos_none hp
    rw [hg]
    clear hT hI hp hg
    go_enter Try.func45, Try.ntmps45
    go_wp2_with (go_at_call 55; refine (hf _ ((Keep.refl _ _).alloc _)).mono ?_; rintro e w' ⟨rfl, hk⟩; have hk1 := hid ((Keep.alloc (Keep.refl No w) _).trans hk (fun _ _ h => h)); obtain ⟨z0, b0, b1, b2, b3, bf⟩ := (hB.mod hk (no _)).four; clear hk)
    exact bodyPost_ret (v := .tuple #[zE, .bool false]) (by simp [results, Try.results45, go_sem, zE, b0, b1, b2, b3]) rfl ⟨rfl, (((hk1.out.setCell _ _ (fun h => absurd h (Nat.lt_irrefl _))).setCell _ _ (fun h => absurd h (Nat.lt_irrefl _))).setCell _ _ (fun h => absurd h (Nat.lt_irrefl _))).setCell _ _ (fun h => absurd h (Nat.lt_irrefl _))⟩
  | some p => 
    rw [posI_some hp] at hf
    have hg := hI.pos_some hp
    obtain ⟨hp1, hp2, hp3⟩ := posOf_spec hI.len hp
    rw [hg]
    have hl := hI.len
    have hN2 := hI.n_le
    rw [← hl] at hp1 hN2
    clear hT hI hp hg hl hp2 hp3
    go_enter Try.func45, Try.ntmps45
    go_wp2_with (go_at_call 55; refine (hf _ ((Keep.refl _ _).alloc _)).mono ?_; rintro e w' ⟨rfl, hk⟩; have hk1 := hid ((Keep.alloc (Keep.refl No w) _).trans hk (fun _ _ h => h)); obtain ⟨z0, b0, b1, b2, b3, bf⟩ := (hB.mod hk (no _)).four; obtain ⟨C, hC, hC2, c0, c1, c2, c3⟩ := (H0.out.mod hk1.out (no _) (no _)).cells; obtain ⟨xs, hS⟩ := (H0.out.mod hk1.out (no _) (no _)).slots; obtain ⟨s0, s1, s2, s3⟩ := slot hS hp1; clear hk hS)
    exact bodyPost_ret (v := .tuple #[valE (gt es p), .bool true]) (by simp [results, Try.results45, go_sem, valE, b0, b1, b2, b3]) rfl ⟨rfl, (((hk1.out.setCell _ _ (fun h => absurd h (Nat.lt_irrefl _))).setCell _ _ (fun h => absurd h (Nat.lt_irrefl _))).setCell _ _ (fun h => absurd h (Nat.lt_irrefl _))).setCell _ _ (fun h => absurd h (Nat.lt_irrefl _))⟩
end Go.Proofs.Ytaijfgajcmopfaa.W1
/- Walks of the table: what writes. -/
set_option linter.unusedVariables false
namespace Go.Proofs.Ytaijfgajcmopfaa.W2
open Go.RowKit V Rh T W1

theorem len_nil (w : World) : Calls Try.prog 43 #[.pointer none] w fun e w' => e = .returned (.int .i64 0) ∧ w = w' := by
  go_enter Try.func43, Try.ntmps43
  go_wp2_with (go_at_call 61; refine (made_nil _).mono ?_; rintro e w' ⟨rfl, rfl⟩)
  go_ret
  exact ⟨rfl, rfl⟩
theorem len_any (bt bs bits most n : Nat) (es L : List Ent) (w : World) (hT : Tab w bt bs bits most es n) (hI : TInv bits most es L) :
    Calls Try.prog 43 #[.pointer (some ⟨bt, 0, none⟩)] w fun e w' => e = .returned (.int .i64 n) ∧ w = w' := by
  obtain ⟨C, hC, hC2, c0, c1, c2, c3⟩ := hT.cells
  have hl : 0 < es.length := by rw [hI.len]; have := hI.n_pos; omega
  clear hT hI
  go_enter Try.func43, Try.ntmps43
  go_wp2_with (go_at_call 61; refine (made_any _ _ _ _ _ c0 hl).mono ?_; rintro e w' ⟨rfl, rfl⟩)
  go_ret
  exact ⟨rfl, rfl⟩

theorem full_any (bt bs bits most n : Nat) (es : List Ent) (w : World) (hT : Tab w bt bs bits most es n) (hn : n ≤ 65536) (hN : es.length ≤ 65536) :
    Calls Try.prog 63 #[.pointer (some ⟨bt, 0, none⟩)] w fun e w' => e = .returned (.bool (decide (7 * es.length < 8 * (n + 1)))) ∧ ∃ k, w.drewN k = w' := by
  obtain ⟨C, hC, hC2, c0, c1, c2, c3⟩ := hT.cells
  clear hT
  go_enter Try.func63, Try.ntmps63
  go_wp2
  go_quiet (fail)
  go_wp2
  go_ret
  refine ⟨ret_bool ?_, _, rfl⟩
  simp
  omega

theorem hit_nil (h : Int) (w : World) : Calls Try.prog 47 #[.pointer none, .int .u64 h] w fun e w' => e = .returned (.bool false) ∧ w = w' := by
  go_enter Try.func47, Try.ntmps47
  go_wp2_with (go_at_call 55; refine (find_nil _ _).mono ?_; rintro e w' ⟨rfl, rfl⟩)
  go_ret
  exact ⟨rfl, rfl⟩

def hitE (e : Ent) : Ent := if e.c < 255 then { e with c := e.c + 1 } else e
def hitL (h : Int) (L : List Ent) : List Ent := match lget h L with | some e => lput (hitE e) L | none => L
/-- the blocks of a table -/
def At (bt bs : Nat) : Nat → Prop := fun k => k = bt ∨ k = bs

set_option maxHeartbeats 400000 in
theorem hit_any (bt bs bits most n : Nat) (es L : List Ent) (h : Int) (w : World) (hT : Tab w bt bs bits most es n) (hI : TInv bits most es L) (hh : 0 ≤ h) (hh2 : h < 18446744073709551616) :
    Calls Try.prog 47 #[.pointer (some ⟨bt, 0, none⟩), .int .u64 h] w fun e w' => e = .returned (.bool (lget h L).isSome) ∧ Keep (At bt bs) w w' ∧ ∃ es', Tab w' bt bs bits most es' n ∧ TInv bits most es' (hitL h L) := by
  have H0 := hid hT
  have hf := find_any bt bs bits most n es L h w hT hI hh hh2
  cases hp : posOf es h with
  | none =>
    rw [posI_none hp] at hf
    have hg := hI.pos_none hp
    have HI := hid hI
    have HG := hid hg
    clear hT hI hp hg
    go_enter Try.func47, Try.ntmps47
    go_wp2_with (go_at_call 55; refine hf.mono ?_; rintro e w' ⟨rfl, hk⟩; have hk1 := hid hk; clear hk)
    go_ret
    exact ⟨ret_bool (by rw [HG.out]; rfl), hk1.out.mono (fun _ _ h => h.elim), es, H0.out.mod hk1.out (no _) (no _), by rw [hitL, HG.out]; exact HI.out⟩
  | some p =>
    rw [posI_some hp] at hf
    have hg := hI.pos_some hp
    obtain ⟨hp1, hp2, hp3⟩ := posOf_spec hI.len hp
    have hok := (hI.ok _ (hI.mem hp1 hp2)).1
    have hl := hI.len
    have hN2 := hI.n_le
    rw [← hl] at hp1 hN2
    have hfin : Hid (TInv bits most (es.set p (hitE (gt es p))) (hitL h L)) := by
      rw [hitL, hg]
      have e1 : (hitE (gt es p)).h = h := by unfold hitE; split <;> exact hp3
      refine hI.replace (by rw [e1]; exact hp) ?_ ?_
      · unfold hitE; split <;> exact hp2
      · obtain ⟨o1, o2, o3, o4, o5, o6, o7, o8⟩ := hok
        unfold hitE
        split
        · exact ⟨o1, o2, o3, o4, o5, o6, by show 0 ≤ (gt es p).c + 1; omega, by show (gt es p).c + 1 < 256; omega⟩
        · exact ⟨o1, o2, o3, o4, o5, o6, o7, o8⟩
    have HG := hid hg
    have o7 := hok.2.2.2.2.2.2.1
    have o8 := hok.2.2.2.2.2.2.2
    clear hT hI hp hg hl hp2 hp3 hok
    go_enter Try.func47, Try.ntmps47
    by_cases hc : (gt es p).c < 255
    all_goals
      go_wp2_with (go_at_call 55; refine hf.mono ?_; rintro e w' ⟨rfl, hk⟩; obtain ⟨C, hC, hC2, c0, c1, c2, c3⟩ := (H0.out.mod hk (no _) (no _)).cells; have ht1 := hid (H0.out.mod hk (no _) (no _)); obtain ⟨xs, hS⟩ := (H0.out.mod hk (no _) (no _)).slots; obtain ⟨s0, s1, s2, s3⟩ := slot hS hp1; have hfz := hS.frozen; have hk1 := hid hk; clear hk hS)
      go_ret
    · refine ⟨ret_bool (by rw [HG.out]; rfl), (hk1.out.mono (fun _ _ h => h.elim)).setCell _ _ (fun _ => .inr rfl), _, ht1.out.setC hp1 _, ?_⟩
      have := hfin.out
      rwa [hitE, if_pos hc] at this
    · refine ⟨ret_bool (by rw [HG.out]; rfl), hk1.out.mono (fun _ _ h => h.elim), es, ht1.out, ?_⟩
      have := hfin.out
      rw [hitE, if_neg (by omega)] at this
      rwa [set_gt hp1] at this
end Go.Proofs.Ytaijfgajcmopfaa.W2
/- The walk of lay. -/
set_option linter.unusedVariables false
namespace Go.Proofs.Ytaijfgajcmopfaa.W3
open Go.RowKit V Rh T W1 W2

set_option maxHeartbeats 2000000 in
theorem lay_any (bt bs bits most n : Nat) (es : List Ent) (e : Ent) (q : Nat) (w : World) (hT : Tab w bt bs bits most es n) (hb : 2 ≤ bits) (hb2 : bits ≤ 16) (hl : es.length = 2 ^ bits) (hn : n ≤ 65536)
    (hC : Carry bits (2 ^ bits) es e q es e (home bits e.h) 0) :
    Calls Try.prog 65 #[.pointer (some ⟨bt, 0, none⟩), valE e] w fun e' w' => e' = .returned (.tuple #[]) ∧ Keep (At bt bs) w w' ∧ ∃ es', Tab w' bt bs bits most es' (n + 1) ∧ es'.length = 2 ^ bits ∧ RH bits (2 ^ bits) es' ∧ (there es').Perm (e :: there es) := by
  have hN := two_le_pow hb
  have hN2 := pow_le16 hb2
  have H0 := hid hT
  have HC := hid hC
  have hok := hC.ok
  have hz := hT.lt
  obtain ⟨hz1, hz2⟩ := hz
  obtain ⟨o1, o2, o3, o4, o5, o6, o7, o8⟩ := hok
  obtain ⟨C0, hC0, hC02, c00, c01, c02, c03⟩ := hT.cells
  rw [hl] at c00 hC0
  generalize hNN : 2 ^ bits = N at *
  have HN := hid hNN
  clear hT hC hNN hl
  have hB : Blk (w.alloc (.cells #[.int .u64 e.h, .int .u64 e.a, .int .u64 e.v, .int .u8 e.c] 27)) w.heap.size (cellsE e) 27 := Blk.new' _ rfl
  have HB := hid hB
  clear hB
  unfold valE
  go_enter Try.func65, Try.ntmps65
  go_wp2_with (go_at_call 70; refine (home_any bt bits e.h hb hb2 o1 o2 _ (by go_simp)).mono ?_; rintro e w' ⟨rfl, rfl⟩)
  go_loopw [4, 5] (fun a f wr => ∃ (es' : List Ent) (e' : Ent) (at_ far : Nat), a = .int .i64 at_ ∧ f = .int .i64 far ∧ Carry bits N es e q es' e' at_ far ∧ Tab wr bt bs bits most es' n ∧ Blk wr w.heap.size (cellsE e') 27 ∧ Keep (At bt bs) w wr) (fun a _ _ => way N (intOf a).toNat q)
  case atStart => exact ⟨es, e, home bits e.h, 0, rfl, rfl, HC.out, H0.out.alloc _, HB.out, (Keep.refl _ _).alloc _⟩
  case round =>
    obtain ⟨es', e', at_, far, rfl, rfl, hK, hT, hBx, hM⟩ := hrel
    have hlen := hK.len
    have hat := hK.at_lt
    obtain ⟨C, hC1, hC2, z1, z2, n1, n2, c0, c1, c2, c3, s0, s1, s2, s3, f1, f2⟩ := hT.open (i := at_) (by omega)
    obtain ⟨z3, b0, b1, b2, b3, f3⟩ := hBx.four
    rw [hlen] at c0 hC1
    have n3 : bt ≠ w.heap.size := by omega
    have n4 : bs ≠ w.heap.size := by omega
    have n5 : w.heap.size ≠ bt := by omega
    have n6 : w.heap.size ≠ bs := by omega
    have hfar : far < N := by rw [hK.far_eq]; exact way_lt hK.home_lt hat
    have hat0 : 0 ≤ (at_ : Int) := by omega
    have hat1 : (at_ : Int) < N := by omega
    have HK := hid hK
    have HT := hid hT
    have HBx := hid hBx
    have HM := hid hM
    have Hlen := hid hlen
    clear hK hT hBx hM hlen
    by_cases hE : (gt es' at_).a = 0
    · have hEb : ((gt es' at_).a == 0) = true := by simp [hE]
      have hf : (gt es' at_).full = false := by simp [Ent.full, hE]
      have Hf := hid hf
      clear hE hf
      go_wp2_with (first | (go_at_call 51; refine (empty_any _ _ _ _ _).mono ?_; rintro e w' ⟨rfl, rfl⟩))
      go_region
      go_wp2
      refine bodyPost_ret (v := .tuple #[]) (by simp [results, Try.results65, go_sem]) rfl ?_
      have hlt : at_ < es'.length := by have := Hlen.out; omega
      have hD := HK.out.done Hf.out
      exact ⟨rfl, ((((HM.out.set4 (fun _ => .inr rfl) _ _ _ _ _ _ _ _).setCell _ _ (fun _ => .inl rfl)).alloc _).drew), _, (((HT.out.set4 hlt e').setN (n + 1)).alloc _).drew, hD.1, hD.2.1, hD.2.2⟩
    · have hEb : ((gt es' at_).a == 0) = false := by simp [hE]
      have hf : (gt es' at_).full = true := by simp [Ent.full, hE]
      have hg := HK.out.homes at_ hat hf
      obtain ⟨g1, g2, _⟩ := HK.out.oks at_ hat hf
      have Hf := hid hf
      have hwy : way N (home bits (gt es' at_).h) at_ < N := way_lt hg hat
      have hlt : at_ < es'.length := by have := Hlen.out; omega
      clear hE hf
      by_cases hs : way N (home bits (gt es' at_).h) at_ < far ∨ way N (home bits (gt es' at_).h) at_ = far ∧ e'.h < (gt es' at_).h
      · have Hs := hid (HK.out.swap Hf.out (by omega))
        have Hdown := hid (way_down hat HK.out.free_lt (HK.out.ne Hf.out))
        have hd1 : decide (way N (home bits (gt es' at_).h) at_ < far) = true ∨ decide (way N (home bits (gt es' at_).h) at_ < far) = false ∧ (((way N (home bits (gt es' at_).h) at_ : Nat) : Int) == (far : Int)) = true ∧ decide (e'.h < (gt es' at_).h) = true := by
          rcases hs with h | h
          · left; simpa using h
          · right; refine ⟨by simp; omega, by simp; omega, by simpa using h.2⟩
        clear hs
        rcases hd1 with hd1 | ⟨hd1, hd2, hd3⟩
        all_goals
          go_wp2_with (first | (go_at_call 51; refine (empty_any _ _ _ _ _).mono ?_; rintro e w' ⟨rfl, rfl⟩) | (go_at_call 57; refine (dist_any bt bs bits N C _ (gt es' at_).h _ (by go_simp) (by go_simp) (by omega) hN2 hat hb hb2 g1 g2 hg (by go_simp)).mono ?_; rintro e w' ⟨rfl, nd, rfl⟩))
          go_quiet (fail)
          go_wp2
          go_region
          go_wp2_with (first | (go_at_call 56; refine (next_any bt bs N C _ _ (by go_simp) (by omega) hN2 hat).mono ?_; rintro e w' ⟨rfl, rfl⟩))
          exact ⟨⟨es'.set at_ e', gt es' at_, nx N at_, way N (home bits (gt es' at_).h) at_ + 1, rfl, by go_num, Hs.out, (((HT.out.alloc _).drewN _).set4 hlt e').other4 n3 n4 _ _ _ _ _ _ _ _,
            Blk.setE (((HBx.out.alloc _).drewN _).other4 n6 _ _ _ _ _ _ _ _) _, (((HM.out.alloc _).drewN _).set4 (fun _ => .inr rfl) _ _ _ _ _ _ _ _).set4 (fun h => absurd h (Nat.lt_irrefl _)) _ _ _ _ _ _ _ _⟩, by simp [intOf]; have := Hdown.out; omega⟩
      · have hpass : far ≤ way N (home bits (gt es' at_).h) at_ := by omega
        have Hs := hid (HK.out.pass Hf.out hpass)
        have Hdown := hid (way_down hat HK.out.free_lt (HK.out.ne Hf.out))
        have hd1 : decide (way N (home bits (gt es' at_).h) at_ < far) = false ∧ ((((way N (home bits (gt es' at_).h) at_ : Nat) : Int) == (far : Int)) = false ∨ (((way N (home bits (gt es' at_).h) at_ : Nat) : Int) == (far : Int)) = true ∧ decide (e'.h < (gt es' at_).h) = false) := by
          refine ⟨by simp; omega, ?_⟩
          by_cases he : way N (home bits (gt es' at_).h) at_ = far
          · right; refine ⟨by simp; omega, by simp; omega⟩
          · left; simp; omega
        clear hs hpass
        obtain ⟨hd1, hd2 | ⟨hd2, hd3⟩⟩ := hd1
        all_goals
          go_wp2_with (first | (go_at_call 51; refine (empty_any _ _ _ _ _).mono ?_; rintro e w' ⟨rfl, rfl⟩) | (go_at_call 57; refine (dist_any bt bs bits N C _ (gt es' at_).h _ (by go_simp) (by go_simp) (by omega) hN2 hat hb hb2 g1 g2 hg (by go_simp)).mono ?_; rintro e w' ⟨rfl, nd, rfl⟩))
          go_quiet (fail)
          go_wp2_with (first | (go_at_call 56; refine (next_any bt bs N C _ _ (by go_simp) (by omega) hN2 hat).mono ?_; rintro e w' ⟨rfl, rfl⟩))
          exact ⟨⟨es', e', nx N at_, far + 1, rfl, by go_num, Hs.out, (HT.out.alloc _).drewN _, (HBx.out.alloc _).drewN _, (HM.out.alloc _).drewN _⟩, by simp [intOf]; have := Hdown.out; omega⟩
end Go.Proofs.Ytaijfgajcmopfaa.W3
/- Clone, Layout, Fork, New. -/
set_option linter.unusedVariables false
namespace Go.Proofs.Ytaijfgajcmopfaa.W4
open Go.RowKit V Rh T W1 W2

theorem info27 : (Try.prog.info? 27).map (fun i => (i.zero, i.size, i.bytes)) = some (some zE, 4, 32) := by kernel_rfl

theorem load_entry {w : World} {b : Nat} {e : Ent} {t : TypeId} (h : Blk w b (cellsE e) t) : (loadVar 27 ⟨b, 0, none⟩).run Try.prog w = .ok (valE e) w :=
  run_loadVar_row w b t 27 (cellsE e).toArray (0, 0) _ h Try.underlying27 rfl (by
    obtain ⟨i0, hi, hz0, hz1, hz2⟩ := info_parts info27
    rw [hi]
    exact congrArg some hz1)
/-- results that lie in a cell, and others -/
theorem res_e {fn : Func} {p : Tmp} (h : fn.results = #[.cell p 27]) (tmps : Array Value) {w : World} {b : Nat} {e : Ent} {t : TypeId} (hp : tmps.getD p undef = .pointer (some ⟨b, 0, none⟩)) (hb : Blk w b (cellsE e) t) :
    (results fn tmps).run Try.prog w = .ok (valE e) w := by
  have hp' : tmps[p]?.getD undef = .pointer (some ⟨b, 0, none⟩) := by simpa using hp
  simp [results, h, hp', asAddr, load_entry hb]
theorem res_eu {fn : Func} {p u : Tmp} (h : fn.results = #[.cell p 27, .tmp u]) (tmps : Array Value) {w : World} {b : Nat} {e : Ent} {t : TypeId} {x : Value} (hp : tmps.getD p undef = .pointer (some ⟨b, 0, none⟩)) (hu : tmps.getD u undef = x) (hb : Blk w b (cellsE e) t) :
    (results fn tmps).run Try.prog w = .ok (.tuple #[valE e, x]) w := by
  have hp' : tmps[p]?.getD undef = .pointer (some ⟨b, 0, none⟩) := by simpa using hp
  have hu' : tmps[u]?.getD undef = x := by simpa using hu
  simp [results, h, hp', hu', asAddr, load_entry hb]
theorem res_euv {fn : Func} {p u v : Tmp} (h : fn.results = #[.cell p 27, .tmp u, .tmp v]) (tmps : Array Value) {w : World} {b : Nat} {e : Ent} {t : TypeId} {x y : Value} (hp : tmps.getD p undef = .pointer (some ⟨b, 0, none⟩)) (hu : tmps.getD u undef = x) (hv : tmps.getD v undef = y) (hb : Blk w b (cellsE e) t) :
    (results fn tmps).run Try.prog w = .ok (.tuple #[valE e, x, y]) w := by
  have hp' : tmps[p]?.getD undef = .pointer (some ⟨b, 0, none⟩) := by simpa using hp
  have hu' : tmps[u]?.getD undef = x := by simpa using hu
  have hv' : tmps[v]?.getD undef = y := by simpa using hv
  simp [results, h, hp', hu', hv', asAddr, load_entry hb]

theorem clone_any (b off n c : Nat) (news : List Value) (w : World) (hl : news.length = n * 4) (hn : n ≤ 65536) (hnews : ∀ j u, news[j]? = some u → w.cell? ⟨b, off + j, none⟩ = some u) (h1 : ∀ u ∈ news, u.oneCell' = true) :
    Calls Try.prog 62 #[.slice (some ⟨b, off, none⟩) n c] w fun e w' => ∃ v, e = .returned v ∧ v ≠ .slice none 0 0 ∧ w'.ownsRow w.heap.size 27 4 v n news ∧ Keep No w w' := by
  obtain ⟨i0, hi, hz0, hz1, hz2⟩ := info_parts info27
  have hq : ∀ W : World, (binOp .eql 39 (.slice (some ⟨b, off, none⟩) n c) (.slice none 0 0)).run Try.prog W = .ok (.bool false) W := fun W => by kernel_rfl
  have HN := hid hnews
  have H1 := hid h1
  clear hnews h1
  go_enter Try.func62, Try.ntmps62
  go_wp2_with (at_builtin; refine wpList_append_own_at _ rfl (.tmp 5) (.tmp 6) 39 rfl w.heap.size 27 i0 zE 4 32 Try.underlying39 hi hz0 hz1 hz2 rfl (by decide) (.slice (some ⟨w.heap.size, 0, none⟩) 0 0) 0 [] rfl (World.ownsRow_lit w #[] 0 (Nat.le_refl _) (by decide) rfl) ⟨b, off, none⟩ n c news rfl hl ?c1 H1.out ?c2 ?c3 ?c4 ?c5)
  case c1 =>
    intro j u hu
    have := HN.out j u hu
    rw [add_at, World.cell?_alloc_lt _ _ _ (cell_lt this)]
    exact this
  case c2 => unfold maxLen; omega
  case c3 => omega
  case c4 => simp
  case c5 =>
    intro v' w' h1 h2 h3 h4
    have h3' : Hid (v' ≠ .slice none 0 0) := h3
    have H4 := hid h4
    have H2 := hid h2
    have H1' := hid h1
    clear h1 h2 h3 h4
    go_wp2
    go_ret
    exact ⟨v', rfl, h3'.out, by simpa using H1'.out, ((Keep.refl _ _).alloc _).grown H2.out (fun k e h => by simp [Value.ownBlock] at e; omega)⟩

theorem flat_one (es : List Ent) : ∀ u ∈ flat es, u.oneCell' = true := by
  intro u hu
  unfold flat at hu
  rw [List.mem_flatMap] at hu
  obtain ⟨e, _, he⟩ := hu
  simp only [cellsE, List.mem_cons, List.not_mem_nil, or_false] at he
  rcases he with rfl | rfl | rfl | rfl <;> rfl

theorem layout_any (bt bs bits most n : Nat) (es L : List Ent) (w : World) (hT : Tab w bt bs bits most es n) (hI : TInv bits most es L) :
    Calls Try.prog 50 #[.pointer (some ⟨bt, 0, none⟩)] w fun e w' => ∃ v, e = .returned v ∧ v ≠ .slice none 0 0 ∧ w'.ownsRow w.heap.size 27 4 v es.length (flat es) ∧ Keep No w w' := by
  obtain ⟨C, hC, hC2, c0, c1, c2, c3⟩ := hT.cells
  have hl : 0 < es.length := by rw [hI.len]; have := hI.n_pos; omega
  obtain ⟨xs, hS⟩ := hT.slots
  have hc := clone_any bs 0 es.length C (flat es) w (by rw [flat_length]; omega) (by rw [hI.len]; exact hI.n_le) (fun j u hu => by rw [Nat.zero_add, hS.cell, List.getElem?_append_left (by have := (List.getElem?_eq_some_iff.1 hu).1; exact this)]; exact hu) (flat_one es)
  clear hT hI hS
  go_enter Try.func50, Try.ntmps50
  go_wp2_with (first | (go_at_call 61; refine (made_any _ _ _ _ _ c0 hl).mono ?_; rintro e w' ⟨rfl, rfl⟩) | (go_at_call 62; refine hc.mono ?_; rintro e w' ⟨v, rfl, hv, ho, hk⟩))
  go_ret
  exact ⟨v, rfl, hv, ho, hk⟩

theorem fork_any (bt bs bits most n : Nat) (es L : List Ent) (w : World) (hT : Tab w bt bs bits most es n) (hI : TInv bits most es L) :
    Calls Try.prog 42 #[.pointer (some ⟨bt, 0, none⟩)] w fun e w' => ∃ bt' bs', e = .returned (.pointer (some ⟨bt', 0, none⟩)) ∧ w.heap.size ≤ bt' ∧ w.heap.size ≤ bs' ∧ Tab w' bt' bs' bits most es n ∧ Keep No w w' := by
  have H0 := hid hT
  obtain ⟨C, hC, hC2, c0, c1, c2, c3⟩ := hT.cells
  have hl : 0 < es.length := by rw [hI.len]; have := hI.n_pos; omega
  obtain ⟨xs, hS⟩ := hT.slots
  have hc : ∀ W, Keep No w W → Calls Try.prog 62 #[.slice (some ⟨bs, 0, none⟩) es.length C] W fun e w' => ∃ v, e = .returned v ∧ v ≠ .slice none 0 0 ∧ w'.ownsRow W.heap.size 27 4 v es.length (flat es) ∧ Keep No W w' := fun W hW =>
    clone_any bs 0 es.length C (flat es) W (by rw [flat_length]; omega) (by rw [hI.len]; exact hI.n_le) (fun j u hu => by rw [Nat.zero_add, (hS.mod hW (no _)).cell, List.getElem?_append_left (by have := (List.getElem?_eq_some_iff.1 hu).1; exact this)]; exact hu) (flat_one es)
  have hz := hT.lt.1
  clear hT hI hS
  go_enter Try.func42, Try.ntmps42
  go_wp2_with (first | (go_at_call 61; refine (made_any _ _ _ _ _ c0 hl).mono ?_; rintro e w' ⟨rfl, rfl⟩) | (go_at_call 62; refine (hc _ ((Keep.refl _ _).alloc _)).mono ?_; rintro e w' ⟨v, rfl, hv, ho, hk⟩; obtain ⟨g, cap, rest, rfl, hg1, hg2, hg3, hgb, hgl⟩ := own_blk ho hv; have hBx := (Blk.new' (w := w) (cl := [.slice (some ⟨bs, 0, none⟩) es.length C, .int .i64 bits, .int .i64 most, .int .i64 n]) 90 rfl).mod hk (no _); obtain ⟨z0, b0, b1, b2, b3, bf⟩ := hBx.four; have HBx := hid hBx; have HGB := hid hgb; have HK := hid hk; have HGL := hid hgl; clear hBx hgb hk hgl ho hv))
  go_ret
  have hgg : w.heap.size < g := by simp at hg1; omega
  exact ⟨w.heap.size, g, rfl, Nat.le_refl _, by omega, ⟨⟨cap, hg2, Nat.zero_le _, HBx.out.set 0 _⟩, ⟨rest, HGB.out.other _ _ (by simp; omega)⟩, by omega⟩, (((Keep.refl No w).alloc _).trans HK.out (fun _ _ h => h)).setCell _ _ (fun h => absurd h (Nat.lt_irrefl _))⟩

theorem fork_nil (w : World) : Calls Try.prog 42 #[.pointer none] w fun e w' => e = .returned (.pointer none) ∧ w = w' := by
  go_enter Try.func42, Try.ntmps42
  go_wp2_with (go_at_call 61; refine (made_nil _).mono ?_; rintro e w' ⟨rfl, rfl⟩)
  go_ret
  exact ⟨rfl, rfl⟩
theorem layout_nil (w : World) : Calls Try.prog 50 #[.pointer none] w fun e w' => e = .returned (.slice none 0 0) ∧ w = w' := by
  go_enter Try.func50, Try.ntmps50
  go_wp2_with (go_at_call 61; refine (made_nil _).mono ?_; rintro e w' ⟨rfl, rfl⟩)
  go_ret
  exact ⟨rfl, rfl⟩

/-- what New refuses -/
def badB (bits most : Int) : Prop := bits < 2 ∨ most < bits ∨ 16 < most
theorem new_bad (bits most : Int) (w : World) (h : badB bits most) :
    Calls Try.prog 58 #[.int .i64 bits, .int .i64 most] w fun e w' => e = .returned (.tuple #[.pointer none, .int .i64 110]) ∧ w = w' := by
  have h' : decide (bits < 2) = true ∨ decide (bits < 2) = false ∧ (decide (most < bits) = true ∨ decide (most < bits) = false ∧ decide (16 < most) = true) := by
    unfold badB at h
    simp
    omega
  clear h
  rcases h' with h | ⟨h, h1 | ⟨h1, h2⟩⟩
  all_goals
    go_enter Try.func58, Try.ntmps58
    go_wp2
    go_ret2
    exact ⟨rfl, rfl⟩

theorem rh_zero {bits N : Nat} : RH bits N (List.replicate N z) := by
  intro i hi
  have : ∀ j, (gt (List.replicate N z) j).full = false := by
    intro j
    unfold gt
    rw [List.getD_eq_getElem?_getD, List.getElem?_replicate]
    split <;> rfl
  rw [dd_eq, dd_eq, ddOf, ddOf, this, this]
  simp
theorem there_zero (N : Nat) : there (List.replicate N z) = [] := by
  unfold there
  rw [List.filter_eq_nil_iff]
  intro a ha
  rw [(List.mem_replicate.1 ha).2]
  decide
theorem tinv_new {bits most : Nat} (hb : 2 ≤ bits) (hm : bits ≤ most) (h16 : most ≤ 16) : TInv bits most (List.replicate (2 ^ bits) z) [] :=
  ⟨hb, hm, h16, by simp, rh_zero, by rw [there_zero], List.Pairwise.nil, by simp, by simp⟩
theorem flat_zero (N : Nat) : flat (List.replicate N z) = (List.replicate N [Value.int .u64 0, .int .u64 0, .int .u64 0, .int .u8 0]).flatten := by
  unfold flat
  rw [List.flatMap_def, List.map_replicate]
  rfl

theorem make_entries (N : Nat) (hN : N ≤ 131072) (W : World) : (Instr.makeSlice 39 (.int .i64 (N : Int)) (.int .i64 (N : Int))).run Try.prog W = .ok (.slice (some ⟨W.heap.size, 0, none⟩) N N) (W.alloc (.cells (madeCells #[.int .u64 0, .int .u64 0, .int .u64 0, .int .u8 0] (N * 4)) 27)) := by
  obtain ⟨i0, hi, hz0, hz1, hz2⟩ := info_parts info27
  have := run_make W 39 27 i0 zE Try.underlying39 hi hz0 .i64 .i64 N N (by omega) (by omega) (by rw [hz2]; omega) (by omega)
  rw [this, hz1]
  rfl
theorem made_flat (N : Nat) : madeCells #[.int .u64 0, .int .u64 0, .int .u64 0, .int .u8 0] (N * 4) = (flat (List.replicate N z)).toArray := by
  apply Array.toList_inj.1
  unfold madeCells
  rw [Array.toList_map, Array.toList_range]
  show _ = flat (List.replicate N z)
  induction N with
  | zero => rfl
  | succ N ih =>
    rw [List.replicate_succ', show (N + 1) * 4 = N * 4 + 4 by omega, List.range_add, List.map_append, ih]
    unfold flat
    rw [List.flatMap_append]
    congr 1
    simp only [List.range_succ, List.range_zero, List.nil_append, List.map_cons, List.map_nil, List.cons_append, List.flatMap_cons, List.flatMap_nil, List.append_nil]
    have h0 : (N * 4 + 0) % 4 = 0 := by omega
    have h1 : (N * 4 + 1) % 4 = 1 := by omega
    have h2 : (N * 4 + 2) % 4 = 2 := by omega
    have h3 : (N * 4 + 3) % 4 = 3 := by omega
    show [(#[Value.int .u64 0, .int .u64 0, .int .u64 0, .int .u8 0] : Array Value)[(N * 4 + 0) % 4]!, (#[Value.int .u64 0, .int .u64 0, .int .u64 0, .int .u8 0] : Array Value)[(N * 4 + 1) % 4]!, (#[Value.int .u64 0, .int .u64 0, .int .u64 0, .int .u8 0] : Array Value)[(N * 4 + 2) % 4]!, (#[Value.int .u64 0, .int .u64 0, .int .u64 0, .int .u8 0] : Array Value)[(N * 4 + 3) % 4]!] = _
    rw [h0, h1, h2, h3]
    rfl

set_option maxRecDepth 100000 in
theorem new_any (bits most : Nat) (w : World) (hb : 2 ≤ bits) (hm : bits ≤ most) (h16 : most ≤ 16) :
    Calls Try.prog 58 #[.int .i64 bits, .int .i64 most] w fun e w' => ∃ bt bs, e = .returned (.tuple #[.pointer (some ⟨bt, 0, none⟩), .int .i64 0]) ∧ w.heap.size ≤ bt ∧ w.heap.size ≤ bs ∧ Tab w' bt bs bits most (List.replicate (2 ^ bits) z) 0 ∧ Keep No w w' := by
  have h1 : decide ((bits : Int) < 2) = false := by simp; omega
  have h2 : decide ((most : Int) < (bits : Int)) = false := by simp; omega
  have h3 : decide ((16 : Int) < (most : Int)) = false := by simp; omega
  have h4 := pow_le16 (Nat.le_trans hm h16)
  have h5 : wrap64 (2 ^ bits) = ((2 ^ bits : Nat) : Int) := by
    rw [show (2 : Int) ^ bits = ((2 ^ bits : Nat) : Int) by simp]
    generalize 2 ^ bits = m at h4 ⊢
    unfold wrap64
    omega
  have h6 : ∀ W : World, (Instr.makeSlice 39 (.int .i64 (wrap64 (2 ^ bits))) (.int .i64 (wrap64 (2 ^ bits)))).run Try.prog W = .ok (.slice (some ⟨W.heap.size, 0, none⟩) (2 ^ bits) (2 ^ bits)) (W.alloc (.cells (madeCells #[.int .u64 0, .int .u64 0, .int .u64 0, .int .u8 0] (2 ^ bits * 4)) 27)) := fun W => by rw [h5]; exact make_entries (2 ^ bits) (by omega) W
  clear h5
  generalize (2 : Nat) ^ bits = N at *
  rw [made_flat] at h6
  have hF := flat_length (List.replicate N z)
  rw [List.length_replicate] at hF
  have hl : (List.replicate N z).length = N := List.length_replicate
  have HL := hid hl
  clear hl hF h4
  generalize List.replicate N z = es at *
  go_enter Try.func58, Try.ntmps58
  go_wp2
  go_ret2
  refine ⟨w.heap.size + 1, w.heap.size, rfl, by omega, Nat.le_refl _, ⟨⟨N, by rw [HL.out]; exact Nat.le_refl _, Nat.zero_le _, ?_⟩, ⟨[], ?_⟩, by omega⟩, ((Keep.refl _ _).alloc _).alloc _⟩
  · have h7 : w.heap.size + 1 = (w.alloc (.cells (flat es).toArray 27)).heap.size := by simp
    rw [h7, HL.out]
    exact Blk.new' _ rfl
  · rw [List.append_nil]
    exact (Blk.new' _ rfl).alloc _
end Go.Proofs.Ytaijfgajcmopfaa.W4
/- grow, Put, Remove. -/
set_option linter.unusedVariables false
namespace Go.Proofs.Ytaijfgajcmopfaa.W5
open Go.RowKit V Rh T W1 W2 W3 W4

theorem oks_of {es L : List Ent} (hp : ∀ e ∈ there es, e.ok) : ∀ i, i < es.length → (gt es i).full = true → (gt es i).ok := fun i hi hf => hp _ (mem_there hi hf)
theorem there_take_succ {es : List Ent} {k : Nat} (hk : k < es.length) : there (es.take (k + 1)) = there (es.take k) ++ if (gt es k).full then [gt es k] else [] := by
  rw [List.take_succ_eq_append_getElem hk, ← gt_of_lt hk]
  unfold there
  rw [List.filter_append, List.filter_cons, List.filter_nil]
theorem there_take_le {es : List Ent} (k : Nat) : (there (es.take k)).length ≤ (there es).length := by
  unfold there
  exact ((List.take_sublist k es).filter _).length_le
theorem there_take_mem {es : List Ent} {k : Nat} {e : Ent} (h : e ∈ there (es.take k)) : e ∈ there es := by
  unfold there at h ⊢
  rw [List.mem_filter] at h ⊢
  exact ⟨List.mem_of_mem_take h.1, h.2⟩

/-- what grow's loop keeps -/
structure Growing (bits most : Nat) (es : List Ent) (bt bs' : Nat) (wr : World) (k : Nat) (es' : List Ent) (m : Nat) : Prop where
  tab : Tab wr bt bs' (bits + 1) most es' m
  len : es'.length = 2 ^ (bits + 1)
  rh : RH (bits + 1) (2 ^ (bits + 1)) es'
  perm : (there es').Perm (there (es.take k))
  num : m = (there (es.take k)).length

set_option maxRecDepth 100000 in
set_option maxHeartbeats 1000000 in
theorem grow_any (bt bs bits most n : Nat) (es L : List Ent) (w : World) (hT : Tab w bt bs bits most es n) (hI : TInv bits most es L) (hm : bits < most) :
    Calls Try.prog 64 #[.pointer (some ⟨bt, 0, none⟩)] w fun e' w' => e' = .returned (.tuple #[]) ∧ Keep (fun k => k = bt) w w' ∧ ∃ bs' es', w.heap.size ≤ bs' ∧ Tab w' bt bs' (bits + 1) most es' L.length ∧ TInv (bits + 1) most es' L := by
  have H0 := hid hT
  have HI := hid hI
  obtain ⟨hz1, hz2⟩ := hT.lt
  have n1 := hT.ne
  have n2 : bs ≠ bt := fun e => n1 e.symm
  obtain ⟨C, hC, c⟩ := hT.head
  obtain ⟨hC1, cb⟩ := c
  obtain ⟨_, c0, c1, c2, c3, cf⟩ := cb.four
  have CB := hid cb
  have hl := hI.len
  have hN2 := hI.n_le
  have hN4 := pow_le16 (show bits + 1 ≤ 16 by have := hI.m16; omega)
  have h5 : wrap64 (2 ^ (bits + 1)) = ((2 ^ (bits + 1) : Nat) : Int) := by
    rw [show (2 : Int) ^ (bits + 1) = ((2 ^ (bits + 1) : Nat) : Int) by simp]
    generalize 2 ^ (bits + 1) = m at hN4 ⊢
    unfold wrap64
    omega
  have h6 : ∀ W : World, (Instr.makeSlice 39 (.int .i64 (wrap64 (2 ^ (bits + 1)))) (.int .i64 (wrap64 (2 ^ (bits + 1))))).run Try.prog W = .ok (.slice (some ⟨W.heap.size, 0, none⟩) (2 ^ (bits + 1)) (2 ^ (bits + 1))) (W.alloc (.cells (flat (List.replicate (2 ^ (bits + 1)) z)).toArray 27)) := fun W => by rw [h5, ← made_flat]; exact make_entries (2 ^ (bits + 1)) (by omega) W
  clear h5
  rw [← hl] at hN2
  have hb := hI.b2
  have hb2 : bits ≤ 16 := by have := hI.bm; have := hI.m16; omega
  generalize hM : (2 : Nat) ^ (bits + 1) = M at *
  have HM := hid hM
  clear hT hI hM hl cb
  go_enter Try.func64, Try.ntmps64
  go_wp2
  go_loopw [30] (fun i wr => ∃ (k : Nat) (es' : List Ent) (m : Nat), i = .int .i64 k ∧ k ≤ es.length ∧ Growing bits most es bt w.heap.size wr k es' m ∧ Keep (fun k => k = bt) w wr) (fun i _ => es.length - (intOf i).toNat)
  case atStart =>
    have hM := HM.out
    refine ⟨0, List.replicate M z, 0, rfl, Nat.zero_le _, ⟨⟨⟨M, by simp, Nat.zero_le _, ?_⟩, ⟨[], ?_⟩, by omega⟩, by simp [hM], by rw [hM]; exact rh_zero, by rw [there_zero]; exact List.Perm.refl _, rfl⟩, (((Keep.setCell (Keep.refl (fun k => k = bt) w) _ _ (fun _ => rfl)).setCell _ _ (fun _ => rfl)).setCell _ _ (fun _ => rfl)).alloc _⟩
    · rw [List.length_replicate]
      exact (((CB.out.set 1 _).set 0 _).set 3 _).alloc _
    · rw [List.append_nil]
      have e1 : w.heap.size = (((w.setCell ⟨bt, 1, none⟩ (.int .i64 ((bits : Int) + 1))).setCell ⟨bt, 0, none⟩ (.slice (some ⟨w.heap.size, 0, none⟩) M M)).setCell ⟨bt, 3, none⟩ (.int .i64 0)).heap.size := by simp
      have := Blk.new (((w.setCell ⟨bt, 1, none⟩ (.int .i64 ((bits : Int) + 1))).setCell ⟨bt, 0, none⟩ (.slice (some ⟨w.heap.size, 0, none⟩) M M)).setCell ⟨bt, 3, none⟩ (.int .i64 0)) (flat (List.replicate M z)) 27
      rw [← e1] at this
      exact this
  case round =>
    obtain ⟨k, es', m, rfl, hk, hG, hKp⟩ := hrel
    have HK := hid hKp
    by_cases hlt : k < es.length
    · obtain ⟨xs, hS⟩ := H0.out.slots
      have hS1 := hS.mod hKp n2
      obtain ⟨s0, s1, s2, s3⟩ := slot hS1 hlt
      have hz3 := hS1.lt
      have hok : (gt es k).full = true → (gt es k).ok := fun hf => by
        have h1 := HI.out
        exact (h1.ok _ (h1.mem (by rw [← h1.len]; exact hlt) hf)).1
      have HG := hid hG
      have Hst := hid (there_take_succ hlt)
      clear hS hS1 hG hKp
      by_cases hE : (gt es k).a = 0
      · have hEb : ((gt es k).a == 0) = true := by simp [hE]
        have hf : (gt es k).full = false := by simp [Ent.full, hE]
        have Hf := hid hf
        clear hE hf hok
        go_wp2_with (first | (go_at_call 51; refine (empty_any _ _ _ _ _).mono ?_; rintro e w' ⟨rfl, rfl⟩))
        have e2 : there (es.take (k + 1)) = there (es.take k) := by rw [Hst.out, Hf.out]; simp
        exact ⟨⟨k + 1, es', m, by go_num, hlt, ⟨(HG.out.tab.alloc _).alloc _, HG.out.len, HG.out.rh, by rw [e2]; exact HG.out.perm, by rw [e2]; exact HG.out.num⟩, (HK.out.alloc _).alloc _⟩, by simp [intOf]; omega⟩
      · have hEb : ((gt es k).a == 0) = false := by simp [hE]
        have hf : (gt es k).full = true := by simp [Ent.full, hE]
        have hok := hok hf
        have hI := HI.out
        have hG := HG.out
        have hmem : ∀ x ∈ there es', x.ok := fun x hx => by
          have h1 := there_take_mem (hG.perm.mem_iff.1 hx)
          exact (hI.ok _ (hI.perm.mem_iff.1 h1)).1
        have hlen : (there es').length < 2 ^ (bits + 1) := by
          rw [hG.perm.length_eq]
          have h1 := there_take_le (es := es) k
          rw [hI.perm.length_eq] at h1
          have h2 := hI.room
          have h3 := hI.n_pos
          rw [Nat.pow_succ]
          omega
        obtain ⟨q, hq, hqf⟩ := exists_free hG.len hlen
        have hoks : ∀ i, i < 2 ^ (bits + 1) → (gt es' i).full = true → (gt es' i).ok := fun i hi hf => hmem _ (mem_there (by rw [hG.len]; exact hi) hf)
        have hC : Carry (bits + 1) (2 ^ (bits + 1)) es' (gt es k) q es' (gt es k) (home (bits + 1) (gt es k).h) 0 :=
          Carry.start hG.len hG.rh hf (home_lt (by omega) hok.1 hok.2.1) hq hqf (fun i hi hf => home_lt (by omega) (hoks i hi hf).1 (hoks i hi hf).2.1) hoks hok
        have hmn : m ≤ 65536 := by
          rw [hG.num]
          have h1 := there_take_le (es := es) k
          rw [hI.perm.length_eq] at h1
          have := hI.room
          have := hI.n_le
          omega
        have hlay : ∀ W, Keep No wr W → Calls Try.prog 65 #[.pointer (some ⟨bt, 0, none⟩), .agg #[.int .u64 (gt es k).h, .int .u64 (gt es k).a, .int .u64 (gt es k).v, .int .u8 (gt es k).c]] W fun e' w' => e' = .returned (.tuple #[]) ∧ Keep (At bt w.heap.size) W w' ∧ ∃ es'', Tab w' bt w.heap.size (bits + 1) most es'' (m + 1) ∧ es''.length = 2 ^ (bits + 1) ∧ RH (bits + 1) (2 ^ (bits + 1)) es'' ∧ (there es'').Perm (gt es k :: there es') :=
          fun W hW => lay_any bt w.heap.size (bits + 1) most m es' (gt es k) q W (hG.tab.mod hW (no _) (no _)) (by omega) (by have := hI.m16; omega) hG.len hmn hC
        have Hf := hid hf
        clear hE hf hI hG hmem hlen hoks hC hq hqf hmn
        go_wp2_with (first | (go_at_call 51; refine (empty_any _ _ _ _ _).mono ?_; rintro e w' ⟨rfl, rfl⟩) | (go_at_call 65; refine (hlay _ (((Keep.refl _ _).alloc _).alloc _)).mono ?_; rintro e w' ⟨rfl, hk1, hex⟩; have Hex := hid hex; have Hk1 := hid hk1; clear hex hk1))
        obtain ⟨es'', g1, g2, g3, g4⟩ := Hex.out
        have e2 : there (es.take (k + 1)) = there (es.take k) ++ [gt es k] := by rw [Hst.out, Hf.out]; simp
        refine ⟨⟨k + 1, es'', m + 1, by go_num, hlt, ⟨g1, g2, g3, ?_, ?_⟩, Keep.trans ((HK.out.alloc _).alloc _) Hk1.out ?_⟩, by simp [intOf]; omega⟩
        · rw [e2]
          exact g4.trans ((HG.out.perm.cons _).trans (List.perm_append_singleton _ _).symm)
        · rw [e2, HG.out.num]; simp
        · rintro i hi (h | h)
          · exact h
          · omega
    · have hke : k = es.length := by omega
      have hI := HI.out
      have hlast : TInv (bits + 1) most es' L ∧ m = L.length := by
        have h1 : es.take k = es := by rw [hke]; exact List.take_length
        have h2 := hG.perm
        have h3 := hG.num
        rw [h1] at h2 h3
        have h4 := two_le_pow hI.b2
        have h5 : 2 ^ (bits + 1) = 2 * 2 ^ bits := by rw [Nat.pow_succ]; omega
        have h6 := hI.room
        exact ⟨⟨by omega, hm, hI.m16, hG.len, hG.rh, h2.trans hI.perm, hI.sorted, by rw [h5]; omega, hI.ok⟩, by rw [h3, hI.perm.length_eq]⟩
      have HL := hid hlast
      have HG := hid hG
      clear hlast hG hKp hI hke
      go_wp2
      exact bodyPost_end (v := .tuple #[]) (by simp [results, Try.results64, go_sem]) rfl ⟨rfl, HK.out, w.heap.size, es', Nat.le_refl _, by rw [← HL.out.2]; exact HG.out.tab, HL.out.1⟩
end Go.Proofs.Ytaijfgajcmopfaa.W5
/- Put, Remove. -/
set_option linter.unusedVariables false
namespace Go.Proofs.Ytaijfgajcmopfaa.W6
open Go.RowKit V Rh T W1 W2 W3 W4 W5

/-- what a Put of an entry that may be comes to -/
def putR (most : Nat) (e : Ent) (L : List Ent) : Option Ent × Int × List Ent :=
  match lget e.h L with
  | some o => (some o, 0, lput e L)
  | none => if 7 * 2 ^ most < 8 * (L.length + 1) then (none, 2, L) else (none, 0, lput e L)

/-- a table that stands for L, in whatever slots -/
def Is (w : World) (bt bs most : Nat) (L : List Ent) : Prop := ∃ bits es, Tab w bt bs bits most es L.length ∧ TInv bits most es L

set_option maxRecDepth 100000 in
set_option maxHeartbeats 2000000 in
theorem put_any (bt bs bits most : Nat) (es L : List Ent) (e : Ent) (w : World) (hT : Tab w bt bs bits most es L.length) (hI : TInv bits most es L) (hok : e.ok) (hf : e.full = true) :
    Calls Try.prog 46 #[.pointer (some ⟨bt, 0, none⟩), valE e] w fun e' w' => e' = .returned (.tuple #[optE (putR most e L).1, .bool (putR most e L).1.isSome, .int .i64 (putR most e L).2.1]) ∧ Keep (At bt bs) w w' ∧
      ∃ bs', (bs' = bs ∨ w.heap.size ≤ bs') ∧ Is w' bt bs' most (putR most e L).2.2 := by
  have H0 := hid hT
  have HI := hid hI
  obtain ⟨C, hC, hC1, z1, z2, n1, n2, c0, c1, c2, c3, _, _, _, _, f1, f2⟩ := hT.open (i := 0) (by rw [hI.len]; have := hI.n_pos; omega)
  have hl : 0 < es.length := by rw [hI.len]; have := hI.n_pos; omega
  have hN2 := hI.n_le
  rw [← hI.len] at hN2
  have hEb : (e.a == 0) = false := by unfold Ent.full at hf; simpa using hf
  have hfind : ∀ W, Keep No w W → Calls Try.prog 55 #[.pointer (some ⟨bt, 0, none⟩), .int .u64 e.h] W fun e' w' => e' = .returned (.int .i64 (posI es e.h)) ∧ Keep No W w' := fun W hW => find_any bt bs bits most L.length es L e.h W (hT.mod hW (no _) (no _)) hI hok.1 hok.2.1
  have HB0 : Hid (Blk (((w.alloc (.cells #[.int .u64 e.h, .int .u64 e.a, .int .u64 e.v, .int .u8 e.c] 27)).alloc (.cells #[.int .u64 0, .int .u64 0, .int .u64 0, .int .u8 0] 27)).alloc (.cells #[.int .u64 e.h, .int .u64 e.a, .int .u64 e.v, .int .u8 e.c] 27)) w.heap.size [.int .u64 e.h, .int .u64 e.a, .int .u64 e.v, .int .u8 e.c] 27) := ((Blk.new' _ rfl).alloc _).alloc _
  have HB1 : Hid (Blk (((w.alloc (.cells #[.int .u64 e.h, .int .u64 e.a, .int .u64 e.v, .int .u8 e.c] 27)).alloc (.cells #[.int .u64 0, .int .u64 0, .int .u64 0, .int .u8 0] 27)).alloc (.cells #[.int .u64 e.h, .int .u64 e.a, .int .u64 e.v, .int .u8 e.c] 27)) (w.heap.size + 1) [.int .u64 0, .int .u64 0, .int .u64 0, .int .u8 0] 27) := (Blk.new1 _ rfl).alloc _
  cases hp : posOf es e.h with
  | some p =>
    rw [posI_some hp] at hfind
    have hg := hI.pos_some hp
    obtain ⟨hp1, hp2, hp3⟩ := posOf_spec hI.len hp
    rw [← hI.len] at hp1
    have hfin := hI.replace hp hf hok
    have hlen := lput_length_some hI.sorted hg
    have HF := hid hfin
    have HL := hid hlen
    have HR : Hid (putR most e L = (some (gt es p), 0, lput e L)) := by show _ = _; rw [putR, hg]
    clear hT hI hp hg hp2 hp3 hfin hlen hok hf
    unfold valE
    go_enter Try.func46, Try.ntmps46
    go_wp2_with (first | (go_at_call 61; refine (made_any bt bs es.length C _ (by go_simp) hl).mono ?_; rintro e w' ⟨rfl, rfl⟩) | (go_at_call 51; refine (empty_any _ _ _ _ _).mono ?_; rintro e w' ⟨rfl, rfl⟩) | (go_at_call 55; refine (hfind _ ((((Keep.refl _ _).alloc _).alloc _).alloc _)).mono ?_; rintro e' w1 ⟨rfl, hk⟩; have hk1 := hid (Keep.trans ((((Keep.refl No w).alloc _).alloc _).alloc _) hk (fun _ _ h => h)); obtain ⟨q0, b0, b1, b2, b3, g0⟩ := (HB0.out.mod hk (no _)).four; obtain ⟨q1, d0, d1, d2, d3, g1⟩ := (HB1.out.mod hk (no _)).four; obtain ⟨C', hC', hC1', z1', z2', _, _, c0', c1', c2', c3', s0, s1, s2, s3, f1', f2'⟩ := (H0.out.mod hk1.out (no _) (no _)).open hp1; have hd1 := hid (HB1.out.mod hk (no _)); clear hk))
    have n3 : bt ≠ w.heap.size := by omega
    have n4 : bs ≠ w.heap.size := by omega
    have n5 : bt ≠ w.heap.size + 1 := by omega
    have n6 : bs ≠ w.heap.size + 1 := by omega
    have n7 : w.heap.size + 1 ≠ bt := by omega
    have n8 : w.heap.size + 1 ≠ bs := by omega
    go_region
    go_wp2
    have HT1 := (H0.out.mod hk1.out (no _) (no _)).other4 n5 n6 0 1 2 3 (.int .u64 (gt es p).h) (.int .u64 (gt es p).a) (.int .u64 (gt es p).v) (.int .u8 (gt es p).c)
    exact bodyPost_ret (res_euv rfl _ rfl rfl rfl (Blk.setE ((Blk.setE hd1.out (gt es p)).other4 n8 _ _ _ _ _ _ _ _) (gt es p)).drew) rfl
      ⟨by rw [HR.out]; rfl, ((((hk1.out.mono (fun _ _ h => h.elim)).set4 (fun h => absurd h (by omega)) _ _ _ _ _ _ _ _).set4 (fun _ => .inr rfl) _ _ _ _ _ _ _ _).set4 (fun h => absurd h (by omega)) _ _ _ _ _ _ _ _).drew, bs, .inl rfl,
        by rw [HR.out]; exact ⟨bits, _, by rw [HL.out]; exact ((HT1.set4 hp1 e).other4 n5 n6 _ _ _ _ _ _ _ _).drew, HF.out⟩⟩
  | none =>
    rw [posI_none hp] at hfind
    have hg := hI.pos_none hp
    have hb2 : bits ≤ 16 := Nat.le_trans hI.bm hI.m16
    have hb := hI.b2
    have hLn : L.length ≤ 65536 := by have := hI.room; have := hI.n_le; omega
    have hpw : 8 * L.length ≤ 7 * es.length := by rw [hI.len]; exact hI.room
    have hllen := lput_length_none hI.sorted hg
    have hoks : ∀ i, i < 2 ^ bits → (gt es i).full = true → (gt es i).ok := fun i hi hf => (hI.ok _ (hI.mem hi hf)).1
    have HOK := hid hok
    have HFU := hid hf
    have HG := hid hg
    have HLL := hid hllen
    have HP := hid hp
    have Hoks := hid hoks
    have HBM := hid hI.bm
    have H16 := hid hI.m16
    have HLEN := hid hI.len
    clear hT hI hp hg hllen hoks hok hf
    have n5 : bt ≠ w.heap.size + 1 := by omega
    have n6 : bs ≠ w.heap.size + 1 := by omega
    by_cases hfull : 7 * es.length < 8 * (L.length + 1)
    · have hful : decide (7 * es.length < 8 * (L.length + 1)) = true := by simpa using hfull
      by_cases hbm : bits = most
      · have hbmb : ((bits : Int) == (most : Int)) = true := by simp [hbm]
        have HR : Hid (putR most e L = (none, 2, L)) := by
          show _ = _
          rw [putR, HG.out, ← hbm, ← HLEN.out]
          simp only [hfull, if_true]
        clear hfull hbm hb hb2
        unfold valE
        go_enter Try.func46, Try.ntmps46
        go_wp2_with (first | (go_at_call 61; refine (made_any bt bs es.length C _ (by go_simp) hl).mono ?_; rintro e w' ⟨rfl, rfl⟩) | (go_at_call 51; refine (empty_any _ _ _ _ _).mono ?_; rintro e w' ⟨rfl, rfl⟩) | (go_at_call 55; refine (hfind _ ((((Keep.refl _ _).alloc _).alloc _).alloc _)).mono ?_; rintro e' w1 ⟨rfl, hk⟩; have hk1 := hid (Keep.trans ((((Keep.refl No w).alloc _).alloc _).alloc _) hk (fun _ _ h => h)); obtain ⟨q1, d0, d1, d2, d3, g1⟩ := (HB1.out.mod hk (no _)).four; obtain ⟨C', hC', hC1', c0', c1', c2', c3'⟩ := (H0.out.mod hk1.out (no _) (no _)).cells; have hd1 := hid (HB1.out.mod hk (no _)); clear hk) | (go_at_call 63; refine (full_any bt bs bits most L.length es _ (H0.out.mod hk1.out (no _) (no _)) hLn hN2).mono ?_; rintro e' w2 ⟨rfl, nk, rfl⟩))
        go_quiet (fail)
        go_wp2
        exact bodyPost_ret (res_euv (e := z) rfl _ rfl rfl rfl (Blk.setE (hd1.out.drewN _) z)) rfl
          ⟨by rw [HR.out]; rfl, (((hk1.out.mono (fun _ _ h => h.elim)).drewN _).set4 (fun h => absurd h (by omega)) _ _ _ _ _ _ _ _), bs, .inl rfl,
            by rw [HR.out]; exact ⟨bits, es, (((H0.out.mod hk1.out (no _) (no _)).drewN _).other4 n5 n6 _ _ _ _ _ _ _ _), HI.out⟩⟩
      · have hbmb : ((bits : Int) == (most : Int)) = false := by simp; omega
        have hlt : bits < most := by have := HBM.out; omega
        have hroom : 8 * (L.length + 1) ≤ 7 * 2 ^ (bits + 1) ∧ 8 * (L.length + 1) ≤ 7 * 2 ^ most := by
          have h1 := HLEN.out
          have h2 := two_le_pow hb
          have h3 : 2 ^ (bits + 1) ≤ 2 ^ most := Nat.pow_le_pow_right (by decide) hlt
          have h4 : 2 ^ (bits + 1) = 2 * 2 ^ bits := by rw [Nat.pow_succ]; omega
          rw [h1] at hpw
          omega
        have HR : Hid (putR most e L = (none, 0, lput e L)) := by
          show _ = _
          rw [putR, HG.out]
          have : ¬ 7 * 2 ^ most < 8 * (L.length + 1) := by omega
          simp only [this, if_false]
        have HRM := hid hroom.1
        have H1 := hid hlt
        clear hfull hbm hb hb2 hroom hlt
        unfold valE
        go_enter Try.func46, Try.ntmps46
        go_wp2_with (first | (go_at_call 61; refine (made_any bt bs es.length C _ (by go_simp) hl).mono ?_; rintro e w' ⟨rfl, rfl⟩) | (go_at_call 51; refine (empty_any _ _ _ _ _).mono ?_; rintro e w' ⟨rfl, rfl⟩) | (go_at_call 55; refine (hfind _ ((((Keep.refl _ _).alloc _).alloc _).alloc _)).mono ?_; rintro e' w1 ⟨rfl, hk⟩; have hk1 := hid (Keep.trans ((((Keep.refl No w).alloc _).alloc _).alloc _) hk (fun _ _ h => h)); obtain ⟨q1, d0, d1, d2, d3, g1⟩ := (HB1.out.mod hk (no _)).four; obtain ⟨q0, b0, b1, b2, b3, g0⟩ := (HB0.out.mod hk (no _)).four; obtain ⟨C', hC', hC1', c0', c1', c2', c3'⟩ := (H0.out.mod hk1.out (no _) (no _)).cells; have hd1 := hid (HB1.out.mod hk (no _)); have hd0 := hid (HB0.out.mod hk (no _)); clear hk) | (go_at_call 63; refine (full_any bt bs bits most L.length es _ (H0.out.mod hk1.out (no _) (no _)) hLn hN2).mono ?_; rintro e' w2 ⟨rfl, nk, rfl⟩))
        go_quiet (fail)
        go_wp2_with fail
        refine (grow_any bt bs bits most L.length es L _ (((H0.out.mod hk1.out (no _) (no _)).drewN _)) HI.out H1.out).mono ?_
        rintro e' w3 ⟨rfl, hk3, bs', es', hbs', hT3, hI3⟩
        have n9 : w.heap.size ≠ bt := by omega
        have hT3' := hid hT3
        have hd1' := hid ((hd1.out.drewN (nk + nq)).mod hk3 (by omega))
        obtain ⟨q0', b0', b1', b2', b3', g0'⟩ := ((hd0.out.drewN (nk + nq)).mod hk3 n9).four
        have hk13 := hid (Keep.trans ((hk1.out.mono (S' := At bt bs) (fun _ _ h => h.elim)).drewN (nk + nq)) hk3 (fun i _ h => .inl h))
        have hsz : w.heap.size + 1 < bs' := by simp at hbs'; omega
        have hp3 : posOf es' e.h = none := by
          cases hc : posOf es' e.h with
          | none => rfl
          | some p => have h1 := hI3.pos_some hc; rw [HG.out] at h1; cases h1
        obtain ⟨q, hq, hqf⟩ := hI3.free
        have hok := HOK.out
        have hoks3 : ∀ i, i < 2 ^ (bits + 1) → (gt es' i).full = true → (gt es' i).ok := fun i hi hf => (hI3.ok _ (hI3.mem hi hf)).1
        have hC : Carry (bits + 1) (2 ^ (bits + 1)) es' e q es' e (home (bits + 1) e.h) 0 :=
          Carry.start hI3.len hI3.rh HFU.out (home_lt (by have := hI3.bm; have := H16.out; omega) hok.1 hok.2.1) hq hqf hI3.home hoks3 hok
        have hlay := lay_any bt bs' (bits + 1) most L.length es' e q w3 hT3 (hI3.b2) (by have := hI3.bm; have := H16.out; omega) hI3.len hLn hC
        unfold valE at hlay
        have HI3 := hid hI3
        have HP3 := hid hp3
        clear hk3 hT3 hI3 hp3 hq hqf hoks3 hC hok
        go_wp2_with fail
        refine hlay.mono ?_
        rintro e' w4 ⟨rfl, hk4, es4, hT4, hl4, hr4, hp4⟩
        have hd4 := hid (hd1'.out.mod hk4 (by rintro (h | h) <;> omega))
        obtain ⟨q4, d04, d14, d24, d34, g4⟩ := hd4.out.four
        have hk14 := hid (Keep.trans hk13.out hk4 (fun i hi h => by rcases h with h | h; exact .inl h; omega))
        have hfin := hid (HI3.out.laid HP3.out HFU.out HOK.out HRM.out hl4 hr4 hp4)
        have hT4' := hid hT4
        clear hk4 hT4 hl4 hr4 hp4
        have n10 : bs' ≠ w.heap.size + 1 := by omega
        go_wp2
        exact bodyPost_ret (res_euv (e := z) rfl _ rfl rfl rfl (Blk.setE hd4.out z)) rfl
          ⟨by rw [HR.out]; rfl, (hk14.out.set4 (fun h => absurd h (by omega)) _ _ _ _ _ _ _ _), bs', .inr (by omega),
            by rw [HR.out]; exact ⟨bits + 1, es4, by rw [HLL.out]; exact hT4'.out.other4 n5 n10 _ _ _ _ _ _ _ _, hfin.out⟩⟩
    · have hful : decide (7 * es.length < 8 * (L.length + 1)) = false := by simpa using hfull
      have hroom : 8 * (L.length + 1) ≤ 7 * 2 ^ bits ∧ 8 * (L.length + 1) ≤ 7 * 2 ^ most := by
        have h1 := HLEN.out
        have h3 : 2 ^ bits ≤ 2 ^ most := Nat.pow_le_pow_right (by decide) HBM.out
        rw [h1] at hfull
        omega
      have HR : Hid (putR most e L = (none, 0, lput e L)) := by
        show _ = _
        rw [putR, HG.out]
        have : ¬ 7 * 2 ^ most < 8 * (L.length + 1) := by omega
        simp only [this, if_false]
      have HRM := hid hroom.1
      have hI := HI.out
      obtain ⟨q, hq, hqf⟩ := hI.free
      have hok := HOK.out
      have hC : Carry bits (2 ^ bits) es e q es e (home bits e.h) 0 :=
        Carry.start hI.len hI.rh HFU.out (home_lt (by omega) hok.1 hok.2.1) hq hqf hI.home Hoks.out hok
      have hlay : ∀ W, Keep No w W → _ := fun W (hW : Keep No w W) => lay_any bt bs bits most L.length es e q W (H0.out.mod hW (no _) (no _)) hb hb2 hI.len hLn hC
      unfold valE at hlay
      clear hfull hb hb2 hroom hI hq hqf hC hok
      unfold valE
      go_enter Try.func46, Try.ntmps46
      go_wp2_with (first | (go_at_call 61; refine (made_any bt bs es.length C _ (by go_simp) hl).mono ?_; rintro e w' ⟨rfl, rfl⟩) | (go_at_call 51; refine (empty_any _ _ _ _ _).mono ?_; rintro e w' ⟨rfl, rfl⟩) | (go_at_call 55; refine (hfind _ ((((Keep.refl _ _).alloc _).alloc _).alloc _)).mono ?_; rintro e' w1 ⟨rfl, hk⟩; have hk1 := hid (Keep.trans ((((Keep.refl No w).alloc _).alloc _).alloc _) hk (fun _ _ h => h)); obtain ⟨q1, d0, d1, d2, d3, g1⟩ := (HB1.out.mod hk (no _)).four; obtain ⟨q0, b0, b1, b2, b3, g0⟩ := (HB0.out.mod hk (no _)).four; obtain ⟨C', hC', hC1', c0', c1', c2', c3'⟩ := (H0.out.mod hk1.out (no _) (no _)).cells; have hd1 := hid (HB1.out.mod hk (no _)); have hd0 := hid (HB0.out.mod hk (no _)); clear hk) | (go_at_call 63; refine (full_any bt bs bits most L.length es _ (H0.out.mod hk1.out (no _) (no _)) hLn hN2).mono ?_; rintro e' w2 ⟨rfl, nk, rfl⟩))
      refine (hlay _ (hk1.out.drewN _)).mono ?_
      rintro e' w4 ⟨rfl, hk4, es4, hT4, hl4, hr4, hp4⟩
      have hd4 := hid ((hd1.out.drewN nk).mod hk4 (by rintro (h | h) <;> omega))
      obtain ⟨q4, d04, d14, d24, d34, g4⟩ := hd4.out.four
      have hk14 := hid (Keep.trans ((hk1.out.mono (S' := At bt bs) (fun _ _ h => h.elim)).drewN nk) hk4 (fun i hi h => h))
      have hfin := hid (HI.out.laid HP.out HFU.out HOK.out HRM.out hl4 hr4 hp4)
      have hT4' := hid hT4
      clear hk4 hT4 hl4 hr4 hp4
      go_wp2
      exact bodyPost_ret (res_euv (e := z) rfl _ rfl rfl rfl (Blk.setE hd4.out z)) rfl
        ⟨by rw [HR.out]; rfl, (hk14.out.set4 (fun h => absurd h (by omega)) _ _ _ _ _ _ _ _), bs, .inl rfl,
          by rw [HR.out]; exact ⟨bits, es4, by rw [HLL.out]; exact hT4'.out.other4 n5 n6 _ _ _ _ _ _ _ _, hfin.out⟩⟩
end Go.Proofs.Ytaijfgajcmopfaa.W6
/- Remove. -/
set_option linter.unusedVariables false
namespace Go.Proofs.Ytaijfgajcmopfaa.W7
open Go.RowKit V Rh T W1 W2 W3 W4 W5 W6

theorem remove_nil (h : Int) (w : World) : Calls Try.prog 29 #[.pointer none, .int .u64 h] w fun e w' => e = .returned (.tuple #[zE, .bool false]) ∧ Keep No w w' := by
  go_enter Try.func29, Try.ntmps29
  go_wp2_with (go_at_call 55; refine (find_nil _ _).mono ?_; rintro e w' ⟨rfl, rfl⟩)
  exact bodyPost_ret (res_eu (e := z) rfl _ rfl rfl (Blk.new' _ rfl)) rfl ⟨rfl, (Keep.refl _ _).alloc _⟩

set_option maxRecDepth 100000 in
set_option maxHeartbeats 2000000 in
theorem remove_any (bt bs bits most : Nat) (es L : List Ent) (h : Int) (w : World) (hT : Tab w bt bs bits most es L.length) (hI : TInv bits most es L) (hh : 0 ≤ h) (hh2 : h < 18446744073709551616) :
    Calls Try.prog 29 #[.pointer (some ⟨bt, 0, none⟩), .int .u64 h] w fun e' w' => e' = .returned (.tuple #[optE (lget h L), .bool (lget h L).isSome]) ∧ Keep (At bt bs) w w' ∧
      Is w' bt bs most (lrem h L) := by
  have H0 := hid hT
  have HI := hid hI
  obtain ⟨z1, z2⟩ := hT.lt
  have hfind : ∀ W, Keep No w W → Calls Try.prog 55 #[.pointer (some ⟨bt, 0, none⟩), .int .u64 h] W fun e' w' => e' = .returned (.int .i64 (posI es h)) ∧ Keep No W w' := fun W hW => find_any bt bs bits most L.length es L h W (hT.mod hW (no _) (no _)) hI hh hh2
  have HB : Hid (Blk (w.alloc (.cells #[.int .u64 0, .int .u64 0, .int .u64 0, .int .u8 0] 27)) w.heap.size [.int .u64 0, .int .u64 0, .int .u64 0, .int .u8 0] 27) := Blk.new' _ rfl
  cases hp : posOf es h with
  | none =>
    rw [posI_none hp] at hfind
    have hg := hI.pos_none hp
    have HG := hid hg
    clear hT hI hp hg
    go_enter Try.func29, Try.ntmps29
    go_wp2_with (go_at_call 55; refine (hfind _ ((Keep.refl _ _).alloc _)).mono ?_; rintro e w1 ⟨rfl, hk⟩; have hk1 := hid ((Keep.alloc (Keep.refl No w) _).trans hk (fun _ _ h => h)); obtain ⟨q0, b0, b1, b2, b3, bf⟩ := (HB.out.mod hk (no _)).four; have hd := hid (HB.out.mod hk (no _)); clear hk)
    exact bodyPost_ret (res_eu (e := z) rfl _ rfl rfl (Blk.setE hd.out z)) rfl ⟨by rw [HG.out]; rfl, (hk1.out.mono (fun _ _ h => h.elim)).set4 (fun h => absurd h (by omega)) _ _ _ _ _ _ _ _,
      by rw [lrem_of_none HG.out]; exact ⟨bits, es, (H0.out.mod hk1.out (no _) (no _)).other4 (by omega) (by omega) _ _ _ _ _ _ _ _, HI.out⟩⟩
  | some p =>
    rw [posI_some hp] at hfind
    have hg := hI.pos_some hp
    obtain ⟨hp1, hp2, hp3⟩ := posOf_spec hI.len hp
    have hH : Hole bits (2 ^ bits) es (lrem h L) p := ⟨hI.len, hI.rh, hp1, hp2, hI.perm.trans (perm_lrem hI.sorted hg), hI.home⟩
    have hlrem := lrem_length hI.sorted hg
    obtain ⟨q, hq, hqf⟩ := hI.free
    have hoks : ∀ i, i < 2 ^ bits → (gt es i).full = true → (gt es i).ok := fun i hi hf => (hI.ok _ (hI.mem hi hf)).1
    have hN := hI.n_pos
    have hN2 := hI.n_le
    have hb := hI.b2
    have hb2 : bits ≤ 16 := Nat.le_trans hI.bm hI.m16
    have hlen := hI.len
    have HG := hid hg
    have HH := hid hH
    have HLR := hid hlrem
    have Hoks := hid hoks
    generalize hNN : 2 ^ bits = N at *
    have HN := hid hNN
    have HLEN := hid hlen
    rw [← hlen] at hp1
    clear hT hI hp hg hH hlrem hoks hNN hp2 hp3 hlen
    go_enter Try.func29, Try.ntmps29
    go_wp2_with (go_at_call 55; refine (hfind _ ((Keep.refl _ _).alloc _)).mono ?_; rintro e w1 ⟨rfl, hk⟩; have hk1 := hid ((Keep.alloc (Keep.refl No w) _).trans hk (fun _ _ h => h)); obtain ⟨q0, b0, b1, b2, b3, bf⟩ := (HB.out.mod hk (no _)).four; have hd := hid (HB.out.mod hk (no _)); obtain ⟨C, hC, hC1, z1', z2', n1, n2, c0, c1, c2, c3, s0, s1, s2, s3, f1, f2⟩ := (H0.out.mod hk1.out (no _) (no _)).open hp1; clear hk)
    go_loopw [6] (fun a wr => ∃ (at_ : Nat) (es' : List Ent), a = .int .i64 at_ ∧ Hole bits N es' (lrem h L) at_ ∧ Tab wr bt bs bits most es' L.length ∧ Blk wr w.heap.size (cellsE z) 27 ∧ Blk wr w1.heap.size (cellsE (gt es p)) 27 ∧ Keep (At bt bs) w wr ∧ (gt es' q).full = false ∧ (∀ i, i < N → (gt es' i).full = true → (gt es' i).ok)) (fun a _ => way N (intOf a).toNat q)
    case atStart =>
      exact ⟨p, es, rfl, HH.out, (H0.out.mod hk1.out (no _) (no _)).alloc _, hd.out.alloc _, Blk.new' _ rfl, (hk1.out.mono (fun _ _ h => h.elim)).alloc _, hqf, Hoks.out⟩
    case round =>
      obtain ⟨at_, es', rfl, hH, hT, hB0, hB1, hK, hfree, hoks⟩ := hrel
      have hl := hH.len
      have hat := hH.lt
      have hnx := nx_lt hat
      obtain ⟨C', hC', hC1', z3, z4, m1, m2, c0', c1', c2', c3', s0', s1', s2', s3', f1', f2'⟩ := hT.open (i := nx N at_) (by omega)
      obtain ⟨_, _, _, _, _, _, _, _, _, _, _, t0, t1, t2, t3, _, _⟩ := hT.open (i := at_) (by omega)
      obtain ⟨q1, x0, x1, x2, x3, g1⟩ := hB0.four
      obtain ⟨q2, y0, y1, y2, y3, g2⟩ := hB1.four
      rw [hl] at c0' hC'
      have hne : at_ ≠ q := fun e => by subst e; rw [hH.full] at hfree; cases hfree
      have hat0 : 0 ≤ (at_ : Int) := by omega
      have hat1 : (at_ : Int) < N := by omega
      have hnx0 : 0 ≤ (nx N at_ : Int) := by omega
      have hnx1 : (nx N at_ : Int) < N := by omega
      have n5 : bt ≠ w.heap.size := by omega
      have n6 : bs ≠ w.heap.size := by omega
      have n7 : bt ≠ w1.heap.size := by omega
      have n8 : bs ≠ w1.heap.size := by omega
      have n9 : w.heap.size ≠ bs := by omega
      have n10 : w.heap.size ≠ bt := by omega
      have n11 : w1.heap.size ≠ bs := by omega
      have n12 : w1.heap.size ≠ bt := by omega
      have n13 : w.heap.size ≠ w1.heap.size := by omega
      have n14 : w1.heap.size ≠ w.heap.size := by omega
      have hlt : at_ < es'.length := by omega
      have hLpos : 1 ≤ L.length := by have := HLR.out; omega
      have hLn : L.length ≤ 65536 := by have h1 := HI.out.room; rw [HN.out] at h1; omega
      have elen : Hid (((L.length : Int) - 1) = ((lrem h L).length : Nat)) := by show _ = _; have := HLR.out; omega
      have Hlrem : Hid (L.length - 1 = (lrem h L).length) := by show _ = _; have := HLR.out; omega
      have hfin : ((gt es' (nx N at_)).full = false ∨ dist bits N es' (nx N at_) = 0) → TInv bits most (es'.set at_ z) (lrem h L) := by
        intro hs
        obtain ⟨r1, r2⟩ := hH.clear hs
        have h1 := HI.out
        have h2 := HN.out
        subst h2
        refine h1.removed HG.out (by rw [List.length_set]; exact hl) r1 ?_
        exact ((r2.cons _).trans (perm_lrem h1.sorted HG.out).symm).trans h1.perm.symm
      have HFIN := hid hfin
      have HHo := hid hH
      have HTa := hid hT
      have HB0' := hid hB0
      have HB1' := hid hB1
      have HK := hid hK
      have HO := hid hoks
      have HFR := hid hfree
      clear hfin hH hT hB0 hB1 hK hl hoks hfree
      by_cases hE : (gt es' (nx N at_)).a = 0
      · have hEb : ((gt es' (nx N at_)).a == 0) = true := by simp [hE]
        have Hf := hid (HFIN.out (.inl (by simp [Ent.full, hE])))
        clear hE
        go_wp2_with (first | (go_at_call 56; refine (next_any bt bs N C' _ _ (by go_simp) (by omega) hN2 hat).mono ?_; rintro e w' ⟨rfl, rfl⟩) | (go_at_call 51; refine (empty_any _ _ _ _ _).mono ?_; rintro e w' ⟨rfl, rfl⟩))
        rw [elen.out]
        exact bodyPost_ret (res_eu rfl _ rfl rfl ((Blk.setE (((HB0'.out.other4 n9 _ _ _ _ _ _ _ _).other _ _ n10)) (gt es p)).alloc _)) rfl
          ⟨by rw [HG.out]; rfl, (((HK.out.set4 (fun _ => .inr rfl) _ _ _ _ _ _ _ _).setCell _ _ (fun _ => .inl rfl)).set4 (fun h => absurd h (by omega)) _ _ _ _ _ _ _ _).alloc _,
            bits, es'.set at_ z, (((HTa.out.set4 hlt z).setN _).other4 n5 n6 _ _ _ _ _ _ _ _).alloc _, Hf.out⟩
      · have hEb : ((gt es' (nx N at_)).a == 0) = false := by simp [hE]
        have hf : (gt es' (nx N at_)).full = true := by simp [Ent.full, hE]
        have hg := HHo.out.home _ hnx hf
        obtain ⟨g3, g4, _⟩ := HO.out _ hnx hf
        have Hff := hid hf
        clear hE hf
        by_cases hd0 : way N (home bits (gt es' (nx N at_)).h) (nx N at_) = 0
        · have hdb : (((way N (home bits (gt es' (nx N at_)).h) (nx N at_) : Nat) : Int) == 0) = true := by simp [hd0]
          have Hf := hid (HFIN.out (.inr (by rw [dist_way]; exact hd0)))
          clear hd0
          go_wp2_with (first | (go_at_call 56; refine (next_any bt bs N C' _ _ (by go_simp) (by omega) hN2 hat).mono ?_; rintro e w' ⟨rfl, rfl⟩) | (go_at_call 51; refine (empty_any _ _ _ _ _).mono ?_; rintro e w' ⟨rfl, rfl⟩) | (go_at_call 57; refine (dist_any bt bs bits N C' _ (gt es' (nx N at_)).h _ (by go_simp) (by go_simp) (by omega) hN2 hnx hb hb2 g3 g4 hg (by go_simp)).mono ?_; rintro e w' ⟨rfl, nd, rfl⟩))
          rw [elen.out]
          exact bodyPost_ret (res_eu rfl _ rfl rfl (Blk.setE ((((HB0'.out.alloc _).drewN _).other4 n9 _ _ _ _ _ _ _ _).other _ _ n10) (gt es p))) rfl
            ⟨by rw [HG.out]; rfl, ((((HK.out.alloc _).drewN _).set4 (fun _ => .inr rfl) _ _ _ _ _ _ _ _).setCell _ _ (fun _ => .inl rfl)).set4 (fun h => absurd h (by omega)) _ _ _ _ _ _ _ _,
              bits, es'.set at_ z, ((((HTa.out.alloc _).drewN _).set4 hlt z).setN _).other4 n5 n6 _ _ _ _ _ _ _ _, Hf.out⟩
        · have hdb : (((way N (home bits (gt es' (nx N at_)).h) (nx N at_) : Nat) : Int) == 0) = false := by simp; omega
          have hne2 : nx N at_ ≠ at_ := by unfold nx; split <;> omega
          have Hs := hid (HHo.out.shift Hff.out (by rw [dist_way]; exact hd0) hne2)
          have Hdown := hid (way_down hat hq hne)
          clear hd0
          go_wp2_with (first | (go_at_call 56; refine (next_any bt bs N C' _ _ (by go_simp) (by omega) hN2 hat).mono ?_; rintro e w' ⟨rfl, rfl⟩) | (go_at_call 51; refine (empty_any _ _ _ _ _).mono ?_; rintro e w' ⟨rfl, rfl⟩) | (go_at_call 57; refine (dist_any bt bs bits N C' _ (gt es' (nx N at_)).h _ (by go_simp) (by go_simp) (by omega) hN2 hnx hb hb2 g3 g4 hg (by go_simp)).mono ?_; rintro e w' ⟨rfl, nd, rfl⟩))
          go_region
          go_wp2
          have hnq : q ≠ at_ := fun e => hne e.symm
          exact ⟨⟨nx N at_, es'.set at_ (gt es' (nx N at_)), rfl, Hs.out, ((HTa.out.alloc _).drewN _).set4 hlt _, ((HB0'.out.alloc _).drewN _).other4 n9 _ _ _ _ _ _ _ _, ((HB1'.out.alloc _).drewN _).other4 n11 _ _ _ _ _ _ _ _,
            ((HK.out.alloc _).drewN _).set4 (fun _ => .inr rfl) _ _ _ _ _ _ _ _, by rw [gt_set hlt, if_neg hnq]; exact HFR.out, fun i hi => by
              rw [gt_set hlt]
              split
              · intro _; exact HO.out _ hnx Hff.out
              · exact HO.out i hi⟩, by simp [intOf]; have := Hdown.out; omega⟩
end Go.Proofs.Ytaijfgajcmopfaa.W7
/- slices.SortFunc at structs, of whatever program, in the words of a block known whole. -/
set_option linter.unusedVariables false
namespace Go.Proofs.Ytaijfgajcmopfaa.Srt
open Go.RowKit Go.Shelf Go.Lib Go.Sort V

variable {α : Type} [Inhabited α]

theorem flatK_toList (enc : α → List Value) (k : Nat) (hk0 : 0 < k) (hk : ∀ x, (enc x).length = k) (xs : List α) : (flatK enc k xs.toArray).toList = xs.flatMap enc := by
  refine List.ext_getElem? fun t => ?_
  by_cases ht : t < xs.length * k
  · have h1 := get_flatK enc k xs.toArray t (by simpa using ht)
    have hs : t < (flatK enc k xs.toArray).size := by simpa using ht
    rw [getElem!_pos _ t hs] at h1
    rw [Array.getElem?_toList, Array.getElem?_eq_getElem hs, h1]
    clear h1 hs
    induction xs generalizing t with
    | nil => simp at ht
    | cons x xs ih =>
      rw [List.flatMap_cons]
      have hq : t / k < (x :: xs).length := Nat.div_lt_of_lt_mul (by rw [Nat.mul_comm]; exact ht)
      by_cases h : t < k
      · rw [List.getElem?_append_left (by rw [hk]; exact h)]
        have e1 : t / k = 0 := Nat.div_eq_of_lt h
        have e2 : t % k = t := Nat.mod_eq_of_lt h
        simp only [e1, e2]
        have : t < (enc x).length := by rw [hk]; exact h
        simp [this]
      · rw [List.getElem?_append_right (by rw [hk]; omega), hk]
        have ht' : t - k < xs.length * k := by simp only [List.length_cons, Nat.succ_mul] at ht; omega
        have h2 := ih (t - k) ht'
        rw [← h2]
        have e1 : t / k = (t - k) / k + 1 := by rw [Nat.div_eq_sub_div hk0 (by omega)]
        have e2 : t % k = (t - k) % k := by rw [Nat.mod_eq_sub_mod (by omega)]
        rw [e1, e2]
        simp
  · have h1 : (flatK enc k xs.toArray).toList.length ≤ t := by simp; omega
    have h2 : (xs.flatMap enc).length ≤ t := by
      rw [List.length_flatMap, show (xs.map fun a => (enc a).length) = List.replicate xs.length k by
        refine List.eq_replicate_iff.2 ⟨by simp, fun b hb => ?_⟩
        obtain ⟨a, _, rfl⟩ := List.mem_map.1 hb
        exact hk a]
      simp; omega
    rw [List.getElem?_eq_none h1, List.getElem?_eq_none h2]

theorem permIn_list (d d' : Array α) (h : PermIn 0 d.size d d') : d'.toList.Perm d.toList := by
  obtain ⟨h1, _, h3⟩ := h
  have e : d.toList.take d'.size = d.toList := List.take_of_length_le (by simp [h1])
  have h4 := h3
  simp [← h1] at h4
  rwa [e] at h4
theorem sortedIn_list (lt : α → α → Bool) (d : Array α) (h : SortedIn lt 0 d.size d) : d.toList.Pairwise (fun a b => lt b a = false) := by
  rw [List.pairwise_iff_getElem]
  intro i j hi hj hij
  have := h i j (Nat.zero_le _) hij (by simpa using hj)
  rw [getElem!_pos _ j (by simpa using hj), getElem!_pos _ i (by simpa using hi)] at this
  simpa using this

theorem holds_of_blk {w : World} {b : Nat} {cs rest : List Value} {t : TypeId} (F : Array Value) (hF : F.toList = cs) (h : Blk w b (cs ++ rest) t) : Holds id w b 0 F := by
  intro j hj
  subst hF
  rw [Nat.zero_add]
  refine ⟨?_, h.frozen j⟩
  rw [h.cell, List.getElem?_append_left (by simpa using hj), getElem!_pos _ j hj]
  simp [hj]

theorem blk_putRow {w : World} {b : Nat} {cs rest : List Value} {t : TypeId} (F : Array Value) (hs : F.size = cs.length) (h : Blk w b (cs ++ rest) t) : Blk (putRow id w b 0 F) b (F.toList ++ rest) t := by
  unfold Blk at h ⊢
  unfold putRow mapBlock
  simp only [Array.getElem?_modify]
  rw [if_pos trivial, h]
  simp only [Option.map_some, onCells]
  congr 2
  apply Array.toList_inj.1
  refine List.ext_getElem? fun i => ?_
  unfold putCells
  rw [Array.getElem?_toList, Array.getElem?_mapIdx]
  simp only [List.getElem?_toArray, Nat.zero_le, Nat.zero_add, true_and, Nat.sub_zero, id]
  by_cases hi : i < F.size
  · rw [List.getElem?_append_left (by omega), List.getElem?_append_left (by simpa using hi)]
    have : i < cs.length := by omega
    simp [hi, this]
  · rw [List.getElem?_append_right (by omega), List.getElem?_append_right (by simp; omega)]
    have hi2 : ¬ i < cs.length := by omega
    simp only [Array.length_toList, hs, hi2, if_false]
    cases rest[i - cs.length]? <;> rfl

theorem keep_sort (enc : α → List Value) (k : Nat) (w : World) (b n : Nat) (d : Array α) (os : Array Obj) (hb : b < w.heap.size) : Keep (fun j => j = b) w (sortWorldK enc k w b 0 n d os) where
  os := rfl
  tape := rfl
  output := rfl
  size := by
    unfold sortWorldK
    rw [size_grow]
    have : (putRowK enc k (Sort.ahead w n) b 0 d).heap.size = w.heap.size := by
      unfold putRowK
      rw [size_putRow]
      rfl
    omega
  block := by
    intro j hj hn
    unfold sortWorldK
    have hsz : (putRowK enc k (Sort.ahead w n) b 0 d).heap.size = w.heap.size := by
      unfold putRowK
      rw [size_putRow]
      rfl
    rw [heap_grow_old _ _ (by rw [hsz]; exact hj)]
    unfold putRowK putRow mapBlock
    simp only [Array.getElem?_modify]
    rw [if_neg (fun e => hn e.symm)]
    rfl

/-- **slices.SortFunc, in the words of a block known whole.** -/
theorem sortFunc_blk {P : Program} {ρ : Ren} (L : SlLaysF0.n6 P ρ) (k : Nat) (aE : ∀ w, (isAgg (ρ.t 24)).run P w = .ok true w) (zE : ∀ w, (Go.sizeOf (ρ.t 24)).run P w = .ok k w) (enc : α → List Value) (hk0 : 0 < k) (hk : ∀ x, (enc x).length = k) (h1 : ∀ x, ∀ v ∈ enc x, v.oneCell' = true)
    (cf : α → α → Int) (hO : SWO (ltOf cf)) (g : Nat) (cb : Array Value) (b cap : Nat) (xs : List α) (rest : List Value) (t : TypeId) (w : World)
    (eg : ∀ args w, (callFunc g args).run P w = .ok (.enter g args) w) (hcmp : ∀ x y W, Calls P g (#[.agg (enc x).toArray, .agg (enc y).toArray] ++ cb) W fun e w' => e = .returned (.int .i64 (cf x y)) ∧ ∃ q os', w' = grow (W.drewN q) os')
    (hB : Blk w b (xs.flatMap enc ++ rest) t) (hsz : xs.length < 4611686018427387904) :
    Calls P (ρ.f 6) #[.slice (some ⟨b, 0, none⟩) xs.length cap, .func (.func g) #[] cb] w fun e w' =>
      e = .returned (.tuple #[]) ∧ ∃ ys : List α, ys.Perm xs ∧ ys.Pairwise (fun x y => ¬ cf y x < 0) ∧ Blk w' b (ys.flatMap enc ++ rest) t ∧ Keep (fun j => j = b) w w' := by
  have hH : HoldsK enc k w b 0 xs.toArray := holds_of_blk _ (flatK_toList enc k hk0 hk xs) hB
  have hc := AnyQ.slices_SortFunc L k aE zE enc hk h1 cf hO g cb b 0 cap xs.toArray w eg (fun m os dk _ x y => hcmp x y _) hH hB.lt (by simpa using hsz)
  refine hc.mono ?_
  rintro e w' ⟨rfl, d', n, os, hp, hs, rfl⟩
  refine ⟨rfl, d'.toList, permIn_list _ _ hp, ?_, ?_, keep_sort enc k w b n d' os hB.lt⟩
  · have h2 := sortedIn_list (ltOf cf) d' (by rw [hp.1]; exact hs)
    exact h2.imp (fun h => by simpa [ltOf] using h)
  · unfold sortWorldK putRowK
    have hsd : d'.size = xs.length := by have := hp.1; simpa using this
    have hF : (flatK enc k d').toList = d'.toList.flatMap enc := by
      have := flatK_toList enc k hk0 hk d'.toList
      simpa using this
    have hlen : (xs.flatMap enc).length = xs.length * k := by
      rw [← flatK_toList enc k hk0 hk xs]; simp
    have h2 := blk_putRow (w := Sort.ahead w n) (flatK enc k d') (cs := xs.flatMap enc) (rest := rest) (by rw [size_flatK, hlen, hsd]) hB
    rw [hF] at h2
    have h3 : b < (putRow id (Sort.ahead w n) b 0 (flatK enc k d')).heap.size := h2.lt
    unfold Blk
    rw [heap_grow_old _ _ h3]
    exact h2
end Go.Proofs.Ytaijfgajcmopfaa.Srt
/-
  DERIVED: THE SHELF's CONTRACTS AT THIS DUMP, IN PLAIN WORDS (tools/lay-plain.mjs out of 'LayTmp.lean', which tools/lay-shelf.mjs wrote): THE SAME DECLARATIONS UNDER THE SAME NAMES: 'import', 'namespace', 'open', 'def', 'theorem' AND NOTHING ELSE: no command of the shelf's: FOR A HAND-IN. Each laying: the table of numbers ('.._ren') and one theorem, a field a fact of the dump's own or the kernel's comparison; each contract: ONE APPLICATION.
-/
namespace Go.Proofs
open Go.Shelf
def Try.sortEntry_ren : Go.Shelf.Ren := ⟨fun | 6 => 52 | 15 => 68 | 14 => 67 | 28 => 79 | 29 => 80 | 20 => 71 | 21 => 72 | 22 => 73 | 23 => 74 | 24 => 75 | 25 => 76 | 26 => 77 | 27 => 78 | 46 => 81 | 47 => 82 | 48 => 83 | 49 => 84 | 50 => 85 | 57 => 86 | n => n, fun | 22 => 39 | 24 => 27 | 25 => 88 | 3 => 3 | 39 => 44 | 0 => 0 | 53 => 110 | 55 => 25 | 4 => 4 | 46 => 103 | 45 => 102 | 50 => 107 | 5 => 5 | 9 => 9 | 66 => 111 | 70 => 115 | 76 => 117 | 77 => 118 | n => n, fun | n => n⟩
theorem Try.sortEntry : Go.Proofs.SlLaysF0.n6 Try.prog Try.sortEntry_ren := {
  mixed := by kernel_rfl
  f6 := ⟨Try.f52.name, by decide, Try.func52.trans (congrArg some (by kernel_rfl))⟩
  f14 := ⟨Try.f67.name, by decide, Try.func67.trans (congrArg some (by kernel_rfl))⟩
  f15 := Try.func68.trans (congrArg some (by kernel_rfl))
  f20 := ⟨Try.f71.name, by decide, Try.func71.trans (congrArg some (by kernel_rfl))⟩
  f21 := ⟨Try.f72.name, by decide, Try.func72.trans (congrArg some (by kernel_rfl))⟩
  f22 := ⟨Try.f73.name, by decide, Try.func73.trans (congrArg some (by kernel_rfl))⟩
  f23 := ⟨Try.f74.name, by decide, Try.func74.trans (congrArg some (by kernel_rfl))⟩
  f24 := ⟨Try.f75.name, by decide, Try.func75.trans (congrArg some (by kernel_rfl))⟩
  f25 := ⟨Try.f76.name, by decide, Try.func76.trans (congrArg some (by kernel_rfl))⟩
  f26 := ⟨Try.f77.name, by decide, Try.func77.trans (congrArg some (by kernel_rfl))⟩
  f27 := ⟨Try.f78.name, by decide, Try.func78.trans (congrArg some (by kernel_rfl))⟩
  f28 := Try.func79.trans (congrArg some (by kernel_rfl))
  f29 := Try.func80.trans (congrArg some (by kernel_rfl))
  f46 := ⟨Try.f81.name, by decide, Try.func81.trans (congrArg some (by kernel_rfl))⟩
  f47 := Try.func82.trans (congrArg some (by kernel_rfl))
  f48 := Try.func83.trans (congrArg some (by kernel_rfl))
  f49 := ⟨Try.f84.name, by decide, Try.func84.trans (congrArg some (by kernel_rfl))⟩
  f50 := ⟨Try.f85.name, by decide, Try.func85.trans (congrArg some (by kernel_rfl))⟩
  f57 := ⟨Try.f86.name, by decide, Try.func86.trans (congrArg some (by kernel_rfl))⟩
  t0 := Try.underlying0
  a0 := Try.isAgg0
  z0 := Try.sizeOf0
  v0 := Try.zeroValue0
  t3 := Try.underlying3
  a3 := Try.isAgg3
  z3 := Try.sizeOf3
  v3 := Try.zeroValue3
  t4 := Try.underlying4
  a4 := Try.isAgg4
  z4 := Try.sizeOf4
  v4 := Try.zeroValue4
  t5 := Try.underlying5
  a5 := Try.isAgg5
  z5 := Try.sizeOf5
  v5 := Try.zeroValue5
  t9 := Try.underlying9
  a9 := Try.isAgg9
  z9 := Try.sizeOf9
  v9 := Try.zeroValue9
  t22 := Try.underlying39
  a22 := Try.isAgg39
  z22 := Try.sizeOf39
  v22 := Try.zeroValue39
  t25 := Try.underlying88
  a25 := Try.isAgg88
  z25 := Try.sizeOf88
  v25 := Try.zeroValue88
  t39 := Try.underlying44
  a39 := Try.isAgg44
  z39 := Try.sizeOf44
  v39 := Try.zeroValue44
  t45 := Try.underlying102
  a45 := Try.isAgg102
  z45 := Try.sizeOf102
  v45 := Try.zeroValue102
  t46 := Try.underlying103
  a46 := Try.isAgg103
  z46 := Try.sizeOf103
  v46 := Try.zeroValue103
  t50 := Try.underlying107
  a50 := Try.isAgg107
  z50 := Try.sizeOf107
  v50 := Try.zeroValue107
  t53 := Try.underlying110
  a53 := Try.isAgg110
  z53 := Try.sizeOf110
  v53 := Try.zeroValue110
  t55 := Try.underlying25
  a55 := Try.isAgg25
  z55 := Try.sizeOf25
  v55 := Try.zeroValue25
  t66 := Try.underlying111
  a66 := Try.isAgg111
  z66 := Try.sizeOf111
  v66 := Try.zeroValue111
  t70 := Try.underlying115
  a70 := Try.isAgg115
  z70 := Try.sizeOf115
  v70 := Try.zeroValue115
  t76 := Try.underlying117
  a76 := Try.isAgg117
  z76 := Try.sizeOf117
  v76 := Try.zeroValue117
  t77 := Try.underlying118
  a77 := Try.isAgg118
  z77 := Try.sizeOf118
  v77 := Try.zeroValue118 }
end Go.Proofs
/- The iterator's parts: IndexFunc, DeleteFunc, SortFunc at entries. -/
set_option linter.unusedVariables false
namespace Go.Proofs.Ytaijfgajcmopfaa.W8
open Go.RowKit V Rh T W1 W2 W3 W4 W5

/-- a run of stores into a block known whole -/
theorem run_stores {P : Program} (b : Nat) (t : TypeId) (off : Nat) : ∀ (vs : List Value) (j : Nat) (cs : List Value) (w : World), (∀ v ∈ vs, v.oneCell' = true) → Blk w b cs t → off + j + vs.length ≤ cs.length →
    ∃ w' : World, (storeCells ⟨b, off, none⟩ vs j).run P w = .ok () w' ∧ Blk w' b (cs.take (off + j) ++ vs ++ cs.drop (off + j + vs.length)) t ∧ Keep (fun k => k = b) w w' := by
  intro vs
  induction vs with
  | nil =>
    intro j cs w _ hB _
    refine ⟨w, rfl, ?_, Keep.refl _ _⟩
    simpa using hB
  | cons v vs ih =>
    intro j cs w h1 hB hl
    simp only [List.length_cons] at hl
    have hv := h1 v (by simp)
    have hc : w.cell? ⟨b, off + j, none⟩ = some cs[off + j] := by rw [hB.cell, List.getElem?_eq_getElem (by omega)]
    obtain ⟨w', hr, hB', hk⟩ := ih (j + 1) (cs.set (off + j) v) (w.setCell ⟨b, off + j, none⟩ v) (fun u hu => h1 u (by simp [hu])) (hB.set (off + j) v) (by simp; omega)
    refine ⟨w', ?_, ?_, ?_⟩
    · unfold storeCells
      simp only [Sem.run_bind]
      rw [add_at, run_store _ _ _ _ _ hv, hc]
      simp only [hB.frozen, Bool.false_eq_true, if_false, Result.andThen]
      exact hr
    · have e1 : (cs.set (off + j) v).take (off + (j + 1)) = cs.take (off + j) ++ [v] := by
        rw [← Nat.add_assoc, List.take_succ_eq_append_getElem (by simp; omega)]
        simp
        rw [List.take_set_of_le (Nat.le_refl _)]
      have e2 : (cs.set (off + j) v).drop (off + (j + 1) + vs.length) = cs.drop (off + j + (vs.length + 1)) := by
        rw [List.drop_set_of_lt (by omega)]
        congr 1
        omega
      rw [e1, e2] at hB'
      simpa [List.append_assoc] using hB'
    · exact ((Keep.refl (fun k => k = b) w).setCell _ _ (fun _ => rfl)).trans hk (fun i _ h => h)

theorem zeroCells_flat (n : Nat) : (Builtin.zeroCells #[.int .u64 0, .int .u64 0, .int .u64 0, .int .u8 0] n).toList = flat (List.replicate n z) := by
  have h := made_flat n
  have : Builtin.zeroCells #[.int .u64 0, .int .u64 0, .int .u64 0, .int .u8 0] n = madeCells #[.int .u64 0, .int .u64 0, .int .u64 0, .int .u8 0] (n * 4) := rfl
  rw [this, h]

theorem run_clear (g i n c : Nat) (cs : List Value) (t : TypeId) (w : World) (hB : Blk w g cs t) (hn : 0 < n) (hl : i + n * 4 ≤ cs.length) :
    ∃ w' : World, (∀ ty : TypeId, (Builtin.clear_ #[39] ty #[.slice (some ⟨g, i, none⟩) n c]).run Try.prog w = .ok (.tuple #[]) w') ∧ Blk w' g (cs.take i ++ flat (List.replicate n z) ++ cs.drop (i + n * 4)) t ∧ Keep (fun k => k = g) w w' := by
  obtain ⟨w', hr, hB', hk⟩ := run_stores (P := Try.prog) g t i (flat (List.replicate n z)) 0 cs w (flat_one _) hB (by rw [flat_length]; simp; omega)
  refine ⟨w', ?_, ?_, hk⟩
  · intro ty
    obtain ⟨m, rfl⟩ : ∃ m, n = m + 1 := ⟨n - 1, by omega⟩
    unfold Builtin.clear_
    simp [run_underlying Try.underlying39, Try.zeroValue27, Value.cells]
    rw [zeroCells_flat, hr]
    rfl
  · have e : (flat (List.replicate n z)).length = n * 4 := by rw [flat_length]; simp; omega
    rw [e] at hB'
    simpa using hB'

/-- the first free slot, or -1 -/
def freeI (es : List Ent) : Int := match es.findIdx? (fun e => !e.full) with | some i => (i : Int) | none => -1

theorem freeI_at {es : List Ent} {k : Nat} (hk : k < es.length) (hf : ∀ j, j < k → (gt es j).full = true) (h : (gt es k).full = false) : es.findIdx? (fun e => !e.full) = some k := by
  rw [List.findIdx?_eq_some_iff_getElem]
  refine ⟨hk, by rw [← gt_of_lt hk, h]; rfl, fun j hj => ?_⟩
  rw [← gt_of_lt (by omega), hf j hj]
  simp
theorem freeI_none {es : List Ent} (hf : ∀ j, j < es.length → (gt es j).full = true) : es.findIdx? (fun e => !e.full) = none := by
  rw [List.findIdx?_eq_none_iff]
  intro e he
  obtain ⟨i, hi, rfl⟩ := List.getElem_of_mem he
  rw [← gt_of_lt hi, hf i hi]
  rfl

set_option maxHeartbeats 400000 in
theorem indexFunc_any (g cap : Nat) (es : List Ent) (rest : List Value) (w : World) (hB : Blk w g (flat es ++ rest) 27) (hN : es.length ≤ 65536) :
    Calls Try.prog 66 #[.slice (some ⟨g, 0, none⟩) es.length cap, .func (.func 51) #[] #[]] w fun e w' => e = .returned (.int .i64 (freeI es)) ∧ Keep No w w' := by
  have HB := hid hB
  have hz := hB.lt
  clear hB
  go_enter Try.func66, Try.ntmps66
  go_wp2
  go_loopw [8] (fun i wr => ∃ k : Nat, i = .int .i64 k ∧ k ≤ es.length ∧ (∀ j, j < k → (gt es j).full = true) ∧ Keep No w wr) (fun i _ => es.length - (intOf i).toNat)
  case atStart => exact ⟨0, rfl, Nat.zero_le _, fun j hj => absurd hj (Nat.not_lt_zero _), Keep.refl _ _⟩
  case round =>
    obtain ⟨k, rfl, hk, hf, hK⟩ := hrel
    have hz2 := (HB.out.mod hK (no _)).lt
    by_cases hlt : k < es.length
    · obtain ⟨s0, s1, s2, s3⟩ := slot (HB.out.mod hK (no _)) hlt
      have HF := hid hf
      have HK := hid hK
      have hk0 : 0 ≤ (k : Int) := by omega
      have hk1 : (k : Int) < es.length := by omega
      clear hf hK
      by_cases hE : (gt es k).a = 0
      · have hEb : ((gt es k).a == 0) = true := by simp [hE]
        have Hr : Hid (freeI es = k) := by
          show _ = _
          rw [freeI, freeI_at hlt HF.out (by simp [Ent.full, hE])]
        clear hE
        go_wp2_with (first | (go_at_call 51; refine (empty_any _ _ _ _ _).mono ?_; rintro e w' ⟨rfl, rfl⟩))
        go_ret
        exact ⟨ret_int Hr.out.symm, HK.out.alloc _⟩
      · have hEb : ((gt es k).a == 0) = false := by simp [hE]
        have Hf : Hid ((gt es k).full = true) := by simp [Hid, Ent.full, hE]
        clear hE
        go_wp2_with (first | (go_at_call 51; refine (empty_any _ _ _ _ _).mono ?_; rintro e w' ⟨rfl, rfl⟩))
        exact ⟨⟨k + 1, by go_num, hlt, fun j hj => by
          rcases Nat.lt_succ_iff_lt_or_eq.1 hj with h | rfl
          · exact HF.out j h
          · exact Hf.out, HK.out.alloc _⟩, by simp [intOf]; omega⟩
    · have Hr : Hid (freeI es = -1) := by
        show _ = _
        rw [freeI, freeI_none (fun j hj => hf j (by omega))]
      have HK := hid hK
      clear hf hK
      go_wp2
      go_ret
      exact ⟨ret_int Hr.out.symm, HK.out⟩

/-- what the loop of DeleteFunc keeps: i places are made, j are seen -/
structure Packing (es es' : List Ent) (i j : Nat) : Prop where
  len : es'.length = es.length
  jl : j ≤ es.length
  ij : i < j
  made : es'.take i = there (es.take j)
  later : ∀ k, j ≤ k → gt es' k = gt es k
theorem Packing.keep {es es' : List Ent} {i j : Nat} (h : Packing es es' i j) (hj : j < es.length) (hf : (gt es j).full = true) : Packing es (es'.set i (gt es j)) (i + 1) (j + 1) where
  len := by rw [List.length_set]; exact h.len
  jl := hj
  ij := by have := h.ij; omega
  made := by
    have hl : i < es'.length := by have := h.len; have := h.ij; omega
    rw [List.take_succ_eq_append_getElem (by rw [List.length_set]; exact hl), List.getElem_set_self, List.take_set_of_le (Nat.le_refl _), h.made, W5.there_take_succ hj, hf]
    simp
  later := fun k hk => by
    have hl : i < es'.length := by have := h.len; have := h.ij; omega
    rw [gt_set hl, if_neg (by have := h.ij; omega)]
    exact h.later k (by omega)
theorem Packing.drop {es es' : List Ent} {i j : Nat} (h : Packing es es' i j) (hj : j < es.length) (hf : (gt es j).full = false) : Packing es es' i (j + 1) where
  len := h.len
  jl := hj
  ij := by have := h.ij; omega
  made := by rw [h.made, W5.there_take_succ hj, hf]; simp
  later := fun k hk => h.later k (by omega)
theorem flat_take (es : List Ent) (i : Nat) (hi : i ≤ es.length) : (flat es).take (i * 4) = flat (es.take i) := by
  induction es generalizing i with
  | nil => simp at hi; subst hi; rfl
  | cons e es ih =>
    cases i with
    | zero => simp [flat]
    | succ i =>
      have h := ih i (by simpa using hi)
      unfold flat at h ⊢
      rw [List.flatMap_cons, List.take_succ_cons, List.flatMap_cons, ← h, show (i + 1) * 4 = (cellsE e).length + i * 4 by simp [cellsE]; omega, List.take_length_add_append]
end Go.Proofs.Ytaijfgajcmopfaa.W8
/- DeleteFunc at entries; the comparison; SortFunc at entries. -/
set_option linter.unusedVariables false
namespace Go.Proofs.Ytaijfgajcmopfaa.W9
open Go.RowKit Go.Shelf V Rh T W1 W2 W3 W4 W5 W8

theorem pack_start {es : List Ent} {i0 : Nat} (h : es.findIdx? (fun e => !e.full) = some i0) : i0 < es.length ∧ Packing es es i0 (i0 + 1) := by
  rw [List.findIdx?_eq_some_iff_getElem] at h
  obtain ⟨h1, h2, h3⟩ := h
  refine ⟨h1, rfl, h1, by omega, ?_, fun _ _ => rfl⟩
  have hf : (gt es i0).full = false := by rw [gt_of_lt h1]; simpa using h2
  rw [there_take_succ h1, hf]
  simp only [Bool.false_eq_true, if_false, List.append_nil]
  unfold there
  symm
  rw [List.filter_eq_self]
  intro e he
  obtain ⟨j, hj, rfl⟩ := List.getElem_of_mem he
  have hj2 : j < i0 := by simp at hj; omega
  have := h3 j hj2
  simpa using this

set_option maxRecDepth 100000 in
set_option maxHeartbeats 1000000 in
theorem deleteFunc_any (g cap i0 : Nat) (es : List Ent) (rest : List Value) (w : World) (hB : Blk w g (flat es ++ rest) 27) (hN : es.length ≤ 65536) (hcap : es.length ≤ cap) (hi0 : es.findIdx? (fun e => !e.full) = some i0) :
    Calls Try.prog 49 #[.slice (some ⟨g, 0, none⟩) es.length cap, .func (.func 51) #[] #[]] w fun e w' =>
      e = .returned (.slice (some ⟨g, 0, none⟩) (there es).length cap) ∧ (∃ rest', Blk w' g (flat (there es) ++ rest') 27) ∧ Keep (fun k => k = g) w w' := by
  have hix := indexFunc_any g cap es rest w hB hN
  have e1 : freeI es = i0 := by rw [freeI, hi0]
  rw [e1] at hix
  obtain ⟨hi1, hP⟩ := pack_start hi0
  have HB := hid hB
  have HP := hid hP
  clear hB hi0 e1 hP
  go_enter Try.func49, Try.ntmps49
  have hne : ((i0 : Int) == -1) = false := by simp
  go_wp2_with (go_at_call 66; refine hix.mono ?_; rintro e w1 ⟨rfl, hk⟩; have HK := hid hk; clear hk)
  go_loopw [5, 6] (fun a b wr => ∃ (i j : Nat) (es' : List Ent), a = .int .i64 i ∧ b = .int .i64 j ∧ Packing es es' i j ∧ Blk wr g (flat es' ++ rest) 27 ∧ Keep (fun k => k = g) w wr) (fun _ b _ => es.length - (intOf b).toNat)
  case atStart => exact ⟨i0, i0 + 1, es, rfl, by go_num, HP.out, HB.out.mod HK.out (no _), HK.out.mono (fun _ _ h => h.elim)⟩
  case round =>
    obtain ⟨i, j, es', rfl, rfl, hP, hB, hK⟩ := hrel
    have hj := hP.jl
    have hij := hP.ij
    have hl := hP.len
    have hz := hB.lt
    have hfz := hB.frozen
    have hj0 : 0 ≤ (j : Int) := by omega
    have hi0' : 0 ≤ (i : Int) := by omega
    by_cases hlt : j < es.length
    · obtain ⟨s0, s1, s2, s3⟩ := slot hB (i := j) (by omega)
      obtain ⟨t0, t1, t2, t3⟩ := slot hB (i := i) (by omega)
      rw [hP.later j (Nat.le_refl _)] at s0 s1 s2 s3
      have hj1 : (j : Int) < es.length := by omega
      have hi1' : (i : Int) < es.length := by omega
      have hne3 : g ≠ wr.heap.size := by omega
      have hne4 : wr.heap.size ≠ g := by omega
      have HP := hid hP
      have HB := hid hB
      have HK := hid hK
      have HL := hid hl
      clear hP hB hK hl
      by_cases hE : (gt es j).a = 0
      · have hEb : ((gt es j).a == 0) = true := by simp [hE]
        have Hs := hid (HP.out.drop hlt (by simp [Ent.full, hE]))
        clear hE
        go_wp2_with (first | (go_at_call 51; refine (empty_any _ _ _ _ _).mono ?_; rintro e w' ⟨rfl, rfl⟩))
        exact ⟨⟨i, j + 1, es', rfl, by go_num, Hs.out, (HB.out.alloc _).alloc _, (HK.out.alloc _).alloc _⟩, by simp [intOf]; omega⟩
      · have hEb : ((gt es j).a == 0) = false := by simp [hE]
        have Hs := hid (HP.out.keep hlt (by simp [Ent.full, hE]))
        clear hE
        go_wp2_with (first | (go_at_call 51; refine (empty_any _ _ _ _ _).mono ?_; rintro e w' ⟨rfl, rfl⟩))
        have hl2 : i < es'.length := by have := HL.out; omega
        exact ⟨⟨i + 1, j + 1, es'.set i (gt es j), by go_num, by go_num, Hs.out, ((Blk.set4 HB.out hl2 _).alloc _).alloc _, (((HK.out.set4 (fun _ => rfl) _ _ _ _ _ _ _ _).alloc _).alloc _)⟩, by simp [intOf]; omega⟩
    · have hje : j = es.length := by omega
      have hmade := hP.made
      rw [hje, List.take_length] at hmade
      have hlen : (there es).length = i := by rw [← hmade]; simp; omega
      obtain ⟨w2, hclr, hB2, hK2⟩ := run_clear g (i * 4) (es.length - i) (cap - i) (flat es' ++ rest) 27 wr hB (by omega) (by rw [List.length_append, flat_length]; omega)
      have hlast : Hid (∃ rest', Blk w2 g (flat (there es) ++ rest') 27) := by
        rw [List.append_assoc, List.take_append_of_le_length (by rw [flat_length]; omega), flat_take _ _ (by omega), hmade] at hB2
        exact ⟨_, hB2⟩
      have HK := hid hK
      have HK2 := hid hK2
      have Hlen := hid hlen
      have hi1' : (i : Int) ≤ es.length := by omega
      have hi2' : (i : Int) ≤ cap := by omega
      have hic : i < cap := by omega
      have hic2 : ¬ cap - i = 0 := by omega
      have hic3 : ¬ cap = i := by omega
      have hic4 : i < es.length := by omega
      clear hP hB hK hB2 hK2 hmade hlen hl hje
      go_wp2
      go_ret
      exact ⟨by rw [Hlen.out]; rfl, hlast.out, HK.out.trans HK2.out (fun _ _ h => h)⟩

theorem isNaN_any (x : Int) (w : World) : Calls Try.prog 69 #[.int .u64 x] w fun e w' => e = .returned (.bool false) ∧ w = w' := by
  go_enter Try.func69, Try.ntmps69
  go_wp2
  go_ret
  exact ⟨rfl, rfl⟩
/-- three ways -/
def cmp3 (x y : Int) : Int := if x < y then -1 else if y < x then 1 else 0
theorem compare_any (x y : Int) (w : World) : Calls Try.prog 54 #[.int .u64 x, .int .u64 y] w fun e w' => e = .returned (.int .i64 (cmp3 x y)) ∧ w = w' := by
  by_cases h1 : x < y
  · have H : Hid (cmp3 x y = -1) := by show _ = _; simp [cmp3, h1]
    go_enter Try.func54, Try.ntmps54
    go_wp2_with (go_at_call 69; refine (isNaN_any _ _).mono ?_; rintro e w' ⟨rfl, rfl⟩)
    go_ret
    exact ⟨ret_int H.out.symm, rfl⟩
  · by_cases h2 : y < x
    · have H : Hid (cmp3 x y = 1) := by show _ = _; simp [cmp3, h1, h2]
      go_enter Try.func54, Try.ntmps54
      go_wp2_with (go_at_call 69; refine (isNaN_any _ _).mono ?_; rintro e w' ⟨rfl, rfl⟩)
      go_ret
      exact ⟨ret_int H.out.symm, rfl⟩
    · have H : Hid (cmp3 x y = 0) := by show _ = _; simp [cmp3, h1, h2]
      go_enter Try.func54, Try.ntmps54
      go_wp2_with (go_at_call 69; refine (isNaN_any _ _).mono ?_; rintro e w' ⟨rfl, rfl⟩)
      go_ret
      exact ⟨ret_int H.out.symm, rfl⟩
theorem byHash_any (x y : Ent) (w : World) : Calls Try.prog 53 #[.agg (cellsE x).toArray, .agg (cellsE y).toArray] w fun e w' => e = .returned (.int .i64 (cmp3 x.h y.h)) ∧ ∃ q os', w' = Sort.grow (w.drewN q) os' := by
  have hc := fun W => compare_any x.h y.h W
  generalize cmp3 x.h y.h = r at hc ⊢
  show Calls Try.prog 53 #[.agg #[.int .u64 x.h, .int .u64 x.a, .int .u64 x.v, .int .u8 x.c], .agg #[.int .u64 y.h, .int .u64 y.a, .int .u64 y.v, .int .u8 y.c]] w _
  go_enter Try.func53, Try.ntmps53
  go_wp2_with (go_at_call 54; refine (hc _).mono ?_; rintro e w' ⟨rfl, rfl⟩)
  go_ret
  exact ⟨rfl, 0, _, by rw [Sort.alloc_eq_grow, Sort.alloc_eq_grow, Sort.grow_grow]; rfl⟩

theorem lt_cmp3 (x y : Ent) : ltOf (fun x y : Ent => cmp3 x.h y.h) x y = decide (x.h < y.h) := by
  unfold ltOf cmp3
  by_cases h1 : x.h < y.h
  · simp [h1]
  · by_cases h2 : y.h < x.h <;> simp [h1, h2]
theorem swo : Sort.SWO (ltOf fun x y : Ent => cmp3 x.h y.h) where
  irrefl x := by rw [lt_cmp3]; simp
  trans x y z h1 h2 := by rw [lt_cmp3] at *; simp at *; omega
  ntrans x y z h1 h2 := by rw [lt_cmp3] at *; simp at *; omega

theorem sorted_eq {ys L : List Ent} (hs : Sorted L) (hp : ys.Perm L) (hy : ys.Pairwise (fun x y => ¬ cmp3 y.h x.h < 0)) : ys = L := by
  have hy2 : ys.Pairwise (fun a b => a.h ≤ b.h) := hy.imp (fun {a b} h => by
    unfold cmp3 at h
    split at h
    · exact absurd (by decide) h
    · omega)
  have hl2 : L.Pairwise (fun a b => a.h ≤ b.h) := hs.imp (fun h => by omega)
  refine List.Perm.eq_of_pairwise (le := fun a b : Ent => a.h ≤ b.h) ?_ hy2 hl2 hp
  intro a b ha hb h1 h2
  have ha' : a ∈ L := hp.mem_iff.1 ha
  have e1 := lget_mem hs ha'
  have e2 := lget_mem hs hb
  have : a.h = b.h := by omega
  rw [this, e2] at e1
  exact (Option.some.inj e1).symm

theorem sortEntries (g cap : Nat) (xs L : List Ent) (rest : List Value) (w : World) (hB : Blk w g (flat xs ++ rest) 27) (hn : xs.length ≤ 65536) (hs : Sorted L) (hp : xs.Perm L) :
    Calls Try.prog 52 #[.slice (some ⟨g, 0, none⟩) xs.length cap, .func (.func 53) #[] #[]] w fun e w' =>
      e = .returned (.tuple #[]) ∧ Blk w' g (flat L ++ rest) 27 ∧ Keep (fun k => k = g) w w' := by
  have eg : ∀ args w, (callFunc 53 args).run Try.prog w = .ok (.enter 53 args) w := enters_of Try.func53 (by kernel_rfl) rfl
  have hc := Srt.sortFunc_blk Try.sortEntry 4 Try.isAgg27 Try.sizeOf27 cellsE (by decide) (fun _ => rfl) (fun x v hv => flat_one [x] v (by simpa [flat] using hv)) (fun x y => cmp3 x.h y.h) swo 53 #[] g cap xs rest 27 w eg (fun x y W => byHash_any x y W) hB (by omega)
  change Calls Try.prog 52 _ _ _ at hc
  refine hc.mono ?_
  rintro e w' ⟨rfl, ys, h1, h2, h3, h4⟩
  have := sorted_eq hs (h1.trans hp) h2
  subst this
  exact ⟨rfl, h3, h4⟩
end Go.Proofs.Ytaijfgajcmopfaa.W9
/- A range over a function, in the words of 'Keep': the iterator's contract, the loop's law, the marks at a return. -/
set_option linter.unusedVariables false
namespace Go.Proofs.Ytaijfgajcmopfaa.Rf
open Go.RowKit V

/-- The blocks of O lie as they lay. -/
def Sta (O : Nat → Prop) (A B : World) : Prop := A.heap.size ≤ B.heap.size ∧ ∀ k, O k → B.heap[k]? = A.heap[k]?
theorem Sta.refl (O : Nat → Prop) (A : World) : Sta O A A := ⟨Nat.le_refl _, fun _ _ => rfl⟩
theorem Sta.trans {O : Nat → Prop} {A B C : World} (h : Sta O A B) (k : Sta O B C) : Sta O A C := ⟨Nat.le_trans h.1 k.1, fun i hi => (k.2 i hi).trans (h.2 i hi)⟩
theorem Sta.of_keep {O S : Nat → Prop} {A B : World} (h : Keep S A B) (hO : ∀ k, O k → k < A.heap.size ∧ ¬ S k) : Sta O A B := ⟨h.size, fun k hk => h.block k (hO k hk).1 (hO k hk).2⟩

theorem keep_putObj (S : Nat → Prop) (w : World) (l : Nat) (o : Obj) (h : S l) : Keep S w (w.putObj l o) where
  os := rfl
  tape := rfl
  output := rfl
  size := by simp
  block := fun k _ hn => World.putObj_heap_other (fun e => hn (by rw [e]; exact h))

/-- **AN ITERATOR's CONTRACT**: called at world w, it hands 'xs' to yield, one behind the other, till a round says no. What the caller knows ('J') is told for the blocks 'O' that the iterator has made for itself: it abides whatever happens to those alone, and each round leaves them as they lie. -/
def Seq {α : Type} (P : Program) (gf : Nat) (lb : Array Value) (encs : α → Array Value) (xs : List α) (w : World) : Prop :=
  ∀ (l : Nat) (J Jx : (Nat → Prop) → List α → World → Prop) (W : World), Keep No w W →
    (∀ O W1, Keep No W W1 → (∀ k, O k → W.heap.size ≤ k ∧ k < W1.heap.size) → J O [] W1) →
    (∀ O s A B, J O s A → Keep O A B → (∀ k, O k → k < A.heap.size) → J O s B) →
    (∀ O s A B, Jx O s A → Keep O A B → (∀ k, O k → k < A.heap.size) → Jx O s B) →
    (∀ O pre x W1, J O pre W1 → (pre ++ [x]) <+: xs → (∀ k, O k → W.heap.size ≤ k ∧ k < W1.heap.size) → YieldAt Fence.wide 8 P l (encs x) W1 fun e W' =>
      (e = .returned (.bool true) ∧ J O (pre ++ [x]) W' ∧ Sta O W1 W') ∨ (e = .returned (.bool false) ∧ Jx O (pre ++ [x]) W' ∧ Sta O W1 W')) →
    Calls P gf (#[.func (.yield l) #[] #[]] ++ lb) W fun e W' => (∃ v, e = .returned v) ∧ ∃ O : Nat → Prop, (∀ k, O k → W.heap.size ≤ k ∧ k < W'.heap.size) ∧ (J O xs W' ∨ ∃ s, Jx O s W')

/-- How the body of a round may be left. -/
def roundQ {α : Type} (O : Nat → Prop) (I : (Nat → Prop) → List α → World → Prop) (Ix : (Nat → Prop) → Code → List α → World → Prop) (s : List α) (W : World) : Exit → Act → World → Prop
  | .normal, _, W' => Sta O W W' ∧ I O s W'
  | .ret, _, W' => Sta O W W' ∧ Ix O .ret s W'
  | .exit id, _, W' => Sta O W W' ∧ Ix O (.exit id) s W'
  | .goto t, _, W' => Sta O W W' ∧ Ix O (.goto t) s W'
  | .panic _, _, _ => False
  | .outgrown, _, _ => False

def mark (D : Nat) : Deferred := { target := .collected D, args := #[] }

/-- **THE LOOP's LAW.** -/
theorem wp_range {α : Type} {P : Program} {g : Operand} {ps : Array Tmp} {assign body : Code} {Q : Exit → Act → World → Prop} {a : Act} {w : World} {gf : Nat} {lb : Array Value}
    (hg : a.eval g = .func (.func gf) #[] lb) (eg : ∀ args w, (callFunc gf args).run P w = .ok (.enter gf args) w) {encs : α → Array Value} {xs : List α} (hseq : Seq P gf lb encs xs w) (hps : ∀ x, (encs x).size = ps.size)
    (I : (Nat → Prop) → List α → World → Prop) (Ix : (Nat → Prop) → Code → List α → World → Prop)
    (h0 : ∀ O W, Keep No w W → (∀ k, O k → w.heap.size ≤ k ∧ k < W.heap.size) → I O [] W)
    (hI : ∀ O s A B, I O s A → Keep O A B → (∀ k, O k → w.heap.size ≤ k ∧ k < A.heap.size) → I O s B)
    (hIx : ∀ O c s A B, Ix O c s A → Keep O A B → (∀ k, O k → w.heap.size ≤ k ∧ k < A.heap.size) → Ix O c s B)
    (hround : ∀ (l : Nat) O pre x W, I O pre W → (pre ++ [x]) <+: xs → (∀ k, O k → w.heap.size ≤ k ∧ k < W.heap.size) →
      assign.wpIn (Fence.wide.inRound l) 8 P (Exit.then (fun a₁ W₁ => Sta O W W₁ ∧ I O pre W₁ ∧ ∀ W₂, Keep O W₁ W₂ → W₂.heap.size = W₁.heap.size → I O pre W₂ → body.wpIn (Fence.wide.inRound l) 8 P (roundQ O I Ix (pre ++ [x]) W₂) a₁ W₂) (fun _ _ _ => False))
        { tmps := (ps.zip (encs x)).foldl (fun t (p, v) => t.setIfInBounds p v) a.tmps, defers := [] } W)
    (hdone : ∀ (D : Nat) O W, w.heap.size ≤ D → O D → (∀ k, O k → w.heap.size ≤ k ∧ k < W.heap.size) → I O xs W → W.heap[D]? = some (.deferred (some [])) → Q .normal { a with defers := mark D :: a.defers } W)
    (hstop : ∀ (D : Nat) O c s W, w.heap.size ≤ D → O D → (∀ k, O k → w.heap.size ≤ k ∧ k < W.heap.size) → Ix O c s W → W.heap[D]? = some (.deferred (some [])) → c.wp P Q { a with defers := mark D :: a.defers } W) :
    (Code.rangeFunc g ps assign body).wp P Q a w := by
  refine (wpIn_wide (n := 9)).1 (wpIn_rangeFunc ?_)
  intro fn hfn
  obtain ⟨rec, hrec⟩ : ∃ rec : LoopState → Option Code → Loop, rec = fun st pe => { state := st, pending := pe, fn, tmps := a.tmps, params := ps, assign, body, defers := w.heap.size } := ⟨_, rfl⟩
  obtain ⟨W1, hW1⟩ : ∃ W1, (w.alloc (.deferred (some []))).alloc (.loop (rec .ready none)) = W1 := ⟨_, rfl⟩
  have hL1 : W1.heap[w.heap.size + 1]? = some (.loop (rec .ready none)) := by
    rw [← hW1]; have := World.alloc_heap_new (w.alloc (.deferred (some []))) (.loop (rec .ready none)); rwa [World.size_alloc] at this
  have hK1 : W1.heap[w.heap.size]? = some (.deferred (some [])) := by
    rw [← hW1]; exact (Below.heap_alloc _ _ _ (by simp)).trans (World.alloc_heap_new w _)
  have hwW : Keep No w W1 := by rw [← hW1]; exact ((Keep.refl _ _).alloc _).alloc _
  have hsz : W1.heap.size = w.heap.size + 2 := by rw [← hW1]; simp
  -- the iterator's own blocks, and the loop's two
  let U : (Nat → Prop) → Nat → Prop := fun O k => O k ∨ k = w.heap.size ∨ k = w.heap.size + 1
  refine ⟨w.heap.size + 1, [mark w.heap.size], W1, { target := .fn (.func gf) lb, args := #[.func (.yield (w.heap.size + 1)) #[] #[]] }, W1, gf,
    #[.func (.yield (w.heap.size + 1)) #[] #[]] ++ lb, W1, ?_, ?_, ?_, ?_, fun _ => by decide, ?_⟩
  · rw [← hW1, hrec]; exact run_enterLoop_outer _ _ _ _ _
  · simp only [resolve, hg]
    simp [go_sem]
  · intro f' hf'; trivial
  · simp [invoke, go_sem, eg]
  · have hU : ∀ {O : Nat → Prop} {W : World}, (∀ k, O k → W1.heap.size ≤ k ∧ k < W.heap.size) → W1.heap.size ≤ W.heap.size → ∀ k, U O k → w.heap.size ≤ k ∧ k < W.heap.size := by
      intro O W hO hs k hk
      rcases hk with hk | rfl | rfl
      · have := hO k hk; omega
      · omega
      · omega
    have hcall := hseq (w.heap.size + 1)
      (fun O s W => (W1.heap.size ≤ W.heap.size ∧ ∀ k, O k → W1.heap.size ≤ k ∧ k < W.heap.size) ∧ I (U O) s W ∧ W.heap[w.heap.size + 1]? = some (.loop (rec .ready none)) ∧ W.heap[w.heap.size]? = some (.deferred (some [])))
      (fun O s W => (W1.heap.size ≤ W.heap.size ∧ ∀ k, O k → W1.heap.size ≤ k ∧ k < W.heap.size) ∧ ∃ c, Ix (U O) c s W ∧ W.heap[w.heap.size + 1]? = some (.loop (rec .done (some c))) ∧ W.heap[w.heap.size]? = some (.deferred (some [])))
      W1 hwW ?_ ?_ ?_ ?_
    · refine (callsIn_wide.2 hcall).mono ?_
      rintro e W2 ⟨⟨v, rfl⟩, O, hO, hJ | ⟨s, hJ⟩⟩
      · obtain ⟨⟨hs, hO1⟩, hi, hl, hk⟩ := hJ
        have h3 := keep_putObj (U O) W2 (w.heap.size + 1) (.loop { rec .ready none with state := .exhausted }) (.inr (.inr rfl))
        refine ⟨none, _, by have := run_endLoop (P := P) hl (by rw [hrec]; simp); rw [hrec] at this; exact this, ?_⟩
        have hU2 := hU hO1 hs
        rw [hrec] at h3
        exact hdone w.heap.size (U O) _ (Nat.le_refl _) (.inr (.inl rfl)) (fun k hk => by have := hU2 k hk; simpa using this) (hI _ _ _ _ hi h3 hU2) ((World.putObj_heap_other (by omega)).trans hk)
      · obtain ⟨⟨hs, hO1⟩, c, hi, hl, hk⟩ := hJ
        have h3 := keep_putObj (U O) W2 (w.heap.size + 1) (.loop { rec .done (some c) with state := .exhausted }) (.inr (.inr rfl))
        refine ⟨some c, _, by have := run_endLoop (P := P) hl (by rw [hrec]; simp); rw [hrec] at this; exact this, ?_⟩
        have hU2 := hU hO1 hs
        rw [hrec] at h3
        exact wpIn_wide.2 (hstop w.heap.size (U O) c s _ (Nat.le_refl _) (.inr (.inl rfl)) (fun k hk => by have := hU2 k hk; simpa using this) (hIx _ _ _ _ _ hi h3 hU2) ((World.putObj_heap_other (by omega)).trans hk))
    · intro O W hK hO
      have hs := hK.size
      exact ⟨⟨hs, hO⟩, h0 _ _ (hwW.trans hK (fun _ _ h => h)) (hU hO hs), (hK.block _ (by omega) (no _)).trans hL1, (hK.block _ (by omega) (no _)).trans hK1⟩
    · intro O s A B hJ hK hO
      obtain ⟨⟨hs, hO1⟩, hi, hl, hk⟩ := hJ
      have hU2 := hU hO1 hs
      refine ⟨⟨Nat.le_trans hs hK.size, fun k hk => ⟨(hO1 k hk).1, Nat.lt_of_lt_of_le (hO1 k hk).2 hK.size⟩⟩, hI _ _ _ _ hi (hK.mono (fun _ _ h => .inl h)) hU2, (hK.block _ (by omega) (fun h => ?_)).trans hl, (hK.block _ (by omega) (fun h => ?_)).trans hk⟩
      · have := (hO1 _ h).1; omega
      · have := (hO1 _ h).1; omega
    · intro O s A B hJ hK hO
      obtain ⟨⟨hs, hO1⟩, c, hi, hl, hk⟩ := hJ
      have hU2 := hU hO1 hs
      refine ⟨⟨Nat.le_trans hs hK.size, fun k hk => ⟨(hO1 k hk).1, Nat.lt_of_lt_of_le (hO1 k hk).2 hK.size⟩⟩, c, hIx _ _ _ _ _ hi (hK.mono (fun _ _ h => .inl h)) hU2, (hK.block _ (by omega) (fun h => ?_)).trans hl, (hK.block _ (by omega) (fun h => ?_)).trans hk⟩
      · have := (hO1 _ h).1; omega
      · have := (hO1 _ h).1; omega
    · intro O pre x W hJ hpre hO
      obtain ⟨⟨hs, hO1⟩, hi, hl, hk⟩ := hJ
      have hU2 := hU hO1 hs
      have hy := run_yield (P := P) (args := encs x) hl (by rw [hrec]; exact hps x)
      rw [hrec] at hy
      refine ⟨fn, _, assign, body, hy, roundIn_of_wpIn hfn (wpIn_mono (hround _ (U O) pre x W hi hpre hU2) ?_)⟩
      intro e a₁ Wa hq
      cases e with
      | normal =>
        obtain ⟨hsta, hi1, hbody⟩ := hq
        have hla : Wa.heap[w.heap.size + 1]? = some (.loop (rec .ready none)) := (hsta.2 _ (.inr (.inr rfl))).trans hl
        have hka : Wa.heap[w.heap.size]? = some (.deferred (some [])) := (hsta.2 _ (.inr (.inl rfl))).trans hk
        refine ⟨_, run_beginRound hla (by rw [hrec]), ?_⟩
        have hKb := keep_putObj (U O) Wa (w.heap.size + 1) (.loop { rec .ready none with state := .busy }) (.inr (.inr rfl))
        have hl2 : (Wa.putObj (w.heap.size + 1) (.loop { rec .ready none with state := .busy })).heap[w.heap.size + 1]? = some (.loop { rec .ready none with state := .busy }) := World.putObj_heap_same (Array.getElem?_eq_some_iff.1 hla).1
        have hk2 : (Wa.putObj (w.heap.size + 1) (.loop { rec .ready none with state := .busy })).heap[w.heap.size]? = some (.deferred (some [])) := (World.putObj_heap_other (by omega)).trans hka
        have hUa : ∀ k, U O k → w.heap.size ≤ k ∧ k < Wa.heap.size := fun k hk => ⟨(hU2 k hk).1, Nat.lt_of_lt_of_le (hU2 k hk).2 hsta.1⟩
        refine wpIn_mono (hbody _ hKb (by simp) (hI _ _ _ _ hi1 hKb hUa)) ?_
        have hOsta : ∀ W3, Sta (U O) (Wa.putObj (w.heap.size + 1) (.loop { rec .ready none with state := .busy })) W3 → ∀ jump : Option Code,
            (Instr.endRound (w.heap.size + 1) jump).run P W3 = .ok (.bool jump.isNone) (W3.putObj (w.heap.size + 1) (.loop (rec (if jump.isNone then .ready else .done) jump))) ∧
            (W3.putObj (w.heap.size + 1) (.loop (rec (if jump.isNone then .ready else .done) jump))).heap[w.heap.size + 1]? = some (.loop (rec (if jump.isNone then .ready else .done) jump)) ∧
            (W3.putObj (w.heap.size + 1) (.loop (rec (if jump.isNone then .ready else .done) jump))).heap[w.heap.size]? = some (.deferred (some [])) ∧
            Keep (U O) W3 (W3.putObj (w.heap.size + 1) (.loop (rec (if jump.isNone then .ready else .done) jump))) ∧ (∀ k, U O k → w.heap.size ≤ k ∧ k < W3.heap.size) ∧
            (W1.heap.size ≤ (W3.putObj (w.heap.size + 1) (.loop (rec (if jump.isNone then .ready else .done) jump))).heap.size ∧ ∀ k, O k → W1.heap.size ≤ k ∧ k < (W3.putObj (w.heap.size + 1) (.loop (rec (if jump.isNone then .ready else .done) jump))).heap.size) ∧
            Sta O W (W3.putObj (w.heap.size + 1) (.loop (rec (if jump.isNone then .ready else .done) jump))) := by
          intro W3 h3 jump
          have hl3 : W3.heap[w.heap.size + 1]? = some (.loop { rec .ready none with state := .busy }) := (h3.2 _ (.inr (.inr rfl))).trans hl2
          have hk3 : W3.heap[w.heap.size]? = some (.deferred (some [])) := (h3.2 _ (.inr (.inl rfl))).trans hk2
          have hszz : Wa.heap.size ≤ W3.heap.size := by have := h3.1; simpa using this
          have hr := run_endRound (P := P) jump hl3
          have hU3 : ∀ k, U O k → w.heap.size ≤ k ∧ k < W3.heap.size := fun k hk => ⟨(hUa k hk).1, Nat.lt_of_lt_of_le (hUa k hk).2 hszz⟩
          refine ⟨by rw [hrec] at hr ⊢; exact hr, World.putObj_heap_same (Array.getElem?_eq_some_iff.1 hl3).1, (World.putObj_heap_other (by omega)).trans hk3, keep_putObj (U O) W3 _ _ (.inr (.inr rfl)), hU3, ⟨by simp; have := hsta.1; omega, fun k hk => ⟨(hO1 k hk).1, by simp; exact (hU3 k (.inl hk)).2⟩⟩, by simp; have := hsta.1; omega, fun k hk => ?_⟩
          have hne : k ≠ w.heap.size + 1 := by have := (hO1 k hk).1; omega
          rw [World.putObj_heap_other hne, h3.2 k (.inl hk), World.putObj_heap_other hne, hsta.2 k (.inl hk)]
        rintro e a3 W3 hp
        cases e with
        | normal =>
          obtain ⟨hst3, hi3⟩ := hp
          obtain ⟨hr, hl4, hk4, hKe, hU3, hO4, hS4⟩ := hOsta W3 hst3 none
          exact ⟨_, _, hr, .inl ⟨rfl, ⟨hO4, hI _ _ _ _ hi3 hKe hU3, hl4, hk4⟩, hS4⟩⟩
        | ret =>
          obtain ⟨hst3, hi3⟩ := hp
          obtain ⟨hr, hl4, hk4, hKe, hU3, hO4, hS4⟩ := hOsta W3 hst3 (some .ret)
          exact ⟨_, _, hr, .inr ⟨rfl, ⟨hO4, .ret, hIx _ _ _ _ _ hi3 hKe hU3, hl4, hk4⟩, hS4⟩⟩
        | exit id =>
          obtain ⟨hst3, hi3⟩ := hp
          obtain ⟨hr, hl4, hk4, hKe, hU3, hO4, hS4⟩ := hOsta W3 hst3 (some (.exit id))
          exact ⟨_, _, hr, .inr ⟨rfl, ⟨hO4, .exit id, hIx _ _ _ _ _ hi3 hKe hU3, hl4, hk4⟩, hS4⟩⟩
        | goto t =>
          obtain ⟨hst3, hi3⟩ := hp
          obtain ⟨hr, hl4, hk4, hKe, hU3, hO4, hS4⟩ := hOsta W3 hst3 (some (.goto t))
          exact ⟨_, _, hr, .inr ⟨rfl, ⟨hO4, .goto t, hIx _ _ _ _ _ hi3 hKe hU3, hl4, hk4⟩, hS4⟩⟩
        | panic ch => exact hp.elim
        | outgrown => exact hp.elim
      | _ => exact hq.elim

/-- The marks that loops have laid, at a return. -/
theorem leaves_marks {P : Program} {fn : Func} {tmps : Array Value} {R : Ending → World → Prop} {n : Nat} : ∀ (Ds : List Nat) (W : World), Ds.Nodup → (∀ D ∈ Ds, W.heap[D]? = some (.deferred (some []))) →
    (∀ W', Keep (fun k => k ∈ Ds) W W' → ∃ v, (results fn tmps).run P W' = .ok v W' ∧ R (.returned v) W') → LeavesInM Fence.wide n P fn tmps R (Ds.map mark) .returning W := by
  intro Ds
  induction Ds with
  | nil =>
    intro W _ _ h
    exact h W (Keep.refl _ _)
  | cons D Ds ih =>
    intro W hn hD h
    obtain ⟨hn1, hn2⟩ := List.nodup_cons.1 hn
    refine ⟨by simp, .inl ⟨D, _, rfl, run_takeDeferred (hD D (by simp)), ?_⟩⟩
    refine ih _ hn2 (fun D' h' => ?_) (fun W' hW' => h W' ?_)
    · rw [World.putObj_heap_other (fun e => hn1 (by rw [← e]; exact h'))]
      exact hD D' (by simp [h'])
    · exact (keep_putObj (fun k => k ∈ D :: Ds) W D _ (by simp)).trans hW' (fun i _ hi => by simp [hi])

theorem calls_of_marks {P : Program} {f : FuncId} {fn : Func} {c : Code} {args : Array Value} {w : World} {R : Ending → World → Prop} (hf : P.funcs[f]? = some fn) (hb : fn.body = some c)
    (h : c.wp P (bodyPostM Fence.wide 9 P fn R) { tmps := args ++ Array.replicate (fn.ntmps - args.size) undef, defers := [] } w) : Calls P f args w R :=
  (callsIn_wide (n := 9)).1 (callsIn_of_wp_marks hf hb trivial (wpIn_wide.2 h))
end Go.Proofs.Ytaijfgajcmopfaa.Rf
/- The iterator of a table's entries. -/
set_option linter.unusedVariables false
namespace Go.Proofs.Ytaijfgajcmopfaa.W10
open Go.RowKit Go.Shelf V Rh T W1 W2 W3 W4 W5 W8 W9 Rf
attribute [local go_sem] Oper.semAt_some

def encs (e : Ent) : Array Value := #[valE e]

theorem all_any (p : Value) (w : World) (hp : p = .pointer none ∨ ∃ b, p = .pointer (some ⟨b, 0, none⟩)) :
    Calls Try.prog 28 #[p] w fun e w' => e = .returned (.func (.func 48) #[] #[.pointer (some ⟨w.heap.size, 0, none⟩)]) ∧ w.alloc (.cells #[p] 70) = w' := by
  rcases hp with rfl | ⟨b, rfl⟩
  all_goals
    go_enter Try.func28, Try.ntmps28
    go_wp2
    go_ret
    exact ⟨rfl, rfl⟩

theorem take_succ_gt {L : List Ent} {k : Nat} (hk : k < L.length) : L.take (k + 1) = L.take k ++ [gt L k] := by rw [List.take_succ_eq_append_getElem hk, gt_of_lt hk]

set_option maxRecDepth 100000 in
set_option maxHeartbeats 2000000 in
theorem all_seq (b0 bt bs bits most n : Nat) (es L : List Ent) (w : World) (hb : Blk w b0 [.pointer (some ⟨bt, 0, none⟩)] 70) (hT : Tab w bt bs bits most es n) (hI : TInv bits most es L) :
    Seq Try.prog 48 #[.pointer (some ⟨b0, 0, none⟩)] encs L w := by
  intro l J Jx W hW h0 hJ hJx hY
  have hb' := hb.mod hW (no _)
  obtain ⟨z0, c0, f0⟩ := hb'.one
  have hT' := hT.mod hW (no _) (no _)
  have hlay := layout_any bt bs bits most n es L W hT' hI
  have hN2 := hI.n_le
  rw [← hI.len] at hN2
  have hLn : L.length ≤ 65536 := by have := hI.room; have := hI.n_le; omega
  obtain ⟨i0, hi0⟩ : ∃ i0, es.findIdx? (fun e => !e.full) = some i0 := by
    obtain ⟨q, hq, hqf⟩ := hI.free
    rw [← hI.len] at hq
    cases h : es.findIdx? (fun e => !e.full) with
    | some i => exact ⟨i, rfl⟩
    | none =>
      rw [List.findIdx?_eq_none_iff] at h
      have := h _ (List.getElem_mem hq)
      rw [← gt_of_lt hq, hqf] at this
      cases this
  have HI := hid hI
  have HI0 := hid hi0
  have H0 := hid h0
  have HJ := hid hJ
  have HJx := hid hJx
  have HY := hid hY
  clear hW hb hb' hT hT' hI hi0 h0 hJ hJx hY
  refine (callsIn_wide (n := 9)).1 (callsIn_of_wp Try.func48 rfl trivial ?_ rfl)
  simp only [Try.ntmps48, List.size_toArray, List.length_cons, List.length_nil, Nat.reduceAdd, Nat.reduceSub, Array.replicate_succ, Array.replicate_zero, List.push_toArray, List.append_toArray, List.nil_append, List.cons_append]
  have t1 : Fence.wide.fn 50 := trivial
  have t2 : Fence.wide.fn 49 := trivial
  have t3 : Fence.wide.fn 52 := trivial
  gi_wp2_with fail
  refine CallsIn.mono (callsIn_wide.2 hlay) ?_
  rintro e Wa ⟨v, rfl, hv, ho, hk⟩
  obtain ⟨g, cap, rest, rfl, hg1, hg2, hg3, hgb, hgl⟩ := own_blk ho hv
  have hka := hid hk
  have hdel := deleteFunc_any g cap i0 es rest Wa hgb hN2 hg2 HI0.out
  clear hk hgb hgl ho hv
  gi_wp2_with fail
  refine CallsIn.mono (callsIn_wide.2 hdel) ?_
  rintro e Wb ⟨rfl, ⟨rest', hB⟩, hk⟩
  have hpm := HI.out.perm
  have hkb := hid (hka.out.trans hk (fun i hi h => by omega))
  have hsort := sortEntries g cap (there es) L rest' Wb hB (by rw [hpm.length_eq]; exact hLn) HI.out.sorted hpm
  clear hk hB
  gi_wp2_with fail
  refine CallsIn.mono (callsIn_wide.2 hsort) ?_
  rintro e Wc ⟨rfl, hB, hk⟩
  have hkc := hid (hkb.out.trans hk (fun i hi h => by omega))
  have HB := hid hB
  have hgz := hB.lt
  have hLlen : (there es).length = L.length := hpm.length_eq
  have hJ0 := hid (H0.out (fun k => k = g) Wc hkc.out (by rintro k rfl; exact ⟨hg1, hgz⟩))
  rw [hLlen]
  clear hk hB hpm hLlen hsort hdel hlay
  gi_wp2
  gi_loopw [13] (fun i wr => ∃ k : Nat, i = .int .i64 k ∧ k ≤ L.length ∧ J (fun k => k = g) (L.take k) wr ∧ Blk wr g (flat L ++ rest') 27) (fun i _ => L.length - (intOf i).toNat)
  case atStart => exact ⟨0, rfl, Nat.zero_le _, hJ0.out, HB.out⟩
  case round =>
    obtain ⟨k, rfl, hk, hJk, hBk⟩ := hrel
    have hgk := hBk.lt
    by_cases hlt : k < L.length
    · obtain ⟨s0, s1, s2, s3⟩ := slot hBk hlt
      have hk0 : 0 ≤ (k : Int) := by omega
      have hk1 : (k : Int) < L.length := by omega
      have hpre : (L.take k ++ [gt L k]) <+: L := by rw [← take_succ_gt hlt]; exact List.take_prefix _ _
      obtain ⟨fn, tmps, assign, body, hy, hR⟩ := HY.out (fun k => k = g) (L.take k) (gt L k) (wr.alloc (.cells #[.int .u64 (gt L k).h, .int .u64 (gt L k).a, .int .u64 (gt L k).v, .int .u8 (gt L k).c] 27))
        (HJ.out _ _ _ _ hJk ((Keep.refl _ _).alloc _) (by rintro k rfl; exact hgk)) hpre (by rintro k rfl; simp; omega)
      simp only [encs, valE] at hy
      have HBk := hid (hBk.alloc (.cells #[.int .u64 (gt L k).h, .int .u64 (gt L k).a, .int .u64 (gt L k).v, .int .u8 (gt L k).c] 27))
      clear hBk hJk hpre
      gi_wp2
      refine hR.mono ?_
      rintro e W3 (⟨rfl, hJ3, hS3⟩ | ⟨rfl, hJx3, hS3⟩)
      · have HJ3 := hid hJ3
        have HS3 := hid hS3
        clear hJ3 hS3
        gi_wp2
        exact ⟨⟨k + 1, by go_num, hlt, by rw [take_succ_gt hlt]; exact HJ3.out, (HS3.out.2 g rfl).trans HBk.out⟩, by simp [intOf]; omega⟩
      · have HJ3 := hid hJx3
        have HS3 := hid hS3
        clear hJx3 hS3
        gi_wp2
        refine bodyPost_ret (results_none rfl _ _ _) rfl ?_
        exact ⟨⟨_, rfl⟩, fun k => k = g, by rintro k rfl; exact ⟨hg1, Nat.lt_of_lt_of_le HBk.out.lt HS3.out.1⟩, .inr ⟨_, HJ3.out⟩⟩
    · have hke : k = L.length := by omega
      subst hke
      rw [List.take_length] at hJk
      have HJk := hid hJk
      clear hJk
      gi_wp2
      go_end0
      exact ⟨⟨_, rfl⟩, fun k => k = g, by rintro k rfl; exact ⟨hg1, hgk⟩, .inl HJk.out⟩

set_option maxRecDepth 100000 in
set_option maxHeartbeats 2000000 in
theorem deleteFunc_nil (w : World) : Calls Try.prog 49 #[.slice none 0 0, .func (.func 51) #[] #[]] w fun e w' => e = .returned (.slice none 0 0) ∧ w = w' := by
  have hix : Calls Try.prog 66 #[.slice none 0 0, .func (.func 51) #[] #[]] w fun e w' => e = .returned (.int .i64 (-1)) ∧ w = w' := by
    go_enter Try.func66, Try.ntmps66
    go_wp2
    refine wp_loop_rounds 1 ?_
    rw [rounds_succ]
    go_wp2
    go_ret
    exact ⟨rfl, rfl⟩
  go_enter Try.func49, Try.ntmps49
  go_wp2_with (go_at_call 66; refine hix.mono ?_; rintro e w1 ⟨rfl, rfl⟩)
  go_ret
  exact ⟨rfl, rfl⟩

set_option maxRecDepth 100000 in
set_option maxHeartbeats 2000000 in
theorem all_seq_nil (b0 : Nat) (w : World) (hb : Blk w b0 [.pointer none] 70) : Seq Try.prog 48 #[.pointer (some ⟨b0, 0, none⟩)] encs ([] : List Ent) w := by
  intro l J Jx W hW h0 hJ hJx hY
  obtain ⟨z0, c0, f0⟩ := (hb.mod hW (no _)).one
  have H0 := hid (h0 (fun _ => False) W (Keep.refl _ _) (fun _ h => h.elim))
  have hsort : Calls Try.prog 52 #[.slice none 0 0, .func (.func 53) #[] #[]] W fun e w' => e = .returned (.tuple #[]) ∧ w' = W := AnyF.slices_SortFunc_none { Try.sortEntry with } none 0 _ W
  have hdel := deleteFunc_nil W
  have hlay := layout_nil W
  clear hW hb h0 hJ hJx hY
  refine (callsIn_wide (n := 9)).1 (callsIn_of_wp Try.func48 rfl trivial ?_ rfl)
  simp only [Try.ntmps48, List.size_toArray, List.length_cons, List.length_nil, Nat.reduceAdd, Nat.reduceSub, Array.replicate_succ, Array.replicate_zero, List.push_toArray, List.append_toArray, List.nil_append, List.cons_append]
  have t1 : Fence.wide.fn 50 := trivial
  have t2 : Fence.wide.fn 49 := trivial
  have t3 : Fence.wide.fn 52 := trivial
  gi_wp2_with fail
  refine CallsIn.mono (callsIn_wide.2 hlay) ?_
  rintro e Wa ⟨rfl, rfl⟩
  gi_wp2_with fail
  refine CallsIn.mono (callsIn_wide.2 hdel) ?_
  rintro e Wb ⟨rfl, rfl⟩
  gi_wp2_with fail
  refine CallsIn.mono (callsIn_wide.2 hsort) ?_
  rintro e Wc ⟨rfl, rfl⟩
  gi_wp2
  gi_loopw [13] (fun i wr => i = .int .i64 0 ∧ J (fun _ => False) [] wr) (fun _ _ => 0)
  case atStart => exact ⟨rfl, H0.out⟩
  case round =>
    obtain ⟨rfl, hJ0⟩ := hrel
    have HJ0 := hid hJ0
    clear hJ0
    gi_wp2
    go_end0
    exact ⟨⟨_, rfl⟩, fun _ => False, fun _ h => h.elim, .inl HJ0.out⟩
end Go.Proofs.Ytaijfgajcmopfaa.W10
/- An index in memory; its looks. -/
set_option linter.unusedVariables false
namespace Go.Proofs.Ytaijfgajcmopfaa.X1
open Go.RowKit Go.Shelf V Rh T W1 W2 W3 W4 W6 Rf

def ptr (b : Nat) : Value := .pointer (some ⟨b, 0, none⟩)

/-- An index at block bx: stripes 'Ls', its tables at blocks 'bts', their slots at blocks 'bss'. -/
structure Idx (w : World) (bx bl : Nat) (bts bss : List Nat) (most : Nat) (Ls : List (List Ent)) : Prop where
  head : ∃ cap, Blk w bx [.slice (some ⟨bl, 0, none⟩) Ls.length cap] 58
  row : ∃ rest, Blk w bl (bts.map ptr ++ rest) 70
  len1 : bts.length = Ls.length
  len2 : bss.length = Ls.length
  pos : 1 ≤ Ls.length
  most64 : Ls.length ≤ 64
  tabs : ∀ i, i < Ls.length → Is w (bts.getD i 0) (bss.getD i 0) most (Ls.getD i [])
  apart : (bx :: bl :: (bts ++ bss)).Nodup

/-- the blocks of an index -/
def Foot (bx bl : Nat) (bts bss : List Nat) : Nat → Prop := fun k => k ∈ bx :: bl :: (bts ++ bss)

theorem is_keep {S : Nat → Prop} {w w' : World} {bt bs most : Nat} {L : List Ent} (h : Is w bt bs most L) (m : Keep S w w') (h1 : ¬ S bt) (h2 : ¬ S bs) : Is w' bt bs most L := by
  obtain ⟨bits, es, hT, hI⟩ := h
  exact ⟨bits, es, hT.mod m h1 h2, hI⟩
theorem is_lt {w : World} {bt bs most : Nat} {L : List Ent} (h : Is w bt bs most L) : bt < w.heap.size ∧ bs < w.heap.size := by
  obtain ⟨bits, es, hT, hI⟩ := h
  exact hT.lt

theorem getD_mem {l : List Nat} {i : Nat} (h : i < l.length) : l.getD i 0 ∈ l := by
  rw [List.getD_eq_getElem?_getD, List.getElem?_eq_getElem h]
  exact List.getElem_mem h

section
variable {w : World} {bx bl : Nat} {bts bss : List Nat} {most : Nat} {Ls : List (List Ent)}
theorem Idx.foot_lt (h : Idx w bx bl bts bss most Ls) : ∀ k, Foot bx bl bts bss k → k < w.heap.size := by
  intro k hk
  unfold Foot at hk
  simp only [List.mem_cons, List.mem_append] at hk
  rcases hk with rfl | rfl | hk | hk
  · obtain ⟨_, hb⟩ := h.head; exact hb.lt
  · obtain ⟨_, hb⟩ := h.row; exact hb.lt
  · obtain ⟨i, hi, rfl⟩ := List.getElem_of_mem hk
    have := (is_lt (h.tabs i (by rw [← h.len1]; exact hi))).1
    simpa [hi] using this
  · obtain ⟨i, hi, rfl⟩ := List.getElem_of_mem hk
    have := (is_lt (h.tabs i (by rw [← h.len2]; exact hi))).2
    simpa [hi] using this
theorem Idx.keep {S : Nat → Prop} {w' : World} (h : Idx w bx bl bts bss most Ls) (m : Keep S w w') (hS : ∀ k, Foot bx bl bts bss k → ¬ S k) : Idx w' bx bl bts bss most Ls where
  head := let ⟨c, hb⟩ := h.head; ⟨c, hb.mod m (hS _ (by simp [Foot]))⟩
  row := let ⟨c, hb⟩ := h.row; ⟨c, hb.mod m (hS _ (by simp [Foot]))⟩
  len1 := h.len1
  len2 := h.len2
  pos := h.pos
  most64 := h.most64
  tabs := fun i hi => is_keep (h.tabs i hi) m (hS _ (by simp only [Foot, List.mem_cons, List.mem_append]; exact .inr (.inr (.inl (getD_mem (by rw [h.len1]; exact hi)))))) (hS _ (by simp only [Foot, List.mem_cons, List.mem_append]; exact .inr (.inr (.inr (getD_mem (by rw [h.len2]; exact hi))))))
  apart := h.apart

/-- table i -/
theorem Idx.at (h : Idx w bx bl bts bss most Ls) {i : Nat} (hi : i < Ls.length) : w.cell? ⟨bl, i, none⟩ = some (ptr (bts.getD i 0)) := by
  obtain ⟨rest, hb⟩ := h.row
  have h2 : i < bts.length := by rw [h.len1]; exact hi
  rw [hb.cell, List.getElem?_append_left (by simpa using h2)]
  simp [h2]

theorem nodup_index {l : List Nat} (h : l.Nodup) {i j : Nat} (hi : i < l.length) (hj : j < l.length) (e : l.getD i 0 = l.getD j 0) : i = j := by
  rw [List.getD_eq_getElem?_getD, List.getD_eq_getElem?_getD, List.getElem?_eq_getElem hi, List.getElem?_eq_getElem hj] at e
  exact (List.getElem_inj h).1 e

/-- a call on stripe i's table, laid back into the index -/
theorem Idx.put (h : Idx w bx bl bts bss most Ls) {w' : World} {i : Nat} (hi : i < Ls.length) {bs' : Nat} {L' : List Ent} (m : Keep (W2.At (bts.getD i 0) (bss.getD i 0)) w w') (hb : bs' = bss.getD i 0 ∨ w.heap.size ≤ bs') (hL : Is w' (bts.getD i 0) bs' most L') :
    Idx w' bx bl bts (bss.set i bs') most (Ls.set i L') ∧ Keep (Foot bx bl bts bss) w w' ∧ (∀ k, Foot bx bl bts (bss.set i bs') k → Foot bx bl bts bss k ∨ w.heap.size ≤ k) := by
  have h1 : i < bts.length := by rw [h.len1]; exact hi
  have h2 : i < bss.length := by rw [h.len2]; exact hi
  have hap := h.apart
  simp only [List.nodup_cons, List.mem_cons, List.mem_append, List.nodup_append, not_or] at hap
  obtain ⟨⟨a1, a2, a3⟩, ⟨a4, a5⟩, a6, a7, a8⟩ := hap
  have m1 := getD_mem h1
  have m2 := getD_mem h2
  have hfl := h.foot_lt
  have hnb : ∀ j, j < Ls.length → j ≠ i → ¬ W2.At (bts.getD i 0) (bss.getD i 0) (bts.getD j 0) := by
    rintro j hj hne (e | e)
    · exact hne (nodup_index a6 (by rw [h.len1]; exact hj) h1 e)
    · exact a8 _ (getD_mem (by rw [h.len1]; exact hj)) _ m2 e
  have hns : ∀ j, j < Ls.length → j ≠ i → ¬ W2.At (bts.getD i 0) (bss.getD i 0) (bss.getD j 0) := by
    rintro j hj hne (e | e)
    · exact a8 _ m1 _ (getD_mem (by rw [h.len2]; exact hj)) e.symm
    · exact hne (nodup_index a7 (by rw [h.len2]; exact hj) h2 e)
  refine ⟨⟨?_, ?_, by simp [h.len1], by simp [h.len2], by simp [h.pos], by simp [h.most64], ?_, ?_⟩, ?_, ?_⟩
  · obtain ⟨c, hb⟩ := h.head
    refine ⟨c, ?_⟩
    rw [List.length_set]
    refine hb.mod m ?_
    rintro (e | e)
    · exact a2 (by rw [e]; exact m1)
    · exact a3 (by rw [e]; exact m2)
  · obtain ⟨c, hb⟩ := h.row
    refine ⟨c, hb.mod m ?_⟩
    rintro (e | e)
    · exact a4 (by rw [e]; exact m1)
    · exact a5 (by rw [e]; exact m2)
  · intro j hj
    rw [List.length_set] at hj
    have hj2 : j < bss.length := by rw [h.len2]; exact hj
    by_cases hji : j = i
    · subst hji
      simpa [hj, hj2] using hL
    · have := is_keep (h.tabs j hj) m (hnb j hj hji) (hns j hj hji)
      have e1 : (bss.set i bs').getD j 0 = bss.getD j 0 := by simp [List.getD_eq_getElem?_getD, Ne.symm hji]
      have e2 : (Ls.set i L').getD j [] = Ls.getD j [] := by simp [List.getD_eq_getElem?_getD, Ne.symm hji]
      rw [e1, e2]
      exact this
  · rcases hb with rfl | hb
    · have : bss.set i (bss.getD i 0) = bss := by simp [h2]
      rw [this]
      exact h.apart
    · have hnew : ∀ k, Foot bx bl bts bss k → k ≠ bs' := fun k hk e => by have := hfl k hk; omega
      have hmem : ∀ k, k ∈ bss.set i bs' → k ∈ bss ∨ k = bs' := fun k hk => List.mem_or_eq_of_mem_set hk
      have f1 : bx ≠ bs' := hnew _ (by simp [Foot])
      have f2 : bl ≠ bs' := hnew _ (by simp [Foot])
      have f3 : bs' ∉ bts := fun hm => hnew _ (by simp [Foot, hm]) rfl
      have f4 : bs' ∉ bss := fun hm => hnew _ (by simp [Foot, hm]) rfl
      simp only [List.nodup_cons, List.mem_cons, List.mem_append, List.nodup_append, not_or]
      refine ⟨⟨a1, a2, fun hm => ?_⟩, ⟨a4, fun hm => ?_⟩, a6, ?_, ?_⟩
      · rcases hmem _ hm with hm | hm
        · exact a3 hm
        · exact f1 hm
      · rcases hmem _ hm with hm | hm
        · exact a5 hm
        · exact f2 hm
      · rw [List.nodup_iff_pairwise_ne] at a7 ⊢
        rw [List.pairwise_iff_getElem] at a7 ⊢
        intro p q hp hq hpq
        simp only [List.length_set] at hp hq
        rw [List.getElem_set, List.getElem_set]
        split
        · split
          · omega
          · exact fun e => f4 (by rw [e]; exact List.getElem_mem _)
        · split
          · exact fun e => f4 (by rw [← e]; exact List.getElem_mem _)
          · exact a7 p q hp hq hpq
      · intro p hp q hq
        rcases hmem _ hq with hq | rfl
        · exact a8 p hp q hq
        · exact fun e => f3 (by rw [← e]; exact hp)
  · refine m.mono ?_
    rintro k _ (rfl | rfl)
    · simp only [Foot, List.mem_cons, List.mem_append]; exact .inr (.inr (.inl m1))
    · simp only [Foot, List.mem_cons, List.mem_append]; exact .inr (.inr (.inr m2))
  · intro k hk
    simp only [Foot, List.mem_cons, List.mem_append] at hk ⊢
    rcases hk with rfl | rfl | hk | hk
    · exact .inl (.inl rfl)
    · exact .inl (.inr (.inl rfl))
    · exact .inl (.inr (.inr (.inl hk)))
    · rcases List.mem_or_eq_of_mem_set hk with hk | rfl
      · exact .inl (.inr (.inr (.inr hk)))
      · rcases hb with hb | hb
        · exact .inl (.inr (.inr (.inr (by rw [hb]; exact m2))))
        · exact .inr hb
end

/-- of an index that New did not give -/
def Closed (w : World) (p : Value) : Prop := p = .pointer none ∨ ∃ bx, p = ptr bx ∧ Blk w bx [.slice none 0 0] 58
theorem Closed.keep {S : Nat → Prop} {w w' : World} {p : Value} (h : Closed w p) (m : Keep S w w') (hS : ∀ k, ¬ S k) : Closed w' p := by
  rcases h with h | ⟨bx, h, hb⟩
  · exact .inl h
  · exact .inr ⟨bx, h, hb.mod m (hS _)⟩

theorem stripes_closed (p : Value) (w : World) (h : Closed w p) : Calls Try.prog 10 #[p] w fun e w' => e = .returned (.int .i64 0) ∧ w = w' := by
  rcases h with rfl | ⟨bx, rfl, hb⟩
  · go_enter Try.func10, Try.ntmps10
    go_wp2
    go_ret
    exact ⟨rfl, rfl⟩
  · obtain ⟨z0, c0, f0⟩ := hb.one
    clear hb
    unfold ptr
    go_enter Try.func10, Try.ntmps10
    go_wp2
    go_ret
    exact ⟨rfl, rfl⟩
theorem stripes_any (bx bl n cap : Nat) (w : World) (hb : Blk w bx [.slice (some ⟨bl, 0, none⟩) n cap] 58) : Calls Try.prog 10 #[ptr bx] w fun e w' => e = .returned (.int .i64 n) ∧ w = w' := by
  obtain ⟨z0, c0, f0⟩ := hb.one
  clear hb
  unfold ptr
  go_enter Try.func10, Try.ntmps10
  go_wp2
  go_ret
  exact ⟨rfl, rfl⟩

/-- a hash's stripe -/
def stripeI (n : Nat) (h : Int) : Nat := (h % n).toNat
theorem stripeI_lt {n : Nat} (hn : 1 ≤ n) (h : Int) : stripeI n h < n := by
  unfold stripeI
  have h1 := Int.emod_lt_of_pos h (show (0 : Int) < n by omega)
  have h2 := Int.emod_nonneg h (show (n : Int) ≠ 0 by omega)
  omega

theorem stripe_closed (p : Value) (h : Int) (w : World) (hc : Closed w p) : Calls Try.prog 20 #[p, .int .u64 h] w fun e w' => e = .returned (.int .i64 0) ∧ w = w' := by
  have hs := stripes_closed p w hc
  clear hc
  go_enter Try.func20, Try.ntmps20
  go_wp2_with (go_at_call 10; refine hs.mono ?_; rintro e w' ⟨rfl, rfl⟩)
  go_ret
  exact ⟨rfl, rfl⟩
theorem stripe_any (bx bl n cap : Nat) (h : Int) (w : World) (hb : Blk w bx [.slice (some ⟨bl, 0, none⟩) n cap] 58) (hn : 1 ≤ n) (hn2 : n ≤ 64) (hh : 0 ≤ h) (hh2 : h < 18446744073709551616) :
    Calls Try.prog 20 #[ptr bx, .int .u64 h] w fun e w' => e = .returned (.int .i64 (stripeI n h : Nat)) ∧ w = w' := by
  have hs := stripes_any bx bl n cap w hb
  have hne : ((n : Int) == 0) = false := by simp; omega
  have hlt := stripeI_lt hn h
  have hm2 := Int.emod_nonneg h (show (n : Int) ≠ 0 by omega)
  have hm3 := Int.emod_lt_of_pos h (show (0 : Int) < n by omega)
  have E2 : Hid (h % (n : Int) = (stripeI n h : Nat)) := by
    show _ = _
    unfold stripeI
    omega
  obtain ⟨z0, c0, f0⟩ := hb.one
  clear hb hlt
  unfold ptr at *
  go_enter Try.func20, Try.ntmps20
  go_wp2_with (go_at_call 10; refine hs.mono ?_; rintro e w' ⟨rfl, rfl⟩)
  go_ret
  exact ⟨ret_int E2.out, rfl⟩

theorem at_closed (p : Value) (h : Int) (w : World) (hc : Closed w p) : Calls Try.prog 44 #[p, .int .u64 h] w fun e w' => e = .returned (.pointer none) ∧ w = w' := by
  have hs := stripes_closed p w hc
  clear hc
  go_enter Try.func44, Try.ntmps44
  go_wp2_with (go_at_call 10; refine hs.mono ?_; rintro e w' ⟨rfl, rfl⟩)
  go_ret
  exact ⟨rfl, rfl⟩
theorem at_any (bx bl most : Nat) (bts bss : List Nat) (Ls : List (List Ent)) (h : Int) (w : World) (hX : Idx w bx bl bts bss most Ls) (hh : 0 ≤ h) (hh2 : h < 18446744073709551616) :
    Calls Try.prog 44 #[ptr bx, .int .u64 h] w fun e w' => e = .returned (ptr (bts.getD (stripeI Ls.length h) 0)) ∧ ∃ n, w.drewN n = w' := by
  obtain ⟨cap, hb⟩ := hX.head
  have hn := hX.pos
  have hn2 := hX.most64
  have hs := stripes_any bx bl Ls.length cap w hb
  have hst : ∀ k, Calls Try.prog 20 #[ptr bx, .int .u64 h] (w.drewN k) fun e w' => e = .returned (.int .i64 (stripeI Ls.length h : Nat)) ∧ w.drewN k = w' := fun k => stripe_any bx bl Ls.length cap h (w.drewN k) (hb.drewN k) hn hn2 hh hh2
  have hlt := stripeI_lt hn h
  have hc := hX.at hlt
  have hne : ((Ls.length : Int) == 0) = false := beq_eq_false_iff_ne.2 (by omega)
  obtain ⟨z0, c0, f0⟩ := hb.one
  have h0 : 0 ≤ ((stripeI Ls.length h : Nat) : Int) := by omega
  have h1 : ((stripeI Ls.length h : Nat) : Int) < Ls.length := by omega
  clear hb hX
  generalize stripeI Ls.length h = s at *
  generalize bts.getD s 0 = bt at *
  unfold ptr at *
  go_enter Try.func44, Try.ntmps44
  go_wp2_with (go_at_call 10; refine hs.mono ?_; rintro e w' ⟨rfl, rfl⟩)
  go_quiet ((go_at_call 20; exact Calls.quiet_of_same ((hst _).mono fun e w' h => ⟨h.1, h.2.symm⟩)))
  go_wp2
  go_ret
  exact ⟨rfl, _, rfl⟩

theorem stripeN_closed (p : Value) (n : Int) (w : World) (hc : Closed w p) : Calls Try.prog 27 #[p, .int .i64 n] w fun e w' => e = .returned (.pointer none) ∧ w = w' := by
  have hs := stripes_closed p w hc
  clear hc
  by_cases hn : n < 0
  · have h1 : decide (n < 0) = true := by simpa using hn
    go_enter Try.func27, Try.ntmps27
    go_wp2_with (go_at_call 10; refine hs.mono ?_; rintro e w' ⟨rfl, rfl⟩)
    go_ret
    exact ⟨rfl, rfl⟩
  · have h1 : decide (n < 0) = false := by simpa using hn
    have h2 : 0 ≤ n := by omega
    go_enter Try.func27, Try.ntmps27
    go_wp2_with (go_at_call 10; refine hs.mono ?_; rintro e w' ⟨rfl, rfl⟩)
    go_ret
    exact ⟨rfl, rfl⟩
/-- the table of a stripe, if there is one -/
def tabOf (bts : List Nat) (n : Int) : Value := if 0 ≤ n ∧ n < bts.length then ptr (bts.getD n.toNat 0) else .pointer none
theorem stripeN_any (bx bl most : Nat) (bts bss : List Nat) (Ls : List (List Ent)) (n : Int) (w : World) (hX : Idx w bx bl bts bss most Ls) :
    Calls Try.prog 27 #[ptr bx, .int .i64 n] w fun e w' => e = .returned (tabOf bts n) ∧ w = w' := by
  obtain ⟨cap, hb⟩ := hX.head
  have hn := hX.pos
  have hn2 := hX.most64
  have hs := stripes_any bx bl Ls.length cap w hb
  obtain ⟨z0, c0, f0⟩ := hb.one
  have hl := hX.len1
  by_cases h0 : n < 0
  · have h1 : decide (n < 0) = true := by simpa using h0
    have H : Hid (tabOf bts n = .pointer none) := by show _ = _; rw [tabOf, if_neg (by omega)]
    clear hX hb h0
    unfold ptr at *
    go_enter Try.func27, Try.ntmps27
    go_wp2_with (go_at_call 10; refine hs.mono ?_; rintro e w' ⟨rfl, rfl⟩)
    go_ret
    exact ⟨by rw [H.out]; rfl, rfl⟩
  · have h1 : decide (n < 0) = false := by simpa using h0
    obtain ⟨m, rfl⟩ := Int.eq_ofNat_of_zero_le (show 0 ≤ n by omega)
    by_cases h2 : m < Ls.length
    · have hc := hX.at h2
      have H : Hid (tabOf bts m = ptr (bts.getD m 0)) := by show _ = _; rw [tabOf, if_pos (by omega)]; simp
      have h3 : (m : Int) < Ls.length := by omega
      have h4 : (0 : Int) ≤ m := by omega
      have h5 : decide ((Ls.length : Int) ≤ (m : Int)) = false := by simp; omega
      clear hX hb h0
      generalize bts.getD m 0 = bt at *
      have hc : w.cell? ⟨bl, m, none⟩ = some (.pointer (some ⟨bt, 0, none⟩)) := hc
      unfold ptr at *
      go_enter Try.func27, Try.ntmps27
      go_wp2_with (go_at_call 10; refine hs.mono ?_; rintro e w' ⟨rfl, rfl⟩)
      go_ret
      exact ⟨by rw [H.out]; rfl, rfl⟩
    · have H : Hid (tabOf bts m = .pointer none) := by show _ = _; rw [tabOf, if_neg (by omega)]
      have h6 : Ls.length ≤ m := by omega
      have h5 : decide ((Ls.length : Int) ≤ (m : Int)) = true := by simp; omega
      clear hX hb h0 h2
      unfold ptr at *
      go_enter Try.func27, Try.ntmps27
      go_wp2_with (go_at_call 10; refine hs.mono ?_; rintro e w' ⟨rfl, rfl⟩)
      go_ret
      exact ⟨by rw [H.out]; rfl, rfl⟩
end Go.Proofs.Ytaijfgajcmopfaa.X1
/- The index's calls, over what 'at' and the table's calls tell. -/
set_option linter.unusedVariables false
namespace Go.Proofs.Ytaijfgajcmopfaa.X2
open Go.RowKit Go.Shelf V Rh T W1 W2 W3 W4 W6 Rf X1

/-- W1 ~> W2 by R, in the midst of w ~> w': all else is of the call's own cells -/
def Around (w : World) (R : World → World → Prop) (w' : World) : Prop := ∃ A B, Keep No w A ∧ R A B ∧ A.heap.size ≤ B.heap.size ∧ Keep (fun k => w.heap.size ≤ k ∧ k < A.heap.size) B w'

set_option maxHeartbeats 400000 in
theorem get_walk (p q : Value) (h : Int) (en : Ent) (b : Bool) (w : World)
    (hat : ∀ W, Keep No w W → Calls Try.prog 44 #[p, .int .u64 h] W fun e w' => e = .returned q ∧ ∃ n, W.drewN n = w')
    (hget : ∀ W, Keep No w W → Calls Try.prog 45 #[q, .int .u64 h] W fun e w' => e = .returned (.tuple #[valE en, .bool b]) ∧ Keep No W w') :
    Calls Try.prog 26 #[p, .int .u64 h] w fun e w' => e = .returned (.tuple #[valE en, .bool b]) ∧ Keep No w w' := by
  have HB : Hid (Blk (w.alloc (.cells #[.int .u64 0, .int .u64 0, .int .u64 0, .int .u8 0] 27)) w.heap.size [.int .u64 0, .int .u64 0, .int .u64 0, .int .u8 0] 27) := Blk.new' _ rfl
  unfold valE at *
  go_enter Try.func26, Try.ntmps26
  go_wp2_with (first | (go_at_call 44; refine (hat _ ((Keep.refl _ _).alloc _)).mono ?_; rintro e w' ⟨rfl, n, rfl⟩) | (go_at_call 45; refine (hget _ (((Keep.refl _ _).alloc _).drewN _)).mono ?_; rintro e w1 ⟨rfl, hk⟩; have hk1 := hid (Keep.trans (((Keep.refl No w).alloc _).drewN _) hk (fun _ _ h => h)); have hd := hid ((HB.out.drewN n).mod hk (no _)); obtain ⟨q0, b0, b1, b2, b3, g0⟩ := hd.out.four; clear hk))
  exact bodyPost_ret (res_eu (e := en) rfl _ rfl rfl (Blk.setE hd.out en)) rfl ⟨rfl, hk1.out.set4 (fun h => absurd h (by omega)) _ _ _ _ _ _ _ _⟩

set_option maxHeartbeats 400000 in
theorem remove_walk (p q : Value) (h : Int) (en : Ent) (b : Bool) (w : World) (R : World → World → Prop)
    (hat : ∀ W, Keep No w W → Calls Try.prog 44 #[p, .int .u64 h] W fun e w' => e = .returned q ∧ ∃ n, W.drewN n = w')
    (hrem : ∀ W, Keep No w W → Calls Try.prog 29 #[q, .int .u64 h] W fun e w' => e = .returned (.tuple #[valE en, .bool b]) ∧ Keep (fun k => k < w.heap.size) W w' ∧ R W w') :
    Calls Try.prog 22 #[p, .int .u64 h] w fun e w' => e = .returned (.tuple #[valE en, .bool b]) ∧ Around w R w' := by
  have HB : Hid (Blk (w.alloc (.cells #[.int .u64 0, .int .u64 0, .int .u64 0, .int .u8 0] 27)) w.heap.size [.int .u64 0, .int .u64 0, .int .u64 0, .int .u8 0] 27) := Blk.new' _ rfl
  unfold valE at *
  go_enter Try.func22, Try.ntmps22
  go_wp2_with (first | (go_at_call 44; refine (hat _ ((Keep.refl _ _).alloc _)).mono ?_; rintro e w' ⟨rfl, n, rfl⟩) | (go_at_call 29; refine (hrem _ (((Keep.refl _ _).alloc _).drewN _)).mono ?_; rintro e w1 ⟨rfl, hk, hR⟩; have hd := hid ((HB.out.drewN n).mod hk (by simp)); obtain ⟨q0, b0, b1, b2, b3, g0⟩ := hd.out.four; have HR := hid hR; have hs := hid hk.size; clear hk hR))
  exact bodyPost_ret (res_eu (e := en) rfl _ rfl rfl (Blk.setE hd.out en)) rfl ⟨rfl, _, _, (((Keep.refl No w).alloc _).drewN _), HR.out, hs.out, (Keep.refl _ _).set4 (fun h => by simp) _ _ _ _ _ _ _ _⟩

theorem hit_walk (p q : Value) (h : Int) (b : Bool) (w : World) (R : World → World → Prop)
    (hat : ∀ W, Keep No w W → Calls Try.prog 44 #[p, .int .u64 h] W fun e w' => e = .returned q ∧ ∃ n, W.drewN n = w')
    (hhit : ∀ W, Keep No w W → Calls Try.prog 47 #[q, .int .u64 h] W fun e w' => e = .returned (.bool b) ∧ Keep (fun k => k < w.heap.size) W w' ∧ R W w') :
    Calls Try.prog 25 #[p, .int .u64 h] w fun e w' => e = .returned (.bool b) ∧ Around w R w' := by
  go_enter Try.func25, Try.ntmps25
  go_wp2_with (first | (go_at_call 44; refine (hat _ (Keep.refl _ _)).mono ?_; rintro e w' ⟨rfl, n, rfl⟩) | (go_at_call 47; refine (hhit _ ((Keep.refl _ _).drewN _)).mono ?_; rintro e w1 ⟨rfl, hk, hR⟩; have HR := hid hR; have hs := hid hk.size; clear hk hR))
  go_ret
  exact ⟨rfl, _, _, ((Keep.refl No w).drewN _), HR.out, hs.out, Keep.refl _ _⟩

theorem len_walk (p q : Value) (n k : Int) (w : World)
    (hat : Calls Try.prog 27 #[p, .int .i64 n] w fun e w' => e = .returned q ∧ w = w')
    (hlen : Calls Try.prog 43 #[q] w fun e w' => e = .returned (.int .i64 k) ∧ w = w') :
    Calls Try.prog 19 #[p, .int .i64 n] w fun e w' => e = .returned (.int .i64 k) ∧ w = w' := by
  go_enter Try.func19, Try.ntmps19
  go_wp2_with (first | (go_at_call 27; refine hat.mono ?_; rintro e w' ⟨rfl, rfl⟩) | (go_at_call 43; refine hlen.mono ?_; rintro e w1 ⟨rfl, rfl⟩))
  go_ret
  exact ⟨rfl, rfl⟩

theorem all_walk (p q : Value) (n : Int) (w : World)
    (hat : Calls Try.prog 27 #[p, .int .i64 n] w fun e w' => e = .returned q ∧ w = w')
    (hall : Calls Try.prog 28 #[q] w fun e w' => e = .returned (.func (.func 48) #[] #[.pointer (some ⟨w.heap.size, 0, none⟩)]) ∧ w.alloc (.cells #[q] 70) = w') :
    Calls Try.prog 11 #[p, .int .i64 n] w fun e w' => e = .returned (.func (.func 48) #[] #[.pointer (some ⟨w.heap.size, 0, none⟩)]) ∧ w.alloc (.cells #[q] 70) = w' := by
  go_enter Try.func11, Try.ntmps11
  go_wp2_with (first | (go_at_call 27; refine hat.mono ?_; rintro e w' ⟨rfl, rfl⟩) | (go_at_call 28; refine hall.mono ?_; rintro e w1 ⟨rfl, rfl⟩))
  go_ret
  exact ⟨rfl, rfl⟩

set_option maxHeartbeats 400000 in
theorem remIf_no (p : Value) (h at' : Int) (en : Ent) (b : Bool) (w : World)
    (hget : ∀ W, Keep No w W → Calls Try.prog 26 #[p, .int .u64 h] W fun e w' => e = .returned (.tuple #[valE en, .bool b]) ∧ Keep No W w')
    (hno : b = false ∨ b = true ∧ (en.a != at') = true) :
    Calls Try.prog 23 #[p, .int .u64 h, .int .u64 at'] w fun e w' => e = .returned (.bool false) ∧ Keep No w w' := by
  unfold valE at *
  rcases hno with rfl | ⟨rfl, hne⟩
  all_goals
    go_enter Try.func23, Try.ntmps23
    go_wp2_with (go_at_call 26; refine (hget _ (Keep.refl _ _)).mono ?_; rintro e w1 ⟨rfl, hk⟩; have hk1 := hid hk; clear hk)
    go_ret
    exact ⟨rfl, hk1.out.alloc _⟩

set_option maxHeartbeats 400000 in
theorem remIf_yes (p : Value) (h at' : Int) (en : Ent) (v1 v2 : Value) (w : World) (R : World → World → Prop)
    (hget : ∀ W, Keep No w W → Calls Try.prog 26 #[p, .int .u64 h] W fun e w' => e = .returned (.tuple #[valE en, .bool true]) ∧ Keep No W w')
    (hrem : ∀ W, Keep No w W → Calls Try.prog 22 #[p, .int .u64 h] W fun e w' => e = .returned (.tuple #[v1, v2]) ∧ Around W R w')
    (hno : (en.a != at') = false) :
    Calls Try.prog 23 #[p, .int .u64 h, .int .u64 at'] w fun e w' => e = .returned (.bool true) ∧ Around w R w' := by
  unfold valE at *
  go_enter Try.func23, Try.ntmps23
  go_wp2_with (first | (go_at_call 26; refine (hget _ (Keep.refl _ _)).mono ?_; rintro e w1 ⟨rfl, hk⟩; have hk1 := hid hk; clear hk) | (go_at_call 22; refine (hrem _ (hk1.out.alloc _)).mono ?_; rintro e w2 ⟨rfl, hA⟩; have HA := hid hA; clear hA))
  go_ret
  obtain ⟨A, B, h1, h2, h3, h4⟩ := HA.out
  refine ⟨rfl, A, B, Keep.trans (hk1.out.alloc _) h1 (fun _ _ h => h), h2, h3, h4.mono ?_⟩
  rintro k _ ⟨h5, h6⟩
  refine ⟨?_, h6⟩
  have := hk1.out.size
  simp at h5
  omega

set_option maxHeartbeats 400000 in
theorem move_no (p : Value) (h fr to : Int) (en : Ent) (b : Bool) (w : World)
    (hget : ∀ W, Keep No w W → Calls Try.prog 26 #[p, .int .u64 h] W fun e w' => e = .returned (.tuple #[valE en, .bool b]) ∧ Keep No W w')
    (hno : b = false ∨ b = true ∧ (en.a != fr) = true ∨ b = true ∧ (en.a != fr) = false ∧ (to == 0) = true) :
    Calls Try.prog 24 #[p, .int .u64 h, .int .u64 fr, .int .u64 to] w fun e w' => e = .returned (.bool false) ∧ Keep No w w' := by
  unfold valE at *
  rcases hno with rfl | ⟨rfl, hne⟩ | ⟨rfl, hne, hto⟩
  all_goals
    go_enter Try.func24, Try.ntmps24
    go_wp2_with (go_at_call 26; refine (hget _ (Keep.refl _ _)).mono ?_; rintro e w1 ⟨rfl, hk⟩; have hk1 := hid hk; clear hk)
    go_ret
    exact ⟨rfl, hk1.out.alloc _⟩

set_option maxHeartbeats 1000000 in
theorem move_yes (p q : Value) (h fr to : Int) (en : Ent) (w : World) (R : World → World → Prop)
    (hget : ∀ W, Keep No w W → Calls Try.prog 26 #[p, .int .u64 h] W fun e w' => e = .returned (.tuple #[valE en, .bool true]) ∧ Keep No W w')
    (hat : ∀ W, Keep No w W → Calls Try.prog 44 #[p, .int .u64 h] W fun e w' => e = .returned q ∧ ∃ n, W.drewN n = w')
    (hput : ∀ W, Keep No w W → Calls Try.prog 46 #[q, valE { en with a := to }] W fun e w' => (∃ v, e = .returned v) ∧ W.heap.size ≤ w'.heap.size ∧ R W w')
    (hyes : (en.a != fr) = false) (hto : (to == 0) = false) :
    Calls Try.prog 24 #[p, .int .u64 h, .int .u64 fr, .int .u64 to] w fun e w' => e = .returned (.bool true) ∧ Around w R w' := by
  unfold valE at *
  go_enter Try.func24, Try.ntmps24
  go_wp2_with (go_at_call 26; refine (hget _ (Keep.refl _ _)).mono ?_; rintro e w1 ⟨rfl, hk⟩; have hk1 := hid hk; clear hk)
  go_region_with (first | (go_at_call 44; refine (hat _ (hk1.out.alloc _).drew).mono ?_; rintro e w' ⟨rfl, n, rfl⟩) | (go_at_call 46; refine (hput _ ((hk1.out.alloc _).drewN _)).mono ?_; rintro e w2 ⟨⟨v, rfl⟩, hs, hR⟩; have HR := hid hR; have HS := hid hs; clear hR hs))
  all_goals
    go_wp2
    go_ret
    refine ⟨rfl, _, _, ((hk1.out.alloc _).drewN _), HR.out, HS.out, Keep.refl _ _⟩

set_option maxHeartbeats 400000 in
theorem put_closed (p : Value) (e : Ent) (w : World)
    (hat : ∀ W, Keep No w W → Calls Try.prog 44 #[p, .int .u64 e.h] W fun e w' => e = .returned (.pointer none) ∧ ∃ n, W.drewN n = w') :
    Calls Try.prog 21 #[p, valE e] w fun e' w' => e' = .returned (.tuple #[valE z, .bool false, .int .i64 6]) ∧ Keep No w w' := by
  have HB : Hid (Blk ((w.alloc (.cells #[.int .u64 e.h, .int .u64 e.a, .int .u64 e.v, .int .u8 e.c] 27)).alloc (.cells #[.int .u64 0, .int .u64 0, .int .u64 0, .int .u8 0] 27)) (w.heap.size + 1) [.int .u64 0, .int .u64 0, .int .u64 0, .int .u8 0] 27) := Blk.new1 _ rfl
  unfold valE at *
  go_enter Try.func21, Try.ntmps21
  go_wp2_with (first | (go_at_call 44; refine (hat _ (((Keep.refl _ _).alloc _).alloc _)).mono ?_; rintro e w' ⟨rfl, n, rfl⟩))
  exact bodyPost_ret (res_euv (e := z) rfl _ rfl rfl rfl (Blk.setE (HB.out.drewN n) z)) rfl ⟨rfl, ((((Keep.refl _ w).alloc _).alloc _).drewN _).set4 (fun h => absurd h (by omega)) _ _ _ _ _ _ _ _⟩

set_option maxHeartbeats 400000 in
theorem put_arg (p : Value) (bt : Nat) (e : Ent) (w : World)
    (hat : ∀ W, Keep No w W → Calls Try.prog 44 #[p, .int .u64 e.h] W fun e w' => e = .returned (.pointer (some ⟨bt, 0, none⟩)) ∧ ∃ n, W.drewN n = w')
    (ha : (e.a == 0) = true) :
    Calls Try.prog 21 #[p, valE e] w fun e' w' => e' = .returned (.tuple #[valE z, .bool false, .int .i64 1]) ∧ Keep No w w' := by
  have HB : Hid (Blk ((w.alloc (.cells #[.int .u64 e.h, .int .u64 e.a, .int .u64 e.v, .int .u8 e.c] 27)).alloc (.cells #[.int .u64 0, .int .u64 0, .int .u64 0, .int .u8 0] 27)) (w.heap.size + 1) [.int .u64 0, .int .u64 0, .int .u64 0, .int .u8 0] 27) := Blk.new1 _ rfl
  unfold valE at *
  go_enter Try.func21, Try.ntmps21
  go_wp2_with (first | (go_at_call 44; refine (hat _ (((Keep.refl _ _).alloc _).alloc _)).mono ?_; rintro e w' ⟨rfl, n, rfl⟩))
  exact bodyPost_ret (res_euv (e := z) rfl _ rfl rfl rfl (Blk.setE (HB.out.drewN n) z)) rfl ⟨rfl, ((((Keep.refl _ w).alloc _).alloc _).drewN _).set4 (fun h => absurd h (by omega)) _ _ _ _ _ _ _ _⟩

set_option maxHeartbeats 1000000 in
theorem put_older (p : Value) (bt : Nat) (e en : Ent) (w : World)
    (hat : ∀ W, Keep No w W → Calls Try.prog 44 #[p, .int .u64 e.h] W fun e w' => e = .returned (.pointer (some ⟨bt, 0, none⟩)) ∧ ∃ n, W.drewN n = w')
    (hget : ∀ W, Keep No w W → Calls Try.prog 45 #[.pointer (some ⟨bt, 0, none⟩), .int .u64 e.h] W fun e w' => e = .returned (.tuple #[valE en, .bool true]) ∧ Keep No W w')
    (ha : (e.a == 0) = false) (hv : decide (e.v < en.v) = true) :
    Calls Try.prog 21 #[p, valE e] w fun e' w' => e' = .returned (.tuple #[valE z, .bool false, .int .i64 120]) ∧ Keep No w w' := by
  have HB0 : Hid (Blk ((w.alloc (.cells #[.int .u64 e.h, .int .u64 e.a, .int .u64 e.v, .int .u8 e.c] 27)).alloc (.cells #[.int .u64 0, .int .u64 0, .int .u64 0, .int .u8 0] 27)) w.heap.size [.int .u64 e.h, .int .u64 e.a, .int .u64 e.v, .int .u8 e.c] 27) := (Blk.new' _ rfl).alloc _
  have HB : Hid (Blk ((w.alloc (.cells #[.int .u64 e.h, .int .u64 e.a, .int .u64 e.v, .int .u8 e.c] 27)).alloc (.cells #[.int .u64 0, .int .u64 0, .int .u64 0, .int .u8 0] 27)) (w.heap.size + 1) [.int .u64 0, .int .u64 0, .int .u64 0, .int .u8 0] 27) := Blk.new1 _ rfl
  unfold valE at *
  go_enter Try.func21, Try.ntmps21
  go_wp2_with (first | (go_at_call 44; refine (hat _ (((Keep.refl _ _).alloc _).alloc _)).mono ?_; rintro e w' ⟨rfl, n, rfl⟩) | (go_at_call 45; refine (hget _ ((((Keep.refl _ _).alloc _).alloc _).drewN _)).mono ?_; rintro e w1 ⟨rfl, hk⟩; have hk1 := hid (Keep.trans ((((Keep.refl No w).alloc _).alloc _).drewN _) hk (fun _ _ h => h)); have hd := hid ((HB.out.drewN n).mod hk (no _)); obtain ⟨q0, b0, b1, b2, b3, g0⟩ := hd.out.four; obtain ⟨q1, d0, d1, d2, d3, g1⟩ := ((HB0.out.drewN n).mod hk (no _)).four; have hsz : w.heap.size + 1 + 1 ≤ w1.heap.size := (by simpa using hk.size); clear hk))
  exact bodyPost_ret (res_euv (e := z) rfl _ rfl rfl rfl ((Blk.setE hd.out z).alloc _)) rfl ⟨rfl, (hk1.out.set4 (fun h => absurd h (by omega)) _ _ _ _ _ _ _ _).alloc _⟩

set_option maxHeartbeats 1000000 in
theorem put_on (p : Value) (bt : Nat) (e en eo : Ent) (b b' : Bool) (err : Int) (w : World) (R : World → World → Prop)
    (hat : ∀ W, Keep No w W → Calls Try.prog 44 #[p, .int .u64 e.h] W fun e w' => e = .returned (.pointer (some ⟨bt, 0, none⟩)) ∧ ∃ n, W.drewN n = w')
    (hget : ∀ W, Keep No w W → Calls Try.prog 45 #[.pointer (some ⟨bt, 0, none⟩), .int .u64 e.h] W fun e w' => e = .returned (.tuple #[valE en, .bool b]) ∧ Keep No W w')
    (hput : ∀ W, Keep No w W → Calls Try.prog 46 #[.pointer (some ⟨bt, 0, none⟩), valE e] W fun e w' => e = .returned (.tuple #[valE eo, .bool b', .int .i64 err]) ∧ Keep (fun k => k < w.heap.size) W w' ∧ R W w')
    (ha : (e.a == 0) = false) (hv : b = false ∨ b = true ∧ decide (e.v < en.v) = false) :
    Calls Try.prog 21 #[p, valE e] w fun e' w' => e' = .returned (.tuple #[valE eo, .bool b', .int .i64 err]) ∧ Around w R w' := by
  have HB0 : Hid (Blk ((w.alloc (.cells #[.int .u64 e.h, .int .u64 e.a, .int .u64 e.v, .int .u8 e.c] 27)).alloc (.cells #[.int .u64 0, .int .u64 0, .int .u64 0, .int .u8 0] 27)) w.heap.size [.int .u64 e.h, .int .u64 e.a, .int .u64 e.v, .int .u8 e.c] 27) := (Blk.new' _ rfl).alloc _
  have HB : Hid (Blk ((w.alloc (.cells #[.int .u64 e.h, .int .u64 e.a, .int .u64 e.v, .int .u8 e.c] 27)).alloc (.cells #[.int .u64 0, .int .u64 0, .int .u64 0, .int .u8 0] 27)) (w.heap.size + 1) [.int .u64 0, .int .u64 0, .int .u64 0, .int .u8 0] 27) := Blk.new1 _ rfl
  unfold valE at *
  rcases hv with rfl | ⟨rfl, hv⟩
  all_goals
    go_enter Try.func21, Try.ntmps21
    go_wp2_with (first | (go_at_call 44; refine (hat _ (((Keep.refl _ _).alloc _).alloc _)).mono ?_; rintro e w' ⟨rfl, n, rfl⟩) | (go_at_call 45; refine (hget _ ((((Keep.refl _ _).alloc _).alloc _).drewN _)).mono ?_; rintro e w1 ⟨rfl, hk⟩; have hk1 := hid (Keep.trans ((((Keep.refl No w).alloc _).alloc _).drewN _) hk (fun _ _ h => h)); have hd := hid ((HB.out.drewN n).mod hk (no _)); obtain ⟨q0, b0, b1, b2, b3, g0⟩ := hd.out.four; obtain ⟨q1, d0, d1, d2, d3, g1⟩ := ((HB0.out.drewN n).mod hk (no _)).four; have hsz : w.heap.size + 1 + 1 ≤ w1.heap.size := (by simpa using hk.size); clear hk) | (go_at_call 46; refine (hput _ (hk1.out.alloc _)).mono ?_; rintro e w2 ⟨rfl, hk, hR⟩; have hd2 := hid ((hd.out.alloc _).mod hk (by show ¬ (w.heap.size + 1 < w.heap.size); omega)); obtain ⟨p0, e0, e1, e2, e3, g2⟩ := hd2.out.four; have HR := hid hR; have hs := hid hk.size; clear hk hR))
    exact bodyPost_ret (res_euv (e := eo) rfl _ rfl rfl rfl (Blk.setE hd2.out eo)) rfl ⟨rfl, _, _, (hk1.out.alloc _), HR.out, hs.out, (Keep.refl _ _).set4 (fun h => ⟨by omega, by simp; omega⟩) _ _ _ _ _ _ _ _⟩
end Go.Proofs.Ytaijfgajcmopfaa.X2
