import Derived.Test.YtaijfgajcmopfaaV
import Derived.Test.YtaijfgajcmopfaaRh2
/- A table in memory. -/
set_option linter.unusedVariables false
namespace Go.Proofs.Ytaijfgajcmopfaa.T
open Go.RowKit V Rh

def cellsE (e : Ent) : List Value := [.int .u64 e.h, .int .u64 e.a, .int .u64 e.v, .int .u8 e.c]
def flat (es : List Ent) : List Value := es.flatMap cellsE

theorem flat_length (es : List Ent) : (flat es).length = 4 * es.length := by
  induction es with
  | nil => rfl
  | cons e es ih => simp only [flat, List.flatMap_cons, List.length_append, List.length_cons] at ih ⊢; rw [ih]; simp [cellsE]; omega
theorem flat_at {es : List Ent} : ∀ {i : Nat}, i < es.length → ∀ j, j < 4 → (flat es)[i * 4 + j]? = (cellsE (gt es i))[j]? := by
  induction es with
  | nil => intro i h; simp at h
  | cons e es ih =>
    intro i hi j hj
    unfold flat
    rw [List.flatMap_cons]
    cases i with
    | zero =>
      rw [List.getElem?_append_left (by simp [cellsE]; omega)]
      simp [gt]
    | succ i =>
      have h := ih (i := i) (by simpa using hi) j hj
      rw [List.getElem?_append_right (by simp [cellsE]; omega)]
      have e1 : (i + 1) * 4 + j - (cellsE e).length = i * 4 + j := by simp [cellsE]; omega
      rw [e1]
      unfold flat at h
      rw [h]
      simp [gt]
theorem flat_set {es : List Ent} {e : Ent} : ∀ {i : Nat}, i < es.length →
    ((((flat es).set (i * 4) (.int .u64 e.h)).set (i * 4 + 1) (.int .u64 e.a)).set (i * 4 + 2) (.int .u64 e.v)).set (i * 4 + 3) (.int .u8 e.c) = flat (es.set i e) := by
  induction es with
  | nil => intro i h; simp at h
  | cons x es ih =>
    intro i hi
    cases i with
    | zero => simp [flat, cellsE]
    | succ i =>
      have h := ih (i := i) (by simpa using hi)
      simp only [List.set_cons_succ]
      unfold flat at h ⊢
      rw [List.flatMap_cons, List.flatMap_cons, ← h]
      have e0 : (i + 1) * 4 = (cellsE x).length + i * 4 := by simp [cellsE]; omega
      rw [e0, Nat.add_assoc, Nat.add_assoc, Nat.add_assoc]
      simp only [List.set_append_right _ _ (Nat.le_add_right _ _), Nat.add_sub_cancel_left]

theorem Blk.set4 {w : World} {b : Nat} {es : List Ent} {xs : List Value} {t : TypeId} (h : Blk w b (flat es ++ xs) t) {i : Nat} (hi : i < es.length) (e : Ent) :
    Blk ((((w.setCell ⟨b, i * 4, none⟩ (.int .u64 e.h)).setCell ⟨b, i * 4 + 1, none⟩ (.int .u64 e.a)).setCell ⟨b, i * 4 + 2, none⟩ (.int .u64 e.v)).setCell ⟨b, i * 4 + 3, none⟩ (.int .u8 e.c)) b (flat (es.set i e) ++ xs) t := by
  have := (((h.set (i * 4) (.int .u64 e.h)).set (i * 4 + 1) (.int .u64 e.a)).set (i * 4 + 2) (.int .u64 e.v)).set (i * 4 + 3) (.int .u8 e.c)
  have hl := flat_length es
  rw [List.set_append_left _ _ (by omega), List.set_append_left _ _ (by simp; omega), List.set_append_left _ _ (by simp; omega), List.set_append_left _ _ (by simp; omega), flat_set hi] at this
  exact this

/-- slot i, cell by cell -/
theorem slot {w : World} {b : Nat} {es : List Ent} {xs : List Value} {t : TypeId} (h : Blk w b (flat es ++ xs) t) {i : Nat} (hi : i < es.length) :
    w.cell? ⟨b, i * 4, none⟩ = some (.int .u64 (gt es i).h) ∧ w.cell? ⟨b, i * 4 + 1, none⟩ = some (.int .u64 (gt es i).a) ∧ w.cell? ⟨b, i * 4 + 2, none⟩ = some (.int .u64 (gt es i).v) ∧ w.cell? ⟨b, i * 4 + 3, none⟩ = some (.int .u8 (gt es i).c) := by
  have hl := flat_length es
  refine ⟨?_, ?_, ?_, ?_⟩
  · rw [h.cell, List.getElem?_append_left (by omega)]; exact flat_at hi 0 (by omega)
  · rw [h.cell, List.getElem?_append_left (by omega)]; exact flat_at hi 1 (by omega)
  · rw [h.cell, List.getElem?_append_left (by omega)]; exact flat_at hi 2 (by omega)
  · rw [h.cell, List.getElem?_append_left (by omega)]; exact flat_at hi 3 (by omega)

/-- the table's own cells -/
def tabCells (bs N C bits most n : Nat) : List Value := [.slice (some ⟨bs, 0, none⟩) N C, .int .i64 bits, .int .i64 most, .int .i64 n]
/-- A table at block bt, its slots at block bs (with spare room behind). -/
structure Tab (w : World) (bt bs : Nat) (bits most : Nat) (es : List Ent) (n : Nat) : Prop where
  head : ∃ C, es.length ≤ C ∧ 0 ≤ C ∧ Blk w bt (tabCells bs es.length C bits most n) 90
  slots : ∃ xs, Blk w bs (flat es ++ xs) 27
  ne : bt ≠ bs
theorem Tab.cells {w : World} {bt bs bits most n : Nat} {es : List Ent} (h : Tab w bt bs bits most es n) :
    ∃ C, es.length ≤ C ∧ 0 ≤ C ∧ w.cell? ⟨bt, 0, none⟩ = some (.slice (some ⟨bs, 0, none⟩) es.length C) ∧ w.cell? ⟨bt, 1, none⟩ = some (.int .i64 bits) ∧ w.cell? ⟨bt, 2, none⟩ = some (.int .i64 most) ∧ w.cell? ⟨bt, 3, none⟩ = some (.int .i64 n) :=
  let ⟨C, h1, h2, hb⟩ := h.head
  ⟨C, h1, h2, hb.cell 0, hb.cell 1, hb.cell 2, hb.cell 3⟩
theorem Tab.drewN {w : World} {bt bs bits most n : Nat} {es : List Ent} (h : Tab w bt bs bits most es n) (k : Nat) : Tab (w.drewN k) bt bs bits most es n := ⟨h.head, h.slots, h.ne⟩
theorem Tab.mod {S : Nat → Prop} {w w' : World} {bt bs bits most n : Nat} {es : List Ent} (h : Tab w bt bs bits most es n) (m : Keep S w w') (h1 : ¬ S bt) (h2 : ¬ S bs) : Tab w' bt bs bits most es n :=
  ⟨let ⟨C, a, b, c⟩ := h.head; ⟨C, a, b, c.mod m h1⟩, let ⟨xs, a⟩ := h.slots; ⟨xs, a.mod m h2⟩, h.ne⟩
theorem Tab.lt {w : World} {bt bs bits most n : Nat} {es : List Ent} (h : Tab w bt bs bits most es n) : bt < w.heap.size ∧ bs < w.heap.size :=
  ⟨let ⟨_, _, _, c⟩ := h.head; c.lt, let ⟨_, a⟩ := h.slots; a.lt⟩
/-- what an entry's slot becomes -/
theorem set_c {es : List Ent} : ∀ {i : Nat} (hi : i < es.length) (x : Int), (flat es).set (i * 4 + 3) (.int .u8 x) = flat (es.set i { gt es i with c := x }) := by
  intro i hi x
  rw [← flat_set hi]
  have hl := flat_length es
  have e0 : (flat es).set (i * 4) (.int .u64 (gt es i).h) = flat es := by
    have := flat_at hi 0 (by omega)
    simp only [Nat.add_zero] at this
    refine List.ext_getElem? fun k => ?_
    rw [List.getElem?_set]
    split
    · rename_i h; subst h; rw [this]; simp [cellsE]; omega
    · rfl
  have e1 : (flat es).set (i * 4 + 1) (.int .u64 (gt es i).a) = flat es := by
    have := flat_at hi 1 (by omega)
    refine List.ext_getElem? fun k => ?_
    rw [List.getElem?_set]
    split
    · rename_i h; subst h; rw [this]; simp [cellsE]; omega
    · rfl
  have e2 : (flat es).set (i * 4 + 2) (.int .u64 (gt es i).v) = flat es := by
    have := flat_at hi 2 (by omega)
    refine List.ext_getElem? fun k => ?_
    rw [List.getElem?_set]
    split
    · rename_i h; subst h; rw [this]; simp [cellsE]; omega
    · rfl
  simp only [e0, e1, e2]


theorem set_gt {es : List Ent} {i : Nat} (hi : i < es.length) : es.set i (gt es i) = es := by
  refine List.ext_getElem? fun k => ?_
  rw [List.getElem?_set]
  split
  · rename_i h; subst h; simp [gt_of_lt hi, hi]
  · rfl
theorem Tab.set4 {w : World} {bt bs bits most n : Nat} {es : List Ent} (h : Tab w bt bs bits most es n) {i : Nat} (hi : i < es.length) (e : Ent) :
    Tab ((((w.setCell ⟨bs, i * 4, none⟩ (.int .u64 e.h)).setCell ⟨bs, i * 4 + 1, none⟩ (.int .u64 e.a)).setCell ⟨bs, i * 4 + 2, none⟩ (.int .u64 e.v)).setCell ⟨bs, i * 4 + 3, none⟩ (.int .u8 e.c)) bt bs bits most (es.set i e) n :=
  ⟨by
    obtain ⟨C, a, b, c⟩ := h.head
    refine ⟨C, by rw [List.length_set]; exact a, b, ?_⟩
    rw [List.length_set]
    exact (((c.other _ _ h.ne).other _ _ h.ne).other _ _ h.ne).other _ _ h.ne,
   let ⟨xs, a⟩ := h.slots; ⟨xs, Blk.set4 a hi e⟩, h.ne⟩
theorem Tab.setC {w : World} {bt bs bits most n : Nat} {es : List Ent} (h : Tab w bt bs bits most es n) {i : Nat} (hi : i < es.length) (x : Int) :
    Tab (w.setCell ⟨bs, i * 4 + 3, none⟩ (.int .u8 x)) bt bs bits most (es.set i { gt es i with c := x }) n :=
  ⟨by
    obtain ⟨C, a, b, c⟩ := h.head
    refine ⟨C, by rw [List.length_set]; exact a, b, ?_⟩
    rw [List.length_set]
    exact c.other _ _ h.ne,
   by
    obtain ⟨xs, a⟩ := h.slots
    refine ⟨xs, ?_⟩
    have := a.set (i * 4 + 3) (.int .u8 x)
    have hl := flat_length es
    rwa [List.set_append_left _ _ (by omega), set_c hi] at this, h.ne⟩
theorem Tab.setN {w : World} {bt bs bits most n : Nat} {es : List Ent} (h : Tab w bt bs bits most es n) (m : Nat) : Tab (w.setCell ⟨bt, 3, none⟩ (.int .i64 m)) bt bs bits most es m :=
  ⟨let ⟨C, a, b, c⟩ := h.head; ⟨C, a, b, c.set 3 _⟩, let ⟨xs, a⟩ := h.slots; ⟨xs, a.other _ _ (fun e => h.ne e.symm)⟩, h.ne⟩
theorem Tab.other {w : World} {bt bs bits most n : Nat} {es : List Ent} (h : Tab w bt bs bits most es n) (p : Addr) (u : Value) (h1 : bt ≠ p.block) (h2 : bs ≠ p.block) : Tab (w.setCell p u) bt bs bits most es n :=
  ⟨let ⟨C, a, b, c⟩ := h.head; ⟨C, a, b, c.other _ _ h1⟩, let ⟨xs, a⟩ := h.slots; ⟨xs, a.other _ _ h2⟩, h.ne⟩
theorem Tab.other4 {w : World} {bt bs bits most n : Nat} {es : List Ent} (h : Tab w bt bs bits most es n) {b : Nat} (h1 : bt ≠ b) (h2 : bs ≠ b) (i0 i1 i2 i3 : Nat) (x0 x1 x2 x3 : Value) :
    Tab ((((w.setCell ⟨b, i0, none⟩ x0).setCell ⟨b, i1, none⟩ x1).setCell ⟨b, i2, none⟩ x2).setCell ⟨b, i3, none⟩ x3) bt bs bits most es n := (((h.other _ _ h1 h2).other _ _ h1 h2).other _ _ h1 h2).other _ _ h1 h2
theorem Tab.alloc {w : World} {bt bs bits most n : Nat} {es : List Ent} (h : Tab w bt bs bits most es n) (o : Obj) : Tab (w.alloc o) bt bs bits most es n :=
  ⟨let ⟨C, a, b, c⟩ := h.head; ⟨C, a, b, c.alloc o⟩, let ⟨xs, a⟩ := h.slots; ⟨xs, a.alloc o⟩, h.ne⟩
theorem Tab.drew {w : World} {bt bs bits most n : Nat} {es : List Ent} (h : Tab w bt bs bits most es n) : Tab w.drew bt bs bits most es n := ⟨h.head, h.slots, h.ne⟩
theorem Blk.setE {w : World} {b : Nat} {x0 x1 x2 x3 : Value} {t : TypeId} (h : Blk w b [x0, x1, x2, x3] t) (e : Ent) :
    Blk ((((w.setCell ⟨b, 0, none⟩ (.int .u64 e.h)).setCell ⟨b, 1, none⟩ (.int .u64 e.a)).setCell ⟨b, 2, none⟩ (.int .u64 e.v)).setCell ⟨b, 3, none⟩ (.int .u8 e.c)) b (cellsE e) t := (((h.set 0 _).set 1 _).set 2 _).set 3 _
/-- what a walk reads of it -/
theorem Tab.open {w : World} {bt bs bits most n : Nat} {es : List Ent} (h : Tab w bt bs bits most es n) {i : Nat} (hi : i < es.length) :
    ∃ C, es.length ≤ C ∧ 0 ≤ C ∧ bt < w.heap.size ∧ bs < w.heap.size ∧ bt ≠ bs ∧ bs ≠ bt ∧
      w.cell? ⟨bt, 0, none⟩ = some (.slice (some ⟨bs, 0, none⟩) es.length C) ∧ w.cell? ⟨bt, 1, none⟩ = some (.int .i64 bits) ∧ w.cell? ⟨bt, 2, none⟩ = some (.int .i64 most) ∧ w.cell? ⟨bt, 3, none⟩ = some (.int .i64 n) ∧
      w.cell? ⟨bs, i * 4, none⟩ = some (.int .u64 (gt es i).h) ∧ w.cell? ⟨bs, i * 4 + 1, none⟩ = some (.int .u64 (gt es i).a) ∧ w.cell? ⟨bs, i * 4 + 2, none⟩ = some (.int .u64 (gt es i).v) ∧ w.cell? ⟨bs, i * 4 + 3, none⟩ = some (.int .u8 (gt es i).c) ∧
      (∀ k, w.frozen? ⟨bt, k, none⟩ = false) ∧ (∀ k, w.frozen? ⟨bs, k, none⟩ = false) := by
  obtain ⟨C, h1, h2, c⟩ := h.head
  obtain ⟨xs, a⟩ := h.slots
  obtain ⟨s0, s1, s2, s3⟩ := slot a hi
  exact ⟨C, h1, h2, c.lt, a.lt, h.ne, fun e => h.ne e.symm, c.cell 0, c.cell 1, c.cell 2, c.cell 3, s0, s1, s2, s3, c.frozen, a.frozen⟩
end Go.Proofs.Ytaijfgajcmopfaa.T
