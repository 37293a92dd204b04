/- Robin Hood order, in plain Lean: slots in a round, distances, finding, laying, taking out. -/
set_option linter.unusedVariables false
namespace Go.Proofs.Ytaijfgajcmopfaa.Rh

structure Ent where
  h : Int
  a : Int
  v : Int
  c : Int
  deriving DecidableEq, Inhabited

def z : Ent := ⟨0, 0, 0, 0⟩
def Ent.full (e : Ent) : Bool := e.a != 0
/-- fields within their kinds -/
def Ent.ok (e : Ent) : Prop := 0 ≤ e.h ∧ e.h < 18446744073709551616 ∧ 0 ≤ e.a ∧ e.a < 18446744073709551616 ∧ 0 ≤ e.v ∧ e.v < 18446744073709551616 ∧ 0 ≤ e.c ∧ e.c < 256

def home (bits : Nat) (h : Int) : Nat := (h / 2 ^ (64 - bits)).toNat

theorem home_lt {bits : Nat} (hb : bits ≤ 64) {h : Int} (h0 : 0 ≤ h) (h1 : h < 18446744073709551616) : home bits h < 2 ^ bits := by
  unfold home
  have e : (2 : Int) ^ (64 - bits) * 2 ^ bits = 18446744073709551616 := by
    rw [← Int.pow_add, Nat.sub_add_cancel hb]
    rfl
  have hp : (0 : Int) < 2 ^ (64 - bits) := Int.pow_pos (by decide)
  have : h / 2 ^ (64 - bits) < 2 ^ bits := Int.ediv_lt_of_lt_mul hp (by rw [Int.mul_comm, e]; exact h1)
  have h2 : 0 ≤ h / 2 ^ (64 - bits) := Int.ediv_nonneg h0 (Int.le_of_lt hp)
  have h3 : ((2 ^ bits : Nat) : Int) = 2 ^ bits := by simp
  omega

def gt (es : List Ent) (i : Nat) : Ent := es.getD i z
def nx (N i : Nat) : Nat := if i + 1 = N then 0 else i + 1
def cyc (N q k : Nat) : Nat := if q + k < N then q + k else q + k - N
/-- how far behind its home what stands in slot i stands -/
def dist (bits N : Nat) (es : List Ent) (i : Nat) : Nat :=
  if home bits (gt es i).h ≤ i then i - home bits (gt es i).h else i + N - home bits (gt es i).h
def dd (bits N : Nat) (es : List Ent) (i : Nat) : Nat := if (gt es i).full then dist bits N es i + 1 else 0
def RH (bits N : Nat) (es : List Ent) : Prop := ∀ i, i < N → dd bits N es (nx N i) ≤ dd bits N es i + 1

theorem mod_cyc {N x : Nat} (hN : 0 < N) (h : x < 2 * N) : x % N = if x < N then x else x - N := by
  split
  · exact Nat.mod_eq_of_lt ‹_›
  · rw [Nat.mod_eq_sub_mod (by omega), Nat.mod_eq_of_lt (by omega)]

theorem nx_lt {N i : Nat} (h : i < N) : nx N i < N := by unfold nx; split <;> omega
theorem cyc_lt {N q k : Nat} (hq : q < N) (hk : k ≤ N) : cyc N q k < N := by unfold cyc; split <;> omega
theorem cyc_zero {N q : Nat} (hq : q < N) : cyc N q 0 = q := by simp [cyc, hq]
theorem cyc_succ {N q k : Nat} (hq : q < N) (hk : k < N) : cyc N q (k + 1) = nx N (cyc N q k) := by unfold cyc nx; (repeat' split) <;> omega
theorem cyc_cyc {N q k j : Nat} (hq : q < N) (hk : k + j ≤ N) : cyc N (cyc N q k) j = cyc N q (k + j) := by unfold cyc; (repeat' split) <;> omega
/-- the way from q to p -/
def way (N q p : Nat) : Nat := if q ≤ p then p - q else p + N - q
theorem way_lt {N q p : Nat} (hq : q < N) (hp : p < N) : way N q p < N := by unfold way; split <;> omega
theorem cyc_way {N q p : Nat} (hq : q < N) (hp : p < N) : cyc N q (way N q p) = p := by unfold cyc way; (repeat' split) <;> omega
theorem way_cyc {N q k : Nat} (hq : q < N) (hk : k < N) : way N q (cyc N q k) = k := by unfold cyc way; (repeat' split) <;> omega
theorem dist_way (bits N : Nat) (es : List Ent) (i : Nat) : dist bits N es i = way N (home bits (gt es i).h) i := rfl

theorem dd_cyc {bits N : Nat} {es : List Ent} (h : RH bits N es) {q : Nat} (hq : q < N) : ∀ k, k < N → dd bits N es (cyc N q k) ≤ dd bits N es q + k := by
  intro k
  induction k with
  | zero => intro _; rw [cyc_zero hq]; omega
  | succ k ih =>
    intro hk
    rw [cyc_succ hq (by omega)]
    have := h (cyc N q k) (cyc_lt hq (by omega))
    have := ih (by omega)
    omega

/-- What stands at distance d: all slots on its way are full, and no nearer to their homes than the way says. -/
theorem on_way {bits N : Nat} {es : List Ent} (h : RH bits N es) (hb : ∀ i, i < N → (gt es i).full = true → home bits (gt es i).h < N) {p : Nat} (hp : p < N) (hf : (gt es p).full = true) {j : Nat} (hj : j ≤ dist bits N es p) :
    (gt es (cyc N (home bits (gt es p).h) j)).full = true ∧ j ≤ dist bits N es (cyc N (home bits (gt es p).h) j) := by
  have hh := hb p hp hf
  have hd : dist bits N es p < N := by rw [dist_way]; exact way_lt hh hp
  have h1 : cyc N (cyc N (home bits (gt es p).h) j) (dist bits N es p - j) = p := by
    rw [cyc_cyc hh (by omega), show j + (dist bits N es p - j) = dist bits N es p by omega, dist_way, cyc_way hh hp]
  have h2 := dd_cyc h (q := cyc N (home bits (gt es p).h) j) (cyc_lt hh (by omega)) (dist bits N es p - j) (by omega)
  rw [h1] at h2
  have h3 : dd bits N es p = dist bits N es p + 1 := by simp [dd, hf]
  have h4 : j + 1 ≤ dd bits N es (cyc N (home bits (gt es p).h) j) := by omega
  unfold dd at h4
  split at h4
  · exact ⟨‹_›, by omega⟩
  · omega

/-- where a hash stands; N if nowhere -/
def posOf (es : List Ent) (h : Int) : Option Nat := es.findIdx? (fun e => e.full && e.h == h)

/-- all slots that are full bear unlike hashes -/
def Uniq (N : Nat) (es : List Ent) : Prop := ∀ i j, i < N → j < N → (gt es i).full = true → (gt es j).full = true → (gt es i).h = (gt es j).h → i = j

theorem gt_of_lt {es : List Ent} {i : Nat} (h : i < es.length) : gt es i = es[i] := by simp [gt, h]

theorem posOf_some {N : Nat} {es : List Ent} (hl : es.length = N) (hu : Uniq N es) {h : Int} {p : Nat} (hp : p < N) (hf : (gt es p).full = true) (hh : (gt es p).h = h) : posOf es h = some p := by
  unfold posOf
  rw [List.findIdx?_eq_some_iff_getElem]
  refine ⟨by omega, ?_, ?_⟩
  · rw [gt_of_lt (by omega)] at hf hh; simp [hf, hh]
  · intro j hj
    rw [← gt_of_lt (by omega)]
    intro hc
    simp only [Bool.and_eq_true, beq_iff_eq] at hc
    have := hu j p (by omega) hp hc.1 hf (hc.2.trans hh.symm)
    omega

theorem posOf_none {N : Nat} {es : List Ent} (hl : es.length = N) {h : Int} (hn : ∀ p, p < N → (gt es p).full = true → (gt es p).h ≠ h) : posOf es h = none := by
  unfold posOf
  rw [List.findIdx?_eq_none_iff]
  intro e he
  obtain ⟨i, hi, rfl⟩ := List.getElem_of_mem he
  have := hn i (by omega)
  rw [gt_of_lt hi] at this
  cases hfe : (es[i]).full
  · simp
  · simp [this hfe]

theorem posOf_spec {N : Nat} {es : List Ent} (hl : es.length = N) {h : Int} {p : Nat} (hp : posOf es h = some p) : p < N ∧ (gt es p).full = true ∧ (gt es p).h = h := by
  unfold posOf at hp
  rw [List.findIdx?_eq_some_iff_getElem] at hp
  obtain ⟨h1, h2, _⟩ := hp
  rw [gt_of_lt h1]
  simp at h2
  exact ⟨by omega, h2.1, h2.2⟩

/-- the look: the first 'far' slots from home on are full, and of other hashes -/
def Looked (N bits : Nat) (es : List Ent) (h : Int) (far : Nat) : Prop :=
  ∀ j, j < far → (gt es (cyc N (home bits h) j)).full = true ∧ (gt es (cyc N (home bits h) j)).h ≠ h

theorem look_hit {N bits : Nat} {es : List Ent} (hl : es.length = N) (hu : Uniq N es) {h : Int} {far : Nat} (hh : home bits h < N) (hfar : far < N)
    (hf : (gt es (cyc N (home bits h) far)).full = true) (he : (gt es (cyc N (home bits h) far)).h = h) : posOf es h = some (cyc N (home bits h) far) :=
  posOf_some hl hu (cyc_lt hh (by omega)) hf he

theorem look_miss {N bits : Nat} {es : List Ent} (hl : es.length = N) (hr : RH bits N es) (hb : ∀ i, i < N → (gt es i).full = true → home bits (gt es i).h < N) {h : Int} {far : Nat} (hfar : far < N)
    (hL : Looked N bits es h far) (hstop : (gt es (cyc N (home bits h) far)).full = false ∨ dist bits N es (cyc N (home bits h) far) < far ∧ (gt es (cyc N (home bits h) far)).h ≠ h) : posOf es h = none := by
  refine posOf_none hl fun p hp hf he => ?_
  subst he
  have hh := hb p hp hf
  rcases Nat.lt_or_ge (dist bits N es p) far with hd | hd
  · have := (hL _ hd).2
    rw [dist_way, cyc_way hh hp] at this
    exact this rfl
  · have h1 := on_way hr hb hp hf hd
    rcases hstop with h2 | ⟨h2, _⟩
    · rw [h1.1] at h2; cases h2
    · omega

/-- there is an empty slot q: the look never passes it -/
theorem look_bound {N bits : Nat} {es : List Ent} {h : Int} (hh : home bits h < N) {q : Nat} (hq : q < N) (he : (gt es q).full = false) {far : Nat} (hL : Looked N bits es h far) : far ≤ way N (home bits h) q := by
  rcases Nat.lt_or_ge (way N (home bits h) q) far with hd | hd
  · have := (hL _ hd).1
    rw [cyc_way hh hq, he] at this
    cases this
  · exact hd

/-! ### Laying -/
theorem gt_set {es : List Ent} {i j : Nat} {e : Ent} (hi : i < es.length) : gt (es.set i e) j = if j = i then e else gt es j := by
  unfold gt
  rw [List.getD_eq_getElem?_getD, List.getD_eq_getElem?_getD, List.getElem?_set]
  by_cases h : i = j
  · subst h; simp [hi]
  · rw [if_neg h, if_neg (fun e => h e.symm)]

def ddOf (bits N : Nat) (e : Ent) (i : Nat) : Nat := if e.full then way N (home bits e.h) i + 1 else 0
theorem dd_eq (bits N : Nat) (es : List Ent) (i : Nat) : dd bits N es i = ddOf bits N (gt es i) i := rfl

/-- what holds while an entry is carried from slot to slot -/
structure Laying (bits N : Nat) (es : List Ent) (e : Ent) (at_ far : Nat) : Prop where
  len : es.length = N
  rh : RH bits N es
  at_lt : at_ < N
  full : e.full = true
  home_lt : home bits e.h < N
  far_eq : far = way N (home bits e.h) at_
  prev : ∀ p, p < N → nx N p = at_ → far ≤ dd bits N es p

theorem nx_inj {N i j : Nat} (hi : i < N) (hj : j < N) (h : nx N i = nx N j) : i = j := by unfold nx at h; (repeat' split at h) <;> omega
theorem exists_prev {N i : Nat} (hi : i < N) : ∃ p, p < N ∧ nx N p = i := by
  by_cases h : i = 0
  · exact ⟨N - 1, by omega, by unfold nx; split <;> omega⟩
  · exact ⟨i - 1, by omega, by unfold nx; split <;> omega⟩

theorem way_nx {N q i : Nat} (hq : q < N) (hi : i < N) (h : way N q i + 1 < N) : way N q (nx N i) = way N q i + 1 := by
  unfold way nx at *; (repeat' split) <;> (repeat' split at h) <;> omega

/-- laid into a slot that has room for it: what stands there is no farther from home -/
theorem rh_set {bits N : Nat} {es : List Ent} {e : Ent} {at_ far : Nat} (L : Laying bits N es e at_ far) (h : dd bits N es at_ ≤ far + 1) : RH bits N (es.set at_ e) := by
  have hl := L.len
  have ha := L.at_lt
  intro i hi
  rw [dd_eq, dd_eq, gt_set (by omega), gt_set (by omega)]
  have he : ddOf bits N e at_ = far + 1 := by rw [ddOf, if_pos L.full, ← L.far_eq]
  have h0 := L.rh i hi
  rw [dd_eq, dd_eq] at h0
  rw [dd_eq] at h
  split
  · rename_i h1
    split
    · rename_i h2; subst h2; rw [h1, he]; omega
    · rw [h1, he]
      have := L.prev i hi h1
      rw [dd_eq] at this
      omega
  · split
    · rename_i h1 h2
      subst h2
      rw [he]
      omega
    · exact h0

theorem laying_free {bits N : Nat} {es : List Ent} {e : Ent} {at_ far : Nat} (L : Laying bits N es e at_ far) (h : (gt es at_).full = false) : RH bits N (es.set at_ e) := by
  refine rh_set L ?_
  rw [dd_eq, ddOf, h]
  simp

/-- passed by -/
theorem laying_pass {bits N : Nat} {es : List Ent} {e : Ent} {at_ far : Nat} (L : Laying bits N es e at_ far) (hN : far + 1 < N) (hf : (gt es at_).full = true) (h : far ≤ dist bits N es at_) : Laying bits N es e (nx N at_) (far + 1) where
  len := L.len
  rh := L.rh
  at_lt := nx_lt L.at_lt
  full := L.full
  home_lt := L.home_lt
  far_eq := by rw [way_nx L.home_lt L.at_lt (by rw [← L.far_eq]; exact hN), ← L.far_eq]
  prev := fun p hp hpn => by
    obtain rfl := nx_inj hp L.at_lt hpn
    rw [dd_eq, ddOf, if_pos hf]
    rw [dist_way] at h
    omega

/-- laid down, and what stood there taken up -/
theorem laying_swap {bits N : Nat} {es : List Ent} {e : Ent} {at_ far : Nat} (L : Laying bits N es e at_ far) (hh : home bits (gt es at_).h < N) (hf : (gt es at_).full = true) (h : dist bits N es at_ ≤ far) (hN : dist bits N es at_ + 1 < N) :
    Laying bits N (es.set at_ e) (gt es at_) (nx N at_) (dist bits N es at_ + 1) where
  len := by rw [List.length_set]; exact L.len
  rh := rh_set L (by rw [dd_eq, ddOf, if_pos hf]; rw [dist_way] at h; omega)
  at_lt := nx_lt L.at_lt
  full := hf
  home_lt := hh
  far_eq := by rw [dist_way, way_nx hh L.at_lt (by rw [dist_way] at hN; exact hN)]
  prev := fun p hp hpn => by
    obtain rfl := nx_inj hp L.at_lt hpn
    rw [dd_eq, gt_set (by have := L.len; omega), if_pos rfl, ddOf, if_pos L.full, ← L.far_eq]
    omega

/-! The entries that are there -/
def there (es : List Ent) : List Ent := es.filter Ent.full

theorem set_perm {es : List Ent} {i : Nat} {e : Ent} (hi : i < es.length) : (es.set i e ++ [gt es i]).Perm (es ++ [e]) := by
  rw [gt_of_lt hi]
  induction es generalizing i with
  | nil => simp at hi
  | cons x es ih =>
    cases i with
    | zero =>
      simp only [List.set_cons_zero, List.getElem_cons_zero, List.cons_append]
      have h1 : (e :: (es ++ [x])).Perm (e :: x :: es) := (List.perm_append_singleton x es).cons e
      have h2 : (x :: (es ++ [e])).Perm (x :: e :: es) := (List.perm_append_singleton e es).cons x
      exact h1.trans ((List.Perm.swap x e es).trans h2.symm)
    | succ i =>
      simp only [List.set_cons_succ, List.getElem_cons_succ, List.cons_append]
      exact (ih (by simpa using hi)).cons x

theorem there_set_free {es : List Ent} {i : Nat} {e : Ent} (hi : i < es.length) (hf : (gt es i).full = false) (he : e.full = true) : (there (es.set i e)).Perm (e :: there es) := by
  have h := (set_perm (e := e) hi).filter Ent.full
  simp only [List.filter_append, List.filter_cons, hf, he, List.filter_nil, Bool.false_eq_true, if_false, if_true, List.append_nil] at h
  exact h.trans (List.perm_append_singleton e _)

theorem there_set_swap {es : List Ent} {i : Nat} {e : Ent} (hi : i < es.length) (hf : (gt es i).full = true) (he : e.full = true) : (gt es i :: there (es.set i e)).Perm (e :: there es) := by
  have h := (set_perm (e := e) hi).filter Ent.full
  simp only [List.filter_append, List.filter_cons, hf, he, List.filter_nil, if_true] at h
  exact (List.perm_append_singleton _ _).symm.trans (h.trans (List.perm_append_singleton e _))

end Go.Proofs.Ytaijfgajcmopfaa.Rh
