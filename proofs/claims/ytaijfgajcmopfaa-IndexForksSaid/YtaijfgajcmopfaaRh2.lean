import Derived.Test.YtaijfgajcmopfaaRh
/- Robin Hood order: taking out; a table's invariant; the list by rising hash that it stands for. -/
set_option linter.unusedVariables false
namespace Go.Proofs.Ytaijfgajcmopfaa.Rh

theorem way_prev {N q i : Nat} (hq : q < N) (hi : i < N) (h : 1 ≤ way N q (nx N i)) : way N q i + 1 = way N q (nx N i) := by
  unfold way nx at *; (repeat' split) <;> (repeat' split at h) <;> omega

/-- what stands in the next slot, away from its home, moves one back -/
theorem rh_shift {bits N : Nat} {es : List Ent} (hl : es.length = N) (hr : RH bits N es) {i : Nat} (hi : i < N) (hh : home bits (gt es (nx N i)).h < N) (hf : (gt es (nx N i)).full = true) (hd : dist bits N es (nx N i) ≠ 0) :
    RH bits N (es.set i (gt es (nx N i))) := by
  have hw := way_prev hh hi (by rw [dist_way] at hd; omega)
  have hnew : ddOf bits N (gt es (nx N i)) i + 1 = dd bits N es (nx N i) := by
    rw [dd_eq, ddOf, ddOf, if_pos hf, if_pos hf]; omega
  intro j hj
  rw [dd_eq, dd_eq, gt_set (by omega), gt_set (by omega)]
  have h0 := hr j hj
  have h1 := hr i hi
  rw [dd_eq, dd_eq] at h0 
  rw [dd_eq bits N es i] at h1
  split
  · rename_i e1
    rw [e1]
    split
    · rename_i e2; rw [e2]; omega
    · rw [e1] at h0; omega
  · split
    · rename_i e2
      subst e2
      have h2 := dd_eq bits N es (nx N j)
      omega
    · exact h0

theorem rh_clear {bits N : Nat} {es : List Ent} (hl : es.length = N) (hr : RH bits N es) {i : Nat} (hi : i < N) (hs : (gt es (nx N i)).full = false ∨ dist bits N es (nx N i) = 0) : RH bits N (es.set i z) := by
  have hz : ddOf bits N z i = 0 := by simp [ddOf, z, Ent.full]
  intro j hj
  rw [dd_eq, dd_eq, gt_set (by omega), gt_set (by omega)]
  have h0 := hr j hj
  rw [dd_eq, dd_eq] at h0
  split
  · rename_i e1; rw [e1, hz]; omega
  · split
    · rename_i e1 e2
      subst e2
      rw [hz]
      rcases hs with hs | hs
      · rw [ddOf, hs]; simp
      · rw [dist_way] at hs
        unfold ddOf
        split <;> omega
    · exact h0

theorem uniq_of {es : List Ent} (h : (there es).Pairwise (fun a b => a.h ≠ b.h)) : Uniq es.length es := by
  unfold there at h
  rw [List.pairwise_filter, List.pairwise_iff_getElem] at h
  intro i j hi hj fi fj e
  rw [gt_of_lt hi] at fi e
  rw [gt_of_lt hj] at fj e
  rcases Nat.lt_trichotomy i j with hl | hl | hl
  · exact absurd e (h i j hi hj hl fi fj)
  · exact hl
  · exact absurd e.symm (h j i hj hi hl fj fi)

/-! The list -/
def lget (h : Int) (L : List Ent) : Option Ent := L.find? (fun e => e.h == h)
def lrem (h : Int) (L : List Ent) : List Ent := L.filter (fun e => e.h != h)
def lput (e : Ent) (L : List Ent) : List Ent := L.filter (fun x => decide (x.h < e.h)) ++ e :: L.filter (fun x => decide (e.h < x.h))
abbrev Sorted (L : List Ent) : Prop := L.Pairwise (fun a b => a.h < b.h)

theorem sorted_lrem {L : List Ent} (h : Sorted L) (k : Int) : Sorted (lrem k L) := h.filter _
theorem sorted_lput {L : List Ent} (h : Sorted L) (e : Ent) : Sorted (lput e L) := by
  unfold lput Sorted
  rw [List.pairwise_append]
  refine ⟨h.filter _, ?_, ?_⟩
  · rw [List.pairwise_cons]
    refine ⟨fun b hb => ?_, h.filter _⟩
    simpa using (List.mem_filter.1 hb).2
  · intro a ha b hb
    have h1 : a.h < e.h := by simpa using (List.mem_filter.1 ha).2
    rcases List.mem_cons.1 hb with rfl | hb
    · exact h1
    · have h2 : e.h < b.h := by simpa using (List.mem_filter.1 hb).2
      omega

theorem lput_perm {L : List Ent} (h : Sorted L) (e : Ent) : (lput e L).Perm (e :: lrem e.h L) := by
  unfold lput lrem
  refine List.perm_middle.trans (List.Perm.cons e ?_)
  have h1 : (L.filter (fun x => x.h != e.h)).Perm ((L.filter (fun x => x.h != e.h)).filter (fun x => decide (x.h < e.h)) ++ (L.filter (fun x => x.h != e.h)).filter (fun x => !decide (x.h < e.h))) := (List.filter_append_perm _ _).symm
  refine (h1.trans ?_).symm
  rw [List.filter_filter, List.filter_filter]
  have e1 : (fun x : Ent => decide (x.h < e.h) && (x.h != e.h)) = fun x => decide (x.h < e.h) := by
    funext x
    by_cases c : x.h < e.h
    · have : x.h ≠ e.h := by omega
      simp [c, this]
    · simp [c]
  have e2 : (fun x : Ent => (!decide (x.h < e.h)) && (x.h != e.h)) = fun x => decide (e.h < x.h) := by
    funext x
    by_cases c : x.h < e.h
    · have : ¬ e.h < x.h := by omega
      simp [c, this]
    · by_cases d : x.h = e.h
      · simp [d]
      · have : e.h < x.h := by omega
        simp [c, d, this]
  rw [e1, e2]

theorem lrem_of_none {L : List Ent} {h : Int} (hn : lget h L = none) : lrem h L = L := by
  unfold lget at hn
  rw [List.find?_eq_none] at hn
  unfold lrem
  rw [List.filter_eq_self]
  intro a ha
  have := hn a ha
  simpa using this

theorem lget_some {L : List Ent} {h : Int} {e : Ent} (hs : lget h L = some e) : e ∈ L ∧ e.h = h := by
  unfold lget at hs
  exact ⟨List.mem_of_find?_eq_some hs, by simpa using List.find?_some hs⟩
theorem lget_mem {L : List Ent} (hs : Sorted L) {e : Ent} (he : e ∈ L) : lget e.h L = some e := by
  induction L with
  | nil => cases he
  | cons x L ih =>
    have hx := List.pairwise_cons.1 hs
    unfold lget at ih ⊢
    rw [List.find?_cons]
    rcases List.mem_cons.1 he with rfl | he
    · simp
    · have : x.h < e.h := hx.1 e he
      have h2 : (x.h == e.h) = false := by simp; omega
      rw [h2]
      exact ih hx.2 he

theorem perm_lrem {L : List Ent} (hs : Sorted L) {h : Int} {e : Ent} (he : lget h L = some e) : L.Perm (e :: lrem h L) := by
  obtain ⟨hm, rfl⟩ := lget_some he
  clear he
  induction L with
  | nil => cases hm
  | cons x L ih =>
    have hx := List.pairwise_cons.1 hs
    unfold lrem at ih ⊢
    rw [List.filter_cons]
    rcases List.mem_cons.1 hm with rfl | hm'
    · simp only [bne_self_eq_false, Bool.false_eq_true, if_false]
      have : L.filter (fun x => x.h != e.h) = L := by
        rw [List.filter_eq_self]
        intro a ha
        have := hx.1 a ha
        simp; omega
      rw [this]
    · have h1 : x.h < e.h := hx.1 e hm'
      have h2 : (x.h != e.h) = true := by simp; omega
      rw [h2, if_pos rfl]
      exact ((ih hx.2 hm').cons x).trans (List.Perm.swap e x _)

theorem lput_length_some {L : List Ent} (hs : Sorted L) {e o : Ent} (ho : lget e.h L = some o) : (lput e L).length = L.length := by
  rw [(lput_perm hs e).length_eq, (perm_lrem hs ho).length_eq]; simp
theorem lput_length_none {L : List Ent} (hs : Sorted L) {e : Ent} (ho : lget e.h L = none) : (lput e L).length = L.length + 1 := by
  rw [(lput_perm hs e).length_eq, lrem_of_none ho]; simp
theorem lrem_length {L : List Ent} (hs : Sorted L) {h : Int} {o : Ent} (ho : lget h L = some o) : (lrem h L).length + 1 = L.length := by
  rw [(perm_lrem hs ho).length_eq]; simp

/-! A table's invariant: 'es' its slots, 'L' what it stands for -/
structure TInv (bits most : Nat) (es L : List Ent) : Prop where
  b2 : 2 ≤ bits
  bm : bits ≤ most
  m16 : most ≤ 16
  len : es.length = 2 ^ bits
  rh : RH bits (2 ^ bits) es
  perm : (there es).Perm L
  sorted : Sorted L
  room : 8 * L.length ≤ 7 * 2 ^ bits
  ok : ∀ e ∈ L, e.ok ∧ e.full = true

theorem two_le_pow {bits : Nat} (h : 2 ≤ bits) : 4 ≤ 2 ^ bits := by
  have : 2 ^ 2 ≤ 2 ^ bits := Nat.pow_le_pow_right (by decide) h
  omega
theorem pow_le16 {bits : Nat} (h : bits ≤ 16) : 2 ^ bits ≤ 65536 := by
  have : 2 ^ bits ≤ 2 ^ 16 := Nat.pow_le_pow_right (by decide) h
  omega

section
variable {bits most : Nat} {es L : List Ent}
theorem TInv.n_pos (T : TInv bits most es L) : 4 ≤ 2 ^ bits := two_le_pow T.b2
theorem TInv.n_le (T : TInv bits most es L) : 2 ^ bits ≤ 65536 := pow_le16 (Nat.le_trans T.bm T.m16)
theorem TInv.uniq (T : TInv bits most es L) : Uniq (2 ^ bits) es := by
  rw [← T.len]
  refine uniq_of ?_
  have h1 : L.Pairwise (fun a b => a.h ≠ b.h) := T.sorted.imp (fun h => by omega)
  exact (T.perm.pairwise_iff (fun h => fun e => h e.symm)).2 h1
theorem mem_there {i : Nat} (hi : i < es.length) (hf : (gt es i).full = true) : gt es i ∈ there es := by
  unfold there
  rw [List.mem_filter]
  exact ⟨by rw [gt_of_lt hi]; exact List.getElem_mem hi, hf⟩
theorem TInv.mem (T : TInv bits most es L) {i : Nat} (hi : i < 2 ^ bits) (hf : (gt es i).full = true) : gt es i ∈ L :=
  T.perm.mem_iff.1 (mem_there (by rw [T.len]; exact hi) hf)
theorem TInv.home (T : TInv bits most es L) : ∀ i, i < 2 ^ bits → (gt es i).full = true → Rh.home bits (gt es i).h < 2 ^ bits := fun i hi hf =>
  have h := (T.ok _ (T.mem hi hf)).1
  home_lt (by have := T.bm; have := T.m16; omega) h.1 h.2.1
theorem exists_free {N : Nat} {es : List Ent} (hl : es.length = N) (h : (there es).length < N) : ∃ q, q < N ∧ (gt es q).full = false := by
  have : ∃ e ∈ es, ¬ e.full = true := by
    apply Classical.byContradiction
    intro hc
    have : es.filter Ent.full = es := by
      rw [List.filter_eq_self]
      intro a ha
      exact Classical.byContradiction fun h2 => hc ⟨a, ha, h2⟩
    unfold there at h
    rw [this] at h
    omega
  obtain ⟨e, he, hf⟩ := this
  obtain ⟨i, hi, rfl⟩ := List.getElem_of_mem he
  exact ⟨i, by omega, by rw [gt_of_lt hi]; simpa using hf⟩
theorem TInv.free (T : TInv bits most es L) : ∃ q, q < 2 ^ bits ∧ (gt es q).full = false :=
  exists_free T.len (by rw [T.perm.length_eq]; have := T.room; have := T.n_pos; omega)

theorem TInv.pos_some (T : TInv bits most es L) {h : Int} {p : Nat} (hp : posOf es h = some p) : lget h L = some (gt es p) := by
  obtain ⟨h1, h2, rfl⟩ := posOf_spec T.len hp
  exact lget_mem T.sorted (T.mem h1 h2)
theorem TInv.pos_none (T : TInv bits most es L) {h : Int} (hp : posOf es h = none) : lget h L = none := by
  unfold lget
  rw [List.find?_eq_none]
  intro e he hc
  have hc : e.h = h := by simpa using hc
  have : e ∈ there es := T.perm.mem_iff.2 he
  unfold there at this
  obtain ⟨h1, h2⟩ := List.mem_filter.1 this
  unfold posOf at hp
  rw [List.findIdx?_eq_none_iff] at hp
  have := hp e h1
  simp [h2, hc] at this
/-- in the place of another one of its hash -/
theorem TInv.replace (T : TInv bits most es L) {e : Ent} {p : Nat} (hp : posOf es e.h = some p) (he : e.full = true) (hok : e.ok) : TInv bits most (es.set p e) (lput e L) := by
  obtain ⟨h1, h2, h3⟩ := posOf_spec T.len hp
  have hg := T.pos_some hp
  refine ⟨T.b2, T.bm, T.m16, by rw [List.length_set]; exact T.len, ?_, ?_, sorted_lput T.sorted e, ?_, ?_⟩
  · intro i hi
    have h0 := T.rh i hi
    have hll := T.len
    rw [dd_eq, dd_eq] at h0 ⊢
    rw [gt_set (by omega), gt_set (by omega)]
    have hs : ∀ j, j = p → ddOf bits (2 ^ bits) e j = ddOf bits (2 ^ bits) (gt es j) j := by
      rintro j rfl
      rw [ddOf, ddOf, if_pos he, if_pos h2, h3]
    split
    · rename_i e1
      split
      · rename_i e2; rw [hs _ e1, hs _ e2]; exact h0
      · rw [hs _ e1]; exact h0
    · split
      · rename_i e2; rw [hs _ e2]; exact h0
      · exact h0
  · have h4 := there_set_swap (e := e) (i := p) (by rw [T.len]; exact h1) h2 he
    have h5 : (e :: there es).Perm (e :: gt es p :: lrem e.h L) := (T.perm.trans (perm_lrem T.sorted hg)).cons e
    have h6 := (h4.trans h5).trans (List.Perm.swap _ _ _)
    exact ((List.perm_cons _).1 h6).trans (lput_perm T.sorted e).symm
  · rw [lput_length_some T.sorted hg]; exact T.room
  · intro x hx
    rw [(lput_perm T.sorted e).mem_iff] at hx
    rcases List.mem_cons.1 hx with rfl | hx
    · exact ⟨hok, he⟩
    · exact T.ok x (List.mem_filter.1 hx).1
/-- laid anew -/
theorem TInv.laid (T : TInv bits most es L) {e : Ent} {es' : List Ent} (hp : posOf es e.h = none) (he : e.full = true) (hok : e.ok) (hroom : 8 * (L.length + 1) ≤ 7 * 2 ^ bits) (hl : es'.length = 2 ^ bits) (hr : RH bits (2 ^ bits) es')
    (hpm : (there es').Perm (e :: there es)) : TInv bits most es' (lput e L) := by
  have hg := T.pos_none hp
  refine ⟨T.b2, T.bm, T.m16, hl, hr, ?_, sorted_lput T.sorted e, ?_, ?_⟩
  · refine (hpm.trans (T.perm.cons e)).trans ?_
    have := lput_perm T.sorted e
    rw [lrem_of_none hg] at this
    exact this.symm
  · rw [lput_length_none T.sorted hg]; exact hroom
  · intro x hx
    rw [(lput_perm T.sorted e).mem_iff] at hx
    rcases List.mem_cons.1 hx with rfl | hx
    · exact ⟨hok, he⟩
    · exact T.ok x (List.mem_filter.1 hx).1
theorem TInv.removed (T : TInv bits most es L) {h : Int} {o : Ent} {es' : List Ent} (hg : lget h L = some o) (hl : es'.length = 2 ^ bits) (hr : RH bits (2 ^ bits) es') (hpm : (o :: there es').Perm (there es)) : TInv bits most es' (lrem h L) := by
  refine ⟨T.b2, T.bm, T.m16, hl, hr, ?_, sorted_lrem T.sorted h, ?_, ?_⟩
  · exact (List.perm_cons _).1 ((hpm.trans T.perm).trans (perm_lrem T.sorted hg))
  · have := lrem_length T.sorted hg; have := T.room; omega
  · intro x hx
    exact T.ok x (List.mem_filter.1 hx).1
end

/-- taking out: the hole has come to slot i -/
structure Hole (bits N : Nat) (es : List Ent) (rest : List Ent) (i : Nat) : Prop where
  len : es.length = N
  rh : RH bits N es
  lt : i < N
  full : (gt es i).full = true
  perm : (there es).Perm (gt es i :: rest)
  home : ∀ i, i < N → (gt es i).full = true → Rh.home bits (gt es i).h < N

theorem Hole.shift {bits N : Nat} {es rest : List Ent} {i : Nat} (H : Hole bits N es rest i) (hf : (gt es (nx N i)).full = true) (hd : dist bits N es (nx N i) ≠ 0) (hne : nx N i ≠ i) : Hole bits N (es.set i (gt es (nx N i))) rest (nx N i) where
  len := by rw [List.length_set]; exact H.len
  rh := rh_shift H.len H.rh H.lt (H.home _ (nx_lt H.lt) hf) hf hd
  lt := nx_lt H.lt
  full := by rw [gt_set (by have := H.len; have := H.lt; omega), if_neg hne]; exact hf
  perm := by
    rw [gt_set (by have := H.len; have := H.lt; omega), if_neg hne]
    have h4 := there_set_swap (e := gt es (nx N i)) (i := i) (by have := H.len; have := H.lt; omega) H.full hf
    have h5 := (h4.trans (H.perm.cons _)).trans (List.Perm.swap _ _ _)
    exact (List.perm_cons _).1 h5
  home := by
    intro j hj
    rw [gt_set (by have := H.len; have := H.lt; omega)]
    split
    · intro h; exact H.home _ (nx_lt H.lt) h
    · exact H.home j hj
theorem Hole.clear {bits N : Nat} {es rest : List Ent} {i : Nat} (H : Hole bits N es rest i) (hs : (gt es (nx N i)).full = false ∨ dist bits N es (nx N i) = 0) : RH bits N (es.set i z) ∧ (there (es.set i z)).Perm rest := by
  refine ⟨rh_clear H.len H.rh H.lt hs, ?_⟩
  have h := (set_perm (e := z) (i := i) (es := es) (by have := H.len; have := H.lt; omega)).filter Ent.full
  have hz : z.full = false := rfl
  simp only [List.filter_append, List.filter_cons, H.full, hz, List.filter_nil, if_true, Bool.false_eq_true, if_false, List.append_nil] at h
  have h5 := ((List.perm_append_singleton _ _).symm.trans h).trans H.perm
  exact (List.perm_cons _).1 h5

/-- there is a free slot: nothing stands N - 1 behind its home -/
theorem dist_room {bits N : Nat} {es : List Ent} (h : RH bits N es) (hb : ∀ i, i < N → (gt es i).full = true → home bits (gt es i).h < N) {i : Nat} (hi : i < N) (hf : (gt es i).full = true) {q : Nat} (hq : q < N) (he : (gt es q).full = false) : way N (home bits (gt es i).h) i + 1 < N := by
  have hh := hb i hi hf
  have hw := way_lt hh hq
  rcases Nat.lt_or_ge (dist bits N es i) (way N (home bits (gt es i).h) q) with h1 | h1
  · rw [dist_way] at h1; omega
  · have := (on_way h hb hi hf h1).1
    rw [cyc_way hh hq, he] at this
    cases this
theorem way_down {N i q : Nat} (hi : i < N) (hq : q < N) (h : i ≠ q) : way N (nx N i) q + 1 = way N i q := by unfold way nx; (repeat' split) <;> omega
theorem way_self (N i : Nat) : way N i i = 0 := by simp [way]

/-- the whole of what holds while one is carried: 'free' stays free, and what is there with what is carried stays the same -/
structure Carry (bits N : Nat) (es0 : List Ent) (e0 : Ent) (q : Nat) (es : List Ent) (e : Ent) (at_ far : Nat) : Prop extends Laying bits N es e at_ far where
  free_lt : q < N
  free : (gt es q).full = false
  homes : ∀ i, i < N → (gt es i).full = true → Rh.home bits (gt es i).h < N
  oks : ∀ i, i < N → (gt es i).full = true → (gt es i).ok
  ok : e.ok
  perm : (e :: there es).Perm (e0 :: there es0)

theorem Carry.start {bits N : Nat} {es : List Ent} {e : Ent} {q : Nat} (hl : es.length = N) (hr : RH bits N es) (hf : e.full = true) (hh : home bits e.h < N) (hq : q < N) (he : (gt es q).full = false)
    (homes : ∀ i, i < N → (gt es i).full = true → Rh.home bits (gt es i).h < N) (oks : ∀ i, i < N → (gt es i).full = true → (gt es i).ok) (ok : e.ok) : Carry bits N es e q es e (home bits e.h) 0 where
  len := hl
  rh := hr
  at_lt := hh
  full := hf
  home_lt := hh
  far_eq := (way_self _ _).symm
  prev := fun _ _ _ => Nat.zero_le _
  free_lt := hq
  free := he
  homes := homes
  oks := oks
  ok := ok
  perm := List.Perm.refl _

section
variable {bits N : Nat} {es0 : List Ent} {e0 : Ent} {q : Nat} {es : List Ent} {e : Ent} {at_ far : Nat}
theorem Carry.room (C : Carry bits N es0 e0 q es e at_ far) (hf : (gt es at_).full = true) : way N (Rh.home bits (gt es at_).h) at_ + 1 < N := dist_room C.rh C.homes C.at_lt hf C.free_lt C.free
theorem Carry.pass (C : Carry bits N es0 e0 q es e at_ far) (hf : (gt es at_).full = true) (h : far ≤ way N (Rh.home bits (gt es at_).h) at_) : Carry bits N es0 e0 q es e (nx N at_) (far + 1) :=
  { laying_pass C.toLaying (by have := C.room hf; omega) hf (by rw [dist_way]; exact h) with free_lt := C.free_lt, free := C.free, homes := C.homes, oks := C.oks, ok := C.ok, perm := C.perm }
theorem Carry.ne (C : Carry bits N es0 e0 q es e at_ far) (hf : (gt es at_).full = true) : at_ ≠ q := fun h => by subst h; rw [C.free] at hf; cases hf
theorem Carry.swap (C : Carry bits N es0 e0 q es e at_ far) (hf : (gt es at_).full = true) (h : way N (Rh.home bits (gt es at_).h) at_ ≤ far) : Carry bits N es0 e0 q (es.set at_ e) (gt es at_) (nx N at_) (way N (Rh.home bits (gt es at_).h) at_ + 1) :=
  have hl : at_ < es.length := by have := C.len; have := C.at_lt; omega
  { laying_swap C.toLaying (C.homes _ C.at_lt hf) hf (by rw [dist_way]; exact h) (by rw [dist_way]; exact C.room hf) with
    free_lt := C.free_lt
    free := by rw [gt_set hl, if_neg (fun h => C.ne hf h.symm)]; exact C.free
    homes := by
      intro i hi
      rw [gt_set hl]
      split
      · intro _; exact C.home_lt
      · exact C.homes i hi
    oks := by
      intro i hi
      rw [gt_set hl]
      split
      · intro _; exact C.ok
      · exact C.oks i hi
    ok := C.oks _ C.at_lt hf
    perm := (there_set_swap hl hf C.full).trans C.perm }
theorem Carry.done (C : Carry bits N es0 e0 q es e at_ far) (hf : (gt es at_).full = false) : (es.set at_ e).length = N ∧ RH bits N (es.set at_ e) ∧ (there (es.set at_ e)).Perm (e0 :: there es0) :=
  ⟨by rw [List.length_set]; exact C.len, laying_free C.toLaying hf, (there_set_free (by have := C.len; have := C.at_lt; omega) hf C.full).trans C.perm⟩
end
end Go.Proofs.Ytaijfgajcmopfaa.Rh
