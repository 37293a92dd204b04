import Derived.Test.YtaijfgajcmopfaaW10
/- An index in memory; its looks. -/
set_option linter.unusedVariables false
namespace Go.Proofs.Ytaijfgajcmopfaa.X1
open Go.RowKit Go.Shelf V Rh T W1 W2 W3 W4 W6 Rf

def ptr (b : Nat) : Value := .pointer (some ⟨b, 0, none⟩)

/-- An index at block bx: stripes 'Ls', its tables at blocks 'bts', their slots at blocks 'bss'. -/
structure Idx (w : World) (bx bl : Nat) (bts bss : List Nat) (most : Nat) (Ls : List (List Ent)) : Prop where
  head : ∃ cap, Blk w bx [.slice (some ⟨bl, 0, none⟩) Ls.length cap] 58
  row : ∃ rest, Blk w bl (bts.map ptr ++ rest) 70
  len1 : bts.length = Ls.length
  len2 : bss.length = Ls.length
  pos : 1 ≤ Ls.length
  most64 : Ls.length ≤ 64
  tabs : ∀ i, i < Ls.length → Is w (bts.getD i 0) (bss.getD i 0) most (Ls.getD i [])
  apart : (bx :: bl :: (bts ++ bss)).Nodup

/-- the blocks of an index -/
def Foot (bx bl : Nat) (bts bss : List Nat) : Nat → Prop := fun k => k ∈ bx :: bl :: (bts ++ bss)

theorem is_keep {S : Nat → Prop} {w w' : World} {bt bs most : Nat} {L : List Ent} (h : Is w bt bs most L) (m : Keep S w w') (h1 : ¬ S bt) (h2 : ¬ S bs) : Is w' bt bs most L := by
  obtain ⟨bits, es, hT, hI⟩ := h
  exact ⟨bits, es, hT.mod m h1 h2, hI⟩
theorem is_lt {w : World} {bt bs most : Nat} {L : List Ent} (h : Is w bt bs most L) : bt < w.heap.size ∧ bs < w.heap.size := by
  obtain ⟨bits, es, hT, hI⟩ := h
  exact hT.lt

theorem getD_mem {l : List Nat} {i : Nat} (h : i < l.length) : l.getD i 0 ∈ l := by
  rw [List.getD_eq_getElem?_getD, List.getElem?_eq_getElem h]
  exact List.getElem_mem h

section
variable {w : World} {bx bl : Nat} {bts bss : List Nat} {most : Nat} {Ls : List (List Ent)}
theorem Idx.foot_lt (h : Idx w bx bl bts bss most Ls) : ∀ k, Foot bx bl bts bss k → k < w.heap.size := by
  intro k hk
  unfold Foot at hk
  simp only [List.mem_cons, List.mem_append] at hk
  rcases hk with rfl | rfl | hk | hk
  · obtain ⟨_, hb⟩ := h.head; exact hb.lt
  · obtain ⟨_, hb⟩ := h.row; exact hb.lt
  · obtain ⟨i, hi, rfl⟩ := List.getElem_of_mem hk
    have := (is_lt (h.tabs i (by rw [← h.len1]; exact hi))).1
    simpa [hi] using this
  · obtain ⟨i, hi, rfl⟩ := List.getElem_of_mem hk
    have := (is_lt (h.tabs i (by rw [← h.len2]; exact hi))).2
    simpa [hi] using this
theorem Idx.keep {S : Nat → Prop} {w' : World} (h : Idx w bx bl bts bss most Ls) (m : Keep S w w') (hS : ∀ k, Foot bx bl bts bss k → ¬ S k) : Idx w' bx bl bts bss most Ls where
  head := let ⟨c, hb⟩ := h.head; ⟨c, hb.mod m (hS _ (by simp [Foot]))⟩
  row := let ⟨c, hb⟩ := h.row; ⟨c, hb.mod m (hS _ (by simp [Foot]))⟩
  len1 := h.len1
  len2 := h.len2
  pos := h.pos
  most64 := h.most64
  tabs := fun i hi => is_keep (h.tabs i hi) m (hS _ (by simp only [Foot, List.mem_cons, List.mem_append]; exact .inr (.inr (.inl (getD_mem (by rw [h.len1]; exact hi)))))) (hS _ (by simp only [Foot, List.mem_cons, List.mem_append]; exact .inr (.inr (.inr (getD_mem (by rw [h.len2]; exact hi))))))
  apart := h.apart

/-- table i -/
theorem Idx.at (h : Idx w bx bl bts bss most Ls) {i : Nat} (hi : i < Ls.length) : w.cell? ⟨bl, i, none⟩ = some (ptr (bts.getD i 0)) := by
  obtain ⟨rest, hb⟩ := h.row
  have h2 : i < bts.length := by rw [h.len1]; exact hi
  rw [hb.cell, List.getElem?_append_left (by simpa using h2)]
  simp [h2]

theorem nodup_index {l : List Nat} (h : l.Nodup) {i j : Nat} (hi : i < l.length) (hj : j < l.length) (e : l.getD i 0 = l.getD j 0) : i = j := by
  rw [List.getD_eq_getElem?_getD, List.getD_eq_getElem?_getD, List.getElem?_eq_getElem hi, List.getElem?_eq_getElem hj] at e
  exact (List.getElem_inj h).1 e

/-- a call on stripe i's table, laid back into the index -/
theorem Idx.put (h : Idx w bx bl bts bss most Ls) {w' : World} {i : Nat} (hi : i < Ls.length) {bs' : Nat} {L' : List Ent} (m : Keep (W2.At (bts.getD i 0) (bss.getD i 0)) w w') (hb : bs' = bss.getD i 0 ∨ w.heap.size ≤ bs') (hL : Is w' (bts.getD i 0) bs' most L') :
    Idx w' bx bl bts (bss.set i bs') most (Ls.set i L') ∧ Keep (Foot bx bl bts bss) w w' ∧ (∀ k, Foot bx bl bts (bss.set i bs') k → Foot bx bl bts bss k ∨ w.heap.size ≤ k) := by
  have h1 : i < bts.length := by rw [h.len1]; exact hi
  have h2 : i < bss.length := by rw [h.len2]; exact hi
  have hap := h.apart
  simp only [List.nodup_cons, List.mem_cons, List.mem_append, List.nodup_append, not_or] at hap
  obtain ⟨⟨a1, a2, a3⟩, ⟨a4, a5⟩, a6, a7, a8⟩ := hap
  have m1 := getD_mem h1
  have m2 := getD_mem h2
  have hfl := h.foot_lt
  have hnb : ∀ j, j < Ls.length → j ≠ i → ¬ W2.At (bts.getD i 0) (bss.getD i 0) (bts.getD j 0) := by
    rintro j hj hne (e | e)
    · exact hne (nodup_index a6 (by rw [h.len1]; exact hj) h1 e)
    · exact a8 _ (getD_mem (by rw [h.len1]; exact hj)) _ m2 e
  have hns : ∀ j, j < Ls.length → j ≠ i → ¬ W2.At (bts.getD i 0) (bss.getD i 0) (bss.getD j 0) := by
    rintro j hj hne (e | e)
    · exact a8 _ m1 _ (getD_mem (by rw [h.len2]; exact hj)) e.symm
    · exact hne (nodup_index a7 (by rw [h.len2]; exact hj) h2 e)
  refine ⟨⟨?_, ?_, by simp [h.len1], by simp [h.len2], by simp [h.pos], by simp [h.most64], ?_, ?_⟩, ?_, ?_⟩
  · obtain ⟨c, hb⟩ := h.head
    refine ⟨c, ?_⟩
    rw [List.length_set]
    refine hb.mod m ?_
    rintro (e | e)
    · exact a2 (by rw [e]; exact m1)
    · exact a3 (by rw [e]; exact m2)
  · obtain ⟨c, hb⟩ := h.row
    refine ⟨c, hb.mod m ?_⟩
    rintro (e | e)
    · exact a4 (by rw [e]; exact m1)
    · exact a5 (by rw [e]; exact m2)
  · intro j hj
    rw [List.length_set] at hj
    have hj2 : j < bss.length := by rw [h.len2]; exact hj
    by_cases hji : j = i
    · subst hji
      simpa [hj, hj2] using hL
    · have := is_keep (h.tabs j hj) m (hnb j hj hji) (hns j hj hji)
      have e1 : (bss.set i bs').getD j 0 = bss.getD j 0 := by simp [List.getD_eq_getElem?_getD, Ne.symm hji]
      have e2 : (Ls.set i L').getD j [] = Ls.getD j [] := by simp [List.getD_eq_getElem?_getD, Ne.symm hji]
      rw [e1, e2]
      exact this
  · rcases hb with rfl | hb
    · have : bss.set i (bss.getD i 0) = bss := by simp [h2]
      rw [this]
      exact h.apart
    · have hnew : ∀ k, Foot bx bl bts bss k → k ≠ bs' := fun k hk e => by have := hfl k hk; omega
      have hmem : ∀ k, k ∈ bss.set i bs' → k ∈ bss ∨ k = bs' := fun k hk => List.mem_or_eq_of_mem_set hk
      have f1 : bx ≠ bs' := hnew _ (by simp [Foot])
      have f2 : bl ≠ bs' := hnew _ (by simp [Foot])
      have f3 : bs' ∉ bts := fun hm => hnew _ (by simp [Foot, hm]) rfl
      have f4 : bs' ∉ bss := fun hm => hnew _ (by simp [Foot, hm]) rfl
      simp only [List.nodup_cons, List.mem_cons, List.mem_append, List.nodup_append, not_or]
      refine ⟨⟨a1, a2, fun hm => ?_⟩, ⟨a4, fun hm => ?_⟩, a6, ?_, ?_⟩
      · rcases hmem _ hm with hm | hm
        · exact a3 hm
        · exact f1 hm
      · rcases hmem _ hm with hm | hm
        · exact a5 hm
        · exact f2 hm
      · rw [List.nodup_iff_pairwise_ne] at a7 ⊢
        rw [List.pairwise_iff_getElem] at a7 ⊢
        intro p q hp hq hpq
        simp only [List.length_set] at hp hq
        rw [List.getElem_set, List.getElem_set]
        split
        · split
          · omega
          · exact fun e => f4 (by rw [e]; exact List.getElem_mem _)
        · split
          · exact fun e => f4 (by rw [← e]; exact List.getElem_mem _)
          · exact a7 p q hp hq hpq
      · intro p hp q hq
        rcases hmem _ hq with hq | rfl
        · exact a8 p hp q hq
        · exact fun e => f3 (by rw [← e]; exact hp)
  · refine m.mono ?_
    rintro k _ (rfl | rfl)
    · simp only [Foot, List.mem_cons, List.mem_append]; exact .inr (.inr (.inl m1))
    · simp only [Foot, List.mem_cons, List.mem_append]; exact .inr (.inr (.inr m2))
  · intro k hk
    simp only [Foot, List.mem_cons, List.mem_append] at hk ⊢
    rcases hk with rfl | rfl | hk | hk
    · exact .inl (.inl rfl)
    · exact .inl (.inr (.inl rfl))
    · exact .inl (.inr (.inr (.inl hk)))
    · rcases List.mem_or_eq_of_mem_set hk with hk | rfl
      · exact .inl (.inr (.inr (.inr hk)))
      · rcases hb with hb | hb
        · exact .inl (.inr (.inr (.inr (by rw [hb]; exact m2))))
        · exact .inr hb
end

/-- of an index that New did not give -/
def Closed (w : World) (p : Value) : Prop := p = .pointer none ∨ ∃ bx, p = ptr bx ∧ Blk w bx [.slice none 0 0] 58
theorem Closed.keep {S : Nat → Prop} {w w' : World} {p : Value} (h : Closed w p) (m : Keep S w w') (hS : ∀ k, ¬ S k) : Closed w' p := by
  rcases h with h | ⟨bx, h, hb⟩
  · exact .inl h
  · exact .inr ⟨bx, h, hb.mod m (hS _)⟩

theorem stripes_closed (p : Value) (w : World) (h : Closed w p) : Calls Try.prog 10 #[p] w fun e w' => e = .returned (.int .i64 0) ∧ w = w' := by
  rcases h with rfl | ⟨bx, rfl, hb⟩
  · go_enter Try.func10, Try.ntmps10
    go_wp2
    go_ret
    exact ⟨rfl, rfl⟩
  · obtain ⟨z0, c0, f0⟩ := hb.one
    clear hb
    unfold ptr
    go_enter Try.func10, Try.ntmps10
    go_wp2
    go_ret
    exact ⟨rfl, rfl⟩
theorem stripes_any (bx bl n cap : Nat) (w : World) (hb : Blk w bx [.slice (some ⟨bl, 0, none⟩) n cap] 58) : Calls Try.prog 10 #[ptr bx] w fun e w' => e = .returned (.int .i64 n) ∧ w = w' := by
  obtain ⟨z0, c0, f0⟩ := hb.one
  clear hb
  unfold ptr
  go_enter Try.func10, Try.ntmps10
  go_wp2
  go_ret
  exact ⟨rfl, rfl⟩

/-- a hash's stripe -/
def stripeI (n : Nat) (h : Int) : Nat := (h % n).toNat
theorem stripeI_lt {n : Nat} (hn : 1 ≤ n) (h : Int) : stripeI n h < n := by
  unfold stripeI
  have h1 := Int.emod_lt_of_pos h (show (0 : Int) < n by omega)
  have h2 := Int.emod_nonneg h (show (n : Int) ≠ 0 by omega)
  omega

theorem stripe_closed (p : Value) (h : Int) (w : World) (hc : Closed w p) : Calls Try.prog 20 #[p, .int .u64 h] w fun e w' => e = .returned (.int .i64 0) ∧ w = w' := by
  have hs := stripes_closed p w hc
  clear hc
  go_enter Try.func20, Try.ntmps20
  go_wp2_with (go_at_call 10; refine hs.mono ?_; rintro e w' ⟨rfl, rfl⟩)
  go_ret
  exact ⟨rfl, rfl⟩
theorem stripe_any (bx bl n cap : Nat) (h : Int) (w : World) (hb : Blk w bx [.slice (some ⟨bl, 0, none⟩) n cap] 58) (hn : 1 ≤ n) (hn2 : n ≤ 64) (hh : 0 ≤ h) (hh2 : h < 18446744073709551616) :
    Calls Try.prog 20 #[ptr bx, .int .u64 h] w fun e w' => e = .returned (.int .i64 (stripeI n h : Nat)) ∧ w = w' := by
  have hs := stripes_any bx bl n cap w hb
  have hne : ((n : Int) == 0) = false := by simp; omega
  have hlt := stripeI_lt hn h
  have hm2 := Int.emod_nonneg h (show (n : Int) ≠ 0 by omega)
  have hm3 := Int.emod_lt_of_pos h (show (0 : Int) < n by omega)
  have E2 : Hid (h % (n : Int) = (stripeI n h : Nat)) := by
    show _ = _
    unfold stripeI
    omega
  obtain ⟨z0, c0, f0⟩ := hb.one
  clear hb hlt
  unfold ptr at *
  go_enter Try.func20, Try.ntmps20
  go_wp2_with (go_at_call 10; refine hs.mono ?_; rintro e w' ⟨rfl, rfl⟩)
  go_ret
  exact ⟨ret_int E2.out, rfl⟩

theorem at_closed (p : Value) (h : Int) (w : World) (hc : Closed w p) : Calls Try.prog 44 #[p, .int .u64 h] w fun e w' => e = .returned (.pointer none) ∧ w = w' := by
  have hs := stripes_closed p w hc
  clear hc
  go_enter Try.func44, Try.ntmps44
  go_wp2_with (go_at_call 10; refine hs.mono ?_; rintro e w' ⟨rfl, rfl⟩)
  go_ret
  exact ⟨rfl, rfl⟩
theorem at_any (bx bl most : Nat) (bts bss : List Nat) (Ls : List (List Ent)) (h : Int) (w : World) (hX : Idx w bx bl bts bss most Ls) (hh : 0 ≤ h) (hh2 : h < 18446744073709551616) :
    Calls Try.prog 44 #[ptr bx, .int .u64 h] w fun e w' => e = .returned (ptr (bts.getD (stripeI Ls.length h) 0)) ∧ ∃ n, w.drewN n = w' := by
  obtain ⟨cap, hb⟩ := hX.head
  have hn := hX.pos
  have hn2 := hX.most64
  have hs := stripes_any bx bl Ls.length cap w hb
  have hst : ∀ k, Calls Try.prog 20 #[ptr bx, .int .u64 h] (w.drewN k) fun e w' => e = .returned (.int .i64 (stripeI Ls.length h : Nat)) ∧ w.drewN k = w' := fun k => stripe_any bx bl Ls.length cap h (w.drewN k) (hb.drewN k) hn hn2 hh hh2
  have hlt := stripeI_lt hn h
  have hc := hX.at hlt
  have hne : ((Ls.length : Int) == 0) = false := beq_eq_false_iff_ne.2 (by omega)
  obtain ⟨z0, c0, f0⟩ := hb.one
  have h0 : 0 ≤ ((stripeI Ls.length h : Nat) : Int) := by omega
  have h1 : ((stripeI Ls.length h : Nat) : Int) < Ls.length := by omega
  clear hb hX
  generalize stripeI Ls.length h = s at *
  generalize bts.getD s 0 = bt at *
  unfold ptr at *
  go_enter Try.func44, Try.ntmps44
  go_wp2_with (go_at_call 10; refine hs.mono ?_; rintro e w' ⟨rfl, rfl⟩)
  go_quiet ((go_at_call 20; exact Calls.quiet_of_same ((hst _).mono fun e w' h => ⟨h.1, h.2.symm⟩)))
  go_wp2
  go_ret
  exact ⟨rfl, _, rfl⟩

theorem stripeN_closed (p : Value) (n : Int) (w : World) (hc : Closed w p) : Calls Try.prog 27 #[p, .int .i64 n] w fun e w' => e = .returned (.pointer none) ∧ w = w' := by
  have hs := stripes_closed p w hc
  clear hc
  by_cases hn : n < 0
  · have h1 : decide (n < 0) = true := by simpa using hn
    go_enter Try.func27, Try.ntmps27
    go_wp2_with (go_at_call 10; refine hs.mono ?_; rintro e w' ⟨rfl, rfl⟩)
    go_ret
    exact ⟨rfl, rfl⟩
  · have h1 : decide (n < 0) = false := by simpa using hn
    have h2 : 0 ≤ n := by omega
    go_enter Try.func27, Try.ntmps27
    go_wp2_with (go_at_call 10; refine hs.mono ?_; rintro e w' ⟨rfl, rfl⟩)
    go_ret
    exact ⟨rfl, rfl⟩
/-- the table of a stripe, if there is one -/
def tabOf (bts : List Nat) (n : Int) : Value := if 0 ≤ n ∧ n < bts.length then ptr (bts.getD n.toNat 0) else .pointer none
theorem stripeN_any (bx bl most : Nat) (bts bss : List Nat) (Ls : List (List Ent)) (n : Int) (w : World) (hX : Idx w bx bl bts bss most Ls) :
    Calls Try.prog 27 #[ptr bx, .int .i64 n] w fun e w' => e = .returned (tabOf bts n) ∧ w = w' := by
  obtain ⟨cap, hb⟩ := hX.head
  have hn := hX.pos
  have hn2 := hX.most64
  have hs := stripes_any bx bl Ls.length cap w hb
  obtain ⟨z0, c0, f0⟩ := hb.one
  have hl := hX.len1
  by_cases h0 : n < 0
  · have h1 : decide (n < 0) = true := by simpa using h0
    have H : Hid (tabOf bts n = .pointer none) := by show _ = _; rw [tabOf, if_neg (by omega)]
    clear hX hb h0
    unfold ptr at *
    go_enter Try.func27, Try.ntmps27
    go_wp2_with (go_at_call 10; refine hs.mono ?_; rintro e w' ⟨rfl, rfl⟩)
    go_ret
    exact ⟨by rw [H.out]; rfl, rfl⟩
  · have h1 : decide (n < 0) = false := by simpa using h0
    obtain ⟨m, rfl⟩ := Int.eq_ofNat_of_zero_le (show 0 ≤ n by omega)
    by_cases h2 : m < Ls.length
    · have hc := hX.at h2
      have H : Hid (tabOf bts m = ptr (bts.getD m 0)) := by show _ = _; rw [tabOf, if_pos (by omega)]; simp
      have h3 : (m : Int) < Ls.length := by omega
      have h4 : (0 : Int) ≤ m := by omega
      have h5 : decide ((Ls.length : Int) ≤ (m : Int)) = false := by simp; omega
      clear hX hb h0
      generalize bts.getD m 0 = bt at *
      have hc : w.cell? ⟨bl, m, none⟩ = some (.pointer (some ⟨bt, 0, none⟩)) := hc
      unfold ptr at *
      go_enter Try.func27, Try.ntmps27
      go_wp2_with (go_at_call 10; refine hs.mono ?_; rintro e w' ⟨rfl, rfl⟩)
      go_ret
      exact ⟨by rw [H.out]; rfl, rfl⟩
    · have H : Hid (tabOf bts m = .pointer none) := by show _ = _; rw [tabOf, if_neg (by omega)]
      have h6 : Ls.length ≤ m := by omega
      have h5 : decide ((Ls.length : Int) ≤ (m : Int)) = true := by simp; omega
      clear hX hb h0 h2
      unfold ptr at *
      go_enter Try.func27, Try.ntmps27
      go_wp2_with (go_at_call 10; refine hs.mono ?_; rintro e w' ⟨rfl, rfl⟩)
      go_ret
      exact ⟨by rw [H.out]; rfl, rfl⟩
end Go.Proofs.Ytaijfgajcmopfaa.X1
