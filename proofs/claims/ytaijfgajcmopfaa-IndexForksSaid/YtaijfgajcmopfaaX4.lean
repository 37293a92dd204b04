import Derived.Test.YtaijfgajcmopfaaX3
/- The calls of an index that stands for lists of entries. -/
set_option linter.unusedVariables false
namespace Go.Proofs.Ytaijfgajcmopfaa.X4
open Go.RowKit Go.Shelf V Rh T W1 W2 W3 W4 W6 W7 Rf X1 X2 X3

/-- the index at p stands for the lists Ls; its blocks are F -/
def Has (w : World) (p : Value) (most : Nat) (Ls : List (List Ent)) (F : Nat → Prop) : Prop := ∃ bx bl bts bss, p = ptr bx ∧ Idx w bx bl bts bss most Ls ∧ F = Foot bx bl bts bss
/-- .. behind a call -/
def Then (w w' : World) (p : Value) (most : Nat) (Ls : List (List Ent)) (F : Nat → Prop) : Prop := Keep F w w' ∧ ∃ F', Has w' p most Ls F' ∧ ∀ k, F' k → F k ∨ w.heap.size ≤ k

theorem Has.lt {w : World} {p : Value} {most : Nat} {Ls : List (List Ent)} {F : Nat → Prop} (h : Has w p most Ls F) : ∀ k, F k → k < w.heap.size := by
  obtain ⟨bx, bl, bts, bss, _, hX, rfl⟩ := h
  exact hX.foot_lt
theorem Has.keep {w w' : World} {p : Value} {most : Nat} {Ls : List (List Ent)} {F S : Nat → Prop} (h : Has w p most Ls F) (m : Keep S w w') (hS : ∀ k, F k → ¬ S k) : Has w' p most Ls F := by
  obtain ⟨bx, bl, bts, bss, h1, hX, rfl⟩ := h
  exact ⟨bx, bl, bts, bss, h1, hX.keep m hS, rfl⟩
theorem Has.notMark {w : World} {p : Value} {most : Nat} {Ls : List (List Ent)} {F : Nat → Prop} (h : Has w p most Ls F) : ∀ k, F k → ∃ cs t, Blk w k cs t := by
  obtain ⟨bx, bl, bts, bss, h1, hX, rfl⟩ := h
  intro k hk
  simp only [Foot, List.mem_cons, List.mem_append] at hk
  rcases hk with rfl | rfl | hk | hk
  · obtain ⟨_, hb⟩ := hX.head; exact ⟨_, _, hb⟩
  · obtain ⟨_, hb⟩ := hX.row; exact ⟨_, _, hb⟩
  · obtain ⟨i, hi, rfl⟩ := List.getElem_of_mem hk
    obtain ⟨_, _, hT, _⟩ := hX.tabs i (by rw [← hX.len1]; exact hi)
    obtain ⟨C, _, _, hb⟩ := hT.head
    exact ⟨_, _, by simpa [hi] using hb⟩
  · obtain ⟨i, hi, rfl⟩ := List.getElem_of_mem hk
    obtain ⟨_, _, hT, _⟩ := hX.tabs i (by rw [← hX.len2]; exact hi)
    obtain ⟨xs, hb⟩ := hT.slots
    exact ⟨_, _, by simpa [hi] using hb⟩
theorem Has.stays {w w' : World} {p : Value} {most : Nat} {Ls : List (List Ent)} {F : Nat → Prop} (h : Has w p most Ls F) (m : Keep No w w') : Then w w' p most Ls F :=
  ⟨m.mono (fun _ _ e => e.elim), F, h.keep m (fun _ _ => no _), fun _ hk => .inl hk⟩

def sOf (h : Int) (Ls : List (List Ent)) : List Ent := Ls.getD (stripeI Ls.length h) []
def xset (h : Int) (L : List Ent) (Ls : List (List Ent)) : List (List Ent) := Ls.set (stripeI Ls.length h) L
def xget (h : Int) (Ls : List (List Ent)) : Option Ent := lget h (sOf h Ls)
def xrem (h : Int) (Ls : List (List Ent)) : List (List Ent) := xset h (lrem h (sOf h Ls)) Ls
def xhit (h : Int) (Ls : List (List Ent)) : List (List Ent) := xset h (hitL h (sOf h Ls)) Ls
def xput (most : Nat) (e : Ent) (Ls : List (List Ent)) : Option Ent × Int × List (List Ent) :=
  if e.a = 0 then (none, 1, Ls) else if ∃ o, xget e.h Ls = some o ∧ e.v < o.v then (none, 120, Ls) else
    ((putR most e (sOf e.h Ls)).1, (putR most e (sOf e.h Ls)).2.1, xset e.h (putR most e (sOf e.h Ls)).2.2 Ls)
def xremIf (h a : Int) (Ls : List (List Ent)) : Bool × List (List Ent) := match xget h Ls with
  | some e => if e.a = a then (true, xrem h Ls) else (false, Ls)
  | none => (false, Ls)
def xmove (most : Nat) (h fr to : Int) (Ls : List (List Ent)) : Bool × List (List Ent) := match xget h Ls with
  | some e => if e.a = fr ∧ to ≠ 0 then (true, xset h (putR most { e with a := to } (sOf h Ls)).2.2 Ls) else (false, Ls)
  | none => (false, Ls)

theorem hitE_h (e : Ent) : (hitE e).h = e.h := by unfold hitE; split <;> rfl
theorem hit_length {L : List Ent} (hs : Sorted L) (h : Int) : (hitL h L).length = L.length := by
  unfold hitL
  cases hg : lget h L with
  | none => rfl
  | some e =>
    have := lget_some hg
    exact lput_length_some (o := e) hs (by rw [hitE_h, this.2]; exact hg)

theorem opt_val (o : Option Ent) : optE o = valE (o.getD z) := by cases o <;> rfl

section
variable {w : World} {bx bl most : Nat} {bts bss : List Nat} {Ls : List (List Ent)}

/-- what a table's call does to the whole -/
theorem idx_around (hX : Idx w bx bl bts bss most Ls) {i : Nat} (hi : i < Ls.length) {L' : List Ent} {w' : World}
    (h : Around w (fun A B => Keep (W2.At (bts.getD i 0) (bss.getD i 0)) A B ∧ ∃ bs', (bs' = bss.getD i 0 ∨ A.heap.size ≤ bs') ∧ Is B (bts.getD i 0) bs' most L') w') : Then w w' (ptr bx) most (Ls.set i L') (Foot bx bl bts bss) := by
  obtain ⟨A, B, hA, ⟨hAB, bs', hbs, hL⟩, hs, hB⟩ := h
  have hXA := hX.keep hA (fun _ _ => no _)
  obtain ⟨hXB, hK, hF⟩ := hXA.put hi hAB hbs hL
  have hlt := hX.foot_lt
  have hoff : ∀ k, Foot bx bl bts (bss.set i bs') k → ¬ (w.heap.size ≤ k ∧ k < A.heap.size) := fun k hk e => by
    rcases hF k hk with h | h
    · have := hlt k h; omega
    · omega
  refine ⟨((hA.mono (S' := Foot bx bl bts bss) (fun _ _ e => e.elim)).trans hK (fun _ _ e => e)).trans hB (fun k hk e => by omega), _, ⟨bx, bl, bts, _, rfl, hXB.keep hB hoff, rfl⟩, ?_⟩
  intro k hk
  rcases hF k hk with h | h
  · exact .inl h
  · exact .inr (Nat.le_trans hA.size h)

theorem idx_at (hX : Idx w bx bl bts bss most Ls) {h : Int} (hh : 0 ≤ h) (hh2 : h < 18446744073709551616) : ∀ W, Keep No w W → Calls Try.prog 44 #[ptr bx, .int .u64 h] W fun e w' => e = .returned (.pointer (some ⟨bts.getD (stripeI Ls.length h) 0, 0, none⟩)) ∧ ∃ n, W.drewN n = w' :=
  fun W hW => at_any bx bl most bts bss Ls h W (hX.keep hW (fun _ _ => no _)) hh hh2

theorem idx_get (hX : Idx w bx bl bts bss most Ls) {h : Int} (hh : 0 ≤ h) (hh2 : h < 18446744073709551616) : ∀ W, Keep No w W → Calls Try.prog 45 #[.pointer (some ⟨bts.getD (stripeI Ls.length h) 0, 0, none⟩), .int .u64 h] W fun e w' => e = .returned (.tuple #[valE ((xget h Ls).getD z), .bool (xget h Ls).isSome]) ∧ Keep No W w' := by
  intro W hW
  obtain ⟨bits, es, hT, hI⟩ := (hX.keep hW (fun _ _ => no _)).tabs _ (stripeI_lt hX.pos h)
  rw [← opt_val]
  exact get_any _ _ bits most _ es _ h W hT hI hh hh2

theorem at_low (hX : Idx w bx bl bts bss most Ls) (h : Int) : ∀ A B, Keep (W2.At (bts.getD (stripeI Ls.length h) 0) (bss.getD (stripeI Ls.length h) 0)) A B → Keep (fun k => k < w.heap.size) A B := fun A B hK => hK.mono (fun k _ e => by
    have := is_lt (hX.tabs _ (stripeI_lt hX.pos h))
    rcases e with rfl | rfl
    · exact this.1
    · exact this.2)
end

section
variable {w : World} {p : Value} {most : Nat} {Ls : List (List Ent)} {F : Nat → Prop}

theorem get_has (hH : Has w p most Ls F) (h : Int) (hh : 0 ≤ h) (hh2 : h < 18446744073709551616) :
    Calls Try.prog 26 #[p, .int .u64 h] w fun e w' => e = .returned (.tuple #[valE ((xget h Ls).getD z), .bool (xget h Ls).isSome]) ∧ Keep No w w' := by
  obtain ⟨bx, bl, bts, bss, rfl, hX, rfl⟩ := hH
  exact get_walk _ _ h _ _ w (idx_at hX hh hh2) (idx_get hX hh hh2)

theorem remove_has (hH : Has w p most Ls F) (h : Int) (hh : 0 ≤ h) (hh2 : h < 18446744073709551616) :
    Calls Try.prog 22 #[p, .int .u64 h] w fun e w' => e = .returned (.tuple #[valE ((xget h Ls).getD z), .bool (xget h Ls).isSome]) ∧ Then w w' p most (xrem h Ls) F := by
  obtain ⟨bx, bl, bts, bss, rfl, hX, rfl⟩ := hH
  refine (remove_walk _ _ h _ _ w _ (idx_at hX hh hh2) ?_).mono (fun e w' hw => ⟨hw.1, idx_around hX (stripeI_lt hX.pos h) hw.2⟩)
  intro W hW
  obtain ⟨bits, es, hT, hI⟩ := (hX.keep hW (fun _ _ => no _)).tabs _ (stripeI_lt hX.pos h)
  rw [← opt_val]
  exact (remove_any _ _ bits most es _ h W hT hI hh hh2).mono (fun e w' hw => ⟨hw.1, at_low hX h _ _ hw.2.1, hw.2.1, _, .inl rfl, hw.2.2⟩)

theorem hit_has (hH : Has w p most Ls F) (h : Int) (hh : 0 ≤ h) (hh2 : h < 18446744073709551616) :
    Calls Try.prog 25 #[p, .int .u64 h] w fun e w' => e = .returned (.bool (xget h Ls).isSome) ∧ Then w w' p most (xhit h Ls) F := by
  obtain ⟨bx, bl, bts, bss, rfl, hX, rfl⟩ := hH
  refine (hit_walk _ _ h _ w _ (idx_at hX hh hh2) ?_).mono (fun e w' hw => ⟨hw.1, idx_around hX (stripeI_lt hX.pos h) hw.2⟩)
  intro W hW
  obtain ⟨bits, es, hT, hI⟩ := (hX.keep hW (fun _ _ => no _)).tabs _ (stripeI_lt hX.pos h)
  refine (hit_any _ _ bits most _ es _ h W hT hI hh hh2).mono (fun e w' hw => ⟨hw.1, at_low hX h _ _ hw.2.1, hw.2.1, _, .inl rfl, ?_⟩)
  obtain ⟨_, _, es', hT', hI'⟩ := hw
  refine ⟨bits, es', ?_, hI'⟩
  rw [show (hitL h (sOf h Ls)).length = (sOf h Ls).length from hit_length hI.sorted h]
  exact hT'

theorem remIf_has (hH : Has w p most Ls F) (h a : Int) (hh : 0 ≤ h) (hh2 : h < 18446744073709551616) :
    Calls Try.prog 23 #[p, .int .u64 h, .int .u64 a] w fun e w' => e = .returned (.bool (xremIf h a Ls).1) ∧ Then w w' p most (xremIf h a Ls).2 F := by
  obtain ⟨bx, bl, bts, bss, hp, hX, hF⟩ := id hH
  have hg : ∀ W, Keep No w W → _ := fun W hW => get_has (hH.keep hW (fun _ _ => no _)) h hh hh2
  cases hx : xget h Ls with
  | none =>
    simp only [xremIf, hx]
    rw [hx] at hg
    exact (remIf_no p h a _ _ w hg (.inl rfl)).mono (fun e w' hw => ⟨hw.1, hH.stays hw.2⟩)
  | some o =>
    rw [hx] at hg
    by_cases ha : o.a = a
    · simp only [xremIf, hx, ha, if_true]
      have hsi := stripeI_lt hX.pos h
      subst hp
      refine (remIf_yes _ h a o (valE ((xget h Ls).getD z)) (.bool (xget h Ls).isSome) w _ hg ?_ (by simp [ha])).mono (fun e w' hw => ⟨hw.1, hF ▸ idx_around hX hsi hw.2⟩)
      intro W hW
      have hXW := hX.keep hW (fun _ _ => no _)
      refine (remove_walk _ _ h _ _ W _ (idx_at hXW hh hh2) ?_).mono (fun e w' hw => hw)
      intro W2 hW2
      obtain ⟨bits, es, hT, hI⟩ := (hXW.keep hW2 (fun _ _ => no _)).tabs _ hsi
      rw [← opt_val]
      exact (remove_any _ _ bits most es _ h W2 hT hI hh hh2).mono (fun e w' hw => ⟨hw.1, at_low hXW h _ _ hw.2.1, hw.2.1, _, .inl rfl, hw.2.2⟩)
    · simp only [xremIf, hx, ha, if_false]
      exact (remIf_no p h a _ _ w hg (.inr ⟨rfl, by simpa using ha⟩)).mono (fun e w' hw => ⟨hw.1, hH.stays hw.2⟩)

theorem move_has (hH : Has w p most Ls F) (h fr to : Int) (hh : 0 ≤ h) (hh2 : h < 18446744073709551616) (ht : 0 ≤ to) (ht2 : to < 18446744073709551616) :
    Calls Try.prog 24 #[p, .int .u64 h, .int .u64 fr, .int .u64 to] w fun e w' => e = .returned (.bool (xmove most h fr to Ls).1) ∧ Then w w' p most (xmove most h fr to Ls).2 F := by
  obtain ⟨bx, bl, bts, bss, hp, hX, hF⟩ := id hH
  have hg : ∀ W, Keep No w W → _ := fun W hW => get_has (hH.keep hW (fun _ _ => no _)) h hh hh2
  cases hx : xget h Ls with
  | none =>
    simp only [xmove, hx]
    rw [hx] at hg
    exact (move_no p h fr to _ _ w hg (.inl rfl)).mono (fun e w' hw => ⟨hw.1, hH.stays hw.2⟩)
  | some o =>
    rw [hx] at hg
    by_cases ha : o.a = fr
    · by_cases hto : to = 0
      · simp only [xmove, hx, ha, hto, ne_eq, not_true_eq_false, and_false, if_false]
        exact (move_no p h fr 0 _ _ w hg (.inr (.inr ⟨rfl, by simpa using ha, rfl⟩))).mono (fun e w' hw => ⟨hw.1, hH.stays hw.2⟩)
      · have hc : o.a = fr ∧ to ≠ 0 := ⟨ha, hto⟩
        simp only [xmove, hx, if_pos hc]
        have hsi := stripeI_lt hX.pos h
        subst hp
        refine (move_yes _ _ h fr to o w _ hg (idx_at hX hh hh2) ?_ (by simp [ha]) (by simpa using hto)).mono (fun e w' hw => ⟨hw.1, hF ▸ idx_around hX hsi hw.2⟩)
        intro W hW
        obtain ⟨bits, es, hT, hI⟩ := (hX.keep hW (fun _ _ => no _)).tabs _ hsi
        have hm := lget_some hx
        obtain ⟨hok, hfu⟩ := hI.ok o hm.1
        refine (put_any _ _ bits most es _ { o with a := to } W hT hI ⟨hok.1, hok.2.1, ht, ht2, hok.2.2.2.2⟩ (by simpa [Ent.full] using hto)).mono (fun e w' hw => ⟨⟨_, hw.1⟩, hw.2.1.size, hw.2.1, hw.2.2⟩)
    · have hc : ¬ (o.a = fr ∧ to ≠ 0) := fun h => ha h.1
      simp only [xmove, hx, if_neg hc]
      exact (move_no p h fr to _ _ w hg (.inr (.inl ⟨rfl, by simpa using ha⟩))).mono (fun e w' hw => ⟨hw.1, hH.stays hw.2⟩)

theorem put_has (hH : Has w p most Ls F) (e : Ent) (hok : e.ok) :
    Calls Try.prog 21 #[p, valE e] w fun e' w' => e' = .returned (.tuple #[valE ((xput most e Ls).1.getD z), .bool (xput most e Ls).1.isSome, .int .i64 (xput most e Ls).2.1]) ∧ Then w w' p most (xput most e Ls).2.2 F := by
  obtain ⟨bx, bl, bts, bss, rfl, hX, rfl⟩ := id hH
  have hsi := stripeI_lt hX.pos e.h
  by_cases ha : e.a = 0
  · simp only [xput, if_pos ha]
    exact (put_arg _ _ e w (idx_at hX hok.1 hok.2.1) (by simpa using ha)).mono (fun e w' hw => ⟨hw.1, hH.stays hw.2⟩)
  · by_cases hv : ∃ o, xget e.h Ls = some o ∧ e.v < o.v
    · simp only [xput, if_neg ha, if_pos hv]
      obtain ⟨o, ho, hlt⟩ := hv
      refine (put_older _ _ e o w (idx_at hX hok.1 hok.2.1) ?_ (by simpa using ha) (by simpa using hlt)).mono (fun e w' hw => ⟨hw.1, hH.stays hw.2⟩)
      have := idx_get hX hok.1 hok.2.1
      rw [ho] at this
      exact this
    · simp only [xput, if_neg ha, if_neg hv]
      refine (put_on _ _ e _ _ _ _ _ w _ (idx_at hX hok.1 hok.2.1) (idx_get hX hok.1 hok.2.1) ?_ (by simpa using ha) ?_).mono (fun e' w' hw => ⟨hw.1, idx_around hX hsi hw.2⟩)
      · intro W hW
        obtain ⟨bits, es, hT, hI⟩ := (hX.keep hW (fun _ _ => no _)).tabs _ hsi
        rw [← opt_val]
        exact (put_any _ _ bits most es _ e W hT hI hok (by simpa [Ent.full] using ha)).mono (fun e' w' hw => ⟨hw.1, at_low hX e.h _ _ hw.2.1, hw.2.1, hw.2.2⟩)
      · cases hx : xget e.h Ls with
        | none => exact .inl rfl
        | some o => exact .inr ⟨rfl, by simp; exact Int.not_lt.1 (fun h => hv ⟨o, hx, h⟩)⟩
end
end Go.Proofs.Ytaijfgajcmopfaa.X4
