import Derived.Test.YtaijfgajcmopfaaY7
import Derived.Test.YtaijfgajcmopfaaAp
/- The document's index: New, Entries. -/
set_option linter.unusedVariables false
set_option linter.unusedSimpArgs false
namespace Go.Proofs.Ytaijfgajcmopfaa.Y8
open Go.RowKit Go.Shelf V Rh T W1 W2 W3 W4 W6 Rf X1 X2 X3 X4 X5 X6 Pl Y1 Y2 Y3 Y4 Y5 Y6 Ap

set_option maxHeartbeats 400000 in
theorem rnew_arg (n bits most : Int) (w : World) (h : n < 1 ∨ 64 < n) :
    Calls Try.prog 31 #[.int .i64 n, .int .i64 bits, .int .i64 most] w fun e w' => e = .returned (.tuple #[.pointer none, .int .i64 1]) ∧ w = w' := by
  have h' : decide (n < 1) = true ∨ decide (n < 1) = false ∧ decide (64 < n) = true := by simp; omega
  clear h
  rcases h' with h | ⟨h, h2⟩
  all_goals
    go_enter Try.func31, Try.ntmps31
    go_wp2
    go_ret2
    exact ⟨rfl, rfl⟩

set_option maxHeartbeats 400000 in
theorem rnew_bits (n bits most : Int) (w : World) (h1 : 1 ≤ n) (h2 : n ≤ 64) (h : badB bits most) :
    Calls Try.prog 31 #[.int .i64 n, .int .i64 bits, .int .i64 most] w fun e w' => e = .returned (.tuple #[.pointer none, .int .i64 110]) ∧ w = w' := by
  have g1 : decide (n < 1) = false := by simp; omega
  have g2 : decide (64 < n) = false := by simp; omega
  have h' : decide (bits < 2) = true ∨ decide (bits < 2) = false ∧ (decide (most < bits) = true ∨ decide (most < bits) = false ∧ decide (16 < most) = true) := by
    unfold badB at h
    simp
    omega
  clear h
  rcases h' with h | ⟨h, h1 | ⟨h1, h2⟩⟩
  all_goals
    go_enter Try.func31, Try.ntmps31
    go_wp2
    go_ret2
    exact ⟨rfl, rfl⟩

theorem info39 : (Try.prog.info? 39).map (fun i => (i.zero, i.size, i.bytes)) = some (some (.slice none 0 0), 1, 24) := by kernel_rfl

theorem make_rows (N : Nat) (hN : N ≤ 64) (W : World) : (Instr.makeSlice 78 (.int .i64 (N : Int)) (.int .i64 (N : Int))).run Try.prog W = .ok (.slice (some ⟨W.heap.size, 0, none⟩) N N) (W.alloc (.cells (List.replicate N nilS).toArray 39)) := by
  obtain ⟨i0, hi, hz0, hz1, hz2⟩ := info_parts info39
  have := run_make W 78 39 i0 (.slice none 0 0) Try.underlying78 hi hz0 .i64 .i64 N N (by omega) (by omega) (by rw [hz2]; omega) (by omega)
  rw [this, hz1]
  have hm : madeCells #[.slice none 0 0] (N * 1) = (List.replicate N nilS).toArray := by
    rw [Nat.mul_one]
    apply Array.toList_inj.1
    unfold madeCells
    rw [Array.toList_map, Array.toList_range]
    apply List.ext_getElem
    · simp
    · intro i h1 h2
      simp [Nat.mod_one]
  rw [← hm]
  rfl

set_option maxRecDepth 100000 in
set_option maxHeartbeats 400000 in
theorem rnew_any (n bits most : Nat) (w : World) (h1 : 1 ≤ n) (h2 : n ≤ 64) (hb : 2 ≤ bits) (hm : bits ≤ most) (h16 : most ≤ 16) :
    Calls Try.prog 31 #[.int .i64 n, .int .i64 bits, .int .i64 most] w fun e w' => ∃ br ba vs, e = .returned (.tuple #[ptr br, .int .i64 0]) ∧ RIdx w' br ba vs most (List.replicate n []) ∧ (∀ j, RFoot br ba vs j → w.heap.size ≤ j) ∧ Keep No w w' := by
  have g1 : decide ((n : Int) < 1) = false := by simp; omega
  have g2 : decide ((64 : Int) < n) = false := by simp; omega
  have g3 : decide ((bits : Int) < 2) = false := by simp; omega
  have g4 : decide ((most : Int) < (bits : Int)) = false := by simp; omega
  have g6 : decide (most < bits) = false := by simp; omega
  have g5 : decide ((16 : Int) < (most : Int)) = false := by simp; omega
  have hmk := make_rows n h2
  have H1 := hid h1
  have H2 := hid h2
  clear h1 h2 hb hm h16
  obtain ⟨cs, hcs⟩ : ∃ cs, (List.replicate n nilS).toArray = cs := ⟨_, rfl⟩
  rw [hcs] at hmk
  go_enter Try.func31, Try.ntmps31
  go_wp2
  go_ret2
  subst hcs
  refine ⟨w.heap.size + 1, w.heap.size, List.replicate n nilS, rfl, ⟨⟨n, by simp, ?_⟩, ⟨[], ?_⟩, by simp, by simpa using H1.out, by simpa using H2.out, ?_, by omega, ?_, ?_⟩, ?_, ((Keep.refl _ _).alloc _).alloc _⟩
  · have := Blk.new1 (w := w) (o := .cells (List.replicate n nilS).toArray 39) (cs := #[.int .i64 most, .slice (some ⟨w.heap.size, 0, none⟩) n n]) (cl := [.int .i64 most, .slice (some ⟨w.heap.size, 0, none⟩) n n]) 80 rfl
    simpa using this
  · rw [List.append_nil]
    exact (Blk.new' _ rfl).alloc _
  · intro i hi
    have hi' : i < n := by simpa using hi
    have e1 : (List.replicate n nilS).getD i nilS = nilS := by simp [List.getD_eq_getElem?_getD, hi']
    have e2 : (List.replicate n ([] : List Ent)).getD i [] = [] := by simp [List.getD_eq_getElem?_getD, hi']
    rw [e1, e2]
    exact World.ownsRow_nil _ _ _ _
  · intro i hi
    have hi' : i < n := by simpa using hi
    have e1 : (List.replicate n nilS).getD i nilS = nilS := by simp [List.getD_eq_getElem?_getD, hi']
    rw [e1]
    exact ⟨fun e => (by cases e), fun e => (by cases e)⟩
  · intro i j hi hj _ k hk
    have hi' : i < n := by simpa using hi
    have e1 : (List.replicate n nilS).getD i nilS = nilS := by simp [List.getD_eq_getElem?_getD, hi']
    rw [e1] at hk
    cases hk
  · rintro j (rfl | rfl | ⟨i, hi, hk⟩)
    · omega
    · exact Nat.le_refl _
    · have hi' : i < n := by simpa using hi
      have e1 : (List.replicate n nilS).getD i nilS = nilS := by simp [List.getD_eq_getElem?_getD, hi']
      rw [e1] at hk
      cases hk

/-- a row of the document's index, as what is appended -/
theorem RIdx.src {w : World} {br ba most : Nat} {vs : List Value} {Ls : List (List Ent)} (hX : RIdx w br ba vs most Ls) {s : Nat} (hs : s < Ls.length) : Src w (vs.getD s nilS) (Ls.getD s []).length (flat (Ls.getD s [])) := by
  have ho := hX.own s hs
  by_cases hv : vs.getD s nilS = nilS
  · left
    rw [hv] at ho ⊢
    rcases ho.2 with ⟨_, h2⟩ | ⟨g, cap, cur, h1, _⟩
    · have : Ls.getD s [] = [] := List.eq_nil_of_length_eq_zero h2
      rw [this]
      exact ⟨rfl, rfl, rfl⟩
    · cases h1
  · right
    obtain ⟨g, rcap, rest, hg, _, hn, hc, hb, _⟩ := own_blk ho hv
    refine ⟨_, _, hg, fun j u hu => ?_⟩
    rw [add_at, Nat.zero_add, hb.cell, List.getElem?_append_left (List.getElem?_eq_some_iff.1 hu).1]
    exact hu

section
variable {w : World} {br ba most : Nat} {vs : List Value} {Ls : List (List Ent)}

set_option maxRecDepth 100000 in
set_option maxHeartbeats 1000000 in
theorem rentries_any (hX : RIdx w br ba vs most Ls) (hG : GoodL most Ls) (k : Int) :
    Calls Try.prog 60 #[ptr br, .int .i64 k] w fun e w' => ∃ v, e = .returned v ∧ w'.ownsRow w.heap.size 27 4 v (xall k Ls).length (flat (xall k Ls)) ∧ Keep No w w' := by
  obtain ⟨cap, hcap, hb⟩ := hX.head
  obtain ⟨z0, c0, c1, f0⟩ := hb.two
  by_cases h0 : k < 0
  · have h1 : decide (k < 0) = true := by simpa using h0
    have H : Hid (xall k Ls = []) := by show _ = _; rw [xall, if_neg (by omega)]
    clear hX hb h0 hcap
    unfold ptr
    go_enter Try.func60, Try.ntmps60
    go_wp2
    go_ret
    exact ⟨_, rfl, by rw [H.out]; exact World.ownsRow_nil _ _ _ _, Keep.refl _ _⟩
  · have h1 : decide (k < 0) = false := by simpa using h0
    obtain ⟨m, rfl⟩ := Int.eq_ofNat_of_zero_le (show 0 ≤ k by omega)
    by_cases h2 : m < Ls.length
    · obtain ⟨cap2, y0, y1, y2, y3, y4, y5, y6, y7, _⟩ := Y4.RIdx.opn hX h2
      have H : Hid (xall m Ls = Ls.getD m []) := by show _ = _; rw [xall, if_pos (by omega)]; rfl
      have h3 : (m : Int) < Ls.length := by omega
      have h4 : (0 : Int) ≤ m := by omega
      have h5 : decide ((Ls.length : Int) ≤ (m : Int)) = false := by simp; omega
      have hsrc := fun W (hW : Keep No w W) => RIdx.src (hX.keep hW (fun _ _ => no _)) h2
      have hsm := GoodL.small hG h2
      rw [H.out]
      generalize Ls.getD m [] = L at *
      generalize vs.getD m nilS = v at *
      have HS := hid hsrc
      have HM := hid hsm
      clear hX hb h0 hcap H hsrc hsm hG
      obtain ⟨t0, hi, hz0, hz1, hz2⟩ := info_parts info27
      unfold ptr
      go_enter Try.func60, Try.ntmps60
      go_wp2_with (at_builtin; refine wpList_append_src _ rfl (.tmp 16) (.tmp 23) 39 rfl w.heap.size 27 t0 zE 4 32 Try.underlying39 hi hz0 hz1 hz2 rfl (by decide) (.slice (some ⟨w.heap.size, 0, none⟩) 0 0) 0 [] rfl (World.ownsRow_lit w #[] 0 (Nat.le_refl _) (by decide) rfl) v L.length (flat L) rfl (HS.out _ ((Keep.refl _ _).alloc _)) ?c0 (flat_one _) ?c1 ?c2 ?c3 ?c4)
      case c0 => rw [flat_length]; omega
      case c1 => have := HM.out; unfold maxLen; omega
      case c2 => have := HM.out; omega
      case c3 => simp
      case c4 =>
        intro v' w2 h1 h2 h3 h4
        have HO := hid h1
        have HK := hid (((Keep.refl No w).alloc (.cells #[] 27)).grown h2 (fun k e hk => by simp [Value.ownBlock] at e; omega))
        clear h1 h2 h3 h4
        go_wp2
        go_ret
        refine ⟨v', rfl, ?_, HK.out⟩
        have := HO.out
        simpa using this
    · have H : Hid (xall m Ls = []) := by show _ = _; rw [xall, if_neg (by omega)]
      have h6 : Ls.length ≤ m := by omega
      have h5 : decide ((Ls.length : Int) ≤ (m : Int)) = true := by simp; omega
      clear hX hb h0 h2 hcap
      unfold ptr
      go_enter Try.func60, Try.ntmps60
      go_wp2
      go_ret
      exact ⟨_, rfl, by rw [H.out]; exact World.ownsRow_nil _ _ _ _, Keep.refl _ _⟩
end
end Go.Proofs.Ytaijfgajcmopfaa.Y8
