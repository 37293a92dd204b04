import Derived.Test.YtaijfgajcmopfaaY11
/- The document's index: Fork. -/
set_option linter.unusedVariables false
set_option linter.unusedSimpArgs false
namespace Go.Proofs.Ytaijfgajcmopfaa.Y12
open Go.RowKit Go.Shelf V Rh T W1 W2 W3 W4 W6 Rf X1 X2 X3 X4 X5 X6 Pl Y1 Y2 Y3 Y4 Y5 Y6 Y8 Y11 Ap

section
variable {w : World} {br ba most : Nat} {vs : List Value} {Ls : List (List Ent)}

set_option maxRecDepth 100000 in
set_option maxHeartbeats 2000000 in
theorem rfork_any (hX : RIdx w br ba vs most Ls) (hG : GoodL most Ls) :
    Calls Try.prog 16 #[ptr br] w fun e w' => ∃ br' ba' vs', e = .returned (ptr br') ∧ RIdx w' br' ba' vs' most Ls ∧ (∀ j, RFoot br' ba' vs' j → w.heap.size ≤ j) ∧ Keep No w w' := by
  obtain ⟨cap, hcap, hb⟩ := hX.head
  obtain ⟨z0, c0, c1, f0⟩ := hb.two
  have hmk : RMaking w (w.alloc (.cells #[.int .i64 most, .slice none 0 0] 80)) w.heap.size (.slice none 0 0) [] most 0 Ls :=
    ⟨Blk.new' _ rfl, World.ownsRow_nil _ _ _ _, fun i hi => absurd hi (by omega), fun i g hi => absurd hi (by omega), fun i j hi => absurd hi (by omega), (Keep.refl _ _).alloc _, Nat.le_refl _⟩
  have HMK := hid hmk
  have HX := hid hX
  have HG := hid hG
  clear hmk hX hG hb hcap
  obtain ⟨t0, hi, hz0, hz1, hz2⟩ := info_parts info27
  obtain ⟨t1, ji, jz0, jz1, jz2⟩ := info_parts info39
  unfold ptr
  have hn0 : (0 : Int) ≤ (Ls.length : Int) := by omega
  go_enter Try.func16, Try.ntmps16
  go_wp2
  go_loopw [17] (fun i wr => ∃ (k : Nat) (v : Value) (vs' : List Value), i = .int .i64 k ∧ k ≤ Ls.length ∧ Hid (RMaking w wr w.heap.size v vs' most k Ls ∧ (k = 0 ∨ v ≠ .slice none 0 0))) (fun i wr => Ls.length - (intOf i).toNat)
  case atStart => exact ⟨0, _, [], rfl, Nat.zero_le _, HMK.out, .inl rfl⟩
  case round =>
    obtain ⟨k, v, vs', rfl, hkn, HM⟩ := hrel
    obtain ⟨z2, d0, d1, g0⟩ := HM.out.1.head.two
    by_cases hk : k < Ls.length
    · have hk0 : (0 : Int) ≤ k := by omega
      have hk' : (k : Int) < Ls.length := by omega
      have hk2 : (k : Int) ≤ 64 := by have := HX.out.most64; omega
      have hXr := HX.out.keep HM.out.1.keep (fun _ _ => no _)
      have hat := hXr.at hk
      have hsrc := fun W (hW : Keep No wr W) => RIdx.src (hXr.keep hW (fun _ _ => no _)) hk
      obtain ⟨x0, hx0⟩ : ∃ x, vs.getD k nilS = x := ⟨_, rfl⟩
      rw [hx0] at hat hsrc
      have HSR := hid hsrc
      have hsm := GoodL.small HG.out hk
      have h64 := HX.out.most64
      clear hXr hsrc hx0
      go_wp2
      have S1 : Hid (∀ V : World, Keep No wr V → V.cell? ⟨w.heap.size, 1, none⟩ = some v) := fun V hV => (World.cell?_of_block (hV.block _ z2 (no _))).trans d1
      have F1 : Hid (∀ V : World, Keep No wr V → ∀ i, V.frozen? ⟨w.heap.size, i, none⟩ = false) := fun V hV i => (World.frozen?_of_block (hV.block _ z2 (no _))).trans (g0 i)
      have KA : Hid (Keep No wr ((wr.alloc (.cells #[] 27)).drew)) := ((Keep.refl _ _).alloc _).drew
      have O1 : Hid (((wr.alloc (.cells #[] 27)).drew).ownsRow wr.heap.size 27 4 (.slice (some ⟨wr.heap.size, 0, none⟩) 0 0) 0 []) := (World.ownsRow_lit wr #[] 0 (Nat.le_refl _) (by decide) rfl).drew
      have LF : Hid ((flat (Ls.getD k [])).length = (Ls.getD k []).length * 4) := by show _ = _; rw [flat_length]; omega
      have hm1 : 0 + (Ls.getD k []).length ≤ maxLen := by unfold maxLen; omega
      have hm2 : (0 + (Ls.getD k []).length) * 32 ≤ 140737488355328 := by omega
      have hm3 : k + 1 ≤ maxLen := by unfold maxLen; omega
      have hm4 : (k + 1) * 24 ≤ 140737488355328 := by omega
      have hb1 : wr.heap.size ≤ ((wr.alloc (.cells #[] 27)).drew).heap.size := KA.out.size
      have hb2 : w.heap.size + 1 ≤ wr.heap.size := by omega
      have M := hid (And.intro hm1 (And.intro hm2 (And.intro hm3 (And.intro hm4 (And.intro hb1 hb2)))))
      clear hm1 hm2 hm3 hm4 hb1 hb2 hsm h64
      have hS0 := S1.out _ ((Keep.refl No wr).drew)
      refine Pop.wp_region_pop (m := 12) (S := fun w' => w'.cell? ⟨w.heap.size, 1, none⟩ = some v) (by kernel_rfl) (by kernel_rfl) ?_
      refine wpAnyH_take (i := 0) (v := ?_) rfl (by kernel_rfl) (by kernel_rfl) (by kernel_rfl) (fun _ _ _ h => h) (Or.inl ⟨by rfl, ?_⟩) (hS0) ?_
      rotate_left
      · (intro w hSw; obtain q1 := hSw; go_simp; try with_reducible rfl)
      simp only [Act.put, List.setIfInBounds_toArray, List.set_cons_zero, List.set_cons_succ]
      refine wpAnyH_take (i := 1) (v := ?_) rfl (by kernel_rfl) (by kernel_rfl) (by kernel_rfl) (fun _ _ _ h => h) (Or.inl ⟨by rfl, ?_⟩) (hS0) ?_
      rotate_left
      · (intro w hSw; obtain q1 := hSw; go_simp; try with_reducible rfl)
      simp only [Act.put, List.setIfInBounds_toArray, List.set_cons_zero, List.set_cons_succ]
      refine wpAnyH_take (i := 2) (v := ?_) rfl (by kernel_rfl) (by kernel_rfl) (by kernel_rfl) (fun _ _ _ h => h) (Or.inl ⟨by rfl, ?_⟩) (hS0) ?_
      rotate_left
      · (intro w hSw; obtain q1 := hSw; go_simp; try with_reducible rfl)
      simp only [Act.put, List.setIfInBounds_toArray, List.set_cons_zero, List.set_cons_succ]
      refine wpAnyH_take (i := 3) (v := ?_) rfl (by kernel_rfl) (by kernel_rfl) (by kernel_rfl) (fun _ _ _ h => h) (Or.inl ⟨by rfl, ?_⟩) (hS0) ?_
      rotate_left
      · (intro w hSw; obtain q1 := hSw; go_simp; try with_reducible rfl)
      simp only [Act.put, List.setIfInBounds_toArray, List.set_cons_zero, List.set_cons_succ]
      refine wpAnyH_take (i := 4) (v := ?_) rfl (by kernel_rfl) (by kernel_rfl) (by kernel_rfl) (fun _ _ _ h => h) (Or.inl ⟨by rfl, ?_⟩) (hS0) ?_
      rotate_left
      · (intro w hSw; obtain q1 := hSw; go_simp; try with_reducible rfl)
      simp only [Act.put, List.setIfInBounds_toArray, List.set_cons_zero, List.set_cons_succ]
      refine wpAnyH_take (i := 6) (v := ?_) rfl (by kernel_rfl) (by kernel_rfl) (by kernel_rfl) (fun _ _ _ h => h) (Or.inl ⟨by rfl, ?_⟩) (hS0) ?_
      rotate_left
      · (intro w hSw; obtain q1 := hSw; go_simp; try with_reducible rfl)
      simp only [Act.put, List.setIfInBounds_toArray, List.set_cons_zero, List.set_cons_succ]
      refine wpAnyH_ready (rs := [5]) (by kernel_rfl) (by simp) (AllReadyH.cons (i := 5) rfl (fun K' hK => ?_) AllReadyH.nil)
      go_simp
      refine hK.out _ _ (S1.out _ KA.out) (fun _ => ?_)
      clear hK
      refine wpAnyH_ready (rs := [7]) (by kernel_rfl) (by simp) (AllReadyH.cons (i := 7) rfl (fun K' hK => ?_) AllReadyH.nil)
      refine step_append_src _ (by rfl) (.tmp 26) (.tmp 27) 39 (by rfl) wr.heap.size 27 t0 zE 4 32 Try.underlying39 hi hz0 hz1 hz2 rfl (by decide) (.slice (some ⟨wr.heap.size, 0, none⟩) 0 0) 0 [] (by rfl) O1.out x0 _ _ (by rfl) (HSR.out _ KA.out) LF.out (flat_one _) M.out.1 M.out.2.1 M.out.2.2.2.2.1 ?_
      intro v1 w2 ho1 hg1 hi1 hb1
      have hK2 : Keep No wr w2 := KA.out.grown hg1 (fun k e hk => by simp [Value.ownBlock] at e; omega)
      refine hK.out _ _ (S1.out _ hK2) (fun _ => ?_)
      clear hK
      change wpAnyH _ _ _ _ _ _ _ (Act.put _ (some 28) _) _
      simp only [Act.put, List.setIfInBounds_toArray, List.set_cons_zero, List.set_cons_succ]
      obtain ⟨a1, m1, q1, rfl⟩ := own_some ho1
      have HO1 := hid ho1
      have HK2 := hid hK2
      clear ho1 hg1 hi1 hb1 hK2
      refine wpAnyH_ready (rs := [8]) (by kernel_rfl) (by simp) (AllReadyH.cons (i := 8) rfl (fun K' hK => ?_) AllReadyH.nil)
      go_simp
      refine hK.out _ _ (S1.out _ (HK2.out.alloc _)) (fun _ => ?_)
      clear hK
      refine wpAnyH_ready (rs := [9]) (by kernel_rfl) (by simp) (AllReadyH.cons (i := 9) rfl (fun K' hK => ?_) AllReadyH.nil)
      refine step_append_src _ (by rfl) (.tmp 25) (.tmp 29) 78 (by rfl) (w.heap.size + 1) 39 t1 (.slice none 0 0) 1 24 Try.underlying78 ji jz0 jz1 jz2 rfl (by decide) v k vs' (by rfl) (own_keep HM.out.1.row (HK2.out.alloc (.cells #[.slice a1 m1 q1] 39)) (fun _ _ => no _)) (.slice (some ⟨w2.heap.size, 0, none⟩) 1 1) 1 [.slice a1 m1 q1] (by rfl) (Src.one w2 _ 39) (by rfl) ?c1 M.out.2.2.1 M.out.2.2.2.1 ?c2 ?c3
      case c1 => intro u hu; simp only [List.mem_singleton] at hu; subst hu; rfl
      case c2 => have := HK2.out.size; have := M.out.2.2.2.2.2; simp; omega
      case c3 =>
        intro v2 w3 ho2 hg2 hi2 hb2
        have hK3 : Keep (fun j => v.ownBlock = some j) wr w3 := ((HK2.out.alloc _).mono (fun _ _ e => e.elim)).grown hg2 (fun k e _ => e)
        have hne : v.ownBlock ≠ some w.heap.size := fun e => by have := (HM.out.1.row.lt _ e).1; omega
        have hbn := HM.out.1.head.mod hK3 hne
        obtain ⟨z3, d2, d3, g3⟩ := hbn.two
        refine hK.out _ _ d3 (fun _ => ?_)
        clear hK
        change wpAnyH _ _ _ _ _ _ _ (Act.put _ (some 30) _) _
        simp only [Act.put, List.setIfInBounds_toArray, List.set_cons_zero, List.set_cons_succ]
        refine wpAnyH_take (i := 10) (v := ?_) rfl (by kernel_rfl) (by kernel_rfl) (by kernel_rfl) (fun _ _ _ h => h) (Or.inl ⟨by rfl, ?_⟩) (d3) ?_
        rotate_left
        · (intro w hSw; obtain q1 := hSw; go_simp; try with_reducible rfl)
        simp only [Act.put, List.setIfInBounds_toArray, List.set_cons_zero, List.set_cons_succ]
        refine wpAnyH_take (i := 11) (v := ?_) rfl (by kernel_rfl) (by kernel_rfl) (by kernel_rfl) (fun _ _ _ h => h) (Or.inl ⟨by rfl, ?_⟩) (d3) ?_
        rotate_left
        · (intro w hSw; obtain q1 := hSw; go_simp; try with_reducible rfl)
        simp only [Act.put, List.setIfInBounds_toArray, List.set_cons_zero, List.set_cons_succ]
        refine wpAnyH_done (by kernel_rfl) ?_ _
        refine Pop.before_normal ?_
        refine wpOp_step (i := 12) rfl (fun K' hK => ?_)
        have HF := hid (HM.out.1.push (x := .slice a1 m1 q1) (HK2.out.alloc (.cells #[.slice a1 m1 q1] 39)) (by have := (HO1.out.alloc (.cells #[.slice a1 m1 q1] 39)); simpa using this) hg2 ho2 (by rcases hb2 with h4 | h4; exact .inl h4; exact .inr ⟨_, h4, Nat.le_refl _⟩))
        have hnn : v2 ≠ .slice none 0 0 := fun e => by have := (hi2.1 e).2; cases this
        have HNN := hid hnn
        clear ho2 hg2 hi2 hb2 hS0 hK3 hbn HO1 hnn
        obtain ⟨a2, m2, q2, rfl⟩ := own_some HF.out.row
        go_simp
        refine hK _ _ ?_
        go_wp2
        exact ⟨⟨k + 1, _, _, by go_num, by omega, HF.out, .inr HNN.out⟩, by simp [intOf]; omega⟩
    · have hke : k = Ls.length := by omega
      go_wp2
      go_ret
      obtain ⟨hm, hv⟩ := HM.out
      obtain ⟨ba', hR, hF⟩ := hm.idx hke (by rw [hke]; exact HX.out.pos) (by rw [hke]; exact HX.out.most64) (hv.resolve_left (by have := HX.out.pos; omega))
      exact ⟨_, ba', vs', rfl, hR, hF, hm.keep⟩
end
end Go.Proofs.Ytaijfgajcmopfaa.Y12
