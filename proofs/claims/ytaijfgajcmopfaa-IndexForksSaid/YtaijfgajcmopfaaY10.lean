import Derived.Test.YtaijfgajcmopfaaY12
/- Fork of the program's index. -/
set_option linter.unusedVariables false
set_option linter.unusedSimpArgs false
namespace Go.Proofs.Ytaijfgajcmopfaa.Y10
open Go.RowKit Go.Shelf V Rh T W1 W2 W3 W4 W6 Rf X1 X2 X3 X4 X5 X6 Pl Y1 Y2 Y3 Y4 Y5 Y6 Y8 Y11 Ap

section
variable {w : World} {bx bl most : Nat} {bts bss : List Nat} {Ls : List (List Ent)}

theorem fork_is {w : World} {bt bs most : Nat} {L : List Ent} (h : Is w bt bs most L) : Calls Try.prog 42 #[.pointer (some ⟨bt, 0, none⟩)] w fun e w' => ∃ bt' bs', e = .returned (.pointer (some ⟨bt', 0, none⟩)) ∧ w.heap.size ≤ bt' ∧ w.heap.size ≤ bs' ∧ bt' ≠ bs' ∧ Is w' bt' bs' most L ∧ Keep No w w' := by
  obtain ⟨bits, es, hT, hI⟩ := h
  exact (fork_any bt bs bits most _ es L w hT hI).mono fun e w' ⟨bt', bs', h1, h2, h3, h4, h5⟩ => ⟨bt', bs', h1, h2, h3, h4.ne, ⟨bits, es, h4, hI⟩, h5⟩

set_option maxRecDepth 100000 in
set_option maxHeartbeats 2000000 in
theorem ifork_any (hX : Idx w bx bl bts bss most Ls) :
    Calls Try.prog 15 #[ptr bx] w fun e w' => ∃ bx' bl' bts' bss', e = .returned (ptr bx') ∧ Idx w' bx' bl' bts' bss' most Ls ∧ (∀ j, Foot bx' bl' bts' bss' j → w.heap.size ≤ j) ∧ Keep No w w' := by
  obtain ⟨cap, hb⟩ := hX.head
  obtain ⟨z0, c0, f0⟩ := hb.one
  have hmk : Making w (w.alloc (.cells #[.slice none 0 0] 58)) w.heap.size (.slice none 0 0) [] [] most 0 Ls :=
    ⟨Blk.new' _ rfl, World.ownsRow_nil _ _ _ _, rfl, rfl, fun i hi => absurd hi (by omega), List.nodup_nil, fun j hj => by simp at hj, (Keep.refl _ _).alloc _, Nat.le_refl _⟩
  have HMK := hid hmk
  have HX := hid hX
  have hq : ∀ W : World, (binOp .eql 56 (.slice (some ⟨bl, 0, none⟩) Ls.length cap) (.slice none 0 0)).run Try.prog W = .ok (.bool false) W := fun W => by kernel_rfl
  clear hmk hX hb
  obtain ⟨t0, hi, hz0, hz1, hz2⟩ := info_parts info70
  unfold ptr
  have hn0 : (0 : Int) ≤ (Ls.length : Int) := by omega
  go_enter Try.func15, Try.ntmps15
  go_wp2
  go_loopw [22] (fun i wr => ∃ (k : Nat) (v : Value) (bts' bss' : List Nat), i = .int .i64 k ∧ k ≤ Ls.length ∧ Hid (Making w wr w.heap.size v bts' bss' most k Ls ∧ (k = 0 ∨ v ≠ .slice none 0 0))) (fun i wr => Ls.length - (intOf i).toNat)
  case atStart => exact ⟨0, _, [], [], rfl, Nat.zero_le _, HMK.out, .inl rfl⟩
  case round =>
    obtain ⟨k, v, bts', bss', rfl, hkn, HM⟩ := hrel
    obtain ⟨z2, d1, g0⟩ := HM.out.1.head.one
    by_cases hk : k < Ls.length
    · have hk0 : (0 : Int) ≤ k := by omega
      have hk' : (k : Int) < Ls.length := by omega
      have hk2 : (k : Int) ≤ 64 := by have := HX.out.most64; omega
      have hXr := HX.out.keep HM.out.1.keep (fun _ _ => no _)
      have hat := hXr.at hk
      have hfk := fun W (hW : Keep No wr W) => fork_is ((hXr.keep hW (fun _ _ => no _)).tabs k hk)
      obtain ⟨x0, hx0⟩ : ∃ x, bts.getD k 0 = x := ⟨_, rfl⟩
      rw [hx0] at hat hfk
      have HFK := hid hfk
      have h64 := HX.out.most64
      clear hXr hfk hx0
      unfold ptr at hat
      go_wp2
      have S1 : Hid (∀ V : World, Keep No wr V → V.cell? ⟨w.heap.size, 0, none⟩ = some v) := fun V hV => (World.cell?_of_block (hV.block _ z2 (no _))).trans d1
      have hm3 : k + 1 ≤ maxLen := by unfold maxLen; omega
      have hm4 : (k + 1) * 8 ≤ 140737488355328 := by omega
      have hb2 : w.heap.size + 1 ≤ wr.heap.size := by omega
      have M := hid (And.intro hm3 (And.intro hm4 hb2))
      clear hm3 hm4 hb2 h64
      have hS0 := S1.out _ ((Keep.refl No wr).drew)
      refine Pop.wp_region_pop (m := 11) (S := fun w' => w'.cell? ⟨w.heap.size, 0, none⟩ = some v) (by kernel_rfl) (by kernel_rfl) ?_
      refine wpAnyH_take (i := 0) (v := ?_) rfl (by kernel_rfl) (by kernel_rfl) (by kernel_rfl) (fun _ _ _ h => h) (Or.inl ⟨by rfl, ?_⟩) (hS0) ?_
      rotate_left
      · (intro w hSw; obtain q1 := hSw; go_simp; try with_reducible rfl)
      simp only [Act.put, List.setIfInBounds_toArray, List.set_cons_zero, List.set_cons_succ]
      refine wpAnyH_take (i := 1) (v := ?_) rfl (by kernel_rfl) (by kernel_rfl) (by kernel_rfl) (fun _ _ _ h => h) (Or.inl ⟨by rfl, ?_⟩) (hS0) ?_
      rotate_left
      · (intro w hSw; obtain q1 := hSw; go_simp; try with_reducible rfl)
      simp only [Act.put, List.setIfInBounds_toArray, List.set_cons_zero, List.set_cons_succ]
      refine wpAnyH_take (i := 2) (v := ?_) rfl (by kernel_rfl) (by kernel_rfl) (by kernel_rfl) (fun _ _ _ h => h) (Or.inl ⟨by rfl, ?_⟩) (hS0) ?_
      rotate_left
      · (intro w hSw; obtain q1 := hSw; go_simp; try with_reducible rfl)
      simp only [Act.put, List.setIfInBounds_toArray, List.set_cons_zero, List.set_cons_succ]
      refine wpAnyH_take (i := 3) (v := ?_) rfl (by kernel_rfl) (by kernel_rfl) (by kernel_rfl) (fun _ _ _ h => h) (Or.inl ⟨by rfl, ?_⟩) (hS0) ?_
      rotate_left
      · (intro w hSw; obtain q1 := hSw; go_simp; try with_reducible rfl)
      simp only [Act.put, List.setIfInBounds_toArray, List.set_cons_zero, List.set_cons_succ]
      refine wpAnyH_take (i := 4) (v := ?_) rfl (by kernel_rfl) (by kernel_rfl) (by kernel_rfl) (fun _ _ _ h => h) (Or.inl ⟨by rfl, ?_⟩) (hS0) ?_
      rotate_left
      · (intro w hSw; obtain q1 := hSw; go_simp; try with_reducible rfl)
      simp only [Act.put, List.setIfInBounds_toArray, List.set_cons_zero, List.set_cons_succ]
      refine wpAnyH_take (i := 5) (v := ?_) rfl (by kernel_rfl) (by kernel_rfl) (by kernel_rfl) (fun _ _ _ h => h) (Or.inl ⟨by rfl, ?_⟩) (hS0) ?_
      rotate_left
      · (intro w hSw; obtain q1 := hSw; go_simp; try with_reducible rfl)
      simp only [Act.put, List.setIfInBounds_toArray, List.set_cons_zero, List.set_cons_succ]
      refine wpAnyH_ready (rs := [6]) (by kernel_rfl) (by simp) (AllReadyH.cons (i := 6) rfl (fun K' hK => ?_) AllReadyH.nil)
      go_simp
      refine (HFK.out _ ((Keep.refl No wr).drew)).mono ?_
      rintro e w1 ⟨bt1, bs1, rfl, q1, q2, q3, q4, q5⟩
      have hK1 : Keep No wr w1 := ((Keep.refl No wr).drew).trans q5 (fun _ _ e => e)
      refine hK.out _ _ (S1.out _ hK1) (fun _ => ?_)
      clear hK
      have HI := hid q4
      have HBT : Hid (wr.heap.size ≤ bt1) := q1
      have HBS : Hid (wr.heap.size ≤ bs1) := q2
      have HNE := hid q3
      have HK1 := hid hK1
      clear q1 q2 q3 q4 q5 hK1
      refine wpAnyH_ready (rs := [7]) (by kernel_rfl) (by simp) (AllReadyH.cons (i := 7) rfl (fun K' hK => ?_) AllReadyH.nil)
      go_simp
      refine hK.out _ _ (S1.out _ (HK1.out.alloc _)) (fun _ => ?_)
      clear hK
      refine wpAnyH_ready (rs := [8]) (by kernel_rfl) (by simp) (AllReadyH.cons (i := 8) rfl (fun K' hK => ?_) AllReadyH.nil)
      refine step_append_src _ (by rfl) (.tmp 30) (.tmp 33) 56 (by rfl) (w.heap.size + 1) 70 t0 (.pointer none) 1 8 Try.underlying56 hi hz0 hz1 hz2 rfl (by decide) v k (bts'.map ptr) (by rfl) (own_keep HM.out.1.row (HK1.out.alloc (.cells #[.pointer (some ⟨bt1, 0, none⟩)] 70)) (fun _ _ => no _)) (.slice (some ⟨w1.heap.size, 0, none⟩) 1 1) 1 [.pointer (some ⟨bt1, 0, none⟩)] (by rfl) (Src.one w1 _ 70) (by rfl) ?c1 M.out.1 M.out.2.1 ?c2 ?c3
      case c1 => intro u hu; simp only [List.mem_singleton] at hu; subst hu; rfl
      case c2 => have := HK1.out.size; have := M.out.2.2; simp; omega
      case c3 =>
        intro v2 w3 ho2 hg2 hi2 hb2
        have hK3 : Keep (fun j => v.ownBlock = some j) wr w3 := ((HK1.out.alloc _).mono (fun _ _ e => e.elim)).grown hg2 (fun k e _ => e)
        have hne : v.ownBlock ≠ some w.heap.size := fun e => by have := (HM.out.1.row.lt _ e).1; omega
        have hbn := HM.out.1.head.mod hK3 hne
        obtain ⟨z3, d3, g3⟩ := hbn.one
        refine hK.out _ _ d3 (fun _ => ?_)
        clear hK
        change wpAnyH _ _ _ _ _ _ _ (Act.put _ (some 34) _) _
        simp only [Act.put, List.setIfInBounds_toArray, List.set_cons_zero, List.set_cons_succ]
        refine wpAnyH_take (i := 9) (v := ?_) rfl (by kernel_rfl) (by kernel_rfl) (by kernel_rfl) (fun _ _ _ h => h) (Or.inl ⟨by rfl, ?_⟩) (d3) ?_
        rotate_left
        · (intro w hSw; obtain q1 := hSw; go_simp; try with_reducible rfl)
        simp only [Act.put, List.setIfInBounds_toArray, List.set_cons_zero, List.set_cons_succ]
        refine wpAnyH_take (i := 10) (v := ?_) rfl (by kernel_rfl) (by kernel_rfl) (by kernel_rfl) (fun _ _ _ h => h) (Or.inl ⟨by rfl, ?_⟩) (d3) ?_
        rotate_left
        · (intro w hSw; obtain q1 := hSw; go_simp; try with_reducible rfl)
        simp only [Act.put, List.setIfInBounds_toArray, List.set_cons_zero, List.set_cons_succ]
        refine wpAnyH_done (by kernel_rfl) ?_ _
        refine Pop.before_normal ?_
        refine wpOp_step (i := 11) rfl (fun K' hK => ?_)
        have HF := hid (HM.out.1.push (bt := bt1) (bs := bs1) (HK1.out.alloc (.cells #[.pointer (some ⟨bt1, 0, none⟩)] 70)) HBT.out HBS.out HNE.out (is_keep HI.out ((Keep.refl No _).alloc _) (no _) (no _)) hg2 ho2 (by rcases hb2 with h4 | h4; exact .inl h4; exact .inr ⟨_, h4, Nat.le_refl _⟩))
        have hnn : v2 ≠ .slice none 0 0 := fun e => by have := (hi2.1 e).2; cases this
        have HNN := hid hnn
        clear ho2 hg2 hi2 hb2 hS0 hK3 hbn hnn
        obtain ⟨a2, m2, q2, rfl⟩ := own_some HF.out.row
        go_simp
        refine hK _ _ ?_
        go_wp2
        exact ⟨⟨k + 1, _, _, _, by go_num, by omega, HF.out, .inr HNN.out⟩, by simp [intOf]; omega⟩
    · have hke : k = Ls.length := by omega
      go_wp2
      go_ret
      obtain ⟨hm, hv⟩ := HM.out
      obtain ⟨bl', hR, hF⟩ := hm.idx hke (by rw [hke]; exact HX.out.pos) (by rw [hke]; exact HX.out.most64) (hv.resolve_left (by have := HX.out.pos; omega))
      exact ⟨_, bl', bts', bss', rfl, hR, hF, hm.keep⟩
end
end Go.Proofs.Ytaijfgajcmopfaa.Y10
