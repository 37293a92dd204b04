import Derived.Test.YtaijfgajcmopfaaW6
/- Remove. -/
set_option linter.unusedVariables false
namespace Go.Proofs.Ytaijfgajcmopfaa.W7
open Go.RowKit V Rh T W1 W2 W3 W4 W5 W6

theorem remove_nil (h : Int) (w : World) : Calls Try.prog 29 #[.pointer none, .int .u64 h] w fun e w' => e = .returned (.tuple #[zE, .bool false]) ∧ Keep No w w' := by
  go_enter Try.func29, Try.ntmps29
  go_wp2_with (go_at_call 55; refine (find_nil _ _).mono ?_; rintro e w' ⟨rfl, rfl⟩)
  exact bodyPost_ret (res_eu (e := z) rfl _ rfl rfl (Blk.new' _ rfl)) rfl ⟨rfl, (Keep.refl _ _).alloc _⟩

set_option maxRecDepth 100000 in
set_option maxHeartbeats 2000000 in
theorem remove_any (bt bs bits most : Nat) (es L : List Ent) (h : Int) (w : World) (hT : Tab w bt bs bits most es L.length) (hI : TInv bits most es L) (hh : 0 ≤ h) (hh2 : h < 18446744073709551616) :
    Calls Try.prog 29 #[.pointer (some ⟨bt, 0, none⟩), .int .u64 h] w fun e' w' => e' = .returned (.tuple #[optE (lget h L), .bool (lget h L).isSome]) ∧ Keep (At bt bs) w w' ∧
      Is w' bt bs most (lrem h L) := by
  have H0 := hid hT
  have HI := hid hI
  obtain ⟨z1, z2⟩ := hT.lt
  have hfind : ∀ W, Keep No w W → Calls Try.prog 55 #[.pointer (some ⟨bt, 0, none⟩), .int .u64 h] W fun e' w' => e' = .returned (.int .i64 (posI es h)) ∧ Keep No W w' := fun W hW => find_any bt bs bits most L.length es L h W (hT.mod hW (no _) (no _)) hI hh hh2
  have HB : Hid (Blk (w.alloc (.cells #[.int .u64 0, .int .u64 0, .int .u64 0, .int .u8 0] 27)) w.heap.size [.int .u64 0, .int .u64 0, .int .u64 0, .int .u8 0] 27) := Blk.new' _ rfl
  cases hp : posOf es h with
  | none =>
    rw [posI_none hp] at hfind
    have hg := hI.pos_none hp
    have HG := hid hg
    clear hT hI hp hg
    go_enter Try.func29, Try.ntmps29
    go_wp2_with (go_at_call 55; refine (hfind _ ((Keep.refl _ _).alloc _)).mono ?_; rintro e w1 ⟨rfl, hk⟩; have hk1 := hid ((Keep.alloc (Keep.refl No w) _).trans hk (fun _ _ h => h)); obtain ⟨q0, b0, b1, b2, b3, bf⟩ := (HB.out.mod hk (no _)).four; have hd := hid (HB.out.mod hk (no _)); clear hk)
    exact bodyPost_ret (res_eu (e := z) rfl _ rfl rfl (Blk.setE hd.out z)) rfl ⟨by rw [HG.out]; rfl, (hk1.out.mono (fun _ _ h => h.elim)).set4 (fun h => absurd h (by omega)) _ _ _ _ _ _ _ _,
      by rw [lrem_of_none HG.out]; exact ⟨bits, es, (H0.out.mod hk1.out (no _) (no _)).other4 (by omega) (by omega) _ _ _ _ _ _ _ _, HI.out⟩⟩
  | some p =>
    rw [posI_some hp] at hfind
    have hg := hI.pos_some hp
    obtain ⟨hp1, hp2, hp3⟩ := posOf_spec hI.len hp
    have hH : Hole bits (2 ^ bits) es (lrem h L) p := ⟨hI.len, hI.rh, hp1, hp2, hI.perm.trans (perm_lrem hI.sorted hg), hI.home⟩
    have hlrem := lrem_length hI.sorted hg
    obtain ⟨q, hq, hqf⟩ := hI.free
    have hoks : ∀ i, i < 2 ^ bits → (gt es i).full = true → (gt es i).ok := fun i hi hf => (hI.ok _ (hI.mem hi hf)).1
    have hN := hI.n_pos
    have hN2 := hI.n_le
    have hb := hI.b2
    have hb2 : bits ≤ 16 := Nat.le_trans hI.bm hI.m16
    have hlen := hI.len
    have HG := hid hg
    have HH := hid hH
    have HLR := hid hlrem
    have Hoks := hid hoks
    generalize hNN : 2 ^ bits = N at *
    have HN := hid hNN
    have HLEN := hid hlen
    rw [← hlen] at hp1
    clear hT hI hp hg hH hlrem hoks hNN hp2 hp3 hlen
    go_enter Try.func29, Try.ntmps29
    go_wp2_with (go_at_call 55; refine (hfind _ ((Keep.refl _ _).alloc _)).mono ?_; rintro e w1 ⟨rfl, hk⟩; have hk1 := hid ((Keep.alloc (Keep.refl No w) _).trans hk (fun _ _ h => h)); obtain ⟨q0, b0, b1, b2, b3, bf⟩ := (HB.out.mod hk (no _)).four; have hd := hid (HB.out.mod hk (no _)); obtain ⟨C, hC, hC1, z1', z2', n1, n2, c0, c1, c2, c3, s0, s1, s2, s3, f1, f2⟩ := (H0.out.mod hk1.out (no _) (no _)).open hp1; clear hk)
    go_loopw [6] (fun a wr => ∃ (at_ : Nat) (es' : List Ent), a = .int .i64 at_ ∧ Hole bits N es' (lrem h L) at_ ∧ Tab wr bt bs bits most es' L.length ∧ Blk wr w.heap.size (cellsE z) 27 ∧ Blk wr w1.heap.size (cellsE (gt es p)) 27 ∧ Keep (At bt bs) w wr ∧ (gt es' q).full = false ∧ (∀ i, i < N → (gt es' i).full = true → (gt es' i).ok)) (fun a _ => way N (intOf a).toNat q)
    case atStart =>
      exact ⟨p, es, rfl, HH.out, (H0.out.mod hk1.out (no _) (no _)).alloc _, hd.out.alloc _, Blk.new' _ rfl, (hk1.out.mono (fun _ _ h => h.elim)).alloc _, hqf, Hoks.out⟩
    case round =>
      obtain ⟨at_, es', rfl, hH, hT, hB0, hB1, hK, hfree, hoks⟩ := hrel
      have hl := hH.len
      have hat := hH.lt
      have hnx := nx_lt hat
      obtain ⟨C', hC', hC1', z3, z4, m1, m2, c0', c1', c2', c3', s0', s1', s2', s3', f1', f2'⟩ := hT.open (i := nx N at_) (by omega)
      obtain ⟨_, _, _, _, _, _, _, _, _, _, _, t0, t1, t2, t3, _, _⟩ := hT.open (i := at_) (by omega)
      obtain ⟨q1, x0, x1, x2, x3, g1⟩ := hB0.four
      obtain ⟨q2, y0, y1, y2, y3, g2⟩ := hB1.four
      rw [hl] at c0' hC'
      have hne : at_ ≠ q := fun e => by subst e; rw [hH.full] at hfree; cases hfree
      have hat0 : 0 ≤ (at_ : Int) := by omega
      have hat1 : (at_ : Int) < N := by omega
      have hnx0 : 0 ≤ (nx N at_ : Int) := by omega
      have hnx1 : (nx N at_ : Int) < N := by omega
      have n5 : bt ≠ w.heap.size := by omega
      have n6 : bs ≠ w.heap.size := by omega
      have n7 : bt ≠ w1.heap.size := by omega
      have n8 : bs ≠ w1.heap.size := by omega
      have n9 : w.heap.size ≠ bs := by omega
      have n10 : w.heap.size ≠ bt := by omega
      have n11 : w1.heap.size ≠ bs := by omega
      have n12 : w1.heap.size ≠ bt := by omega
      have n13 : w.heap.size ≠ w1.heap.size := by omega
      have n14 : w1.heap.size ≠ w.heap.size := by omega
      have hlt : at_ < es'.length := by omega
      have hLpos : 1 ≤ L.length := by have := HLR.out; omega
      have hLn : L.length ≤ 65536 := by have h1 := HI.out.room; rw [HN.out] at h1; omega
      have elen : Hid (((L.length : Int) - 1) = ((lrem h L).length : Nat)) := by show _ = _; have := HLR.out; omega
      have Hlrem : Hid (L.length - 1 = (lrem h L).length) := by show _ = _; have := HLR.out; omega
      have hfin : ((gt es' (nx N at_)).full = false ∨ dist bits N es' (nx N at_) = 0) → TInv bits most (es'.set at_ z) (lrem h L) := by
        intro hs
        obtain ⟨r1, r2⟩ := hH.clear hs
        have h1 := HI.out
        have h2 := HN.out
        subst h2
        refine h1.removed HG.out (by rw [List.length_set]; exact hl) r1 ?_
        exact ((r2.cons _).trans (perm_lrem h1.sorted HG.out).symm).trans h1.perm.symm
      have HFIN := hid hfin
      have HHo := hid hH
      have HTa := hid hT
      have HB0' := hid hB0
      have HB1' := hid hB1
      have HK := hid hK
      have HO := hid hoks
      have HFR := hid hfree
      clear hfin hH hT hB0 hB1 hK hl hoks hfree
      by_cases hE : (gt es' (nx N at_)).a = 0
      · have hEb : ((gt es' (nx N at_)).a == 0) = true := by simp [hE]
        have Hf := hid (HFIN.out (.inl (by simp [Ent.full, hE])))
        clear hE
        go_wp2_with (first | (go_at_call 56; refine (next_any bt bs N C' _ _ (by go_simp) (by omega) hN2 hat).mono ?_; rintro e w' ⟨rfl, rfl⟩) | (go_at_call 51; refine (empty_any _ _ _ _ _).mono ?_; rintro e w' ⟨rfl, rfl⟩))
        rw [elen.out]
        exact bodyPost_ret (res_eu rfl _ rfl rfl ((Blk.setE (((HB0'.out.other4 n9 _ _ _ _ _ _ _ _).other _ _ n10)) (gt es p)).alloc _)) rfl
          ⟨by rw [HG.out]; rfl, (((HK.out.set4 (fun _ => .inr rfl) _ _ _ _ _ _ _ _).setCell _ _ (fun _ => .inl rfl)).set4 (fun h => absurd h (by omega)) _ _ _ _ _ _ _ _).alloc _,
            bits, es'.set at_ z, (((HTa.out.set4 hlt z).setN _).other4 n5 n6 _ _ _ _ _ _ _ _).alloc _, Hf.out⟩
      · have hEb : ((gt es' (nx N at_)).a == 0) = false := by simp [hE]
        have hf : (gt es' (nx N at_)).full = true := by simp [Ent.full, hE]
        have hg := HHo.out.home _ hnx hf
        obtain ⟨g3, g4, _⟩ := HO.out _ hnx hf
        have Hff := hid hf
        clear hE hf
        by_cases hd0 : way N (home bits (gt es' (nx N at_)).h) (nx N at_) = 0
        · have hdb : (((way N (home bits (gt es' (nx N at_)).h) (nx N at_) : Nat) : Int) == 0) = true := by simp [hd0]
          have Hf := hid (HFIN.out (.inr (by rw [dist_way]; exact hd0)))
          clear hd0
          go_wp2_with (first | (go_at_call 56; refine (next_any bt bs N C' _ _ (by go_simp) (by omega) hN2 hat).mono ?_; rintro e w' ⟨rfl, rfl⟩) | (go_at_call 51; refine (empty_any _ _ _ _ _).mono ?_; rintro e w' ⟨rfl, rfl⟩) | (go_at_call 57; refine (dist_any bt bs bits N C' _ (gt es' (nx N at_)).h _ (by go_simp) (by go_simp) (by omega) hN2 hnx hb hb2 g3 g4 hg (by go_simp)).mono ?_; rintro e w' ⟨rfl, nd, rfl⟩))
          rw [elen.out]
          exact bodyPost_ret (res_eu rfl _ rfl rfl (Blk.setE ((((HB0'.out.alloc _).drewN _).other4 n9 _ _ _ _ _ _ _ _).other _ _ n10) (gt es p))) rfl
            ⟨by rw [HG.out]; rfl, ((((HK.out.alloc _).drewN _).set4 (fun _ => .inr rfl) _ _ _ _ _ _ _ _).setCell _ _ (fun _ => .inl rfl)).set4 (fun h => absurd h (by omega)) _ _ _ _ _ _ _ _,
              bits, es'.set at_ z, ((((HTa.out.alloc _).drewN _).set4 hlt z).setN _).other4 n5 n6 _ _ _ _ _ _ _ _, Hf.out⟩
        · have hdb : (((way N (home bits (gt es' (nx N at_)).h) (nx N at_) : Nat) : Int) == 0) = false := by simp; omega
          have hne2 : nx N at_ ≠ at_ := by unfold nx; split <;> omega
          have Hs := hid (HHo.out.shift Hff.out (by rw [dist_way]; exact hd0) hne2)
          have Hdown := hid (way_down hat hq hne)
          clear hd0
          go_wp2_with (first | (go_at_call 56; refine (next_any bt bs N C' _ _ (by go_simp) (by omega) hN2 hat).mono ?_; rintro e w' ⟨rfl, rfl⟩) | (go_at_call 51; refine (empty_any _ _ _ _ _).mono ?_; rintro e w' ⟨rfl, rfl⟩) | (go_at_call 57; refine (dist_any bt bs bits N C' _ (gt es' (nx N at_)).h _ (by go_simp) (by go_simp) (by omega) hN2 hnx hb hb2 g3 g4 hg (by go_simp)).mono ?_; rintro e w' ⟨rfl, nd, rfl⟩))
          go_region
          go_wp2
          have hnq : q ≠ at_ := fun e => hne e.symm
          exact ⟨⟨nx N at_, es'.set at_ (gt es' (nx N at_)), rfl, Hs.out, ((HTa.out.alloc _).drewN _).set4 hlt _, ((HB0'.out.alloc _).drewN _).other4 n9 _ _ _ _ _ _ _ _, ((HB1'.out.alloc _).drewN _).other4 n11 _ _ _ _ _ _ _ _,
            ((HK.out.alloc _).drewN _).set4 (fun _ => .inr rfl) _ _ _ _ _ _ _ _, by rw [gt_set hlt, if_neg hnq]; exact HFR.out, fun i hi => by
              rw [gt_set hlt]
              split
              · intro _; exact HO.out _ hnx Hff.out
              · exact HO.out i hi⟩, by simp [intOf]; have := Hdown.out; omega⟩
end Go.Proofs.Ytaijfgajcmopfaa.W7
