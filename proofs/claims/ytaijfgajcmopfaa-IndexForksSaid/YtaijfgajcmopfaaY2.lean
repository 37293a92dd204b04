import Derived.Test.YtaijfgajcmopfaaY1
/- The document's index: Stripe, Find. -/
set_option linter.unusedVariables false
namespace Go.Proofs.Ytaijfgajcmopfaa.Y2
open Go.RowKit Go.Shelf V Rh T W1 W2 W3 W4 W6 Rf X1 X4 X6 Pl Y1

theorem rstripe_any (br ba most n cap : Nat) (h : Int) (w : World) (hb : Blk w br [.int .i64 most, .slice (some ⟨ba, 0, none⟩) n cap] 80) (hn : 1 ≤ n) (hn2 : n ≤ 64) (hh : 0 ≤ h) (hh2 : h < 18446744073709551616) :
    Calls Try.prog 34 #[ptr br, .int .u64 h] w fun e w' => e = .returned (.int .i64 (stripeI n h : Nat)) ∧ w = w' := by
  have hne : ((n : Int) == 0) = false := beq_eq_false_iff_ne.2 (by omega)
  have hlt := stripeI_lt hn h
  have hm2 := Int.emod_nonneg h (show (n : Int) ≠ 0 by omega)
  have hm3 := Int.emod_lt_of_pos h (show (0 : Int) < n by omega)
  have E2 : Hid (h % (n : Int) = (stripeI n h : Nat)) := by
    show _ = _
    unfold stripeI
    omega
  obtain ⟨z0, c0, c1, f0⟩ := hb.two
  clear hb hlt
  unfold ptr at *
  go_enter Try.func34, Try.ntmps34
  go_wp2
  go_ret
  exact ⟨ret_int E2.out, rfl⟩

theorem row_form {w : World} {v : Value} {L : List Ent} (h : w.ownsRow 0 27 4 v L.length (flat L)) : ∃ a cap, v = .slice a L.length cap ∧ L.length ≤ cap ∧ (L = [] ∨ ∃ g rest, a = some ⟨g, 0, none⟩ ∧ Blk w g (flat L ++ rest) 27) := by
  by_cases hv : v = .slice none 0 0
  · subst hv
    rcases h.2 with ⟨_, h2⟩ | ⟨g, cap, cur, h1, _⟩
    · have : L = [] := List.eq_nil_of_length_eq_zero h2
      subst this
      exact ⟨none, 0, rfl, Nat.le_refl _, .inl rfl⟩
    · cases h1
  · obtain ⟨g, cap, rest, rfl, _, hn, hc, hb, _⟩ := own_blk h hv
    exact ⟨_, cap, rfl, hn, .inr ⟨g, rest, rfl, hb⟩⟩

set_option maxRecDepth 100000 in
set_option maxHeartbeats 1000000 in
theorem rfind_any (br ba most : Nat) (vs : List Value) (Ls : List (List Ent)) (h : Int) (w : World) (hX : RIdx w br ba vs most Ls) (hG : GoodL most Ls) (hh : 0 ≤ h) (hh2 : h < 18446744073709551616) :
    Calls Try.prog 59 #[ptr br, .int .u64 h] w fun e w' => e = .returned (.tuple #[.int .i64 (stripeI Ls.length h : Nat), .int .i64 (posL h (sOf h Ls) : Nat), .bool (lget h (sOf h Ls)).isSome]) ∧ Keep No w w' := by
  obtain ⟨cap, hcap, hb⟩ := hX.head
  have hsi := stripeI_lt hX.pos h
  have hst := fun W (hW : Keep No w W) => rstripe_any br ba most Ls.length cap h W (hb.mod hW (no _)) hX.pos hX.most64 hh hh2
  have hat := hX.at hsi
  obtain ⟨hs, hok, hroom⟩ := hG.2 _ hsi
  have hrow := hX.own _ hsi
  obtain ⟨a, rcap, hv, hrc, hform⟩ := row_form hrow
  rw [hv] at hat
  have hl64 := hX.most64
  have h16 := hG.1
  have hLn : (Ls.getD (stripeI Ls.length h) []).length ≤ 65536 := by have : 2 ^ most ≤ 65536 := pow_le16 h16; omega
  unfold sOf
  clear hv hrow hX hG hroom
  have h0 : 0 ≤ ((stripeI Ls.length h : Nat) : Int) := by omega
  have h1 : ((stripeI Ls.length h : Nat) : Int) < Ls.length := by omega
  have h2 : stripeI Ls.length h < cap := by omega
  generalize Ls.getD (stripeI Ls.length h) [] = L at *
  generalize stripeI Ls.length h = s at *
  obtain ⟨z0, c0, c1, f0⟩ := hb.two
  have HB := hid hb
  have HS := hid hs
  have HAT := hid hat
  have HF := hid hform
  have HOK := hid hok
  have HLN := hid hLn
  clear hb hs hform hok hcap
  unfold ptr at *
  have hn0 : (0 : Int) ≤ (L.length : Int) := by omega
  go_enter Try.func59, Try.ntmps59
  go_wp2_with (go_at_call 34; refine (hst _ (Keep.refl _ _)).mono ?_; rintro e w' ⟨rfl, rfl⟩)
  go_loopw [21] (fun i wr => ∃ k : Nat, i = .int .i64 k ∧ k ≤ L.length ∧ Keep No w wr ∧ Hid (∀ j, j < k → (gt L j).h < h)) (fun i _ => L.length - (intOf i).toNat)
  case atStart => exact ⟨0, rfl, Nat.zero_le _, Keep.refl _ _, fun j hj => absurd hj (Nat.not_lt_zero _)⟩
  case round =>
    obtain ⟨k, rfl, hk, hK, hlow⟩ := hrel
    obtain ⟨z1, d0, d1, g0⟩ := (HB.out.mod hK (no _)).two
    have hatr : wr.cell? ⟨ba, s, none⟩ = some (.slice a L.length rcap) := (World.cell?_of_block (hK.block ba (cell_lt hat) (no _))).trans hat
    have HK := hid hK
    clear hK
    by_cases hkl : k < L.length
    · obtain ⟨g, rest, rfl, hbg⟩ := HF.out.resolve_left (fun e => by rw [e] at hkl; exact absurd hkl (Nat.not_lt_zero _))
      have hbr := hbg.mod HK.out (no _)
      obtain ⟨s0, s1, s2, s3⟩ := slot hbr hkl
      have hk0 : (0 : Int) ≤ k := by omega
      have hk1 : (k : Int) < L.length := by omega
      clear hbg hbr hat
      by_cases hle : h ≤ (gt L k).h
      · have hd : decide (h ≤ (gt L k).h) = true := by simpa using hle
        have hp : posL h L = k := posL_eq hlow.out hk (fun _ => hle)
        have hf : ((gt L k).h == h) = (lget h L).isSome := by
          rw [lget_pos HS.out, hp]
          by_cases he : (gt L k).h = h
          · simp [hkl, he]
          · simp [hkl, he]
        have HP := hid hp
        have HFD := hid hf
        clear hp hf hle
        go_wp2
        go_quiet (fail)
        go_wp2
        refine bodyPost_ret (results_tmp3 rfl _ _ _) rfl ⟨?_, ((HK.out.alloc _).drewN _)⟩
        rw [HP.out, ← HFD.out]
        rfl
      · have hd : decide (h ≤ (gt L k).h) = false := by simpa using hle
        have hlow2 : Hid (∀ j, j < k + 1 → (gt L j).h < h) := fun j hj => by
          by_cases hjk : j = k
          · subst hjk; omega
          · exact hlow.out j (by omega)
        clear hle
        go_wp2
        exact ⟨⟨k + 1, by go_num, hkl, HK.out.alloc _, hlow2⟩, by simp [intOf]; omega⟩
    · have hke : k = L.length := by omega
      subst hke
      have hp : posL h L = L.length := posL_eq hlow.out hk (fun hc => absurd hc hkl)
      have hf : (lget h L).isSome = false := by
        rw [lget_pos HS.out, hp]
        simp
      have HP := hid hp
      have HFD := hid hf
      clear hp hf
      go_wp2
      go_quiet (fail)
      go_wp2
      refine bodyPost_ret (results_tmp3 rfl _ _ _) rfl ⟨?_, (HK.out.drewN _)⟩
      rw [HP.out, HFD.out]
      rfl
end Go.Proofs.Ytaijfgajcmopfaa.Y2
