import Derived.Test.YtaijfgajcmopfaaY8
/- The document's index: Purge. -/
set_option linter.unusedVariables false
set_option linter.unusedSimpArgs false
namespace Go.Proofs.Ytaijfgajcmopfaa.Y9
open Go.RowKit Go.Shelf V Rh T W1 W2 W3 W4 W6 Rf X1 X2 X3 X4 X5 X6 Pl Y1 Y2 Y3 Y4 Y5 Y6 Y8 Ap

def notHit (r : Int) (e : Ent) : Bool := !phit r e
theorem take_more {L : List Ent} {i : Nat} (hi : i < L.length) : L.take (i + 1) = L.take i ++ [gt L i] := by
  rw [List.take_succ_eq_append_getElem hi]
  simp [gt, hi]
theorem flat_snoc (L : List Ent) (e : Ent) : flat (L ++ [e]) = flat L ++ cellsE e := by simp [flat]
theorem filter_snoc {f : Ent → Bool} (L : List Ent) (e : Ent) : (L ++ [e]).filter f = L.filter f ++ if f e then [e] else [] := by
  rw [List.filter_append]
  congr 1
  by_cases h : f e = true
  · simp [h]
  · simp [h]

section
variable {w : World} {br ba most : Nat} {vs : List Value} {Ls : List (List Ent)}

set_option maxRecDepth 100000 in
set_option maxHeartbeats 2000000 in
theorem rpurge_on (hX : RIdx w br ba vs most Ls) (hG : GoodL most Ls) (m : Nat) (h2 : m < Ls.length) (r : Int) (hr : 0 ≤ r) (hr2 : r < 9223372036854775808) :
    Calls Try.prog 39 #[ptr br, .int .i64 m, .int .i64 r] w fun e w' => e = .returned (.int .i64 ((Ls.getD m []).countP (phit r) : Nat)) ∧ RThen w w' (ptr br) most (Ls.set m ((Ls.getD m []).filter (notHit r))) (RFoot br ba vs) := by
  obtain ⟨cap2, y0, y1, y2, y3, y4, y5, y6, y7, y9⟩ := Y4.RIdx.opn hX h2
  have hnew : ∀ w1 v' L', Keep No w w1 → w1.ownsRow w.heap.size 27 4 v' L'.length (flat L') → RThen w (w1.setCell ⟨ba, m, none⟩ v') (ptr br) most (Ls.set m L') (RFoot br ba vs) := fun w1 v' L' h1 h3 => Y4.RIdx.newrow hX h2 h1 h3
  have hsm := GoodL.small hG h2
  have hok := (hG.2 m h2).2.1
  have g1 : decide ((m : Int) < 0) = false := by simp
  have g2 : decide ((Ls.length : Int) ≤ (m : Int)) = false := by simp; omega
  have g6 : decide (Ls.length ≤ m) = false := by simp; omega
  have g3 : decide (r < 0) = false := by simp; omega
  have g4 : (m : Int) < Ls.length := by omega
  have g5 : (0 : Int) ≤ (m : Int) := by omega
  have hwr : IntKind.u64.wrap r = r := IntWalk.u64_in _ ⟨by omega, by omega⟩
  have hph : ∀ x : Ent, phit r x = (x.a / 281474976710656 == r) := fun x => by unfold phit; rw [decide_eq_true hr, Bool.true_and]
  have hv : ∃ a c, vs.getD m nilS = .slice a (Ls.getD m []).length c ∧ (Ls.getD m [] = [] ∨ ∃ g rest, a = some ⟨g, 0, none⟩ ∧ Blk w g (flat (Ls.getD m []) ++ rest) 27) := by
    rcases y9 with ⟨h, h'⟩ | ⟨g, rc, rest, h, _, _, hb, _⟩
    · exact ⟨none, 0, by rw [h, h']; rfl, .inl h'⟩
    · exact ⟨_, _, h, .inr ⟨g, rest, rfl, hb⟩⟩
  obtain ⟨a, c, hv, hform⟩ := hv
  rw [hv] at y7
  clear hX hv y9 hr hr2
  generalize Ls.getD m [] = L at *
  have HF := hid hform
  have HN := hid hnew
  have HS := hid hsm
  have HOK := hid hok
  have HPH := hid hph
  clear hform hnew hsm hok hG hph
  obtain ⟨t0, hi, hz0, hz1, hz2⟩ := info_parts info27
  unfold ptr
  have hn0 : (0 : Int) ≤ (L.length : Int) := by omega
  go_enter Try.func39, Try.ntmps39
  go_wp2
  go_loopw [7, 8, 34] (fun a b c wr => ∃ (i : Nat) (v' : Value), a = v' ∧ b = .int .i64 ((L.take i).countP (phit r) : Nat) ∧ c = .int .i64 i ∧ i ≤ L.length ∧ Hid (wr.ownsRow w.heap.size 27 4 v' ((L.take i).filter (notHit r)).length (flat ((L.take i).filter (notHit r))) ∧ Keep No w wr)) (fun a b c wr => L.length - (intOf c).toNat)
  case atStart => exact ⟨0, _, rfl, rfl, rfl, Nat.zero_le _, World.ownsRow_nil _ _ _ _, Keep.refl _ _⟩
  case round =>
    obtain ⟨i, v', rfl, rfl, rfl, hil, HO⟩ := hrel
    have hcn : (L.take i).countP (phit r) ≤ 65536 := by have := HS.out; have h1 := List.countP_le_length (p := phit r) (l := L.take i); rw [List.length_take] at h1; omega
    have hcn0 : (0 : Int) ≤ ((L.take i).countP (phit r) : Nat) := by omega
    have hcn1 : (((L.take i).countP (phit r) : Nat) : Int) ≤ 65536 := by omega
    by_cases hlt : i < L.length
    · obtain ⟨g, rest, rfl, hbg⟩ := HF.out.resolve_left (fun e => by rw [e] at hlt; exact absurd hlt (Nat.not_lt_zero _))
      have hbr := hbg.mod HO.out.2 (no _)
      obtain ⟨s0, s1, s2, s3⟩ := slot hbr hlt
      have hk0 : (0 : Int) ≤ i := by omega
      have hk1 : (i : Int) < L.length := by omega
      have hk2 : (i : Int) ≤ 65536 := by have := HS.out; omega
      have HT := hid (take_more hlt)
      have hm : gt L i ∈ L := by unfold gt; simp [hlt]
      obtain ⟨⟨_, _, q1, q2, _, _, _, _⟩, _⟩ := HOK.out _ hm
      have hfl : ((L.take i).filter (notHit r)).length ≤ 65536 := by have := HS.out; have h1 := List.length_filter_le (notHit r) (L.take i); rw [List.length_take] at h1; omega
      clear hbg hbr hm
      have hphx := HPH.out (gt L i)
      by_cases hx : phit r (gt L i) = true
      · have hb : ((gt L i).a / 281474976710656 == r) = true := by rw [← hphx]; exact hx
        have HX := hid hx
        clear hphx hx hcn hfl
        go_wp2
        refine ⟨⟨i + 1, _, rfl, ?_, by go_num, hlt, ?_, HO.out.2.alloc _⟩, by simp [intOf]; omega⟩
        · rw [HT.out, pcount_snoc, HX.out]
          rfl
        · rw [HT.out, filter_snoc, notHit, HX.out]
          simpa using HO.out.1.alloc _
      · have hb : ((gt L i).a / 281474976710656 == r) = false := by rw [← hphx]; simpa using hx
        have hx' : phit r (gt L i) = false := by simpa using hx
        have HX := hid hx'
        have HFL := hid hfl
        clear hphx hx hx' hcn hfl
        go_wp2_with (at_builtin; refine wpList_append_src _ rfl (.tmp 46) (.tmp 48) 39 rfl w.heap.size 27 t0 zE 4 32 Try.underlying39 hi hz0 hz1 hz2 rfl (by decide) _ _ _ rfl ((HO.out.1.alloc (.cells #[.int .u64 (gt L i).h, .int .u64 (gt L i).a, .int .u64 (gt L i).v, .int .u8 (gt L i).c] 27)).alloc (.cells #[.int .u64 (gt L i).h, .int .u64 (gt L i).a, .int .u64 (gt L i).v, .int .u8 (gt L i).c] 27)) (.slice (some ⟨wr.heap.size + 1, 0, none⟩) 1 1) 1 (cellsE (gt L i)) rfl (Src.blk (Blk.new1 27 rfl)) rfl ?c1 ?c2 ?c3 ?c4 ?c5)
        case c1 => intro u hu; simp only [cellsE, List.mem_cons, List.not_mem_nil, or_false] at hu; rcases hu with rfl | rfl | rfl | rfl <;> rfl
        case c2 => have := HFL.out; unfold maxLen; omega
        case c3 => have := HFL.out; omega
        case c4 => have := HO.out.2.size; simp; omega
        case c5 =>
          intro v2 w2 h1 h2 h3 h4
          have HO2 := hid h1
          have HK2 := hid (((HO.out.2.alloc (.cells #[.int .u64 (gt L i).h, .int .u64 (gt L i).a, .int .u64 (gt L i).v, .int .u8 (gt L i).c] 27)).alloc (.cells #[.int .u64 (gt L i).h, .int .u64 (gt L i).a, .int .u64 (gt L i).v, .int .u8 (gt L i).c] 27)).grown h2 (fun k e hk => by have := (HO.out.1.lt k e).1; omega))
          clear h1 h2 h3 h4
          go_wp2
          refine ⟨⟨i + 1, _, rfl, ?_, by go_num, hlt, ?_, HK2.out⟩, by simp [intOf]; omega⟩
          · rw [HT.out, pcount_snoc, HX.out]
            rfl
          · have h5 := HO2.out
            have e : (L.take (i + 1)).filter (notHit r) = (L.take i).filter (notHit r) ++ [gt L i] := by rw [HT.out, filter_snoc, show notHit r (gt L i) = true by rw [notHit, HX.out]; rfl, if_pos rfl]
            rw [e, flat_snoc, List.length_append]
            exact h5
    · have hie : i = L.length := by omega
      subst hie
      have e1 : wr.cell? ⟨br, 1, none⟩ = some (.slice (some ⟨ba, 0, none⟩) Ls.length cap2) := (World.cell?_of_block (HO.out.2.block _ y1 (no _))).trans y3
      have e2 : ∀ i, wr.frozen? ⟨ba, i, none⟩ = false := fun i => (World.frozen?_of_block (HO.out.2.block _ y5 (no _))).trans (y6 i)
      have e3 : wr.cell? ⟨ba, m, none⟩ = some (.slice a L.length c) := (World.cell?_of_block (HO.out.2.block _ y5 (no _))).trans y7
      obtain ⟨a', c', rfl, _⟩ := row_form (own_base HO.out.1 (Nat.zero_le _))
      go_wp2
      go_ret
      have h1 := HO.out.1
      rw [List.take_length] at h1 ⊢
      exact ⟨rfl, HN.out _ _ _ HO.out.2 h1⟩
end

theorem rpurge_any {w : World} {br ba most : Nat} {vs : List Value} {Ls : List (List Ent)} (hX : RIdx w br ba vs most Ls) (hG : GoodL most Ls) (k r : Int) (hr2 : r < 9223372036854775808) :
    Calls Try.prog 39 #[ptr br, .int .i64 k, .int .i64 r] w fun e w' => e = .returned (.int .i64 ((xall k Ls).countP (phit r) : Nat)) ∧ RThen w w' (ptr br) most (if 0 ≤ k ∧ k < Ls.length then Ls.set k.toNat ((Ls.getD k.toNat []).filter (notHit r)) else Ls) (RFoot br ba vs) := by
  have hst : RThen w w (ptr br) most Ls (RFoot br ba vs) := RHas.stays ⟨_, _, _, rfl, hX, rfl⟩ (Keep.refl _ _)
  obtain ⟨cap, hcap, hb⟩ := hX.head
  obtain ⟨z0, c0, c1, f0⟩ := hb.two
  have HST := hid hst
  by_cases h0 : k < 0
  · have h1 : decide (k < 0) = true := by simpa using h0
    have H : Hid ((xall k Ls).countP (phit r) = 0) := by show _ = _; rw [xall, if_neg (by omega)]; rfl
    rw [if_neg (by omega)]
    clear hX hb h0 hcap hst hG
    unfold ptr
    go_enter Try.func39, Try.ntmps39
    go_wp2
    go_ret
    exact ⟨by rw [H.out]; rfl, HST.out⟩
  · have h1 : decide (k < 0) = false := by simpa using h0
    obtain ⟨m, rfl⟩ := Int.eq_ofNat_of_zero_le (show 0 ≤ k by omega)
    by_cases h2 : m < Ls.length
    · rw [if_pos (by omega), Int.toNat_natCast]
      have H : Hid (xall m Ls = Ls.getD m []) := by show _ = _; rw [xall, if_pos (by omega)]; rfl
      by_cases h3 : 0 ≤ r
      · have := rpurge_on hX hG m h2 r h3 hr2
        rw [H.out]
        exact this
      · have hph : ∀ x : Ent, phit r x = false := fun x => by unfold phit; rw [decide_eq_false h3]; rfl
        have hf : (Ls.getD m []).filter (notHit r) = Ls.getD m [] := List.filter_eq_self.2 (fun x _ => by rw [notHit, hph]; rfl)
        have hc : (Ls.getD m []).countP (phit r) = 0 := by rw [List.countP_eq_zero]; intro x _; rw [hph]; simp
        have hs : Ls.set m (Ls.getD m []) = Ls := by simp [h2]
        have HC := hid hc
        rw [hf, hs]
        have g2 : decide ((Ls.length : Int) ≤ (m : Int)) = false := by simp; omega
        have g3 : decide (r < 0) = true := by simp; omega
        clear hX hb h0 hcap hst hG hf hc hs hph h3
        unfold ptr
        go_enter Try.func39, Try.ntmps39
        go_wp2
        go_ret
        exact ⟨by rw [H.out, HC.out]; rfl, HST.out⟩
    · rw [if_neg (by omega)]
      have H : Hid ((xall m Ls).countP (phit r) = 0) := by show _ = _; rw [xall, if_neg (by omega)]; rfl
      have h6 : Ls.length ≤ m := by omega
      have h5 : decide ((Ls.length : Int) ≤ (m : Int)) = true := by simp; omega
      clear hX hb h0 h2 hcap hst hG
      unfold ptr
      go_enter Try.func39, Try.ntmps39
      go_wp2
      go_ret
      exact ⟨by rw [H.out]; rfl, HST.out⟩
end Go.Proofs.Ytaijfgajcmopfaa.Y9
