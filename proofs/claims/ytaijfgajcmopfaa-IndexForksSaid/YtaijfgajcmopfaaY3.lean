import Derived.Test.YtaijfgajcmopfaaY2
/- The document's index: Get, Len, Hit, Move, RemoveIf. -/
set_option linter.unusedVariables false
namespace Go.Proofs.Ytaijfgajcmopfaa.Y3
open Go.RowKit Go.Shelf V Rh T W1 W2 W3 W4 W6 Rf X1 X2 X4 X6 Pl Y1 Y2

/-- what a walk reads of row s -/
theorem RIdx.open {w : World} {br ba : Nat} {vs : List Value} {most : Nat} {Ls : List (List Ent)} (hX : RIdx w br ba vs most Ls) {s : Nat} (hs : s < Ls.length) :
    ∃ cap a rcap, s < cap ∧ br < w.heap.size ∧ w.cell? ⟨br, 0, none⟩ = some (.int .i64 most) ∧ w.cell? ⟨br, 1, none⟩ = some (.slice (some ⟨ba, 0, none⟩) Ls.length cap) ∧ (∀ i, w.frozen? ⟨br, i, none⟩ = false) ∧ ba < w.heap.size ∧ (∀ i, w.frozen? ⟨ba, i, none⟩ = false) ∧
      vs.getD s nilS = .slice a (Ls.getD s []).length rcap ∧ w.cell? ⟨ba, s, none⟩ = some (.slice a (Ls.getD s []).length rcap) ∧ (Ls.getD s []).length ≤ rcap ∧ (Ls.getD s [] = [] ∨ ∃ g rest, a = some ⟨g, 0, none⟩ ∧ Blk w g (flat (Ls.getD s []) ++ rest) 27) := by
  obtain ⟨cap, hcap, hb⟩ := hX.head
  obtain ⟨rest, hbr⟩ := hX.row
  obtain ⟨z0, c0, c1, f0⟩ := hb.two
  obtain ⟨a, rcap, hv, hrc, hform⟩ := row_form (hX.own _ hs)
  have hat := hX.at hs
  rw [hv] at hat
  exact ⟨cap, a, rcap, by omega, z0, c0, c1, f0, hbr.lt, hbr.frozen, hv, hat, hrc, hform⟩

section
variable {w : World} {br ba most : Nat} {vs : List Value} {Ls : List (List Ent)}

theorem GoodL.small (hG : GoodL most Ls) {s : Nat} (hs : s < Ls.length) : (Ls.getD s []).length ≤ 65536 := by
  have h1 := (hG.2 s hs).2.2
  have h16 := hG.1
  have : 2 ^ most ≤ 65536 := pow_le16 h16
  omega

set_option maxRecDepth 100000 in
set_option maxHeartbeats 1000000 in
theorem rget_any (hX : RIdx w br ba vs most Ls) (hG : GoodL most Ls) (h : Int) (hh : 0 ≤ h) (hh2 : h < 18446744073709551616) :
    Calls Try.prog 33 #[ptr br, .int .u64 h] w fun e w' => e = .returned (.tuple #[valE ((xget h Ls).getD z), .bool (xget h Ls).isSome]) ∧ Keep No w w' := by
  have hfind : ∀ W, Keep No w W → _ := fun W (hW : Keep No w W) => rfind_any br ba most vs Ls h W (hX.keep hW (fun _ _ => no _)) hG hh hh2
  have hsi := stripeI_lt hX.pos h
  have hs := (hG.2 _ hsi).1
  have hsm := GoodL.small hG hsi
  have HX := hid hX
  have HB : Hid (Blk (w.alloc (.cells #[.int .u64 0, .int .u64 0, .int .u64 0, .int .u8 0] 27)) w.heap.size [.int .u64 0, .int .u64 0, .int .u64 0, .int .u8 0] 27) := Blk.new' _ rfl
  have hg : xget h Ls = lget h (sOf h Ls) := rfl
  rw [hg]
  have hp := lget_pos (h := h) hs
  change lget h (sOf h Ls) = if posL h (sOf h Ls) < (sOf h Ls).length ∧ (gt (sOf h Ls) (posL h (sOf h Ls))).h = h then some (gt (sOf h Ls) (posL h (sOf h Ls))) else none at hp
  cases hl : lget h (sOf h Ls) with
  | none =>
    rw [hl] at hfind
    clear hp hX hs hl
    simp only [Option.isSome_none] at hfind
    unfold ptr at *
    go_enter Try.func33, Try.ntmps33
    go_wp2_with (go_at_call 59; refine (hfind _ ((Keep.refl _ _).alloc _)).mono ?_; rintro e w1 ⟨rfl, hk⟩; have hk1 := hid (Keep.trans ((Keep.refl No w).alloc _) hk (fun _ _ h => h)); have hd := hid (HB.out.mod hk (no _)); obtain ⟨q0, b0, b1, b2, b3, g0⟩ := hd.out.four; clear hk)
    exact bodyPost_ret (res_eu (e := z) rfl _ rfl rfl (Blk.setE hd.out z)) rfl ⟨rfl, hk1.out.set4 (fun h => absurd h (by omega)) _ _ _ _ _ _ _ _⟩
  | some o =>
    rw [hl] at hp hfind
    split at hp
    · rename_i hc
      obtain ⟨hc1, hc2⟩ := hc
      have ho : gt (sOf h Ls) (posL h (sOf h Ls)) = o := by simpa using hp.symm
      have HOP : Hid (∀ W, Keep No w W → _) := fun W (hW : Keep No w W) => RIdx.open (HX.out.keep hW (fun _ _ => no _)) hsi
      change Hid (∀ W, Keep No w W → ∃ cap a rcap, stripeI Ls.length h < cap ∧ br < W.heap.size ∧ W.cell? ⟨br, 0, none⟩ = some (.int .i64 most) ∧ W.cell? ⟨br, 1, none⟩ = some (.slice (some ⟨ba, 0, none⟩) Ls.length cap) ∧ (∀ i, W.frozen? ⟨br, i, none⟩ = false) ∧ ba < W.heap.size ∧ (∀ i, W.frozen? ⟨ba, i, none⟩ = false) ∧
        vs.getD (stripeI Ls.length h) nilS = .slice a (sOf h Ls).length rcap ∧ W.cell? ⟨ba, stripeI Ls.length h, none⟩ = some (.slice a (sOf h Ls).length rcap) ∧ (sOf h Ls).length ≤ rcap ∧ (sOf h Ls = [] ∨ ∃ g rest, a = some ⟨g, 0, none⟩ ∧ Blk W g (flat (sOf h Ls) ++ rest) 27)) at HOP
      have i0 : (0 : Int) ≤ (stripeI Ls.length h : Nat) := by omega
      have i1 : ((stripeI Ls.length h : Nat) : Int) < Ls.length := by omega
      have i2 : (0 : Int) ≤ (posL h (sOf h Ls) : Nat) := by omega
      have i3 : ((posL h (sOf h Ls) : Nat) : Int) < (sOf h Ls).length := by omega
      have HO := hid ho
      simp only [Option.isSome_some] at hfind
      clear hp hX hs hl ho hc2 hsm hg
      generalize posL h (sOf h Ls) = p at *
      generalize sOf h Ls = L at *
      generalize stripeI Ls.length h = s at *
      unfold ptr at *
      go_enter Try.func33, Try.ntmps33
      go_wp2_with (go_at_call 59; refine (hfind _ ((Keep.refl _ _).alloc _)).mono ?_; rintro e w1 ⟨rfl, hk⟩; have hk1 := hid (Keep.trans ((Keep.refl No w).alloc _) hk (fun _ _ h => h)); have hd := hid (HB.out.mod hk (no _)); obtain ⟨q0, b0, b1, b2, b3, g0⟩ := hd.out.four; obtain ⟨cap, a, rcap, y0, y1, y2, y3, y4, y5, y6, _, y7, y8, y9⟩ := HOP.out _ hk1.out; obtain ⟨g, rest, rfl, hbg⟩ := y9.resolve_left (fun e => by rw [e] at hc1; exact absurd hc1 (Nat.not_lt_zero _)); obtain ⟨s0, s1, s2, s3⟩ := slot hbg hc1; clear hk hbg y9)
      exact bodyPost_ret (res_eu (e := gt L p) rfl _ rfl rfl (Blk.setE hd.out (gt L p))) rfl ⟨by rw [HO.out]; rfl, hk1.out.set4 (fun h => absurd h (by omega)) _ _ _ _ _ _ _ _⟩
    · cases hp
end
end Go.Proofs.Ytaijfgajcmopfaa.Y3
