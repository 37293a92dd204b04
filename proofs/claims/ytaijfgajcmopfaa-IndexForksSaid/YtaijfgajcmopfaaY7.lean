import Derived.Test.YtaijfgajcmopfaaY6
/- The document's index: RemoveIf, Len. -/
set_option linter.unusedVariables false
set_option linter.unusedSimpArgs false
namespace Go.Proofs.Ytaijfgajcmopfaa.Y7
open Go.RowKit Go.Shelf V Rh T W1 W2 W3 W4 W6 Rf X1 X2 X4 X5 X6 Pl Y1 Y2 Y3 Y4 Y5 Y6

section
variable {w : World} {br ba most : Nat} {vs : List Value} {Ls : List (List Ent)}

set_option maxHeartbeats 400000 in
theorem rremIf_no (p : Value) (h at' : Int) (en : Ent) (b : Bool) (w : World)
    (hget : ∀ W, Keep No w W → Calls Try.prog 33 #[p, .int .u64 h] W fun e w' => e = .returned (.tuple #[valE en, .bool b]) ∧ Keep No W w')
    (hno : b = false ∨ b = true ∧ (en.a != at') = true) :
    Calls Try.prog 36 #[p, .int .u64 h, .int .u64 at'] w fun e w' => e = .returned (.bool false) ∧ Keep No w w' := by
  unfold valE at *
  rcases hno with rfl | ⟨rfl, hne⟩
  all_goals
    go_enter Try.func36, Try.ntmps36
    go_wp2_with (go_at_call 33; refine (hget _ (Keep.refl _ _)).mono ?_; rintro e w1 ⟨rfl, hk⟩; have hk1 := hid hk; clear hk)
    go_ret
    exact ⟨rfl, hk1.out.alloc _⟩

set_option maxHeartbeats 400000 in
theorem rremIf_yes (p : Value) (h at' : Int) (en : Ent) (v1 v2 : Value) (w : World) (R : World → World → Prop)
    (hget : ∀ W, Keep No w W → Calls Try.prog 33 #[p, .int .u64 h] W fun e w' => e = .returned (.tuple #[valE en, .bool true]) ∧ Keep No W w')
    (hrem : ∀ W, Keep No w W → Calls Try.prog 35 #[p, .int .u64 h] W fun e w' => e = .returned (.tuple #[v1, v2]) ∧ R W w')
    (hno : (en.a != at') = false) :
    Calls Try.prog 36 #[p, .int .u64 h, .int .u64 at'] w fun e w' => e = .returned (.bool true) ∧ ∃ W, Keep No w W ∧ R W w' := by
  unfold valE at *
  go_enter Try.func36, Try.ntmps36
  go_wp2_with (first | (go_at_call 33; refine (hget _ (Keep.refl _ _)).mono ?_; rintro e w1 ⟨rfl, hk⟩; have hk1 := hid hk; clear hk) | (go_at_call 35; refine (hrem _ (hk1.out.alloc _)).mono ?_; rintro e w2 ⟨rfl, hA⟩; have HA := hid hA; clear hA))
  go_ret
  exact ⟨rfl, _, hk1.out.alloc _, HA.out⟩

theorem rremIf_any (hX : RIdx w br ba vs most Ls) (hG : GoodL most Ls) (h a : Int) (hh : 0 ≤ h) (hh2 : h < 18446744073709551616) :
    Calls Try.prog 36 #[ptr br, .int .u64 h, .int .u64 a] w fun e w' => e = .returned (.bool (xremIf h a Ls).1) ∧ RThen w w' (ptr br) most (xremIf h a Ls).2 (RFoot br ba vs) := by
  have hkeep : ∀ W, Keep No w W → RIdx W br ba vs most Ls := fun W hW => hX.keep hW (fun _ _ => no _)
  have hg : ∀ W, Keep No w W → _ := fun W hW => rget_any (hkeep W hW) hG h hh hh2
  have hst : ∀ W, Keep No w W → RThen w W (ptr br) most Ls (RFoot br ba vs) := fun W hW => RHas.stays ⟨_, _, _, rfl, hX, rfl⟩ hW
  cases hx : xget h Ls with
  | none =>
    simp only [xremIf, hx]
    rw [hx] at hg
    exact (rremIf_no _ h a _ _ w hg (.inl rfl)).mono (fun e w' hw => ⟨hw.1, hst _ hw.2⟩)
  | some o =>
    rw [hx] at hg
    by_cases ha : o.a = a
    · simp only [xremIf, hx, ha, if_true]
      refine (rremIf_yes _ h a o _ _ w _ hg (fun W hW => rremove_any (hkeep W hW) hG h hh hh2) (by simp [ha])).mono ?_
      rintro e w' ⟨he, W, hW, hR⟩
      exact ⟨he, RThen.after hW hR⟩
    · simp only [xremIf, hx, ha, if_false]
      exact (rremIf_no _ h a _ _ w hg (.inr ⟨rfl, by simpa using ha⟩)).mono (fun e w' hw => ⟨hw.1, hst _ hw.2⟩)

set_option maxRecDepth 100000 in
set_option maxHeartbeats 1000000 in
theorem rlen_any (hX : RIdx w br ba vs most Ls) (k : Int) (hk : -9223372036854775808 ≤ k) (hk2 : k < 9223372036854775808) :
    Calls Try.prog 41 #[ptr br, .int .i64 k] w fun e w' => e = .returned (.int .i64 (xall k Ls).length) ∧ w = w' := by
  obtain ⟨cap, hcap, hb⟩ := hX.head
  obtain ⟨z0, c0, c1, f0⟩ := hb.two
  by_cases h0 : k < 0
  · have h1 : decide (k < 0) = true := by simpa using h0
    have H : Hid ((xall k Ls).length = 0) := by show _ = _; rw [xall, if_neg (by omega)]; rfl
    clear hX hb h0 hcap hk hk2
    unfold ptr
    go_enter Try.func41, Try.ntmps41
    go_wp2
    go_ret
    exact ⟨by rw [H.out]; rfl, rfl⟩
  · have h1 : decide (k < 0) = false := by simpa using h0
    obtain ⟨m, rfl⟩ := Int.eq_ofNat_of_zero_le (show 0 ≤ k by omega)
    by_cases h2 : m < Ls.length
    · obtain ⟨cap2, y0, y1, y2, y3, y4, y5, y6, y7, y9⟩ := Y4.RIdx.opn hX h2
      have H : Hid (xall m Ls = Ls.getD m []) := by show _ = _; rw [xall, if_pos (by omega)]; rfl
      have h3 : (m : Int) < Ls.length := by omega
      have h4 : (0 : Int) ≤ m := by omega
      have h5 : decide ((Ls.length : Int) ≤ (m : Int)) = false := by simp; omega
      rw [H.out]
      generalize Ls.getD m [] = L at *
      have hv : ∃ a c, vs.getD m nilS = .slice a L.length c := by
        rcases y9 with ⟨h, rfl⟩ | ⟨g, rc, rest, h, _⟩
        · exact ⟨_, _, h⟩
        · exact ⟨_, _, h⟩
      obtain ⟨a, c, hv⟩ := hv
      rw [hv] at y7
      clear hX hb h0 hcap hk hk2 y9 hv H
      unfold ptr
      go_enter Try.func41, Try.ntmps41
      go_wp2
      go_ret
      exact ⟨rfl, rfl⟩
    · have H : Hid ((xall m Ls).length = 0) := by show _ = _; rw [xall, if_neg (by omega)]; rfl
      have h6 : Ls.length ≤ m := by omega
      have h5 : decide ((Ls.length : Int) ≤ (m : Int)) = true := by simp; omega
      clear hX hb h0 h2 hcap hk hk2
      unfold ptr
      go_enter Try.func41, Try.ntmps41
      go_wp2
      go_ret
      exact ⟨by rw [H.out]; rfl, rfl⟩
end
end Go.Proofs.Ytaijfgajcmopfaa.Y7
