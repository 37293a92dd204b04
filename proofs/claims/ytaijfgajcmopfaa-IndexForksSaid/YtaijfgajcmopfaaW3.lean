import Derived.Test.YtaijfgajcmopfaaW2
/- The walk of lay. -/
set_option linter.unusedVariables false
namespace Go.Proofs.Ytaijfgajcmopfaa.W3
open Go.RowKit V Rh T W1 W2

set_option maxHeartbeats 2000000 in
theorem lay_any (bt bs bits most n : Nat) (es : List Ent) (e : Ent) (q : Nat) (w : World) (hT : Tab w bt bs bits most es n) (hb : 2 ≤ bits) (hb2 : bits ≤ 16) (hl : es.length = 2 ^ bits) (hn : n ≤ 65536)
    (hC : Carry bits (2 ^ bits) es e q es e (home bits e.h) 0) :
    Calls Try.prog 65 #[.pointer (some ⟨bt, 0, none⟩), valE e] w fun e' w' => e' = .returned (.tuple #[]) ∧ Keep (At bt bs) w w' ∧ ∃ es', Tab w' bt bs bits most es' (n + 1) ∧ es'.length = 2 ^ bits ∧ RH bits (2 ^ bits) es' ∧ (there es').Perm (e :: there es) := by
  have hN := two_le_pow hb
  have hN2 := pow_le16 hb2
  have H0 := hid hT
  have HC := hid hC
  have hok := hC.ok
  have hz := hT.lt
  obtain ⟨hz1, hz2⟩ := hz
  obtain ⟨o1, o2, o3, o4, o5, o6, o7, o8⟩ := hok
  obtain ⟨C0, hC0, hC02, c00, c01, c02, c03⟩ := hT.cells
  rw [hl] at c00 hC0
  generalize hNN : 2 ^ bits = N at *
  have HN := hid hNN
  clear hT hC hNN hl
  have hB : Blk (w.alloc (.cells #[.int .u64 e.h, .int .u64 e.a, .int .u64 e.v, .int .u8 e.c] 27)) w.heap.size (cellsE e) 27 := Blk.new' _ rfl
  have HB := hid hB
  clear hB
  unfold valE
  go_enter Try.func65, Try.ntmps65
  go_wp2_with (go_at_call 70; refine (home_any bt bits e.h hb hb2 o1 o2 _ (by go_simp)).mono ?_; rintro e w' ⟨rfl, rfl⟩)
  go_loopw [4, 5] (fun a f wr => ∃ (es' : List Ent) (e' : Ent) (at_ far : Nat), a = .int .i64 at_ ∧ f = .int .i64 far ∧ Carry bits N es e q es' e' at_ far ∧ Tab wr bt bs bits most es' n ∧ Blk wr w.heap.size (cellsE e') 27 ∧ Keep (At bt bs) w wr) (fun a _ _ => way N (intOf a).toNat q)
  case atStart => exact ⟨es, e, home bits e.h, 0, rfl, rfl, HC.out, H0.out.alloc _, HB.out, (Keep.refl _ _).alloc _⟩
  case round =>
    obtain ⟨es', e', at_, far, rfl, rfl, hK, hT, hBx, hM⟩ := hrel
    have hlen := hK.len
    have hat := hK.at_lt
    obtain ⟨C, hC1, hC2, z1, z2, n1, n2, c0, c1, c2, c3, s0, s1, s2, s3, f1, f2⟩ := hT.open (i := at_) (by omega)
    obtain ⟨z3, b0, b1, b2, b3, f3⟩ := hBx.four
    rw [hlen] at c0 hC1
    have n3 : bt ≠ w.heap.size := by omega
    have n4 : bs ≠ w.heap.size := by omega
    have n5 : w.heap.size ≠ bt := by omega
    have n6 : w.heap.size ≠ bs := by omega
    have hfar : far < N := by rw [hK.far_eq]; exact way_lt hK.home_lt hat
    have hat0 : 0 ≤ (at_ : Int) := by omega
    have hat1 : (at_ : Int) < N := by omega
    have HK := hid hK
    have HT := hid hT
    have HBx := hid hBx
    have HM := hid hM
    have Hlen := hid hlen
    clear hK hT hBx hM hlen
    by_cases hE : (gt es' at_).a = 0
    · have hEb : ((gt es' at_).a == 0) = true := by simp [hE]
      have hf : (gt es' at_).full = false := by simp [Ent.full, hE]
      have Hf := hid hf
      clear hE hf
      go_wp2_with (first | (go_at_call 51; refine (empty_any _ _ _ _ _).mono ?_; rintro e w' ⟨rfl, rfl⟩))
      go_region
      go_wp2
      refine bodyPost_ret (v := .tuple #[]) (by simp [results, Try.results65, go_sem]) rfl ?_
      have hlt : at_ < es'.length := by have := Hlen.out; omega
      have hD := HK.out.done Hf.out
      exact ⟨rfl, ((((HM.out.set4 (fun _ => .inr rfl) _ _ _ _ _ _ _ _).setCell _ _ (fun _ => .inl rfl)).alloc _).drew), _, (((HT.out.set4 hlt e').setN (n + 1)).alloc _).drew, hD.1, hD.2.1, hD.2.2⟩
    · have hEb : ((gt es' at_).a == 0) = false := by simp [hE]
      have hf : (gt es' at_).full = true := by simp [Ent.full, hE]
      have hg := HK.out.homes at_ hat hf
      obtain ⟨g1, g2, _⟩ := HK.out.oks at_ hat hf
      have Hf := hid hf
      have hwy : way N (home bits (gt es' at_).h) at_ < N := way_lt hg hat
      have hlt : at_ < es'.length := by have := Hlen.out; omega
      clear hE hf
      by_cases hs : way N (home bits (gt es' at_).h) at_ < far ∨ way N (home bits (gt es' at_).h) at_ = far ∧ e'.h < (gt es' at_).h
      · have Hs := hid (HK.out.swap Hf.out (by omega))
        have Hdown := hid (way_down hat HK.out.free_lt (HK.out.ne Hf.out))
        have hd1 : decide (way N (home bits (gt es' at_).h) at_ < far) = true ∨ decide (way N (home bits (gt es' at_).h) at_ < far) = false ∧ (((way N (home bits (gt es' at_).h) at_ : Nat) : Int) == (far : Int)) = true ∧ decide (e'.h < (gt es' at_).h) = true := by
          rcases hs with h | h
          · left; simpa using h
          · right; refine ⟨by simp; omega, by simp; omega, by simpa using h.2⟩
        clear hs
        rcases hd1 with hd1 | ⟨hd1, hd2, hd3⟩
        all_goals
          go_wp2_with (first | (go_at_call 51; refine (empty_any _ _ _ _ _).mono ?_; rintro e w' ⟨rfl, rfl⟩) | (go_at_call 57; refine (dist_any bt bs bits N C _ (gt es' at_).h _ (by go_simp) (by go_simp) (by omega) hN2 hat hb hb2 g1 g2 hg (by go_simp)).mono ?_; rintro e w' ⟨rfl, nd, rfl⟩))
          go_quiet (fail)
          go_wp2
          go_region
          go_wp2_with (first | (go_at_call 56; refine (next_any bt bs N C _ _ (by go_simp) (by omega) hN2 hat).mono ?_; rintro e w' ⟨rfl, rfl⟩))
          exact ⟨⟨es'.set at_ e', gt es' at_, nx N at_, way N (home bits (gt es' at_).h) at_ + 1, rfl, by go_num, Hs.out, (((HT.out.alloc _).drewN _).set4 hlt e').other4 n3 n4 _ _ _ _ _ _ _ _,
            Blk.setE (((HBx.out.alloc _).drewN _).other4 n6 _ _ _ _ _ _ _ _) _, (((HM.out.alloc _).drewN _).set4 (fun _ => .inr rfl) _ _ _ _ _ _ _ _).set4 (fun h => absurd h (Nat.lt_irrefl _)) _ _ _ _ _ _ _ _⟩, by simp [intOf]; have := Hdown.out; omega⟩
      · have hpass : far ≤ way N (home bits (gt es' at_).h) at_ := by omega
        have Hs := hid (HK.out.pass Hf.out hpass)
        have Hdown := hid (way_down hat HK.out.free_lt (HK.out.ne Hf.out))
        have hd1 : decide (way N (home bits (gt es' at_).h) at_ < far) = false ∧ ((((way N (home bits (gt es' at_).h) at_ : Nat) : Int) == (far : Int)) = false ∨ (((way N (home bits (gt es' at_).h) at_ : Nat) : Int) == (far : Int)) = true ∧ decide (e'.h < (gt es' at_).h) = false) := by
          refine ⟨by simp; omega, ?_⟩
          by_cases he : way N (home bits (gt es' at_).h) at_ = far
          · right; refine ⟨by simp; omega, by simp; omega⟩
          · left; simp; omega
        clear hs hpass
        obtain ⟨hd1, hd2 | ⟨hd2, hd3⟩⟩ := hd1
        all_goals
          go_wp2_with (first | (go_at_call 51; refine (empty_any _ _ _ _ _).mono ?_; rintro e w' ⟨rfl, rfl⟩) | (go_at_call 57; refine (dist_any bt bs bits N C _ (gt es' at_).h _ (by go_simp) (by go_simp) (by omega) hN2 hat hb hb2 g1 g2 hg (by go_simp)).mono ?_; rintro e w' ⟨rfl, nd, rfl⟩))
          go_quiet (fail)
          go_wp2_with (first | (go_at_call 56; refine (next_any bt bs N C _ _ (by go_simp) (by omega) hN2 hat).mono ?_; rintro e w' ⟨rfl, rfl⟩))
          exact ⟨⟨es', e', nx N at_, far + 1, rfl, by go_num, Hs.out, (HT.out.alloc _).drewN _, (HBx.out.alloc _).drewN _, (HM.out.alloc _).drewN _⟩, by simp [intOf]; have := Hdown.out; omega⟩
end Go.Proofs.Ytaijfgajcmopfaa.W3
