import Derived.Test.YtaijfgajcmopfaaX7
/- An index that New did not give: nothing is told. -/
set_option linter.unusedVariables false
namespace Go.Proofs.Ytaijfgajcmopfaa.X8
open Go.RowKit Go.Shelf V Rh T W1 W2 W3 W4 W6 W7 W10 Rf X1 X2 X3 X4 X5 X6 X7 Lp

theorem around_no {w w' : World} (h : Around w (fun A B => Keep No A B) w') : Keep No w w' := by
  obtain ⟨A, B, h1, h2, h3, h4⟩ := h
  exact (h1.trans h2 (fun _ _ h => h)).trans h4 (fun k hk h => by omega)

section
variable {w : World} {p : Value}
theorem low {A B : World} (h : Keep No A B) : Keep (fun k => k < w.heap.size) A B := h.mono (fun _ _ h => h.elim)

theorem atc (hc : Closed w p) (h : Int) : ∀ W, Keep No w W → Calls Try.prog 44 #[p, .int .u64 h] W fun e w' => e = .returned (.pointer none) ∧ ∃ n, W.drewN n = w' :=
  fun W hW => (at_closed p h W (hc.keep hW no)).mono (fun e w' hw => ⟨hw.1, 0, by rw [← hw.2]; rfl⟩)

theorem get_closed (hc : Closed w p) (h : Int) : Calls Try.prog 26 #[p, .int .u64 h] w fun e w' => e = .returned (.tuple #[valE z, .bool false]) ∧ Keep No w w' :=
  get_walk p _ h z false w (atc hc h) (fun W hW => get_nil h W)
theorem remove_closed (hc : Closed w p) (h : Int) : Calls Try.prog 22 #[p, .int .u64 h] w fun e w' => e = .returned (.tuple #[valE z, .bool false]) ∧ Keep No w w' :=
  (remove_walk p _ h z false w _ (atc hc h) (fun W hW => (remove_nil h W).mono fun e w' hw => ⟨hw.1, low hw.2, hw.2⟩)).mono fun e w' hw => ⟨hw.1, around_no hw.2⟩
theorem hit_closed (hc : Closed w p) (h : Int) : Calls Try.prog 25 #[p, .int .u64 h] w fun e w' => e = .returned (.bool false) ∧ Keep No w w' :=
  (hit_walk p _ h false w _ (atc hc h) (fun W hW => (hit_nil h W).mono fun e w' hw => ⟨hw.1, low (hw.2 ▸ Keep.refl _ _), (hw.2 ▸ Keep.refl _ _ : Keep No W w')⟩)).mono fun e w' hw => ⟨hw.1, around_no hw.2⟩
theorem remIf_closed (hc : Closed w p) (h a : Int) : Calls Try.prog 23 #[p, .int .u64 h, .int .u64 a] w fun e w' => e = .returned (.bool false) ∧ Keep No w w' :=
  remIf_no p h a z false w (fun W hW => get_closed (hc.keep hW no) h) (.inl rfl)
theorem move_closed (hc : Closed w p) (h fr to : Int) : Calls Try.prog 24 #[p, .int .u64 h, .int .u64 fr, .int .u64 to] w fun e w' => e = .returned (.bool false) ∧ Keep No w w' :=
  move_no p h fr to z false w (fun W hW => get_closed (hc.keep hW no) h) (.inl rfl)
theorem purge_closed (hc : Closed w p) (n r : Int) : Calls Try.prog 12 #[p, .int .i64 n, .int .i64 r] w fun e w' => e = .returned (.int .i64 0) ∧ Keep No w w' :=
  purge_nil p n r w (fun W hW => stripeN_closed p n W (hc.keep hW no))
theorem len_closed (hc : Closed w p) (n : Int) : Calls Try.prog 19 #[p, .int .i64 n] w fun e w' => e = .returned (.int .i64 0) ∧ w = w' :=
  len_walk p _ n 0 w (stripeN_closed p n w hc) (len_nil w)
theorem all_closed (hc : Closed w p) (n : Int) : Calls Try.prog 11 #[p, .int .i64 n] w fun e w' => e = .returned (.func (.func 48) #[] #[.pointer (some ⟨w.heap.size, 0, none⟩)]) ∧ w.alloc (.cells #[.pointer none] 70) = w' :=
  all_walk p _ n w (stripeN_closed p n w hc) (all_any _ w (.inl rfl))

def errC (o : Opr) : Int := if o.k = 0 then 6 else 0

theorem one_closed (hc : Closed w p) (o : Opr) : Calls Try.prog 9 #[p, valO o] w fun e w' => e = .returned (valT z false (errC o) 0) ∧ Keep No w w' := by
  have fin : ∀ {e : Ending} {w' : World} {v : Value}, e = .returned v ∧ Around w (fun A B => Keep No A B) w' → e = .returned v ∧ Keep No w w' := fun h => ⟨h.1, around_no h.2⟩
  by_cases h0 : o.k = 0
  · rw [show errC o = 6 from if_pos h0]
    exact (one_put p o w _ z false 6 (fun W hW => (put_closed p o.e W (atc (hc.keep hW no) _)).mono fun e w' hw => ⟨hw.1, low hw.2, hw.2⟩) h0).mono fun e w' hw => fin hw
  rw [show errC o = 0 from if_neg h0]
  by_cases h2 : o.k = 2
  · exact (one_remove p o w _ z false (fun W hW => (remove_closed (hc.keep hW no) _).mono fun e w' hw => ⟨hw.1, low hw.2, hw.2⟩) h2).mono fun e w' hw => fin hw
  by_cases h3 : o.k = 3
  · exact (one_removeIf p o w _ false (fun W hW => (remIf_closed (hc.keep hW no) _ _).mono fun e w' hw => ⟨hw.1, low hw.2, hw.2⟩) h3).mono fun e w' hw => fin hw
  by_cases h4 : o.k = 4
  · exact (one_move p o w _ false (fun W hW => (move_closed (hc.keep hW no) _ _ _).mono fun e w' hw => ⟨hw.1, low hw.2, hw.2⟩) h4).mono fun e w' hw => fin hw
  by_cases h5 : o.k = 5
  · exact (one_hit p o w _ false (fun W hW => (hit_closed (hc.keep hW no) _).mono fun e w' hw => ⟨hw.1, low hw.2, hw.2⟩) h5).mono fun e w' hw => fin hw
  by_cases h6 : o.k = 6
  · exact (one_purge p o w _ 0 (fun W hW => (purge_closed (hc.keep hW no) _ _).mono fun e w' hw => ⟨hw.1, low hw.2, hw.2⟩) h6).mono fun e w' hw => fin hw
  exact (one_get p o w _ z false (fun W hW => (get_closed (hc.keep hW no) _).mono fun e w' hw => ⟨hw.1, low hw.2, hw.2⟩) (by simpa using h0) (by simpa using h2) (by simpa using h3) (by simpa using h4) (by simpa using h5) (by simpa using h6)).mono fun e w' hw => fin hw

theorem fork_closed (hc : Closed w p) : Calls Try.prog 15 #[p] w fun e w' => e = .returned (.pointer none) ∧ w = w' := by
  have hq : ∀ W : World, (binOp .eql 56 (.slice none 0 0) (.slice none 0 0)).run Try.prog W = .ok (.bool true) W := fun W => by kernel_rfl
  rcases hc with rfl | ⟨bx, rfl, hb⟩
  · go_enter Try.func15, Try.ntmps15
    go_wp2
    go_ret
    exact ⟨rfl, rfl⟩
  · obtain ⟨z0, c0, f0⟩ := hb.one
    clear hb
    unfold ptr
    go_enter Try.func15, Try.ntmps15
    go_wp2
    go_ret
    exact ⟨rfl, rfl⟩
end
end Go.Proofs.Ytaijfgajcmopfaa.X8
