import Derived.Test.YtaijfgajcmopfaaT
/- Walks of the table: what only looks. -/
set_option linter.unusedVariables false
namespace Go.Proofs.Ytaijfgajcmopfaa.W1
open Go.RowKit V Rh T

def valE (e : Ent) : Value := .agg #[.int .u64 e.h, .int .u64 e.a, .int .u64 e.v, .int .u8 e.c]

theorem empty_any (h a v c : Int) (w : World) :
    Calls Try.prog 51 #[.agg #[.int .u64 h, .int .u64 a, .int .u64 v, .int .u8 c]] w fun e w' => e = .returned (.bool (a == 0)) ∧ w.alloc (.cells #[.int .u64 h, .int .u64 a, .int .u64 v, .int .u8 c] 27) = w' := by
  go_enter Try.func51, Try.ntmps51
  go_wp2
  go_ret
  exact ⟨rfl, rfl⟩

theorem made_nil (w : World) : Calls Try.prog 61 #[.pointer none] w fun e w' => e = .returned (.bool false) ∧ w = w' := by
  go_enter Try.func61, Try.ntmps61
  go_wp2
  go_ret
  exact ⟨rfl, rfl⟩
theorem made_any (b bs N C : Nat) (w : World) (h0 : w.cell? ⟨b, 0, none⟩ = some (.slice (some ⟨bs, 0, none⟩) N C)) (hN : 0 < N) :
    Calls Try.prog 61 #[.pointer (some ⟨b, 0, none⟩)] w fun e w' => e = .returned (.bool true) ∧ w = w' := by
  go_enter Try.func61, Try.ntmps61
  go_wp2
  go_ret
  exact ⟨rfl, rfl⟩

theorem home_any (b bits : Nat) (h : Int) (hb : 2 ≤ bits) (hb2 : bits ≤ 16) (hh : 0 ≤ h) (hh2 : h < 18446744073709551616) (w : World) (h0 : w.cell? ⟨b, 1, none⟩ = some (.int .i64 bits)) :
    Calls Try.prog 70 #[.pointer (some ⟨b, 0, none⟩), .int .u64 h] w fun e w' => e = .returned (.int .i64 (home bits h : Nat)) ∧ w = w' := by
  have h1 := home_lt (bits := bits) (by omega) hh hh2
  have h2 := pow_le16 hb2
  have hp : (0 : Int) < 2 ^ (64 - bits) := Int.pow_pos (by decide)
  have h3 : 0 ≤ h / 2 ^ (64 - bits) := Int.ediv_nonneg hh (Int.le_of_lt hp)
  have E : Hid (wrap64 (h / 2 ^ (64 - bits)) = (home bits h : Nat)) := by
    have : ((home bits h : Nat) : Int) = h / 2 ^ (64 - bits) := by unfold home at h1 ⊢; omega
    rw [← this]
    show wrap64 _ = _
    unfold wrap64
    omega
  clear h1 h2 hp h3
  go_enter Try.func70, Try.ntmps70
  go_wp2
  go_ret
  exact ⟨ret_int E.out, rfl⟩

theorem next_any (b bs N C i : Nat) (w : World) (h0 : w.cell? ⟨b, 0, none⟩ = some (.slice (some ⟨bs, 0, none⟩) N C)) (hN : 0 < N) (hN2 : N ≤ 65536) (hi : i < N) :
    Calls Try.prog 56 #[.pointer (some ⟨b, 0, none⟩), .int .i64 i] w fun e w' => e = .returned (.int .i64 (nx N i : Nat)) ∧ w = w' := by
  have E : Hid (((i : Int) + 1) % N = (nx N i : Nat)) := by
    show ((i : Int) + 1) % N = _
    have h1 : (((i + 1) % N : Nat) : Int) = ((i : Int) + 1) % N := by simp
    rw [← h1, mod_cyc (x := i + 1) hN (by omega)]
    unfold nx
    (repeat' split) <;> omega
  go_enter Try.func56, Try.ntmps56
  go_wp2
  go_ret
  exact ⟨ret_int E.out, rfl⟩

theorem dist_any (b bs bits N C i : Nat) (hs : Int) (w : World) (h0 : w.cell? ⟨b, 0, none⟩ = some (.slice (some ⟨bs, 0, none⟩) N C)) (h1 : w.cell? ⟨b, 1, none⟩ = some (.int .i64 bits)) (hN : 0 < N) (hN2 : N ≤ 65536) (hi : i < N)
    (hb : 2 ≤ bits) (hb2 : bits ≤ 16) (hok : 0 ≤ hs) (hok2 : hs < 18446744073709551616) (hh : home bits hs < N) (hc : w.cell? ⟨bs, i * 4, none⟩ = some (.int .u64 hs)) :
    Calls Try.prog 57 #[.pointer (some ⟨b, 0, none⟩), .int .i64 i] w fun e w' => e = .returned (.int .i64 (way N (home bits hs) i : Nat)) ∧ ∃ n, w.drewN n = w' := by
  have H : ∀ W, W.cell? ⟨b, 1, none⟩ = some (.int .i64 bits) → Calls Try.prog 70 #[.pointer (some ⟨b, 0, none⟩), .int .u64 hs] W fun e w' => e = .returned (.int .i64 (home bits hs : Nat)) ∧ W = w' :=
    fun W hW => home_any b bits _ hb hb2 hok hok2 W hW
  generalize home bits hs = hm at *
  have E : Hid (((i : Int) - (hm : Nat) + N) % N = (way N hm i : Nat)) := by
    show _ = _
    have e1 : ((i : Int) - (hm : Nat) + N) = ((i + N - hm : Nat) : Int) := by omega
    rw [e1]
    have h1 : (((i + N - hm) % N : Nat) : Int) = ((i + N - hm : Nat) : Int) % N := by simp
    rw [← h1, mod_cyc hN (by omega)]
    unfold way
    (repeat' split) <;> omega
  have h0' : 0 ≤ (i : Int) := by omega
  have h1' : (i : Int) < N := by omega
  have hq : (0 : Int) ≤ (hm : Nat) := by omega
  have hq2 : ((hm : Nat) : Int) < N := by omega
  go_enter Try.func57, Try.ntmps57
  go_wp2
  go_quiet ((go_at_call 70; exact Calls.quiet_of_same ((H _ (by go_simp)).mono fun e w' h => ⟨h.1, h.2.symm⟩)))
  go_wp2
  go_ret
  exact ⟨ret_int E.out, _, rfl⟩

theorem find_nil (h : Int) (w : World) : Calls Try.prog 55 #[.pointer none, .int .u64 h] w fun e w' => e = .returned (.int .i64 (-1)) ∧ w = w' := by
  go_enter Try.func55, Try.ntmps55
  go_wp2
  go_step3
  go_wp2_with (go_at_call 61; refine (made_nil _).mono ?_; rintro e w' ⟨rfl, rfl⟩)
  rw [Exit.noGoto_ret]
  go_ret
  exact ⟨rfl, rfl⟩

/-- a place, or -1 -/
def posI (es : List Ent) (h : Int) : Int := match posOf es h with | some p => (p : Int) | none => -1

set_option maxHeartbeats 1000000 in
theorem find_any (bt bs bits most n : Nat) (es L : List Ent) (h : Int) (w : World) (hT : Tab w bt bs bits most es n) (hI : TInv bits most es L) (hh : 0 ≤ h) (hh2 : h < 18446744073709551616) :
    Calls Try.prog 55 #[.pointer (some ⟨bt, 0, none⟩), .int .u64 h] w fun e w' => e = .returned (.int .i64 (posI es h)) ∧ Keep No w w' := by
  obtain ⟨C, hC, hC2, c0, c1, c2, c3⟩ := hT.cells
  have hl := hI.len
  have hN := hI.n_pos
  have hN2 := hI.n_le
  have hb := hI.b2
  have hb2 : bits ≤ 16 := Nat.le_trans hI.bm hI.m16
  have hm := home_lt (bits := bits) (by omega) hh hh2
  obtain ⟨q, hq, hqf⟩ := hI.free
  have HI := hid hI
  clear hI
  rw [hl] at c0 hC
  generalize hNN : 2 ^ bits = N at *
  have HN := hid hNN
  clear hNN
  have HL := hid hl
  clear hl
  have H0 := hid hT
  clear hT
  generalize hhm : home bits h = hm0 at *
  have HH := hid hhm
  clear hhm
  have home' : ∀ W, W.cell? ⟨bt, 1, none⟩ = some (.int .i64 bits) → Calls Try.prog 70 #[.pointer (some ⟨bt, 0, none⟩), .int .u64 h] W fun e w' => e = .returned (.int .i64 (hm0 : Nat)) ∧ W = w' := by
    intro W hW
    have := home_any bt bits h hb hb2 hh hh2 W hW
    rwa [HH.out] at this
  go_enter Try.func55, Try.ntmps55
  go_wp2
  go_step3
  go_wp2_with (first | (go_at_call 61; refine (made_any _ _ _ _ _ c0 (by omega)).mono ?_; rintro e w' ⟨rfl, rfl⟩) | (go_at_call 70; refine (home' _ c1).mono ?_; rintro e w' ⟨rfl, rfl⟩))
  go_step3
  go_wp2
  go_loopw [5, 6] (fun a f wr => ∃ far : Nat, a = .int .i64 (cyc N hm0 far : Nat) ∧ f = .int .i64 far ∧ Looked N bits es h far ∧ Keep No w wr) (fun _ f _ => N - (intOf f).toNat)
  case atStart => exact ⟨0, by rw [cyc_zero hm], rfl, fun j hj => absurd hj (Nat.not_lt_zero _), Keep.refl _ _⟩
  case round =>
    obtain ⟨far, rfl, rfl, hL, hM⟩ := hrel
    obtain ⟨C', hC', hC2', c0, c1, c2, c3⟩ := (H0.out.mod hM (no _) (no _)).cells
    rw [HL.out] at c0 hC'
    obtain ⟨xs, hSl⟩ := (H0.out.mod hM (no _) (no _)).slots
    have hfw : far ≤ way N hm0 q := by
      have h1 := HH.out
      subst h1
      exact look_bound hm hq hqf hL
    have hway := way_lt hm hq
    have hcy : cyc N hm0 far < N := cyc_lt hm (by omega)
    obtain ⟨s0, s1, s2, s3⟩ := slot hSl (i := cyc N hm0 far) (by rw [HL.out]; exact hcy)
    have hzt := (H0.out.mod hM (no _) (no _)).lt.1
    have hzs := hSl.lt
    have HM := hid hM
    clear hM hSl
    have hgok : (gt es (cyc N hm0 far)).full = true → 0 ≤ (gt es (cyc N hm0 far)).h ∧ (gt es (cyc N hm0 far)).h < 18446744073709551616 ∧ home bits (gt es (cyc N hm0 far)).h < N := by
      intro hf
      have h1 := HI.out
      have h2 := HN.out
      subst h2
      have h3 := (h1.ok _ (h1.mem hcy hf)).1
      exact ⟨h3.1, h3.2.1, h1.home _ hcy hf⟩
    have hmiss : ((gt es (cyc N hm0 far)).full = false ∨ dist bits N es (cyc N hm0 far) < far ∧ (gt es (cyc N hm0 far)).h ≠ h) → posOf es h = none := by
      intro hs
      have h1 := HI.out
      have h2 := HN.out
      have h3 := HH.out
      subst h2 h3
      exact look_miss h1.len h1.rh h1.home (by omega) hL hs
    have hhit : (gt es (cyc N hm0 far)).full = true → (gt es (cyc N hm0 far)).h = h → posOf es h = some (cyc N hm0 far) := by
      intro hf he
      have h1 := HI.out
      have h2 := HN.out
      have h3 := HH.out
      subst h2 h3
      exact look_hit h1.len h1.uniq hm (by omega) hf he
    rw [dist_way] at hmiss
    have hstep : (gt es (cyc N hm0 far)).full = true → (gt es (cyc N hm0 far)).h ≠ h → Looked N bits es h (far + 1) := by
      intro hf he j hj
      have h3 := HH.out
      subst h3
      rcases Nat.lt_succ_iff_lt_or_eq.1 hj with h4 | rfl
      · exact hL j h4
      · exact ⟨hf, he⟩
    have hnx : nx N (cyc N hm0 far) = cyc N hm0 (far + 1) := (cyc_succ hm (by omega)).symm
    have Hnx := hid hnx
    have Hmiss := hid hmiss
    have Hhit := hid hhit
    have Hstep := hid hstep
    clear hnx hmiss hhit hstep hL
    generalize gt es (cyc N hm0 far) = g at *
    unfold Ent.full at hgok
    by_cases hE : g.a = 0
    · have hEb : (g.a == 0) = true := by simp [hE]
      have hp := Hmiss.out (.inl (by simp [Ent.full, hE]))
      clear hE hgok
      go_wp2_with (first | (go_at_call 51; refine (empty_any _ _ _ _ _).mono ?_; rintro e w' ⟨rfl, rfl⟩))
      rw [Exit.noGoto_ret]
      go_ret
      exact ⟨ret_int (by simp [posI, hp]), HM.out.alloc _⟩
    · have hEb : (g.a == 0) = false := by simp [hE]
      have hf : g.full = true := by simp [Ent.full, hE]
      obtain ⟨hg1, hg2, hg3⟩ := hgok (by simp [hE])
      by_cases hq : g.h = h
      · have hp := Hhit.out hf hq
        have Hp := hid hp
        have Hq : (g.h == h) = true := by simp [hq]
        clear hE hgok hp hf hq
        go_wp2_with (first | (go_at_call 51; refine (empty_any _ _ _ _ _).mono ?_; rintro e w' ⟨rfl, rfl⟩))
        rw [Exit.noGoto_ret]
        go_ret
        exact ⟨ret_int (by simp [posI, Hp.out]), HM.out.alloc _⟩
      · have Hl := Hstep.out hf hq
        have Hq : (g.h == h) = false := by simp [hq]
        have Hd : way N (home bits g.h) (cyc N hm0 far) < far → posOf es h = none := fun hd => Hmiss.out (.inr ⟨hd, hq⟩)
        have HD := hid Hd
        clear hE hgok hf hq Hd
        go_wp2_with (first | (go_at_call 51; refine (empty_any _ _ _ _ _).mono ?_; rintro e w' ⟨rfl, rfl⟩) | (go_at_call 57; refine (dist_any bt bs bits N C' _ g.h _ (by go_simp) (by go_simp) (by omega) hN2 hcy hb hb2 hg1 hg2 hg3 (by go_simp)).mono ?_; rintro e w' ⟨rfl, nd, rfl⟩) | (go_at_call 56; refine (next_any bt bs N C' _ _ (by go_simp) (by omega) hN2 hcy).mono ?_; rintro e w' ⟨rfl, rfl⟩))
        · rw [Exit.noGoto_ret]
          go_ret
          exact ⟨ret_int (by simp [posI, HD.out ‹_›]), (HM.out.alloc _).drewN _⟩
        · exact ⟨⟨far + 1, by rw [Hnx.out], by go_num, Hl, (HM.out.alloc _).drewN _⟩, by simp [intOf]; omega⟩

theorem posI_some {es : List Ent} {h : Int} {p : Nat} (hp : posOf es h = some p) : posI es h = p := by simp [posI, hp]
theorem posI_none {es : List Ent} {h : Int} (hp : posOf es h = none) : posI es h = -1 := by simp [posI, hp]

def zE : Value := .agg #[.int .u64 0, .int .u64 0, .int .u64 0, .int .u8 0]
def optE : Option Ent → Value
  | some e => valE e
  | none => zE

theorem get_nil (h : Int) (w : World) : Calls Try.prog 45 #[.pointer none, .int .u64 h] w fun e w' => e = .returned (.tuple #[zE, .bool false]) ∧ Keep No w w' := by
  go_enter Try.func45, Try.ntmps45
  go_wp2_with (go_at_call 55; refine (find_nil _ _).mono ?_; rintro e w' ⟨rfl, rfl⟩)
  exact bodyPost_ret (v := .tuple #[zE, .bool false]) (by simp [results, Try.results45, go_sem, zE]) rfl ⟨rfl, (Keep.refl _ _).alloc _⟩

set_option maxHeartbeats 400000 in
theorem get_any (bt bs bits most n : Nat) (es L : List Ent) (h : Int) (w : World) (hT : Tab w bt bs bits most es n) (hI : TInv bits most es L) (hh : 0 ≤ h) (hh2 : h < 18446744073709551616) :
    Calls Try.prog 45 #[.pointer (some ⟨bt, 0, none⟩), .int .u64 h] w fun e w' => e = .returned (.tuple #[optE (lget h L), .bool (lget h L).isSome]) ∧ Keep No w w' := by
  have H0 := hid hT
  have hf : ∀ W, Keep No w W → Calls Try.prog 55 #[.pointer (some ⟨bt, 0, none⟩), .int .u64 h] W fun e w' => e = .returned (.int .i64 (posI es h)) ∧ Keep No W w' := fun W hW => find_any bt bs bits most n es L h W (hT.mod hW (no _) (no _)) hI hh hh2
  have hB : Blk (w.alloc (.cells #[.int .u64 0, .int .u64 0, .int .u64 0, .int .u8 0] 27)) w.heap.size [.int .u64 0, .int .u64 0, .int .u64 0, .int .u8 0] 27 := Blk.new' _ rfl
  cases hp : posOf es h with
  | none =>
    rw [posI_none hp] at hf
    have hg := hI.pos_none hp
    rw [hg]
    clear hT hI hp hg
    go_enter Try.func45, Try.ntmps45
    go_wp2_with (go_at_call 55; refine (hf _ ((Keep.refl _ _).alloc _)).mono ?_; rintro e w' ⟨rfl, hk⟩; have hk1 := hid ((Keep.alloc (Keep.refl No w) _).trans hk (fun _ _ h => h)); obtain ⟨z0, b0, b1, b2, b3, bf⟩ := (hB.mod hk (no _)).four; clear hk)
    exact bodyPost_ret (v := .tuple #[zE, .bool false]) (by simp [results, Try.results45, go_sem, zE, b0, b1, b2, b3]) rfl ⟨rfl, (((hk1.out.setCell _ _ (fun h => absurd h (Nat.lt_irrefl _))).setCell _ _ (fun h => absurd h (Nat.lt_irrefl _))).setCell _ _ (fun h => absurd h (Nat.lt_irrefl _))).setCell _ _ (fun h => absurd h (Nat.lt_irrefl _))⟩
  | some p => 
    rw [posI_some hp] at hf
    have hg := hI.pos_some hp
    obtain ⟨hp1, hp2, hp3⟩ := posOf_spec hI.len hp
    rw [hg]
    have hl := hI.len
    have hN2 := hI.n_le
    rw [← hl] at hp1 hN2
    clear hT hI hp hg hl hp2 hp3
    go_enter Try.func45, Try.ntmps45
    go_wp2_with (go_at_call 55; refine (hf _ ((Keep.refl _ _).alloc _)).mono ?_; rintro e w' ⟨rfl, hk⟩; have hk1 := hid ((Keep.alloc (Keep.refl No w) _).trans hk (fun _ _ h => h)); obtain ⟨z0, b0, b1, b2, b3, bf⟩ := (hB.mod hk (no _)).four; obtain ⟨C, hC, hC2, c0, c1, c2, c3⟩ := (H0.out.mod hk1.out (no _) (no _)).cells; obtain ⟨xs, hS⟩ := (H0.out.mod hk1.out (no _) (no _)).slots; obtain ⟨s0, s1, s2, s3⟩ := slot hS hp1; clear hk hS)
    exact bodyPost_ret (v := .tuple #[valE (gt es p), .bool true]) (by simp [results, Try.results45, go_sem, valE, b0, b1, b2, b3]) rfl ⟨rfl, (((hk1.out.setCell _ _ (fun h => absurd h (Nat.lt_irrefl _))).setCell _ _ (fun h => absurd h (Nat.lt_irrefl _))).setCell _ _ (fun h => absurd h (Nat.lt_irrefl _))).setCell _ _ (fun h => absurd h (Nat.lt_irrefl _))⟩
end Go.Proofs.Ytaijfgajcmopfaa.W1
