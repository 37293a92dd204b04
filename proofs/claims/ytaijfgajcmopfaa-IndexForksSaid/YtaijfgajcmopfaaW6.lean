import Derived.Test.YtaijfgajcmopfaaW5
/- Put, Remove. -/
set_option linter.unusedVariables false
namespace Go.Proofs.Ytaijfgajcmopfaa.W6
open Go.RowKit V Rh T W1 W2 W3 W4 W5

/-- what a Put of an entry that may be comes to -/
def putR (most : Nat) (e : Ent) (L : List Ent) : Option Ent × Int × List Ent :=
  match lget e.h L with
  | some o => (some o, 0, lput e L)
  | none => if 7 * 2 ^ most < 8 * (L.length + 1) then (none, 2, L) else (none, 0, lput e L)

/-- a table that stands for L, in whatever slots -/
def Is (w : World) (bt bs most : Nat) (L : List Ent) : Prop := ∃ bits es, Tab w bt bs bits most es L.length ∧ TInv bits most es L

set_option maxRecDepth 100000 in
set_option maxHeartbeats 2000000 in
theorem put_any (bt bs bits most : Nat) (es L : List Ent) (e : Ent) (w : World) (hT : Tab w bt bs bits most es L.length) (hI : TInv bits most es L) (hok : e.ok) (hf : e.full = true) :
    Calls Try.prog 46 #[.pointer (some ⟨bt, 0, none⟩), valE e] w fun e' w' => e' = .returned (.tuple #[optE (putR most e L).1, .bool (putR most e L).1.isSome, .int .i64 (putR most e L).2.1]) ∧ Keep (At bt bs) w w' ∧
      ∃ bs', (bs' = bs ∨ w.heap.size ≤ bs') ∧ Is w' bt bs' most (putR most e L).2.2 := by
  have H0 := hid hT
  have HI := hid hI
  obtain ⟨C, hC, hC1, z1, z2, n1, n2, c0, c1, c2, c3, _, _, _, _, f1, f2⟩ := hT.open (i := 0) (by rw [hI.len]; have := hI.n_pos; omega)
  have hl : 0 < es.length := by rw [hI.len]; have := hI.n_pos; omega
  have hN2 := hI.n_le
  rw [← hI.len] at hN2
  have hEb : (e.a == 0) = false := by unfold Ent.full at hf; simpa using hf
  have hfind : ∀ W, Keep No w W → Calls Try.prog 55 #[.pointer (some ⟨bt, 0, none⟩), .int .u64 e.h] W fun e' w' => e' = .returned (.int .i64 (posI es e.h)) ∧ Keep No W w' := fun W hW => find_any bt bs bits most L.length es L e.h W (hT.mod hW (no _) (no _)) hI hok.1 hok.2.1
  have HB0 : Hid (Blk (((w.alloc (.cells #[.int .u64 e.h, .int .u64 e.a, .int .u64 e.v, .int .u8 e.c] 27)).alloc (.cells #[.int .u64 0, .int .u64 0, .int .u64 0, .int .u8 0] 27)).alloc (.cells #[.int .u64 e.h, .int .u64 e.a, .int .u64 e.v, .int .u8 e.c] 27)) w.heap.size [.int .u64 e.h, .int .u64 e.a, .int .u64 e.v, .int .u8 e.c] 27) := ((Blk.new' _ rfl).alloc _).alloc _
  have HB1 : Hid (Blk (((w.alloc (.cells #[.int .u64 e.h, .int .u64 e.a, .int .u64 e.v, .int .u8 e.c] 27)).alloc (.cells #[.int .u64 0, .int .u64 0, .int .u64 0, .int .u8 0] 27)).alloc (.cells #[.int .u64 e.h, .int .u64 e.a, .int .u64 e.v, .int .u8 e.c] 27)) (w.heap.size + 1) [.int .u64 0, .int .u64 0, .int .u64 0, .int .u8 0] 27) := (Blk.new1 _ rfl).alloc _
  cases hp : posOf es e.h with
  | some p =>
    rw [posI_some hp] at hfind
    have hg := hI.pos_some hp
    obtain ⟨hp1, hp2, hp3⟩ := posOf_spec hI.len hp
    rw [← hI.len] at hp1
    have hfin := hI.replace hp hf hok
    have hlen := lput_length_some hI.sorted hg
    have HF := hid hfin
    have HL := hid hlen
    have HR : Hid (putR most e L = (some (gt es p), 0, lput e L)) := by show _ = _; rw [putR, hg]
    clear hT hI hp hg hp2 hp3 hfin hlen hok hf
    unfold valE
    go_enter Try.func46, Try.ntmps46
    go_wp2_with (first | (go_at_call 61; refine (made_any bt bs es.length C _ (by go_simp) hl).mono ?_; rintro e w' ⟨rfl, rfl⟩) | (go_at_call 51; refine (empty_any _ _ _ _ _).mono ?_; rintro e w' ⟨rfl, rfl⟩) | (go_at_call 55; refine (hfind _ ((((Keep.refl _ _).alloc _).alloc _).alloc _)).mono ?_; rintro e' w1 ⟨rfl, hk⟩; have hk1 := hid (Keep.trans ((((Keep.refl No w).alloc _).alloc _).alloc _) hk (fun _ _ h => h)); obtain ⟨q0, b0, b1, b2, b3, g0⟩ := (HB0.out.mod hk (no _)).four; obtain ⟨q1, d0, d1, d2, d3, g1⟩ := (HB1.out.mod hk (no _)).four; obtain ⟨C', hC', hC1', z1', z2', _, _, c0', c1', c2', c3', s0, s1, s2, s3, f1', f2'⟩ := (H0.out.mod hk1.out (no _) (no _)).open hp1; have hd1 := hid (HB1.out.mod hk (no _)); clear hk))
    have n3 : bt ≠ w.heap.size := by omega
    have n4 : bs ≠ w.heap.size := by omega
    have n5 : bt ≠ w.heap.size + 1 := by omega
    have n6 : bs ≠ w.heap.size + 1 := by omega
    have n7 : w.heap.size + 1 ≠ bt := by omega
    have n8 : w.heap.size + 1 ≠ bs := by omega
    go_region
    go_wp2
    have HT1 := (H0.out.mod hk1.out (no _) (no _)).other4 n5 n6 0 1 2 3 (.int .u64 (gt es p).h) (.int .u64 (gt es p).a) (.int .u64 (gt es p).v) (.int .u8 (gt es p).c)
    exact bodyPost_ret (res_euv rfl _ rfl rfl rfl (Blk.setE ((Blk.setE hd1.out (gt es p)).other4 n8 _ _ _ _ _ _ _ _) (gt es p)).drew) rfl
      ⟨by rw [HR.out]; rfl, ((((hk1.out.mono (fun _ _ h => h.elim)).set4 (fun h => absurd h (by omega)) _ _ _ _ _ _ _ _).set4 (fun _ => .inr rfl) _ _ _ _ _ _ _ _).set4 (fun h => absurd h (by omega)) _ _ _ _ _ _ _ _).drew, bs, .inl rfl,
        by rw [HR.out]; exact ⟨bits, _, by rw [HL.out]; exact ((HT1.set4 hp1 e).other4 n5 n6 _ _ _ _ _ _ _ _).drew, HF.out⟩⟩
  | none =>
    rw [posI_none hp] at hfind
    have hg := hI.pos_none hp
    have hb2 : bits ≤ 16 := Nat.le_trans hI.bm hI.m16
    have hb := hI.b2
    have hLn : L.length ≤ 65536 := by have := hI.room; have := hI.n_le; omega
    have hpw : 8 * L.length ≤ 7 * es.length := by rw [hI.len]; exact hI.room
    have hllen := lput_length_none hI.sorted hg
    have hoks : ∀ i, i < 2 ^ bits → (gt es i).full = true → (gt es i).ok := fun i hi hf => (hI.ok _ (hI.mem hi hf)).1
    have HOK := hid hok
    have HFU := hid hf
    have HG := hid hg
    have HLL := hid hllen
    have HP := hid hp
    have Hoks := hid hoks
    have HBM := hid hI.bm
    have H16 := hid hI.m16
    have HLEN := hid hI.len
    clear hT hI hp hg hllen hoks hok hf
    have n5 : bt ≠ w.heap.size + 1 := by omega
    have n6 : bs ≠ w.heap.size + 1 := by omega
    by_cases hfull : 7 * es.length < 8 * (L.length + 1)
    · have hful : decide (7 * es.length < 8 * (L.length + 1)) = true := by simpa using hfull
      by_cases hbm : bits = most
      · have hbmb : ((bits : Int) == (most : Int)) = true := by simp [hbm]
        have HR : Hid (putR most e L = (none, 2, L)) := by
          show _ = _
          rw [putR, HG.out, ← hbm, ← HLEN.out]
          simp only [hfull, if_true]
        clear hfull hbm hb hb2
        unfold valE
        go_enter Try.func46, Try.ntmps46
        go_wp2_with (first | (go_at_call 61; refine (made_any bt bs es.length C _ (by go_simp) hl).mono ?_; rintro e w' ⟨rfl, rfl⟩) | (go_at_call 51; refine (empty_any _ _ _ _ _).mono ?_; rintro e w' ⟨rfl, rfl⟩) | (go_at_call 55; refine (hfind _ ((((Keep.refl _ _).alloc _).alloc _).alloc _)).mono ?_; rintro e' w1 ⟨rfl, hk⟩; have hk1 := hid (Keep.trans ((((Keep.refl No w).alloc _).alloc _).alloc _) hk (fun _ _ h => h)); obtain ⟨q1, d0, d1, d2, d3, g1⟩ := (HB1.out.mod hk (no _)).four; obtain ⟨C', hC', hC1', c0', c1', c2', c3'⟩ := (H0.out.mod hk1.out (no _) (no _)).cells; have hd1 := hid (HB1.out.mod hk (no _)); clear hk) | (go_at_call 63; refine (full_any bt bs bits most L.length es _ (H0.out.mod hk1.out (no _) (no _)) hLn hN2).mono ?_; rintro e' w2 ⟨rfl, nk, rfl⟩))
        go_quiet (fail)
        go_wp2
        exact bodyPost_ret (res_euv (e := z) rfl _ rfl rfl rfl (Blk.setE (hd1.out.drewN _) z)) rfl
          ⟨by rw [HR.out]; rfl, (((hk1.out.mono (fun _ _ h => h.elim)).drewN _).set4 (fun h => absurd h (by omega)) _ _ _ _ _ _ _ _), bs, .inl rfl,
            by rw [HR.out]; exact ⟨bits, es, (((H0.out.mod hk1.out (no _) (no _)).drewN _).other4 n5 n6 _ _ _ _ _ _ _ _), HI.out⟩⟩
      · have hbmb : ((bits : Int) == (most : Int)) = false := by simp; omega
        have hlt : bits < most := by have := HBM.out; omega
        have hroom : 8 * (L.length + 1) ≤ 7 * 2 ^ (bits + 1) ∧ 8 * (L.length + 1) ≤ 7 * 2 ^ most := by
          have h1 := HLEN.out
          have h2 := two_le_pow hb
          have h3 : 2 ^ (bits + 1) ≤ 2 ^ most := Nat.pow_le_pow_right (by decide) hlt
          have h4 : 2 ^ (bits + 1) = 2 * 2 ^ bits := by rw [Nat.pow_succ]; omega
          rw [h1] at hpw
          omega
        have HR : Hid (putR most e L = (none, 0, lput e L)) := by
          show _ = _
          rw [putR, HG.out]
          have : ¬ 7 * 2 ^ most < 8 * (L.length + 1) := by omega
          simp only [this, if_false]
        have HRM := hid hroom.1
        have H1 := hid hlt
        clear hfull hbm hb hb2 hroom hlt
        unfold valE
        go_enter Try.func46, Try.ntmps46
        go_wp2_with (first | (go_at_call 61; refine (made_any bt bs es.length C _ (by go_simp) hl).mono ?_; rintro e w' ⟨rfl, rfl⟩) | (go_at_call 51; refine (empty_any _ _ _ _ _).mono ?_; rintro e w' ⟨rfl, rfl⟩) | (go_at_call 55; refine (hfind _ ((((Keep.refl _ _).alloc _).alloc _).alloc _)).mono ?_; rintro e' w1 ⟨rfl, hk⟩; have hk1 := hid (Keep.trans ((((Keep.refl No w).alloc _).alloc _).alloc _) hk (fun _ _ h => h)); obtain ⟨q1, d0, d1, d2, d3, g1⟩ := (HB1.out.mod hk (no _)).four; obtain ⟨q0, b0, b1, b2, b3, g0⟩ := (HB0.out.mod hk (no _)).four; obtain ⟨C', hC', hC1', c0', c1', c2', c3'⟩ := (H0.out.mod hk1.out (no _) (no _)).cells; have hd1 := hid (HB1.out.mod hk (no _)); have hd0 := hid (HB0.out.mod hk (no _)); clear hk) | (go_at_call 63; refine (full_any bt bs bits most L.length es _ (H0.out.mod hk1.out (no _) (no _)) hLn hN2).mono ?_; rintro e' w2 ⟨rfl, nk, rfl⟩))
        go_quiet (fail)
        go_wp2_with fail
        refine (grow_any bt bs bits most L.length es L _ (((H0.out.mod hk1.out (no _) (no _)).drewN _)) HI.out H1.out).mono ?_
        rintro e' w3 ⟨rfl, hk3, bs', es', hbs', hT3, hI3⟩
        have n9 : w.heap.size ≠ bt := by omega
        have hT3' := hid hT3
        have hd1' := hid ((hd1.out.drewN (nk + nq)).mod hk3 (by omega))
        obtain ⟨q0', b0', b1', b2', b3', g0'⟩ := ((hd0.out.drewN (nk + nq)).mod hk3 n9).four
        have hk13 := hid (Keep.trans ((hk1.out.mono (S' := At bt bs) (fun _ _ h => h.elim)).drewN (nk + nq)) hk3 (fun i _ h => .inl h))
        have hsz : w.heap.size + 1 < bs' := by simp at hbs'; omega
        have hp3 : posOf es' e.h = none := by
          cases hc : posOf es' e.h with
          | none => rfl
          | some p => have h1 := hI3.pos_some hc; rw [HG.out] at h1; cases h1
        obtain ⟨q, hq, hqf⟩ := hI3.free
        have hok := HOK.out
        have hoks3 : ∀ i, i < 2 ^ (bits + 1) → (gt es' i).full = true → (gt es' i).ok := fun i hi hf => (hI3.ok _ (hI3.mem hi hf)).1
        have hC : Carry (bits + 1) (2 ^ (bits + 1)) es' e q es' e (home (bits + 1) e.h) 0 :=
          Carry.start hI3.len hI3.rh HFU.out (home_lt (by have := hI3.bm; have := H16.out; omega) hok.1 hok.2.1) hq hqf hI3.home hoks3 hok
        have hlay := lay_any bt bs' (bits + 1) most L.length es' e q w3 hT3 (hI3.b2) (by have := hI3.bm; have := H16.out; omega) hI3.len hLn hC
        unfold valE at hlay
        have HI3 := hid hI3
        have HP3 := hid hp3
        clear hk3 hT3 hI3 hp3 hq hqf hoks3 hC hok
        go_wp2_with fail
        refine hlay.mono ?_
        rintro e' w4 ⟨rfl, hk4, es4, hT4, hl4, hr4, hp4⟩
        have hd4 := hid (hd1'.out.mod hk4 (by rintro (h | h) <;> omega))
        obtain ⟨q4, d04, d14, d24, d34, g4⟩ := hd4.out.four
        have hk14 := hid (Keep.trans hk13.out hk4 (fun i hi h => by rcases h with h | h; exact .inl h; omega))
        have hfin := hid (HI3.out.laid HP3.out HFU.out HOK.out HRM.out hl4 hr4 hp4)
        have hT4' := hid hT4
        clear hk4 hT4 hl4 hr4 hp4
        have n10 : bs' ≠ w.heap.size + 1 := by omega
        go_wp2
        exact bodyPost_ret (res_euv (e := z) rfl _ rfl rfl rfl (Blk.setE hd4.out z)) rfl
          ⟨by rw [HR.out]; rfl, (hk14.out.set4 (fun h => absurd h (by omega)) _ _ _ _ _ _ _ _), bs', .inr (by omega),
            by rw [HR.out]; exact ⟨bits + 1, es4, by rw [HLL.out]; exact hT4'.out.other4 n5 n10 _ _ _ _ _ _ _ _, hfin.out⟩⟩
    · have hful : decide (7 * es.length < 8 * (L.length + 1)) = false := by simpa using hfull
      have hroom : 8 * (L.length + 1) ≤ 7 * 2 ^ bits ∧ 8 * (L.length + 1) ≤ 7 * 2 ^ most := by
        have h1 := HLEN.out
        have h3 : 2 ^ bits ≤ 2 ^ most := Nat.pow_le_pow_right (by decide) HBM.out
        rw [h1] at hfull
        omega
      have HR : Hid (putR most e L = (none, 0, lput e L)) := by
        show _ = _
        rw [putR, HG.out]
        have : ¬ 7 * 2 ^ most < 8 * (L.length + 1) := by omega
        simp only [this, if_false]
      have HRM := hid hroom.1
      have hI := HI.out
      obtain ⟨q, hq, hqf⟩ := hI.free
      have hok := HOK.out
      have hC : Carry bits (2 ^ bits) es e q es e (home bits e.h) 0 :=
        Carry.start hI.len hI.rh HFU.out (home_lt (by omega) hok.1 hok.2.1) hq hqf hI.home Hoks.out hok
      have hlay : ∀ W, Keep No w W → _ := fun W (hW : Keep No w W) => lay_any bt bs bits most L.length es e q W (H0.out.mod hW (no _) (no _)) hb hb2 hI.len hLn hC
      unfold valE at hlay
      clear hfull hb hb2 hroom hI hq hqf hC hok
      unfold valE
      go_enter Try.func46, Try.ntmps46
      go_wp2_with (first | (go_at_call 61; refine (made_any bt bs es.length C _ (by go_simp) hl).mono ?_; rintro e w' ⟨rfl, rfl⟩) | (go_at_call 51; refine (empty_any _ _ _ _ _).mono ?_; rintro e w' ⟨rfl, rfl⟩) | (go_at_call 55; refine (hfind _ ((((Keep.refl _ _).alloc _).alloc _).alloc _)).mono ?_; rintro e' w1 ⟨rfl, hk⟩; have hk1 := hid (Keep.trans ((((Keep.refl No w).alloc _).alloc _).alloc _) hk (fun _ _ h => h)); obtain ⟨q1, d0, d1, d2, d3, g1⟩ := (HB1.out.mod hk (no _)).four; obtain ⟨q0, b0, b1, b2, b3, g0⟩ := (HB0.out.mod hk (no _)).four; obtain ⟨C', hC', hC1', c0', c1', c2', c3'⟩ := (H0.out.mod hk1.out (no _) (no _)).cells; have hd1 := hid (HB1.out.mod hk (no _)); have hd0 := hid (HB0.out.mod hk (no _)); clear hk) | (go_at_call 63; refine (full_any bt bs bits most L.length es _ (H0.out.mod hk1.out (no _) (no _)) hLn hN2).mono ?_; rintro e' w2 ⟨rfl, nk, rfl⟩))
      refine (hlay _ (hk1.out.drewN _)).mono ?_
      rintro e' w4 ⟨rfl, hk4, es4, hT4, hl4, hr4, hp4⟩
      have hd4 := hid ((hd1.out.drewN nk).mod hk4 (by rintro (h | h) <;> omega))
      obtain ⟨q4, d04, d14, d24, d34, g4⟩ := hd4.out.four
      have hk14 := hid (Keep.trans ((hk1.out.mono (S' := At bt bs) (fun _ _ h => h.elim)).drewN nk) hk4 (fun i hi h => h))
      have hfin := hid (HI.out.laid HP.out HFU.out HOK.out HRM.out hl4 hr4 hp4)
      have hT4' := hid hT4
      clear hk4 hT4 hl4 hr4 hp4
      go_wp2
      exact bodyPost_ret (res_euv (e := z) rfl _ rfl rfl rfl (Blk.setE hd4.out z)) rfl
        ⟨by rw [HR.out]; rfl, (hk14.out.set4 (fun h => absurd h (by omega)) _ _ _ _ _ _ _ _), bs, .inl rfl,
          by rw [HR.out]; exact ⟨bits, es4, by rw [HLL.out]; exact hT4'.out.other4 n5 n6 _ _ _ _ _ _ _ _, hfin.out⟩⟩
end Go.Proofs.Ytaijfgajcmopfaa.W6
