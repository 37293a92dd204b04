import Derived.Test.YtaijfgajcmopfaaW4
/- grow, Put, Remove. -/
set_option linter.unusedVariables false
namespace Go.Proofs.Ytaijfgajcmopfaa.W5
open Go.RowKit V Rh T W1 W2 W3 W4

theorem oks_of {es L : List Ent} (hp : ∀ e ∈ there es, e.ok) : ∀ i, i < es.length → (gt es i).full = true → (gt es i).ok := fun i hi hf => hp _ (mem_there hi hf)
theorem there_take_succ {es : List Ent} {k : Nat} (hk : k < es.length) : there (es.take (k + 1)) = there (es.take k) ++ if (gt es k).full then [gt es k] else [] := by
  rw [List.take_succ_eq_append_getElem hk, ← gt_of_lt hk]
  unfold there
  rw [List.filter_append, List.filter_cons, List.filter_nil]
theorem there_take_le {es : List Ent} (k : Nat) : (there (es.take k)).length ≤ (there es).length := by
  unfold there
  exact ((List.take_sublist k es).filter _).length_le
theorem there_take_mem {es : List Ent} {k : Nat} {e : Ent} (h : e ∈ there (es.take k)) : e ∈ there es := by
  unfold there at h ⊢
  rw [List.mem_filter] at h ⊢
  exact ⟨List.mem_of_mem_take h.1, h.2⟩

/-- what grow's loop keeps -/
structure Growing (bits most : Nat) (es : List Ent) (bt bs' : Nat) (wr : World) (k : Nat) (es' : List Ent) (m : Nat) : Prop where
  tab : Tab wr bt bs' (bits + 1) most es' m
  len : es'.length = 2 ^ (bits + 1)
  rh : RH (bits + 1) (2 ^ (bits + 1)) es'
  perm : (there es').Perm (there (es.take k))
  num : m = (there (es.take k)).length

set_option maxRecDepth 100000 in
set_option maxHeartbeats 1000000 in
theorem grow_any (bt bs bits most n : Nat) (es L : List Ent) (w : World) (hT : Tab w bt bs bits most es n) (hI : TInv bits most es L) (hm : bits < most) :
    Calls Try.prog 64 #[.pointer (some ⟨bt, 0, none⟩)] w fun e' w' => e' = .returned (.tuple #[]) ∧ Keep (fun k => k = bt) w w' ∧ ∃ bs' es', w.heap.size ≤ bs' ∧ Tab w' bt bs' (bits + 1) most es' L.length ∧ TInv (bits + 1) most es' L := by
  have H0 := hid hT
  have HI := hid hI
  obtain ⟨hz1, hz2⟩ := hT.lt
  have n1 := hT.ne
  have n2 : bs ≠ bt := fun e => n1 e.symm
  obtain ⟨C, hC, c⟩ := hT.head
  obtain ⟨hC1, cb⟩ := c
  obtain ⟨_, c0, c1, c2, c3, cf⟩ := cb.four
  have CB := hid cb
  have hl := hI.len
  have hN2 := hI.n_le
  have hN4 := pow_le16 (show bits + 1 ≤ 16 by have := hI.m16; omega)
  have h5 : wrap64 (2 ^ (bits + 1)) = ((2 ^ (bits + 1) : Nat) : Int) := by
    rw [show (2 : Int) ^ (bits + 1) = ((2 ^ (bits + 1) : Nat) : Int) by simp]
    generalize 2 ^ (bits + 1) = m at hN4 ⊢
    unfold wrap64
    omega
  have h6 : ∀ W : World, (Instr.makeSlice 39 (.int .i64 (wrap64 (2 ^ (bits + 1)))) (.int .i64 (wrap64 (2 ^ (bits + 1))))).run Try.prog W = .ok (.slice (some ⟨W.heap.size, 0, none⟩) (2 ^ (bits + 1)) (2 ^ (bits + 1))) (W.alloc (.cells (flat (List.replicate (2 ^ (bits + 1)) z)).toArray 27)) := fun W => by rw [h5, ← made_flat]; exact make_entries (2 ^ (bits + 1)) (by omega) W
  clear h5
  rw [← hl] at hN2
  have hb := hI.b2
  have hb2 : bits ≤ 16 := by have := hI.bm; have := hI.m16; omega
  generalize hM : (2 : Nat) ^ (bits + 1) = M at *
  have HM := hid hM
  clear hT hI hM hl cb
  go_enter Try.func64, Try.ntmps64
  go_wp2
  go_loopw [30] (fun i wr => ∃ (k : Nat) (es' : List Ent) (m : Nat), i = .int .i64 k ∧ k ≤ es.length ∧ Growing bits most es bt w.heap.size wr k es' m ∧ Keep (fun k => k = bt) w wr) (fun i _ => es.length - (intOf i).toNat)
  case atStart =>
    have hM := HM.out
    refine ⟨0, List.replicate M z, 0, rfl, Nat.zero_le _, ⟨⟨⟨M, by simp, Nat.zero_le _, ?_⟩, ⟨[], ?_⟩, by omega⟩, by simp [hM], by rw [hM]; exact rh_zero, by rw [there_zero]; exact List.Perm.refl _, rfl⟩, (((Keep.setCell (Keep.refl (fun k => k = bt) w) _ _ (fun _ => rfl)).setCell _ _ (fun _ => rfl)).setCell _ _ (fun _ => rfl)).alloc _⟩
    · rw [List.length_replicate]
      exact (((CB.out.set 1 _).set 0 _).set 3 _).alloc _
    · rw [List.append_nil]
      have e1 : w.heap.size = (((w.setCell ⟨bt, 1, none⟩ (.int .i64 ((bits : Int) + 1))).setCell ⟨bt, 0, none⟩ (.slice (some ⟨w.heap.size, 0, none⟩) M M)).setCell ⟨bt, 3, none⟩ (.int .i64 0)).heap.size := by simp
      have := Blk.new (((w.setCell ⟨bt, 1, none⟩ (.int .i64 ((bits : Int) + 1))).setCell ⟨bt, 0, none⟩ (.slice (some ⟨w.heap.size, 0, none⟩) M M)).setCell ⟨bt, 3, none⟩ (.int .i64 0)) (flat (List.replicate M z)) 27
      rw [← e1] at this
      exact this
  case round =>
    obtain ⟨k, es', m, rfl, hk, hG, hKp⟩ := hrel
    have HK := hid hKp
    by_cases hlt : k < es.length
    · obtain ⟨xs, hS⟩ := H0.out.slots
      have hS1 := hS.mod hKp n2
      obtain ⟨s0, s1, s2, s3⟩ := slot hS1 hlt
      have hz3 := hS1.lt
      have hok : (gt es k).full = true → (gt es k).ok := fun hf => by
        have h1 := HI.out
        exact (h1.ok _ (h1.mem (by rw [← h1.len]; exact hlt) hf)).1
      have HG := hid hG
      have Hst := hid (there_take_succ hlt)
      clear hS hS1 hG hKp
      by_cases hE : (gt es k).a = 0
      · have hEb : ((gt es k).a == 0) = true := by simp [hE]
        have hf : (gt es k).full = false := by simp [Ent.full, hE]
        have Hf := hid hf
        clear hE hf hok
        go_wp2_with (first | (go_at_call 51; refine (empty_any _ _ _ _ _).mono ?_; rintro e w' ⟨rfl, rfl⟩))
        have e2 : there (es.take (k + 1)) = there (es.take k) := by rw [Hst.out, Hf.out]; simp
        exact ⟨⟨k + 1, es', m, by go_num, hlt, ⟨(HG.out.tab.alloc _).alloc _, HG.out.len, HG.out.rh, by rw [e2]; exact HG.out.perm, by rw [e2]; exact HG.out.num⟩, (HK.out.alloc _).alloc _⟩, by simp [intOf]; omega⟩
      · have hEb : ((gt es k).a == 0) = false := by simp [hE]
        have hf : (gt es k).full = true := by simp [Ent.full, hE]
        have hok := hok hf
        have hI := HI.out
        have hG := HG.out
        have hmem : ∀ x ∈ there es', x.ok := fun x hx => by
          have h1 := there_take_mem (hG.perm.mem_iff.1 hx)
          exact (hI.ok _ (hI.perm.mem_iff.1 h1)).1
        have hlen : (there es').length < 2 ^ (bits + 1) := by
          rw [hG.perm.length_eq]
          have h1 := there_take_le (es := es) k
          rw [hI.perm.length_eq] at h1
          have h2 := hI.room
          have h3 := hI.n_pos
          rw [Nat.pow_succ]
          omega
        obtain ⟨q, hq, hqf⟩ := exists_free hG.len hlen
        have hoks : ∀ i, i < 2 ^ (bits + 1) → (gt es' i).full = true → (gt es' i).ok := fun i hi hf => hmem _ (mem_there (by rw [hG.len]; exact hi) hf)
        have hC : Carry (bits + 1) (2 ^ (bits + 1)) es' (gt es k) q es' (gt es k) (home (bits + 1) (gt es k).h) 0 :=
          Carry.start hG.len hG.rh hf (home_lt (by omega) hok.1 hok.2.1) hq hqf (fun i hi hf => home_lt (by omega) (hoks i hi hf).1 (hoks i hi hf).2.1) hoks hok
        have hmn : m ≤ 65536 := by
          rw [hG.num]
          have h1 := there_take_le (es := es) k
          rw [hI.perm.length_eq] at h1
          have := hI.room
          have := hI.n_le
          omega
        have hlay : ∀ W, Keep No wr W → Calls Try.prog 65 #[.pointer (some ⟨bt, 0, none⟩), .agg #[.int .u64 (gt es k).h, .int .u64 (gt es k).a, .int .u64 (gt es k).v, .int .u8 (gt es k).c]] W fun e' w' => e' = .returned (.tuple #[]) ∧ Keep (At bt w.heap.size) W w' ∧ ∃ es'', Tab w' bt w.heap.size (bits + 1) most es'' (m + 1) ∧ es''.length = 2 ^ (bits + 1) ∧ RH (bits + 1) (2 ^ (bits + 1)) es'' ∧ (there es'').Perm (gt es k :: there es') :=
          fun W hW => lay_any bt w.heap.size (bits + 1) most m es' (gt es k) q W (hG.tab.mod hW (no _) (no _)) (by omega) (by have := hI.m16; omega) hG.len hmn hC
        have Hf := hid hf
        clear hE hf hI hG hmem hlen hoks hC hq hqf hmn
        go_wp2_with (first | (go_at_call 51; refine (empty_any _ _ _ _ _).mono ?_; rintro e w' ⟨rfl, rfl⟩) | (go_at_call 65; refine (hlay _ (((Keep.refl _ _).alloc _).alloc _)).mono ?_; rintro e w' ⟨rfl, hk1, hex⟩; have Hex := hid hex; have Hk1 := hid hk1; clear hex hk1))
        obtain ⟨es'', g1, g2, g3, g4⟩ := Hex.out
        have e2 : there (es.take (k + 1)) = there (es.take k) ++ [gt es k] := by rw [Hst.out, Hf.out]; simp
        refine ⟨⟨k + 1, es'', m + 1, by go_num, hlt, ⟨g1, g2, g3, ?_, ?_⟩, Keep.trans ((HK.out.alloc _).alloc _) Hk1.out ?_⟩, by simp [intOf]; omega⟩
        · rw [e2]
          exact g4.trans ((HG.out.perm.cons _).trans (List.perm_append_singleton _ _).symm)
        · rw [e2, HG.out.num]; simp
        · rintro i hi (h | h)
          · exact h
          · omega
    · have hke : k = es.length := by omega
      have hI := HI.out
      have hlast : TInv (bits + 1) most es' L ∧ m = L.length := by
        have h1 : es.take k = es := by rw [hke]; exact List.take_length
        have h2 := hG.perm
        have h3 := hG.num
        rw [h1] at h2 h3
        have h4 := two_le_pow hI.b2
        have h5 : 2 ^ (bits + 1) = 2 * 2 ^ bits := by rw [Nat.pow_succ]; omega
        have h6 := hI.room
        exact ⟨⟨by omega, hm, hI.m16, hG.len, hG.rh, h2.trans hI.perm, hI.sorted, by rw [h5]; omega, hI.ok⟩, by rw [h3, hI.perm.length_eq]⟩
      have HL := hid hlast
      have HG := hid hG
      clear hlast hG hKp hI hke
      go_wp2
      exact bodyPost_end (v := .tuple #[]) (by simp [results, Try.results64, go_sem]) rfl ⟨rfl, HK.out, w.heap.size, es', Nat.le_refl _, by rw [← HL.out.2]; exact HG.out.tab, HL.out.1⟩
end Go.Proofs.Ytaijfgajcmopfaa.W5
