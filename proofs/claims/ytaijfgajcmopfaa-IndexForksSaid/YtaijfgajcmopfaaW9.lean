import Derived.Test.YtaijfgajcmopfaaW8
/- DeleteFunc at entries; the comparison; SortFunc at entries. -/
set_option linter.unusedVariables false
namespace Go.Proofs.Ytaijfgajcmopfaa.W9
open Go.RowKit Go.Shelf V Rh T W1 W2 W3 W4 W5 W8

theorem pack_start {es : List Ent} {i0 : Nat} (h : es.findIdx? (fun e => !e.full) = some i0) : i0 < es.length ∧ Packing es es i0 (i0 + 1) := by
  rw [List.findIdx?_eq_some_iff_getElem] at h
  obtain ⟨h1, h2, h3⟩ := h
  refine ⟨h1, rfl, h1, by omega, ?_, fun _ _ => rfl⟩
  have hf : (gt es i0).full = false := by rw [gt_of_lt h1]; simpa using h2
  rw [there_take_succ h1, hf]
  simp only [Bool.false_eq_true, if_false, List.append_nil]
  unfold there
  symm
  rw [List.filter_eq_self]
  intro e he
  obtain ⟨j, hj, rfl⟩ := List.getElem_of_mem he
  have hj2 : j < i0 := by simp at hj; omega
  have := h3 j hj2
  simpa using this

set_option maxRecDepth 100000 in
set_option maxHeartbeats 1000000 in
theorem deleteFunc_any (g cap i0 : Nat) (es : List Ent) (rest : List Value) (w : World) (hB : Blk w g (flat es ++ rest) 27) (hN : es.length ≤ 65536) (hcap : es.length ≤ cap) (hi0 : es.findIdx? (fun e => !e.full) = some i0) :
    Calls Try.prog 49 #[.slice (some ⟨g, 0, none⟩) es.length cap, .func (.func 51) #[] #[]] w fun e w' =>
      e = .returned (.slice (some ⟨g, 0, none⟩) (there es).length cap) ∧ (∃ rest', Blk w' g (flat (there es) ++ rest') 27) ∧ Keep (fun k => k = g) w w' := by
  have hix := indexFunc_any g cap es rest w hB hN
  have e1 : freeI es = i0 := by rw [freeI, hi0]
  rw [e1] at hix
  obtain ⟨hi1, hP⟩ := pack_start hi0
  have HB := hid hB
  have HP := hid hP
  clear hB hi0 e1 hP
  go_enter Try.func49, Try.ntmps49
  have hne : ((i0 : Int) == -1) = false := by simp
  go_wp2_with (go_at_call 66; refine hix.mono ?_; rintro e w1 ⟨rfl, hk⟩; have HK := hid hk; clear hk)
  go_loopw [5, 6] (fun a b wr => ∃ (i j : Nat) (es' : List Ent), a = .int .i64 i ∧ b = .int .i64 j ∧ Packing es es' i j ∧ Blk wr g (flat es' ++ rest) 27 ∧ Keep (fun k => k = g) w wr) (fun _ b _ => es.length - (intOf b).toNat)
  case atStart => exact ⟨i0, i0 + 1, es, rfl, by go_num, HP.out, HB.out.mod HK.out (no _), HK.out.mono (fun _ _ h => h.elim)⟩
  case round =>
    obtain ⟨i, j, es', rfl, rfl, hP, hB, hK⟩ := hrel
    have hj := hP.jl
    have hij := hP.ij
    have hl := hP.len
    have hz := hB.lt
    have hfz := hB.frozen
    have hj0 : 0 ≤ (j : Int) := by omega
    have hi0' : 0 ≤ (i : Int) := by omega
    by_cases hlt : j < es.length
    · obtain ⟨s0, s1, s2, s3⟩ := slot hB (i := j) (by omega)
      obtain ⟨t0, t1, t2, t3⟩ := slot hB (i := i) (by omega)
      rw [hP.later j (Nat.le_refl _)] at s0 s1 s2 s3
      have hj1 : (j : Int) < es.length := by omega
      have hi1' : (i : Int) < es.length := by omega
      have hne3 : g ≠ wr.heap.size := by omega
      have hne4 : wr.heap.size ≠ g := by omega
      have HP := hid hP
      have HB := hid hB
      have HK := hid hK
      have HL := hid hl
      clear hP hB hK hl
      by_cases hE : (gt es j).a = 0
      · have hEb : ((gt es j).a == 0) = true := by simp [hE]
        have Hs := hid (HP.out.drop hlt (by simp [Ent.full, hE]))
        clear hE
        go_wp2_with (first | (go_at_call 51; refine (empty_any _ _ _ _ _).mono ?_; rintro e w' ⟨rfl, rfl⟩))
        exact ⟨⟨i, j + 1, es', rfl, by go_num, Hs.out, (HB.out.alloc _).alloc _, (HK.out.alloc _).alloc _⟩, by simp [intOf]; omega⟩
      · have hEb : ((gt es j).a == 0) = false := by simp [hE]
        have Hs := hid (HP.out.keep hlt (by simp [Ent.full, hE]))
        clear hE
        go_wp2_with (first | (go_at_call 51; refine (empty_any _ _ _ _ _).mono ?_; rintro e w' ⟨rfl, rfl⟩))
        have hl2 : i < es'.length := by have := HL.out; omega
        exact ⟨⟨i + 1, j + 1, es'.set i (gt es j), by go_num, by go_num, Hs.out, ((Blk.set4 HB.out hl2 _).alloc _).alloc _, (((HK.out.set4 (fun _ => rfl) _ _ _ _ _ _ _ _).alloc _).alloc _)⟩, by simp [intOf]; omega⟩
    · have hje : j = es.length := by omega
      have hmade := hP.made
      rw [hje, List.take_length] at hmade
      have hlen : (there es).length = i := by rw [← hmade]; simp; omega
      obtain ⟨w2, hclr, hB2, hK2⟩ := run_clear g (i * 4) (es.length - i) (cap - i) (flat es' ++ rest) 27 wr hB (by omega) (by rw [List.length_append, flat_length]; omega)
      have hlast : Hid (∃ rest', Blk w2 g (flat (there es) ++ rest') 27) := by
        rw [List.append_assoc, List.take_append_of_le_length (by rw [flat_length]; omega), flat_take _ _ (by omega), hmade] at hB2
        exact ⟨_, hB2⟩
      have HK := hid hK
      have HK2 := hid hK2
      have Hlen := hid hlen
      have hi1' : (i : Int) ≤ es.length := by omega
      have hi2' : (i : Int) ≤ cap := by omega
      have hic : i < cap := by omega
      have hic2 : ¬ cap - i = 0 := by omega
      have hic3 : ¬ cap = i := by omega
      have hic4 : i < es.length := by omega
      clear hP hB hK hB2 hK2 hmade hlen hl hje
      go_wp2
      go_ret
      exact ⟨by rw [Hlen.out]; rfl, hlast.out, HK.out.trans HK2.out (fun _ _ h => h)⟩

theorem isNaN_any (x : Int) (w : World) : Calls Try.prog 69 #[.int .u64 x] w fun e w' => e = .returned (.bool false) ∧ w = w' := by
  go_enter Try.func69, Try.ntmps69
  go_wp2
  go_ret
  exact ⟨rfl, rfl⟩
/-- three ways -/
def cmp3 (x y : Int) : Int := if x < y then -1 else if y < x then 1 else 0
theorem compare_any (x y : Int) (w : World) : Calls Try.prog 54 #[.int .u64 x, .int .u64 y] w fun e w' => e = .returned (.int .i64 (cmp3 x y)) ∧ w = w' := by
  by_cases h1 : x < y
  · have H : Hid (cmp3 x y = -1) := by show _ = _; simp [cmp3, h1]
    go_enter Try.func54, Try.ntmps54
    go_wp2_with (go_at_call 69; refine (isNaN_any _ _).mono ?_; rintro e w' ⟨rfl, rfl⟩)
    go_ret
    exact ⟨ret_int H.out.symm, rfl⟩
  · by_cases h2 : y < x
    · have H : Hid (cmp3 x y = 1) := by show _ = _; simp [cmp3, h1, h2]
      go_enter Try.func54, Try.ntmps54
      go_wp2_with (go_at_call 69; refine (isNaN_any _ _).mono ?_; rintro e w' ⟨rfl, rfl⟩)
      go_ret
      exact ⟨ret_int H.out.symm, rfl⟩
    · have H : Hid (cmp3 x y = 0) := by show _ = _; simp [cmp3, h1, h2]
      go_enter Try.func54, Try.ntmps54
      go_wp2_with (go_at_call 69; refine (isNaN_any _ _).mono ?_; rintro e w' ⟨rfl, rfl⟩)
      go_ret
      exact ⟨ret_int H.out.symm, rfl⟩
theorem byHash_any (x y : Ent) (w : World) : Calls Try.prog 53 #[.agg (cellsE x).toArray, .agg (cellsE y).toArray] w fun e w' => e = .returned (.int .i64 (cmp3 x.h y.h)) ∧ ∃ q os', w' = Sort.grow (w.drewN q) os' := by
  have hc := fun W => compare_any x.h y.h W
  generalize cmp3 x.h y.h = r at hc ⊢
  show Calls Try.prog 53 #[.agg #[.int .u64 x.h, .int .u64 x.a, .int .u64 x.v, .int .u8 x.c], .agg #[.int .u64 y.h, .int .u64 y.a, .int .u64 y.v, .int .u8 y.c]] w _
  go_enter Try.func53, Try.ntmps53
  go_wp2_with (go_at_call 54; refine (hc _).mono ?_; rintro e w' ⟨rfl, rfl⟩)
  go_ret
  exact ⟨rfl, 0, _, by rw [Sort.alloc_eq_grow, Sort.alloc_eq_grow, Sort.grow_grow]; rfl⟩

theorem lt_cmp3 (x y : Ent) : ltOf (fun x y : Ent => cmp3 x.h y.h) x y = decide (x.h < y.h) := by
  unfold ltOf cmp3
  by_cases h1 : x.h < y.h
  · simp [h1]
  · by_cases h2 : y.h < x.h <;> simp [h1, h2]
theorem swo : Sort.SWO (ltOf fun x y : Ent => cmp3 x.h y.h) where
  irrefl x := by rw [lt_cmp3]; simp
  trans x y z h1 h2 := by rw [lt_cmp3] at *; simp at *; omega
  ntrans x y z h1 h2 := by rw [lt_cmp3] at *; simp at *; omega

theorem sorted_eq {ys L : List Ent} (hs : Sorted L) (hp : ys.Perm L) (hy : ys.Pairwise (fun x y => ¬ cmp3 y.h x.h < 0)) : ys = L := by
  have hy2 : ys.Pairwise (fun a b => a.h ≤ b.h) := hy.imp (fun {a b} h => by
    unfold cmp3 at h
    split at h
    · exact absurd (by decide) h
    · omega)
  have hl2 : L.Pairwise (fun a b => a.h ≤ b.h) := hs.imp (fun h => by omega)
  refine List.Perm.eq_of_pairwise (le := fun a b : Ent => a.h ≤ b.h) ?_ hy2 hl2 hp
  intro a b ha hb h1 h2
  have ha' : a ∈ L := hp.mem_iff.1 ha
  have e1 := lget_mem hs ha'
  have e2 := lget_mem hs hb
  have : a.h = b.h := by omega
  rw [this, e2] at e1
  exact (Option.some.inj e1).symm

theorem sortEntries (g cap : Nat) (xs L : List Ent) (rest : List Value) (w : World) (hB : Blk w g (flat xs ++ rest) 27) (hn : xs.length ≤ 65536) (hs : Sorted L) (hp : xs.Perm L) :
    Calls Try.prog 52 #[.slice (some ⟨g, 0, none⟩) xs.length cap, .func (.func 53) #[] #[]] w fun e w' =>
      e = .returned (.tuple #[]) ∧ Blk w' g (flat L ++ rest) 27 ∧ Keep (fun k => k = g) w w' := by
  have eg : ∀ args w, (callFunc 53 args).run Try.prog w = .ok (.enter 53 args) w := enters_of Try.func53 (by kernel_rfl) rfl
  have hc := Srt.sortFunc_blk Try.sortEntry 4 Try.isAgg27 Try.sizeOf27 cellsE (by decide) (fun _ => rfl) (fun x v hv => flat_one [x] v (by simpa [flat] using hv)) (fun x y => cmp3 x.h y.h) swo 53 #[] g cap xs rest 27 w eg (fun x y W => byHash_any x y W) hB (by omega)
  change Calls Try.prog 52 _ _ _ at hc
  refine hc.mono ?_
  rintro e w' ⟨rfl, ys, h1, h2, h3, h4⟩
  have := sorted_eq hs (h1.trans hp) h2
  subst this
  exact ⟨rfl, h3, h4⟩
end Go.Proofs.Ytaijfgajcmopfaa.W9
