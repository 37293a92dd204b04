import Derived.Test.YtaijfgajcmopfaaW7
import Derived.Test.YtaijfgajcmopfaaSrt
import Derived.Test.YtaijfgajcmopfaaSort
/- The iterator's parts: IndexFunc, DeleteFunc, SortFunc at entries. -/
set_option linter.unusedVariables false
namespace Go.Proofs.Ytaijfgajcmopfaa.W8
open Go.RowKit V Rh T W1 W2 W3 W4 W5

/-- a run of stores into a block known whole -/
theorem run_stores {P : Program} (b : Nat) (t : TypeId) (off : Nat) : ∀ (vs : List Value) (j : Nat) (cs : List Value) (w : World), (∀ v ∈ vs, v.oneCell' = true) → Blk w b cs t → off + j + vs.length ≤ cs.length →
    ∃ w' : World, (storeCells ⟨b, off, none⟩ vs j).run P w = .ok () w' ∧ Blk w' b (cs.take (off + j) ++ vs ++ cs.drop (off + j + vs.length)) t ∧ Keep (fun k => k = b) w w' := by
  intro vs
  induction vs with
  | nil =>
    intro j cs w _ hB _
    refine ⟨w, rfl, ?_, Keep.refl _ _⟩
    simpa using hB
  | cons v vs ih =>
    intro j cs w h1 hB hl
    simp only [List.length_cons] at hl
    have hv := h1 v (by simp)
    have hc : w.cell? ⟨b, off + j, none⟩ = some cs[off + j] := by rw [hB.cell, List.getElem?_eq_getElem (by omega)]
    obtain ⟨w', hr, hB', hk⟩ := ih (j + 1) (cs.set (off + j) v) (w.setCell ⟨b, off + j, none⟩ v) (fun u hu => h1 u (by simp [hu])) (hB.set (off + j) v) (by simp; omega)
    refine ⟨w', ?_, ?_, ?_⟩
    · unfold storeCells
      simp only [Sem.run_bind]
      rw [add_at, run_store _ _ _ _ _ hv, hc]
      simp only [hB.frozen, Bool.false_eq_true, if_false, Result.andThen]
      exact hr
    · have e1 : (cs.set (off + j) v).take (off + (j + 1)) = cs.take (off + j) ++ [v] := by
        rw [← Nat.add_assoc, List.take_succ_eq_append_getElem (by simp; omega)]
        simp
        rw [List.take_set_of_le (Nat.le_refl _)]
      have e2 : (cs.set (off + j) v).drop (off + (j + 1) + vs.length) = cs.drop (off + j + (vs.length + 1)) := by
        rw [List.drop_set_of_lt (by omega)]
        congr 1
        omega
      rw [e1, e2] at hB'
      simpa [List.append_assoc] using hB'
    · exact ((Keep.refl (fun k => k = b) w).setCell _ _ (fun _ => rfl)).trans hk (fun i _ h => h)

theorem zeroCells_flat (n : Nat) : (Builtin.zeroCells #[.int .u64 0, .int .u64 0, .int .u64 0, .int .u8 0] n).toList = flat (List.replicate n z) := by
  have h := made_flat n
  have : Builtin.zeroCells #[.int .u64 0, .int .u64 0, .int .u64 0, .int .u8 0] n = madeCells #[.int .u64 0, .int .u64 0, .int .u64 0, .int .u8 0] (n * 4) := rfl
  rw [this, h]

theorem run_clear (g i n c : Nat) (cs : List Value) (t : TypeId) (w : World) (hB : Blk w g cs t) (hn : 0 < n) (hl : i + n * 4 ≤ cs.length) :
    ∃ w' : World, (∀ ty : TypeId, (Builtin.clear_ #[39] ty #[.slice (some ⟨g, i, none⟩) n c]).run Try.prog w = .ok (.tuple #[]) w') ∧ Blk w' g (cs.take i ++ flat (List.replicate n z) ++ cs.drop (i + n * 4)) t ∧ Keep (fun k => k = g) w w' := by
  obtain ⟨w', hr, hB', hk⟩ := run_stores (P := Try.prog) g t i (flat (List.replicate n z)) 0 cs w (flat_one _) hB (by rw [flat_length]; simp; omega)
  refine ⟨w', ?_, ?_, hk⟩
  · intro ty
    obtain ⟨m, rfl⟩ : ∃ m, n = m + 1 := ⟨n - 1, by omega⟩
    unfold Builtin.clear_
    simp [run_underlying Try.underlying39, Try.zeroValue27, Value.cells]
    rw [zeroCells_flat, hr]
    rfl
  · have e : (flat (List.replicate n z)).length = n * 4 := by rw [flat_length]; simp; omega
    rw [e] at hB'
    simpa using hB'

/-- the first free slot, or -1 -/
def freeI (es : List Ent) : Int := match es.findIdx? (fun e => !e.full) with | some i => (i : Int) | none => -1

theorem freeI_at {es : List Ent} {k : Nat} (hk : k < es.length) (hf : ∀ j, j < k → (gt es j).full = true) (h : (gt es k).full = false) : es.findIdx? (fun e => !e.full) = some k := by
  rw [List.findIdx?_eq_some_iff_getElem]
  refine ⟨hk, by rw [← gt_of_lt hk, h]; rfl, fun j hj => ?_⟩
  rw [← gt_of_lt (by omega), hf j hj]
  simp
theorem freeI_none {es : List Ent} (hf : ∀ j, j < es.length → (gt es j).full = true) : es.findIdx? (fun e => !e.full) = none := by
  rw [List.findIdx?_eq_none_iff]
  intro e he
  obtain ⟨i, hi, rfl⟩ := List.getElem_of_mem he
  rw [← gt_of_lt hi, hf i hi]
  rfl

set_option maxHeartbeats 400000 in
theorem indexFunc_any (g cap : Nat) (es : List Ent) (rest : List Value) (w : World) (hB : Blk w g (flat es ++ rest) 27) (hN : es.length ≤ 65536) :
    Calls Try.prog 66 #[.slice (some ⟨g, 0, none⟩) es.length cap, .func (.func 51) #[] #[]] w fun e w' => e = .returned (.int .i64 (freeI es)) ∧ Keep No w w' := by
  have HB := hid hB
  have hz := hB.lt
  clear hB
  go_enter Try.func66, Try.ntmps66
  go_wp2
  go_loopw [8] (fun i wr => ∃ k : Nat, i = .int .i64 k ∧ k ≤ es.length ∧ (∀ j, j < k → (gt es j).full = true) ∧ Keep No w wr) (fun i _ => es.length - (intOf i).toNat)
  case atStart => exact ⟨0, rfl, Nat.zero_le _, fun j hj => absurd hj (Nat.not_lt_zero _), Keep.refl _ _⟩
  case round =>
    obtain ⟨k, rfl, hk, hf, hK⟩ := hrel
    have hz2 := (HB.out.mod hK (no _)).lt
    by_cases hlt : k < es.length
    · obtain ⟨s0, s1, s2, s3⟩ := slot (HB.out.mod hK (no _)) hlt
      have HF := hid hf
      have HK := hid hK
      have hk0 : 0 ≤ (k : Int) := by omega
      have hk1 : (k : Int) < es.length := by omega
      clear hf hK
      by_cases hE : (gt es k).a = 0
      · have hEb : ((gt es k).a == 0) = true := by simp [hE]
        have Hr : Hid (freeI es = k) := by
          show _ = _
          rw [freeI, freeI_at hlt HF.out (by simp [Ent.full, hE])]
        clear hE
        go_wp2_with (first | (go_at_call 51; refine (empty_any _ _ _ _ _).mono ?_; rintro e w' ⟨rfl, rfl⟩))
        go_ret
        exact ⟨ret_int Hr.out.symm, HK.out.alloc _⟩
      · have hEb : ((gt es k).a == 0) = false := by simp [hE]
        have Hf : Hid ((gt es k).full = true) := by simp [Hid, Ent.full, hE]
        clear hE
        go_wp2_with (first | (go_at_call 51; refine (empty_any _ _ _ _ _).mono ?_; rintro e w' ⟨rfl, rfl⟩))
        exact ⟨⟨k + 1, by go_num, hlt, fun j hj => by
          rcases Nat.lt_succ_iff_lt_or_eq.1 hj with h | rfl
          · exact HF.out j h
          · exact Hf.out, HK.out.alloc _⟩, by simp [intOf]; omega⟩
    · have Hr : Hid (freeI es = -1) := by
        show _ = _
        rw [freeI, freeI_none (fun j hj => hf j (by omega))]
      have HK := hid hK
      clear hf hK
      go_wp2
      go_ret
      exact ⟨ret_int Hr.out.symm, HK.out⟩

/-- what the loop of DeleteFunc keeps: i places are made, j are seen -/
structure Packing (es es' : List Ent) (i j : Nat) : Prop where
  len : es'.length = es.length
  jl : j ≤ es.length
  ij : i < j
  made : es'.take i = there (es.take j)
  later : ∀ k, j ≤ k → gt es' k = gt es k
theorem Packing.keep {es es' : List Ent} {i j : Nat} (h : Packing es es' i j) (hj : j < es.length) (hf : (gt es j).full = true) : Packing es (es'.set i (gt es j)) (i + 1) (j + 1) where
  len := by rw [List.length_set]; exact h.len
  jl := hj
  ij := by have := h.ij; omega
  made := by
    have hl : i < es'.length := by have := h.len; have := h.ij; omega
    rw [List.take_succ_eq_append_getElem (by rw [List.length_set]; exact hl), List.getElem_set_self, List.take_set_of_le (Nat.le_refl _), h.made, W5.there_take_succ hj, hf]
    simp
  later := fun k hk => by
    have hl : i < es'.length := by have := h.len; have := h.ij; omega
    rw [gt_set hl, if_neg (by have := h.ij; omega)]
    exact h.later k (by omega)
theorem Packing.drop {es es' : List Ent} {i j : Nat} (h : Packing es es' i j) (hj : j < es.length) (hf : (gt es j).full = false) : Packing es es' i (j + 1) where
  len := h.len
  jl := hj
  ij := by have := h.ij; omega
  made := by rw [h.made, W5.there_take_succ hj, hf]; simp
  later := fun k hk => h.later k (by omega)
theorem flat_take (es : List Ent) (i : Nat) (hi : i ≤ es.length) : (flat es).take (i * 4) = flat (es.take i) := by
  induction es generalizing i with
  | nil => simp at hi; subst hi; rfl
  | cons e es ih =>
    cases i with
    | zero => simp [flat]
    | succ i =>
      have h := ih i (by simpa using hi)
      unfold flat at h ⊢
      rw [List.flatMap_cons, List.take_succ_cons, List.flatMap_cons, ← h, show (i + 1) * 4 = (cellsE e).length + i * 4 by simp [cellsE]; omega, List.take_length_add_append]
end Go.Proofs.Ytaijfgajcmopfaa.W8
