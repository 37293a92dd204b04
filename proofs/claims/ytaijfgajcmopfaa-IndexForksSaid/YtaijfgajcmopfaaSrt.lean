import Derived.Test.YtaijfgajcmopfaaV
import Derived.Shelf.SlSortCmp.NoneTotal
/- slices.SortFunc at structs, of whatever program, in the words of a block known whole. -/
set_option linter.unusedVariables false
namespace Go.Proofs.Ytaijfgajcmopfaa.Srt
open Go.RowKit Go.Shelf Go.Lib Go.Sort V

variable {α : Type} [Inhabited α]

theorem flatK_toList (enc : α → List Value) (k : Nat) (hk0 : 0 < k) (hk : ∀ x, (enc x).length = k) (xs : List α) : (flatK enc k xs.toArray).toList = xs.flatMap enc := by
  refine List.ext_getElem? fun t => ?_
  by_cases ht : t < xs.length * k
  · have h1 := get_flatK enc k xs.toArray t (by simpa using ht)
    have hs : t < (flatK enc k xs.toArray).size := by simpa using ht
    rw [getElem!_pos _ t hs] at h1
    rw [Array.getElem?_toList, Array.getElem?_eq_getElem hs, h1]
    clear h1 hs
    induction xs generalizing t with
    | nil => simp at ht
    | cons x xs ih =>
      rw [List.flatMap_cons]
      have hq : t / k < (x :: xs).length := Nat.div_lt_of_lt_mul (by rw [Nat.mul_comm]; exact ht)
      by_cases h : t < k
      · rw [List.getElem?_append_left (by rw [hk]; exact h)]
        have e1 : t / k = 0 := Nat.div_eq_of_lt h
        have e2 : t % k = t := Nat.mod_eq_of_lt h
        simp only [e1, e2]
        have : t < (enc x).length := by rw [hk]; exact h
        simp [this]
      · rw [List.getElem?_append_right (by rw [hk]; omega), hk]
        have ht' : t - k < xs.length * k := by simp only [List.length_cons, Nat.succ_mul] at ht; omega
        have h2 := ih (t - k) ht'
        rw [← h2]
        have e1 : t / k = (t - k) / k + 1 := by rw [Nat.div_eq_sub_div hk0 (by omega)]
        have e2 : t % k = (t - k) % k := by rw [Nat.mod_eq_sub_mod (by omega)]
        rw [e1, e2]
        simp
  · have h1 : (flatK enc k xs.toArray).toList.length ≤ t := by simp; omega
    have h2 : (xs.flatMap enc).length ≤ t := by
      rw [List.length_flatMap, show (xs.map fun a => (enc a).length) = List.replicate xs.length k by
        refine List.eq_replicate_iff.2 ⟨by simp, fun b hb => ?_⟩
        obtain ⟨a, _, rfl⟩ := List.mem_map.1 hb
        exact hk a]
      simp; omega
    rw [List.getElem?_eq_none h1, List.getElem?_eq_none h2]

theorem permIn_list (d d' : Array α) (h : PermIn 0 d.size d d') : d'.toList.Perm d.toList := by
  obtain ⟨h1, _, h3⟩ := h
  have e : d.toList.take d'.size = d.toList := List.take_of_length_le (by simp [h1])
  have h4 := h3
  simp [← h1] at h4
  rwa [e] at h4
theorem sortedIn_list (lt : α → α → Bool) (d : Array α) (h : SortedIn lt 0 d.size d) : d.toList.Pairwise (fun a b => lt b a = false) := by
  rw [List.pairwise_iff_getElem]
  intro i j hi hj hij
  have := h i j (Nat.zero_le _) hij (by simpa using hj)
  rw [getElem!_pos _ j (by simpa using hj), getElem!_pos _ i (by simpa using hi)] at this
  simpa using this

theorem holds_of_blk {w : World} {b : Nat} {cs rest : List Value} {t : TypeId} (F : Array Value) (hF : F.toList = cs) (h : Blk w b (cs ++ rest) t) : Holds id w b 0 F := by
  intro j hj
  subst hF
  rw [Nat.zero_add]
  refine ⟨?_, h.frozen j⟩
  rw [h.cell, List.getElem?_append_left (by simpa using hj), getElem!_pos _ j hj]
  simp [hj]

theorem blk_putRow {w : World} {b : Nat} {cs rest : List Value} {t : TypeId} (F : Array Value) (hs : F.size = cs.length) (h : Blk w b (cs ++ rest) t) : Blk (putRow id w b 0 F) b (F.toList ++ rest) t := by
  unfold Blk at h ⊢
  unfold putRow mapBlock
  simp only [Array.getElem?_modify]
  rw [if_pos trivial, h]
  simp only [Option.map_some, onCells]
  congr 2
  apply Array.toList_inj.1
  refine List.ext_getElem? fun i => ?_
  unfold putCells
  rw [Array.getElem?_toList, Array.getElem?_mapIdx]
  simp only [List.getElem?_toArray, Nat.zero_le, Nat.zero_add, true_and, Nat.sub_zero, id]
  by_cases hi : i < F.size
  · rw [List.getElem?_append_left (by omega), List.getElem?_append_left (by simpa using hi)]
    have : i < cs.length := by omega
    simp [hi, this]
  · rw [List.getElem?_append_right (by omega), List.getElem?_append_right (by simp; omega)]
    have hi2 : ¬ i < cs.length := by omega
    simp only [Array.length_toList, hs, hi2, if_false]
    cases rest[i - cs.length]? <;> rfl

theorem keep_sort (enc : α → List Value) (k : Nat) (w : World) (b n : Nat) (d : Array α) (os : Array Obj) (hb : b < w.heap.size) : Keep (fun j => j = b) w (sortWorldK enc k w b 0 n d os) where
  os := rfl
  tape := rfl
  output := rfl
  size := by
    unfold sortWorldK
    rw [size_grow]
    have : (putRowK enc k (Sort.ahead w n) b 0 d).heap.size = w.heap.size := by
      unfold putRowK
      rw [size_putRow]
      rfl
    omega
  block := by
    intro j hj hn
    unfold sortWorldK
    have hsz : (putRowK enc k (Sort.ahead w n) b 0 d).heap.size = w.heap.size := by
      unfold putRowK
      rw [size_putRow]
      rfl
    rw [heap_grow_old _ _ (by rw [hsz]; exact hj)]
    unfold putRowK putRow mapBlock
    simp only [Array.getElem?_modify]
    rw [if_neg (fun e => hn e.symm)]
    rfl

/-- **slices.SortFunc, in the words of a block known whole.** -/
theorem sortFunc_blk {P : Program} {ρ : Ren} (L : SlLaysF0.n6 P ρ) (k : Nat) (aE : ∀ w, (isAgg (ρ.t 24)).run P w = .ok true w) (zE : ∀ w, (Go.sizeOf (ρ.t 24)).run P w = .ok k w) (enc : α → List Value) (hk0 : 0 < k) (hk : ∀ x, (enc x).length = k) (h1 : ∀ x, ∀ v ∈ enc x, v.oneCell' = true)
    (cf : α → α → Int) (hO : SWO (ltOf cf)) (g : Nat) (cb : Array Value) (b cap : Nat) (xs : List α) (rest : List Value) (t : TypeId) (w : World)
    (eg : ∀ args w, (callFunc g args).run P w = .ok (.enter g args) w) (hcmp : ∀ x y W, Calls P g (#[.agg (enc x).toArray, .agg (enc y).toArray] ++ cb) W fun e w' => e = .returned (.int .i64 (cf x y)) ∧ ∃ q os', w' = grow (W.drewN q) os')
    (hB : Blk w b (xs.flatMap enc ++ rest) t) (hsz : xs.length < 4611686018427387904) :
    Calls P (ρ.f 6) #[.slice (some ⟨b, 0, none⟩) xs.length cap, .func (.func g) #[] cb] w fun e w' =>
      e = .returned (.tuple #[]) ∧ ∃ ys : List α, ys.Perm xs ∧ ys.Pairwise (fun x y => ¬ cf y x < 0) ∧ Blk w' b (ys.flatMap enc ++ rest) t ∧ Keep (fun j => j = b) w w' := by
  have hH : HoldsK enc k w b 0 xs.toArray := holds_of_blk _ (flatK_toList enc k hk0 hk xs) hB
  have hc := AnyQ.slices_SortFunc L k aE zE enc hk h1 cf hO g cb b 0 cap xs.toArray w eg (fun m os dk _ x y => hcmp x y _) hH hB.lt (by simpa using hsz)
  refine hc.mono ?_
  rintro e w' ⟨rfl, d', n, os, hp, hs, rfl⟩
  refine ⟨rfl, d'.toList, permIn_list _ _ hp, ?_, ?_, keep_sort enc k w b n d' os hB.lt⟩
  · have h2 := sortedIn_list (ltOf cf) d' (by rw [hp.1]; exact hs)
    exact h2.imp (fun h => by simpa [ltOf] using h)
  · unfold sortWorldK putRowK
    have hsd : d'.size = xs.length := by have := hp.1; simpa using this
    have hF : (flatK enc k d').toList = d'.toList.flatMap enc := by
      have := flatK_toList enc k hk0 hk d'.toList
      simpa using this
    have hlen : (xs.flatMap enc).length = xs.length * k := by
      rw [← flatK_toList enc k hk0 hk xs]; simp
    have h2 := blk_putRow (w := Sort.ahead w n) (flatK enc k d') (cs := xs.flatMap enc) (rest := rest) (by rw [size_flatK, hlen, hsd]) hB
    rw [hF] at h2
    have h3 : b < (putRow id (Sort.ahead w n) b 0 (flatK enc k d')).heap.size := h2.lt
    unfold Blk
    rw [heap_grow_old _ _ h3]
    exact h2
end Go.Proofs.Ytaijfgajcmopfaa.Srt
