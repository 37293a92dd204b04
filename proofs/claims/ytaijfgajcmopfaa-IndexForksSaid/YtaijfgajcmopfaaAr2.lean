import Derived.Test.YtaijfgajcmopfaaZ5
/- The arguments: a script, a call, opened. -/
set_option linter.unusedVariables false
set_option linter.unusedSimpArgs false
namespace Go.Proofs.Ytaijfgajcmopfaa.Ar2
open Go.RowKit Go.ChangeShapes Go.WideShapes Go.Deep V Rh T W1 X7 Ar Z5

theorem c24 : Try.prog.cellsOf 24 = 4 := by kernel_rfl
theorem c22 : Try.prog.cellsOf 22 = 1 := by kernel_rfl

section
variable {H : Type} {enc : TypeId × Value → H} {W : World} {base : Nat} {spare : Nat → Bool} {held : Bool}

set_option maxRecDepth 100000 in
theorem open_opsC {n : Nat} {v : Value} {y : DataW H × List MemPlace} (hf : DataW.trod enc Try.prog W base spare held n 22 [v] = some y) : ∃ os, Ops W v os := by
  obtain ⟨d, p⟩ := y
  rcases open_slice Try.underlying22 hf with ⟨hcs, hx⟩ | ⟨a, len, cap, m, n, D, Pl, hcs, _, hl, hm, hmm, hx, hel⟩
  · obtain rfl : v = .slice none 0 0 := by simpa using hcs
    exact ⟨[], fun _ h => by simp at h, Nat.zero_le _, .inl ⟨rfl, _, _, rfl⟩⟩
  · obtain rfl : v = .slice (some a) len cap := by simpa using hcs
    have hle : len ≤ m := by rw [hmm]; split <;> omega
    have each : ∀ i, i < len → ∃ o : Opr, o.ok ∧ W.cells? base (a.add (i * 8)) 8 = some (cellsO o) := by
      intro i hi
      obtain ⟨cs, h1, h2⟩ := hel i (by omega)
      rw [c29] at h1
      obtain ⟨o, ho, rfl⟩ := open_op h2
      exact ⟨o, ho, h1⟩
    obtain ⟨f, hfo⟩ := choose_lt each
    refine ⟨(List.range len).map f, fun o ho => ?_, ?_, ?_⟩
    · obtain ⟨i, hi, rfl⟩ := List.mem_map.1 ho
      exact (hfo i (List.mem_range.1 hi)).1
    · simp; omega
    · by_cases h0 : len = 0
      · subst h0
        exact .inl ⟨rfl, _, _, rfl⟩
      · right
        obtain ⟨ab, ao, asp⟩ := a
        have hs0 : asp = none := by
          have := (World.cells?_some (hfo 0 (by omega)).2).2.2 0 (by omega)
          simpa [Addr.add] using World.cell?_spot this
        subst hs0
        have hg : ∀ i, i < len → ∀ j u, (cellsO (f i))[j]? = some u → W.cell? ⟨ab, ao + i * 8 + j, none⟩ = some u := by
          intro i hi j u hu
          obtain ⟨_, h8, hc⟩ := World.cells?_some (hfo i hi).2
          have hj : j < 8 := by have := (List.getElem?_eq_some_iff.1 hu).1; rw [h8] at this; exact this
          have := hc j hj
          rw [add_at, add_at] at this
          rw [this]
          exact hu
        refine ⟨ab, ao, cap, by simp, ?_, fun i hi j u hu => ?_⟩
        · exact cell_lt (hg 0 (by omega) 0 _ rfl)
        · simp only [List.length_map, List.length_range] at hi
          refine hg i hi j u ?_
          simpa [List.getD_eq_getElem?_getD, hi] using hu

set_option maxRecDepth 100000 in
theorem open_script {v : Value} {d : DataW H} {p : List MemPlace} {r : Reach} {b0 : Nat} (hv : Value.okWide Try.prog W r b0 24 v) (h : DataW.Trod enc Try.prog W base spare held 24 v d p) : ∃ n b m s os, v = valS n b m s ∧ Ops W s os := by
  obtain ⟨cs, rfl, hsz⟩ := okWide_struct Try.underlying24 hv
  rw [c24] at hsz
  obtain ⟨fuel, hf⟩ := h
  obtain ⟨xs, k, _, _, hl, hx, hff⟩ := DataW.trod_struct Try.underlying24 hf
  rw [c24] at hl
  obtain ⟨a, b, c, e, hcs⟩ := list4 (l := cs.toList) (by simpa using hsz)
  have hcs' : (Value.agg cs).cells.toList = [a, b, c, e] := hcs
  rw [hcs'] at hff
  have hx4 : xs.length = 4 := hx
  obtain ⟨y0, h0⟩ := some_of (hff 0 _ rfl) (by omega)
  obtain ⟨y1, h1⟩ := some_of (hff 1 _ rfl) (by omega)
  obtain ⟨y2, h2⟩ := some_of (hff 2 _ rfl) (by omega)
  obtain ⟨y3, h3⟩ := some_of (hff 3 _ rfl) (by omega)
  simp [c3, c22] at h0 h1 h2 h3
  obtain ⟨x0, rfl, _⟩ := open_i64 h0
  obtain ⟨x1, rfl, _⟩ := open_i64 h1
  obtain ⟨x2, rfl, _⟩ := open_i64 h2
  obtain ⟨os, hO⟩ := open_opsC h3
  refine ⟨x0, x1, x2, e, os, ?_, hO⟩
  unfold valS
  congr 1
  exact Array.toList_inj.1 hcs

set_option maxRecDepth 100000 in
theorem open_op_arg {v : Value} {d : DataW H} {p : List MemPlace} {r : Reach} {b0 : Nat} (hv : Value.okWide Try.prog W r b0 29 v) (h : DataW.Trod enc Try.prog W base spare held 29 v d p) : ∃ o : Opr, o.ok ∧ v = valO o := by
  obtain ⟨cs, rfl, hsz⟩ := okWide_struct Try.underlying29 hv
  obtain ⟨fuel, hf⟩ := h
  obtain ⟨o, ho, hcs⟩ := open_op hf
  refine ⟨o, ho, ?_⟩
  have hcs' : cs.toList = cellsO o := hcs
  unfold valO
  congr 1
  exact Array.toList_inj.1 hcs'

set_option maxRecDepth 100000 in
theorem open_int_arg {v : Value} {d : DataW H} {p : List MemPlace} {r : Reach} {b0 : Nat} (hv : Value.okWide Try.prog W r b0 3 v) (h : DataW.Trod enc Try.prog W base spare held 3 v d p) : ∃ x : Int, v = .int .i64 x ∧ -9223372036854775808 ≤ x ∧ x < 9223372036854775808 := by
  obtain ⟨x, rfl⟩ := okWide_int Try.underlying3 hv
  obtain ⟨fuel, hf⟩ := h
  obtain ⟨x', h1, h2, h3⟩ := open_i64 (show DataW.trod enc Try.prog W base spare held fuel 3 [.int .i64 x] = some (d, p) from hf)
  exact ⟨x', h1, h2, h3⟩
end
end Go.Proofs.Ytaijfgajcmopfaa.Ar2
