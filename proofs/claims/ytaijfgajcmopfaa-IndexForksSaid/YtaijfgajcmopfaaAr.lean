import Derived.Test.YtaijfgajcmopfaaLw
import Derived.Test.YtaijfgajcmopfaaX7
/- The arguments: calls, scripts, slices of calls, opened into cells. -/
set_option linter.unusedVariables false
namespace Go.Proofs.Ytaijfgajcmopfaa.Ar
open Go.RowKit Go.ChangeShapes Go.WideShapes Go.Deep V Rh T W1 X7

theorem list8 {α : Type} {l : List α} (h : l.length = 8) : ∃ a b c d e f g i, l = [a, b, c, d, e, f, g, i] := by
  match l, h with
  | [a, b, c, d, e, f, g, i], _ => exact ⟨a, b, c, d, e, f, g, i, rfl⟩
theorem list4 {α : Type} {l : List α} (h : l.length = 4) : ∃ a b c d, l = [a, b, c, d] := by
  match l, h with
  | [a, b, c, d], _ => exact ⟨a, b, c, d, rfl⟩

theorem c29 : Try.prog.cellsOf 29 = 8 := by kernel_rfl
theorem c27 : Try.prog.cellsOf 27 = 4 := by kernel_rfl
theorem c25 : Try.prog.cellsOf 25 = 1 := by kernel_rfl
theorem c5 : Try.prog.cellsOf 5 = 1 := by kernel_rfl
theorem c3 : Try.prog.cellsOf 3 = 1 := by kernel_rfl

section
variable {H : Type} {enc : TypeId × Value → H} {W : World} {base : Nat} {spare : Nat → Bool} {held : Bool}

theorem open_u64 {n : Nat} {v : Value} {y : DataW H × List MemPlace} (h : DataW.trod enc Try.prog W base spare held n 25 [v] = some y) : ∃ x, v = .int .u64 x ∧ 0 ≤ x ∧ x < 18446744073709551616 := by
  obtain ⟨x, h1, _, h3⟩ := DataW.trod_int Try.underlying25 h
  simp [Lit.wf] at h1 h3
  obtain ⟨p, q⟩ := h3
  rw [show IntKind.u64.min = 0 from rfl] at p
  rw [show IntKind.u64.max = 18446744073709551615 from rfl] at q
  exact ⟨x, h1, p, by omega⟩
theorem open_u8 {n : Nat} {v : Value} {y : DataW H × List MemPlace} (h : DataW.trod enc Try.prog W base spare held n 5 [v] = some y) : ∃ x, v = .int .u8 x ∧ 0 ≤ x ∧ x < 256 := by
  obtain ⟨x, h1, _, h3⟩ := DataW.trod_int Try.underlying5 h
  simp [Lit.wf] at h1 h3
  obtain ⟨p, q⟩ := h3
  rw [show IntKind.u8.min = 0 from rfl] at p
  rw [show IntKind.u8.max = 255 from rfl] at q
  exact ⟨x, h1, p, by omega⟩
theorem open_i64 {n : Nat} {v : Value} {y : DataW H × List MemPlace} (h : DataW.trod enc Try.prog W base spare held n 3 [v] = some y) : ∃ x, v = .int .i64 x ∧ -9223372036854775808 ≤ x ∧ x < 9223372036854775808 := by
  obtain ⟨x, h1, _, h3⟩ := DataW.trod_int Try.underlying3 h
  simp [Lit.wf] at h1 h3
  obtain ⟨p, q⟩ := h3
  rw [show IntKind.i64.min = (-9223372036854775808) from rfl] at p
  exact ⟨x, h1, p, by omega⟩

theorem some_of {α : Type} {x : Option α} {l : List α} {i : Nat} (h : x = l[i]?) (hi : i < l.length) : ∃ y, x = some y := ⟨_, h.trans (List.getElem?_eq_getElem hi)⟩

theorem open_entry {n : Nat} {cs : List Value} {y : DataW H × List MemPlace} (h : DataW.trod enc Try.prog W base spare held n 27 cs = some y) : ∃ e : Ent, e.ok ∧ cs = cellsE e := by
  obtain ⟨xs, k, _, _, hl, hx, hf⟩ := DataW.trod_struct Try.underlying27 h
  rw [c27] at hl
  obtain ⟨a, b, c, d, rfl⟩ := list4 hl
  have hx4 : xs.length = 4 := hx
  obtain ⟨y0, h0⟩ := some_of (hf 0 _ rfl) (by omega)
  obtain ⟨y1, h1⟩ := some_of (hf 1 _ rfl) (by omega)
  obtain ⟨y2, h2⟩ := some_of (hf 2 _ rfl) (by omega)
  obtain ⟨y3, h3⟩ := some_of (hf 3 _ rfl) (by omega)
  simp [c25, c5] at h0 h1 h2 h3
  obtain ⟨x0, rfl, p0, q0⟩ := open_u64 h0
  obtain ⟨x1, rfl, p1, q1⟩ := open_u64 h1
  obtain ⟨x2, rfl, p2, q2⟩ := open_u64 h2
  obtain ⟨x3, rfl, p3, q3⟩ := open_u8 h3
  exact ⟨⟨x0, x1, x2, x3⟩, ⟨p0, q0, p1, q1, p2, q2, p3, q3⟩, rfl⟩

theorem open_op {n : Nat} {cs : List Value} {y : DataW H × List MemPlace} (h : DataW.trod enc Try.prog W base spare held n 29 cs = some y) : ∃ o : Opr, o.ok ∧ cs = cellsO o := by
  obtain ⟨xs, k, _, _, hl, hx, hf⟩ := DataW.trod_struct Try.underlying29 h
  rw [c29] at hl
  obtain ⟨a, b, c, d, e, f, g, i, rfl⟩ := list8 hl
  have hx5 : xs.length = 5 := hx
  obtain ⟨y0, h0⟩ := some_of (hf 0 _ rfl) (by omega)
  obtain ⟨y1, h1⟩ := some_of (hf 1 _ rfl) (by omega)
  obtain ⟨y2, h2⟩ := some_of (hf 2 _ rfl) (by omega)
  obtain ⟨y3, h3⟩ := some_of (hf 3 _ rfl) (by omega)
  obtain ⟨y4, h4⟩ := some_of (hf 4 _ rfl) (by omega)
  simp [c25, c3, c27] at h0 h1 h2 h3 h4
  obtain ⟨x0, rfl, p0, q0⟩ := open_i64 h0
  obtain ⟨x1, ok1, he⟩ := open_entry h1
  obtain ⟨x2, rfl, p2, q2⟩ := open_u64 h2
  obtain ⟨x3, rfl, p3, q3⟩ := open_i64 h3
  obtain ⟨x4, rfl, p4, q4⟩ := open_i64 h4
  simp only [cellsE, List.cons.injEq] at he
  obtain ⟨rfl, rfl, rfl, rfl, _⟩ := he
  exact ⟨⟨x0, x1, x2, x3, x4⟩, ⟨ok1, p2, q2, p3, q3, p4, q4⟩, rfl⟩

/-- the calls in a slice -/
def Ops (W : World) (v : Value) (os : List Opr) : Prop := (∀ o ∈ os, o.ok) ∧ os.length ≤ maxLen ∧ ((os = [] ∧ ∃ a cap, v = .slice a 0 cap) ∨
  ∃ b off cap, v = .slice (some ⟨b, off, none⟩) os.length cap ∧ b < W.heap.size ∧ ∀ i, i < os.length → ∀ j u, (cellsO (os.getD i ⟨0, z, 0, 0, 0⟩))[j]? = some u → W.cell? ⟨b, off + i * 8 + j, none⟩ = some u)

theorem Ops.keep {W W' : World} {v : Value} {os : List Opr} (h : Ops W v os) (k : Keep No W W') : Ops W' v os := by
  obtain ⟨h1, h2, h3⟩ := h
  refine ⟨h1, h2, h3.imp id ?_⟩
  rintro ⟨b, off, cap, rfl, hb, hc⟩
  exact ⟨b, off, cap, rfl, Nat.lt_of_lt_of_le hb k.size, fun i hi j u hu => (World.cell?_of_block (k.block b hb (no _))).trans (hc i hi j u hu)⟩

theorem Ops.form {W : World} {v : Value} {os : List Opr} (h : Ops W v os) : ∃ a cap, v = .slice a os.length cap ∧ ∀ i, i < os.length → ∃ b off, a = some ⟨b, off, none⟩ ∧ b < W.heap.size ∧ ∀ j u, (cellsO (os.getD i ⟨0, z, 0, 0, 0⟩))[j]? = some u → W.cell? ⟨b, off + i * 8 + j, none⟩ = some u := by
  obtain ⟨_, _, ⟨rfl, a, cap, rfl⟩ | ⟨b, off, cap, rfl, hb, hc⟩⟩ := h
  · exact ⟨a, cap, rfl, fun i hi => absurd hi (Nat.not_lt_zero _)⟩
  · exact ⟨_, cap, rfl, fun i hi => ⟨b, off, rfl, hb, hc i hi⟩⟩

instance : Inhabited Opr := ⟨⟨0, z, 0, 0, 0⟩⟩

set_option maxRecDepth 100000 in
theorem open_ops {v : Value} {d : DataW H} {p : List MemPlace} {r : Reach} {b0 : Nat} (hv : Value.okWide Try.prog W r b0 22 v) (h : DataW.Trod enc Try.prog W base spare held 22 v d p) : ∃ os, Ops W v os := by
  obtain ⟨a0, len0, cap0, rfl⟩ := okWide_slice Try.underlying22 hv
  obtain ⟨fuel, hf⟩ := h
  rcases open_slice Try.underlying22 hf with ⟨hcs, hx⟩ | ⟨a, len, cap, m, n, D, Pl, hcs, _, hl, hm, hmm, hx, hel⟩
  · simp [Value.cells] at hcs
    obtain ⟨rfl, rfl, rfl⟩ := hcs
    exact ⟨[], fun _ h => by simp at h, Nat.zero_le _, .inl ⟨rfl, _, _, rfl⟩⟩
  · simp [Value.cells] at hcs
    obtain ⟨rfl, rfl, rfl⟩ := hcs
    have hle : len0 ≤ m := by rw [hmm]; split <;> omega
    have each : ∀ i, i < len0 → ∃ o : Opr, o.ok ∧ W.cells? base (a.add (i * 8)) 8 = some (cellsO o) := by
      intro i hi
      obtain ⟨cs, h1, h2⟩ := hel i (by omega)
      rw [c29] at h1
      obtain ⟨o, ho, rfl⟩ := open_op h2
      exact ⟨o, ho, h1⟩
    obtain ⟨f, hfo⟩ := choose_lt each
    refine ⟨(List.range len0).map f, fun o ho => ?_, ?_, ?_⟩
    · obtain ⟨i, hi, rfl⟩ := List.mem_map.1 ho
      exact (hfo i (List.mem_range.1 hi)).1
    · simp; omega
    · by_cases h0 : len0 = 0
      · subst h0
        exact .inl ⟨rfl, _, _, rfl⟩
      · right
        obtain ⟨ab, ao, asp⟩ := a
        have hs0 : asp = none := by
          have := (World.cells?_some (hfo 0 (by omega)).2).2.2 0 (by omega)
          simpa [Addr.add] using World.cell?_spot this
        subst hs0
        have hg : ∀ i, i < len0 → ∀ j u, (cellsO (f i))[j]? = some u → W.cell? ⟨ab, ao + i * 8 + j, none⟩ = some u := by
          intro i hi j u hu
          obtain ⟨_, h8, hc⟩ := World.cells?_some (hfo i hi).2
          have hj : j < 8 := by have := (List.getElem?_eq_some_iff.1 hu).1; rw [h8] at this; exact this
          have := hc j hj
          rw [add_at, add_at] at this
          rw [this]
          exact hu
        refine ⟨ab, ao, cap0, by simp, ?_, fun i hi j u hu => ?_⟩
        · exact cell_lt (hg 0 (by omega) 0 _ rfl)
        · simp only [List.length_map, List.length_range] at hi
          refine hg i hi j u ?_
          simpa [List.getD_eq_getElem?_getD, hi] using hu
end
end Go.Proofs.Ytaijfgajcmopfaa.Ar
