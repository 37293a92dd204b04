import Derived.Test.YtaijfgajcmopfaaW3
import Derived.Maps.AppendAt
import Derived.WalkSpells
/- Clone, Layout, Fork, New. -/
set_option linter.unusedVariables false
namespace Go.Proofs.Ytaijfgajcmopfaa.W4
open Go.RowKit V Rh T W1 W2

theorem info27 : (Try.prog.info? 27).map (fun i => (i.zero, i.size, i.bytes)) = some (some zE, 4, 32) := by kernel_rfl

theorem load_entry {w : World} {b : Nat} {e : Ent} {t : TypeId} (h : Blk w b (cellsE e) t) : (loadVar 27 ⟨b, 0, none⟩).run Try.prog w = .ok (valE e) w :=
  run_loadVar_row w b t 27 (cellsE e).toArray (0, 0) _ h Try.underlying27 rfl (by
    obtain ⟨i0, hi, hz0, hz1, hz2⟩ := info_parts info27
    rw [hi]
    exact congrArg some hz1)
/-- results that lie in a cell, and others -/
theorem res_e {fn : Func} {p : Tmp} (h : fn.results = #[.cell p 27]) (tmps : Array Value) {w : World} {b : Nat} {e : Ent} {t : TypeId} (hp : tmps.getD p undef = .pointer (some ⟨b, 0, none⟩)) (hb : Blk w b (cellsE e) t) :
    (results fn tmps).run Try.prog w = .ok (valE e) w := by
  have hp' : tmps[p]?.getD undef = .pointer (some ⟨b, 0, none⟩) := by simpa using hp
  simp [results, h, hp', asAddr, load_entry hb]
theorem res_eu {fn : Func} {p u : Tmp} (h : fn.results = #[.cell p 27, .tmp u]) (tmps : Array Value) {w : World} {b : Nat} {e : Ent} {t : TypeId} {x : Value} (hp : tmps.getD p undef = .pointer (some ⟨b, 0, none⟩)) (hu : tmps.getD u undef = x) (hb : Blk w b (cellsE e) t) :
    (results fn tmps).run Try.prog w = .ok (.tuple #[valE e, x]) w := by
  have hp' : tmps[p]?.getD undef = .pointer (some ⟨b, 0, none⟩) := by simpa using hp
  have hu' : tmps[u]?.getD undef = x := by simpa using hu
  simp [results, h, hp', hu', asAddr, load_entry hb]
theorem res_euv {fn : Func} {p u v : Tmp} (h : fn.results = #[.cell p 27, .tmp u, .tmp v]) (tmps : Array Value) {w : World} {b : Nat} {e : Ent} {t : TypeId} {x y : Value} (hp : tmps.getD p undef = .pointer (some ⟨b, 0, none⟩)) (hu : tmps.getD u undef = x) (hv : tmps.getD v undef = y) (hb : Blk w b (cellsE e) t) :
    (results fn tmps).run Try.prog w = .ok (.tuple #[valE e, x, y]) w := by
  have hp' : tmps[p]?.getD undef = .pointer (some ⟨b, 0, none⟩) := by simpa using hp
  have hu' : tmps[u]?.getD undef = x := by simpa using hu
  have hv' : tmps[v]?.getD undef = y := by simpa using hv
  simp [results, h, hp', hu', hv', asAddr, load_entry hb]

theorem clone_any (b off n c : Nat) (news : List Value) (w : World) (hl : news.length = n * 4) (hn : n ≤ 65536) (hnews : ∀ j u, news[j]? = some u → w.cell? ⟨b, off + j, none⟩ = some u) (h1 : ∀ u ∈ news, u.oneCell' = true) :
    Calls Try.prog 62 #[.slice (some ⟨b, off, none⟩) n c] w fun e w' => ∃ v, e = .returned v ∧ v ≠ .slice none 0 0 ∧ w'.ownsRow w.heap.size 27 4 v n news ∧ Keep No w w' := by
  obtain ⟨i0, hi, hz0, hz1, hz2⟩ := info_parts info27
  have hq : ∀ W : World, (binOp .eql 39 (.slice (some ⟨b, off, none⟩) n c) (.slice none 0 0)).run Try.prog W = .ok (.bool false) W := fun W => by kernel_rfl
  have HN := hid hnews
  have H1 := hid h1
  clear hnews h1
  go_enter Try.func62, Try.ntmps62
  go_wp2_with (at_builtin; refine wpList_append_own_at _ rfl (.tmp 5) (.tmp 6) 39 rfl w.heap.size 27 i0 zE 4 32 Try.underlying39 hi hz0 hz1 hz2 rfl (by decide) (.slice (some ⟨w.heap.size, 0, none⟩) 0 0) 0 [] rfl (World.ownsRow_lit w #[] 0 (Nat.le_refl _) (by decide) rfl) ⟨b, off, none⟩ n c news rfl hl ?c1 H1.out ?c2 ?c3 ?c4 ?c5)
  case c1 =>
    intro j u hu
    have := HN.out j u hu
    rw [add_at, World.cell?_alloc_lt _ _ _ (cell_lt this)]
    exact this
  case c2 => unfold maxLen; omega
  case c3 => omega
  case c4 => simp
  case c5 =>
    intro v' w' h1 h2 h3 h4
    have h3' : Hid (v' ≠ .slice none 0 0) := h3
    have H4 := hid h4
    have H2 := hid h2
    have H1' := hid h1
    clear h1 h2 h3 h4
    go_wp2
    go_ret
    exact ⟨v', rfl, h3'.out, by simpa using H1'.out, ((Keep.refl _ _).alloc _).grown H2.out (fun k e h => by simp [Value.ownBlock] at e; omega)⟩

theorem flat_one (es : List Ent) : ∀ u ∈ flat es, u.oneCell' = true := by
  intro u hu
  unfold flat at hu
  rw [List.mem_flatMap] at hu
  obtain ⟨e, _, he⟩ := hu
  simp only [cellsE, List.mem_cons, List.not_mem_nil, or_false] at he
  rcases he with rfl | rfl | rfl | rfl <;> rfl

theorem layout_any (bt bs bits most n : Nat) (es L : List Ent) (w : World) (hT : Tab w bt bs bits most es n) (hI : TInv bits most es L) :
    Calls Try.prog 50 #[.pointer (some ⟨bt, 0, none⟩)] w fun e w' => ∃ v, e = .returned v ∧ v ≠ .slice none 0 0 ∧ w'.ownsRow w.heap.size 27 4 v es.length (flat es) ∧ Keep No w w' := by
  obtain ⟨C, hC, hC2, c0, c1, c2, c3⟩ := hT.cells
  have hl : 0 < es.length := by rw [hI.len]; have := hI.n_pos; omega
  obtain ⟨xs, hS⟩ := hT.slots
  have hc := clone_any bs 0 es.length C (flat es) w (by rw [flat_length]; omega) (by rw [hI.len]; exact hI.n_le) (fun j u hu => by rw [Nat.zero_add, hS.cell, List.getElem?_append_left (by have := (List.getElem?_eq_some_iff.1 hu).1; exact this)]; exact hu) (flat_one es)
  clear hT hI hS
  go_enter Try.func50, Try.ntmps50
  go_wp2_with (first | (go_at_call 61; refine (made_any _ _ _ _ _ c0 hl).mono ?_; rintro e w' ⟨rfl, rfl⟩) | (go_at_call 62; refine hc.mono ?_; rintro e w' ⟨v, rfl, hv, ho, hk⟩))
  go_ret
  exact ⟨v, rfl, hv, ho, hk⟩

theorem fork_any (bt bs bits most n : Nat) (es L : List Ent) (w : World) (hT : Tab w bt bs bits most es n) (hI : TInv bits most es L) :
    Calls Try.prog 42 #[.pointer (some ⟨bt, 0, none⟩)] w fun e w' => ∃ bt' bs', e = .returned (.pointer (some ⟨bt', 0, none⟩)) ∧ w.heap.size ≤ bt' ∧ w.heap.size ≤ bs' ∧ Tab w' bt' bs' bits most es n ∧ Keep No w w' := by
  have H0 := hid hT
  obtain ⟨C, hC, hC2, c0, c1, c2, c3⟩ := hT.cells
  have hl : 0 < es.length := by rw [hI.len]; have := hI.n_pos; omega
  obtain ⟨xs, hS⟩ := hT.slots
  have hc : ∀ W, Keep No w W → Calls Try.prog 62 #[.slice (some ⟨bs, 0, none⟩) es.length C] W fun e w' => ∃ v, e = .returned v ∧ v ≠ .slice none 0 0 ∧ w'.ownsRow W.heap.size 27 4 v es.length (flat es) ∧ Keep No W w' := fun W hW =>
    clone_any bs 0 es.length C (flat es) W (by rw [flat_length]; omega) (by rw [hI.len]; exact hI.n_le) (fun j u hu => by rw [Nat.zero_add, (hS.mod hW (no _)).cell, List.getElem?_append_left (by have := (List.getElem?_eq_some_iff.1 hu).1; exact this)]; exact hu) (flat_one es)
  have hz := hT.lt.1
  clear hT hI hS
  go_enter Try.func42, Try.ntmps42
  go_wp2_with (first | (go_at_call 61; refine (made_any _ _ _ _ _ c0 hl).mono ?_; rintro e w' ⟨rfl, rfl⟩) | (go_at_call 62; refine (hc _ ((Keep.refl _ _).alloc _)).mono ?_; rintro e w' ⟨v, rfl, hv, ho, hk⟩; obtain ⟨g, cap, rest, rfl, hg1, hg2, hg3, hgb, hgl⟩ := own_blk ho hv; have hBx := (Blk.new' (w := w) (cl := [.slice (some ⟨bs, 0, none⟩) es.length C, .int .i64 bits, .int .i64 most, .int .i64 n]) 90 rfl).mod hk (no _); obtain ⟨z0, b0, b1, b2, b3, bf⟩ := hBx.four; have HBx := hid hBx; have HGB := hid hgb; have HK := hid hk; have HGL := hid hgl; clear hBx hgb hk hgl ho hv))
  go_ret
  have hgg : w.heap.size < g := by simp at hg1; omega
  exact ⟨w.heap.size, g, rfl, Nat.le_refl _, by omega, ⟨⟨cap, hg2, Nat.zero_le _, HBx.out.set 0 _⟩, ⟨rest, HGB.out.other _ _ (by simp; omega)⟩, by omega⟩, (((Keep.refl No w).alloc _).trans HK.out (fun _ _ h => h)).setCell _ _ (fun h => absurd h (Nat.lt_irrefl _))⟩

theorem fork_nil (w : World) : Calls Try.prog 42 #[.pointer none] w fun e w' => e = .returned (.pointer none) ∧ w = w' := by
  go_enter Try.func42, Try.ntmps42
  go_wp2_with (go_at_call 61; refine (made_nil _).mono ?_; rintro e w' ⟨rfl, rfl⟩)
  go_ret
  exact ⟨rfl, rfl⟩
theorem layout_nil (w : World) : Calls Try.prog 50 #[.pointer none] w fun e w' => e = .returned (.slice none 0 0) ∧ w = w' := by
  go_enter Try.func50, Try.ntmps50
  go_wp2_with (go_at_call 61; refine (made_nil _).mono ?_; rintro e w' ⟨rfl, rfl⟩)
  go_ret
  exact ⟨rfl, rfl⟩

/-- what New refuses -/
def badB (bits most : Int) : Prop := bits < 2 ∨ most < bits ∨ 16 < most
theorem new_bad (bits most : Int) (w : World) (h : badB bits most) :
    Calls Try.prog 58 #[.int .i64 bits, .int .i64 most] w fun e w' => e = .returned (.tuple #[.pointer none, .int .i64 110]) ∧ w = w' := by
  have h' : decide (bits < 2) = true ∨ decide (bits < 2) = false ∧ (decide (most < bits) = true ∨ decide (most < bits) = false ∧ decide (16 < most) = true) := by
    unfold badB at h
    simp
    omega
  clear h
  rcases h' with h | ⟨h, h1 | ⟨h1, h2⟩⟩
  all_goals
    go_enter Try.func58, Try.ntmps58
    go_wp2
    go_ret2
    exact ⟨rfl, rfl⟩

theorem rh_zero {bits N : Nat} : RH bits N (List.replicate N z) := by
  intro i hi
  have : ∀ j, (gt (List.replicate N z) j).full = false := by
    intro j
    unfold gt
    rw [List.getD_eq_getElem?_getD, List.getElem?_replicate]
    split <;> rfl
  rw [dd_eq, dd_eq, ddOf, ddOf, this, this]
  simp
theorem there_zero (N : Nat) : there (List.replicate N z) = [] := by
  unfold there
  rw [List.filter_eq_nil_iff]
  intro a ha
  rw [(List.mem_replicate.1 ha).2]
  decide
theorem tinv_new {bits most : Nat} (hb : 2 ≤ bits) (hm : bits ≤ most) (h16 : most ≤ 16) : TInv bits most (List.replicate (2 ^ bits) z) [] :=
  ⟨hb, hm, h16, by simp, rh_zero, by rw [there_zero], List.Pairwise.nil, by simp, by simp⟩
theorem flat_zero (N : Nat) : flat (List.replicate N z) = (List.replicate N [Value.int .u64 0, .int .u64 0, .int .u64 0, .int .u8 0]).flatten := by
  unfold flat
  rw [List.flatMap_def, List.map_replicate]
  rfl

theorem make_entries (N : Nat) (hN : N ≤ 131072) (W : World) : (Instr.makeSlice 39 (.int .i64 (N : Int)) (.int .i64 (N : Int))).run Try.prog W = .ok (.slice (some ⟨W.heap.size, 0, none⟩) N N) (W.alloc (.cells (madeCells #[.int .u64 0, .int .u64 0, .int .u64 0, .int .u8 0] (N * 4)) 27)) := by
  obtain ⟨i0, hi, hz0, hz1, hz2⟩ := info_parts info27
  have := run_make W 39 27 i0 zE Try.underlying39 hi hz0 .i64 .i64 N N (by omega) (by omega) (by rw [hz2]; omega) (by omega)
  rw [this, hz1]
  rfl
theorem made_flat (N : Nat) : madeCells #[.int .u64 0, .int .u64 0, .int .u64 0, .int .u8 0] (N * 4) = (flat (List.replicate N z)).toArray := by
  apply Array.toList_inj.1
  unfold madeCells
  rw [Array.toList_map, Array.toList_range]
  show _ = flat (List.replicate N z)
  induction N with
  | zero => rfl
  | succ N ih =>
    rw [List.replicate_succ', show (N + 1) * 4 = N * 4 + 4 by omega, List.range_add, List.map_append, ih]
    unfold flat
    rw [List.flatMap_append]
    congr 1
    simp only [List.range_succ, List.range_zero, List.nil_append, List.map_cons, List.map_nil, List.cons_append, List.flatMap_cons, List.flatMap_nil, List.append_nil]
    have h0 : (N * 4 + 0) % 4 = 0 := by omega
    have h1 : (N * 4 + 1) % 4 = 1 := by omega
    have h2 : (N * 4 + 2) % 4 = 2 := by omega
    have h3 : (N * 4 + 3) % 4 = 3 := by omega
    show [(#[Value.int .u64 0, .int .u64 0, .int .u64 0, .int .u8 0] : Array Value)[(N * 4 + 0) % 4]!, (#[Value.int .u64 0, .int .u64 0, .int .u64 0, .int .u8 0] : Array Value)[(N * 4 + 1) % 4]!, (#[Value.int .u64 0, .int .u64 0, .int .u64 0, .int .u8 0] : Array Value)[(N * 4 + 2) % 4]!, (#[Value.int .u64 0, .int .u64 0, .int .u64 0, .int .u8 0] : Array Value)[(N * 4 + 3) % 4]!] = _
    rw [h0, h1, h2, h3]
    rfl

set_option maxRecDepth 100000 in
theorem new_any (bits most : Nat) (w : World) (hb : 2 ≤ bits) (hm : bits ≤ most) (h16 : most ≤ 16) :
    Calls Try.prog 58 #[.int .i64 bits, .int .i64 most] w fun e w' => ∃ bt bs, e = .returned (.tuple #[.pointer (some ⟨bt, 0, none⟩), .int .i64 0]) ∧ w.heap.size ≤ bt ∧ w.heap.size ≤ bs ∧ Tab w' bt bs bits most (List.replicate (2 ^ bits) z) 0 ∧ Keep No w w' := by
  have h1 : decide ((bits : Int) < 2) = false := by simp; omega
  have h2 : decide ((most : Int) < (bits : Int)) = false := by simp; omega
  have h3 : decide ((16 : Int) < (most : Int)) = false := by simp; omega
  have h4 := pow_le16 (Nat.le_trans hm h16)
  have h5 : wrap64 (2 ^ bits) = ((2 ^ bits : Nat) : Int) := by
    rw [show (2 : Int) ^ bits = ((2 ^ bits : Nat) : Int) by simp]
    generalize 2 ^ bits = m at h4 ⊢
    unfold wrap64
    omega
  have h6 : ∀ W : World, (Instr.makeSlice 39 (.int .i64 (wrap64 (2 ^ bits))) (.int .i64 (wrap64 (2 ^ bits)))).run Try.prog W = .ok (.slice (some ⟨W.heap.size, 0, none⟩) (2 ^ bits) (2 ^ bits)) (W.alloc (.cells (madeCells #[.int .u64 0, .int .u64 0, .int .u64 0, .int .u8 0] (2 ^ bits * 4)) 27)) := fun W => by rw [h5]; exact make_entries (2 ^ bits) (by omega) W
  clear h5
  generalize (2 : Nat) ^ bits = N at *
  rw [made_flat] at h6
  have hF := flat_length (List.replicate N z)
  rw [List.length_replicate] at hF
  have hl : (List.replicate N z).length = N := List.length_replicate
  have HL := hid hl
  clear hl hF h4
  generalize List.replicate N z = es at *
  go_enter Try.func58, Try.ntmps58
  go_wp2
  go_ret2
  refine ⟨w.heap.size + 1, w.heap.size, rfl, by omega, Nat.le_refl _, ⟨⟨N, by rw [HL.out]; exact Nat.le_refl _, Nat.zero_le _, ?_⟩, ⟨[], ?_⟩, by omega⟩, ((Keep.refl _ _).alloc _).alloc _⟩
  · have h7 : w.heap.size + 1 = (w.alloc (.cells (flat es).toArray 27)).heap.size := by simp
    rw [h7, HL.out]
    exact Blk.new' _ rfl
  · rw [List.append_nil]
    exact (Blk.new' _ rfl).alloc _
end Go.Proofs.Ytaijfgajcmopfaa.W4
