import Derived.Test.YtaijfgajcmopfaaX2
/- New. -/
set_option linter.unusedVariables false
namespace Go.Proofs.Ytaijfgajcmopfaa.X3
open Go.RowKit Go.Shelf V Rh T W1 W2 W3 W4 W6 Rf X1 X2

theorem info70 : (Try.prog.info? 70).map (fun i => (i.zero, i.size, i.bytes)) = some (some (.pointer none), 1, 8) := by kernel_rfl

/-- an index half made: its head at 'bx', the row in 'v' -/
structure Making (w wr : World) (bx : Nat) (v : Value) (bts bss : List Nat) (most k : Nat) (Ls : List (List Ent)) : Prop where
  head : Blk wr bx [v] 58
  row : wr.ownsRow (bx + 1) 70 1 v k (bts.map ptr)
  len1 : bts.length = k
  len2 : bss.length = k
  tabs : ∀ i, i < k → Is wr (bts.getD i 0) (bss.getD i 0) most (Ls.getD i [])
  apart : (bts ++ bss).Nodup
  off : ∀ j, j ∈ bts ++ bss → v.ownBlock ≠ some j ∧ bx < j
  keep : Keep No w wr
  new : w.heap.size ≤ bx

theorem Making.lt {w wr : World} {bx : Nat} {v : Value} {bts bss : List Nat} {most k : Nat} {Ls : List (List Ent)} (h : Making w wr bx v bts bss most k Ls) : ∀ j, j ∈ bts ++ bss → j < wr.heap.size := by
  intro j hj
  rcases List.mem_append.1 hj with hj | hj
  · obtain ⟨i, hi, rfl⟩ := List.getElem_of_mem hj
    have := (is_lt (h.tabs i (by rw [← h.len1]; exact hi))).1
    simpa [hi] using this
  · obtain ⟨i, hi, rfl⟩ := List.getElem_of_mem hj
    have := (is_lt (h.tabs i (by rw [← h.len2]; exact hi))).2
    simpa [hi] using this

/-- one table more -/
theorem Making.push {w wr wm wn : World} {bx : Nat} {v v' : Value} {bts bss : List Nat} {most k bt bs : Nat} {Ls : List (List Ent)} (h : Making w wr bx v bts bss most k Ls) (hm : Keep No wr wm) (h1 : wr.heap.size ≤ bt) (h2 : wr.heap.size ≤ bs)
    (hne : bt ≠ bs) (hi : Is wm bt bs most (Ls.getD k [])) (hg : wm.grownBy wn v.ownBlock) (ho : wn.ownsRow (bx + 1) 70 1 v' (k + 1) (bts.map ptr ++ [ptr bt])) (hv : v'.ownBlock = v.ownBlock ∨ ∃ q, v'.ownBlock = some q ∧ wm.heap.size ≤ q) :
    Making w (wn.setCell ⟨bx, 0, none⟩ v') bx v' (bts ++ [bt]) (bss ++ [bs]) most (k + 1) Ls := by
  have hlt := h.lt
  have hbx : bx < wr.heap.size := h.head.lt
  have hbx2 : bx < wm.heap.size := Nat.lt_of_lt_of_le hbx hm.size
  have hrow := h.row.lt
  obtain ⟨hi1, hi2⟩ := is_lt hi
  have hold : v.ownBlock ≠ some bt ∧ v.ownBlock ≠ some bs := ⟨fun e => by have := hrow _ e; omega, fun e => by have := hrow _ e; omega⟩
  have hoffv : ∀ j, j ∈ (bts ++ [bt]) ++ (bss ++ [bs]) → v.ownBlock ≠ some j ∧ bx < j ∧ j < wm.heap.size := by
    intro j hj
    simp only [List.mem_append, List.mem_singleton] at hj
    have hs := hm.size
    rcases hj with (hj | rfl) | (hj | rfl)
    · exact ⟨(h.off j (List.mem_append_left _ hj)).1, (h.off j (List.mem_append_left _ hj)).2, Nat.lt_of_lt_of_le (hlt j (List.mem_append_left _ hj)) hs⟩
    · exact ⟨hold.1, by omega, hi1⟩
    · exact ⟨(h.off j (List.mem_append_right _ hj)).1, (h.off j (List.mem_append_right _ hj)).2, Nat.lt_of_lt_of_le (hlt j (List.mem_append_right _ hj)) hs⟩
    · exact ⟨hold.2, by omega, hi2⟩
  have hk0 : Keep (fun j => v.ownBlock = some j) wm wn := (Keep.refl _ wm).grown hg (fun k e _ => e)
  have hk1 : Keep (fun j => v.ownBlock = some j ∨ j = bx) wm (wn.setCell ⟨bx, 0, none⟩ v') := (hk0.mono (fun _ _ e => .inl e)).setCell _ _ (fun _ => .inr rfl)
  have hnot : ∀ j, j ∈ (bts ++ [bt]) ++ (bss ++ [bs]) → ¬ (v.ownBlock = some j ∨ j = bx) := fun j hj e => by
    have := hoffv j hj
    rcases e with e | e
    · exact this.1 e
    · omega
  have hvbx : v.ownBlock ≠ some bx := fun e => by have := (hrow _ e).1; omega
  refine ⟨?_, ?_, by simp [h.len1], by simp [h.len2], ?_, ?_, ?_, ?_, h.new⟩
  · exact ((h.head.mod hm (no _)).mod hk0 hvbx).set 0 v'
  · have hkk : Keep (fun j => j = bx) wn (wn.setCell ⟨bx, 0, none⟩ v') := (Keep.refl _ _).setCell _ _ (fun _ => rfl)
    rw [List.map_append]
    refine own_keep ho hkk (fun g hg' e => ?_)
    have := (ho.lt g hg').1
    omega
  · intro i hi'
    by_cases hik : i = k
    · subst hik
      have e1 : (bts ++ [bt]).getD i 0 = bt := by simp [← h.len1]
      have e2 : (bss ++ [bs]).getD i 0 = bs := by simp [← h.len2]
      rw [e1, e2]
      exact is_keep hi hk1 (hnot _ (by simp)) (hnot _ (by simp))
    · have hik' : i < k := by omega
      have l1 : i < bts.length := by rw [h.len1]; exact hik'
      have l2 : i < bss.length := by rw [h.len2]; exact hik'
      have e1 : (bts ++ [bt]).getD i 0 = bts.getD i 0 := by simp [List.getD_eq_getElem?_getD, List.getElem?_append_left l1]
      have e2 : (bss ++ [bs]).getD i 0 = bss.getD i 0 := by simp [List.getD_eq_getElem?_getD, List.getElem?_append_left l2]
      rw [e1, e2]
      exact is_keep (is_keep (h.tabs i hik') hm (no _) (no _)) hk1 (hnot _ (by simp only [List.mem_append]; exact .inl (.inl (getD_mem l1)))) (hnot _ (by simp only [List.mem_append]; exact .inr (.inl (getD_mem l2))))
  · have ha := h.apart
    simp only [List.nodup_append, List.nodup_cons, List.mem_append, List.mem_singleton, List.not_mem_nil, not_false_eq_true, List.nodup_nil, and_true, true_and] at ha ⊢
    obtain ⟨a1, a2, a3⟩ := ha
    have b1 : ∀ j, j ∈ bts ∨ j ∈ bss → j ≠ bt ∧ j ≠ bs := fun j hj => by
      have := hlt j (List.mem_append.2 hj)
      omega
    refine ⟨⟨a1, fun a ha b hb => ?_⟩, ⟨a2, fun a ha b hb => ?_⟩, ?_⟩
    · rw [hb]; exact (b1 a (.inl ha)).1
    · rw [hb]; exact (b1 a (.inr ha)).2
    · rintro a (ha | rfl) b (hb | rfl)
      · exact a3 a ha b hb
      · exact (b1 a (.inl ha)).2
      · exact fun e => (b1 b (.inr hb)).1 e.symm
      · exact hne
  · intro j hj
    have := hoffv j hj
    refine ⟨fun e => ?_, this.2.1⟩
    rcases hv with hv | ⟨q, hq, hq2⟩
    · rw [hv] at e; exact this.1 e
    · rw [hq] at e
      have : q = j := by simpa using e
      omega
  · refine h.keep.trans ((hm.mono (S' := fun j => v.ownBlock = some j ∨ j = bx) (fun _ _ e => e.elim)).trans hk1 (fun _ _ e => e)) (fun i hi' e => ?_)
    rcases e with e | rfl
    · have := (hrow _ e).1; have := h.new; omega
    · have := h.new; omega

theorem Making.idx {w wr : World} {bx : Nat} {v : Value} {bts bss : List Nat} {most k : Nat} {Ls : List (List Ent)} (h : Making w wr bx v bts bss most k Ls) (hk : k = Ls.length) (h1 : 1 ≤ k) (h64 : k ≤ 64) (hv : v ≠ .slice none 0 0) :
    ∃ bl, Idx wr bx bl bts bss most Ls ∧ ∀ j, Foot bx bl bts bss j → w.heap.size ≤ j := by
  obtain ⟨g, cap, rest, rfl, hb, hn, hc, hB, hL⟩ := own_blk h.row hv
  have hnew := h.new
  refine ⟨g, ⟨⟨cap, by rw [← hk]; exact h.head⟩, ⟨rest, hB⟩, by rw [h.len1, hk], by rw [h.len2, hk], by omega, by omega, fun i hi => h.tabs i (by omega), ?_⟩, ?_⟩
  · refine List.nodup_cons.2 ⟨?_, List.nodup_cons.2 ⟨fun hm => ?_, h.apart⟩⟩
    · intro hm
      rcases List.mem_cons.1 hm with e | hm
      · omega
      · have := (h.off _ hm).2; omega
    · exact (h.off _ hm).1 rfl
  · intro j hj
    unfold Foot at hj
    rcases List.mem_cons.1 hj with rfl | hj
    · exact hnew
    · rcases List.mem_cons.1 hj with rfl | hj
      · omega
      · have := (h.off _ hj).2; omega

set_option maxHeartbeats 400000 in
theorem new_arg (n bits most : Int) (w : World) (h : n < 1 ∨ 64 < n) :
    Calls Try.prog 30 #[.int .i64 n, .int .i64 bits, .int .i64 most] w fun e w' => e = .returned (.tuple #[.pointer none, .int .i64 1]) ∧ w = w' := by
  have h' : decide (n < 1) = true ∨ decide (n < 1) = false ∧ decide (64 < n) = true := by simp; omega
  clear h
  rcases h' with h | ⟨h, h2⟩
  all_goals
    go_enter Try.func30, Try.ntmps30
    go_wp2
    go_ret2
    exact ⟨rfl, rfl⟩

set_option maxHeartbeats 400000 in
theorem new_bits (n bits most : Int) (w : World) (h1 : 1 ≤ n) (h2 : n ≤ 64) (h : badB bits most) :
    Calls Try.prog 30 #[.int .i64 n, .int .i64 bits, .int .i64 most] w fun e w' => e = .returned (.tuple #[.pointer none, .int .i64 110]) ∧ Keep No w w' := by
  have g1 : decide (n < 1) = false := by simp; omega
  have g2 : decide (64 < n) = false := by simp; omega
  have g3 : decide (0 < n) = true := by simp; omega
  have hb : ∀ W, _ := fun W => new_bad bits most W h
  clear h
  go_enter Try.func30, Try.ntmps30
  go_wp2
  refine wp_loop_rounds 1 ?_
  rw [rounds_succ]
  go_wp2_with (go_at_call 58; refine (hb _).mono ?_; rintro e w' ⟨rfl, rfl⟩)
  go_ret2
  exact ⟨rfl, (Keep.refl _ _).alloc _⟩

theorem is_new {w : World} {bt bs bits most : Nat} (h : Tab w bt bs bits most (List.replicate (2 ^ bits) z) 0) (hb : 2 ≤ bits) (hm : bits ≤ most) (h16 : most ≤ 16) : Is w bt bs most [] := ⟨bits, _, h, tinv_new hb hm h16⟩

set_option maxRecDepth 100000 in
set_option maxHeartbeats 1000000 in
theorem new_any (n bits most : Nat) (w : World) (h1 : 1 ≤ n) (h2 : n ≤ 64) (hb : 2 ≤ bits) (hm : bits ≤ most) (h16 : most ≤ 16) :
    Calls Try.prog 30 #[.int .i64 n, .int .i64 bits, .int .i64 most] w fun e w' => ∃ bx, e = .returned (.tuple #[ptr bx, .int .i64 0]) ∧ ∃ bl bts bss, Idx w' bx bl bts bss most (List.replicate n []) ∧ (∀ j, Foot bx bl bts bss j → w.heap.size ≤ j) ∧ Keep No w w' := by
  have g1 : decide ((n : Int) < 1) = false := by simp; omega
  have g2 : decide ((64 : Int) < n) = false := by simp; omega
  have hnew : ∀ W, _ := fun W => W4.new_any bits most W hb hm h16
  have HIN : Hid (∀ (w : World) (bt bs : Nat), Tab w bt bs bits most (List.replicate (2 ^ bits) z) 0 → Is w bt bs most []) := fun w bt bs h => is_new h hb hm h16
  have H1 := hid h1
  have H2 := hid h2
  clear h1 h2 hb hm h16
  have hmk : Making w (w.alloc (.cells #[.slice none 0 0] 58)) w.heap.size (.slice none 0 0) [] [] most 0 (List.replicate n []) :=
    ⟨Blk.new' _ rfl, World.ownsRow_nil _ _ _ _, rfl, rfl, fun i hi => absurd hi (by omega), List.nodup_nil, fun j hj => by simp at hj, (Keep.refl _ _).alloc _, Nat.le_refl _⟩
  have HMK := hid hmk
  clear hmk
  obtain ⟨i0, hi, hz0, hz1, hz2⟩ := info_parts info70
  go_enter Try.func30, Try.ntmps30
  go_wp2
  go_loopw [20] (fun i wr => ∃ (k : Nat) (v : Value) (bts bss : List Nat), i = .int .i64 k ∧ k ≤ n ∧ Hid (Making w wr w.heap.size v bts bss most k (List.replicate n []) ∧ (k = 0 ∨ v ≠ .slice none 0 0))) (fun i wr => n - (intOf i).toNat)
  case atStart => exact ⟨0, _, [], [], rfl, Nat.zero_le _, HMK.out, .inl rfl⟩
  case round =>
    obtain ⟨k, v, bts, bss, rfl, hkn, HM⟩ := hrel
    obtain ⟨z0, c0, f0⟩ := HM.out.1.head.one
    by_cases hk : k < n
    · have hk' : (k : Int) < n := by omega
      go_wp2_with (first | (go_at_call 58; refine (hnew _).mono ?_; rintro e w1 ⟨bt, bs, rfl, hbt, hbs, hT, hk1⟩; have HK := hid hk1; have HT := hid hT; have HBT := hid hbt; have HBS := hid hbs; obtain ⟨z1, c1, f1⟩ := (HM.out.1.head.mod hk1 (no _)).one; clear hk1 hT hbt hbs) | (at_builtin; refine wpList_append_own_at _ rfl (.tmp 35) (.tmp 37) 56 rfl (w.heap.size + 1) 70 i0 (.pointer none) 1 8 Try.underlying56 hi hz0 hz1 hz2 rfl (by decide) v k (bts.map ptr) rfl ((own_keep HM.out.1.row HK.out (fun _ _ => no _)).alloc (.cells #[ptr bt] 70)) ⟨w1.heap.size, 0, none⟩ 1 1 [ptr bt] rfl rfl ?c0 ?c1 ?c2 ?c3 ?c4 ?c5))
      case c0 => intro j u hu; rw [add_at, Nat.zero_add]; exact ((Blk.new' (cl := [ptr bt]) 70 rfl : Blk (w1.alloc _) w1.heap.size _ _).cell j).trans hu
      case c1 => intro u hu; simp only [List.mem_singleton] at hu; subst hu; rfl
      case c2 => have := H2.out; unfold maxLen; omega
      case c3 => have := H2.out; omega
      case c4 => simp; omega
      case c5 =>
        intro v' w2 h1 h2 h3 h4
        have hkg : Keep (fun j => v.ownBlock = some j) (w1.alloc (.cells #[ptr bt] 70)) w2 := (Keep.refl _ _).grown h2 (fun k e _ => e)
        have hbx : v.ownBlock ≠ some w.heap.size := fun e => by have := (HM.out.1.row.lt _ e).1; omega
        obtain ⟨z2, c2, f2⟩ := ((((HM.out.1.head.mod HK.out (no _)).alloc (.cells #[ptr bt] 70)).mod hkg hbx)).one
        have hT2 := HIN.out _ _ _ (HT.out.alloc (.cells #[ptr bt] 70))
        have hne : bt ≠ bs := HT.out.ne
        have hfin := hid (HM.out.1.push (HK.out.alloc (.cells #[ptr bt] 70)) HBT.out HBS.out hne (by simpa [hk] using hT2) h2 h1 (by rcases h4 with h4 | h4; exact .inl h4; exact .inr ⟨_, h4, by simp⟩))
        obtain ⟨g, cap, rest, rfl, _⟩ := own_blk h1 h3
        clear h1 h2 h3 h4 hkg hT2
        go_wp2
        refine ⟨⟨k + 1, _, _, _, ?_, by omega, hfin.out, .inr (fun e => ?_)⟩, by simp [intOf]; omega⟩
        · go_num
        · cases e
    · have hk' : ¬ ((k : Int) < n) := by omega
      go_wp2
      go_ret2
      obtain ⟨hm, hv⟩ := HM.out
      obtain rfl : k = n := by omega
      obtain ⟨bl, hX, hF⟩ := hm.idx (by simp) H1.out H2.out (hv.resolve_left (by have := H1.out; omega))
      exact ⟨_, rfl, bl, bts, bss, hX, hF, hm.keep⟩
end Go.Proofs.Ytaijfgajcmopfaa.X3
